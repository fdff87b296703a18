/- TopSplit, part 9 of 12: a proof squeezed by a program. -/
import Derived.Test.YtgnhecmnlddjhaaGreatZ07
import Derived.Maps.RangeWalk
set_option linter.all false
set_option maxRecDepth 100000
set_option maxHeartbeats 6400000
namespace Go.Proofs.YtgnhecmnlddjhaaGreat
open Go.RowKit Go.Proofs.Tryz
variable{E:Who}{K:KS}{S S':KN}{a e g gi j k m n s x:Nat}{b:List Rq}{d:sI}{f z:Int}{ps:LI}{w w':World}{ys:LV}
abbrev bK.agL(d:bK):bK:={d with c0:=d.c0+1}
abbrev bK.agM(d:bK):bK:={d with c2:=d.c2+1}
theorem MF.Wd{d:MD}{cs:AV}(h:MF x w d)(b:Only [g] w w')(H:aZ w g 82 cs):MF x w' d:=h.only b (fun k a=>by simp only[au] at a;subst a;exact nV.of H aV) (Nr.of H aV)
theorem MX{m:Ms}(h:yI E m S=some (S',z)):S'.2.c0=S.2.c0/\S'.2.c2=S.2.c2:=by unfold yI at h;simp only[aK,aM] at h;obtain⟨u,_,h,_⟩:=h;rw[<-h];exact⟨rfl,rfl⟩
theorem Fy{kind:Int}(h:vL E kind k j b S=some S'):S'.2.c0=S.2.c0/\S'.2.c2=S.2.c2:=by unfold vL at h;simp only[aA] at h;obtain⟨⟨r,z⟩,H,i,_,h⟩:=h;have:=MX H;split at h<;>simp only[aK] at h<;>obtain⟨u,_,h⟩:=h<;>rw[<-h]<;>exact this
theorem UC{c t r:Int}(h:Cz E c t r S=some S'):S'.2.c0=S.2.c0/\S'.2.c2=S.2.c2:=by unfold Cz at h;simp only[aK] at h;obtain⟨u,_,h⟩:=h;rw[<-h];exact⟨rfl,rfl⟩
theorem aaM: ∀{l:List CY} {S S':KN},rG E l S=some S'->S'.2.c0=S.2.c0/\S'.2.c2=S.2.c2
 | [],S,S',h=>by rw[rG] at h;injection h with h;rw[h];exact⟨rfl,rfl⟩
 |e::l,S,S',h=>by rw[rG] at h;simp only[aA] at h;obtain⟨S1,h1,h2⟩:=h;have a:=UC h1;have b:=aaM h2;exact⟨b.1.trans a.1,b.2.trans a.2⟩
theorem LU: ∀{fuel:Nat} {S S':KN},wS E fuel S=some S'->S'.2.c0=S.2.c0/\S'.2.c2=S.2.c2
 |0,S,S',h=>by rw[wS] at h;simp only[aA,aK] at h;obtain⟨_,_,_,_,h⟩:=h;rw[h];exact⟨rfl,rfl⟩
 |fuel+1,S,S',h=>by
  rw[wS] at h;simp only[aA] at h;obtain⟨i,_,h⟩:=h;split at h
  ·injection h with h
   rw[h];exact⟨rfl,rfl⟩
  simp only[aA] at h;obtain⟨c,_,S1,h1,h2⟩:=h;have b:=LU h2;unfold Yx at h1;simp only[aA] at h1;obtain⟨_,_,h1⟩:=h1;have a:=aaM h1;exact⟨b.1.trans a.1,b.2.trans a.2⟩
theorem aaf(h:NC E k b S=some S'):S'.2.c0=S.2.c0/\S'.2.c2=S.2.c2:=by
 unfold NC at h;simp only[aA] at h;obtain⟨_,_,g,_,h⟩:=h;split at h
 ·simp only[aA,aK] at h
  obtain⟨s,H,_,_,h⟩:=h;rw[<-h];have q:=LU H;exact q
 injection h with h;rw[<-h];exact⟨rfl,rfl⟩
theorem Mv(h:lH E k j S=some S'):S'.2.c0=S.2.c0/\S'.2.c2=S.2.c2:=by
 unfold lH at h;simp only[aA] at h;obtain⟨s,H,c⟩:=h;have a:s.2.c0=S.2.c0/\s.2.c2=S.2.c2:=by
  unfold QY at H;simp only[aA] at H;obtain⟨i,_,_,_,H⟩:=H;split at H
  ·injection H with H
   rw[H];exact⟨rfl,rfl⟩
  split at H
  ·injection H with H
   rw[H];exact⟨rfl,rfl⟩
  have q:=Fy H;exact q
 have b:S'.2.c0=s.2.c0/\S'.2.c2=s.2.c2:=by
  unfold Fz at c;simp only[aA] at c;obtain⟨i,_,_,_,c⟩:=c;split at c
  ·injection c with c
   rw[c];exact⟨rfl,rfl⟩
  split at c
  ·injection c with c
   rw[c];exact⟨rfl,rfl⟩
  have q:=aaf c;exact q
 exact⟨b.1.trans a.1,b.2.trans a.2⟩
theorem ZI(h:Nu E k j S=some S'):S'.2.c0=S.2.c0/\S'.2.c2=S.2.c2:=by unfold Nu at h;simp only[aA] at h;obtain⟨_,_,_,_,s,H,c⟩:=h;have a:=Fy H;have b:=Mv c;exact⟨b.1.trans a.1,b.2.trans a.2⟩
theorem YC{M:Ms}{a:Kj}(h:sP E M z S=some (S',a)):S'.2.c0=S.2.c0/\S'.2.c2=S.2.c2:=by
 unfold sP at h;split at h
 ·split at h
  ·unfold JE at h
   simp only[aA] at h;obtain⟨_,_,e,_,h⟩:=h;split at h
   ·simp only[aD,aM] at h
    rw[<-h.1];exact⟨rfl,rfl⟩
   simp only[aA] at h;obtain⟨f,_,s,H,h⟩:=h;have b:s.2.c0=S.2.c0/\s.2.c2=S.2.c2:=by
    split at H
    ·injection H with H
     rw[H];exact⟨rfl,rfl⟩
    simp only[aA] at H;obtain⟨T,_,H⟩:=H;unfold Jy at H;simp only[aK] at H;obtain⟨⟨q,z⟩,H,rfl⟩:=H;have q:=MX H;exact q
   split at h
   ·simp only[aK,aM] at h
    obtain⟨_,_,h,_⟩:=h;rw[<-h];exact b
   split at h
   ·simp only[aD,aM] at h
    rw[<-h.1];exact b
   cases h
  cases h
 split at h
 ·unfold ppV at h
  simp only[aA,aK,aM] at h;obtain⟨_,_,s,H,d,c,rfl,_⟩:=h;have b:=ZI c;unfold Oz at H;simp only[aA,aK] at H;obtain⟨_,_,_,_,rfl⟩:=H;exact b
 split at h
 ·unfold AU at h
  simp only[aA] at h;obtain⟨_,_,i,_,h⟩:=h;split at h<;>simp only[aA] at h<;>obtain⟨_,_,h⟩:=h<;>split at h
  all_goals first
   |(simp only[aK,aM] at h;obtain⟨d,c,rfl,_⟩:=h;have q:=Mv c;exact q)
   |(simp only[aD,aM] at h;obtain⟨rfl,_⟩:=h;exact⟨rfl,rfl⟩)
 split at h
 ·split at h
  ·unfold Cw at h
   simp only[aA] at h;obtain⟨_,_,i,_,h⟩:=h;split at h
   ·simp only[aD,aM] at h
    rw[<-h.1];exact⟨rfl,rfl⟩
   simp only[aK,aM] at h;obtain⟨d,c,rfl,_⟩:=h;have q:=aaf c;exact q
  cases h
 cases h
theorem aea(x:Nat)(w:World)(E:Who)(gx b:Nat)(d:bK)(K:KS)(h:qE x w E.f E.n E.id gx b d K)(hx:x<w.heap.size)(h1:1<=E.f)(h4:E.f<=4)(hn:(E.n:Int)=3*E.f+1)(j0:E.id<E.n)(src:Int)(A:OA)(m c:Nat)(u0:m<=c)(I:LI)(hv:gD w A m 1 (mZ I))(h0:I.length=m)(M:Ms)(z:Int)(K':KS)(v':ql)(hr:JD E M z I (K,d.val)=some (K',v')):
  Y 87 #[gx,U src,.slice A m c] w fun e w'=>e= .returned (.tuple #[])/\Kt x w w' E gx b d K K' v':=by
 unfold JD at hr;simp only[aA,aK,aM] at hr;obtain⟨u,hu,⟨⟨K1,v1⟩,an⟩,l0,rfl,m0⟩:=hr;have R:=mI hu;have a0:d.stopped=false:=R.stop;have O:=F9 (∀u,Be w u->Y 119 #[.slice A m c,U E.f,U 2,d.nn] u fun e w'=> ∃d:MD,e= .returned (.tuple #[.agg (oM d).toArray,U z,U 0])/\nA d=M/\MF x w' d/\Be u w') fun u hb=>abt u d.nn b K (h.below hb).Pt E.f 2 A m c I M z R.z40 R.ab2 R.bytes h0 (tL R.len) u0 (hv.below hb) x (aB hx hb.size) fun w' dd e hi=>aas h1 h4 R.form w' dd e hi;obtain⟨H,HX,r0,q0,RF,f0⟩:=j6 h hx hn j0 R l0;have g0:=jj m0;clear h hx hn j0 R l0 m0 hv h0 hu;have KS:=F9 (∀u,Be w u->J u gx 33 false/\J u gx 21 d.gg/\J u gx 17 d.gt/\J u gx 0 (U E.f)/\J u gx 1 (U 2)/\J u gx 16 d.nn) fun u o=>by have hh:=H.below o;exact⟨by rw[<-a0];exact hh.blk.cell 33,hh.blk.cell 21,hh.blk.cell 17,hh.blk.cell 0,hh.blk.cell 1,hh.blk.cell 16⟩
 go_enter func87,ntmps87;go_upto_region 0 with fail;refine rD (fun u=>J u gx 33 false/\J u gx 21 d.gg/\J u gx 17 d.gt/\J u gx 0 (U E.f)/\J u gx 1 (U 2)/\J u gx 16 d.nn) 17 (tk 0 14 (.one 14 (.one 15 (.take 16 .done)))) (KS.out _ (aC _ _).drew) fun w1 B1 a=> ?_
 repeat refine' tT ?_
 refine pO fun KT bq=> ?_;go_simp;refine(vF (H.below B1)).mono ?_;rintro e w2 ⟨rfl,rfl⟩;refine oH bq a ?_
 repeat refine' tT ?_
 refine pO fun KT bq=> ?_;go_simp;refine(adB w1 d.gg 8 8 src d.now (H.below B1).grd).mono ?_;rintro e w2 ⟨rfl,hb⟩;have B2:=nO B1 hb;have S2:=KS.out _ B2;refine oH bq S2 ?_;clear a hb;have a:=S2
 repeat refine' tT ?_
 refine aU ?_;clear a;go_upto_region 3 with fail;go_cut [7,8,9] from 36 to 55 (fun q7 q8 q9 wx=>q8= U z/\q9= U 0/\ ∃(G:Nat) (md:MD),q7= .pointer (some ⟨G,0,none⟩)/\nA md=M/\aZ wx G 82 (oM md).toArray/\w.heap.size<=G/\MF x wx md/\Be w wx)
 case first=>
  refine rP (fun u=>J u gx 33 false/\J u gx 21 d.gg/\J u gx 17 d.gt/\J u gx 0 (U E.f)/\J u gx 1 (U 2)/\J u gx 16 d.nn) 24 (tk 0 15 (.two 15 (tk 16 4 (.one 20 (.one 21 (.take 22 (.take 23 .done))))) 20 (.one 15 (tk 16 4 (.one 21 (.take 22 (.take 23 .done))))))) (KS.out _ B2.drew) ?_;intro a;obtain⟨v3,e0⟩:=ex w2.drew;have W:=F9 (Be w v3) (by rw[e0];exact B2.drew);rw[<-e0] at a|-;clear e0
  repeat refine' tT ?_
  refine qN ?_ ?_
  ·refine pO fun KT bq=> ?_
   go_simp;refine(O.out v3 W).mono ?_;rintro e v4 ⟨⟨kind,s,view,inst,S,r,B,n,l,bs,v,y,V,vs,C,q,p,cs,P,t⟩,rfl,i,g,k⟩;rw[show(oM ⟨kind,s,view,inst,S,r,B,n,l,bs,v,y,V,vs,C,q,p,cs,P,t⟩).toArray=#[U kind,U s,U view,U inst,U S,U r,.slice B n l,.slice v y V,.slice C q p,.slice P 0 t] from rfl];have Z:=nO W k;have j:=jj i;have s0:=jj g;clear k i g;have S4:=KS.out _ Z;refine oH bq S4 ?_;clear a;have a:=S4
   repeat refine' tT ?_
   refine pO fun KT bq=> ?_;go_simp;generalize hv5:v4.alloc _=v5;generalize hg5:v4.heap.size=G;replace hv5:=hv5.symm;replace hg5:=hg5.symm;have X:=xNew hv5 hg5;have F:=F9 (w.heap.size<=G) (by rw[hg5];exact Z.size);have B5:=GN Z hv5;have b0:=jj (s0.below (show Be v4 v5 by rw[hv5];exact nC));clear hv5 hg5;have N:=KS.out _ B5;refine oH bq N ?_;clear a;have a:=N
   repeat refine' tT ?_
   refine pO fun KT bq=> ?_;have y0:=X.at_ 0;have z0:=X.frozen 0;have y1:=X.at_ 1;have z1:=X.frozen 1;have y2:=X.at_ 2;have z2:=X.frozen 2;have y3:=X.at_ 3;have z3:=X.frozen 3;have y4:=X.at_ 4;have z4:=X.frozen 4;have y5:=X.at_ 5;have z5:=X.frozen 5;have y6:=X.at_ 6;have z6:=X.frozen 6;have y7:=X.at_ 7;have z7:=X.frozen 7;have y8:=X.at_ 8;have z8:=X.frozen 8;have y9:=X.at_ 9;have z9:=X.frozen 9;go_simp;obtain⟨w9,f⟩:=ex (setW v5 G 0 [U kind,U s,U view,U inst,U S,U r,.slice B n l,.slice v y V,.slice C q p,.slice P 0 t]);have K9:=jj (uL f X);have O9:=jj (vM f);simp only[setW,aO,Nat.reduceAdd] at f;rw[<-f];clear f y0 z0 y1 z1 y2 z2 y3 z3 y4 z4 y5 z5 y6 z6 y7 z7 y8 z8 y9 z9;have B9:Be w w9:=O9.below B5 B5.size (mR F.out);have c0:=b0.Wd O9 X;have S9:=KS.out _ B9;refine oH bq S9 ?_;clear a;have a:=S9
   repeat refine' tT ?_
   refine aU ?_;go_wp2_with fail;go_meet;exact⟨rfl,rfl,G,⟨kind,s,view,inst,S,r,B,n,l,bs,v,y,V,vs,C,q,p,cs,P,t⟩,rfl,j,K9,F,c0,B9⟩
  refine pO fun KT bq=> ?_;go_simp;generalize hv5:v3.alloc _=v4;generalize hg5:v3.heap.size=G;replace hv5:=hv5.symm;replace hg5:=hg5.symm;have X4:=xNew hv5 hg5;have F:=F9 (w.heap.size<=G) (by rw[hg5];exact W.size);have Z:=GN W hv5;clear hv5 hg5;have S4:=KS.out _ Z;refine oH bq S4 ?_;clear a;have a:=S4
  repeat refine' tT ?_
  refine pO fun KT bq=> ?_;go_simp;refine(O.out v4 Z).mono ?_;rintro e v5 ⟨⟨kind,s,view,inst,S,r,B,n,l,bs,v,y,V,vs,C,q,p,cs,P,t⟩,rfl,i,g,k⟩;rw[show(oM ⟨kind,s,view,inst,S,r,B,n,l,bs,v,y,V,vs,C,q,p,cs,P,t⟩).toArray=#[U kind,U s,U view,U inst,U S,U r,.slice B n l,.slice v y V,.slice C q p,.slice P 0 t] from rfl];have B5:=nO Z k;have X:=jj (X4.below k X4.lt);have j:=jj i;have b0:=jj g;clear k i g;have N:=KS.out _ B5;refine oH bq N ?_;clear a;have a:=N
  repeat refine' tT ?_
  refine pO fun KT bq=> ?_;have y0:=X.at_ 0;have z0:=X.frozen 0;have y1:=X.at_ 1;have z1:=X.frozen 1;have y2:=X.at_ 2;have z2:=X.frozen 2;have y3:=X.at_ 3;have z3:=X.frozen 3;have y4:=X.at_ 4;have z4:=X.frozen 4;have y5:=X.at_ 5;have z5:=X.frozen 5;have y6:=X.at_ 6;have z6:=X.frozen 6;have y7:=X.at_ 7;have z7:=X.frozen 7;have y8:=X.at_ 8;have z8:=X.frozen 8;have y9:=X.at_ 9;have z9:=X.frozen 9;go_simp;obtain⟨w9,f⟩:=ex (setW v5 G 0 [U kind,U s,U view,U inst,U S,U r,.slice B n l,.slice v y V,.slice C q p,.slice P 0 t]);have K9:=jj (uL f X);have O9:=jj (vM f);simp only[setW,aO,Nat.reduceAdd] at f;rw[<-f];clear f y0 z0 y1 z1 y2 z2 y3 z3 y4 z4 y5 z5 y6 z6 y7 z7 y8 z8 y9 z9;have B9:Be w w9:=O9.below B5 B5.size (mR F.out);have c0:=b0.Wd O9 X;have S9:=KS.out _ B9;refine oH bq S9 ?_;clear a;have a:=S9
  repeat refine' tT ?_
  refine aU ?_;go_wp2_with fail;go_meet;exact⟨rfl,rfl,G,⟨kind,s,view,inst,S,r,B,n,l,bs,v,y,V,vs,C,q,p,cs,P,t⟩,rfl,j,K9,F,c0,B9⟩
 case rest=>
  obtain⟨rfl,rfl,G,md,rfl,i,hg5,t0,g,L⟩:=hcut;obtain⟨w3,n0⟩:=ex wc;rw[<-n0] at hg5 g L|-;clear n0;obtain⟨W,M3,X3,j⟩:=j4 L g hg5 i;have H3:=jj (H.below L);clear hg5 g L i t0;have T:=F9 (Y 120 #[gx,.agg (oM md).toArray,U z] w3 fun e w'=>e= .returned (U an.num)/\Kt x w3 w' E gx b d K K1 v1) (ael x w3 E gx b d K H3 (aB HX W.size) h1 h4 r0 q0 md M3 (by rw[j.out];exact RF.form) z K1 v1 an (by rw[j.out];exact f0.out));obtain⟨kind,s,view,inst,S,r,B,n,l,bs,v,y,V,vs,C,q,p,cs,P,t⟩:=md;replace T:Hid (Y 120 #[gx,.agg #[U kind,U s,U view,U inst,U S,U r,.slice B n l,.slice v y V,.slice C q p,.slice P 0 t],U z] w3 fun e w'=>e= .returned (U an.num)/\Kt x w3 w' E gx b d K K1 v1):=T;replace X3:Hid (aZ w3 G 82 #[U kind,U s,U view,U inst,U S,U r,.slice B n l,.slice v y V,.slice C q p,.slice P 0 t]):=X3;obtain⟨y0,y1,y2,y3,y4,y5,y6,y7,y8,y9⟩:=X3.zA;go_wp2_with fail;refine T.mono ?_;rintro e w5 ⟨rfl,D,d0,i0,Q⟩;have N:=jj ((H.step W).trans d0);obtain⟨H5,F5,V5⟩:=j3 d0.sys i0 Q;have CC:0<=D.c0/\D.c0<=1000000/\0<=D.c2/\D.c2<=1000000:=by have e:=RF.cnt;obtain⟨k0,k2⟩:=YC f0;rw[<-V5.out] at k0 k2;have v0:D.c0=d.c0:=k0;have w0:D.c2=d.c2:=k2;rw[v0,w0];exact e
  have o0:=F9 (0<=D.c0/\D.c0<=1000000) ⟨CC.1,CC.2.1⟩;have p0:=F9 (0<=D.c2/\D.c2<=1000000) CC.2.2;clear d0 i0 Q y0 y1 y2 y3 y4 y5 y6 y7 y8 y9;cases an
  ·have c9:=H5.blk.at_ 35
   have f9:=H5.blk.frozen 35;have e9:IntKind.i64.wrap (D.c0+1)=D.c0+1:=aH _ (tL o0.out);go_wp2_with fail;go_end0
   refine⟨by trivial,_,N.out.aeu (d'':=D.agL) rfl (by rfl),F5.trans (by constructor<;>rfl),?_⟩;rw[<-g0.out,<-V5.out];rfl
  have c9:=H5.blk.at_ 37;have f9:=H5.blk.frozen 37;have e9:IntKind.i64.wrap (D.c2+1)=D.c2+1:=aH _ (tL p0.out);go_wp2_with fail;go_end0
  refine⟨by trivial,_,N.out.aeu (d'':=D.agM) rfl (by rfl),F5.trans (by constructor<;>rfl),?_⟩;rw[<-g0.out,<-V5.out];rfl
theorem Aa(w:World)(G:Nat)(cs:AV)(j:aZ w G 120 cs)(A:OA)(m c:Nat)(l:List (Rq×Int))(h:cs[22]?=some (acX A m c))(k:gD w A m 7 (l.flatMap EO))(p:m<=4096):
  Y 15 #[G] w fun e w'=>(∃g c',e=acK (acX g m c')/\w'.ownsRow w.heap.size 51 7 (acX g m c') m (l.flatMap EO))/\Be w w':=by
 obtain⟨I,H,a,b,d⟩:=info_parts Mh;have C:=(j.cell 22).trans h;have n:=jj k;clear j h k;go_enter func15,ntmps15
 go_wp2_with(first|(at_builtin;refine fD rfl _ _ _ rfl w.heap.size 51 I _ 7 56 underlying44 H a b d rfl aR none 0 0 [] rfl ⟨bJ,.inl ⟨rfl,rfl⟩⟩ A m c (l.flatMap EO) rfl n (Ql l) (by unfold maxLen;omega) aR (aF _) ?_;intro a5 o W i;have f:=jj i;clear i;rw[aO]))
 go_ret;exact⟨⟨a5,o,by trivial,by have:=f.own;rwa [aO,List.nil_append] at this⟩,f.only.mY⟩
theorem Ml(w:World)(G:Nat)(cs:AV)(j:aZ w G 120 cs)(A:OA)(m c:Nat)(l:List Rq)(h:cs[19]?=some (acX A m c))(k:gD w A m 6 (l.flatMap rA))(p:m<=4096):
  Y 16 #[G] w fun e w'=>(∃g c',e=acK (acX g m c')/\w'.ownsRow w.heap.size 49 6 (acX g m c') m (l.flatMap rA))/\Be w w':=by
 obtain⟨I,H,a,b,d⟩:=info_parts rT;have C:=(j.cell 19).trans h;have n:=jj k;clear j h k;go_enter func16,ntmps16
 go_wp2_with(first|(at_builtin;refine fD rfl _ _ _ rfl w.heap.size 49 I _ 6 48 underlying46 H a b d rfl aR none 0 0 [] rfl ⟨bJ,.inl ⟨rfl,rfl⟩⟩ A m c (l.flatMap rA) rfl n (Bt l) (by unfold maxLen;omega) aR (aF _) ?_;intro a5 o W i;have f:=jj i;clear i;rw[aO]))
 go_ret;exact⟨⟨a5,o,by trivial,by have:=f.own;rwa [aO,List.nil_append] at this⟩,f.only.mY⟩
theorem VN(w:World)(x G:Nat)(f id:Int)(d:sI)(h:qF x w f id G d)(c:d.waits=false\/(d.now+1 -d.at_)%6≠0)(q:0<=d.at_/\d.at_<=d.now/\d.now<1048000):
  Y 91 #[G] w fun e w'=>e=acK (ac2 #[])/\qF x w' f id G {d with now:=d.now+1}/\Only (d.foot G) w w':=by
 have t:=jj h;have soft:=nV.of (x:=x) h.Bc aV;have done: ∀w',vT w' d.gt (d.now+1)->Only [d.gt] w w'->qF x w' f id G {d with now:=d.now+1}/\Only (d.foot G) w w':=fun w' r a=>
  ⟨⟨h.blk.only a (mR (h.blk.nY h.Bc aV)),r,gH h.yK a h.Bc aV,h.SE,gH h.ans a h.Bc aV,gH h.acc a h.Bc aV,h.out.only a (mR soft) (fun g s m=>by simp only[au] at m;subst m;exact mG h.out.own h.Bc aV (by rw[dQ,s]))⟩,a.mono (by simp[sI.foot])⟩
 have D:=jj done;obtain⟨P,gt,waits,L,M,N,at_,A,u,v,F,I,K,Q,R,S,now⟩:=d;simp only at c q;have i:=h.blk;have o:=jj h.Bc;have n:=jj i;have j:=i.at_ 17;have ne:G≠gt:=i.nY h.Bc aV;clear h i soft done;go_enter func91,ntmps91;go_wp2_with fail;refine(Vy _ gt now o aR aR).mono ?_;rintro e W ⟨rfl,b,H⟩;have B:=jj (n.only H (mR ne));have p:=B.at_ 18;have C:=jj b;have O:=jj H;clear b H j
 cases waits with
 |false=>
  go_wp2_with fail;((try simp only[Exit.inBlock,Exit.then]);refine bodyPost_ret (results_none rfl _ _ _) rfl ?_)
  exact⟨by trivial,D.out _ C O⟩
 |true=>
  rcases c with c|c
  ·cases c
  go_upto_region 1 with fail;have E:IntKind.i64.wrap (now+1 -at_)=now+1 -at_:=aH _ aR;have y:(now+1 -at_).tmod 6=(now+1 -at_)%6:=gN aR;have z:IntKind.i64.wrap ((now+1 -at_)%6)=(now+1 -at_)%6:=aH _ aR;refine qI (fun w'=>J w' G 17 gt/\J w' G 20 (U at_)/\J w' G 14 (U 6)/\vT w' gt (now+1)) 17 (tk 0 17 .done) (by kernel_rfl) (by kernel_rfl) (by kernel_rfl) ⟨B.drew.cell 17,B.drew.cell 20,B.drew.cell 14,aZ.drew C⟩ ?_;intro k
  repeat(first|refine' uT ?_|refine' uS ?_)
  refine pR _ _ rfl (by rfl) (by assumption) (fun w=>by go_simp;try exact⟨rfl,rfl⟩) (fun w l=>(Tj w gt (now+1) l.2.2.2).mono (fun e w' h=>h)) ?_;try simp only[Nw]
  repeat(first|refine' uT ?_|refine' uS ?_)
  refine qO ?_;clear k;go_wp2_with fail;go_end0
  have:=D.out _ (aZ.drew C) O.drew;exact⟨by trivial,this⟩
abbrev qb.node(D:qb)(i:Nat)(p:Ka):qb:={D with C:=D.C.node i p}
abbrev qb.net(D:qb)(nd:uU):qb:={D with C:=D.C.net nd}
abbrev qb.k0(D:qb)(d:sI):qb:={D with d0:=some d,C:={D.C with ks:= [Gp D.C.cd.f 0 D.g0 d,uM []]}}
abbrev qb.k1(D:qb)(d:sI):qb:={D with d1:=d}
theorem ahi(D:qb)(K:KS)(d:sI):(D.k0 d).val K={D.val K with t0:=some d.now}:=rfl
theorem ahj(D:qb)(K:KS)(d:sI):(D.k1 d).val K={D.val K with ck:=d.val}:=rfl
theorem afM(D:qb)(d:sI):rO D (D.k1 d):=⟨rfl,rfl,rfl,rfl,rfl,rfl,rfl,rfl⟩
section
variable{x y:Nat}{w w':World}{D:qb}{K K':KS}{i:Nat}{p:Ka}{d':bK}{nd:uU}
theorem Nn.node(h:Nn D)(b:D.C.nodes[i]?=some (some p))(a:d'.nn=p.d.nn):Nn (D.node i ⟨p.gx,d'⟩):=by
 have c:=(ah.1 b).1;exact{h with
  len:=by show(D.C.nodes.set i _).length=_;rw[bG];exact h.len
  bad:=fun j d=>by
   show(D.C.nodes.set i _)[j]?=some none↔_;by_cases e:i=j
   ·subst e
    rw[aL c];have:=h.bad i d;rw[b] at this;simpa using this
   rw[aX e];exact h.bad j d
  nn:=fun j q H=>by
   replace H:(D.C.nodes.set i _)[j]?=some (some q):=H;by_cases e:i=j
   ·subst e
    rw[aL c] at H;injection H with H;injection H with H;rw[<-H];exact a.trans (h.nn i p b)
   rw[aX e] at H;exact h.nn j q H}
theorem rO.node(D:qb)(h:D.C.nodes[i]?=some (some p))(d':bK):rO D (D.node i ⟨p.gx,d'⟩):=
 ⟨rfl,rfl,rfl,rfl,rfl,rfl,rfl,Dw tY _ _ _ _ h rfl⟩
theorem mJ.below(h:mJ x w D K)(H:Be w w'):mJ x w' D K:=⟨h.BJ.below H,h.fx,aB h.xlt H.size⟩
theorem mJ.nat(h:mJ x w D K)(H:D.C.nodes[i]?=some (some p)):qE x w D.C.cd.f D.C.n i p.gx D.C.b p.d K:=Eu.nat h.BJ.sys H (h.fx.nn i p H)
theorem Hf{D':qb}(a:rO D D')(s:Step x w w' (D.C.cs K) (D'.C.cs K'))(b:D'.d1=D.d1):pW w w' D K D' K':=by
 refine⟨a,s.only.mono fun k H=> .inl (bL _ H),fun k H=> ?_⟩;unfold qb.nE at H|-;rw[aQ] at H;rcases H with H|H
 ·exact(s.new k H).imp (fun h=>bL _ h) id
 rw[b,a.g1] at H;exact .inl (bH _ H)
theorem mJ.lt(h:mJ x w D K): ∀k∈D.nE K,k<w.heap.size:=fun k H=>(aQ.1 H).elim (h.BJ.sys.lt k) (h.BJ.ck.lt k)
theorem mJ.go(h:mJ x w D K)(a:D.C.nodes[i]?=some (some p))(H:d'.nn=p.d.nn)(b:mP x w w' D.C.cd.f D.C.n i p.gx D.C.b p.d K d' K'):mJ x w' (D.node i ⟨p.gx,d'⟩) K'/\pW w w' D K (D.node i ⟨p.gx,d'⟩) K':=by have s:=Eu.YB h.BJ.sys a (h.fx.nn i p a) H b;exact⟨⟨h.BJ.step s,h.fx.node a H,aB h.xlt s.only.size⟩,Hf (rO.node D a d') s rfl⟩
theorem mJ.blk(h:mJ x w D K):aZ w D.C.gc 99 (Gq D.C.cd):=h.BJ.sys.get (j:=1) rfl
theorem mJ.yG(h:mJ x w D K):w.ownsRow 0 52 1 (acX D.C.cd.na D.C.cd.nl D.C.cd.nc) D.C.cd.nl (D.C.nodes.map tY):=h.BJ.sys.get (j:=3) (c:=wG 52 1 D.C.cd.na D.C.cd.nl D.C.cd.nc (D.C.nodes.map tY)) rfl
theorem mJ.wO(h:mJ x w D K):w.ownsRow 0 41 1 (acX D.C.cd.ka D.C.cd.kl D.C.cd.kc) D.C.cd.kl D.C.kp:=h.BJ.sys.get (j:=4) (c:=wG 41 1 D.C.cd.ka D.C.cd.kl D.C.cd.kc D.C.kp) rfl
theorem mJ.OI(h:mJ x w D K):w.ownsRow 0 3 1 (acX D.C.cd.fa D.C.cd.fm D.C.cd.fc) D.C.cd.fm (D.C.fl.map fun y:Int=>Value.int .i64 y):=h.BJ.sys.get (j:=5) (c:=wG 3 1 D.C.cd.fa D.C.cd.fm D.C.cd.fc (D.C.fl.map fun y:Int=>Value.int .i64 y)) rfl
theorem mJ.afH(h:mJ x w D K):oD w D.C.cd.gn 64 D.C.nd:=h.BJ.sys.get (j:=2) (c:=xS D.C.cd.gn 64 D.C.nd) rfl
theorem mJ.Pt(h:mJ x w D K):vC w D.C.cd.nn D.C.b K:=h.BJ.sys.get (j:=0) (c:=tZ D.C.cd.nn D.C.b K) rfl
theorem mJ.abe(h:mJ x w D K){g':Nat->Nat}{uW:Nat->Int}{ms':Nat->List (Value×List Int)}(H:Step x w w' (D.C.cs K) ((D.C.net (D.C.nd.qs g' uW ms')).cs K)):mJ x w' (D.net (D.C.nd.qs g' uW ms')) K:=
 ⟨h.BJ.step H,{h.fx with},aB h.xlt H.only.size⟩
theorem abj(D:qb)(K:KS)(i:Nat)(p:Ka):(D.node i p).val K={D.val K with nodes:=(D.val K).nodes.set i (some p.d.val)}:=by unfold qb.val;simp only[eT];rfl
theorem Vw(h:mJ x w D K)(a:D.C.nodes[i]?=some (some p)):
  Y 88 #[p.gx] w fun e w'=>e=acK (acX p.d.oa p.d.ol.length p.d.oc)/\mJ x w' (D.node i ⟨p.gx,p.d.outs none 0 []⟩) K/\pW w w' D K (D.node i ⟨p.gx,p.d.outs none 0 []⟩) K/\nJ x w' p.d.oa p.d.ol.length p.d.oc p.d.ol:=by refine(ahz x w _ _ _ _ _ _ _ (h.nat a)).mono ?_;rintro e w' ⟨rfl,H,c,b⟩;have g:=h.go (d':=p.d.outs none 0 []) a rfl H;exact⟨rfl,g.1,g.2,b.at_ (Cv p.d.oa p.d.oc p.d.ol) bJ⟩
theorem wh(h:mJ x w D K)(src:Int)(A:OA)(m c:Nat)(SL:List wN)(f:nJ x w A m c SL)(i:m<=4096)(M:Nat->List LI)(b:zD (pE D.C.n) src (uy SL) (D.val K).M=some M):
  Y 48 #[D.C.gc,U src,acX A m c] w fun e w'=>e=acK (ac2 #[])/\ ∃d,mJ x w' d K/\pW w w' D K d K/\d.val K={D.val K with M:=M}:=by have n:=h.fx.n;have F:=h.fx.f4;have N:=h.fx.np;refine(Xx x w D.C K h.BJ.sys (by rw[h.fx.ps,h.fx.np];simp[pE]) aR src A m c SL f i M (by rw[h.fx.ps];exact b)).mono ?_;rintro e w' ⟨rfl,g,a,H,j⟩;refine⟨rfl,D.net (D.C.nd.qs g D.C.nd.lost a),h.abe H,Hf ⟨rfl,rfl,rfl,rfl,rfl,rfl,rfl,rfl⟩ H rfl,?_⟩;rw[<-j];rfl
theorem mJ.afP(h:mJ x w D K){e:sI}(a:D.d0=some e)(g:qF x w' D.C.cd.f 0 D.g0 d)(b:d.ia=none)(n:Only (e.foot D.g0) w w')(m: ∀k∈d.foot D.g0,k∈e.foot D.g0\/w.heap.size<=k)(c:d.nn=e.nn)(p:d.waits=false)(f:d.at_=0)(o:d.quiet):mJ x w' (D.k0 d) K/\pW w w' D K (D.k0 d) K:=by
 have l:=h.fx.len;have i:(D.C.cs K)[6+D.C.n]?=some (Gp D.C.cd.f 0 D.g0 e):=by rw[show 6+D.C.n=D.C.n+6 by omega];show(nW D.C.cd.f D.C.n 0 D.C.nodes++D.C.ks)[D.C.n]?=_;rw[bN (by rw[qy,l];exact aF _),qy,l,fJ,h.fx.ks,a];rfl
 have s:=h.BJ.sys.turn i n (fun k j=> .inl j) (c':=Gp D.C.cd.f 0 D.g0 d) ⟨g,b⟩ (Qd _ _ _ _) m;have e:(D.C.cs K).set (6+D.C.n) (Gp D.C.cd.f 0 D.g0 d)=(D.k0 d).C.cs K:=by unfold Eu.cs;rw[show 6+D.C.n=D.C.n+6 by omega];simp only[List.set_cons_succ];rw[iD _ _ (by rw[qy,l];exact aF _),qy,l,fJ,h.fx.ks];rfl
 rw[e] at s;exact⟨⟨h.BJ.step s,{h.fx with ks:=rfl,kp:=h.fx.kp.trans (by rw[a];rfl),f0:=⟨fun q=>(by have:=h.fx.f0.1 q;rw[a] at this;cases this),fun q=>(by cases q)⟩,n0:=fun r H=>(by injection H with H;subst H;exact⟨c.trans (h.fx.n0 _ a).1,p,f,o⟩)},aB h.xlt s.only.size⟩,Hf ⟨rfl,rfl,rfl,rfl,rfl,rfl,rfl,rfl⟩ s rfl⟩
theorem mJ.EC(h:mJ x w D K){e:sI}(H:D.d0=some e):qF x w D.C.cd.f 0 D.g0 e/\e.ia=none:=by
 have l:=h.fx.len;have a:(D.C.cs K)[6+D.C.n]?=some (Gp D.C.cd.f 0 D.g0 e):=by rw[show 6+D.C.n=D.C.n+6 by omega];show(nW D.C.cd.f D.C.n 0 D.C.nodes++D.C.ks)[D.C.n]?=_;rw[bN (by rw[qy,l];exact aF _),qy,l,fJ,h.fx.ks,H];rfl
 exact h.BJ.sys.get a
theorem mJ.acv(h:mJ x w D K)(e:qF x w' D.C.cd.f 1 D.g1 d)(b:Only (D.d1.foot D.g1) w w')(c: ∀k∈d.foot D.g1,k∈D.d1.foot D.g1\/w.heap.size<=k)(a:d.nn=D.d1.nn)(f:d.quiet):mJ x w' (D.k1 d) K/\pW w w' D K (D.k1 d) K:=
 ⟨⟨h.BJ.own e b c,{h.fx with n1:=a.trans h.fx.n1,q1:=f},aB h.xlt b.size⟩,⟨afM D d,b.mono fun k H=> .inl (bH _ H),fun k H=>by
  rcases aQ.1 H with H|H
  ·exact .inl (bL _ H)
  exact(c k H).imp (fun h=>bH _ h) id⟩⟩
theorem qF.abv{id:Int}{gk:Nat}(h:qF x w f id gk d)(b:aZ w' gk 120 ((Nz f id d).setIfInBounds 23 ()))(H:Only [gk] w w'):qF x w' f id gk {d with oa:=none,oc:=0,ol:= []}:=by have ne: ∀{t s n c:Nat} {a:OA} {xs:LV},w.ownsRow 0 t s (acX a n c) n xs->t≠120->w'.ownsRow 0 t s (acX a n c) n xs:=fun e g=>gH e H h.blk g;exact⟨b,aZ.only h.Bc H (by simpa using(h.blk.nY h.Bc aV).symm),ne h.yK aV,h.SE,ne h.ans aV,ne h.acc aV,nJ.nil _ _⟩
theorem adW(h:mJ x w D K){e0:sI}(a:D.d0=some e0):
  Y 49 #[D.g0] w fun e w'=> ∃A c,e=acK (acX A 0 c)/\nJ x w' A 0 c []/\ ∃d,mJ x w' d K/\pW w w' D K d K/\d.val K=D.val K:=by
 have q:=(h.fx.n0 e0 a).2.2.2;have f:=(h.EC a).1.out;rw[q] at f;refine(Ui w D.g0 _ (h.EC a).1.blk e0.oa 0 e0.oc (by simp only[Nz,q];rfl)).mono ?_;rintro e w' ⟨rfl,g,b⟩;have i:=(h.EC a).1.abv g b;have:=h.afP a i (h.EC a).2 (b.mono (by simp[sI.foot])) (fun k H=> .inl (by
  simp only[sI.foot,ay,aQ,Option.map_none,Option.toList_none,aI,or_false] at H|-;rcases H with H|H|H|H|H
  ·exact .inl H
  ·exact .inr (.inl H)
  ·exact .inr (.inr (.inl H))
  ·exact .inr (.inr (.inr (.inl H)))
  exact .inr (.inr (.inr (.inr (.inl H)))))) rfl (h.fx.n0 e0 a).2.1 (h.fx.n0 e0 a).2.2.1 rfl
 exact⟨_,_,rfl,f.Ak b (h.EC a).1.blk aV aV,_,this.1,this.2,by rw[ahi];show{D.val K with t0:=some e0.now}=_;unfold qb.val;rw[a];rfl⟩
theorem Oj(h:mJ x w D K):
  Y 49 #[D.g1] w fun e w'=> ∃A c,e=acK (acX A 0 c)/\nJ x w' A 0 c []/\ ∃d,mJ x w' d K/\pW w w' D K d K/\d.val K=D.val K:=by
 have q:=h.fx.q1;have b:=h.BJ.ck.out;rw[q] at b;refine(Ui w D.g1 _ h.BJ.ck.blk D.d1.oa 0 D.d1.oc (by simp only[Nz,q];rfl)).mono ?_;rintro e w' ⟨rfl,f,a⟩;have g:=h.BJ.ck.abv f a;have:=h.acv g (a.mono (by simp[sI.foot])) (fun k H=> .inl (by
  simp only[sI.foot,ay,aQ,Option.map_none,Option.toList_none,aI,or_false] at H|-;rcases H with H|H|H|H|H
  ·exact .inl H
  ·exact .inr (.inl H)
  ·exact .inr (.inr (.inl H))
  ·exact .inr (.inr (.inr (.inl H)))
  exact .inr (.inr (.inr (.inr (.inl H)))))) rfl rfl
 exact⟨_,_,rfl,b.Ak a h.BJ.ck.blk aV aV,_,this.1,this.2,rfl⟩
end
section
variable{x:Nat}{w:World}{D:qb}{K:KS}
theorem agc(h:mJ x w D K)(src f:Int)(F:src∈D.C.fl)(p1:qM.wI D.C.cd.f 2 src=true)(p2:qM.wI D.C.cd.f 2 f=true)(v:src≠f)(k:Nat)(E:XT (pE D.C.n) src f=some k)(bs:LI)(A:OA)(m c:Nat)(I:gD w A m 1 (mZ bs))(hm:m<=65536)(q:((D.val K).M k).length<64):
  Y 66 #[D.C.gc,U src,U f,acX A m c] w fun e w'=>e=acK (U 0)/\ ∃s,s.d1=D.d1/\mJ x w' s K/\pW w w' D K s K/\s.val K={D.val K with M:=ru (D.val K).M k ((D.val K).M k++ [bs])}:=by
 obtain⟨H,T,X,Z,P,V⟩:=j6 h F p1 p2 E I;have Q:=jj q;have i:=jj h.blk;have R:=F9 (gD w D.C.cd.fa D.C.cd.fm 1 (D.C.fl.map fun y:Int=>Value.int .i64 y)) (fH h.OI);obtain⟨u,g⟩:=ex D.C.gc;rw[<-g] at i|-;have GC:=jj g;clear h F p1 p2 E I q g;go_enter func66,ntmps66;go_wp2_with fail;refine(acI w u D.C.cd i D.C.fl R (VZ H.fx.fm H.fx.few) src true (mR T.out)).mono ?_;rintro e w1 ⟨rfl,rfl⟩;go_wp2_with fail;refine(agf w u D.C.cd i H.fx.f1 H.fx.f4 src f v X Z).mono ?_;rintro e W ⟨rfl,o⟩;have B:=jj o;clear o;have t:=jj (H.below B);have C:J W u 17 D.C.cd.gn:=(i.below B i.lt).cell 17;have N:=F9 (D.C.nd.n=D.C.n+2/\D.C.nd.ps=pE D.C.n/\D.C.nd.n<=4096) (by have a:=H.fx.np;have b:=H.fx.n;have c:=H.fx.f4;exact⟨a,H.fx.ps,aR⟩);have L:=F9 (XQ D.C.nd.n D.C.nd.ps src f k) (by have e:=ad5 P;rw[show(pE D.C.n).length=D.C.n+2 by simp[pE]] at e;rw[N.1,N.2.1];exact e)
 go_wp2_with fail;refine(abn src f A m c bs W t.afH.nt N.2.2 ⟨aV,aV⟩ k L (V.below B) hm (by have:=Q.out;simp only[qb.val,uU.val,aT] at this;show((D.C.nd.ms k).length:Int)<64;omega)).mono ?_;rintro e O ⟨G,z,rfl,l,r,p⟩;have n:Nt 0 O D.C.cd.gn D.C.nd.n D.C.nd.ps D.C.nd.q (ru D.C.nd.g k G) 64 D.C.nd.lost (ru D.C.nd.ms k (D.C.nd.ms k++ [(z,bs)])):=by have e:=l;rw[RU] at e;exact e
 have S:=F9 (Step x W O (D.C.cs K) ((D.C.net (D.C.nd.qs (ru D.C.nd.g k G) D.C.nd.lost (ru D.C.nd.ms k (D.C.nd.ms k++ [(z,bs)])))).cs K)) ((Step.refl t.BJ.sys).net (j:=2) (gn:=D.C.cd.gn) (d:=D.C.nd) rfl L.lt n r p);clear l r p n C;go_wp2_with fail;go_ret;refine⟨by trivial,D.net (D.C.nd.qs (ru D.C.nd.g k G) D.C.nd.lost (ru D.C.nd.ms k (D.C.nd.ms k++ [(z,bs)]))),rfl,t.abe S,(pW.refl w D K).below B.out|>.trans (Hf ⟨rfl,rfl,rfl,rfl,rfl,rfl,rfl,rfl⟩ S rfl),?_⟩;show CV.mk _ _ _ _ _=CV.mk _ _ _ _ _
 congr 1
 exact acB D.C.nd _ _ _ k z bs
end
theorem RL{D:qb}{K':KS}{i:Nat}{p:Ka}{d':bK}{v':ql}{X1:CV}(b:D.C.nodes[i]?=some (some p))(a:d'.val=v')(h:DF D.C.n i (K',v') (D.val K)=some X1):
  ∃M,zD (pE D.C.n) i (uy d'.ol) ((D.node i ⟨p.gx,d'.outs none 0 []⟩).val K').M=some M/\{(D.node i ⟨p.gx,d'.outs none 0 []⟩).val K' with M:=M}=X1:=by subst a;unfold DF at h;simp only[aK] at h;obtain⟨M,H,rfl⟩:=h;refine⟨M,H,?_⟩;rw[abj];rfl
theorem adn(x:Nat)(w:World)(D:qb)(K:KS)(h:mJ x w D K)(X':CV)(hv:Ei D.C.cd.f D.C.n (D.val K)=some X'):
  Y 52 #[D.C.gc] w fun e w'=>e= .returned (.tuple #[])/\ ∃n,mJ x w' n X'.K/\pW w w' D K n X'.K/\n.val X'.K=X':=by
 unfold Ei at hv;simp only[aA] at hv;obtain⟨X1,w0,x0⟩:=hv;obtain⟨E0,F0,H⟩:=j3 w0 x0 h;have n0:=h.blk.at_ 18;have Q:=F9 (D.C.cd.nl=D.C.n/\D.C.nodes.length=D.C.n) ⟨h.fx.nl,h.fx.len⟩;obtain⟨gc,L⟩:=ex D.C.gc;obtain⟨na,g0⟩:=ex D.C.cd.na;obtain⟨nl,i0⟩:=ex D.C.cd.nl;obtain⟨nc,h0⟩:=ex D.C.cd.nc;have small:nl<=13:=by have:=h.fx.n;have:=h.fx.f4;have:=h.fx.nl;omega
 rw[<-L,<-g0,<-i0,<-h0] at n0;rw[<-L];have GC:=jj L;have NA:=jj (dH g0 (dH i0 h0));clear h w0 x0 L g0 i0 h0;go_enter func52,ntmps52;go_wp2_with fail;go_loopw [11] (fun z wr=> ∃i:Nat,i<=nl/\z= U i/\ ∃n K',mJ x wr n K'/\pW w wr D K n K'/\zm D.C.cd.f D.C.n (nl -i) i (n.val K')=some X1) (fun z _=>nl -(intOf z).toNat)
 case atStart=>exact⟨0,aR,by first|rfl|simp,D,K,H,pW.refl _ D K,by rw[Nat.sub_zero,NA.2.1,Q.1];exact E0.out⟩
 case round=>
  obtain⟨i,hi,rfl,d,K1,hA,hS,hT⟩:=hrel;obtain⟨l,S,TV⟩:=j3 hA hS hT;clear hA hS hT;by_cases r0:i<nl
  ·have i1:(i:Int)<nl:=aR
   have i2:(0:Int)<=i:=aR;have L1:=F9 (i<d.C.nodes.length) (by rw[l.fx.len,S.same.n,<-Q.1,<-NA.2.1];exact r0);obtain⟨o,ho⟩: ∃o,d.C.nodes[i]?=some o:=⟨_,aj L1⟩;have HO:=jj ho;have RW:=F9 (wr.ownsRow 0 52 1 (.slice na nl nc) nl (d.C.nodes.map tY)) (by have:=l.yG;rw[S.same.f,<-NA.1,<-NA.2.1,<-NA.2.2] at this;exact this)
   obtain⟨b0,g,F⟩:=tu RW r0 (v:=tY o) (by rw[aS,HO.out];rfl);subst g;have m0:=TV.out;rw[show nl -i=(nl -(i+1))+1 by omega,zm,show(d.val K1).nodes[i]?=some (o.map fun p=>p.d.val) by show(d.C.nodes.map _)[i]?=_;rw[aS,HO.out];rfl] at m0;have TW:=jj m0;clear ho
   cases o with
   |none=>
    have d1:J wr b0 i (.pointer none):=F;clear F;go_wp2_with fail;go_roundw
    case rel=>exact⟨i+1,aR,by go_num,d,K1,l,S,TW⟩
    simp[intOf];omega
   |some p=>
    have d1:J wr b0 i p.gx:=F;clear F;have TX:=TW.out;simp only[Option.map_some,aA] at TX;obtain⟨⟨K2,v2⟩,ht,_,hm,X2,z0,v0⟩:=TX;have OL:=mI hm;obtain⟨TT,H0,D0,OL⟩:=j4 ht z0 v0 OL;clear ht z0 v0 hm;have eF:d.C.cd.f=D.C.cd.f:=by rw[S.same.f]
    have l0:=F9 (i<d.C.n) (by rw[<-l.fx.len];exact L1.out);go_wp2_with fail;refine(aeb x _ ⟨d.C.cd.f,d.C.n,i⟩ p.gx d.C.b p.d K1 (l.nat HO) l.xlt l.fx.f1 l.fx.f4 l.fx.n l0 K2 v2 (by rw[eF,S.same.n];exact TT.out)).mono ?_;rintro e w2 ⟨rfl,q0⟩;have GO:=jj q0;clear q0;obtain⟨E,j0,c0,P⟩:=GO.out;have A:=jj (l.go HO c0.nn j0).1;have T2:=jj (l.go HO c0.nn j0).2;have u0:(d.node i ⟨p.gx,E⟩).C.nodes[i]?=some (some ⟨p.gx,E⟩):=aL L1;have C0:=jj u0;have N:=jj P;clear j0 c0 P d1 u0;go_wp2_with fail;refine(Vw A C0).mono ?_;rintro e w3 ⟨rfl,I,a0,Z⟩;have e3:(d.node i ⟨p.gx,E⟩).node i ⟨p.gx,E.outs none 0 []⟩=d.node i ⟨p.gx,E.outs none 0 []⟩:=by simp[qb.node,Eu.node]
    simp only[] at I Z;rw[e3] at I a0;obtain⟨T3,A3,O3⟩:=j3 a0 I Z;clear I Z e3 a0;obtain⟨M,hM,o0⟩:=RL (D:=d) HO N (by rw[S.same.n];exact H0.out);have HM:=jj hM;have B0:=jj o0;clear hM o0;go_wp2_with fail;have LO:=F9 (E.ol.length<=4096) (by have:=OL.out;rw[<-N.out] at this;simpa[bK.val,uy] using this)
    have G:d.C.gc=gc:=by rw[S.same.gc,GC.out]
    rw[<-G];refine(wh A3 i E.oa E.ol.length E.oc E.ol O3 LO M HM).mono ?_;rintro e w4 ⟨rfl,D4,b,c,f⟩;have A4:=jj b;have R:=jj c;have V:=jj (f.trans B0);clear b c f;rw[G];go_wp2_with fail;go_roundw
    case rel=>exact⟨i+1,aR,by go_num,D4,K2,A4,((S.trans T2).trans T3).trans R,by rw[V.out];exact D0.out⟩
    simp[intOf];omega
  obtain rfl:i=nl:=aR;rw[fJ] at TV;have e1:d.val K1=X1:=by have:=TV.out;rw[zm] at this;exact dh this
  have E1:=jj e1;clear e1 n0;have X:J wr gc 19 (.slice D.C.cd.ka D.C.cd.kl D.C.cd.kc):=by have:=l.blk.cell 19;rw[S.same.gc,<-GC.out,S.same.f] at this;exact this
  have A0:D.C.cd.kl=2:=H.fx.kl;rw[A0] at X;obtain⟨ka,e0⟩:=ex D.C.cd.ka;obtain⟨kc,f0⟩:=ex D.C.cd.kc;rw[<-e0,<-f0] at X;have KA:=jj (dH e0 f0);clear e0 f0 A0;have CT:=F0.out;unfold NJ at CT;simp only[aK] at CT;obtain⟨_,s0,p0⟩:=CT;have MU:=jj (mI s0);have G0:=jj p0;clear s0 p0;obtain⟨wm,y0⟩:=ex wr;rw[<-y0] at l S X|-;clear y0;go_wp2_with fail;go_loopw [31] (fun z wr=> ∃j:Nat,j<=2/\z= U j/\ ∃n,mJ x wr n K1/\pW w wr D K n K1/\n.val K1=(if j=0 then X1 else if j=1 then{X1 with t0:=X1.t0.map (· +1)} else{X1 with t0:=X1.t0.map (· +1),ck:={X1.ck with now:=X1.ck.now+1}})) (fun z _=>2 -(intOf z).toNat)
  case atStart=>exact⟨0,aR,by first|rfl|simp,d,l,S,by rw[if_pos rfl];exact E1.out⟩
  case round=>
   obtain⟨j,hj,rfl,m,hA,hS,O⟩:=hrel;obtain⟨A,S2,V2⟩:=j3 hA hS O;clear hA hS O;have RW:=F9 (wr.ownsRow 0 41 1 (.slice ka 2 kc) 2 m.C.kp) (by have:=A.wO;rw[S2.same.f,<-KA.1,<-KA.2,H.fx.kl] at this;exact this)
   have G:=F9 (m.C.gc=gc) (by rw[S2.same.gc,GC.out]);rcases(by omega:j=0\/j=1\/j=2) with rfl|rfl|rfl
   ·cases y:m.d0 with
    |none=>
     obtain⟨b0,g,F⟩:=tu RW (k:=0) aR (v:= .pointer none) (by rw[A.fx.kp,y];rfl);subst g;go_wp2_with fail;go_roundw
     case rel=>exact⟨1,aR,by go_num,m,A,S2,by have e:=V2.out;rw[if_pos rfl] at e;rw[if_neg aR,if_pos rfl,<-e];unfold qb.val;rw[y];rfl⟩
     simp[intOf]
    |some k0=>
    have a:=jj y;obtain⟨b0,g,F⟩:=tu RW (k:=0) aR (v:= .pointer (some ⟨m.g0,0,none⟩)) (by rw[A.fx.kp,y];rfl);subst g;clear y;have V3:=V2.out;rw[if_pos rfl] at V3;have V:=jj V3;have t0:X1.t0=some k0.now:=by rw[<-V.out];show m.d0.map _=_;rw[a.out];rfl
    have T0:=jj t0;clear t0;go_wp2_with fail;refine(VN _ x m.g0 m.C.cd.f 0 k0 (A.EC a).1 (.inl (A.fx.n0 k0 a).2.1) ⟨by rw[(A.fx.n0 k0 a).2.2.1];exact Int.le_refl _,by rw[(A.fx.n0 k0 a).2.2.1];exact(MU.1 _ T0).1,(MU.1 _ T0).2⟩).mono ?_;rintro e w3 ⟨rfl,B,C⟩;have T:=A.afP a B (A.EC a).2 C (fun k hk=> .inl hk) rfl (A.fx.n0 k0 a).2.1 (A.fx.n0 k0 a).2.2.1 (A.fx.n0 k0 a).2.2.2;have A3:=jj T.1;have T3:=jj T.2;clear B C;clear F;go_wp2_with fail;refine(adW A3 rfl).mono ?_;rintro e w4 ⟨Ao,co,rfl,s,D4,b,c,f⟩;obtain⟨A4,R,W,O4⟩:=j4 b c f s;clear b c f s;have q:=F9 (D4.C.gc=gc) (R.same.gc.trans G.out);go_wp2_with fail;rw[<-q.out];refine(wh A4 100 Ao 0 co [] O4 aR _ rfl).mono ?_;rintro e w5 ⟨rfl,D5,r,t,u⟩;obtain⟨A5,S5,V5⟩:=j3 r t u;clear r t u;rw[q.out];go_wp2_with fail;go_roundw
    case rel=>exact⟨1,aR,by go_num,D5,A5,((S2.trans T3).trans R).trans S5,by rw[V5.out,W.out,ahi,V.out,if_neg aR,if_pos rfl,T0.out,Option.map_some]⟩
    simp[intOf]
   ·obtain⟨b0,g,F⟩:=tu RW (k:=1) aR (v:= .pointer (some ⟨m.g1,0,none⟩)) (by rw[A.fx.kp];rfl)
    subst g;have V3:=V2.out;rw[if_neg aR,if_pos rfl] at V3;have V:=jj V3;have ck:m.d1.val=X1.ck:=congrArg CV.ck V;have CK:=jj ck;clear ck;go_wp2_with fail;refine(VN _ x m.g1 m.C.cd.f 1 m.d1 A.BJ.ck (by have:=MU.2.1;rw[<-CK.out] at this;exact this) (by have:=MU.2.2;rw[<-CK.out] at this;exact this)).mono ?_;rintro e w3 ⟨rfl,B,C⟩;have T:=A.acv B C (fun k hk=> .inl hk) rfl A.fx.q1;have A3:=jj T.1;have T3:=jj T.2;clear B C;clear F;go_wp2_with fail;refine(Oj A3).mono ?_;rintro e w4 ⟨Ao,co,rfl,s,D4,b,c,f⟩;obtain⟨A4,R,W,O4⟩:=j4 b c f s;clear b c f s;have q:=F9 (D4.C.gc=gc) (R.same.gc.trans G.out);go_wp2_with fail;rw[<-q.out];refine(wh A4 101 Ao 0 co [] O4 aR _ rfl).mono ?_;rintro e w5 ⟨rfl,D5,r,t,u⟩;obtain⟨A5,S5,V5⟩:=j3 r t u;clear r t u;rw[q.out];go_wp2_with fail;go_roundw
    case rel=>exact⟨2,aR,by go_num,D5,A5,((S2.trans T3).trans R).trans S5,by rw[V5.out,W.out,ahj,V.out,if_neg aR,if_neg aR,<-CK.out];rfl⟩
    simp[intOf]
   go_wp2_with fail;go_end0
   have KK:X1.K=K1:=by rw[<-E1.out];rfl
   have e2:=V2.out;rw[if_neg aR,if_neg aR,G0.out] at e2;have K2:X'.K=K1:=by rw[<-e2];rfl
   rw[K2];exact⟨by trivial,m,A,S2,e2⟩
theorem QV(n:Nat):(pE n).length=n+2:=by simp[pE]
theorem uZ(h:a<n+2):(pE n)[a]?=some (zI n a):=by
 unfold pE zI;by_cases e:a<n
 ·rw[bC (mR e),if_pos e]
  simp[e]
 rw[bN (mR (Nat.le_of_not_lt e)),if_neg e];rcases(by omega:a=n\/a=n+1) with rfl|rfl
 ·simp
 simp;omega
theorem Ws{b:Nat}(d:n<=100)(H:a<n+2)(c:b<n+2)(h:zI n a=zI n b):a=b:=by unfold zI at h;split at h<;>split at h<;>omega
theorem QK{b:Nat}(d:n<=100)(H:a<n+2)(c:b<n+2)(h:a≠b):XQ (n+2) (pE n) (zI n a) (zI n b) (a*(n+2)+b):=by
 have key: ∀a,a<n+2->agl (n+2) (pE n) (zI n a) a:=fun a H=>⟨H,uZ H,fun m f e=>by rw[uZ aR] at e;have:=Ws d aR H (dh e);omega⟩
 exact⟨a,b,key a H,key b c,h,rfl⟩
section
variable{x:Nat}{w w':World}{D:qb}{K:KS}
theorem Z9(h:mJ x w D K)(a b:Nat)(t:a<D.C.n+2)(u:b<D.C.n+2)(n:a≠b)(bs:LI)(rest:List LI)(r:(D.val K).M (a*(D.C.n+2)+b)=bs::rest)(src f:Int)(J:src=zI D.C.n a)(B:f=zI D.C.n b):
  Y 85 #[D.C.cd.gn,U src,U f,U 0] w fun e w'=> ∃A c,e=acK (ac2 #[acX A bs.length c,true])/\w'.ownsRow w.heap.size 5 1 (acX A bs.length c) bs.length (mZ bs)/\
   ∃i,mJ x w' i K/\pW w w' D K i K/\i.C.nodes=D.C.nodes/\i.d1=D.d1/\i.val K={D.val K with M:=ru (D.val K).M (a*(D.C.n+2)+b) rest}:=by
 have O:=h.fx.n;have L:=h.fx.f4;have N:=h.fx.np;have y:a*(D.C.n+2)+b<D.C.nd.n*D.C.nd.n:=by rw[N];exact ZN t u
 obtain⟨k,l⟩:=ex (a*(D.C.n+2)+b);have F:XQ D.C.nd.n D.C.nd.ps src f k:=by rw[h.fx.ps,N,J,B,l];exact QK aR t u n
 rw[<-l] at r y|-;have H:(D.C.nd.ms k).map Prod.snd=bs::rest:=r;obtain⟨q,ms,g,o,p⟩: ∃q ms,D.C.nd.ms k=q::ms/\q.2=bs/\ms.map Prod.snd=rest:=by
  cases e:D.C.nd.ms k with
  |nil=>rw[e] at H;simp at H
  |cons q ms=>
   rw[e] at H;simp only[bV,gT] at H;exact⟨q,ms,rfl,H.1,H.2⟩
 refine(Ye src f 0 w h.afH.nt aR k F 0 (by rw[g];simp) rfl).mono ?_;rintro e w' ⟨G,v,rfl,z,s,I,C⟩;have E:((D.C.nd.ms k)[0]'(by rw[g];simp)).2=bs:=by simp only[g,List.getElem_cons_zero];exact o
 rw[E] at z;obtain⟨A,c,rfl,m⟩:=z;rw[RU] at s;have S:=(Step.refl h.BJ.sys).net (j:=2) (d:=D.C.nd) (gn:=D.C.cd.gn) (room:=64) rfl y s I C;refine⟨A,c,rfl,m,D.net (D.C.nd.qs (ru D.C.nd.g k G) D.C.nd.lost (ru D.C.nd.ms k (Wh (D.C.nd.ms k) 0))),h.abe S,Hf ⟨rfl,rfl,rfl,rfl,rfl,rfl,rfl,rfl⟩ S rfl,rfl,rfl,?_⟩;show CV.mk _ _ _ _ _=CV.mk _ _ _ _ _
 congr 1
 funext j
 show((ru D.C.nd.ms k (Wh (D.C.nd.ms k) 0)) j).map Prod.snd=ru (fun k=>(D.C.nd.ms k).map Prod.snd) k rest j;unfold ru;split
 ·rw[g]
  simp[Wh,p]
 rfl
end
theorem Gm.inv: ∀{a b:Nat} {X X':CV},Gm f n a b X X'-> ∃bs rest,a<n+2/\b<n+2/\a≠b/\X.M (a*(n+2)+b)=bs::rest/\
   ((∃v M z S,b<n/\X.nodes[b]?=some (some v)/\JD ⟨f,n,b⟩ M z bs (X.K,v)=some S/\S.2.out.length<=4096/\DF n b S {X with M:=ru X.M (a*(n+2)+b) rest}=some X')\/
    ((b<n/\X.nodes[b]?=some none\/b=n/\X.t0=none)/\X'={X with M:=ru X.M (a*(n+2)+b) rest})\/
    (b=n+1/\ ∃sr res z s,yN f X.K sr res z bs X.ck=some s/\bs.length<=65536/\X'={X with ck:=s,M:=ru X.M (a*(n+2)+b) rest}))
 |_,_,_,_,.node a b bs rest v M z S X X' h1 h2 h3 h4 h5 h6 h7 h8=>⟨bs,rest,h1,aR,h3,h4,.inl ⟨v,M,z,S,h2,h5,h6,h7,h8⟩⟩
 |_,_,_,_,.dead a b bs rest X h1 h2 h3 h4 h5=>⟨bs,rest,h1,aR,h3,h4,.inr (.inl ⟨.inl ⟨h2,h5⟩,rfl⟩)⟩
 |_,_,_,_,.alv a bs rest X h1 h0 h2 h3=>⟨bs,rest,h1,aR,h0,h2,.inr (.inl ⟨.inr ⟨rfl,h3⟩,rfl⟩)⟩
 |_,_,_,_,.ck a bs rest sr res z s X h1 h2 h3 h4=>⟨bs,rest,aR,aR,aR,h2,.inr (.inr ⟨rfl,sr,res,z,s,h3,h4,rfl⟩)⟩
theorem last_at{α:Type}{l:List α}{r:α}(h:l.getLast?=some r): ∃j,l.length=j+1/\l[j]?=some r:=by
 cases l with
 |nil=>simp at h
 |cons a l=>
  refine⟨l.length,rfl,?_⟩;rw[jO] at h;simpa using h
theorem Tc(x:Nat)(w:World)(D:qb)(K:KS)(h:mJ x w D K)(a b:Nat)(X':CV)(hv:Gm D.C.cd.f D.C.n a b (D.val K) X')(src i:Int)(hs:src=zI D.C.n a)(hd:i=zI D.C.n b):
  Y 51 #[D.C.gc,U src,U i,U 0] w fun e w'=>e=acK true/\ ∃D',mJ x w' D' X'.K/\pW w w' D K D' X'.K/\D'.val X'.K=X':=by
 have n4:=h.fx.n;have f4:=h.fx.f4;have f1:=h.fx.f1;have hK:(D.val K).K=K:=rfl;obtain⟨C,rest,ha,hb,L0,hM,hcase⟩: ∃C rest,a<D.C.n+2/\b<D.C.n+2/\a≠b/\(D.val K).M (a*(D.C.n+2)+b)=C::rest/\
   ((∃v M z S,b<D.C.n/\(D.val K).nodes[b]?=some (some v)/\JD ⟨D.C.cd.f,D.C.n,b⟩ M z C (K,v)=some S/\S.2.out.length<=4096/\DF D.C.n b S {D.val K with M:=ru (D.val K).M (a*(D.C.n+2)+b) rest}=some X')\/
    ((b<D.C.n/\(D.val K).nodes[b]?=some none\/b=D.C.n/\(D.val K).t0=none)/\X'={D.val K with M:=ru (D.val K).M (a*(D.C.n+2)+b) rest})\/
    (b=D.C.n+1/\ ∃sr u0 z s,yN D.C.cd.f K sr u0 z C (D.val K).ck=some s/\C.length<=65536/\X'={D.val K with ck:=s,M:=ru (D.val K).M (a*(D.C.n+2)+b) rest})):=by exact hv.inv
 obtain⟨H,HM,HC⟩:=j3 h hM hcase;have B:=jj (dH hs hd);have l0:=jj (dH ha (dH hb L0));have k1:=h.blk.at_ 17;clear h hv hM hcase hs hd ha hb L0;go_enter func51,ntmps51;go_wp2_with fail;refine(Z9 H a b l0.1 l0.2.1 l0.2.2 C rest HM src i B.1 B.2).mono ?_;rintro e w1 ⟨A,c,rfl,g0,d,B0,F0,P0,N0,I0⟩;obtain⟨A1,S1,V1⟩:=j3 B0 F0 I0;have ND:=jj (dH P0 N0);have w0:=jj g0;clear B0 F0 I0 g0 P0 N0;clear k1;have BL:=jj (show gD w1 A C.length 1 (mZ C) from fH w0);have j0:=F9 (C.length<=c) (qB w0);obtain⟨bl,p0⟩:=ex C.length;rw[<-p0] at BL j0|-;have m0:=jj p0;clear p0;have GC:=F9 (d.C.gc=D.C.gc) S1.same.gc;obtain⟨gc,s0⟩:=ex D.C.gc;rw[<-s0] at GC|-;have t1:=jj s0;clear s0;obtain⟨r,hr⟩:=ex ((qM.wI d.C.cd.f 2 i&&!decide (i∈d.C.fl)));have HR:=jj hr;clear hr;have z0: ∀W,mJ x W d K->Y 86 #[gc,U i] W fun e w'=>e=acK r/\mJ x w' d K/\Be W w':=fun W m=>by rw[<-GC.out];refine(Te W d.C.gc d.C.cd m.blk m.fx.f1 m.fx.f4 d.C.fl (fH m.OI) (by rw[m.fx.fm];exact m.fx.few) i r HR).mono ?_;rintro e w' ⟨rfl,hb⟩;exact⟨rfl,m.below hb,hb⟩
 have k0:=jj z0;clear z0;have N:=F9 (d.C.n=D.C.n) S1.same.n;rcases HC.out with⟨v,M,z,S,g,T,T0,Q0,f0⟩|⟨c0,hX⟩|⟨g,sr,u0,z,s,M0,e0,hX⟩
 ·
  have f:(d.C.nodes.map fun o=>o.map fun p=>p.d.val)[b]?=some (some v):=by rw[ND.1];exact T
  rw[aS] at f;obtain⟨p,hp,S0⟩: ∃p,d.C.nodes[b]?=some (some p)/\p.d.val=v:=by
   cases e:d.C.nodes[b]? with
   |none=>rw[e] at f;cases f
   |some o=>cases o with
    |none=>rw[e] at f;simp at f
    |some p=>rw[e] at f;simp only[Option.map_some,aD] at f;exact⟨p,rfl,f⟩
  have HP:=jj hp;have h1:=jj S0;have dv:i=(b:Int):=by rw[B.2,zI,if_pos g]
  subst dv;have rt:r=true:=by
   rw[HR.out,S1.same.f];have nb: ¬(b:Int)∈d.C.fl:=fun hm=>by have:=(A1.fx.bad b (by rw[N.out];exact g)).2 hm;rw[HP.out] at this;cases this
   rw[decide_eq_false nb,qM.Fa D.C.cd.f 2 b true (by simp;left;omega)];rfl
  subst rt;have i1:(b:Int)<100:=aR;have i2:(0:Int)<=b:=aR;obtain⟨HB,j1,c1,Z⟩:=j4 g T0 Q0 f0;have Z0:=HR;clear T T0 Q0 f0 f hp S0 g n4 f4 f1;go_wp2_with fail;refine(k0.out _ A1).mono ?_;rintro e X ⟨rfl,n,u⟩;have l:=jj n;have B2:=jj u;clear n u;have i0:=jj (BL.below B2);have n0:J X gc 18 (acX d.C.cd.na d.C.n d.C.cd.nc):=by have:=l.blk.cell 18;rw[GC.out] at this;have e:=l.fx.nl;rw[<-e];exact this
  obtain⟨nl,Q⟩:=ex d.C.n;have i3:(b:Int)<nl:=by rw[Q,N.out];have:=HB.out;omega
  have RW:=F9 (X.ownsRow 0 52 1 (acX d.C.cd.na nl d.C.cd.nc) nl (d.C.nodes.map tY)) (by have:=l.yG;rw[l.fx.nl,<-Q] at this;exact this)
  rw[<-Q] at n0;have u1:=jj Q;clear Q;obtain⟨b0,P,d0⟩:=tu RW (k:=b) aR (v:=tY (some p)) (by rw[aS,HP.out];rfl);have d1:J X b0 b p.gx:=d0;rw[P] at n0;clear d0 P;have EF:=F9 (d.C.cd.f=D.C.cd.f) (by rw[S1.same.f]);obtain⟨K2,v2⟩:=S;go_wp2_with fail;refine(aea x _ ⟨d.C.cd.f,d.C.n,b⟩ p.gx d.C.b p.d K (l.nat HP) l.xlt l.fx.f1 l.fx.f4 l.fx.n (by rw[N.out];exact HB.out) src A bl c j0 C i0 m0.symm M z K2 v2 (by rw[EF.out,N.out,h1.out];exact j1.out)).mono ?_;rintro e w3 ⟨rfl,O0⟩;have GO:=jj O0;clear O0;clear n0 d1;obtain⟨G,t0,q0,h0⟩:=GO.out;have A3:=jj (l.go HP q0.nn t0).1;have T3:=jj (l.go HP q0.nn t0).2;have R0:(d.node b ⟨p.gx,G⟩).C.nodes[b]?=some (some ⟨p.gx,G⟩):=aL (ah.1 HP).1;have e1:=jj R0;have a0:=jj h0;clear t0 q0 h0 R0;go_wp2_with fail;refine(Vw A3 e1).mono ?_;rintro e w4 ⟨rfl,y,o0,E⟩;have e4:(d.node b ⟨p.gx,G⟩).node b ⟨p.gx,G.outs none 0 []⟩=d.node b ⟨p.gx,G.outs none 0 []⟩:=by simp[qb.node,Eu.node]
  simp only[] at y E;rw[e4] at y o0;obtain⟨T4,A4,O4⟩:=j3 o0 y E;clear y E e4 o0;obtain⟨MM,D0,E0⟩:=RL (D:=d) (K:=K) HP a0 (by rw[N.out,V1.out];exact Z.out);have a1:=jj D0;have b1:=jj E0;clear D0 E0;go_wp2_with fail;have LO:=F9 (G.ol.length<=4096) (by have:=c1.out;rw[show(v2:ql)=G.val from a0.symm] at this;simpa[bK.val,uy] using this)
  rw[<-GC.out];refine(wh A4 b G.oa G.ol.length G.oc G.ol O4 LO MM a1).mono ?_;rintro e w5 ⟨rfl,D5,I,L,O⟩;have A5:=jj I;have S5:=jj L;have V5:=jj (O.trans b1);clear I L O;go_wp2_with fail;go_ret;have KX:X'.K=K2:=by have:=Z.out;unfold DF at this;simp only[aK] at this;obtain⟨_,_,rfl⟩:=this;rfl
  rw[KX];exact⟨by trivial,D5,A5,((((S1.below B2).trans T3)).trans T4).trans S5,V5⟩
 ·
  have rt:r=false:=by
   rw[HR.out];have nb:i∈d.C.fl:=by
    rcases c0 with⟨g,T⟩|⟨g,ht⟩
    ·have f:(d.C.nodes.map fun o=>o.map fun p=>p.d.val)[b]?=some none:=by rw[ND.1];exact T
     rw[aS] at f;have hp:d.C.nodes[b]?=some none:=by
      cases e:d.C.nodes[b]? with
      |none=>rw[e] at f;cases f
      |some o=>cases o with
       |none=>rfl
       |some p=>rw[e] at f;simp at f
     rw[B.2,zI,if_pos g];exact(A1.fx.bad b (by rw[N.out];exact g)).1 hp
    rw[B.2,g,zI,if_neg aR,Int.sub_self];refine A1.fx.f0.2 ?_;have e:=(congrArg CV.t0 V1).trans ht;replace e:d.d0.map _=none:=e
    cases h:d.d0 with
    |none=>rfl
    |some q=>rw[h] at e;cases e
   rw[decide_eq_true nb];simp
  subst rt;have HX:=jj hX;clear c0 hX n4 f4 f1;go_wp2_with fail;refine(k0.out _ A1).mono ?_;rintro e X ⟨rfl,n,u⟩;have l:=jj n;have B2:=jj u;clear n u;go_wp2_with fail;go_ret;have e:=HX.out;rw[<-V1.out] at e;have KX:X'.K=K:=by rw[e];rfl
  rw[KX];exact⟨by trivial,d,l,S1.below B2,e.symm⟩
 ·
  have dv:i=101:=by rw[B.2,g,zI,if_neg aR];omega
  subst dv;have rt:r=true:=by
   rw[HR.out];have nb: ¬(101:Int)∈d.C.fl:=fun hm=>by have:=A1.fx.flt _ hm;omega
   rw[decide_eq_false nb,qM.Fa d.C.cd.f 2 101 true bJ];rfl
  subst rt;obtain⟨HX,X0,V0⟩:=j3 hX M0 e0;have Z0:=HR;clear hX M0 e0 g n4 f4 f1;go_wp2_with fail;refine(k0.out _ A1).mono ?_;rintro e X ⟨rfl,n,u⟩;have l:=jj n;have B2:=jj u;clear n u;have i0:=jj (BL.below B2);have x0:J X gc 19 (acX d.C.cd.ka 2 d.C.cd.kc):=by have:=l.blk.cell 19;rw[GC.out] at this;have e:=l.fx.kl;rw[<-e];exact this
  have RW:=F9 (X.ownsRow 0 41 1 (acX d.C.cd.ka 2 d.C.cd.kc) 2 d.C.kp) (by have:=l.wO;rw[l.fx.kl] at this;exact this)
  obtain⟨b0,P,d1⟩:=tu RW (k:=1) aR (v:= .pointer (some ⟨d.g1,0,none⟩)) (by rw[l.fx.kp];rfl);rw[P] at x0;clear P;obtain⟨g1,r0⟩:=ex d.g1;rw[<-r0] at d1;have v0:=jj r0;clear r0;have y0:=F9 (d.d1.val=(D.val K).ck) (by rw[ND.2];rfl);have EF:=F9 (d.C.cd.f=D.C.cd.f) (by rw[S1.same.f]);have A0: ∀W,mJ x W d K->gD W A bl 1 (mZ C)->Y 89 #[g1,acX A bl c] W fun e w'=>(∃t,e=acK t)/\ ∃D2,mJ x w' D2 K/\pW W w' d K D2 K/\D2.val K=X':=fun W m l1=>by
   have hx:=HX.out;have R:=X0.out;rw[<-y0.out] at R;rw[v0.out];unfold yN at R;by_cases V:d.d1.waits=false
   ·rw[if_pos (show d.d1.val.waits=false from V)] at R
    injection R with R;refine(Uj W x d.g1 d.C.cd.f 1 d.d1 m.BJ.ck V A bl c).mono ?_;rintro e w' ⟨rfl,rfl⟩;refine⟨⟨_,rfl⟩,d,m,pW.refl _ _ _,?_⟩;rw[hx,V1.out,<-R,y0.out]
   rw[if_neg (show ¬d.d1.val.waits=false from V)] at R;simp only[aA,aK] at R;obtain⟨q,hq,_,o1,r1⟩:=R;have F:=mI o1;obtain⟨j,hj,q1⟩:=last_at hq;refine(adY W x d.g1 d.C.b d.C.cd.f 1 d.d1 m.BJ.ck m.fx.f1 m.fx.f4 aR K (by rw[m.fx.n1];exact m.Pt) (mR V) m.xlt F.il F.al F.el j hj q q1 q.2.1 rfl sr u0 F.aaB A bl c C z F.z40 F.ab2 F.bytes m0.symm (by rw[m0.out];exact V0.out) j0 l1 (by rw[EF.out];exact F.ao2) aV F.it F.ao1).mono ?_;rintro e w' ⟨rfl,d2,n1,X,i2,a2,n2,l2,e2,o2,s1,v1,p1,m1⟩;have q2:d2.quiet:=o2.trans m.fx.q1;have tt:=m.acv n1 p1 m1 s1 q2;refine⟨⟨_,rfl⟩,d.k1 d2,tt.1,tt.2,?_⟩;rw[hx,show(d.k1 d2).val K={d.val K with ck:=d2.val} from rfl,V1.out,<-r1];show CV.mk _ _ _ _ _=CV.mk _ _ _ _ _
   congr 1
   show CkV.mk _ _ _ _ _ _=CkV.mk _ _ _ _ _ _;rw[X,i2,a2,n2,l2,e2,EF.out];rfl
  have U0:=jj A0;clear A0;go_wp2_with fail;refine(U0.out _ l i0).mono ?_;rintro e w3 ⟨⟨t,rfl⟩,D3,C0,G0,J0⟩;obtain⟨A3,S3,V3⟩:=j3 C0 G0 J0;clear C0 G0 J0;clear x0 d1;have Y0:=F9 (g1=D3.g1) (by rw[S3.same.g1];exact v0.out);have W0:=F9 (gc=D3.C.gc) (by rw[S3.same.gc];exact GC.symm);rw[Y0.out,W0.out];go_wp2_with fail;refine(Oj A3).mono ?_;rintro e w4 ⟨Ao,co,rfl,E,D4,y,H0,K0⟩;obtain⟨A4,S4,V4,O4⟩:=j4 y H0 K0 E;clear y H0 K0 E;go_wp2_with fail;rw[<-S4.same.gc];refine(wh A4 101 Ao 0 co [] O4 aR _ rfl).mono ?_;rintro e w5 ⟨rfl,D5,I,L,O⟩;obtain⟨A5,S5,V5⟩:=j3 I L O;clear I L O;go_wp2_with fail;go_ret;have KX:X'.K=K:=by rw[HX.out];rfl
  rw[KX];exact⟨by trivial,D5,A5,(((S1.below B2).trans S3).trans S4).trans S5,by rw[V5.out,V4.out];exact V3.out⟩
theorem Ji{ms:Nat->List (Value×List Int)}: ∀N,(∀j,j<N->ms j= [])->tK n ps ms N= []
 |0,_=>rfl
 |N+1,h=>by rw[wE,h N aR,if_neg bJ,Ji N fun j hj=>h j aR]
theorem Mt{ms:Nat->List (Value×List Int)}(hk:ms k≠ [])(h0: ∀j,j<k->ms j= []): ∀d,∃r,tK n ps ms (k+1+d)=(ps.getD (k/n) 0,ps.getD (k%n) 0)::r
 |0=>⟨[],by rw[Nat.add_zero,wE,if_pos (List.length_pos_iff.2 hk),Ji k h0];rfl⟩
 |d+1=>by
  obtain⟨r,hr⟩:=Mt hk h0 d;rw[show k+1+(d+1)=(k+1+d)+1 by omega,wE,hr];split
  ·exact⟨r++ [_],rfl⟩
  exact⟨r,rfl⟩
theorem Rf(h:a<n+2):(pE n).getD a 0=zI n a:=by rw[bE,uZ h];rfl
theorem OZ{D:qb}:(D.val K).M k= []↔D.C.nd.ms k= []:=by show(D.C.nd.ms k).map _= []↔_;simp
theorem Xw{D:qb}(h:mJ x w D K): ∃L:List (Int×Int),(∀k,Hz D.C.n (D.val K).M k-> ∃r,L=(zI D.C.n (k/(D.C.n+2)),zI D.C.n (k%(D.C.n+2)))::r)/\((∀k,k<(D.C.n+2)*(D.C.n+2)->(D.val K).M k= [])->L= [])/\
  Y 50 #[D.C.cd.gn] w fun e w'=> ∃A c,e=acK (acX A L.length c)/\Xh w' w.heap.size (acX A L.length c) L/\Be w w':=by
 have l:=h.fx.n;have F:=h.fx.f4;have N:=h.fx.np;refine⟨tK D.C.nd.n D.C.nd.ps D.C.nd.ms (D.C.nd.n*D.C.nd.n),fun k i=> ?_,fun b=> ?_,abf w h.afH.nt aR _ rfl⟩
 ·obtain⟨d,f,g⟩:=i
  rw[N,h.fx.ps];obtain⟨r,a⟩:=Mt (n:=D.C.n+2) (ps:=pE D.C.n) (ms:=D.C.nd.ms) (k:=k) (fun e=>f (OZ.2 e)) (fun j H=>OZ.1 (g j H)) ((D.C.n+2)*(D.C.n+2) -(k+1));rw[show k+1+((D.C.n+2)*(D.C.n+2) -(k+1))=(D.C.n+2)*(D.C.n+2) by omega] at a;refine⟨r,?_⟩;rw[a,Rf,Rf]
  ·exact ji _ aR
  exact(eB aR).2 d
 rw[N];exact Ji _ fun j H=>OZ.1 (b j H)
theorem ZY(x:Nat)(w:World)(D:qb)(K:KS)(h:mJ x w D K)(N:CV)(hv:zP D.C.cd.f D.C.n (D.val K) N)(most:Int)(hm:1950<=most/\most<=1000000):
  Y 13 #[D.C.gc,U most] w fun e w'=>(∃z,e= .returned (U z))/\ ∃r,mJ x w' r N.K/\pW w w' D K r N.K/\r.val N.K=N:=by
 obtain⟨tot,X1,q0,g0,h0⟩:=hv;obtain⟨HD,HT,H⟩:=j3 g0 h0 h;obtain⟨gc,B⟩:=ex D.C.gc;rw[<-B];have GC:=jj B;clear h g0 h0 B;obtain⟨m1,m2⟩:=hm;go_enter func13,ntmps13;go_wp2_with fail;go_loopw [5] (fun z wr=> ∃i m:Nat,i+m=tot/\z= U i/\ ∃r K',mJ x wr r K'/\pW w wr D K r K'/\Ch D.C.cd.f D.C.n m (r.val K') X1) (fun z _=>tot+1 -(intOf z).toNat)
 case atStart=>exact⟨0,tot,aR,by first|rfl|simp,D,K,H,pW.refl _ D K,HD⟩
 case round=>
  obtain⟨i,m,r0,rfl,d,g,hA,hS,hT⟩:=hrel;obtain⟨O,S,DR⟩:=j3 hA hS hT;clear hA hS hT;have i1:(i:Int)<most:=aR;have i2:(0:Int)<=i:=aR;have G:=F9 (d.C.gc=gc) (by rw[S.same.gc,GC.out]);have o0:J wr gc 17 d.C.cd.gn:=by have:=O.blk.cell 17;rwa [G.out] at this
  obtain⟨L,Z,a0,l⟩:=Xw O;obtain⟨LF,LN,LC⟩:=j3 Z a0 l;clear Z a0 l;obtain⟨ll,C⟩:=ex L.length;rw[<-C] at LC;have s:=jj C;clear C;have f:=DR.out
  cases m with
  |zero=>
   obtain⟨e1,e0⟩:d.val g=X1/\ ∀k,k<(D.C.n+2)*(D.C.n+2)->(d.val g).M k= []:=by
    generalize d.val g=y at f;cases f with
    |done _ h=>exact⟨rfl,h⟩
   have l0:ll=0:=by rw[s.out,LN.out (by rw[S.same.n];exact e0)];rfl
   subst l0;have E1:=jj e1;clear f e0 e1;go_wp2_with fail;refine LC.mono ?_;rintro e W ⟨A,c,rfl,o,a⟩;have A2:=jj (O.below a);have v:=jj (S.below a);clear o a;go_wp2_with fail;rw[<-G.out];refine(adn x _ d g A2 N (by rw[E1.out,S.same.n,S.same.f];exact HT.out)).mono ?_;rintro e w3 ⟨rfl,D3,T,b0,c0⟩;obtain⟨A3,S3,V3⟩:=j3 T b0 c0;clear T b0 c0;go_wp2_with fail;go_ret;exact⟨⟨_,by trivial⟩,D3,A3,v.trans S3,V3⟩
  |succ m=>
   obtain⟨k,y,hf,hd,hr⟩: ∃k y,Hz D.C.n (d.val g).M k/\Gm D.C.cd.f D.C.n (k/(D.C.n+2)) (k%(D.C.n+2)) (d.val g) y/\Ch D.C.cd.f D.C.n m y X1:=by
    generalize d.val g=y at f;cases f with
    |step _ k _ Y1 _ h1 h2 h3=>exact⟨k,Y1,h1,h2,h3⟩
   obtain⟨rl,E⟩:=LF.out k (by rw[S.same.n];exact hf);have Q:=jj hd;have t:=jj hr;obtain⟨q,p0⟩: ∃q,ll=q+1:=⟨rl.length,by rw[s.out,E];rfl⟩;subst p0;have R:=jj E;clear f hf hd hr E;have q1: ¬((q+1:Nat):Int)=0:=aR;have q2:((q+1:Nat):Int)≠0:=aR;go_wp2_with fail;refine LC.mono ?_;rintro e W ⟨A,c,rfl,o,a⟩;have A2:=jj (O.below a);have v:=jj (S.below a);have P2:=jj o;clear o a;go_upto_region 5 with fail;clear o0 q1 q2;obtain⟨X,F⟩:=ex (zI d.C.n (k/(d.C.n+2)));obtain⟨M,I⟩:=ex (zI d.C.n (k%(d.C.n+2)));have P3:=P2.out;rw[R.out,<-F,<-I] at P3;have i0:=jj F;have k0:=jj I;clear F I;have hlen:q+1=(((X,M):Int×Int)::rl).length:=by rw[<-s.symm,R.out];rfl
   have P4:W.ownsRow wr.heap.size 115 2 (.slice A (q+1) c) (q+1) ((((X,M):Int×Int)::rl).flatMap Il):=by unfold Xh at P3;rw[<-hlen] at P3;exact P3
   obtain⟨b,rfl⟩: ∃b,A=some ⟨b,0,none⟩:=by
    rcases rF P4 with⟨_,h,_⟩|h
    ·omega
    exact h
   have RR:=Row.sG P4;have n0:wr.heap.size<=b:=(dG P4 b (by rw[dQ];rfl)).1;have P:=F9 (b∉d.nE g) (fun hm=>by have:=O.lt b hm;omega);have d0:J W b 0 (U X):=RR.cell (by simp[Il]);have d1:J W b 1 (U M):=RR.cell (by simp[Il]);have DD:=jj (dH d0 d1);have j0:(0:Int)<((q+1:Nat):Int):=aR;have j1:0<q+1:=aR;clear d0 d1 hlen n0;have KS: ∀u,Be W u->J u b 0 (U X)/\J u b 1 (U M):=fun u hu=>⟨kept hu _ _ DD.1,kept hu _ _ DD.2⟩;refine rP (fun u=>J u b 0 (U X)/\J u b 1 (U M)) 10 (tk 0 9 (.one 9 .done)) (KS _ ((aC _ _).drew)) ?_;intro n;obtain⟨w3,p⟩:=ex W.drew;have A3:=F9 (mJ x w3 d g) (by rw[p];exact A2.below (aC _ _).drew);have m0:=F9 (pW w w3 D K d g) (by rw[p];exact v.below (aC _ _).drew);rw[<-p] at n|-;clear p
   repeat refine' tT ?_
   refine pO fun KT bq=> ?_;go_simp;rw[<-G.out];refine(Tc x w3 d g A3 (k/(d.C.n+2)) (k%(d.C.n+2)) y (by rw[S.same.n,S.same.f];exact Q.out) X M i0 k0).mono ?_;rintro e w4 ⟨rfl,D4,V,j,f0⟩;obtain⟨A4,S4,V4⟩:=j3 V j f0;clear V j f0;rw[G.out];have j:J w4 b 0 (U X)/\J w4 b 1 (U M):=⟨S4.only.cell_ n.1 P,S4.only.cell_ n.2 P⟩;refine oH bq j ?_;clear n;refine aU ?_;clear j;go_wp2_with fail;go_roundw
   case rel=>exact⟨i+1,m,aR,by go_num,D4,y.K,A4,m0.trans S4,by rw[V4.out];exact t.out⟩
   simp[intOf];omega
theorem aaW (w:World) (x gk b:Nat) (f id:Int) (d:sI) (h:qF x w f id gk d) (h1:1<=f) (h4:f<=4) (W1:0<=id/\id<2) (K:List (Int×List Int)) (hN:vC w d.nn b K) (hw:d.waits=false) (hx:x<w.heap.size) (hl:d.il.length<=1000) (ho:d.ol.length<=1000) (hlen:K.length+1<1048576)
  (kd ky vl:Int) (hv:mq 2 (id,(d.il.length:Int)+1,kd,ky,vl,0)=true) (x0:xH (id,(d.il.length:Int)+1,kd,ky,vl,0)) (q:Int×List Int) (hq:q=(100+id,gM (id,(d.il.length:Int)+1,kd,ky,vl,0))) (c1:Ns q) (r:Rq) (hr:r=(id,(d.il.length:Int)+1,kd,ky,vl,num (sealed K q) q))
  (q':Int×List Int) (S0:q'=(100+id,dF (mU id r))) (bs:LI) (P0:bs=mD (num (sealed (sealed K q) q') q').toNat++dF (mU id r)) (n:Nat) (hn:(n:Int)=3*f+1):
  Y 47 #[gk,.agg #[U kd,U ky,U vl]] w fun e w'=>e= .returned (.tuple #[Kh r,U 0])/\ ∃d' x',qF x' w' f id gk d'/\d'.waits=true/\d'.il=d.il++ [r]/\d'.at_=d.now/\d'.now=d.now/\d'.al= []/\d'.el=d.el/\d'.nn=d.nn/\d'.gt=d.gt/\
   uy d'.ol=uy d.ol++(List.range n).map (fun i:Nat=>((i:Int),bs))/\vC w' d.nn b (sealed (sealed K q) q')/\Only (b::d.foot gk) w w'/\(∀g∈d'.foot gk,g∈d.foot gk\/w.heap.size<=g)/\(x'=x\/w.heap.size<=x'):=by
 obtain⟨i0,Q1,R1,S1,T1⟩:=info_parts rT;obtain⟨R,B,C,D,E,F⟩:=r;obtain⟨nn,P,waits,I,ic,il,at_,aa,ac,al,ea,ec,el,oa,oc,ol,N⟩:=d;simp only at hN hw hl ho hv x0 hq hr S0 P0;subst hw;obtain⟨m,p⟩:=ex il.length;obtain⟨om,A0⟩:=ex ol.length;obtain⟨am,X0⟩:=ex al.length;obtain⟨em,Q0⟩:=ex el.length;rw[<-p] at hl hv x0 hq hr;rw[<-A0] at ho;have HB:=F9 (aZ w gk 120 #[U f,U 2,U 2,U 4,U 64,U 8,U 8,U 8,U 1,U 2,U 12,U 8,U 6,U 2,U 6,
 U id,nn,P,false,.slice I m ic,U at_,.slice aa am ac,.slice ea em ec,.slice oa om oc]) (by rw[p,A0,X0,Q0];exact h.blk)
 obtain⟨H,HN,HV,L0,HQ,U0⟩:=j6 h hN hv x0 hq c1;obtain⟨HR,s1,l1,o1,HX,HM⟩:=j6 hr S0 P0 hn hx p;have p1:=jj A0;have m1:=jj Q0;have H0:=F9 (b<w.heap.size) (by obtain⟨es,V1,hb,_⟩:=hN.map.ex;exact(eX.1 hb).1);have FB:=F9 (∀g∈(⟨nn,P,false,I,ic,il,at_,aa,ac,al,ea,ec,el,oa,oc,ol,N⟩:sI).foot gk,g≠b/\g≠nn) (fun g j=>by
  have key: ∀{t:TypeId} {cs:AV},aZ w g t cs->t≠155->g≠b/\g≠nn:=fun hb ht=>⟨fun e=>hN.far hb e.symm,fun e=>hb.nY hN.obj ht e⟩;simp only[sI.foot,ay,aQ] at j;rcases j with rfl|rfl|j|j|j|j
  ·exact key h.blk aV
  ·exact key h.Bc aV
  ·obtain⟨_,cs,S⟩:=dx h.yK g j;exact key S aV
  ·obtain⟨_,cs,S⟩:=dx h.ans g j;exact key S aV
  ·obtain⟨_,cs,S⟩:=dx h.acc g j;exact key S aV
  obtain⟨_,cs,S⟩:=dx h.out.own g j;exact key S aV)
 have g0:=HB.at_ 18;clear hN hv x0 hq c1 hr S0 P0 hn hx p A0 X0 Q0 h;go_enter func47,ntmps47;go_upto_region 1 with fail;generalize hv1:w.alloc _=v1;generalize hg3:w.heap.size=g3;replace hv1:=hv1.symm;replace hg3:=hg3.symm;obtain⟨L,o0⟩:=ex (v1.alloc (.cells #[U 0,U 0,U 0,U 0,U 0,U 0] 49));obtain⟨g4,v0⟩:=ex v1.heap.size;have eg:g3+1=g4:=by rw[v0,hv1,hg3];simp
 rw[<-o0]
 try rw[eg]
 try rw[<-v0]
 have X3:=F9 (aZ L g3 38 #[U kd,U ky,U vl]) (by rw[o0];refine aZ.alloc ?_ _;rw[hv1,hg3];exact aZ.new _ _ _);have X4:=xNew o0 v0;have B2:=F9 (Be w L) (by rw[o0,hv1];exact(nC.alloc bJ _));have GE:=F9 (w.heap.size<=g3/\w.heap.size<=g4) ⟨aR,aR⟩;clear hv1 o0 hg3 v0 eg g0;have g0:J L gk 18 false:=kept B2 _ _ (HB.cell 18);go_upto_region 3 with fail;go_cut [6,7] from 13 to 36 (fun q6 q7 wx=>q7= U 0/\ ∃g6,q6= .pointer (some ⟨g6,0,none⟩)/\aZ wx g6 49 #[U R,U B,U C,U D,U E,U F]/\L.heap.size<=g6/\vC wx nn b (sealed K q)/\Only [b] L wx)
 case first=>
  have KS:=F9 (∀w',Only [b] L w'->J w' gk 16 nn/\J w' gk 1 (U 2)/\J w' gk 15 (U id)/\J w' gk 19 (.slice I m ic)/\J w' g3 0 (U kd)/\J w' g3 1 (U ky)/\J w' g3 2 (U vl)) fun w' o=>by have k1:=(HB.below B2 HB.lt).only o (by simpa using(FB.out gk (by simp[sI.foot])).1);have k2:=X3.only o (by have:=H0.out;have:=GE.1;simp;omega);exact⟨k1.cell 16,k1.cell 1,k1.cell 15,k1.cell 19,k2.cell 0,k2.cell 1,k2.cell 2⟩
  have e1:IntKind.i64.wrap ((m:Int)+1)=(m:Int)+1:=aH _ aR;refine rP (fun w'=>J w' gk 16 nn/\J w' gk 1 (U 2)/\J w' gk 15 (U id)/\J w' gk 19 (.slice I m ic)/\J w' g3 0 (U kd)/\J w' g3 1 (U ky)/\J w' g3 2 (U vl)) 27 (tk 0 20 (.two 20 (tk 21 3 (.one 24 (.one 25 (.take 26 .done)))) 24 (.one 20 (tk 21 3 (.one 25 (.take 26 .done)))))) (KS.out _ (Only.refl _ _).drew) ?_;intro l;obtain⟨v3,p0⟩:=ex L.drew;have O3:=F9 (Only [b] L v3) (by rw[p0];exact(Only.refl _ _).drew);have B3:=F9 (Be w v3) (by rw[p0];exact B2.drew);have Z3:=F9 (v3.heap.size=L.heap.size) (by rw[p0];rfl);rw[<-p0] at l|-;clear p0 g0
  repeat refine' tT ?_
  refine qN ?_ ?_
  ·refine pO fun KT bq=> ?_
   go_simp;refine(aa3 v3 nn b K (HN.below B3) 2 id ((m:Int)+1) kd ky vl HV L0 aR aR q HQ U0 _ rfl).mono ?_;rintro e v4 ⟨rfl,n0,h0⟩;rw[<-HR.out,show Kh (R,B,C,D,E,F)= .agg #[U R,U B,U C,U D,U E,U F] from rfl];have N4:=jj n0;have O4:=F9 (Only [b] L v4) (O3.trans h0);clear n0 h0;have S4:=KS.out _ O4;refine oH bq S4 ?_;clear l;have l:=S4
   repeat refine' tT ?_
   refine pO fun KT bq=> ?_;go_simp;generalize hv5:v4.alloc _=v5;generalize BR:v4.heap.size=g6;replace hv5:=hv5.symm;replace BR:=BR.symm;have X:=xNew hv5 BR;have G:=F9 (L.heap.size<=g6) (by rw[BR];exact O4.size);have O5:=F9 (Only [b] L v5) (by rw[hv5];exact O4.alloc _);have N5:=F9 (vC v5 nn b (sealed K q)) (N4.below (by rw[hv5];exact nC));clear hv5 BR;have S5:=KS.out _ O5;refine oH bq S5 ?_;clear l;have l:=S5
   repeat refine' tT ?_
   refine pO fun KT bq=> ?_;have y0:=X.at_ 0;have z0:=X.frozen 0;have y1:=X.at_ 1;have z1:=X.frozen 1;have y2:=X.at_ 2;have z2:=X.frozen 2;have y3:=X.at_ 3;have z3:=X.frozen 3;have y4:=X.at_ 4;have z4:=X.frozen 4;have y5:=X.at_ 5;have z5:=X.frozen 5;go_simp;obtain⟨w9,z⟩:=ex (setW v5 g6 0 [U R,U B,U C,U D,U E,U F]);have T:=jj (uL z X);have l0:=vM z;simp only[setW,aO,Nat.reduceAdd] at z;rw[<-z];clear z y0 z0 y1 z1 y2 z2 y3 z3 y4 z4 y5 z5;have O9:Only [b] L w9:=O5.then l0 (by simpa using .inr G);have N9:=N5.only l0 (mR (N5.obj.nY X aV)) (mR (N5.far X));have S9:=KS.out _ O9;refine oH bq S9 ?_;clear l;have l:=S9
   repeat refine' tT ?_
   refine aU ?_;go_wp2_with fail;go_meet;exact⟨rfl,g6,rfl,T,G,N9,O9⟩
  refine pO fun KT bq=> ?_;go_simp;generalize hv4:v3.alloc _=v4;generalize BR:v3.heap.size=g6;replace hv4:=hv4.symm;replace BR:=BR.symm;have u0:=xNew hv4 BR;have G:=F9 (L.heap.size<=g6) (by rw[BR,Z3.out];exact aF _);have O4:=F9 (Only [b] L v4) (by rw[hv4];exact O3.alloc _);have B4:=GN B3 hv4;clear hv4 BR;have S4:=KS.out _ O4;refine oH bq S4 ?_;clear l;have l:=S4
  repeat refine' tT ?_
  refine pO fun KT bq=> ?_;go_simp;refine(aa3 v4 nn b K (HN.below B4) 2 id ((m:Int)+1) kd ky vl HV L0 aR aR q HQ U0 _ rfl).mono ?_;rintro e v5 ⟨rfl,n0,h0⟩;rw[<-HR.out,show Kh (R,B,C,D,E,F)= .agg #[U R,U B,U C,U D,U E,U F] from rfl];have N5:=jj n0;have X:=F9 (aZ v5 g6 49 #[U 0,U 0,U 0,U 0,U 0,U 0]) (u0.only h0 (by have:=H0.out;have:=G.out;have:=B2.size;simp;omega));have O5:=F9 (Only [b] L v5) (O4.trans h0);clear n0 h0;have S5:=KS.out _ O5;refine oH bq S5 ?_;clear l;have l:=S5
  repeat refine' tT ?_
  refine pO fun KT bq=> ?_;have y0:=X.at_ 0;have z0:=X.frozen 0;have y1:=X.at_ 1;have z1:=X.frozen 1;have y2:=X.at_ 2;have z2:=X.frozen 2;have y3:=X.at_ 3;have z3:=X.frozen 3;have y4:=X.at_ 4;have z4:=X.frozen 4;have y5:=X.at_ 5;have z5:=X.frozen 5;go_simp;obtain⟨w9,z⟩:=ex (setW v5 g6 0 [U R,U B,U C,U D,U E,U F]);have T:=jj (uL z X);have l0:=vM z;simp only[setW,aO,Nat.reduceAdd] at z;rw[<-z];clear z y0 z0 y1 z1 y2 z2 y3 z3 y4 z4 y5 z5;have O9:Only [b] L w9:=O5.then l0 (by simpa using .inr G);have N9:=N5.only l0 (mR (N5.obj.nY X aV)) (mR (N5.far X));have S9:=KS.out _ O9;refine oH bq S9 ?_;clear l;have l:=S9
  repeat refine' tT ?_
  refine aU ?_;go_wp2_with fail;go_meet;exact⟨rfl,g6,rfl,T,G,N9,O9⟩
 case rest=>
  obtain⟨rfl,g6,rfl,BR,Y0,R0,w0⟩:=hcut;obtain⟨w3,T0⟩:=ex wc;rw[<-T0];rw[<-T0] at BR R0 w0;clear T0;have N3:=jj R0;have X:=jj BR;have O3:=F9 (Only [b] w w3) ((Only.of_below B2).trans w0);have G:=F9 (w.heap.size<=g6) (aG B2.size Y0);have A:=F9 (qF x w3 f id gk ⟨nn,P,false,I,ic,il,at_,aa,ac,al,ea,ec,el,oa,oc,ol,N⟩) (H.only O3 (fun g j=>by simp only[au] at j;subst j;exact .inr fun t cs S=>absurd rfl (HN.far S)) fun g j=>by simpa using(FB.out g j).1);have t0:=jj (HB.only O3 (by simpa using(FB.out gk (by simp[sI.foot])).1));have u0:=jj (X4.only w0 (by have:=H0.out;have:=GE.2;simp;omega));have x1:=F9 (g4≠g6) (tL X4.lt);clear BR Y0 R0 w0 g0;go_upto_region 6 with fail;refine rD (fun w'=>J w' gk 19 (.slice I m ic)/\J w' g6 0 (U R)/\J w' g6 1 (U B)/\J w' g6 2 (U C)/\J w' g6 3 (U D)/\J w' g6 4 (U E)/\J w' g6 5 (U F)) 10 (tk 0 6 (.one 6 (.one 7 (.one 8 (.take 9 (.one 10 .done)))))) ⟨t0.drew.cell 19,X.drew.cell 0,X.drew.cell 1,X.drew.cell 2,X.drew.cell 3,X.drew.cell 4,X.drew.cell 5⟩ fun v5 E5 l=> ?_;have KS:=F9 (∀w',Only [] w3 w'->J w' gk 19 (.slice I m ic)/\J w' g6 0 (U R)/\J w' g6 1 (U B)/\J w' g6 2 (U C)/\J w' g6 3 (U D)/\J w' g6 4 (U E)/\J w' g6 5 (U F)) fun w' o=>by have k1:=t0.only o bJ;have k2:=X.only o bJ;exact⟨k1.cell 19,k2.cell 0,k2.cell 1,k2.cell 2,k2.cell 3,k2.cell 4,k2.cell 5⟩
  repeat refine' tT ?_
  refine pO fun KT bq=> ?_;go_simp;generalize hv7:v5.alloc _=v7;generalize sM:v5.heap.size=g7;replace hv7:=hv7.symm;replace sM:=sM.symm;have E7:=GN E5 hv7;have X7:=xNew hv7 sM;clear hv7 sM;have S7:=KS.out _ (Only.of_below E7);refine oH bq S7 ?_;clear l;have l:=S7
  repeat refine' tT ?_
  refine pO fun KT bq=> ?_;refine oo (by rfl) _ _ _ (by rfl) 0 49 i0 _ 6 48 underlying46 Q1 R1 S1 T1 rfl aR I m ic (il.flatMap rA) (by rfl) (by rw[HM.out];exact own_below A.yK E7) (some ⟨g7,0,none⟩) 1 1 (rA (R,B,C,D,E,F)) (by rfl) (gD.nR (n:=1) (s:=6) X7 rfl) (fun u hu=>Bt [(R,B,C,D,E,F)] u (mR hu)) (by unfold maxLen;omega) aR (bF _) ?_;intro M c8 V h8;have O0: ∀k∈(I.map (·.block)).toList,k=x:=fun k hk=>A.SE k (aJ.1 hk);have A1: ∀k∈(I.map (·.block)).toList,k≠g6:=fun k hk e=>by have:=O0 k hk;have:=HX.out;have:=G.out;omega
  have w1:=F9 (g4∉(I.map (·.block)).toList) fun p=>by have:=O0 g4 p;have:=HX.out;have:=GE.2;omega
  have B1: ∀k∈(I.map (·.block)).toList,k≠gk:=oJ A.yK t0 aV;have o8:=h8.only;have P8:=F9 (Only (I.map (·.block)).toList w3 V) ((Only.of_below E7).trans o8);have K8:=jj (t0.only P8 fun p=>B1 _ p rfl);have Q:=jj (X.only P8 fun p=>A1 _ p rfl);have G1:=jj (u0.only P8 w1);have b0: ∀g∈(I.map (·.block)).toList,nV x w3 g:=fun g j=> .inl ⟨O0 g j,fun t cs S=>by obtain⟨_,W0,P1⟩:=dx A.yK g j;exact sN P1 S⟩
  have d0:=F9 (vT V P N) (aZ.only A.Bc P8 fun p=>oJ A.yK A.Bc aV _ p rfl);have G0:=jj (wF A.ans P8 fun g j p=>uP A.ans A.yK aV g j p);have E0:=jj (wF A.acc P8 fun g j p=>uP A.acc A.yK aV g j p);have k0:=F9 (nJ x V oa ol.length oc ol) (A.out.out.only P8 b0 fun g j p=>uP A.out.out.own A.yK aV g (aJ.2 j) p);have N8:=F9 (vC V nn b (sealed K q)) (N3.only P8 (fun p=>oJ A.yK N3.obj aV _ p rfl) (fun p=>by obtain⟨_,W0,S⟩:=dx A.yK _ p;exact N3.far S rfl));obtain⟨x',s0,N0⟩: ∃x',(x'=x\/w3.heap.size<=x')/\Hid (∀g,M.map (·.block)=some g->g=x'):=by
   cases ha:M.map (·.block) with
   |none=>exact⟨x,.inl rfl,jj fun g j=>by cases j⟩
   |some k=>
    refine⟨k,?_,jj fun g j=>(dh j).symm⟩;rcases h8.at_ k ha with h|h
    ·exact .inl (A.SE k h)
    exact .inr (aG E7.size h)
  have a0:Hid (nJ x' V oa ol.length oc ol):=by
   rcases s0 with rfl|s0
   ·exact k0
   exact jj (k0.both (A.out.out.re s0))
  have H1:Hid (x'<V.heap.size):=by
   have:M.map (·.block)=some x'\/M=none:=by
    cases M with
    |none=>exact .inr rfl
    |some a=>exact .inl (by have:=N0.out a.block rfl;simp[this])
   rcases this with h|h
   ·exact jj (h8.own.lt x' (by rw[dQ];exact h)).2
   subst h;have:=rF h8.own;simp at this
  have j0:=F9 (V.ownsRow 0 49 6 (.slice M (m+1) c8) (m+1) ((il++ [(R,B,C,D,E,F)]).flatMap rA)) (by rw[bS];simpa using h8.own);have g1:=F9 (∀k,M.map (·.block)=some k->I.map (·.block)=some k\/w3.heap.size<=k) fun k hk=>by
   rcases h8.at_ k hk with h|h
   ·exact .inl h
   exact .inr (aG E7.size h)
  have V0:=jj s0;clear h8 o8 b0 s0;have S8:J V gk 19 (.slice I m ic)/\J V g6 0 (U R)/\J V g6 1 (U B)/\J V g6 2 (U C)/\J V g6 3 (U D)/\J V g6 4 (U E)/\J V g6 5 (U F):=⟨K8.cell 19,Q.cell 0,Q.cell 1,Q.cell 2,Q.cell 3,Q.cell 4,Q.cell 5⟩;refine oH bq S8 ?_;clear l;have l:=S8
  repeat refine' tT ?_
  refine pO fun KT bq=> ?_;go_simp;refine oH bq S8 ?_
  repeat refine' tT ?_
  have f8:=K8.frozen 19;refine pL fun KT bq=> ?_;go_simp;refine oL bq ?_;refine aU ?_;clear l f8;obtain⟨v9,B0⟩:=ex (V.setCell ⟨gk,19,none⟩ (.slice M (m+1) c8));rw[<-B0];have o9:=F9 (Only [gk] V v9) (by rw[B0];exact(Only.refl [gk] _).setCell (.inl bJ) _);have T:=F9 (aZ v9 gk 120 #[U f,U 2,U 2,U 4,U 64,U 8,U 8,U 8,U 1,U 2,U 12,U 8,U 6,U 2,U 6,U id,nn,P,false,.slice M (m+1) c8,U at_,.slice aa am ac,.slice ea em ec,.slice oa om oc]) (by rw[B0];exact K8.fU 19 _);clear B0;have I1:=T.at_ 17;go_wp2_with fail;refine(Tj _ P N (aZ.only d0 o9 (by simpa using(K8.nY d0 aV).symm))).mono ?_;rintro e w' ⟨rfl,rfl⟩;have g0:=T.at_ 18;have J1:=T.at_ 20;have K1:=T.at_ 21;have L1:=T.frozen 18;have M1:=T.frozen 20;have N1:=T.frozen 21;go_upto_region 8 with fail;obtain⟨va,C0⟩:=ex (((v9.setCell ⟨gk,18,none⟩ true).setCell ⟨gk,20,none⟩ (U N)).setCell ⟨gk,21,none⟩ ());rw[<-C0];have O:=F9 (Only [gk] V va) (by rw[C0];exact(((o9.setCell (.inl bJ) _).setCell (.inl bJ) _).setCell (.inl bJ) _));have KA:=F9 (aZ va gk 120 #[U f,U 2,U 2,U 4,U 64,U 8,U 8,U 8,U 1,U 2,U 12,U 8,U 6,U 2,U 6,U id,nn,P,true,.slice M (m+1) c8,U N,(),.slice ea em ec,.slice oa om oc]) (by rw[C0];have t1:aZ (v9.setCell ⟨gk,18,none⟩ true) gk 120 #[U f,U 2,U 2,U 4,U 64,U 8,U 8,U 8,U 1,U 2,U 12,U 8,U 6,U 2,U 6,U id,nn,P,true,.slice M (m+1) c8,U at_,.slice aa am ac,.slice ea em ec,.slice oa om oc]:=T.fU 18 _;have t2:aZ ((v9.setCell ⟨gk,18,none⟩ true).setCell ⟨gk,20,none⟩ (U N)) gk 120 #[U f,U 2,U 2,U 4,U 64,U 8,U 8,U 8,U 1,U 2,U 12,U 8,U 6,U 2,U 6,U id,nn,P,true,.slice M (m+1) c8,U N,.slice aa am ac,.slice ea em ec,.slice oa om oc]:=t1.fU 20 _;exact t2.fU 21 _)
  clear C0 I1 g0 J1 K1 L1 M1 N1;have c0: ∀g∈ [gk],nV x' V g:=by simpa using nV.of K8 aV
  have W:=jj (a0.only O c0 fun g j p=>oJ a0.own K8 aV g (aJ.2 j) (mR p));have NA:=jj (N8.only O (mR (N8.obj.nY K8 aV)) (mR (N8.far K8)));have e0:=jj (gH j0 O K8 aV);go_wp2_with fail;refine(adX va gk nn b (sealed K q) NA _ KA f id h1 h4 aR rfl rfl rfl M (m+1) c8 (il++ [(R,B,C,D,E,F)]) rfl ⟨fH e0,by simp[HM.out],qB e0,uO e0⟩ m rfl aR (R,B,C,D,E,F) (by rw[HM.out];simp) (by rw[HR.out];have ok:=L0.out;have np:=Cu K q;refine⟨ok.1,ok.2.1,ok.2.2.1,ok.2.2.2.1,ok.2.2.2.2.1,?_⟩;have:=aem K q hlen;exact⟨by simp only;omega,by simp only;omega⟩) oa om oc rfl ol x' (by rw[p1.out];exact W.out) aR (aB H1 O.size) (tL (JG K q)) q' s1 bs l1 n o1).mono ?_
  rintro e vb ⟨rfl,A',c',L',Z0,b1,d1,a1,D0,m0⟩;have U1:gk∉(oa.map (·.block)).toList:=fun p=>oJ W.own KA aV _ p rfl;obtain⟨C1,J0,K0,n1,u1,i1⟩:=j6 D0 a1 b1 Z0 d1 m0;have key: ∀(g t:Nat) (cs:AV),aZ V g t cs->t≠120->t≠179->aZ vb g t cs:=fun g t cs hb h1 h2=>by
   have ha:=hb.only O (mR (hb.nY K8 h1));refine ha.only D0 fun p=> ?_;simp only[ay] at p;rcases p with rfl|rfl|p
   ·exact NA.far ha rfl
   ·exact ha.nY KA h1 rfl
   exact oJ W.own ha h2.symm _ p rfl
  have Z: ∀{t s n c:Nat} {a:OA} {xs:LV},V.ownsRow 0 t s (.slice a n c) n xs->t≠120->t≠179->vb.ownsRow 0 t s (.slice a n c) n xs:=fun ho h1 h2=>by
   have ha:=gH ho O K8 h1;refine wF ha D0 fun g j p=> ?_;simp only[ay] at p;rcases p with rfl|rfl|p
   ·obtain⟨_,W0,S⟩:=dx ha _ j;exact NA.far S rfl
   ·exact oJ ha KA h1 _ j rfl
   exact uP ha W.own h2 _ j p
  have f0:=jj (key g6 _ _ Q aV aV);have y:=jj (key g4 _ _ G1 aV aV);have I0:=F9 (vT vb P N) (key P _ _ d0 aV aV);have M0:=jj (Z j0 aV aV);have f1:=jj (Z G0 aV aV);have F0:=jj (Z E0 aV aV);clear key Z Z0 b1 d1 a1 D0 m0 c0;have y0:=y.at_ 0;have z0:=y.frozen 0;have q0:=f0.at_ 0;have y1:=y.at_ 1;have z1:=y.frozen 1;have q1:=f0.at_ 1;have y2:=y.at_ 2;have z2:=y.frozen 2;have q2:=f0.at_ 2;have y3:=y.at_ 3;have z3:=y.frozen 3;have q3:=f0.at_ 3;have y4:=y.at_ 4;have z4:=y.frozen 4;have q4:=f0.at_ 4;have y5:=y.at_ 5;have z5:=y.frozen 5;have q5:=f0.at_ 5;go_wp2_with fail;obtain⟨w9,z⟩:=ex (setW vb g4 0 [U R,U B,U C,U D,U E,U F]);have T:=jj (uL z y);have og:=jj (vM z);simp only[setW,aO,Nat.reduceAdd] at z;rw[<-z];clear z y0 y1 y2 y3 y4 y5 z0 z1 z2 z3 z4 z5 q0 q1 q2 q3 q4 q5;have E1: ∀k∈ [g4],k∈(b::(⟨nn,P,false,I,ic,il,at_,aa,ac,al,ea,ec,el,oa,oc,ol,N⟩:sI).foot gk)\/w.heap.size<=k:=by simpa using .inr GE.2
  have F1:Only (b::(⟨nn,P,false,I,ic,il,at_,aa,ac,al,ea,ec,el,oa,oc,ol,N⟩:sI).foot gk) w w3:=O3.mono bJ;have F2:=F1.then P8 (fun k hk=> .inl (by simp only[sI.foot,ay,aQ];exact .inr (.inr (.inr (.inl hk)))));have F3:=F2.then O (by simp[sI.foot]);have F4:=F3.then C1 (fun k hk=>by
   simp only[ay] at hk;rcases hk with rfl|rfl|hk
   ·exact .inl bJ
   ·exact .inl (by simp[sI.foot])
   exact .inl (by simp only[sI.foot,ay,aQ];exact .inr (.inr (.inr (.inr (.inr (.inr hk)))))))
  have F5:=F4.then og E1;have O1: ∀g∈ [g4],g=g4:=fun g j=>by simpa using j
  have n9: ∀(g t:Nat) (cs:AV),aZ vb g t cs->t≠49->aZ w9 g t cs:=fun g t cs hb ht=>hb.only og (mR (hb.nY y ht));have j1:g4≠x':=by
   rcases V0.out with h|h
   ·have:=HX.out;have:=GE.2;omega
   have:=u0.lt;omega
  refine bodyPost_ret (v:= .tuple #[.agg #[U R,U B,U C,U D,U E,U F],U 0]) ?_ rfl ⟨rfl,⟨nn,P,true,M,c8,il++ [(R,B,C,D,E,F)],N,none,0,[],ea,ec,el,A',c',L',N⟩,x',⟨?_,n9 _ _ _ I0 aV,?_,N0.out,⟨rfl,.inl ⟨rfl,rfl⟩⟩,gH F0 og y aV,?_⟩,rfl,rfl,rfl,rfl,rfl,rfl,rfl,rfl,u1,J0.only og (mR (J0.obj.nY y aV)) (mR (J0.far y)),F5,?_,?_⟩
  ·exact mV Tryz.results47 _ w9 g4 _ _ _ _ (by rfl) T underlying49 rfl (by kernel_rfl)
  ·have e:Nz f id ⟨nn,P,true,M,c8,il++ [(R,B,C,D,E,F)],N,none,0,[],ea,ec,el,A',c',L',N⟩=#[U f,U 2,U 2,U 4,U 64,U 8,U 8,U 8,U 1,U 2,U 12,U 8,U 6,U 2,U 6,U id,.pointer (some ⟨nn,0,none⟩),.pointer (some ⟨P,0,none⟩),.bool true,.slice M (m+1) c8,U N,.slice none 0 0,.slice ea em ec,.slice A' (om+n) c']:=by simp[Nz,K0.len,HM.out,m1.out]
   rw[e];exact n9 _ _ _ n1 aV
  ·have e:(il++ [(R,B,C,D,E,F)]).length=m+1:=by simp[HM.out]
   simp only[e];exact wF M0 og fun g j p=>by rw[O1 g p] at j;exact j1 (N0.out g4 (aJ.1 j))
  ·simp only[K0.len]
   exact K0.Ak og y aV aV
  ·intro g j
   simp only[sI.foot,ay,aQ] at j|-;have OS:w.heap.size<=w3.heap.size:=O3.size;have D1:w3.heap.size<=va.heap.size:=aG P8.size O.size;rcases j with rfl|rfl|j|j|j|j
   ·exact .inl (.inl rfl)
   ·exact .inl (.inr (.inl rfl))
   ·rcases g1.out g (aJ.1 j) with h|h
    ·exact .inl (.inr (.inr (.inl (aJ.2 h))))
    exact .inr (aG OS h)
   ·simp at j
   ·exact .inl (.inr (.inr (.inr (.inr (.inl j)))))
   rcases i1.out g (aJ.1 j) with h|h
   ·exact .inl (.inr (.inr (.inr (.inr (.inr (aJ.2 h))))))
   exact .inr (aG (aG OS D1) h)
  rcases V0.out with h|h
  ·exact .inl h
  exact .inr (aG O3.size h)

section
variable{x:Nat}{w:World}{D:qb}{K:KS}
theorem ZX(h:mJ x w D K)(kd ky vl:Int)(X:CV)(hv:Zp D.C.n kd ky vl (D.val K) X):
  Y 11 #[D.C.gc,U 1,acY #[U kd,U ky,U vl]] w fun e w'=>e=acK (U 0)/\ ∃x' D',mJ x' w' D' X.K/\pW w w' D K D' X.K/\D'.val X.K=X:=by
 obtain⟨r,q,q',bs,M,F,hM,hX⟩:=hv;obtain⟨r0,r1,r2,r3,r4,r5⟩:=r;obtain⟨HM,HX,HF,H⟩:=j4 hM hX F h;have C:J w D.C.gc 19 (acX D.C.cd.ka 2 D.C.cd.kc):=by have:=h.blk.cell 19;have e:=h.fx.kl;rw[<-e];exact this
 have RW:=F9 (w.ownsRow 0 41 1 (acX D.C.cd.ka 2 D.C.cd.kc) 2 D.C.kp) (by have:=h.wO;rw[h.fx.kl] at this;exact this);obtain⟨b0,R,d1⟩:=tu RW (k:=1) aR (v:= .pointer (some ⟨D.g1,0,none⟩)) (by rw[h.fx.kp];rfl);rw[R] at C;have o:=F9 (∀u,Be w u->J u D.C.gc 19 (O b0 2 D.C.cd.kc)/\J u b0 1 D.g1) fun u hu=>⟨kept hu _ _ C,kept hu _ _ d1⟩;obtain⟨gc,n⟩:=ex D.C.gc;obtain⟨g1,E⟩:=ex D.g1;obtain⟨kc,V⟩:=ex D.C.cd.kc;rw[<-n,<-E,<-V] at o;rw[<-n];have GC:=jj n;have G1:=jj E;clear hM hX h C d1 R n E V;go_enter func11,ntmps11;go_upto_region 1 with fail;generalize hv1:w.alloc _=v1;generalize hg5:w.heap.size=g5;replace hv1:=hv1.symm;replace hg5:=hg5.symm;have X5:=xNew hv1 hg5;have B1:=tQ hv1;clear hv1 hg5;have A1:=jj (H.below B1);obtain⟨C,d1⟩:=o.out _ B1;obtain⟨o0,o1,o2⟩:=X5.a3;have B:=H.fx;have q1:=B.q1;have call:Y 47 #[g1,acY #[U kd,U ky,U vl]] v1 fun e w'=>e=acK (ac2 #[acY #[U r0,U r1,U r2,U r3,U r4,U r5],U 0])/\ ∃d x',Only (D.C.b::D.d1.foot D.g1) v1 w'/\(∀g∈d.foot g1,g∈D.d1.foot D.g1\/v1.heap.size<=g)/\UY x' w' ((D.C.cs K).set 0 (tZ D.C.cd.nn D.C.b (sealed (sealed K q) q'))) D.C.cd.f 1 g1 d/\x'<w'.heap.size/\d.val=X.ck/\d.nn=D.d1.nn/\uy d.ol=(List.range D.C.n).map (fun i:Nat=>((i:Int),bs)):=by
  have f:=HF.out;rw[G1.out];refine(aaW v1 x D.g1 D.C.b D.C.cd.f 1 D.d1 A1.BJ.ck B.f1 B.f4 aR K (by rw[B.n1];exact A1.Pt) f.waits A1.xlt f.il (by rw[q1];simp) f.K kd ky vl f.valid f.ok q f.hq f.hq2 (r0,r1,r2,r3,r4,r5) f.hr q' f.hq' bs f.hbs D.C.n B.n).mono ?_;rintro e w' ⟨rfl,d,x',hc,k1,k2,k3,k4,k5,k6,k7,k8,ho,hn,Z,hf,hx⟩;rw[B.n1] at hn;have bi:=A1.BJ.issue (nn:=D.C.cd.nn) (b:=D.C.b) (K:=K) rfl hn hc Z hf hx;refine⟨rfl,d,x',Z,hf,bi,?_,?_,k7,by rw[ho,q1];rfl⟩
  ·have il:0<d.il.length:=by rw[k2];simp
   rcases rF hc.yK with⟨_,h0,_⟩|⟨g,hg⟩
   ·omega
   have e:g=x':=hc.SE g (by rw[hg];rfl);rw[<-e];exact hc.lt g (by simp[sI.foot,hg])
  have ck:(X:CV).ck={(D.val K).ck with waits:=true,il:=(D.val K).ck.il++ [(r0,r1,r2,r3,r4,r5)],at_:=(D.val K).ck.now,al:= []}:=by rw[HX.out]
  rw[ck];show CkV.mk _ _ _ _ _ _=CkV.mk _ _ _ _ _ _;rw[k1,k2,k3,k4,k5,k6];rfl
 have I:=jj call;clear call B q1;go_wp2_with fail;refine I.mono ?_;rintro e w2 ⟨rfl,d,x',y,s,S,a0,p,t,z⟩;obtain⟨f0,d0,B2,X2,c0,e0⟩:=j6 y s S a0 p t;have L:=jj z;clear y s S a0 p t z C d1 o0 o1 o2;go_upto_region 5 with fail;generalize hw3:w2.alloc _=w3;replace hw3:=hw3.symm;have L3:=tQ hw3;clear hw3;have G:=jj (B2.below L3);have ol:=F9 (d.ol.length=D.C.n) (by have:=congrArg List.length L;simpa[uy] using this);obtain⟨l,W⟩:=ex d.ol.length;have A:=jj W;clear W;go_wp2_with fail;refine(Ui w3 g1 _ G.ck.blk d.oa l d.oc (by rw[A.out];rfl)).mono ?_;rintro e w4 ⟨rfl,T,m⟩;have c4:=G.ck.abv T m;have O4:=F9 (nJ x' w4 d.oa l d.oc d.ol) (by rw[A.out];exact G.ck.out.Ak m G.ck.blk aV aV);have B4:=G.own c4 (m.mono (by simp[sI.foot])) (fun k a=> .inl (by
  simp only[sI.foot,ay,aQ,Option.map_none,Option.toList_none,aI,or_false] at a|-;rcases a with a|a|a|a|a
  ·exact .inl a
  ·exact .inr (.inl a)
  ·exact .inr (.inr (.inl a))
  ·exact .inr (.inr (.inr (.inl a)))
  exact .inr (.inr (.inr (.inr (.inl a))))))
 have K2:=F9 (X.K=sealed (sealed K q) q') (by rw[HX.out];rfl);have A4:=F9 (mJ x' w4 (D.k1 {d with oa:=none,oc:=0,ol:= []}) X.K) ⟨by rw[K2.out];have e:=B4;rw[G1.out] at e;exact e,{H.fx with n1:=e0.trans H.fx.n1,q1:=rfl},aB X2 (aG L3.size m.size)⟩
 have T4:=F9 (pW w w4 D K (D.k1 {d with oa:=none,oc:=0,ol:= []}) X.K) (by
  have bm:D.C.b∈Go.Proofs.YtgnhecmnlddjhaaGreat.nE (D.C.cs K):=pY (j:=0) (c:=tZ D.C.cd.nn D.C.b K) rfl (by simp[tZ,nM]);have t2:Only (D.nE K) w w2:=((Only.of_below B1).trans (f0.mono fun k a=> .inl (by
   rcases ay.1 a with rfl|a
   ·exact bL _ bm
   exact bH _ a)))
  have g0:g1∈D.d1.foot D.g1:=by rw[G1.out];exact jL
  have t4:Only (D.nE K) w w4:=(t2.belows L3).trans (m.mono fun k a=> .inl (by rw[au] at a;rw[a];exact bH _ g0))
  refine⟨afM D _,t4,fun k a=> ?_⟩;rcases aQ.1 a with a|a
  ·refine .inl (bL _ ?_)
   exact a
  have i0:k∈d.foot g1:=by
   rw[G1.out];simp only[sI.foot,ay,aQ,Option.map_none,Option.toList_none,aI,or_false] at a|-;rcases a with a|a|a|a|a
   ·exact .inl a
   ·exact .inr (.inl a)
   ·exact .inr (.inr (.inl a))
   ·exact .inr (.inr (.inr (.inl a)))
   exact .inr (.inr (.inr (.inr (.inl a))))
  rcases d0.out k i0 with h|h
  ·exact .inl (bH _ h)
  exact .inr (aG B1.size h))
 have V4:=F9 ((D.k1 {d with oa:=none,oc:=0,ol:= []}).val X.K={X with M:=(D.val K).M}) (by
  have ck:=c0.out;have hx:=HX.out;rw[hx] at ck|-;show CV.mk _ _ _ _ _=CV.mk _ _ _ _ _
  congr 1)
 clear T m c4;go_wp2_with fail;rw[GC.out];refine(wh A4 101 d.oa l d.oc d.ol O4 (by have:=ol.out;have:=H.fx.n;have:=H.fx.f4;have:=A.out;omega) M (by rw[V4.out,L.out];exact HM.out)).mono ?_;rintro e w5 ⟨rfl,D5,N,P,Q⟩;obtain⟨A5,S5,V5⟩:=j3 N P Q;clear N P Q;go_wp2_with fail;go_ret;refine⟨by trivial,x',D5,A5,T4.trans S5,?_⟩;rw[V5.out,V4.out];have hx:=HX.out;rw[hx]
end
section
open Go.RowKit Go.Proofs.Tryz Go.Maps
open Go.ChangeMaps (setBlock heap_setBlock_same)
def Part(w:World)(m:Nat)(es:Array MapEntry)(seen:Array Nat):Prop:=
 ∃E c,w.heap[m]?=some (.map E c)/\(∀e'∈E.toList,∃e∈es.toList,seen.contains e.born=true/\e'.key=e.key/\e'.val=e.val)/\(∀e∈es.toList,seen.contains e.born=true-> ∃e'∈E.toList,e'.key=e.key)/\
  (∀e∈E.toList,e.born<c)/\(E.toList.map (·.born)).Nodup/\(E.toList.map (·.key)).Nodup
structure af2(K:List (Int×List Int))(es:Array MapEntry):Prop where
 size:es.size=K.length
 each: ∀e∈es.toList,∃(i:Nat) (q:Int×List Int),K[i]?=some q/\e.key=kv q/\e.val= U ((i:Int)+1)
 all: ∀q∈K,∃e∈es.toList,e.key=kv q
 ok: ∀q∈K,Ns q
 nd:K.Nodup
 n:K.length<=1048576
 keys:(es.toList.map (·.key)).Nodup
 ZV:(es.toList.map (·.born)).Nodup
theorem Js{α β:Type}{f:α->β}: ∀{l:List α},(l.map f).Nodup-> ∀{x y:α},x∈l->y∈l->f x=f y->x=y
 | [],_,x,y,hx,_,_=>by cases hx
 |z::l,h,x,y,hx,hy,e=>by
  rw[bV,List.nodup_cons] at h;rcases ay.1 hx with hxz|hx1
  ·rcases ay.1 hy with hyz|hy1
   ·rw[hxz,hyz]
   exact absurd (bM.2 ⟨y,hy1,by rw[<-e,hxz]⟩) h.1
  rcases ay.1 hy with hyz|hy1
  ·exact absurd (bM.2 ⟨x,hx1,by rw[e,hyz]⟩) h.1
  exact Js h.2 hx1 hy1 e
section
variable{w w':World}{b m:Nat}{K:List (Int×List Int)}{es:Array MapEntry}{seen:Array Nat}
theorem wM.ents(h:wM w b K): ∃es cl,w.heap[b]?=some (.map es cl)/\af2 K es/\ ∀e∈es.toList,e.born<cl:=by obtain⟨es,cl,H,a,c,d⟩:=h.ex;obtain⟨p1,p2,p3⟩:=h.born es cl H;exact⟨es,cl,H,⟨a,c,d,h.ok,h.nd,h.n,p3,p2⟩,p1⟩
theorem Part.only{S:LN}(h:Part w m es seen)(a:m<w.heap.size)(d:Only S w w')(b:m∉S):Part w' m es seen:=by obtain⟨e,c,H,h⟩:=h;exact⟨e,c,by rw[d.block m a b];exact H,h⟩
theorem Part.done(h:Part w m es seen)(E:af2 K es)(u:(leftOf es seen).size=0):wM w m K:=by
 obtain⟨g,C,p,l,n,v,x,o⟩:=h;have r:=all_seen es seen u;refine⟨⟨g,C,p,?_,?_,?_⟩,E.ok,E.nd,E.n,?_⟩
 ·have B:(g.toList.map (·.key)).Perm (es.toList.map (·.key)):=(List.perm_ext_iff_of_nodup o E.keys).2 fun k=>by
   constructor
   ·intro j
    obtain⟨d,H,rfl⟩:=bM.1 j;obtain⟨e,c,_,a,_⟩:=l d H;exact bM.2 ⟨e,c,a.symm⟩
   intro j;obtain⟨e,c,rfl⟩:=bM.1 j;obtain⟨d,H,a⟩:=n e c (r e c);exact bM.2 ⟨d,H,a⟩
  have:=B.length_eq;simpa[E.size] using this
 ·intro d H
  obtain⟨e,c,_,a,f⟩:=l d H;obtain⟨i,q,y,z,A⟩:=E.each e c;exact⟨i,q,y,a.trans z,f.trans A⟩
 ·intro q D
  obtain⟨e,c,a⟩:=E.all q D;obtain⟨d,H,f⟩:=n e c (r e c);exact⟨d,H,f.trans a⟩
 intro t s b;rw[p] at b;injection b with b;injection b with a f;subst a;subst f;exact⟨v,x,o⟩
theorem Part.put(h:Part w m es seen)(E:af2 K es){e:MapEntry}(O:e∈(leftOf es seen).toList):
  ∃w',(Instr.mapUpdate 153 (.map (some m)) e.key e.val).run prog w= .ok () w'/\Part w' m es (seen.push e.born)/\Only [m] w w':=by
 obtain⟨a,C,p,o,J,B,L,M⟩:=h;obtain⟨b,r⟩:=mem_left O;have c: ∀x∈es.toList,∃l,keyOf prog 185 x.key=some l:=fun x hx=>by obtain⟨i,q,P,s,_⟩:=E.each x hx;rw[s];exact Jh (E.ok q (ak P))
 obtain⟨l,D⟩:=c e b;have g: ∀x∈a.toList,∃l,keyOf prog 185 x.key=some l:=fun x hx=>by obtain⟨y,H,_,d,_⟩:=o x hx;rw[d];exact c y H
 have k: ∀x∈a.toList,¬x.key=e.key:=fun x hx s=>by obtain⟨y,H,f,d,_⟩:=o x hx;obtain rfl:=Js E.keys H b (d.symm.trans s);rw[r] at f;cases f
 rcases Uh.find w D a.toList g with⟨F,A⟩|⟨j,f,F,A,I⟩
 ·refine⟨setBlock w m (.map (a.push ⟨e.key,e.val,C⟩) (C+1)),?_,⟨_,_,heap_setBlock_same p _,?_,?_,?_,?_,?_⟩,sO _ _ _⟩
  ·simp[Instr.mapUpdate,run_underlying underlying153,gL p,Uh.check w false D,F,ku _ p,Result.andThen,setBlock]
  ·intro x hx
   simp only[fK,aQ,au] at hx;rcases hx with hx|rfl
   ·obtain⟨y,H,f,d,G⟩:=o x hx
    exact⟨y,H,by rw[contains_push,f];rfl,d,G⟩
   exact⟨e,b,by rw[contains_push];simp,rfl,rfl⟩
  ·intro x hx t
   rw[contains_push] at t;by_cases n:x.born=e.born
   ·obtain rfl:x=e:=Js E.ZV hx b n
    exact⟨⟨x.key,x.val,C⟩,bJ,rfl⟩
   have u:seen.contains x.born=true:=by
    cases N:seen.contains x.born with
    |true=>rfl
    |false=>rw[N] at t;simp[n] at t
   obtain⟨y,H,d⟩:=J x hx u;exact⟨y,by simp[H],d⟩
  ·intro x hx
   simp only[fK,aQ,au] at hx;rcases hx with hx|rfl
   ·exact Nat.lt_succ_of_lt (B x hx)
   exact Nat.lt_succ_self _
  ·rw[fK,bR,ig]
   refine⟨L,bJ,fun x hx y H e=> ?_⟩;obtain⟨z,v,rfl⟩:=bM.1 hx;simp only[bV,fu,au] at H;have:=B z v;omega
  rw[fK,bR,ig];refine⟨M,bJ,fun x hx y H e=> ?_⟩;obtain⟨z,v,rfl⟩:=bM.1 hx;simp only[bV,fu,au] at H;exact k z v (by rw[e,H])
 exact absurd I (k f (ak A))
end
section
variable{P:Program}(w:World){ops:Array Oper}{rest:List Oper}{o:Oper}{a:Act}{Q:Exit->Act->World->Prop}
theorem Fv (g:o.guard=none) (m:Operand) (t:TypeId) (c:o.op=Op.range t m) (k e:TypeId) (j:P.underlying t=some (.map k e)) (b:Nat) (es:Array MapEntry) (cl:Nat)
  (i:a.eval m= .map (some b)) (f:w.heap[b]?=some (.map es cl))
  (d:wpList P ops Q rest (a.put o.dst w.heap.size) (w.alloc (.mapIter (some b) cl #[] cl))):
  wpList P ops Q (o::rest) a w:=by refine wpList_plain g fun K H=> ?_;have h:=run_range_map (P:=P) w t k e b es cl j f;unfold Oper.wp;simp[execOp,c,i,h,Result.andThen];exact H _ _ d
theorem Gx (K:o.guard=none) (I:Operand) (m:o.op=Op.next I false) (r b since c0:Nat) (seen:Array Nat) (es:Array MapEntry) (clock:Nat)
  (l:a.eval I= .pointer (some (adZ r 0))) (F:w.heap[r]?=some (.mapIter (some b) since seen c0)) (C:w.heap[b]?=some (.map es clock)) (hold: ∀x∈es.toList,x.born<since) (A:since<=c0)
  (L:(es.toList.map (·.born)).Nodup) (y:b≠r) (B: ∀e∈es.toList,∃p s v,e.key=acY #[U p,.string s]/\e.val= U v)
  (H:(leftOf es seen).size=0->wpList P ops Q rest (a.put o.dst (ac2 #[false])) w)
  (c: ∀e p s v w',e∈(leftOf es seen).toList->e.key=acY #[U p,.string s]->e.val= U v->w'.heap[r]?=some (.mapIter (some b) since (seen.push e.born) clock)->Only [r] w w'->
   (Instr.entry r).run P w'= .ok (ac2 #[acY #[U p,.string s],U v]) w'->wpList P ops Q rest (a.put o.dst (ac2 #[true,acY #[U p,.string s],U v])) w'):
  wpList P ops Q (o::rest) a w:=by
 refine wpList_plain K fun N i=> ?_;unfold Oper.wp;rcases run_next_at (P:=P) w o.type r b since c0 seen es clock F C hold A with⟨G,h⟩|⟨e,D,W,d,h⟩
 ·simp[execOp,m,l,h,Result.andThen]
  exact i _ _ (H G)
 obtain⟨j,J⟩:=mem_left D;obtain⟨p,s,v,E,q⟩:=B e j;have z:W.heap[r]?=some (.mapIter (some b) since seen c0):=by rcases d with rfl|rfl<;>exact F
 have f:W.heap[b]?=some (.map es clock):=by rcases d with rfl|rfl<;>exact C
 have M:Only [r] w (setBlock W r (.mapIter (some b) since (seen.push e.born) clock)):=by
  rcases d with rfl|rfl
  ·exact sO _ _ _
  exact(Only.refl _ _).drew.trans (sO _ _ _)
 have n:(setBlock W r (.mapIter (some b) since (seen.push e.born) clock)).heap[r]?=some (.mapIter (some b) since (seen.push e.born) clock):=(MapKept.heap_set z).1;have g:b<W.heap.size:=by
  rcases iZ b W.heap.size with g|u
  ·exact g
  rw[gK u] at f;cases f
 have t:(setBlock W r (.mapIter (some b) since (seen.push e.born) clock)).heap[b]?=some (.map es clock):=by rw[(sO W r _).block b g (mR y)];exact f
 have k:=run_entry_at (P:=P) _ r b since seen es clock e n t j L;rw[E,q] at k;simp[execOp,m,l,h,Result.andThen,E,q];exact i _ _ (c e p s v _ D E q n M k)
end
theorem QL(n b:Nat)(K:List (Int×List Int))(w:World)(h:vC w n b K):
  Y 54 #[n] w fun e w'=> ∃m B,e= .returned (m:Nat)/\vC w' m B K/\w.heap.size<=m/\w.heap.size<=B/\Be w w':=by
 obtain⟨a,c,hb,hE,hold⟩:=h.map.ents;have E:=jj hE;have f0:=jj hold;have C:=h.obj.at_ 0;have N:=h.map.lt;clear h hE hold;go_enter func54,ntmps54;go_wp2_with fail;refine(abg _).mono ?_;rintro e W ⟨m,B,rfl,H,o0,t,o⟩;have c1:=kept o _ _ C;have d:W.heap[b]?=some (.map a c):=by rw[(Only.of_below (S:= []) o).block b N bJ];exact hb
 have p0:B≠m:=fun e=>H.ne e.symm;have l1:=H.obj.lt;have l2:=H.map.lt;have l3:=aB N o.size;have PT:Part W B a #[]:=by obtain⟨G,j0,h1,y,h3⟩:=H.map.ents;have e0:G.toList= []:=dA (by have:=y.size;simpa using this);exact⟨G,j0,h1,by simp[e0],bJ,h3,y.ZV,y.keys⟩
 obtain⟨N1,g0,X,D⟩:=j4 H PT o d;clear H o hb d C
 go_wp2_with(first
  |(at_range;refine Fv _ rfl _ _ rfl _ _ underlying153 b a c rfl D ?_)
  |go_in)
 go_frame
 obtain⟨r,Q⟩:=ex W.heap.size;obtain⟨w2,k⟩:=ex (W.alloc (.mapIter (some b) c #[] c));rw[<-Q,<-k];have o2:Only [] W w2:=by rw[k];exact(Only.refl _ _).alloc _
 have R2:w2.heap[r]?=some (.mapIter (some b) c #[] c):=by rw[k,Q];exact heap_alloc_new _ _
 have q0:r<w2.heap.size:=by rw[k,Q];simp
 have x:Hid (∃seen C,w2.heap[r]?=some (.mapIter (some b) c seen C)/\c<=C/\w2.heap[b]?=some (.map a c)/\aZ w2 m 155 #[.map (some B)]/\Part w2 B a seen/\Be w w2/\W.heap.size+1<=w2.heap.size):=by refine jj ⟨#[],c,R2,aF _,?_,N1.obj.only o2 bJ,g0.only l2 o2 bJ,X.trans (o2.mY.mono X.size),by rw[k];simp⟩;rw[o2.block b l3 bJ];exact D.out
 have r1:W.heap.size<=r:=lC Q.symm;have r2:r<W.heap.size+1:=aR;clear k o2 q0 c1 Q
 go_loopw [5] (fun _ wr=> ∃seen C,wr.heap[r]?=some (.mapIter (some b) c seen C)/\c<=C/\wr.heap[b]?=some (.map a c)/\aZ wr m 155 #[.map (some B)]/\Part wr B a seen/\Be w wr/\W.heap.size+1<=wr.heap.size)
  (fun _ wr=>wr.rangeLeft b r)
 case atStart=>exact x.out
 case round=>
  obtain⟨seen,C,z,l0,d,hM,I,hB,T⟩:=hrel;have l:wr.rangeLeft b r=(leftOf a seen).size:=by simp[World.rangeLeft,d,z]
  obtain⟨L,MM,PP,Z,HR,HB⟩:=j6 l hM I hB z d;have SZ:=jj T;clear l hM I hB z d T
  go_wp2_with(first
   |(at_next;refine Gx _ rfl _ rfl r b c C seen a c rfl HR HB f0 l0 E.ZV aR (fun e O=>by obtain⟨i,q,_,h1,h2⟩:=E.each e O;exact⟨q.1,_,_,h1,h2⟩) ?_ ?_)
   |go_in)
  ·intro h0
   go_wp2_with fail;go_ret;exact⟨m,B,rfl,⟨MM,PP.done E (by first|exact h0|simp[h0])⟩,o0,t,Z⟩
  intro e p s v A O ek ev R f n0;have HE:=F9 (e∈(leftOf a seen).toList) (by first|exact O|simpa using O);have R3:=F9 (A.heap[r]?=some (.mapIter (some b) c (seen.push e.born) c)) R;obtain⟨O3,EK,EV⟩:=j3 f ek ev;have l4:=SZ.out;have M3:=jj (MM.only f (by simp;omega));have P3:=jj (PP.only aR f (by simp;omega));have B3:=jj (f.below Z Z.size (by simp;have:=X.size;omega));have b0:=F9 (A.heap[b]?=some (.map a c)) (by rw[f.block b aR (by simp;omega)];exact HB.out);clear O R f ek ev;go_upto_region 5 with fail;generalize hw4:A.alloc _=w4;generalize hga:A.heap.size=ga;replace hw4:=hw4.symm;replace hga:=hga.symm;have hA:aZ w4 ga 185 #[U p,.string s]:=by rw[hw4,hga];exact aZ.new _ _ _
  have o4:Only [] A w4:=by rw[hw4];exact(Only.refl _ _).alloc _
  obtain⟨a0,a1⟩:=hA.a2;have l5:W.heap.size+1<=A.heap.size:=aG SZ O3.size;have M4:=jj (M3.only o4 bJ);have m0:=M4.at_ 0;have P4:=jj (P3.only aR o4 bJ);have B4:=jj (o4.below B3 B3.size bJ);have R4:=F9 (w4.heap[r]?=some (.mapIter (some b) c (seen.push e.born) c)) (by rw[o4.block r aR bJ];exact R3.out);have d0:=F9 (w4.heap[b]?=some (.map a c)) (by rw[o4.block b aR bJ];exact b0.out);have l6:W.heap.size+1<=w4.heap.size:=aG l5 o4.size;clear hw4 hga hA o4 n0;have KS: ∀j,J (w4.drewN j) ga 0 (U p)/\J (w4.drewN j) ga 1 (.string s)/\J (w4.drewN j) m 0 (.map (some B)):=fun j=>⟨a0,a1,m0⟩;refine rP (fun w'=>J w' ga 0 (U p)/\J w' ga 1 (.string s)/\J w' m 0 (.map (some B))) 6 (tk 0 6 (.one 6 .done)) (KS 1) ?_;intro k0
  repeat refine' tT ?_
  obtain⟨w5,V,u,P⟩:=(P4.only (w':=w4.drew) aR (S:= []) ((Only.refl _ _).drew) bJ).put E HE;have r0:(Instr.mapUpdate 153 (.map (some B)) (.agg #[U p,.string s]) (U v)).run prog w4.drew= .ok () w5:=by rw[<-EK.out,<-EV.out];exact V
  clear V;refine pL fun KT bq=> ?_;go_simp;refine oL bq ?_;refine aU ?_;have g:Only [B] w4 w5:=(Only.refl _ _).drew.trans P;have R5:w5.heap[r]?=some (.mapIter (some b) c (seen.push e.born) c):=by rw[g.block r aR (by simp;omega)];exact R4.out
  have F:w5.heap[b]?=some (.map a c):=by rw[g.block b aR (by simp;omega)];exact d0.out
  have i0:Hid (∃seen C,w5.heap[r]?=some (.mapIter (some b) c seen C)/\c<=C/\w5.heap[b]?=some (.map a c)/\aZ w5 m 155 #[.map (some B)]/\Part w5 B a seen/\Be w w5/\W.heap.size+1<=w5.heap.size):=
   jj ⟨_,c,R5,aF _,F,M4.only g (by simp;exact p0.symm),u,g.below B4 B4.size (by simp;exact t),aG l6 g.size⟩
  have M:=F9 (w5.rangeLeft b r<(leftOf a seen).size) (by have:=left_shrinks a seen e HE;simpa[World.rangeLeft,F,R5] using this)
  clear g P u r0 k0;go_wp2_with fail;go_roundw
  case rel=>exact i0.out
  rw[L.out];exact M.out
end
theorem Qb(w:World)(g:Nat)(now:Int)(h:vT w g now):
  Y 92 #[g] w fun e w'=> ∃q,e=acK (q:Nat)/\Be w w':=by
 obtain⟨I,a⟩: ∃i,prog.info? 434=some i:=jW.1 (by kernel_rfl);have b:aZ w g 220 _:=h;obtain⟨c,C⟩:=b.a2;clear h;go_enter func92,ntmps92;go_upto_region 1 with fail;have KS: ∀w',Be w w'->J w' g 0 (U now)/\J w' g 1 ():=fun w' o=>⟨kept o _ _ c,kept o _ _ C⟩;have E:Be w w.drew:=(aC _ _).drew;refine rP (fun w'=>J w' g 0 (U now)/\J w' g 1 ()) 12 (tk 0 8 (.one 8 (.take 9 (.one 10 (.take 11 .done))))) (KS _ E) ?_;intro H
 repeat refine' tT ?_
 refine pO fun KT bq=> ?_;refine rY (by rfl) _ _ _ (by rfl) 434 I (by rfl) a none none 0 0 0 (.inl ⟨rfl,rfl,rfl⟩) (aF _) (by rfl) (by rfl) ?_;refine oI bq (KS _ E) fun _=> ?_
 repeat refine' tT ?_
 refine pO fun KT bq=> ?_;go_simp;refine oI bq (KS _ (E.alloc E.size _)) fun _=> ?_
 repeat refine' tT ?_
 refine aU ?_;have F:=jj (E.alloc E.size (.cells #[U now,()] 220));clear H;go_wp2_with fail;go_ret
 first|exact⟨_,rfl,F⟩|exact⟨⟨_,rfl⟩,F⟩|exact⟨_,by trivial,F⟩
theorem aay(w:World)(g:Nat)(m t:Int)(h:Ld w g m t):
  Y 96 #[g] w fun e w'=> ∃q,e=acK (q:Nat)/\Be w w':=by
 obtain⟨I,a⟩: ∃i,prog.info? 275=some i:=jW.1 (by kernel_rfl);have b:aZ w g 239 _:=h;obtain⟨c,C,d⟩:=b.a3;clear h;go_enter func96,ntmps96;go_upto_region 1 with fail;have KS: ∀w',Be w w'->J w' g 0 (U m)/\J w' g 1 (U t)/\J w' g 2 ():=fun w' o=>⟨kept o _ _ c,kept o _ _ C,kept o _ _ d⟩;have E:Be w w.drew:=(aC _ _).drew;refine rP (fun w'=>J w' g 0 (U m)/\J w' g 1 (U t)/\J w' g 2 ()) 16 (tk 0 12 (.one 12 (.take 13 (.one 14 (.take 15 .done))))) (KS _ E) ?_;intro H
 repeat refine' tT ?_
 refine pO fun KT bq=> ?_;refine rY (by rfl) _ _ _ (by rfl) 275 I (by rfl) a none none 0 0 0 (.inl ⟨rfl,rfl,rfl⟩) (aF _) (by rfl) (by rfl) ?_;refine oI bq (KS _ E) fun _=> ?_
 repeat refine' tT ?_
 refine pO fun KT bq=> ?_;go_simp;refine oI bq (KS _ (E.alloc E.size _)) fun _=> ?_
 repeat refine' tT ?_
 refine aU ?_;have F:=jj (E.alloc E.size (.cells #[U m,U t,()] 239));clear H;go_wp2_with fail;go_ret
 first|exact⟨_,rfl,F⟩|exact⟨⟨_,rfl⟩,F⟩|exact⟨_,by trivial,F⟩
theorem RY(L:List Vt): ∀v∈L.flatMap xw,v.oneCell'=true:=by intro v H;obtain⟨p,_,h⟩:=bg.1 H;simp[xw] at h;rcases h with rfl|rfl|rfl<;>rfl
theorem acC(w:World)(g:Nat)(G:Nat)(f:Int)(L:List Vt)(h:zQ w g G f L)(r:L.length<=13):
  Y 95 #[g] w fun e w'=> ∃q,e=acK (q:Nat)/\Be w w':=by
 obtain⟨I,d,i,j,k⟩:=info_parts Mj;obtain⟨c,l,K⟩:=h.ex;obtain⟨n,H⟩:=ex L.length;rw[<-H] at l K r;have V:=jj (fH K);clear K H;obtain⟨C,p⟩:=l.a2;clear h;go_enter func95,ntmps95;go_upto_region 1 with fail;have KS: ∀w',Be w w'->J w' g 0 (U f)/\J w' g 1 (O G n c):=fun w' o=>⟨kept o _ _ C,kept o _ _ p⟩;have E:Be w w.drew:=(aC _ _).drew;refine rP (fun w'=>J w' g 0 (U f)/\J w' g 1 (O G n c)) 12 (tk 0 8 (.one 8 (.take 9 (.one 10 (.take 11 .done))))) (KS _ E) ?_;intro b
 repeat refine' tT ?_
 refine pO fun KT bq=> ?_;refine oo (by rfl) _ _ _ (by rfl) w.heap.size 364 I _ 3 24 underlying234 d i j k rfl aR none 0 0 [] (by rfl) ⟨rfl,.inl ⟨rfl,rfl⟩⟩ (some (adZ G 0)) n c (L.flatMap xw) (by rfl) (V.below E) (RY L) (by unfold maxLen;omega) aR E.size ?_;intro a5 s w5 m;have a:Be w w5:=E.trans (m.only.mY.mono E.size);clear m;refine oI bq (KS _ a) fun _=> ?_
 repeat refine' tT ?_
 refine pO fun KT bq=> ?_;go_simp;refine oI bq (KS _ (a.alloc a.size _)) fun _=> ?_
 repeat refine' tT ?_
 refine aU ?_;have F:=jj (a.alloc a.size (.cells #[U f,acX a5 n s] 236));clear b;go_wp2_with fail;go_ret
 first|exact⟨_,rfl,F⟩|exact⟨⟨_,rfl⟩,F⟩|exact⟨_,by trivial,F⟩
theorem ach(w:World)(g:Nat)(f cl:Int)(T:List oO)(S:LN)(h:TabAt w g f cl T S)(u:T.length<=64):
  Y 94 #[g] w fun e w'=> ∃q,e=acK (q:Nat)/\Be w w':=by
 obtain⟨I,z,c,d,i,j,k⟩:=zq;obtain⟨t,l,-,m,K⟩:=h.ex;obtain⟨n,H⟩:=ex T.length;rw[<-H] at m K u;have V:=jj (fH K);clear K H;obtain⟨C,r,s⟩:=m.a3;clear h;go_enter func94,ntmps94;go_upto_region 1 with fail;have KS: ∀w',Be w w'->J w' g 0 (U f)/\J w' g 1 (U cl)/\J w' g 2 (acX t n l):=fun w' o=>⟨kept o _ _ C,kept o _ _ r,kept o _ _ s⟩;have E:Be w w.drew:=(aC _ _).drew;refine rP (fun w'=>J w' g 0 (U f)/\J w' g 1 (U cl)/\J w' g 2 (acX t n l)) 16 (tk 0 12 (.one 12 (.take 13 (.one 14 (.take 15 .done))))) (KS _ E) ?_;intro b
 repeat refine' tT ?_
 refine pO fun KT bq=> ?_;refine oo (by rfl) _ _ _ (by rfl) w.heap.size 356 I _ 21 72 underlying231 c d i j k aR none 0 0 [] (by rfl) ⟨rfl,.inl ⟨rfl,rfl⟩⟩ t n l (T.flatMap xW) (by rfl) (V.below E) (xq T) (by unfold maxLen;omega) aR E.size ?_;intro a5 v w5 p;have a:Be w w5:=E.trans (p.only.mY.mono E.size);clear p;refine oI bq (KS _ a) fun _=> ?_
 repeat refine' tT ?_
 refine pO fun KT bq=> ?_;go_simp;refine oI bq (KS _ (a.alloc a.size _)) fun _=> ?_
 repeat refine' tT ?_
 refine aU ?_;have F:=jj (a.alloc a.size (.cells #[U f,U cl,acX a5 n v] 233));clear b;go_wp2_with fail;go_ret
 first|exact⟨_,rfl,F⟩|exact⟨⟨_,rfl⟩,F⟩|exact⟨_,by trivial,F⟩
theorem QC:(prog.info? 408).map (fun i=>(i.zero,i.size,i.bytes))=some (some (acY #[false,U 0,()]),3,40):=by kernel_rfl
theorem WO(L:List rC): ∀v∈L.flatMap Ki,v.oneCell'=true:=by intro v H;obtain⟨p,_,h⟩:=bg.1 H;simp only[Ki,ay,aI,or_false] at h;rcases h with rfl|rfl|rfl<;>rfl
theorem ab1(w:World)(g:Nat)(x:Nat)(f:Int)(n:Nat)(s:CQ)(h:mM x w f n g s)(z:n<=13):
  Y 132 #[g] w fun e w'=> ∃q,e=acK (q:Nat)/\Be w w':=by
 obtain⟨I,H,c,d,i⟩:=info_parts QC;have m:=h.blk;have V:=jj (gD.nR (n:=n) (s:=3) h.bp (by rw[gZ,qj _ 3 adr,h.np]));have u:=jj (gD.nR (n:=n) (s:=3) h.bc (by rw[gZ,qj _ 3 adr,h.nc]));obtain⟨C,p,r,t,v⟩:=m.a5;clear h;go_enter func132,ntmps132;go_upto_region 1 with fail;have KS: ∀w',Be w w'->J w' g 0 (U f)/\J w' g 1 s.has/\J w' g 2 (acX s.ba s.bn s.bc)/\J w' g 3 (O s.gp n n)/\J w' g 4 (O s.gc n n):=fun w' o=>⟨kept o _ _ C,kept o _ _ p,kept o _ _ r,kept o _ _ t,kept o _ _ v⟩;have E:Be w w.drew:=(aC _ _).drew;refine rP (fun w'=>J w' g 0 (U f)/\J w' g 1 s.has/\J w' g 2 (acX s.ba s.bn s.bc)/\J w' g 3 (O s.gp n n)/\J w' g 4 (O s.gc n n)) 25 (tk 0 16 (tk 17 4 (.one 16 (.one 21 (.take 22 (.one 23 (.take 24 .done))))))) (KS _ E) ?_;intro j
 repeat refine' tT ?_
 refine pO fun KT bq=> ?_;refine oo (by rfl) _ _ _ (by rfl) w.heap.size 408 I _ 3 40 underlying269 H c d i rfl aR none 0 0 [] (by rfl) ⟨rfl,.inl ⟨rfl,rfl⟩⟩ (some ⟨s.gp,0,none⟩) n n (s.pr.flatMap Ki) (by rfl) (V.below E) (WO s.pr) (by unfold maxLen;omega) aR E.size ?_;intro a5 K w5 k;have a:Be w w5:=E.trans (k.only.mY.mono E.size);clear k;refine oI bq (KS _ a) fun _=> ?_
 repeat refine' tT ?_
 refine pO fun KT bq=> ?_;refine oo (by rfl) _ _ _ (by rfl) w.heap.size 408 I _ 3 40 underlying269 H c d i rfl aR none 0 0 [] (by rfl) ⟨rfl,.inl ⟨rfl,rfl⟩⟩ (some ⟨s.gc,0,none⟩) n n (s.co.flatMap Ki) (by rfl) (u.below a) (WO s.co) (by unfold maxLen;omega) aR a.size ?_;intro a6 y w6 l;have b:Be w w6:=a.trans (l.only.mY.mono a.size);clear l;refine oI bq (KS _ b) fun _=> ?_
 repeat refine' tT ?_
 refine pO fun KT bq=> ?_;go_simp;refine oI bq (KS _ (b.alloc b.size _)) fun _=> ?_
 repeat refine' tT ?_
 refine aU ?_;have F:=jj (b.alloc b.size (.cells #[U f,s.has,acX s.ba s.bn s.bc,acX a5 n K,acX a6 n y] 271));clear j;go_wp2_with fail;go_ret
 first|exact⟨_,rfl,F⟩|exact⟨⟨_,rfl⟩,F⟩|exact⟨_,by trivial,F⟩
theorem Uw(L:List qm): ∀v∈L.flatMap mH,v.oneCell'=true:=by intro v H;obtain⟨p,_,h⟩:=bg.1 H;simp only[mH,ay,aI,or_false] at h;rcases h with rfl|rfl|rfl|rfl|rfl|rfl|rfl|rfl|rfl|rfl|rfl|rfl|rfl|rfl<;>rfl
theorem VA{α:Type}(f:α->List Value)(s:Nat)(hs: ∀p,(f p).length=s): ∀(L:List α) (k:Nat) (p:α) (j:Nat),L[k]?=some p->j<s->(L.flatMap f)[s*k+j]?=(f p)[j]?
 | [],k,p,j,hk,hj=>by simp at hk
 |a::L,0,p,j,hk,hj=>by simp only[List.getElem?_cons_zero,aD] at hk;subst hk;rw[bQ,Nat.mul_zero,aO,bC (by rw[hs];exact hj)]
 |a::L,k+1,p,j,hk,hj=>by rw[List.getElem?_cons_succ] at hk;rw[bQ,bN (by rw[hs,Nat.mul_succ];omega),hs,show s*(k+1)+j -s=s*k+j by rw[Nat.mul_succ];omega];exact VA f s hs L k p j hk hj
theorem eU.ajS{num ahead:Int}{i:tJ}(h:eU x w f n num ahead gi i){p:qm}(H:i.ps[k]?=some p):J w i.gl (k*14) p.g:=by have a:k<i.ps.length:=(ah.1 H).1;have e:=VA mH 14 tC i.ps k p 0 H aV;rw[Nat.add_zero] at e;rw[gX,h.row.cell,cZ,bC (by rw[qj _ 14 tC];omega),e];rfl
theorem eU.apk{num ahead:Int}{i:tJ}(h:eU x w f n num ahead gi i):gD w (some ⟨i.gl,0,none⟩) 16 14 (i.ps.flatMap mH):=by refine⟨by rw[qj _ 14 tC,h.len],fun _=>⟨i.gl,0,rfl,h.row.lt,fun k v H=> ?_⟩⟩;rw[aO,h.row.cell k,cZ,bC (ah.1 H).1,H]
theorem aaR(x:Nat)(w:World)(f:Int)(n:Nat)(num ahead:Int)(gi:Nat)(i:tJ)(h:eU x w f n num ahead gi i)(hn:n<=13):
  Y 93 #[gi] w fun e w'=> ∃q,e= .returned (q:Nat)/\Be w w':=by
 obtain⟨i0,P,S,T,V⟩:=info_parts FH;have H:=jj h;have HN:=jj hn;clear h hn;go_enter func93,ntmps93
 go_upto_region 2 with(refine wpList_load_row rfl 223 (.tmp 6) rfl gi rfl 223 #[U f,U num,U ahead,U i.vw,i.on,O i.gl 16 i.cap] (0,0) _ H.blk underlying223 rfl (by kernel_rfl) ?_;try simp only[Act.put]);generalize hw1:w.alloc _=w1;generalize hq:w.heap.size=q;replace hw1:=hw1.symm;replace hq:=hq.symm;have l:=xNew hw1 hq;have t:=tQ hw1;have QE:=jj hq;clear hw1 hq;have c5:J w1 gi 5 (O i.gl 16 i.cap):=(H.below t).blk.cell 5;have V1:=jj (H.below t).apk
 go_upto_region 3 with(at_builtin;refine fD rfl _ _ _ rfl w1.heap.size 230 i0 _ 14 168 underlying221 P S T V rfl aR none 0 0 [] rfl ⟨rfl,.inl ⟨rfl,rfl⟩⟩ (some ⟨i.gl,0,none⟩) 16 i.cap (i.ps.flatMap mH) rfl V1 (Uw i.ps) (by unfold maxLen;omega) aR (aF _) ?_;intro a2 D W E;have F:=l.below E.only.mY l.lt;have BY:=F9 (Be w W) (t.trans (E.only.mY.mono t.size));have I:=F9 (W.ownsRow w1.heap.size 230 14 (.slice a2 16 D) 16 (i.ps.flatMap mH)) E.own;clear E;have f5:=F.frozen 5;have g5:J W q 5 (O i.gl 16 i.cap):=F.cell 5;have K2:=jj F;clear F;try simp only[Act.put])
 have KX:=jj (K2.fU 5 (.slice a2 16 D));have Z:=jj (BY.setCell (p:=⟨q,5,none⟩) (by rw[QE.out];exact aF _) (.slice a2 16 D));obtain⟨X,c⟩:=ex (W.setCell ⟨q,5,none⟩ (.slice a2 16 D))
 first|rw[<-c]|(simp only[aO];rw[<-c])
 rw[<-c] at KX Z;obtain⟨L,j⟩:=ex ((afC f num ahead i).setIfInBounds 5 (.slice a2 16 D));have C3:=F9 (L[5]?=some (.slice a2 16 D)) (by rw[j];rfl);have KY:=F9 (aZ X q 223 L) (by rw[j];exact KX.out);obtain⟨g,rfl⟩: ∃g,a2=some ⟨g,0,none⟩:=by
  rcases rF I with h|h
  ·omega
  exact h
 have RW:=jj (Row.sG I);obtain⟨M,b,a0,-,a,-⟩:=RW.parts;have CU:=F9 (∃cs,aZ X g 230 cs/\224<=cs.size) ⟨M,by rw[c];exact aZ.only b ((Only.refl [q] W).setCell (.inl bJ) _) (by simp only[au];exact(K2.nY b aV).symm),by rw[a];omega⟩
 have GA:=F9 (w.heap.size<=g) (aG t.size (I.lt g rfl).1);have GQ:=F9 (w.heap.size<=q) (by rw[QE.out];exact aF _);clear c j b a c5 f5 g5 l;have s5:J X q 5 (O g 16 D):=(KY.cell 5).trans C3;go_wp2_with fail;go_loopw [17] (fun z wr=> ∃k:Nat,k<=16/\z= U k/\Be w wr/\aZ wr q 223 L/\ ∃cs,aZ wr g 230 cs/\224<=cs.size) (fun z _=>16 -(intOf z).toNat)
 case atStart=>exact⟨0,aR,by first|rfl|simp,Z,KY,CU⟩
 case round=>
  obtain⟨k,hk,rfl,hb,A,cs,a,y⟩:=hrel;obtain⟨B,K,CW,CZ⟩:=j4 hb A a y;clear hb A a y s5;by_cases Q:k<16
  ·have i1:(k:Int)<16:=aR
   have i2:(0:Int)<=k:=aR;obtain⟨p,R⟩: ∃p,i.ps[k]?=some p:=⟨_,aj (by rw[H.len];exact Q)⟩;have PS:=jj (H.at_ p (ak R));have e5:=H.blk.at_ 5;have ep:=H.ajS R;have KS: ∀w',Be wr w'->J w' q 5 (O g 16 D)/\J w' gi 5 (O i.gl 16 i.cap)/\J w' i.gl (k*14) p.g:=fun w' o=>⟨kept o _ _ ((K.cell 5).trans C3),kept o _ _ (kept B _ _ e5),kept o _ _ (kept B _ _ ep)⟩;clear R e5 ep;go_upto_region 6 with fail;refine rP (fun w'=>J w' q 5 (O g 16 D)/\J w' gi 5 (O i.gl 16 i.cap)/\J w' i.gl (k*14) p.g) 14 (tk 0 11 (.one 11 (.one 12 (.take 13 (.one 14 .done))))) (KS _ (aC _ _).drew) ?_;intro v;obtain⟨v0,m⟩:=ex wr.drew;have G:Be wr v0:=by rw[m];exact(aC _ _).drew
   rw[<-m] at v|-;clear m
   repeat refine' tT ?_
   refine pO fun KT bq=> ?_;go_simp;refine(ab1 _ p.g x f n p.sl (PS.slot.below (B.trans (G.mono B.size))) HN).mono ?_;rintro e w5 ⟨r,rfl,N⟩;have s:Be wr w5:=G.trans (N.mono G.size);refine oI bq (KS _ s) fun _=> ?_;have C:=jj (CW.below s CW.lt);have f9:=C.frozen (k*14);obtain⟨u9,g9⟩: ∃u,J w5 g (k*14) u:=⟨_,(C.cell (k*14)).trans (bD (tL CZ.out))⟩;refine pO fun KT bq=> ?_;go_simp;refine oI bq (KS _ s) fun _=> ?_
   repeat refine' tT ?_
   refine pL fun KT bq=> ?_;go_simp;refine oL bq ?_;refine aU ?_;clear v;obtain⟨w6,d⟩:=ex (w5.setCell ⟨g,k*14,none⟩ r);rw[<-d];have o6:Only [g] w5 w6:=by rw[d];exact(Only.refl [g] _).setCell (.inl bJ) _
   have K6:=jj ((K.below s K.lt).only o6 (fun hm=>by simp only[au] at hm;subst hm;exact absurd ((K.below s K.lt).nY C aV rfl) id));have C6:=F9 (∃cs,aZ w6 g 230 cs/\224<=cs.size) ⟨_,by rw[d];exact C.fU _ _,by simpa using CZ.out⟩;have B6:=F9 (Be w w6) (by rw[d];exact(B.trans (s.mono B.size)).setCell (p:=⟨g,k*14,none⟩) GA _);clear d o6 f9 g9;go_wp2_with fail;go_roundw
   case rel=>exact⟨k+1,aR,by go_num,B6,K6,C6⟩
   simp[intOf];omega
  obtain rfl:k=16:=aR;go_wp2_with fail;go_ret
  first|exact⟨_,rfl,B⟩|exact⟨⟨_,rfl⟩,B⟩
theorem nZ{t:TypeId}{cs:AV}(h:aZ w g t cs)(H:Be w w'):aZ w' g t cs:=h.below H h.lt
theorem aaV(x:Nat)(w:World)(f id:Int)(G:Nat)(d:sI)(h:qF x w f id G d)(T:d.il.length<=4096)(N0:d.al.length<=4096)(R:d.el.length<=4096)(O0:d.ol.length<=4096)(gn:Nat):
  Y 53 #[G,gn] w fun e w'=> ∃q,e=acK (q:Nat)/\(∃cs I n ea ec,aZ w' q 120 cs/\cs[19]?=some (acX I d.il.length n)/\gD w' I d.il.length 6 (d.il.flatMap rA)/\cs[22]?=some (acX ea d.el.length ec)/\gD w' ea d.el.length 7 (d.el.flatMap EO))/\Be w w':=by
 obtain⟨i0,C0,H0,I0,J0⟩:=info_parts Mf;obtain⟨j0,D0,E0,F0,G0⟩:=info_parts wD;obtain⟨H,L1,L2⟩:=j3 h T R;obtain⟨cs,b⟩:=ex (Nz f id d);have s:=F9 (aZ w G 120 cs) (by rw[b];exact h.blk);have X:=F9 (cs.size=24) (by rw[b];rfl);have A:=F9 (cs[17]?=some (.pointer (some ⟨d.gt,0,none⟩))) (by rw[b];rfl);have a0:=F9 (cs[16]?=some (.pointer (some ⟨d.nn,0,none⟩))) (by rw[b];rfl);have b0:=F9 (cs[19]?=some (acX d.ia d.il.length d.ic)) (by rw[b];rfl);have c0:=F9 (cs[21]?=some (acX d.aa d.al.length d.ac)) (by rw[b];rfl);have d0:=F9 (cs[22]?=some (acX d.ea d.el.length d.ec)) (by rw[b];rfl);have e0:=F9 (cs[23]?=some (acX d.oa d.ol.length d.oc)) (by rw[b];rfl);have t:=F9 (cs.all (·.oneCell')=true) (by rw[b];simp[Nz,Value.oneCell']);clear h T R b;go_enter func53,ntmps53
 go_upto_region 2 with(refine wpList_load_row rfl 120 (.tmp 7) rfl G rfl 120 cs (0,0) _ s underlying120 rfl (by rw[X.out];kernel_rfl) ?_;try simp only[Act.put])
 rw[run_storeCells_new w 120 _ cs (by rw[X.out];kernel_rfl) (by rw[X.out];rfl) t,Result.andThen_ok];go_upto_region 2 with fail;obtain⟨w1,l⟩:=ex (w.alloc (.cells cs 120));obtain⟨q,hq⟩:=ex w.heap.size;rw[<-l,<-hq];have U:=xNew l hq;have BX:=tQ l;have Q:=jj hq;clear l hq;have p0:J w1 G 17 d.gt:=((nZ s BX).cell 17).trans A;go_wp2_with fail;refine(Qb _ d.gt d.now (nZ H.Bc BX)).mono ?_;rintro e w2 ⟨g2,rfl,b2⟩;have B2:=nO BX b2;have v:=jj (nZ U b2);clear b2 U p0;have q0:=v.frozen 16;have r0:=v.frozen 17;have w0:J w2 q 16 d.nn:=(v.cell 16).trans a0;have x0:J w2 q 17 d.gt:=(v.cell 17).trans A;go_upto_region 3 with fail;obtain⟨w3,m⟩:=ex ((w2.setCell (adZ q 16) gn).setCell (adZ q 17) g2);rw[<-m];obtain⟨c3,r⟩:=ex ((cs.setIfInBounds 16 gn).setIfInBounds 17 g2);have K3:=F9 (aZ w3 q 120 c3) (by rw[m,r];exact(v.fU 16 _).fU 17 _);have B3:=F9 (Be w w3) (by rw[m];exact(B2.setCell (p:=adZ q 16) (by rw[Q.out];exact aF _) _).setCell (p:=adZ q 17) (by rw[Q.out];exact aF _) _);have Z:=F9 (c3.size=24) (by rw[r];simpa using X.out);clear m r q0 r0 w0 x0;go_wp2_with fail;refine(Ml _ G cs (nZ s B3) d.ia d.il.length d.ic d.il b0 ((fH H.yK).below B3) L1).mono ?_;rintro e w4 ⟨⟨I,n,rfl,S⟩,b4⟩;have B4:=nO B3 b4;have I4:=jj S;have K4:=jj (nZ K3 b4);clear b4 S;go_wp2_with fail;refine(Aa _ G cs (nZ s B4) d.ea d.el.length d.ec d.el d0 ((fH H.acc).below B4) L2).mono ?_;rintro e w5 ⟨⟨ea,ec,rfl,N⟩,b5⟩;have B5:=nO B4 b5;have I5:=jj (own_below I4 b5);have E5:=jj N;have K:=jj (nZ K4 b5);clear b5 N;have s0:=K.frozen 19;have u0:=K.frozen 22;obtain⟨P0,y0⟩: ∃u,J w5 q 19 u:=⟨_,(K.cell 19).trans (bD (by rw[Z.out];omega))⟩;obtain⟨R0,A0⟩: ∃u,J w5 q 22 u:=⟨_,(K.cell 22).trans (bD (by rw[Z.out];omega))⟩;go_upto_region 4 with fail;obtain⟨w6,k⟩:=ex ((w5.setCell (adZ q 19) (acX I d.il.length n)).setCell (adZ q 22) (acX ea d.el.length ec));rw[<-k];obtain⟨F,i⟩:=ex ((c3.setIfInBounds 19 (acX I d.il.length n)).setIfInBounds 22 (acX ea d.el.length ec));have K6:=F9 (aZ w6 q 120 F) (by rw[k,i];exact(K.fU 19 _).fU 22 _);have V:=F9 (Be w w6) (by rw[k];exact(B5.setCell (p:=adZ q 19) (by rw[Q.out];exact aF _) _).setCell (p:=adZ q 22) (by rw[Q.out];exact aF _) _);have o6:Only [q] w5 w6:=by rw[k];exact((Only.refl [q] _).setCell (.inl bJ) _).setCell (.inl bJ) _
 have I6:=jj (gH I5 o6 K aV);have E6:=jj (gH E5 o6 K aV);have Z6:=F9 (F.size=24) (by rw[i];simpa using Z.out);have l0:=F9 (F[19]?=some (acX I d.il.length n)) (by rw[i,aW aV,bZ,if_pos (by rw[Z.out];decide)]);have m0:=F9 (F[22]?=some (acX ea d.el.length ec)) (by rw[i,bZ,if_pos (by rw[iy,Z.out];decide)]);clear k i o6 s0 u0 y0 A0;have K0:J w6 G 21 (acX d.aa d.al.length d.ac):=((nZ s V).cell 21).trans c0;have n0:=jj ((fH H.ans).below V)
 go_upto_region 5 with(at_builtin;refine fD rfl _ _ _ rfl w6.heap.size 253 i0 _ 2 16 underlying118 C0 H0 I0 J0 rfl aR none 0 0 [] rfl ⟨rfl,.inl ⟨rfl,rfl⟩⟩ d.aa d.al.length d.ac _ rfl n0 (PX d.al) (by unfold maxLen;omega) aR (aF _) ?_;intro a7 d7 w7 M;have B:=M.only.mY;have B7:=F9 (Be w w7) (V.trans (B.mono V.size));have y:=jj (nZ K6 B);have I7:=jj (own_below I6 B);have E7:=jj (own_below E6 B);clear M B;have t0:=y.frozen 21;obtain⟨Q0,z0⟩: ∃u,J w7 q 21 u:=⟨_,(y.cell 21).trans (bD (by rw[Z6.out];omega))⟩;try simp only[Act.put])
 obtain⟨w8,g⟩:=ex (w7.setCell (adZ q 21) (acX a7 (0+d.al.length) d7))
 first|rw[<-g]|(simp only[aO] at g|-;rw[<-g])
 obtain⟨L,j⟩:=ex (F.setIfInBounds 21 (acX a7 d.al.length d7));have o8:Only [q] w7 w8:=by rw[g];exact(Only.refl [q] _).setCell (.inl bJ) _
 have K8:=F9 (aZ w8 q 120 L) (by rw[g,j];simpa using y.fU 21 _);have W:=F9 (Be w w8) (by rw[g];exact B7.setCell (p:=adZ q 21) (by rw[Q.out];exact aF _) _);have I8:=jj (gH I7 o8 y aV);have E8:=jj (gH E7 o8 y aV);have Z8:=F9 (L.size=24) (by rw[j];simpa using Z6.out);have D:=F9 (L[19]?=some (acX I d.il.length n)) (by rw[j,aW aV];exact l0.out);have E:=F9 (L[22]?=some (acX ea d.el.length ec)) (by rw[j,aW aV];exact m0.out);clear g j o8 t0 z0 K0;have L0:J w8 G 23 (acX d.oa d.ol.length d.oc):=((nZ s W).cell 23).trans e0;have o0:=jj ((fH H.out.out.own).below W)
 go_upto_region 6 with(at_builtin;refine fD rfl _ _ _ rfl w8.heap.size 179 j0 _ 2 32 underlying109 D0 E0 F0 G0 rfl aR none 0 0 [] rfl ⟨rfl,.inl ⟨rfl,rfl⟩⟩ d.oa d.ol.length d.oc _ rfl o0 (Ec d.ol) (by unfold maxLen;omega) aR (aF _) ?_;intro a9 d9 w9 M;have B:=M.only.mY;have B9:=F9 (Be w w9) (W.trans (B.mono W.size));have z:=jj (nZ K8 B);have I9:=jj (own_below I8 B);have E9:=jj (own_below E8 B);clear M B;have v0:=z.frozen 23;obtain⟨S0,B0⟩: ∃u,J w9 q 23 u:=⟨_,(z.cell 23).trans (bD (by rw[Z8.out];omega))⟩;try simp only[Act.put])
 obtain⟨w10,a⟩:=ex (w9.setCell (adZ q 23) (acX a9 (0+d.ol.length) d9))
 first|rw[<-a]|(simp only[aO] at a|-;rw[<-a])
 obtain⟨C,c⟩:=ex (L.setIfInBounds 23 (acX a9 d.ol.length d9));have O:Only [q] w9 w10:=by rw[a];exact(Only.refl [q] _).setCell (.inl bJ) _
 have k0:=F9 (aZ w10 q 120 C) (by rw[a,c];simpa using z.fU 23 _);have f0:=F9 (Be w w10) (by rw[a];exact B9.setCell (p:=adZ q 23) (by rw[Q.out];exact aF _) _);have h0:=jj (gH I9 O z aV);have g0:=jj (gH E9 O z aV);have M0:=F9 (C.size=24) (by rw[c];simpa using Z8.out);have P:=F9 (C[19]?=some (acX I d.il.length n)) (by rw[c,aW aV];exact D.out);have o:=F9 (C[22]?=some (acX ea d.el.length ec)) (by rw[c,aW aV];exact E.out);clear a c O v0 B0 L0;go_wp2_with fail;go_ret;refine⟨q,by trivial,⟨C,I,n,ea,ec,k0,P,fH h0,o,fH g0⟩,f0⟩
theorem IY:(prog.info? 164).map (fun i=>(i.zero,i.size,i.bytes))=some (some (.pointer none),1,8):=by kernel_rfl
theorem FE:(prog.info? 35).map (fun i=>(i.zero,i.size,i.bytes))=some (some (acX none 0 0),1,24):=by kernel_rfl
theorem Bh:(prog.info? 3).map (fun i=>(i.zero,i.size,i.bytes))=some (some (U 0),1,8):=by kernel_rfl
structure xZ(w wr:World)(q:Nat)(c:AV)(a1:OA)(d1 k1:Nat)(a2:OA)(d2 k2:Nat)(a3:OA)(d3 k3:Nat):Prop where
 below:Be w wr
 ge:w.heap.size<=q
 blk:aZ wr q 131 c
 size:c.size=40
 c1:c[18]?=some (acX a1 k1 d1)
 c2:c[26]?=some (acX a2 k2 d2)
 c3:c[27]?=some (acX a3 k3 d3)
 o1: ∃xs,wr.ownsRow w.heap.size 164 1 (acX a1 k1 d1) k1 xs
 o2: ∃xs,wr.ownsRow w.heap.size 35 1 (acX a2 k2 d2) k2 xs
 o3: ∃xs,wr.ownsRow w.heap.size 35 1 (acX a3 k3 d3) k3 xs
 ne: ∀g,a2.map (·.block)=some g->a3.map (·.block)≠some g
section
variable{w wr w':World}{q:Nat}{c:AV}{a1 a2 a3 a':OA}{d1 k1 d2 k2 d3 k3 n cap:Nat}{xs:LV}
theorem xZ.keep(h:xZ w wr q c a1 d1 k1 a2 d2 k2 a3 d3 k3)(H:Be wr w'):xZ w w' q c a1 d1 k1 a2 d2 k2 a3 d3 k3:=by obtain⟨x,o1⟩:=h.o1;obtain⟨X,o2⟩:=h.o2;obtain⟨a,o3⟩:=h.o3;exact⟨h.below.trans (H.mono h.below.size),h.ge,h.blk.below H h.blk.lt,h.size,h.c1,h.c2,h.c3,⟨x,own_below o1 H⟩,⟨X,own_below o2 H⟩,⟨a,own_below o3 H⟩,h.ne⟩
theorem xZ.cell(h:xZ w wr q c a1 d1 k1 a2 d2 k2 a3 d3 k3)(H:Be wr w'):J w' q 18 (acX a1 k1 d1)/\J w' q 26 (acX a2 k2 d2)/\J w' q 27 (acX a3 k3 d3):=
 ⟨((h.keep H).blk.cell 18).trans h.c1,((h.keep H).blk.cell 26).trans h.c2,((h.keep H).blk.cell 27).trans h.c3⟩
theorem xZ.q6(h:xZ w wr q c a1 d1 k1 a2 d2 k2 a3 d3 k3){t:TypeId}{a:OA}(d:wr.ownsRow w.heap.size t 1 (acX a m e) m ys)(f:t≠131)(H:qQ wr w' w.heap.size t 1 a a' n cap xs):aZ w' q 131 c:=
 h.blk.only H.only fun b=>mG d h.blk f (by rw[dQ];exact aJ.1 b)
theorem xZ.b6(h:xZ w wr q c a1 d1 k1 a2 d2 k2 a3 d3 k3){t:TypeId}{a:OA}(d:wr.ownsRow w.heap.size t 1 (acX a m e) m ys)(H:qQ wr w' w.heap.size t 1 a a' n cap xs):Be w w':=
 H.only.below h.below h.below.size fun k b=>(dG d k (by rw[dQ];exact aJ.1 b)).1
theorem vR{base t:Nat}{a a0:OA}(h:wr.ownsRow base t s (acX a m e) m ys)(d:Only (a0.map (·.block)).toList wr w')(H: ∀g,a.map (·.block)=some g->a0.map (·.block)≠some g):w'.ownsRow base t s (acX a m e) m ys:=
 mK h d fun g b c=>H g (by rw[<-dQ];exact b) (aJ.1 c)
theorem xZ.step1(h:xZ w wr q c a1 d1 k1 a2 d2 k2 a3 d3 k3)(H:qQ wr w' w.heap.size 164 1 a1 a' n cap xs):xZ w (w'.setCell (adZ q 18) (acX a' n cap)) q (c.setIfInBounds 18 (acX a' n cap)) a' cap n a2 d2 k2 a3 d3 k3:=by obtain⟨x,o1⟩:=h.o1;obtain⟨X,o2⟩:=h.o2;obtain⟨d,o3⟩:=h.o3;have K:=h.q6 o1 aV H;have B:=h.b6 o1 H;have O:Only [q] w' (w'.setCell (adZ q 18) (acX a' n cap)):=(Only.refl [q] _).setCell (.inl bJ) _;have p2:=gH (vR o2 H.only (fun g a b=>uP o2 o1 aV g (aJ.2 a) (aJ.2 b))) O K aV;have p3:=gH (vR o3 H.only (fun g a b=>uP o3 o1 aV g (aJ.2 a) (aJ.2 b))) O K aV;have p1:=gH H.own O K aV;exact⟨B.setCell (p:=adZ q 18) h.ge _,h.ge,K.fU 18 _,by rw[iy];exact h.size,by rw[bZ,if_pos (by rw[h.size];decide)],by rw[aW aV];exact h.c2,by rw[aW aV];exact h.c3,⟨_,p1⟩,⟨_,p2⟩,⟨_,p3⟩,h.ne⟩
theorem xZ.step2(h:xZ w wr q c a1 d1 k1 a2 d2 k2 a3 d3 k3)(H:qQ wr w' w.heap.size 35 1 a2 a' n cap xs):xZ w (w'.setCell (adZ q 26) (acX a' n cap)) q (c.setIfInBounds 26 (acX a' n cap)) a1 d1 k1 a' cap n a3 d3 k3:=by obtain⟨x,o1⟩:=h.o1;obtain⟨X,o2⟩:=h.o2;obtain⟨d,o3⟩:=h.o3;have K:=h.q6 o2 aV H;have B:=h.b6 o2 H;have O:Only [q] w' (w'.setCell (adZ q 26) (acX a' n cap)):=(Only.refl [q] _).setCell (.inl bJ) _;have p1:=gH (vR o1 H.only (fun g b a=>uP o1 o2 aV g (aJ.2 b) (aJ.2 a))) O K aV;have p3:=gH (vR o3 H.only (fun g b a=>h.ne g a b)) O K aV;have p2:=gH H.own O K aV;exact⟨B.setCell (p:=adZ q 26) h.ge _,h.ge,K.fU 26 _,by rw[iy];exact h.size,by rw[aW aV];exact h.c1,by rw[bZ,if_pos (by rw[h.size];decide)],by rw[aW aV];exact h.c3,⟨_,p1⟩,⟨_,p2⟩,⟨_,p3⟩,fun g b a=>(H.at_ g b).elim (fun e=>h.ne g e a) fun e=>by have:=(dG o3 g (by rw[dQ];exact a)).2;omega⟩
theorem xZ.alc(h:xZ w wr q c a1 d1 k1 a2 d2 k2 a3 d3 k3)(H:qQ wr w' w.heap.size 35 1 a3 a' n cap xs):xZ w (w'.setCell (adZ q 27) (acX a' n cap)) q (c.setIfInBounds 27 (acX a' n cap)) a1 d1 k1 a2 d2 k2 a' cap n:=by obtain⟨x,o1⟩:=h.o1;obtain⟨X,o2⟩:=h.o2;obtain⟨d,o3⟩:=h.o3;have K:=h.q6 o3 aV H;have B:=h.b6 o3 H;have O:Only [q] w' (w'.setCell (adZ q 27) (acX a' n cap)):=(Only.refl [q] _).setCell (.inl bJ) _;have p1:=gH (vR o1 H.only (fun g a b=>uP o1 o3 aV g (aJ.2 a) (aJ.2 b))) O K aV;have p2:=gH (vR o2 H.only h.ne) O K aV;have p3:=gH H.own O K aV;exact⟨B.setCell (p:=adZ q 27) h.ge _,h.ge,K.fU 27 _,by rw[iy];exact h.size,by rw[aW aV];exact h.c1,by rw[aW aV];exact h.c2,by rw[bZ,if_pos (by rw[h.size];decide)],⟨_,p1⟩,⟨_,p2⟩,⟨_,p3⟩,fun g a b=>(H.at_ g b).elim (fun e=>h.ne g a e) fun e=>by have:=(dG o2 g (by rw[dQ];exact a)).2;omega⟩
end
theorem Uf:(prog.info? 290).any (fun i=>i.size==5&&decide (i.bytes<=1000)&&i.zero.any fun z=>z.cells.size==5)=true:=by kernel_rfl
theorem QA:(prog.info? 292).any (fun i=>i.size==11&&decide (i.bytes<=1000)&&i.zero.any fun z=>z.cells.size==11)=true:=by kernel_rfl
theorem Lj{o:Option TypeInfo}(h:o.any (fun i=>i.size==s&&decide (i.bytes<=1000)&&i.zero.any fun z=>z.cells.size==s)=true): ∃i z,o=some i/\i.zero=some z/\i.size=s/\i.bytes<=1000/\z.cells.size=s:=by
 cases o with
 |none=>simp at h
 |some i=>
  cases H:i.zero with
  |none=>simp[H] at h
  |some z=>
   simp[H] at h;exact⟨i,z,rfl,H,h.1.1,h.1.2,h.2⟩
theorem QH(l:LI): ∀v∈(ints l).toList,v.oneCell'=true:=by intro v h;simp only[ints,bM] at h;obtain⟨z,_,rfl⟩:=h;rfl
theorem abb (x:Nat) (w:World) (f:Int) (n id gx b:Nat) (d:bK) (K:KS) (h:qE x w f n id gx b d K) (hn:n<=13) (h5:d.is.length<=5) (hp:d.nN.length=d.is.length) (hc:d.nG.length=d.is.length) (p2: ∀p∈d.nN,p.2.length<=64) (V1: ∀p∈d.nG,p.2.length<=64)
  (hT:d.T.length<=64) (hV:d.V.length<=13) (W1:d.es.length<=4096) (X1:1<=d.ga.length/\d.ga.length<=5) (k2:d.ol.length<=4096) (W V:Nat) (n2:d.xU.length=W*5) (U1:d.vZ.length=V*11) (U3:W<=64) (T3:V<=64) (b0: ∀v∈d.xU,v.oneCell'=true) (a0: ∀v∈d.vZ,v.oneCell'=true) (gn:Nat):
  Y 55 #[gx,gn] w fun e w'=> ∃q,e= .returned (q:Nat)/\(∃c S' R1,aZ w' q 131 c/\c[22]?=some (.pointer (some ⟨R1,0,none⟩))/\Er w' S' R1 2 d.es d.st d.ct)/\Be w w':=by
 obtain⟨ip,h2,l2,m2,A3⟩:=info_parts IY;obtain⟨ir,z0,A0,C0,q2⟩:=info_parts FE;obtain⟨ii,g2,Z1,e2,f2⟩:=info_parts Bh;obtain⟨j0,z3,E3,F3,G3⟩:=info_parts wD;have H:=jj h;have HN:=jj hn;obtain⟨n0,V0⟩:=ex d.is.length;have N0:=jj V0;have L5:n0<=5:=aR;have LP:=F9 (d.nN.length=n0) aR;have LC:=F9 (d.nG.length=n0) aR;obtain⟨PL,CL,LT,LV,LE,LG⟩:=j6 p2 V1 hT hV W1 X1;obtain⟨LO,PC,BC,P1,Q1⟩:=j5 k2 n2 U1 b0 a0;have y2:=F9 (J w gx 24 (O d.gp W W)) (by rw[h.blk.cell 24,show W=d.xU.length/5 by omega];rfl);have z2:=F9 (J w gx 25 (O d.gb V V)) (by rw[h.blk.cell 25,show V=d.vZ.length/11 by omega];rfl);obtain⟨ia,za,v3,H3,C3,p3,s3⟩:=Lj Uf;obtain⟨ib,zb,y3,I3,D3,q3,t3⟩:=Lj QA;obtain⟨cs,k0⟩:=ex (yB f id d);have HK:=F9 (aZ w gx 131 cs) (by rw[k0];exact h.blk);have HS:=F9 (cs.size=40) (by rw[k0];rfl);have J0:=F9 (cs.all (·.oneCell')=true) (by rw[k0];simp[yB,Value.oneCell']);have v2:=F9 (cs[18]?=some (.slice (some ⟨d.gr,0,none⟩) n0 d.rX)) (by rw[k0,V0];rfl);clear n2 U1 b0 a0 h hn h5 hp hc p2 V1 hT hV W1 X1 k2 k0 V0;go_enter func55,ntmps55
 go_upto_region 2 with(refine wpList_load_row rfl 131 (.tmp 9) rfl gx rfl 131 cs (0,0) _ HK underlying131 rfl (by rw[HS.out];kernel_rfl) ?_;try simp only[Act.put])
 rw[run_storeCells_new w 131 _ cs (by rw[HS.out];kernel_rfl) (by rw[HS.out];rfl) J0,Result.andThen_ok];go_upto_region 2 with fail;obtain⟨w1,D0⟩:=ex (w.alloc (.cells cs 131));obtain⟨q,hq⟩:=ex w.heap.size;rw[<-D0,<-hq];have k1:aZ w1 q 131 cs:=by rw[D0,hq];exact aZ.new _ _ _
 have BX:=tQ D0;have QE:=jj hq;clear D0 hq;have F2:=k1.frozen 16;obtain⟨G0,W2⟩: ∃u,J w1 q 16 u:=⟨_,(k1.cell 16).trans (bD (by rw[HS.out];omega))⟩;go_upto_region 3 with fail;obtain⟨w2,E0⟩:=ex (w1.setCell ⟨q,16,none⟩ gn);rw[<-E0];obtain⟨c2,T0⟩:=ex (cs.setIfInBounds 16 gn);have X:=F9 (aZ w2 q 131 c2) (by rw[E0,T0];exact k1.fU 16 _);have E:=F9 (Be w w2) (by rw[E0];exact BX.setCell (p:=⟨q,16,none⟩) (by rw[QE.out];exact aF _) _);have Z2:=F9 (c2.size=40) (by rw[T0];simpa using HS.out);clear E0 T0 F2 W2 k1 BX;have J3:J w2 gx 17 d.gt:=(H.below E.out).blk.cell 17;go_wp2_with fail;refine(Qb _ d.gt d.now (H.below E.out).Bc).mono ?_;rintro e w3 ⟨g3,rfl,b3⟩;have B3:=nO E b3;have C:=jj (nZ X b3);clear b3 E X J3;have G2:=C.frozen 17;have H2:=C.frozen 18;have T2:=C.frozen 26;have U2:=C.frozen 27;obtain⟨V3,X2⟩: ∃u,J w3 q 17 u:=⟨_,(C.cell 17).trans (bD (by rw[Z2.out];omega))⟩;obtain⟨W3,Y2⟩: ∃u,J w3 q 18 u:=⟨_,(C.cell 18).trans (bD (by rw[Z2.out];omega))⟩;obtain⟨d4,l3⟩: ∃u,J w3 q 26 u:=⟨_,(C.cell 26).trans (bD (by rw[Z2.out];omega))⟩;obtain⟨e4,m3⟩: ∃u,J w3 q 27 u:=⟨_,(C.cell 27).trans (bD (by rw[Z2.out];omega))⟩;go_upto_region 5 with fail;obtain⟨w4,F0⟩:=ex ((((w3.setCell ⟨q,17,none⟩ g3).setCell ⟨q,18,none⟩ ()).setCell ⟨q,26,none⟩ ()).setCell ⟨q,27,none⟩ ());rw[<-F0];have N4:=F9 (∃c,xZ w w4 q c none 0 0 none 0 0 none 0 0) ⟨(((c2.setIfInBounds 17 g3).setIfInBounds 18 ()).setIfInBounds 26 ()).setIfInBounds 27 (),by
  have Q: ∀k,w.heap.size<=(⟨q,k,none⟩:Addr).block:=fun k=>by show w.heap.size<=q;rw[QE.out];exact aF _
  refine⟨by rw[F0];exact(((B3.out.setCell (Q 17) _).setCell (Q 18) _).setCell (Q 26) _).setCell (Q 27) _,Q 0,by rw[F0];exact(((C.fU 17 _).fU 18 _).fU 26 _).fU 27 _,by simpa using Z2.out,?_,?_,?_,⟨[],rfl,.inl ⟨rfl,rfl⟩⟩,⟨[],rfl,.inl ⟨rfl,rfl⟩⟩,⟨[],rfl,.inl ⟨rfl,rfl⟩⟩,fun g hg=>by simp at hg⟩
  ·rw[aW aV,aW aV,bZ,if_pos (by simp[Z2.out])]
  ·rw[aW aV,bZ,if_pos (by simp[Z2.out])]
  rw[bZ,if_pos (by simp[Z2.out])]⟩
 clear F0 G2 H2 T2 U2 X2 Y2 l3 m3 C B3;obtain⟨c4,n4⟩:=N4.out;have L3:J w4 gx 18 (O d.gr n0 d.rX):=((nZ HK n4.below).cell 18).trans v2;clear n4;go_wp2_with fail;go_loopw [27] (fun z wr=> ∃k:Nat,k<=n0/\z= U k/\ ∃c a1 d1 a2 d2 a3 d3,xZ w wr q c a1 d1 k a2 d2 k a3 d3 k) (fun z _=>n0 -(intOf z).toNat)
 case atStart=>exact⟨0,aR,by first|rfl|simp,by obtain⟨c,hh⟩:=N4.out;exact⟨c,_,_,_,_,_,_,hh⟩⟩
 case round=>
  obtain⟨k,hk,rfl,c,a1,d1,a2,d2,a3,d3,hN⟩:=hrel;have NW:=jj hN;clear hN L3 N4;by_cases U0:k<n0
  ·have i1:(k:Int)<n0:=aR
   have i2:(0:Int)<=k:=aR;obtain⟨⟨gi,I⟩,hI⟩: ∃p,d.is[k]?=some p:=⟨_,aj (by rw[<-N0.out];exact U0)⟩;obtain⟨⟨G,l⟩,R0⟩: ∃p,d.nN[k]?=some p:=⟨_,aj (by rw[LP.out];exact U0)⟩;obtain⟨⟨i0,L⟩,S0⟩: ∃p,d.nG[k]?=some p:=⟨_,aj (by rw[LC.out];exact U0)⟩;obtain⟨HI,p0,q0⟩:=j3 hI R0 S0;have M2:=F9 (l.length<=64) (PL.out _ (ak R0));have M3:=F9 (L.length<=64) (CL.out _ (ak S0));clear hI R0 S0;have yr:J wr d.gr k gi:=(H.below NW.below).ptr HI;go_upto_region 8 with fail;obtain⟨x1,o1⟩:=NW.o1;have O1:=jj o1;have KS: ∀w',Be wr w'->J w' q 18 (.slice a1 k d1):=fun w' o=>(NW.cell o).1;clear o1 yr;refine rP (fun w'=>J w' q 18 (.slice a1 k d1)) 7 (tk 0 3 (.one 3 (.one 4 (.one 5 (.take 6 (.one 7 .done)))))) (KS _ (aC _ _).drew) ?_;intro a;have B:Be wr wr.drew:=(aC _ _).drew;obtain⟨u0,i⟩:=ex wr.drew;rw[<-i] at a B|-;clear i
   repeat refine' tT ?_
   refine pO fun KT bq=> ?_;go_simp;refine(aaR x _ f n k 4 gi I ((H.below (NW.keep B).below).inst HI) HN).mono ?_;rintro e u5 ⟨r,rfl,T1⟩;have D:Be wr u5:=B.trans (T1.mono B.size);clear T1;refine oI bq (KS _ D) fun _=> ?_;refine pO fun KT bq=> ?_;refine wK (by rfl) 122 1 _ (by rfl) #[(0,.pointer (some ⟨r,0,none⟩))] (by go_simp) _ (yj 122 164 ip _ underlying122 h2 l2 m2 r rfl _) ?_;have j:=D.alloc D.size (.cells #[r] 164);refine oI bq (KS _ j) fun _=> ?_;refine pO fun KT bq=> ?_;refine oo (by rfl) _ _ _ (by rfl) w.heap.size 164 ip _ 1 8 underlying122 h2 l2 m2 A3 rfl aR a1 k d1 x1 (by rfl) (own_below O1 j) (some ⟨u5.heap.size,0,none⟩) 1 1 [r] (by rfl) (qC _ _ _) (by simp[Value.oneCell']) (by unfold maxLen;omega) aR (VZ NW.below.size j.size) ?_;intro e8 c8 u8 m;have N:=NW.keep j;have Q8:=jj (N.q6 (own_below O1 j) aV m);have S8:J u8 q 18 (.slice a1 k d1):=(Q8.cell 18).trans N.c1;have f8:=Q8.frozen 18;refine oI bq S8 fun _=> ?_
   repeat refine' tT ?_
   refine pL fun KT bq=> ?_;go_simp;refine oL bq ?_;refine aU ?_;clear a KS f8;have N8:=jj (N.step1 m);obtain⟨v8,s2⟩:=ex (u8.setCell ⟨q,18,none⟩ (.slice e8 (k+1) c8));rw[<-s2] at N8|-;clear s2 m S8 Q8 N j D B O1;go_upto_region 9 with fail;obtain⟨x2,o2⟩:=N8.o2;have O2:=jj o2;have g1:=F9 (aZ v8 G 3 (ints l)) (((H.below N8.below).nN.KI _ (ak p0)));have KS: ∀w',Be v8 w'->J w' q 26 (.slice a2 k d2)/\J w' gx 26 (O d.xL d.nN.length d.Aq)/\J w' d.xL k (O G l.length l.length):=fun w' o=>⟨(N8.cell o).2.1,(H.below (N8.keep o).below).blk.cell 26,(H.below (N8.keep o).below).nN.out.cell (by rw[aS,p0.out];rfl)⟩;have j2:(k:Int)<d.nN.length:=by have:=(ah.1 p0).1;omega
   clear o2;refine rP (fun w'=>J w' q 26 (.slice a2 k d2)/\J w' gx 26 (O d.xL d.nN.length d.Aq)/\J w' d.xL k (O G l.length l.length)) 13 (tk 0 9 (.one 9 (.one 10 (.one 11 (.take 12 (.one 13 .done)))))) (KS _ (aC _ _).drew) ?_;intro a;have B:Be v8 v8.drew:=(aC _ _).drew;obtain⟨u0,i⟩:=ex v8.drew;rw[<-i] at a B|-;clear i
   repeat refine' tT ?_
   refine pO fun KT bq=> ?_;refine oo (by rfl) _ _ _ (by rfl) u0.heap.size 3 ii _ 1 8 underlying35 g2 Z1 e2 f2 rfl aR none 0 0 [] (by rfl) ⟨rfl,.inl ⟨rfl,rfl⟩⟩ (some ⟨G,0,none⟩) l.length l.length ((ints l).toList) (by rfl) ((gD.nR g1 (by simp[ints])).below B) (QH l) (by unfold maxLen;have:=M2.out;omega) (tL M2.out) (aF _) ?_;intro e5 c5 u5 h5;have D:Be v8 u5:=B.trans (h5.only.mY.mono B.size);clear h5;rw[aO];refine oI bq (KS _ D) fun _=> ?_;refine pO fun KT bq=> ?_;refine wK (by rfl) 129 1 _ (by rfl) #[(0,.slice e5 l.length c5)] (by go_simp) _ (yj 129 35 ir _ underlying129 z0 A0 C0 (.slice e5 l.length c5) rfl _) ?_;have j:=D.alloc D.size (.cells #[.slice e5 l.length c5] 35);refine oI bq (KS _ j) fun _=> ?_;refine pO fun KT bq=> ?_;refine oo (by rfl) _ _ _ (by rfl) w.heap.size 35 ir _ 1 24 underlying129 z0 A0 C0 q2 rfl aR a2 k d2 x2 (by rfl) (own_below O2 j) (some ⟨u5.heap.size,0,none⟩) 1 1 [.slice e5 l.length c5] (by rfl) (qC _ _ _) (by simp[Value.oneCell']) (by unfold maxLen;omega) aR (VZ N8.below.size j.size) ?_;intro e8 c8 u8 m;have N:=N8.keep j;have Q8:=jj (N.q6 (own_below O2 j) aV m);have S8:J u8 q 26 (.slice a2 k d2)/\J u8 gx 26 (O d.xL d.nN.length d.Aq)/\J u8 d.xL k (O G l.length l.length):=⟨(Q8.cell 26).trans N.c2,(H.below (N.b6 (own_below O2 j) m)).blk.cell 26,(H.below (N.b6 (own_below O2 j) m)).nN.out.cell (by rw[aS,p0.out];rfl)⟩;have f8:=Q8.frozen 26;refine oI bq S8 fun _=> ?_
   repeat refine' tT ?_
   refine pL fun KT bq=> ?_;go_simp;refine oL bq ?_;refine aU ?_;clear a KS f8;have N9:=jj (N.step2 m);obtain⟨v9,t2⟩:=ex (u8.setCell ⟨q,26,none⟩ (.slice e8 (k+1) c8));rw[<-t2] at N9|-;clear t2 m S8 Q8 N j D B O2 g1 N8;go_upto_region 10 with fail;obtain⟨x3,o3⟩:=N9.o3;have O3:=jj o3;have h1:=F9 (aZ v9 i0 3 (ints L)) (((H.below N9.below).nG.KI _ (ak q0)));have KS: ∀w',Be v9 w'->J w' q 27 (.slice a3 k d3)/\J w' gx 27 (O d.xK d.nG.length d.zR)/\J w' d.xK k (O i0 L.length L.length):=fun w' o=>⟨(N9.cell o).2.2,(H.below (N9.keep o).below).blk.cell 27,(H.below (N9.keep o).below).nG.out.cell (by rw[aS,q0.out];rfl)⟩;have j3:(k:Int)<d.nG.length:=by have:=(ah.1 q0).1;omega
   clear o3;refine rP (fun w'=>J w' q 27 (.slice a3 k d3)/\J w' gx 27 (O d.xK d.nG.length d.zR)/\J w' d.xK k (O i0 L.length L.length)) 13 (tk 0 9 (.one 9 (.one 10 (.one 11 (.take 12 (.one 13 .done)))))) (KS _ (aC _ _).drew) ?_;intro a;have B:Be v9 v9.drew:=(aC _ _).drew;obtain⟨u0,i⟩:=ex v9.drew;rw[<-i] at a B|-;clear i
   repeat refine' tT ?_
   refine pO fun KT bq=> ?_;refine oo (by rfl) _ _ _ (by rfl) u0.heap.size 3 ii _ 1 8 underlying35 g2 Z1 e2 f2 rfl aR none 0 0 [] (by rfl) ⟨rfl,.inl ⟨rfl,rfl⟩⟩ (some ⟨i0,0,none⟩) L.length L.length ((ints L).toList) (by rfl) ((gD.nR h1 (by simp[ints])).below B) (QH L) (by unfold maxLen;have:=M3.out;omega) (tL M3.out) (aF _) ?_;intro e5 c5 u5 h5;have D:Be v9 u5:=B.trans (h5.only.mY.mono B.size);clear h5;rw[aO];refine oI bq (KS _ D) fun _=> ?_;refine pO fun KT bq=> ?_;refine wK (by rfl) 129 1 _ (by rfl) #[(0,.slice e5 L.length c5)] (by go_simp) _ (yj 129 35 ir _ underlying129 z0 A0 C0 (.slice e5 L.length c5) rfl _) ?_;have j:=D.alloc D.size (.cells #[.slice e5 L.length c5] 35);refine oI bq (KS _ j) fun _=> ?_;refine pO fun KT bq=> ?_;refine oo (by rfl) _ _ _ (by rfl) w.heap.size 35 ir _ 1 24 underlying129 z0 A0 C0 q2 rfl aR a3 k d3 x3 (by rfl) (own_below O3 j) (some ⟨u5.heap.size,0,none⟩) 1 1 [.slice e5 L.length c5] (by rfl) (qC _ _ _) (by simp[Value.oneCell']) (by unfold maxLen;omega) aR (VZ N9.below.size j.size) ?_;intro e8 c8 u8 m;have N:=N9.keep j;have Q8:=jj (N.q6 (own_below O3 j) aV m);have S8:J u8 q 27 (.slice a3 k d3)/\J u8 gx 27 (O d.xK d.nG.length d.zR)/\J u8 d.xK k (O i0 L.length L.length):=⟨(Q8.cell 27).trans N.c3,(H.below (N.b6 (own_below O3 j) m)).blk.cell 27,(H.below (N.b6 (own_below O3 j) m)).nG.out.cell (by rw[aS,q0.out];rfl)⟩;have f8:=Q8.frozen 27;refine oI bq S8 fun _=> ?_
   repeat refine' tT ?_
   refine pL fun KT bq=> ?_;go_simp;refine oL bq ?_;refine aU ?_;clear a KS f8;have t1:=jj (N.alc m);obtain⟨f4,l0⟩:=ex (u8.setCell ⟨q,27,none⟩ (.slice e8 (k+1) c8));rw[<-l0] at t1|-;clear l0 m S8 Q8 N j D B O3 h1 N9;go_wp2_with fail;go_roundw
   case rel=>exact⟨k+1,aR,by go_num,_,_,_,_,_,_,_,t1⟩
   simp[intOf];omega
  obtain rfl:k=n0:=aR;obtain⟨KQ,ZQ,BQ,QG⟩:=j4 NW.blk NW.size NW.below NW.ge;have KS: ∀w',Be w w'->J w' gx 19 d.nH/\J w' gx 20 d.gv/\J w' gx 21 d.gg:=fun w' o=>⟨(H.below o).blk.cell 19,(H.below o).blk.cell 20,(H.below o).blk.cell 21⟩;clear NW;go_upto_region 12 with fail;refine rP (fun w'=>J w' gx 19 d.nH/\J w' gx 20 d.gv/\J w' gx 21 d.gg) 20 (tk 0 4 (tk 5 4 (tk 10 4 (.one 4 (.one 9 (.one 14 (.take 15 (.one 16 (.take 17 (.one 18 (.take 19 (.one 20 .done)))))))))))) (KS _ (BQ.trans (aC _ _).drew)) ?_;intro a;have B:Be w wr.drew:=BQ.trans (aC _ _).drew;obtain⟨u0,i⟩:=ex wr.drew;have K0:=jj KQ.drew;rw[<-i] at a B K0|-;clear i KQ BQ
  repeat refine' tT ?_
  refine pO fun KT bq=> ?_;go_simp;refine(ach _ d.nH f 2 d.T d.ST (H.below B).tab LT).mono ?_;rintro e u1 ⟨r1,rfl,b1⟩;have B1:=B.trans (b1.mono B.size);have K1:=jj (nZ K0 b1);clear b1;refine oI bq (KS _ B1) fun _=> ?_;refine pO fun KT bq=> ?_;go_simp;refine(acC _ d.gv d.Iz f d.V (H.below B1).vot LV).mono ?_;rintro e u2 ⟨r2,rfl,b2⟩;have E:=B1.trans (b2.mono B1.size);have X:=jj (nZ K1 b2);clear b2;refine oI bq (KS _ E) fun _=> ?_;refine pO fun KT bq=> ?_;go_simp;refine(aay _ d.gg 8 8 (H.below E).grd).mono ?_;rintro e u3 ⟨r3,rfl,b3⟩;have B3:=E.trans (b3.mono E.size);have C:=jj (nZ X b3);clear b3 K0 K1 X B B1 E;refine oI bq (KS _ B3) fun _=> ?_;have I2:=C.frozen 19;have J2:=C.frozen 20;have N2:=C.frozen 21;obtain⟨X3,c3⟩: ∃u,J u3 q 19 u:=⟨_,(C.cell 19).trans (bD (by rw[ZQ.out];omega))⟩;obtain⟨Y3,G⟩: ∃u,J u3 q 20 u:=⟨_,(C.cell 20).trans (bD (by rw[ZQ.out];omega))⟩;obtain⟨Z3,e3⟩: ∃u,J u3 q 21 u:=⟨_,(C.cell 21).trans (bD (by rw[ZQ.out];omega))⟩;have B4:=B3.setCell (p:=⟨q,19,none⟩) QG r1;have D:=B4.setCell (p:=⟨q,20,none⟩) QG r2;have j:=D.setCell (p:=⟨q,21,none⟩) QG r3
  repeat refine' tT ?_
  refine pO fun KT bq=> ?_;go_simp;refine oI bq (KS _ B4) fun _=> ?_
  repeat refine' tT ?_
  refine pO fun KT bq=> ?_;go_simp;refine oI bq (KS _ D) fun _=> ?_
  repeat refine' tT ?_
  refine pL fun KT bq=> ?_;go_simp;refine oL bq ?_;refine aU ?_;clear a KS I2 J2 N2 c3 G e3;obtain⟨Y0,d0⟩:=ex (((u3.setCell ⟨q,19,none⟩ r1).setCell ⟨q,20,none⟩ r2).setCell ⟨q,21,none⟩ r3);obtain⟨P0,c0⟩:=ex (((c.setIfInBounds 19 r1).setIfInBounds 20 r2).setIfInBounds 21 r3);have j1:=F9 (aZ Y0 q 131 P0) (by rw[d0,c0];exact((C.fU 19 _).fU 20 _).fU 21 _);have h0:=F9 (P0.size=40) (by rw[c0];simpa using ZQ.out);rw[<-d0] at j|-;have I0:=jj j;clear d0 c0 B3 B4 D j C ZQ;have KS: ∀w',Be w w'->J w' gx 22 d.gd/\J w' gx 23 d.gm:=fun w' o=>⟨(H.below o).blk.cell 22,(H.below o).blk.cell 23⟩;go_upto_region 13 with fail;refine rP (fun w'=>J w' gx 22 d.gd/\J w' gx 23 d.gm) 13 (tk 0 4 (tk 5 4 (.one 4 (.one 9 (.take 10 (.one 11 (.take 12 (.one 13 .done)))))))) (KS _ (I0.trans (aC _ _).drew)) ?_;intro a;have B:Be w Y0.drew:=I0.trans (aC _ _).drew;obtain⟨u0,i⟩:=ex Y0.drew;have K0:=jj j1.drew;rw[<-i] at a B K0|-;clear i j1 I0
  repeat refine' tT ?_
  refine pO fun KT bq=> ?_;go_simp;refine(QJ d.SL d.gd 2 d.es d.st d.ct _ (H.below B).led LE).mono ?_;rintro e u1 ⟨SL,Z,rfl,S1,Y1,b1⟩;have B1:=B.trans (b1.mono B.size);have K1:=jj (nZ K0 b1);have QN:=F9 (∀k∈SL,k∉ [q]) (fun k hk hm=>by simp only[au] at hm;have:=Y1 k hk;have:=K0.lt;omega);clear b1 Y1;refine oI bq (KS _ B1) fun _=> ?_;refine pO fun KT bq=> ?_;go_simp;refine(aa5 d.gm d.Dl d.ga _ (H.below B1).met LG.1 LG.2).mono ?_;rintro e u2 ⟨Q0,S3,rfl,-,-,-,b2⟩;have E:=B1.trans (b2.mono B1.size);have X:=jj (nZ K1 b2);have L2:=S1.below b2;clear b2 K0 K1 B B1 S1;refine oI bq (KS _ E) fun _=> ?_;have P2:=X.frozen 22;have Q2:=X.frozen 23;obtain⟨a4,f3⟩: ∃u,J u2 q 22 u:=⟨_,(X.cell 22).trans (bD (by rw[h0.out];omega))⟩;obtain⟨b4,h3⟩: ∃u,J u2 q 23 u:=⟨_,(X.cell 23).trans (bD (by rw[h0.out];omega))⟩;have B3:=E.setCell (p:=⟨q,22,none⟩) QG Z;have B4:=B3.setCell (p:=⟨q,23,none⟩) QG Q0
  repeat refine' tT ?_
  refine pO fun KT bq=> ?_;go_simp;refine oI bq (KS _ B3) fun _=> ?_
  repeat refine' tT ?_
  refine pL fun KT bq=> ?_;go_simp;refine oL bq ?_;refine aU ?_;clear a KS P2 Q2 f3 h3;obtain⟨H0,T⟩:=ex ((u2.setCell ⟨q,22,none⟩ Z).setCell ⟨q,23,none⟩ Q0);obtain⟨v0,M⟩:=ex ((P0.setIfInBounds 22 Z).setIfInBounds 23 Q0);have l1:=F9 (aZ H0 q 131 v0) (by rw[T,M];exact(X.fU 22 _).fU 23 _);have L0:=F9 (v0.size=40) (by rw[M];simpa using h0.out);have v1:=F9 (v0[22]?=some (.pointer (some ⟨Z,0,none⟩))) (by rw[M,aW aV,bZ,if_pos (by rw[h0.out];decide)]);have p1:=F9 (Er H0 SL Z 2 d.es d.st d.ct) (by rw[T];exact L2.only (((Only.refl [q] _).setCell (.inl bJ) _).setCell (.inl bJ) _) QN);rw[<-T] at B4|-;have e0:=jj B4;clear T M E B3 B4 X h0 L2;have N3:J H0 gx 24 (O d.gp W W):=kept e0 _ _ y2;have E1:=jj ((gD.nR (n:=W) (s:=5) H.parts (by rw[gZ,PC.out])).below e0)
  go_upto_region 15 with(at_builtin;refine fD rfl _ _ _ rfl H0.heap.size 290 ia _ 5 ia.bytes underlying127 v3 H3 C3 rfl s3 aR none 0 0 [] rfl ⟨rfl,.inl ⟨rfl,rfl⟩⟩ (some ⟨d.gp,0,none⟩) W W _ rfl E1 (fun v hv=>P1.out v (mR hv)) (by unfold maxLen;omega) (aG (jK (show 0+W<=64 by omega) p3) aV) (aF _) ?_;intro H1 L1 W0 m;have F:=m.only.mY;have c1:=F9 (Be w W0) (e0.trans (F.mono e0.size));have r0:=jj (nZ l1 F);have A1:=jj (p1.below F);clear m F;have R2:=r0.frozen 24;obtain⟨g4,i3⟩: ∃u,J W0 q 24 u:=⟨_,(r0.cell 24).trans (bD (by rw[L0.out];omega))⟩;try simp only[Act.put])
  obtain⟨m0,t⟩:=ex (W0.setCell ⟨q,24,none⟩ (.slice H1 (0+W) L1))
  first|rw[<-t]|(simp only[aO] at t|-;rw[<-t])
  obtain⟨w0,P⟩:=ex (v0.setIfInBounds 24 (.slice H1 W L1));have m1:=F9 (aZ m0 q 131 w0) (by rw[t,P];simpa using r0.fU 24 _);have f0:=F9 (Be w m0) (by rw[t];exact c1.setCell (p:=⟨q,24,none⟩) QG _);have q1:=F9 (Er m0 SL Z 2 d.es d.st d.ct) (by rw[t];exact A1.only ((Only.refl [q] _).setCell (.inl bJ) _) QN);have M0:=F9 (w0.size=40) (by rw[P];simpa using L0.out);have y1:=F9 (w0[22]?=some (.pointer (some ⟨Z,0,none⟩))) (by rw[P,aW aV];exact v1.out);clear t P r0 c1 A1 R2 i3 N3 E1 l1 e0 p1 L0 v1;have P3:J m0 gx 25 (O d.gb V V):=kept f0 _ _ z2;have F1:=jj ((gD.nR (n:=V) (s:=11) H.begun (by rw[gZ,BC.out])).below f0)
  go_upto_region 16 with(at_builtin;refine fD rfl _ _ _ rfl m0.heap.size 292 ib _ 11 ib.bytes underlying128 y3 I3 D3 rfl t3 aR none 0 0 [] rfl ⟨rfl,.inl ⟨rfl,rfl⟩⟩ (some ⟨d.gb,0,none⟩) V V _ rfl F1 (fun v hv=>Q1.out v (mR hv)) (by unfold maxLen;omega) (aG (jK (show 0+V<=64 by omega) q3) aV) (aF _) ?_;intro I1 M1 X0 m;have F:=m.only.mY;have e1:=F9 (Be w X0) (f0.trans (F.mono f0.size));have s0:=jj (nZ m1 F);have C1:=jj (q1.below F);clear m F;have S2:=s0.frozen 25;obtain⟨h4,k3⟩: ∃u,J X0 q 25 u:=⟨_,(s0.cell 25).trans (bD (by rw[M0.out];omega))⟩;try simp only[Act.put])
  obtain⟨o0,y⟩:=ex (X0.setCell ⟨q,25,none⟩ (.slice I1 (0+V) M1))
  first|rw[<-y]|(simp only[aO] at y|-;rw[<-y])
  obtain⟨x0,R⟩:=ex (w0.setIfInBounds 25 (.slice I1 V M1));have n1:=F9 (aZ o0 q 131 x0) (by rw[y,R];simpa using s0.fU 25 _);have g0:=F9 (Be w o0) (by rw[y];exact e1.setCell (p:=⟨q,25,none⟩) QG _);have s1:=F9 (Er o0 SL Z 2 d.es d.st d.ct) (by rw[y];exact C1.only ((Only.refl [q] _).setCell (.inl bJ) _) QN);have O0:=F9 (x0.size=40) (by rw[R];simpa using M0.out);have z1:=F9 (x0[22]?=some (.pointer (some ⟨Z,0,none⟩))) (by rw[R,aW aV];exact y1.out);clear y R s0 e1 C1 S2 k3 P3 F1 m1 f0 q1 M0 y1;have Q3:J o0 gx 34 (.slice d.oa d.ol.length d.oc):=kept g0 _ _ (H.blk.cell 34);have G1:=jj ((fH H.out.out.own).below g0)
  go_upto_region 17 with(at_builtin;refine fD rfl _ _ _ rfl o0.heap.size 179 j0 _ 2 32 underlying109 z3 E3 F3 G3 rfl aR none 0 0 [] rfl ⟨rfl,.inl ⟨rfl,rfl⟩⟩ d.oa d.ol.length d.oc _ rfl G1 (Ec d.ol) (by unfold maxLen;have:=LO.out;omega) (tL LO.out) (aF _) ?_;intro J1 N1 G0 m;have F:=m.only.mY;have f1:=F9 (Be w G0) (g0.trans (F.mono g0.size));have t0:=jj (nZ n1 F);have D1:=jj (s1.below F);clear m F;have V2:=t0.frozen 34;obtain⟨i4,n3⟩: ∃u,J G0 q 34 u:=⟨_,(t0.cell 34).trans (bD (by rw[O0.out];omega))⟩;try simp only[Act.put])
  obtain⟨Z0,A⟩:=ex (G0.setCell ⟨q,34,none⟩ (.slice J1 (0+d.ol.length) N1))
  first|rw[<-A]|(simp only[aO] at A|-;rw[<-A])
  obtain⟨y0,S⟩:=ex (x0.setIfInBounds 34 (.slice J1 d.ol.length N1));have C2:=F9 (aZ Z0 q 131 y0) (by rw[A,S];simpa using t0.fU 34 _);have A2:=F9 (Be w Z0) (by rw[A];exact f1.setCell (p:=⟨q,34,none⟩) QG _);have D2:=F9 (Er Z0 SL Z 2 d.es d.st d.ct) (by rw[A];exact D1.only ((Only.refl [q] _).setCell (.inl bJ) _) QN);have R3:=F9 (y0.size=40) (by rw[S];simpa using O0.out);have E2:=F9 (y0[22]?=some (.pointer (some ⟨Z,0,none⟩))) (by rw[S,aW aV];exact z1.out);clear A S t0 f1 D1 V2 n3 Q3 G1 n1 g0 s1 O0 z1;go_wp2_with fail;go_ret;exact⟨q,by trivial,⟨y0,SL,Z,C2,E2,D2⟩,A2⟩
end Go.Proofs.YtgnhecmnlddjhaaGreat
