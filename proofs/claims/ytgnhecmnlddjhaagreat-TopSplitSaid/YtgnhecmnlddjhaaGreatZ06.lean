/- TopSplit, part 7 of 12: a proof squeezed by a program. -/
import Derived.Test.YtgnhecmnlddjhaaGreatZ05
import Derived.BigRegion
import Derived.WalkMore
import Derived.Deep.RegionWith
set_option linter.all false
set_option maxRecDepth 100000
set_option maxHeartbeats 6400000
namespace Go.Proofs.YtgnhecmnlddjhaaGreat
open Go.RowKit Go.Proofs.Tryz
variable{I:tJ}{K K':KS}{L':List ni}{P P':qm}{a:OA}{b:LN}{b2 c c2 g gk gx j k n seq t x:Nat}{d:bK}{f m0 m1:Int}{p:Nat×tJ}{q:Int×List Int}{w w' w'':World}{z:Int×Int}{zs:List (Int×Int)}
def Kt(x:Nat)(w w':World)(E:Who)(gx b:Nat)(d:bK)(K K':KS)(v':ql):Prop:= ∃D:bK,mP x w w' E.f E.n E.id gx b d K D K'/\Fix d D/\D.val=v'
theorem sQ{i:Ba}{p:uo}(h:d.val.pl k j=some (i,p)): ∃g I P,d.is[k]?=some (g,I)/\I.ps[j]?=some P/\I.val=i/\P.val=p:=by unfold ql.pl at h;simp only[bK.val,aS,aA,aK] at h;obtain⟨c,⟨⟨g,I⟩,b,rfl⟩,e,H,a⟩:=h;simp only[tJ.val,aS,aK] at H;obtain⟨P,H,rfl⟩:=H;injection a with a h4;exact⟨g,I,P,b,H,a,h4⟩
theorem DT(a:d.is[k]?=some (g,I))(b:I.ps[j]?=some P):(d.insts k g {I with ps:=I.ps.set j P'}).val=d.val.put k j P'.val:=by
 have h:k<d.is.length:=(ah.1 a).1;unfold ql.put;simp only[bK.val,ql.mk.injEq,true_and,and_true];refine dD fun q=> ?_;rw[aS,eY,aS];by_cases H:k=q
 ·subst H
  rw[aL h,a];simp[tJ.val,eT]
 rw[aX H];simp[H]
theorem zZ(h:d.is[k]?=some p):k<d.is.length:=(ah.1 h).1
theorem WM{l:List rC}(h:(l.map rC.val)[j]?=some none): ∃v,l[j]?=some v/\v.has=false:=by
 rw[aS,aK] at h;obtain⟨v,b,H⟩:=h;refine⟨v,b,?_⟩;unfold rC.val at H;cases a:v.has
 ·rfl
 rw[a] at H;simp at H
theorem aeX(P:qm)(j:Nat)(s:Int)(a:OA)(m c:Nat)(bs:List Rq):({P with sl:={P.sl with pr:=P.sl.pr.set j ⟨true,s,a,m,c,bs⟩}}:qm).val={P.val with pr:=P.val.pr.set j (some (s,bs))}:=by simp only[qm.val,eT];rfl
theorem aeY(P:qm)(j:Nat)(s:Int)(a:OA)(m c:Nat)(bs:List Rq):({P with sl:={P.sl with co:=P.sl.co.set j ⟨true,s,a,m,c,bs⟩}}:qm).val={P.val with co:=P.val.co.set j (some (s,bs))}:=by simp only[qm.val,eT];rfl
theorem Fe(h:I.ps[j]?=some P){q:Nat}(H:q∈P.foot):q∈I.foot g:=Qo (ak h) H
theorem yx(b:I.ps[j]?=some P)(a:P'.foot=P.foot): ∀q∈({I with ps:=I.ps.set j P'}:tJ).foot g,q∈I.foot g:=by
 intro q h;simp only[tJ.foot,ay,bg] at h|-;rcases h with rfl|rfl|⟨R,H,h⟩
 ·exact .inl rfl
 ·exact .inr (.inl rfl)
 rcases cB H with H|rfl
 ·exact .inr (.inr ⟨R,H,h⟩)
 exact .inr (.inr ⟨P,ak b,a▸h⟩)
section
variable{x:Nat}{w w':World}{f:Int}{n id gx b:Nat}{d:bK}{K:KS}
theorem VY (h:qE x w f n id gx b d K) (hx:x<w.heap.size) (J:n<=13) (kind:Int) (k j src:Nat) (i:Ba) (p:uo) (O:d.val.pl k j=some (i,p)) (u:i.on=true) (S:Int) (A:OA) (m c:Nat) (bs:List Rq) (L:sK x w A m c bs) (G:m<=4096) (p':uo)
  (N:(kind=4/\p.pr[src]?=some none/\p'={p with pr:=p.pr.set src (some (S,bs))})\/(kind=5/\p.co[src]?=some none/\p'={p with co:=p.co.set src (some (S,bs))})) (z:Int) (M:z=(j:Int)+1) (gi:Nat) (H: ∃I,d.is[k]?=some (gi,I)):
  Y 217 #[gi,U kind,U z,U src,U S,acX A m c] w fun e w'=>e=acK true/\ ∃d',mP x w w' f n id gx b d K d' K/\Fix d d'/\d'.val=d.val.put k j p':=by
 obtain⟨g,I,P,l,o,rfl,rfl⟩:=sQ O;obtain⟨Q,H⟩:=H;rw[l] at H;injection H with H;injection H with H _;subst H;have F:eU x w f n k 4 g I:=h.inst l;have B: ∀(pr co:List rC),({P with sl:={P.sl with pr:=pr,co:=co}}:qm).foot=P.foot:=fun _ _=>rfl;rcases N with⟨rfl,E,rfl⟩|⟨rfl,E,rfl⟩
 ·obtain⟨v,s,t⟩:=WM E
  refine(ahg F u j P o src v s t J z M S A m c bs L G hx).mono ?_;rintro e w' ⟨y,C,rfl,r,D⟩;refine⟨rfl,d.insts k g _,(Step.refl h).inst l r D (fun q a=>Fe o (by simp only[au] at a;subst a;simp[qm.foot,CQ.foot])) (fun q a=> .inl (yx (P':={P with sl:={P.sl with pr:=P.sl.pr.set src ⟨true,S,y,m,C,bs⟩}}) o rfl q a)),Fix.Ai l,?_⟩;rw[DT l o,aeX]
 obtain⟨v,s,t⟩:=WM E;refine(ahh F u j P o src v s t J z M S A m c bs L G hx).mono ?_;rintro e w' ⟨y,C,rfl,r,D⟩;refine⟨rfl,d.insts k g _,(Step.refl h).inst l r D (fun q a=>Fe o (by simp only[au] at a;subst a;simp[qm.foot,CQ.foot])) (fun q a=> .inl (yx (P':={P with sl:={P.sl with co:=P.sl.co.set src ⟨true,S,y,m,C,bs⟩}}) o rfl q a)),Fix.Ai l,?_⟩;rw[DT l o,aeY]
end
theorem adx{id b:Nat}{d':bK}(h:qE x w f n id gx b d' K)(a:Fix d d')(c:d.is[k]?=some p):J w d'.gr k p.1:=by have:=a.ptr (k:=k) (gi:=p.1) (by rw[c];rfl);rw[aK] at this;obtain⟨q,e,H⟩:=this;rw[<-H];exact h.ptr e
theorem sK.step{L:List ni}{bs:List Rq}(H:sK x w a n c bs)(h:Sys x w L)(st:Step x w w' L L'):sK x w' a n c bs:=H.only st.only h.soft
theorem MC(x:Nat)(w:World)(E:Who)(gx b:Nat)(d:bK)(K:KS)(h:qE x w E.f E.n E.id gx b d K)(hx:x<w.heap.size)(h1:1<=E.f)(h4:E.f<=4)(hn:(E.n:Int)=3*E.f+1)(kind:Int)(k j:Nat)(e0:k<=16)(C:j<16)(z:Int)(hz:z=(j:Int)+1)(A:OA)(m c:Nat)(bs:List Rq)(hr:sK x w A m c bs)(t:KS)(v':ql)(a:vL E kind k j bs (K,d.val)=some (t,v')):
  Y 231 #[gx,U kind,U k,U z,acX A m c] w fun e w'=>e=acK (ac2 #[])/\Kt x w w' E gx b d K t v':=by
 unfold vL at a;simp only[aA] at a;obtain⟨⟨⟨K1,X⟩,S⟩,hs,⟨i,p⟩,hp,a⟩:=a;have W:m=bs.length:=hr.row.len.symm;have hq: ∃p',i.on=true/\bs.length<=4096/\((kind=4/\p.pr[E.id]?=some none/\p'={p with pr:=p.pr.set E.id (some (S,bs))})\/(kind=5/\p.co[E.id]?=some none/\p'={p with co:=p.co.set E.id (some (S,bs))}))/\t=K1/\v'=X.put k j p':=by
  split at a
  ·rename_i T
   simp only[aK,aM] at a;obtain⟨u,G,q,r⟩:=a;obtain⟨a1,a2,a3⟩:=mI G;exact⟨_,a1,a3,.inl ⟨T,a2,rfl⟩,q.symm,r.symm⟩
  simp only[aK,aM] at a;obtain⟨u,G,q,r⟩:=a;obtain⟨a0,a1,a2,a3⟩:=mI G;exact⟨_,a1,a3,.inr ⟨a0,a2,rfl⟩,q.symm,r.symm⟩
 obtain⟨p',c0,B,T,rfl,rfl⟩:=hq;have F:yI E (nA ⟨kind,0,d.view,k,z,0,A,m,c,bs,none,0,0,[],none,0,0,[],none,0⟩) (K,d.val)=some ((t,X),S):=by subst hz;exact hs
 clear hs;have v:=F9 (∀u,qE x u E.f E.n E.id gx b d K->x<u.heap.size->sK x u A m c bs->Y 170 #[gx,acY #[U kind,U 0,U d.view,U k,U z,U 0,acX A m c,(),(),()]] u fun e w'=>e=acK (ac2 #[U S,true])/\ ∃N R L,mP x u w' E.f E.n E.id gx b d K (d.outs N R L) t/\(d.outs N R L).val=X) fun u G d0 W=>GV x u E gx b d K G d0 h1 h4 hn ⟨kind,0,d.view,k,z,0,A,m,c,bs,none,0,0,[],none,0,0,[],none,0⟩ ⟨W,Ez.nil _ _,Gz.nil _ _⟩ t X S F;obtain⟨HP,HK,HZ⟩:=j3 hp T hz;clear hz C;obtain⟨H,HX,HR,HB,HM⟩:=j5 h hx hr B W;have NM:=F9 (E.n<=13) aR;have cv:=h.blk.at_ 29;clear h hx hr hp T F a B W hn;go_enter func231,ntmps231;go_wp2_with fail;refine(v.out w H HX HR).mono ?_;rintro e w1 ⟨rfl,N,R,L,o,f⟩;obtain⟨ST,H1,V⟩:=j3 o o.sys f;obtain⟨D,g⟩:=ex (d.outs N R L);rw[<-g] at ST H1 V;have NN:=F9 (Fix d D) (by rw[g];exact Fix.Bo d _ _ _);clear o f cv g;obtain⟨gi,I,P,l,b0,-,-⟩:=sQ (d:=D) (by rw[V.out];exact HP.out);have Z:=jj l;have i0:(0:Int)<=k:=aR;have i1:(k:Int)<D.is.length:=by have:=zZ l;omega
 clear l b0;go_upto_region 1 with fail;refine rD (fun u=>J u gx 18 (O D.gr D.is.length D.rX)/\J u D.gr k gi/\J u gx 15 (U E.id)) 16 (tk 0 15 (.one 15 .done)) ⟨H1.blk.drew.cell 18,H1.ptr Z,H1.blk.drew.cell 15⟩ fun v2 Q y=> ?_
 repeat refine' tT ?_
 refine pO fun KT bq=> ?_;go_simp;have H2:=jj (H1.below Q);have R2:=jj ((HR.step H ST).below Q);refine(VY H2 (aB HX (aG ST.size Q.size)) NM kind k j E.id i p (by rw[V.out];exact HP.out) c0 S A m c bs R2 (VZ HM.out HB.out) p' HK z HZ gi ⟨I,Z⟩).mono ?_;rintro e w3 ⟨rfl,d3,s,n,M⟩;have S3:J w3 gx 18 (O D.gr D.is.length D.rX)/\J w3 D.gr k gi/\J w3 gx 15 (U E.id):=by refine⟨(s.sys.blk.cell 18).trans (n.cell _ _ 18 aV),?_,s.sys.blk.cell 15⟩;rw[<-n.gr];exact adx s.sys n Z
 refine oH bq S3 ?_;clear y;have y:=S3
 repeat refine' tT ?_
 refine aU ?_;go_wp2_with fail;go_end0
 exact⟨by trivial,d3,(ST.below Q).trans s,NN.trans n,by rw[M,V.out]⟩
section
variable{x:Nat}{w w':World}{f:Int}{n:Nat}{num ahead:Int}{gi:Nat}{i:tJ}
theorem eU.Aj(h:eU x w f n num ahead gi i){cs:AV}(c:Only [g] w w')(H:aZ w g 228 cs):eU x w' f n num ahead gi i:=
 h.only c (mR (nV.of H aV)) fun k a b=>by
  simp only[au] at b;subst b;simp only[tJ.foot,ay,bg] at a;rcases a with rfl|rfl|⟨p,d,a⟩
  ·exact h.blk.nY H aV rfl
  ·exact h.row.nY H aV rfl
  have s:=(h.at_ p d).slot;simp only[qm.foot,CQ.foot,ay,aI,or_false] at a;rcases a with rfl|rfl|rfl
  ·exact s.blk.nY H aV rfl
  ·exact s.bp.nY H aV rfl
  exact s.bc.nY H aV rfl
theorem CF.Aj{c:CD}(h:CF x w c){cs:AV}(a:Only [g] w w')(H:aZ w g 228 cs):CF x w' c:=h.only a (mR (nV.of H aV))
theorem QI(h:eU x w f n num ahead gi i)(k:Nat)(p:qm)(hp:i.ps[k]?=some p)(S:i.on=true)(ht:p.told=false)(hs:p.sl.has=true)(h1:1<=f)(h4:f<=4)(R:n<=13)(q:Nat)(hq:(q:Int)=2*f+1)(V:List Vo)(hr:qx q (p.sl.pr.map rC.val) p.sl.bs=some V)(B:V.length<=4096)(z:Int)(hz:z=(k:Int)+1)(hi:qX i.vw/\qX num)(hx:x<w.heap.size):
  Y 259 #[gi,U z] w fun e w'=> ∃d cd:CD,e=acK (ac2 #[acY (nS d).toArray,true])/\pz d=⟨i.vw,num,z,p.sl.bs,V⟩/\d.bn<=4096/\CF x w' d/\eU x w' f n num ahead gi {i with ps:=i.ps.set k {p with told:=true,has:=true,cert:=cd}}/\pz cd=⟨i.vw,num,z,p.sl.bs,V⟩/\Only [i.gl] w w':=by
 have hk:k<16:=by have:=(ah.1 hp).1;rw[h.len] at this;exact this
 obtain⟨H,g,HX,HZ,HT,a0⟩:=j6 h hp hx hz ht S;obtain⟨HS,HR,HQ,HI,L⟩:=j5 hs hr hq hi B;clear h hp hx hz ht S hs hr hq hi B;go_enter func259,ntmps259;go_upto_region 1 with fail;generalize hv1:w.alloc _=v1;generalize hg4:w.heap.size=g4;replace hv1:=hv1.symm;replace hg4:=hg4.symm;have X1:=xNew hv1 hg4;have B1:=tQ hv1;have GE:=F9 (w.heap.size<=g4) aR;have H1:=jj (H.below B1);clear hv1 hg4;go_wp2_with fail;refine(wC H1 k hk z HZ).mono ?_;rintro e w' ⟨rfl,rfl⟩;have c0:J v1 i.gl (k*14) p.g:=H1.cell g 0 aR _ rfl;have c1:J v1 i.gl (k*14+1) false:=by rw[<-HT.out];exact H1.cell g 1 aR _ rfl
 have c4:J v1 gi 4 true:=(H1.blk.cell 4).trans (by rw[<-a0.out];rfl);have P:=jj (H1.at_ p (ak g));go_wp2_with fail;refine(Ga P.slot HS h1 h4 R P.short.b P.short.ps q HQ (some V) HR).mono ?_;rintro e w2 ⟨(⟨vs',a2,K,l,Z,E,rfl,ho⟩|⟨i0,rfl⟩),a⟩
 rotate_left
 ·cases i0
 obtain rfl:V=vs':=dh Z;have I:=jj E;have F2:=jj (Ez.own (x:=x) ho (aB HX B1.size) E);have X2:=jj (X1.below a X1.lt);have B2:=nO B1 a;have H2:=jj (H1.below a);clear a ho Z E c0 c1 c4;have c0:J w2 i.gl (k*14) p.g:=H2.cell g 0 aR _ rfl;have P:=jj (H2.at_ p (ak g));go_wp2_with fail;refine(Bz P.slot HS P.short.b (aB HX B2.size)).mono ?_;rintro e w3 ⟨a3,m,rfl,T,-,a⟩;have R3:=jj T;have X3:=jj (X2.below a X2.lt);have B3:=nO B2 a;have H3:=jj (H2.below a);have F3:=jj (F2.below a);clear a T c0;go_wp2_with fail;refine(afV H3 z a3 p.sl.bn m a2 K l).mono ?_;rintro e W ⟨rfl,a⟩;have X4:=jj (X3.below a X3.lt);have B4:=nO B3 a;have c:=jj (H3.below a);have F4:=jj (F3.below a);have R4:=jj (R3.below a);clear a;have q0:J W i.gl (k*14+1) p.told:=c.cell g 1 aR _ rfl;have r0:W.frozen? ⟨i.gl,k*14+1,none⟩=false:=c.row.frozen _;have q1:J W i.gl (k*14+2) p.has:=c.cell g 2 aR _ rfl;have r1:W.frozen? ⟨i.gl,k*14+2,none⟩=false:=c.row.frozen _;have q2:J W i.gl (k*14+3) (U p.cert.view):=c.cell g 3 aR _ rfl;have r2:W.frozen? ⟨i.gl,k*14+3,none⟩=false:=c.row.frozen _;have q3:J W i.gl (k*14+3+1) (U p.cert.inst):=c.cell g 4 aR _ rfl;have r3:W.frozen? ⟨i.gl,k*14+3+1,none⟩=false:=c.row.frozen _;have q4:J W i.gl (k*14+3+1+1) (U p.cert.seq):=c.cell g 5 aR _ rfl;have r4:W.frozen? ⟨i.gl,k*14+3+1+1,none⟩=false:=c.row.frozen _;have q5:J W i.gl (k*14+3+1+1+1) (acX p.cert.ba p.cert.bn p.cert.bc):=c.cell g 6 aR _ rfl;have r5:W.frozen? ⟨i.gl,k*14+3+1+1+1,none⟩=false:=c.row.frozen _;have q6:J W i.gl (k*14+3+1+1+1+1) (acX p.cert.va p.cert.vn p.cert.vc):=c.cell g 7 aR _ rfl;have r6:W.frozen? ⟨i.gl,k*14+3+1+1+1+1,none⟩=false:=c.row.frozen _;go_upto_region 9 with fail;obtain⟨t,u⟩:=ex ((((((((W.setCell ⟨i.gl,k*14+1,none⟩ true).setCell ⟨i.gl,k*14+2,none⟩ true).setCell ⟨i.gl,k*14+3,none⟩ (U i.vw)).setCell ⟨i.gl,k*14+3+1,none⟩ (U num)).setCell ⟨i.gl,k*14+3+1+1,none⟩ (U z)).setCell ⟨i.gl,k*14+3+1+1+1,none⟩ (acX a3 p.sl.bn m)).setCell ⟨i.gl,k*14+3+1+1+1+1,none⟩ (acX a2 K l)));rw[<-u];have RW:=F9 (aZ t i.gl 230 ((i.ps.set k {p with told:=true,has:=true,cert:=⟨i.vw,num,z,a3,p.sl.bn,m,p.sl.bs,a2,K,l,V⟩}).flatMap mH++i.rest).toArray) (by obtain⟨A,C,D,hr,X⟩:=c.open_row g;rw[<-X,u];have t0:=rR hr D (j:=1) (q:=k*14+1) (by simp[mH]) rfl true;have t1:=rR t0 D (j:=2) (q:=k*14+2) (by simp[mH]) rfl true;have t2:=rR t1 D (j:=3) (q:=k*14+3) (by simp[mH]) rfl (U i.vw);have t3:=rR t2 D (j:=4) (q:=k*14+3+1) (by simp[mH]) rfl (U num);have t4:=rR t3 D (j:=5) (q:=k*14+3+1+1) (by simp[mH]) rfl (U z);have t5:=rR t4 D (j:=6) (q:=k*14+3+1+1+1) (by simp[mH]) rfl (acX a3 p.sl.bn m);have t6:=rR t5 D (j:=7) (q:=k*14+3+1+1+1+1) (by simp[mH]) rfl (acX a2 K l);exact t6)
 have O:=F9 (Only [i.gl] W t) (by rw[u];exact((((((((Only.refl [i.gl] _).setCell (p:=⟨i.gl,k*14+1,none⟩) (.inl bJ) _).setCell (p:=⟨i.gl,k*14+2,none⟩) (.inl bJ) _).setCell (p:=⟨i.gl,k*14+3,none⟩) (.inl bJ) _).setCell (p:=⟨i.gl,k*14+3+1,none⟩) (.inl bJ) _).setCell (p:=⟨i.gl,k*14+3+1+1,none⟩) (.inl bJ) _).setCell (p:=⟨i.gl,k*14+3+1+1+1,none⟩) (.inl bJ) _).setCell (p:=⟨i.gl,k*14+3+1+1+1+1,none⟩) (.inl bJ) _));clear u q0 r0 q1 r1 q2 r2 q3 r3 q4 r4 q5 r5 q6 r6;have P:=jj (c.at_ p (ak g));have r: ∀b∈ [i.gl],nV x W b:=by simpa using nV.of c.row aV
 have R5:=jj (R4.only O r);have F5:=jj (F4.only O r);have G:=F9 (CF x t ⟨i.vw,num,z,a3,p.sl.bn,m,p.sl.bs,a2,K,l,V⟩) ⟨⟨R5.row,F5.row,HI.1,HI.2,(show qX z from⟨by have:=HZ.out;omega,by have:=HZ.out;omega⟩)⟩,R5.fix,F5.fix⟩;have F:=F9 (eU x t f n num ahead gi {i with ps:=i.ps.set k {p with told:=true,has:=true,cert:=⟨i.vw,num,z,a3,p.sl.bn,m,p.sl.bs,a2,K,l,V⟩}}) (c.put (p':={p with told:=true,has:=true,cert:=⟨i.vw,num,z,a3,p.sl.bn,m,p.sl.bs,a2,K,l,V⟩}) g rfl O (fun b a=> .inl (mR a)) RW
  ⟨P.slot.only O r (fun b a hm=>by simp only[au] at hm;subst hm;exact(c.far (ak g)).2 a),G,P.dw.only O r,⟨P.short.b,P.short.ps,P.short.cs,⟨P.short.b,by show K<=4096;have:=I.out;have:=L.out;omega⟩,P.short.d⟩⟩)
 have X5:=jj (X4.only O (by simpa using(c.row.nY X4 aV).symm));have M:=F9 (Only [i.gl] w t) ((Only.of_below B4).trans O);have o:(i.ps.set k {p with told:=true,has:=true,cert:=⟨i.vw,num,z,a3,p.sl.bn,m,p.sl.bs,a2,K,l,V⟩})[k]?=some {p with told:=true,has:=true,cert:=⟨i.vw,num,z,a3,p.sl.bn,m,p.sl.bs,a2,K,l,V⟩}:=aL (ah.1 g).1;have d0:J t i.gl (k*14+3) (U i.vw):=F.cell o 3 aR _ rfl;have e0:J t i.gl (k*14+3+1) (U num):=F.cell o 4 aR _ rfl;have f0:J t i.gl (k*14+3+2) (U z):=F.cell o 5 aR _ rfl;have g0:J t i.gl (k*14+3+3) (acX a3 p.sl.bn m):=F.cell o 6 aR _ rfl;have h0:J t i.gl (k*14+3+4) (acX a2 K l):=F.cell o 7 aR _ rfl;clear o r;go_wp2_with fail;refine(IU _ ⟨i.vw,num,z,a3,p.sl.bn,m,p.sl.bs,a2,K,l,V⟩ G.is P.short.b (by show K<=4096;have:=I.out;have:=L.out;omega) x (aB HX M.size)).mono ?_;rintro e w6 ⟨a6,k6,N,k7,rfl,Q,a⟩;have C6:=jj Q;have y:=jj (X5.below a X5.lt);have H6:=jj (F.below a);have b0:=jj (M.belows a);clear a Q d0 e0 f0 g0 h0;rw[show(nS (CD.moved ⟨i.vw,num,z,a3,p.sl.bn,m,p.sl.bs,a2,K,l,V⟩ a6 k6 N k7)).toArray=#[U i.vw,U num,U z,acX a6 p.sl.bn k6,acX N K k7] from rfl];have y0:=y.at_ 0;have z0:=y.frozen 0;have y1:=y.at_ 1;have z1:=y.frozen 1;have y2:=y.at_ 2;have z2:=y.frozen 2;have y3:=y.at_ 3;have z3:=y.frozen 3;have y4:=y.at_ 4;have z4:=y.frozen 4;go_wp2_with fail;obtain⟨w9,s⟩:=ex (setW w6 g4 0 [U i.vw,U num,U z,acX a6 p.sl.bn k6,acX N K k7]);have K9:=uL s y;have o9:=vM s;simp only[setW,aO,Nat.reduceAdd] at s;rw[<-s];clear s y0 y1 y2 y3 y4 z0 z1 z2 z3 z4;refine bodyPost_ret (v:=ac2 #[acY #[U i.vw,U num,U z,acX a6 p.sl.bn k6,acX N K k7],true]) ?_ rfl ⟨CD.moved ⟨i.vw,num,z,a3,p.sl.bn,m,p.sl.bs,a2,K,l,V⟩ a6 k6 N k7,⟨i.vw,num,z,a3,p.sl.bn,m,p.sl.bs,a2,K,l,V⟩,rfl,rfl,by show p.sl.bn<=4096;exact P.short.b,C6.Aj o9 y,H6.Aj o9 y,rfl,b0.then o9 (fun b a=> .inr (by simp only[au] at a;rw[a];exact GE.out))⟩;exact(mV Tryz.results259 _ w9 g4 _ _ _ _ (by rfl) K9 underlying228 rfl (by kernel_rfl)).trans rfl
theorem Ua(h:eU x w f n num ahead gi i)(k:Nat)(p:qm)(hp:i.ps[k]?=some p)(ht:p.done=false)(h1:1<=f)(h4:f<=4)(a0:n<=13)(q:Nat)(hq:(q:Int)=2*f+1)(b:List Rq)(V:List Vo)(hr:mQ q (p.sl.co.map rC.val) (p.sl.co.map rC.val)=some (b,V))(E:V.length<=4096)(z:Int)(hz:z=(k:Int)+1)(hi:qX i.vw/\qX num)(hx:x<w.heap.size):
  Y 260 #[gi,U z] w fun e w'=> ∃d cd:CD,e=acK (ac2 #[acY (nS d).toArray,true])/\pz d=⟨i.vw,num,z,b,V⟩/\d.bn<=4096/\CF x w' d/\eU x w' f n num ahead gi {i with ps:=i.ps.set k {p with done:=true,dw:=cd}}/\pz cd=⟨i.vw,num,z,b,V⟩/\Only [i.gl] w w':=by
 have hk:k<16:=by have:=(ah.1 hp).1;rw[h.len] at this;exact this
 obtain⟨H,g,HX,HZ,HT,HR⟩:=j6 h hp hx hz ht hr;obtain⟨HQ,HI,N⟩:=j3 hq hi E;clear h hp hx hz ht hr hq hi E;go_enter func260,ntmps260;go_upto_region 1 with fail;generalize hv1:w.alloc _=v1;generalize hg4:w.heap.size=g4;replace hv1:=hv1.symm;replace hg4:=hg4.symm;have X1:=xNew hv1 hg4;have B1:=tQ hv1;have GE:=F9 (w.heap.size<=g4) aR;have H1:=jj (H.below B1);clear hv1 hg4;go_wp2_with fail;refine(wC H1 k hk z HZ).mono ?_;rintro e w' ⟨rfl,rfl⟩;have c0:J v1 i.gl (k*14) p.g:=H1.cell g 0 aR _ rfl;have c1:J v1 i.gl (k*14+8) false:=by rw[<-HT.out];exact H1.cell g 8 aR _ rfl
 have P:=jj (H1.at_ p (ak g));go_wp2_with fail;refine(Eb P.slot h1 h4 a0 P.short.cs (aB HX B1.size) q HQ (some (b,V)) HR).mono ?_;rintro e w3 ⟨(⟨b',vs',a3,m,o,a2,K,l,B,k0,Z,X,rfl,d0,T⟩|⟨l0,rfl⟩),a⟩
 rotate_left
 ·cases l0
 obtain⟨rfl,rfl⟩:b=b'/\V=vs':=by injection B with B;injection B with h1 h2;exact⟨h1,h2⟩
 obtain⟨M,F,R3,F3⟩:=j4 X Z d0 T;have X3:=jj (X1.below a X1.lt);have B3:=nO B1 a;have H3:=jj (H1.below a);clear a d0 T B X k0 Z c0 c1;go_wp2_with fail;refine(afV H3 z a3 m o a2 K l).mono ?_;rintro e W ⟨rfl,a⟩;have X4:=jj (X3.below a X3.lt);have B4:=nO B3 a;have c:=jj (H3.below a);have F4:=jj (F3.below a);have R4:=jj (R3.below a);clear a;have q0:J W i.gl (k*14+8) p.done:=c.cell g 8 aR _ rfl;have r0:W.frozen? ⟨i.gl,k*14+8,none⟩=false:=c.row.frozen _;have q1:J W i.gl (k*14+9) (U p.dw.view):=c.cell g 9 aR _ rfl;have r1:W.frozen? ⟨i.gl,k*14+9,none⟩=false:=c.row.frozen _;have q2:J W i.gl (k*14+9+1) (U p.dw.inst):=c.cell g 10 aR _ rfl;have r2:W.frozen? ⟨i.gl,k*14+9+1,none⟩=false:=c.row.frozen _;have q3:J W i.gl (k*14+9+1+1) (U p.dw.seq):=c.cell g 11 aR _ rfl;have r3:W.frozen? ⟨i.gl,k*14+9+1+1,none⟩=false:=c.row.frozen _;have q4:J W i.gl (k*14+9+1+1+1) (acX p.dw.ba p.dw.bn p.dw.bc):=c.cell g 12 aR _ rfl;have r4:W.frozen? ⟨i.gl,k*14+9+1+1+1,none⟩=false:=c.row.frozen _;have q5:J W i.gl (k*14+9+1+1+1+1) (acX p.dw.va p.dw.vn p.dw.vc):=c.cell g 13 aR _ rfl;have r5:W.frozen? ⟨i.gl,k*14+9+1+1+1+1,none⟩=false:=c.row.frozen _;go_upto_region 8 with fail;obtain⟨u,D⟩:=ex (((((((W.setCell ⟨i.gl,k*14+8,none⟩ true).setCell ⟨i.gl,k*14+9,none⟩ (U i.vw)).setCell ⟨i.gl,k*14+9+1,none⟩ (U num)).setCell ⟨i.gl,k*14+9+1+1,none⟩ (U z)).setCell ⟨i.gl,k*14+9+1+1+1,none⟩ (acX a3 m o)).setCell ⟨i.gl,k*14+9+1+1+1+1,none⟩ (acX a2 K l)));rw[<-D];have RW:=F9 (aZ u i.gl 230 ((i.ps.set k {p with done:=true,dw:=⟨i.vw,num,z,a3,m,o,b,a2,K,l,V⟩}).flatMap mH++i.rest).toArray) (by obtain⟨A,C,I,hr,b0⟩:=c.open_row g;rw[<-b0,D];have t0:=rR hr I (j:=8) (q:=k*14+8) (by simp[mH]) rfl true;have t1:=rR t0 I (j:=9) (q:=k*14+9) (by simp[mH]) rfl (U i.vw);have t2:=rR t1 I (j:=10) (q:=k*14+9+1) (by simp[mH]) rfl (U num);have t3:=rR t2 I (j:=11) (q:=k*14+9+1+1) (by simp[mH]) rfl (U z);have t4:=rR t3 I (j:=12) (q:=k*14+9+1+1+1) (by simp[mH]) rfl (acX a3 m o);have t5:=rR t4 I (j:=13) (q:=k*14+9+1+1+1+1) (by simp[mH]) rfl (acX a2 K l);exact t5)
 have O:=F9 (Only [i.gl] W u) (by rw[D];exact(((((((Only.refl [i.gl] _).setCell (p:=⟨i.gl,k*14+8,none⟩) (.inl bJ) _).setCell (p:=⟨i.gl,k*14+9,none⟩) (.inl bJ) _).setCell (p:=⟨i.gl,k*14+9+1,none⟩) (.inl bJ) _).setCell (p:=⟨i.gl,k*14+9+1+1,none⟩) (.inl bJ) _).setCell (p:=⟨i.gl,k*14+9+1+1+1,none⟩) (.inl bJ) _).setCell (p:=⟨i.gl,k*14+9+1+1+1+1,none⟩) (.inl bJ) _));clear D q0 r0 q1 r1 q2 r2 q3 r3 q4 r4 q5 r5;have P:=jj (c.at_ p (ak g));have s: ∀b∈ [i.gl],nV x W b:=by simpa using nV.of c.row aV
 have R5:=jj (R4.only O s);have F5:=jj (F4.only O s);have L:=F9 (CF x u ⟨i.vw,num,z,a3,m,o,b,a2,K,l,V⟩) ⟨⟨R5.row,F5.row,HI.1,HI.2,(show qX z from⟨by have:=HZ.out;omega,by have:=HZ.out;omega⟩)⟩,R5.fix,F5.fix⟩;have G:=F9 (eU x u f n num ahead gi {i with ps:=i.ps.set k {p with done:=true,dw:=⟨i.vw,num,z,a3,m,o,b,a2,K,l,V⟩}}) (c.put (p':={p with done:=true,dw:=⟨i.vw,num,z,a3,m,o,b,a2,K,l,V⟩}) g rfl O (fun b a=> .inl (mR a)) RW
  ⟨P.slot.only O s (fun b a hm=>by simp only[au] at hm;subst hm;exact(c.far (ak g)).2 a),P.cert.only O s,L,⟨P.short.b,P.short.ps,P.short.cs,P.short.c,⟨F,by show K<=4096;have:=M.out;have:=N.out;omega⟩⟩⟩)
 have X5:=jj (X4.only O (by simpa using(c.row.nY X4 aV).symm));have Q:=F9 (Only [i.gl] w u) ((Only.of_below B4).trans O);have r:(i.ps.set k {p with done:=true,dw:=⟨i.vw,num,z,a3,m,o,b,a2,K,l,V⟩})[k]?=some {p with done:=true,dw:=⟨i.vw,num,z,a3,m,o,b,a2,K,l,V⟩}:=aL (ah.1 g).1;have f0:J u i.gl (k*14+9) (U i.vw):=G.cell r 9 aR _ rfl;have g0:J u i.gl (k*14+9+1) (U num):=G.cell r 10 aR _ rfl;have h0:J u i.gl (k*14+9+2) (U z):=G.cell r 11 aR _ rfl;have i0:J u i.gl (k*14+9+3) (acX a3 m o):=G.cell r 12 aR _ rfl;have j0:J u i.gl (k*14+9+4) (acX a2 K l):=G.cell r 13 aR _ rfl;clear r s;go_wp2_with fail;refine(IU _ ⟨i.vw,num,z,a3,m,o,b,a2,K,l,V⟩ L.is F (by show K<=4096;have:=M.out;have:=N.out;omega) x (aB HX Q.size)).mono ?_;rintro e w6 ⟨a6,k6,R,k7,rfl,S,a⟩;have C6:=jj S;have y:=jj (X5.below a X5.lt);have H6:=jj (G.below a);have e0:=jj (Q.belows a);clear a S f0 g0 h0 i0 j0;rw[show(nS (CD.moved ⟨i.vw,num,z,a3,m,o,b,a2,K,l,V⟩ a6 k6 R k7)).toArray=#[U i.vw,U num,U z,acX a6 m k6,acX R K k7] from rfl];have y0:=y.at_ 0;have z0:=y.frozen 0;have y1:=y.at_ 1;have z1:=y.frozen 1;have y2:=y.at_ 2;have z2:=y.frozen 2;have y3:=y.at_ 3;have z3:=y.frozen 3;have y4:=y.at_ 4;have z4:=y.frozen 4;go_wp2_with fail;obtain⟨w9,t⟩:=ex (setW w6 g4 0 [U i.vw,U num,U z,acX a6 m k6,acX R K k7]);have K9:=uL t y;have o9:=vM t;simp only[setW,aO,Nat.reduceAdd] at t;rw[<-t];clear t y0 y1 y2 y3 y4 z0 z1 z2 z3 z4;refine bodyPost_ret (v:=ac2 #[acY #[U i.vw,U num,U z,acX a6 m k6,acX R K k7],true]) ?_ rfl ⟨CD.moved ⟨i.vw,num,z,a3,m,o,b,a2,K,l,V⟩ a6 k6 R k7,⟨i.vw,num,z,a3,m,o,b,a2,K,l,V⟩,rfl,rfl,by show m<=4096;exact F.out,C6.Aj o9 y,H6.Aj o9 y,rfl,e0.then o9 (fun b a=> .inr (by simp only[au] at a;rw[a];exact GE.out))⟩;exact(mV Tryz.results260 _ w9 g4 _ _ _ _ (by rfl) K9 underlying228 rfl (by kernel_rfl)).trans rfl
theorem Dt(h:eU x w f n num ahead gi i)(k:Nat)(p:qm)(q:i.ps[k]?=some p)(s:p.done=true)(z:Int)(t:z=(k:Int)+1)(hx:x<w.heap.size):
  Y 174 #[gi,U z] w fun e w'=> ∃a6 K A b,e=acK (ac2 #[acY (nS (p.dw.moved a6 K A b)).toArray,true])/\CF x w' (p.dw.moved a6 K A b)/\Be w w':=by
 have L:k<16:=by have:=(ah.1 q).1;rw[h.len] at this;exact this
 obtain⟨H,c,E,F,D⟩:=j5 h q hx t s;clear h q hx t s;go_enter func174,ntmps174;go_upto_region 1 with fail;generalize hv1:w.alloc _=v1;generalize hg4:w.heap.size=g4;replace hv1:=hv1.symm;replace hg4:=hg4.symm;have X:=xNew hv1 hg4;have B:=tQ hv1;have GE:=F9 (w.heap.size<=g4) aR;have H1:=jj (H.below B);clear hv1 hg4;go_wp2_with fail;refine(wC H1 k L z F).mono ?_;rintro e w' ⟨rfl,rfl⟩;have I:J v1 i.gl (k*14+8) true:=by rw[<-D.out];exact H1.cell c 8 aR _ rfl
 have C:J v1 i.gl (k*14+9) (U p.dw.view):=H1.cell c 9 aR _ rfl;have g:J v1 i.gl (k*14+9+1) (U p.dw.inst):=H1.cell c 10 aR _ rfl;have j:J v1 i.gl (k*14+9+2) (U p.dw.seq):=H1.cell c 11 aR _ rfl;have l:J v1 i.gl (k*14+9+3) (acX p.dw.ba p.dw.bn p.dw.bc):=H1.cell c 12 aR _ rfl;have m:J v1 i.gl (k*14+9+4) (acX p.dw.va p.dw.vn p.dw.vc):=H1.cell c 13 aR _ rfl;have P:=jj (H1.at_ p (ak c));go_wp2_with fail;refine(IU _ p.dw P.dw.is P.short.d.1 P.short.d.2 x (aB E B.size)).mono ?_;rintro e W ⟨a6,K,A,b,rfl,d,o⟩;have u:=jj d;have y:=jj (X.below o X.lt);have r:=nO B o;clear o d I C g j l m;rw[show(nS (p.dw.moved a6 K A b)).toArray=#[U p.dw.view,U p.dw.inst,U p.dw.seq,acX a6 p.dw.bn K,acX A p.dw.vn b] from rfl];have N:=y.at_ 0;have z0:=y.frozen 0;have Q:=y.at_ 1;have Z:=y.frozen 1;have R:=y.at_ 2;have V:=y.frozen 2;have S:=y.at_ 3;have z3:=y.frozen 3;have T:=y.at_ 4;have z4:=y.frozen 4;go_wp2_with fail;obtain⟨M,a⟩:=ex (setW W g4 0 [U p.dw.view,U p.dw.inst,U p.dw.seq,acX a6 p.dw.bn K,acX A p.dw.vn b]);have G:=uL a y;have O:=vM a;simp only[setW,aO,Nat.reduceAdd] at a;rw[<-a];clear a N Q R S T z0 Z V z3 z4;refine bodyPost_ret (v:=ac2 #[acY #[U p.dw.view,U p.dw.inst,U p.dw.seq,acX a6 p.dw.bn K,acX A p.dw.vn b],true]) ?_ rfl ⟨a6,K,A,b,rfl,u.Aj O y,O.below r r.size (mR GE.out)⟩;exact(mV Tryz.results174 _ M g4 _ _ _ _ (by rfl) G underlying228 rfl (by kernel_rfl)).trans rfl
theorem Qz(h:eU x w f n num ahead gi i)(k:Nat)(p:qm)(b:i.ps[k]?=some p)(d:p.done=true)(c:CD)(g:c.seq=(k:Int)+1):
  Y 223 #[gi,acY (nS c).toArray] w fun e w'=>e=acK false/\Be w w':=by
 have v:k<16:=by have:=(ah.1 b).1;rw[h.len] at this;exact this
 obtain⟨t,u,C,o,s,r,A,V,z,y,E⟩:=c;have H:=jj h;have j:=jj b;have m:=F9 (C=(k:Int)+1) g;have l:=jj d;clear h b g d;show Y 223 #[gi,acY #[U t,U u,U C,acX o s r,acX V z y]] w _;go_enter func223,ntmps223;go_upto_region 1 with fail;generalize hv1:w.alloc _=v1;generalize hg3:w.heap.size=g3;replace hv1:=hv1.symm;replace hg3:=hg3.symm;have X:=xNew hv1 hg3;have B:=tQ hv1;have H1:=jj (H.below B);clear hv1 hg3;have D:=X.at_ 2;go_wp2_with fail;refine(wC H1 k v C m).mono ?_;rintro e w' ⟨rfl,rfl⟩;clear D;go_upto_region 2 with fail;have q:J v1.drew i.gl (k*14+8) true:=by rw[<-l.out];exact(H1.below (aC _ _).drew).cell j 8 aR _ rfl
 refine rP (fun w'=>J w' i.gl (k*14+8) true) 17 (tk 0 17 .done) q ?_;intro a
 repeat(first|refine' tT ?_|refine' tS ?_)
 refine aU ?_;clear a q;go_wp2_with fail;go_ret;exact⟨by trivial,B.drew⟩
theorem aii(h:eU x w f n num ahead gi i)(k:Nat)(p:qm)(hp:i.ps[k]?=some p)(ht:p.done=false)(c:CD)(hz:c.seq=(k:Int)+1)(G:c.inst=num)(hc:CF x w c)(o:c.bn<=4096)(hv:c.vn<=4096)(hx:x<w.heap.size):
  Y 223 #[gi,acY (nS c).toArray] w fun e w'=>e=acK true/\ ∃cd:CD,eU x w' f n num ahead gi {i with ps:=i.ps.set k {p with done:=true,dw:=cd}}/\pz cd=pz c/\Only [i.gl] w w':=by
 have hk:k<16:=by have:=(ah.1 hp).1;rw[h.len] at this;exact this
 obtain⟨l,d,g,L,B,M,z,N,v,R,V⟩:=c;simp only at G o hv hz;subst G;obtain⟨H,m,HX⟩:=j3 h hp hx;have HZ:=F9 (g=(k:Int)+1) hz;have HT:=jj ht;have HC:=jj hc;have Z:=jj (dH o hv);clear h hp hz ht hc o hv hx;show Y 223 #[gi,acY #[U l,U d,U g,acX L B M,acX N v R]] w _;go_enter func223,ntmps223;go_upto_region 1 with fail;generalize hv1:w.alloc _=v1;generalize hg3:w.heap.size=g3;replace hv1:=hv1.symm;replace hg3:=hg3.symm;have X1:=xNew hv1 hg3;have B1:=tQ hv1;have H1:=jj (H.below B1);clear hv1 hg3;have d2:=X1.at_ 2;go_wp2_with fail;refine(wC H1 k hk g HZ).mono ?_;rintro e w' ⟨rfl,rfl⟩;clear d2;go_upto_region 2 with fail;have Q:=F9 (J v1.drew i.gl (k*14+8) false/\J v1.drew g3 1 (U d)/\J v1.drew gi 1 (U d)) ⟨by rw[<-HT.out];exact(H1.below (aC _ _).drew).cell m 8 aR _ rfl,X1.drew.cell 1,(H1.below (aC _ _).drew).blk.cell 1⟩;refine rP (fun u=>J u i.gl (k*14+8) false/\J u g3 1 (U d)/\J u gi 1 (U d)) 17 (tk 0 17 .done) Q ?_;intro b0
 repeat refine' tT ?_
 refine aU ?_;clear b0;obtain⟨S,s⟩:=ex v1.drew;have T:=F9 (Be w S) (by rw[s];exact B1.drew);have X2:=F9 (aZ S g3 228 #[U l,U d,U g,acX L B M,acX N v R]) (by rw[s];exact X1.drew);rw[<-s];clear s;have a0:=F9 (x<S.heap.size) (aB HX T.size);have C2:=jj (HC.below T);obtain⟨y0,y1,y2,y3,y4⟩:=X2.a5;go_wp2_with fail;refine(IU S ⟨l,d,g,L,B,M,z,N,v,R,V⟩ C2.is Z.1 Z.2 x a0).mono ?_;rintro e W ⟨a6,K,r,y,rfl,F,o⟩;have C6:=F9 (CF x W ⟨l,d,g,a6,B,K,z,r,v,y,V⟩) F;have B6:=nO T o;have a:=jj (H.below B6);clear o F y0 y1 y2 y3 y4;rw[show(nS (CD.moved ⟨l,d,g,L,B,M,z,N,v,R,V⟩ a6 K r y)).toArray=#[U l,U d,U g,acX a6 B K,acX r v y] from rfl];have q0:J W i.gl (k*14+8) p.done:=a.cell m 8 aR _ rfl;have r0:W.frozen? ⟨i.gl,k*14+8,none⟩=false:=a.row.frozen _;have q1:J W i.gl (k*14+9) (U p.dw.view):=a.cell m 9 aR _ rfl;have r1:W.frozen? ⟨i.gl,k*14+9,none⟩=false:=a.row.frozen _;have q2:J W i.gl (k*14+9+1) (U p.dw.inst):=a.cell m 10 aR _ rfl;have r2:W.frozen? ⟨i.gl,k*14+9+1,none⟩=false:=a.row.frozen _;have q3:J W i.gl (k*14+9+1+1) (U p.dw.seq):=a.cell m 11 aR _ rfl;have r3:W.frozen? ⟨i.gl,k*14+9+1+1,none⟩=false:=a.row.frozen _;have q4:J W i.gl (k*14+9+1+1+1) (acX p.dw.ba p.dw.bn p.dw.bc):=a.cell m 12 aR _ rfl;have r4:W.frozen? ⟨i.gl,k*14+9+1+1+1,none⟩=false:=a.row.frozen _;have q5:J W i.gl (k*14+9+1+1+1+1) (acX p.dw.va p.dw.vn p.dw.vc):=a.cell m 13 aR _ rfl;have r5:W.frozen? ⟨i.gl,k*14+9+1+1+1+1,none⟩=false:=a.row.frozen _;go_upto_region 5 with fail;obtain⟨w5,t⟩:=ex ((((((W.setCell ⟨i.gl,k*14+8,none⟩ true).setCell ⟨i.gl,k*14+9,none⟩ (U l)).setCell ⟨i.gl,k*14+9+1,none⟩ (U d)).setCell ⟨i.gl,k*14+9+1+1,none⟩ (U g)).setCell ⟨i.gl,k*14+9+1+1+1,none⟩ (acX a6 B K)).setCell ⟨i.gl,k*14+9+1+1+1+1,none⟩ (acX r v y));rw[<-t];have RW:=F9 (aZ w5 i.gl 230 ((i.ps.set k {p with done:=true,dw:=⟨l,d,g,a6,B,K,z,r,v,y,V⟩}).flatMap mH++i.rest).toArray) (by obtain⟨A,C,E,hr,I⟩:=a.open_row m;rw[<-I,t];have t0:=rR hr E (j:=8) (q:=k*14+8) (by simp[mH]) rfl true;have t1:=rR t0 E (j:=9) (q:=k*14+9) (by simp[mH]) rfl (U l);have t2:=rR t1 E (j:=10) (q:=k*14+9+1) (by simp[mH]) rfl (U d);have t3:=rR t2 E (j:=11) (q:=k*14+9+1+1) (by simp[mH]) rfl (U g);have t4:=rR t3 E (j:=12) (q:=k*14+9+1+1+1) (by simp[mH]) rfl (acX a6 B K);have t5:=rR t4 E (j:=13) (q:=k*14+9+1+1+1+1) (by simp[mH]) rfl (acX r v y);exact t5)
 have O:=F9 (Only [i.gl] W w5) (by rw[t];exact(((((((Only.refl [i.gl] _).setCell (p:=⟨i.gl,k*14+8,none⟩) (.inl bJ) _).setCell (p:=⟨i.gl,k*14+9,none⟩) (.inl bJ) _).setCell (p:=⟨i.gl,k*14+9+1,none⟩) (.inl bJ) _).setCell (p:=⟨i.gl,k*14+9+1+1,none⟩) (.inl bJ) _).setCell (p:=⟨i.gl,k*14+9+1+1+1,none⟩) (.inl bJ) _).setCell (p:=⟨i.gl,k*14+9+1+1+1+1,none⟩) (.inl bJ) _));clear t q0 r0 q1 r1 q2 r2 q3 r3 q4 r4 q5 r5;have P:=jj (a.at_ p (ak m));have D: ∀b∈ [i.gl],nV x W b:=by simpa using nV.of a.row aV
 have X:=jj (C6.only O D);have H5:=F9 (eU x w5 f n d ahead gi {i with ps:=i.ps.set k {p with done:=true,dw:=⟨l,d,g,a6,B,K,z,r,v,y,V⟩}}) (a.put (p':={p with done:=true,dw:=⟨l,d,g,a6,B,K,z,r,v,y,V⟩}) m rfl O (fun b o=> .inl (mR o)) RW
  ⟨P.slot.only O D (fun b o hm=>by simp only[au] at hm;subst hm;exact(a.far (ak m)).2 o),P.cert.only O D,X,⟨P.short.b,P.short.ps,P.short.cs,P.short.c,Z⟩⟩)
 go_wp2_with fail;go_ret;exact⟨by trivial,⟨l,d,g,a6,B,K,z,r,v,y,V⟩,H5,rfl,(Only.of_below B6).trans O⟩
end
theorem UD(w:World)(a:OA)(n c:Nat)(l:List Rq)(r:Rq)(h:qc w a n c l)(hn:n<=4096)(E:Bool)(v:decide (r∈l)=E):
  Y 226 #[.slice a n c,.agg (rA r).toArray] w fun e w'=>e= .returned E/\Be w w':=by
 obtain⟨y,p,q,s,t,u⟩:=r;have H:=jj h;have x:=jj v;clear h v;show Y 226 #[.slice a n c,.agg #[U y,U p,U q,U s,U t,U u]] w _;go_enter func226,ntmps226;go_upto_region 1 with fail;generalize hw1:w.alloc _=w1;generalize hgb:w.heap.size=gb;replace hw1:=hw1.symm;replace hgb:=hgb.symm;obtain⟨B1,g⟩:=nw hw1 hgb;clear hw1 hgb;go_wp2_with fail;go_loopw [9] (fun i wr=> ∃k:Nat,k<=n/\i= U k/\(∀j,j<k->l[j]?≠some (y,p,q,s,t,u))/\Be w1 wr) (fun i _=>n -(intOf i).toNat)
 case atStart=>exact⟨0,aR,rfl,fun j A=>absurd A aR,aC _ _⟩
 case round=>
  obtain⟨k,V,rfl,Z,v⟩:=hrel;have f:=jj v;have W:=jj Z;have D:=nO B1 v;clear Z v;by_cases C:k<n
  ·obtain⟨b1,o1,rfl,a0,X,O,P,Q,R,S,hx,p0,p1,p2,p3,p4,p5⟩:=(H.below D).get C
   have q0: ∀o,J (wr.alloc o) gb 0 (U y):=fun o=>((g.below f g.lt).alloc o).cell 0;have q1: ∀o,J (wr.alloc o) gb 1 (U p):=fun o=>((g.below f g.lt).alloc o).cell 1;have q2: ∀o,J (wr.alloc o) gb 2 (U q):=fun o=>((g.below f g.lt).alloc o).cell 2;have q3: ∀o,J (wr.alloc o) gb 3 (U s):=fun o=>((g.below f g.lt).alloc o).cell 3;have q4: ∀o,J (wr.alloc o) gb 4 (U t):=fun o=>((g.below f g.lt).alloc o).cell 4;have q5: ∀o,J (wr.alloc o) gb 5 (U u):=fun o=>((g.below f g.lt).alloc o).cell 5;have i0:(0:Int)<=k:=aR;have i1:(k:Int)<n:=aR;have u0:IntKind.i64.wrap ((k:Int)+1)=(k:Int)+1:=aH _ aR;have G:=jj (show(((X,O,P,Q,R,S):Rq)=(y,p,q,s,t,u))->E=true from fun T=>by rw[<-x.out];refine decide_eq_true ?_;rw[<-T];exact ak hx)
   have B:=jj (show(((X,O,P,Q,R,S):Rq)≠(y,p,q,s,t,u))-> ∀j,j<k+1->l[j]?≠some (y,p,q,s,t,u) from fun hh j A=>by
    rcases iZ j k with h|h
    ·exact W.out j h
    obtain rfl:j=k:=aR;rw[hx];exact fun e=>hh (dh e))
   clear hx C V;have d:=F9 (k+1<=n) aR;by_cases F:X=y
   ·subst F
    by_cases I:O=p
    ·subst I
     by_cases K:P=q
     ·subst K
      by_cases L:Q=s
      ·subst L
       by_cases M:R=t
       ·subst M
        by_cases N:S=u
        ·subst N
         have b:=G.out rfl;subst b;go_wp2_with fail;go_ret;exact⟨by trivial,D.alloc D.size _⟩
        have b:=B.out (fun h=>N (congrArg (fun(z:Rq)=>z.2.2.2.2.2) h));have m:=jj b;have ne:(S==u)=false:=beq_eq_false_iff_ne.2 N;clear b N;go_wp2_with fail;go_roundw
        case rel=>exact⟨k+1,d,by go_num,m,f.alloc f.size _⟩
        have:=d.out;simp[intOf];omega
       have b:=B.out (fun h=>M (congrArg (fun(z:Rq)=>z.2.2.2.2.1) h));have m:=jj b;have ne:(R==t)=false:=beq_eq_false_iff_ne.2 M;clear b M;go_wp2_with fail;go_roundw
       case rel=>exact⟨k+1,d,by go_num,m,f.alloc f.size _⟩
       have:=d.out;simp[intOf];omega
      have b:=B.out (fun h=>L (congrArg (fun(z:Rq)=>z.2.2.2.1) h));have m:=jj b;have ne:(Q==s)=false:=beq_eq_false_iff_ne.2 L;clear b L;go_wp2_with fail;go_roundw
      case rel=>exact⟨k+1,d,by go_num,m,f.alloc f.size _⟩
      have:=d.out;simp[intOf];omega
     have b:=B.out (fun h=>K (congrArg (fun(z:Rq)=>z.2.2.1) h));have m:=jj b;have ne:(P==q)=false:=beq_eq_false_iff_ne.2 K;clear b K;go_wp2_with fail;go_roundw
     case rel=>exact⟨k+1,d,by go_num,m,f.alloc f.size _⟩
     have:=d.out;simp[intOf];omega
    have b:=B.out (fun h=>I (congrArg (fun(z:Rq)=>z.2.1) h));have m:=jj b;have ne:(O==p)=false:=beq_eq_false_iff_ne.2 I;clear b I;go_wp2_with fail;go_roundw
    case rel=>exact⟨k+1,d,by go_num,m,f.alloc f.size _⟩
    have:=d.out;simp[intOf];omega
   have b:=B.out (fun h=>F (congrArg (fun(z:Rq)=>z.1) h));have m:=jj b;have ne:(X==y)=false:=beq_eq_false_iff_ne.2 F;clear b F;go_wp2_with fail;go_roundw
   case rel=>exact⟨k+1,d,by go_num,m,f.alloc f.size _⟩
   have:=d.out;simp[intOf];omega
  have i1: ¬(k:Int)<n:=aR;obtain rfl:E=false:=by rw[<-x.out];refine decide_eq_false fun T=> ?_;obtain⟨j,A⟩:=bT.1 T;have hl:=(ah.1 A).1;exact W.out j (tL H.len) A
  go_wp2_with fail;go_ret;exact⟨by trivial,D⟩
section
variable{x:Nat}{w w':World}{f:Int}{n:Nat}{num ahead:Int}{gi:Nat}{i:tJ}
theorem adS(h:eU x w f n num ahead gi i)(t:Nat)(L:t<=16)(c:t=0\/ ∃p,i.ps[t -1]?=some p/\p.sl.has=true)(b: ∀j p,t<=j->i.ps[j]?=some p->p.sl.has=false)(hx:x<w.heap.size):
  Y 164 #[gi] w fun e w'=>e= .returned (U ((t:Int)+1))/\Be w w':=by
 have F:=h.blk.at_ 5;obtain⟨H,u,v,y⟩:=j4 h c b hx;clear h c b hx;go_enter func164,ntmps164;go_wp2_with fail;go_loopw [3] (fun j wr=> ∃m:Nat,t<=m/\m<=16/\j= U m/\wr=w) (fun j _=>(intOf j).toNat)
 case atStart=>exact⟨16,aR,aR,rfl,rfl⟩
 case round=>
  obtain⟨m,K,s,rfl,rfl⟩:=hrel;by_cases o:m=0
  ·have I: ¬(0:Int)<m:=aR
   have E:IntKind.i64.wrap ((m:Int)+1)=(m:Int)+1:=aH _ aR;have T:=F9 ((t:Int)=0) aR;go_wp2_with fail;go_ret;exact⟨by rw[T.out];first|rfl|trivial,aC _ _⟩
  have I:(0:Int)<m:=aR;obtain⟨j,r⟩: ∃j,m=j+1:=⟨m -1,aR⟩;have E:IntKind.i64.wrap ((m:Int) -1)=(j:Int):=by rw[aH _ aR];omega
  have M:(0:Int)<=j:=aR;have N:(j:Int)<16:=aR;have a:j<i.ps.length:=by rw[H.len];omega
  have D:J wr i.gl (j*14) (i.ps[j].g):=H.cell (aj a) 0 aR _ rfl;have P:=jj (H.at_ _ (bY a));by_cases d:m=t
  ·have l:=F9 (i.ps[j].sl.has=true) (by
    rcases u.out with h|⟨p,g,z⟩
    ·omega
    have:t -1=j:=aR;rw[this,aj a] at g;injection g with g;rw[g];exact z)
   have G:IntKind.i64.wrap ((m:Int)+1)=(m:Int)+1:=aH _ aR;have T:=F9 ((t:Int)=m) aR;clear o r d;go_wp2_with fail;refine(Bz P.slot l P.short.b y).mono ?_;rintro e W ⟨A,C,rfl,-,-,q⟩;have B:=jj q;clear q;go_wp2_with fail;go_ret;exact⟨by rw[T.out];first|rfl|trivial,B⟩
  have l:=F9 (i.ps[j].sl.has=false) (v.out j _ aR (aj a));have k:=F9 (t<=j/\j<m/\m<=16) aR;clear o r d;go_wp2_with fail;refine(CG P.slot l).mono ?_;rintro e W ⟨rfl,rfl⟩;go_wp2_with fail;go_roundw
  case rel=>exact⟨j,k.1,by have:=k.out;omega,by go_num,by trivial⟩
  have:=k.out;simp[intOf];omega
def vK(r:Rq):List qm->Bool
 | []=>false
 |p::l=>(p.sl.has&&decide (r∈p.sl.bs))||(p.done&&decide (r∈p.dw.bs))||vK r l
theorem adT(h:eU x w f n num ahead gi i)(r:Rq)(b:Bool)(a:vK r i.ps=b)(hx:x<w.heap.size):
  Y 168 #[gi,.agg (rA r).toArray] w fun e w'=>e= .returned b/\Be w w':=by
 obtain⟨y,c,d,g,l,m⟩:=r;obtain⟨H,HB,HX⟩:=j3 h a hx;clear h a hx;show Y 168 #[gi,.agg #[U y,U c,U d,U g,U l,U m]] w _;go_enter func168,ntmps168;go_upto_region 1 with fail;generalize hw1:w.alloc _=w1;generalize hgb:w.heap.size=gb;replace hw1:=hw1.symm;replace hgb:=hgb.symm;obtain⟨B1,BX⟩:=nw hw1 hgb;clear hw1 hgb;have c5:J w1 gi 5 (O i.gl 16 i.cap):=(H.below B1).blk.cell 5;go_wp2_with fail;clear c5
 go_loopw [14] (fun j wr=> ∃k:Nat,k<=16/\j= U k/\vK (y,c,d,g,l,m) (i.ps.drop k)=b/\Be w1 wr) (fun j _=>16 -(intOf j).toNat)
 case atStart=>exact⟨0,aR,rfl,by simpa using HB.out,aC _ _⟩
 case round=>
  obtain⟨k,hk,rfl,hu,a⟩:=hrel;have BL:=jj a;have BW:=nO B1 a;have HU:=jj hu;clear a hu;by_cases P:k<16
  ·have N:k<i.ps.length:=by rw[H.len];exact P
   have k0:(0:Int)<=k:=aR;have i1:(k:Int)<16:=aR;have e0:IntKind.i64.wrap ((k:Int)+1)=(k:Int)+1:=aH _ aR;have s:=jj (H.below BW);obtain⟨p,q⟩: ∃p,i.ps[k]?=some p:=⟨_,aj N⟩;have DR:=F9 (i.ps.drop k=p::i.ps.drop (k+1)) (by rw[<-dY N];have:=(ah.1 q).2;rw[this]);have PW:=jj (s.at_ p (ak q));have o:=F9 (k+1<=16) P;have q0:J wr i.gl (k*14) p.g:=s.cell q 0 aR _ rfl;have q1:J wr i.gl (k*14+1) p.told:=s.cell q 1 aR _ rfl;have q2:J wr i.gl (k*14+2) p.has:=s.cell q 2 aR _ rfl;have q3:J wr i.gl (k*14+3) (U p.cert.view):=s.cell q 3 aR _ rfl;have q4:J wr i.gl (k*14+4) (U p.cert.inst):=s.cell q 4 aR _ rfl;have q5:J wr i.gl (k*14+5) (U p.cert.seq):=s.cell q 5 aR _ rfl;have q6:J wr i.gl (k*14+6) (.slice p.cert.ba p.cert.bn p.cert.bc):=s.cell q 6 aR _ rfl;have q7:J wr i.gl (k*14+7) (.slice p.cert.va p.cert.vn p.cert.vc):=s.cell q 7 aR _ rfl;have q8:J wr i.gl (k*14+8) p.done:=s.cell q 8 aR _ rfl;have q9:J wr i.gl (k*14+9) (U p.dw.view):=s.cell q 9 aR _ rfl;have g0:J wr i.gl (k*14+10) (U p.dw.inst):=s.cell q 10 aR _ rfl;have h0:J wr i.gl (k*14+11) (U p.dw.seq):=s.cell q 11 aR _ rfl;have i0:J wr i.gl (k*14+12) (.slice p.dw.ba p.dw.bn p.dw.bc):=s.cell q 12 aR _ rfl;have j0:J wr i.gl (k*14+13) (.slice p.dw.va p.dw.vn p.dw.vc):=s.cell q 13 aR _ rfl;clear q N P hk;go_upto_region 4 with fail;generalize mE:wr.alloc _=w9;generalize vE:wr.heap.size=g9;replace mE:=mE.symm;replace vE:=vE.symm;have z:=(tQ mE).out;have X:=xNew mE vE;have B:=nO BL z;have E:=nO BW z;have S:=jj (PW.below z);have R9:=jj (BX.below B BX.lt);clear mE vE q0 q1 q2 q3 q4 q5 q6 q7 q8 q9 g0 h0 i0 j0;have d0:=X.at_ 0;obtain⟨sh,W⟩:=ex p.sl.has;obtain⟨dn,T⟩:=ex p.done;have K:=jj W;have I:=jj T;clear W T;have US:=F9 (((sh&&decide ((y,c,d,g,l,m)∈p.sl.bs))||(dn&&decide ((y,c,d,g,l,m)∈p.dw.bs))||vK (y,c,d,g,l,m) (i.ps.drop (k+1)))=b) (by rw[<-HU.out,DR.out,vK,K.out,I.out])
   cases sh with
   |false=>
    have u:=F9 (((dn&&decide ((y,c,d,g,l,m)∈p.dw.bs))||vK (y,c,d,g,l,m) (i.ps.drop (k+1)))=b) (mR US.out);go_wp2_with fail;refine(CG S.slot K.symm).mono ?_;rintro e w2 ⟨rfl,rfl⟩;clear d0;have d8:J w9 g9 8 dn:=by rw[I.out];exact X.cell 8
    have L:J w9 g9 (9+3) (.slice p.dw.ba p.dw.bn p.dw.bc):=X.cell 12;have D:=X.at_ 12;obtain⟨Z,r1,r2,r3,r4,r5⟩:=R9.a6
    cases dn with
    |false=>
     have G:=F9 (vK (y,c,d,g,l,m) (i.ps.drop (k+1))=b) (mR u.out);go_wp2_with fail;go_roundw
     case rel=>exact⟨k+1,o,by go_num,G,B⟩
     have:=o.out;simp[intOf];omega
    |true=>
     obtain⟨b2,t⟩: ∃b2,decide ((y,c,d,g,l,m)∈p.dw.bs)=b2:=⟨_,rfl⟩;have F:=jj t;have G:=F9 ((b2||vK (y,c,d,g,l,m) (i.ps.drop (k+1)))=b) (by rw[<-t];simpa using u.out);clear t;go_wp2_with fail;refine(UD _ p.dw.ba p.dw.bn p.dw.bc p.dw.bs (y,c,d,g,l,m) S.dw.is.b PW.short.d.1 b2 F).mono ?_;rintro e w7 ⟨rfl,a⟩;have A:=nO B a;have C:=nO E a;clear a d8 L D Z r1 r2 r3 r4 r5
     cases b2 with
     |true=>
      have v:=F9 (b=true) (by rw[<-G.out];rfl);go_wp2_with fail;go_ret;exact⟨by rw[v.out];first|rfl|trivial,C⟩
     |false=>
      have v:=F9 (vK (y,c,d,g,l,m) (i.ps.drop (k+1))=b) (mR G.out);go_wp2_with fail;go_roundw
      case rel=>exact⟨k+1,o,by go_num,v,A⟩
      have:=o.out;simp[intOf];omega
   |true=>
    go_wp2_with fail;refine(Bz S.slot K.symm S.short.b (aB HX E.size)).mono ?_;rintro e w3 ⟨a3,c3,rfl,V,-,a⟩;have f0:=jj V;have X3:=jj (X.below a X.lt);have R3:=jj (R9.below a R9.lt);have P3:=jj (S.below a);have a0:=nO B a;have b0:=nO E a;clear V a d0;obtain⟨Z,r1,r2,r3,r4,r5⟩:=R3.a6;obtain⟨b1,M⟩: ∃b1,decide ((y,c,d,g,l,m)∈p.sl.bs)=b1:=⟨_,rfl⟩;have c0:=jj M;have G0:=F9 ((b1||(dn&&decide ((y,c,d,g,l,m)∈p.dw.bs))||vK (y,c,d,g,l,m) (i.ps.drop (k+1)))=b) (by rw[<-M];simpa using US.out);clear M;go_wp2_with fail;refine(UD _ a3 p.sl.bn c3 p.sl.bs (y,c,d,g,l,m) f0.row PW.short.b b1 c0).mono ?_;rintro e w4 ⟨rfl,a⟩;have X4:=jj (X3.below a X3.lt);have R4:=jj (R3.below a R3.lt);have P4:=jj (P3.below a);have Q:=nO a0 a;have R:=nO b0 a;clear a Z r1 r2 r3 r4 r5
    cases b1 with
    |true=>
     have v:=F9 (b=true) (by rw[<-G0.out];rfl);go_wp2_with fail;go_ret;exact⟨by rw[v.out];first|rfl|trivial,R⟩
    |false=>
     have u:=F9 (((dn&&decide ((y,c,d,g,l,m)∈p.dw.bs))||vK (y,c,d,g,l,m) (i.ps.drop (k+1)))=b) (mR G0.out);have d8:J w4 g9 8 dn:=by rw[I.out];exact X4.cell 8
     have L:J w4 g9 (9+3) (.slice p.dw.ba p.dw.bn p.dw.bc):=X4.cell 12;have D:=X4.at_ 12;obtain⟨Z,r1,r2,r3,r4,r5⟩:=R4.a6
     cases dn with
     |false=>
      have G:=F9 (vK (y,c,d,g,l,m) (i.ps.drop (k+1))=b) (mR u.out);go_wp2_with fail;go_roundw
      case rel=>exact⟨k+1,o,by go_num,G,Q⟩
      have:=o.out;simp[intOf];omega
     |true=>
      obtain⟨b2,t⟩: ∃b2,decide ((y,c,d,g,l,m)∈p.dw.bs)=b2:=⟨_,rfl⟩;have F:=jj t;have G:=F9 ((b2||vK (y,c,d,g,l,m) (i.ps.drop (k+1)))=b) (by rw[<-t];simpa using u.out);clear t;go_wp2_with fail;refine(UD _ p.dw.ba p.dw.bn p.dw.bc p.dw.bs (y,c,d,g,l,m) P4.dw.is.b PW.short.d.1 b2 F).mono ?_;rintro e w7 ⟨rfl,a⟩;have A:=nO Q a;have C:=nO R a;clear a d8 L D Z r1 r2 r3 r4 r5
      cases b2 with
      |true=>
       have v:=F9 (b=true) (by rw[<-G.out];rfl);go_wp2_with fail;go_ret;exact⟨by rw[v.out];first|rfl|trivial,C⟩
      |false=>
       have v:=F9 (vK (y,c,d,g,l,m) (i.ps.drop (k+1))=b) (mR G.out);go_wp2_with fail;go_roundw
       case rel=>exact⟨k+1,o,by go_num,v,A⟩
       have:=o.out;simp[intOf];omega
  have i1: ¬(k:Int)<16:=aR;have G:=F9 (b=false) (by rw[<-HU.out,iB (by rw[H.len];omega)];rfl);go_wp2_with fail;go_ret;exact⟨by rw[G.out];first|rfl|trivial,BW⟩
end
theorem Vl(r:Rq): ∀(l pre:List oO) (k:Nat) (is:Bool),(∀(j:Nat) (d:oO),pre[j]?=some d->zT d.r r= -1)->Xp r l pre.length=some (k,is)->AtR (pre++l) r k is
 | [],pre,k,is,hp,h=>by simp only[Xp,aD,aM] at h;obtain⟨rfl,rfl⟩:=h;rw[eG];exact⟨aF _,fun j d _ hd=>hp j d hd,.inr ⟨rfl,rfl⟩⟩
 |d::l,pre,k,is,hp,h=>by
  rw[Xp] at h;split at h
  ·rename_i hr
   simp only[aD,aM] at h;obtain⟨rfl,rfl⟩:=h;refine⟨bJ,fun j e hj he=>hp j e ?_,.inl ⟨rfl,d,bJ,hr⟩⟩
   rwa [bC hj] at he
  split at h
  ·rename_i hc
   have ih:=Vl r l (pre++ [d]) k is (fun j e he=>by
    by_cases hj:j<pre.length
    ·rw[bC hj] at he
     exact hp j e he
    rw[bN aR] at he;rcases Nat.eq_zero_or_pos (j -pre.length) with h0|h0
    ·rw[h0] at he
     simp only[List.getElem?_cons_zero,aD] at he;exact he▸hc
    obtain⟨m,hm⟩: ∃m,j -pre.length=m+1:=⟨j -pre.length -1,aR⟩;rw[hm] at he;simp at he) (mR h)
   simpa using ih
  cases h
theorem SY{r:Rq}{T:List oO}{is:Bool}(h:Xp r T 0=some (k,is)):AtR T r k is:=Vl r T [] k is (fun j d H=>by simp at H) h
section
variable{x:Nat}{w:World}{f:Int}{n id gx b:Nat}{d:bK}{K:KS}
theorem QO(h:qE x w f n id gx b d K)(i:d.T.length<=64)(r:Rq)(o:Option Int)(H:AA d.T r=some o):
  Y 181 #[d.nH,Kh r] w fun e w'=>e=acK (ac2 #[U (o.getD 0),o.isSome])/\Be w w':=by
 unfold AA at H;simp only[aK] at H;obtain⟨⟨k,I⟩,j,H⟩:=H;have at_:=SY j;cases I
 ·simp only[dz,if_false] at H
  subst H;exact YF h.tab i r k at_
 simp only[if_true] at H;obtain⟨t,c,_⟩:=at_.yes;rw[c] at H;simp only at H;cases g:t.ready
 ·rw[g] at H
  simp only[dz,if_false] at H;subst H;exact JW h.tab i r k at_ fun e a=>by rw[c] at a;injection a with a;exact a▸g
 rw[g] at H;simp only[if_true] at H;subst H;exact UO h.tab i r k at_ t.since fun e a=>by rw[c] at a;injection a with a;exact a▸⟨g,rfl⟩
theorem Jr(h:qE x w f n id gx b d K)(g:d.T.length<=64)(r:Rq)(j:Nat)(l:j<13)(o:Bool)(H:NR d.T r j=some o):
  Y 176 #[d.nH,Kh r,U j] w fun e w'=>e=acK o/\Be w w':=by
 unfold NR at H;simp only[aK] at H;obtain⟨⟨k,I⟩,i,H⟩:=H;have at_:=SY i;cases I
 ·simp only[dz,if_false] at H
  subst H;exact aeQ h.tab g r k at_ j
 simp only[if_true] at H;obtain⟨t,a,_⟩:=at_.yes;rw[a] at H;simp only at H;exact acj h.tab g r k at_ j l o fun e c=>by rw[a] at c;injection c with c;exact c▸H
theorem GX(h:qE x w f n id gx b d K)(l:1<=f)(m:f<=4)(z:d.T.length<=60)(r:Rq)(s:0<=r.1/\r.1<2)(j:Nat)(o:(j:Int)<=3*f)(now:Int)(T':List oO)(H:zH f j now r d.T=some T'):
  Y 215 #[d.nH,Kh r,U j,U now] w fun e w'=> ∃p q S,e=acK (ac2 #[p,q,U 0])/\mP x w w' f n id gx b d K (d.tabled T' S) K:=by
 unfold zH at H;split at H
 ·rename_i k u
  have at_:=SY u;simp only[aA] at H;obtain⟨T,i,H⟩:=H;split at H
  ·cases H
  rename_i v;injection H with H;subst H;refine(YE h.tab l m aR r s k at_ T i j o (mR v) now).mono ?_;rintro e w' ⟨rfl,g,c⟩;exact⟨_,_,d.ST,rfl,(Step.refl h).tab g c (fun k a=>a) fun k a=> .inl a⟩
 ·split at H
  ·rename_i t
   injection H with H;subst H;refine(UN h.tab l m (dA t) r s j o now).mono ?_;rintro e w' ⟨rfl,S,g,c,y⟩;exact⟨_,_,S,rfl,(Step.refl h).tab g c (fun k a=>a) y⟩
  cases H
 cases H
theorem aec(h:qE x w f n id gx b d K)(j:d.T.length<=64)(c t:Int):
  Y 269 #[d.nH,U c,U t] w fun e w'=> ∃m S,e=acK (U m)/\mP x w w' f n id gx b d K (d.tabled (LH d.T c t) S) K:=by
 have H:d.nH∈d.ST:=by obtain⟨a,C,i,_⟩:=h.tab.ex;rw[i];simp
 refine(aeP h.tab j c t (LH d.T c t) rfl).mono ?_;rintro e w' ⟨rfl,S,p,o,l⟩;exact⟨_,S,rfl,(Step.refl h).tab p o (fun k g=>by simp only[au] at g;exact g▸H) fun k g=>(l k g).imp (fun e:k=d.nH=>e.symm▸H) fun e=>e⟩
theorem ahr(h:qE x w f n id gx b d K)(c:d.ga.length<=5)(i:Roomy d.ga)(k t:Int)(H:qX k)(j:qX t):
  Y 267 #[d.gm,U k,U t] w fun e w'=> ∃o,e=acK o/\mP x w w' f n id gx b d K (d.yS (Xz d.ga k t)) K:=by refine(ajE d.gm d.Dl d.ga k t w h.met c i H j _ rfl _ rfl).mono ?_;rintro e w' ⟨rfl,a,g⟩;exact⟨_,rfl,(Step.refl h).met a g⟩
theorem EL: ∀l:List qm,oh (l.map qm.val)=yt l
 | []=>rfl
 |p::l=>by simp only[bV,oh,yt,EL l];cases hd:p.done<;>simp[qm.val,hd]
theorem qd{i:Ba}(h:d.val.is[k]?=some i): ∃g I,d.is[k]?=some (g,I)/\I.val=i:=by simp only[bK.val,aS,aK] at h;obtain⟨⟨g,I⟩,H,a⟩:=h;exact⟨g,I,H,a⟩
theorem Ov(h:qE x w f n id gx b d K)(k:Nat)(i:Ba)(c:d.val.is[k]?=some i)(gi:Nat)(H:d.is[k]?.map Prod.fst=some gi):
  Y 166 #[gi] w fun e w'=>e=acK (U (oh i.ps:Nat))/\w=w':=by obtain⟨g,I,a,rfl⟩:=qd c;rw[a] at H;injection H with H;subst H;exact VJ (h.inst a) _ (by simp only[tJ.val];rw[EL])
theorem rV(h:qE x w f n id gx b d K)(k:Nat)(i:Ba)(c:d.val.is[k]?=some i)(gi:Nat)(H:d.is[k]?.map Prod.fst=some gi):
  Y 126 #[gi] w fun e w'=>e=acK i.on/\w=w':=by obtain⟨g,I,a,rfl⟩:=qd c;rw[a] at H;injection H with H;subst H;exact adQ (h.inst a)
theorem tX(h:qE x w f n id gx b d K)(hx:x<w.heap.size)(k j:Nat)(i:Ba)(t:d.val.is[k]?=some i)(c:Ce)(H:i.ps[j]?.bind uo.done=some c)(gi:Nat)(a:d.is[k]?.map Prod.fst=some gi)(z:Int)(u:z=(j:Int)+1):
  Y 174 #[gi,U z] w fun e w'=> ∃cd:CD,e=acK (ac2 #[acY (nS cd).toArray,true])/\pz cd=c/\CF x w' cd/\cd.bn<=4096/\cd.vn<=4096/\Be w w':=by
 obtain⟨g,I,l,rfl⟩:=qd t;rw[l] at a;injection a with a;subst a;simp only[tJ.val,aS,aA,aK] at H;obtain⟨p,⟨P,o,rfl⟩,H⟩:=H;simp only[qm.val] at H;split at H
 ·rename_i r
  injection H with H;have s:=((h.inst l).at_ P (ak o)).short;refine(Dt (h.inst l) j P o r z u hx).mono ?_;rintro e w' ⟨a6,v,A,y,rfl,m,q⟩;exact⟨_,rfl,H▸rfl,m,s.d.1,s.d.2,q⟩
 cases H
theorem vF(h:qE x w f n id gx b d K):Y 81 #[d.gt] w fun e w'=>e=acK (U d.now)/\w=w':=Tj w d.gt d.now h.Bc
theorem ahA(h:qE x w f n id gx b d K)(hx:x<w.heap.size)(a:OA)(m c:Nat)(R:List Rq)(o:sK x w a m c R)(D:d.es.length+m<=4096)(z: ∀r∈R,RqI r)(out:List CY)(st':List (Bool×Int))(C:List (Int×Int))(I:qL ([],d.st,d.ct) R=(out,st',C)):
  Y 268 #[d.gd,acX a m c] w fun e w'=> ∃S A c',e=acK (acX A out.length c')/\mP x w w' f n id gx b d K (d.booked S (d.es++out) st' C) K/\
   PO (nu f n id gx b (d.booked S (d.es++out) st' C) K) w' w.heap.size 51 7 out.length (acX A out.length c') (out.flatMap pF):=by
 refine(ala d.SL d.gd 2 d.es d.st d.ct a m c R w h.led o.row.row (fun i p F G=> ?_) o.row.len D z out st' C I _ rfl).mono ?_
 ·obtain⟨t,cs,u⟩:=o.fix p.block (by rw[F];rfl)
  rcases h.soft p.block (pY (j:=7) rfl G) with l|l
  ·exact t l.1
  exact l _ _ u aV
 rintro e w' ⟨S,A,c',rfl,B,O,k,E,v⟩;refine⟨S,A,c',rfl,(Step.refl h).led B E v,O,fun g s i=> ?_⟩;have y:=(dG O g s).1;replace i:g∈nE ((nu f n id gx b d K).set 7 (ET S d.gd 2 (d.es++out) st' C)):=i;obtain⟨q,H,i⟩:=bg.1 i;rcases cB H with H|rfl
 ·have:=(h.good q H).lt (h.at_ q H) g i
  omega
 exact k g s i
end
section
open Go.RowKit Go.Proofs.Tryz F
theorem GY(a b:Int)(w:World)(h:Small a)(H:Small b):Y 239 #[.complex .f64 (fw a) (fw b)] w fun e w'=>e=acK (ac2 #[U a,U b])/\w=w':=by
 have c:=fun w=>run_convert_float_int (P:=prog) (w:=w) 396 3 .f64 .i64 (fw a) a (by kernel_rfl) underlying3 (ac3 a h);have d:=fun w=>run_convert_float_int (P:=prog) (w:=w) 396 3 .f64 .i64 (fw b) b (by kernel_rfl) underlying3 (ac3 b H);go_enter func239,ntmps239
 go_wp2
 go_ret2
 exact⟨rfl,rfl⟩
end
section
open Go.RowKit Go.Proofs.Tryz F
theorem Ct{a b A B:Int}(h:0<=a)(H:a<=A)(c:0<=b)(d:b<=B):0<=a*b/\a*b<=A*B:=
 ⟨Int.mul_nonneg h c,Int.le_trans (Int.mul_le_mul_of_nonneg_right H c) (Int.mul_le_mul_of_nonneg_left d (Int.le_trans h H))⟩
def Rt(num den:Int)(m:Int)(zs:List (Int×Int)):Bool:=decide (0<zs.length)&&decide (m*den*(zs.length:Int)<num*uh zs)
def zC(omega n t:Int)(zs:List (Int×Int)):Bool:=
 decide (0<n)&&decide (0<uh zs)&&decide (zK zs*n+omega*n*uh zs<t*uh zs)
theorem UJ (num d mn M:Int) (a:OA) (n c:Nat) (z:List (Int×Int)) (w:World) (j:Kk w a n z) (q:Usual z) (x:n<=64)
  (H:0<=num/\num<=64) (h:0<=d/\d<=64) (t:0<=mn/\mn<=134217728) (y:Small M):
  Y 183 #[U num,U d,.complex .f64 (fw mn) (fw M),acX a n c] w fun e w'=>e=acK (Rt num d mn z)/\w=w':=by
 have hlen:z.length=n:=by have:=j.1;simpa using this
 obtain⟨l,m⟩:=H;obtain⟨b,f⟩:=h;obtain⟨g,i⟩:=t;unfold Rt;rw[hlen];clear hlen;by_cases o:n=0
 ·subst o
  go_enter func183,ntmps183
  go_wp2
  go_ret;exact⟨rfl,rfl⟩
 have k:=UK z q;have hlen:z.length=n:=by have:=j.1;simpa using this
 rw[hlen] at k;clear hlen;have S:Small (uh z):=Small.of aR aR;have u:Small (zK z):=Small.of aR aR;have v:Small mn:=Small.of aR aR;obtain⟨p1,p2⟩:=Ct g i b f;obtain⟨p3,P⟩:=Ct p1 p2 (show(0:Int)<=(n:Int) by omega) (show(n:Int)<=64 by omega);obtain⟨A,B⟩:=Ct l m k.1 (show uh z<=134217728*64 by omega);have s:0<n:=aR;have p:decide (0<n)=true:=decide_eq_true s;rw[p,iw];have r:((n:Int)==0)=false:=by simp;omega
 clear p o k;go_enter func183,ntmps183
 go_wp2_with(first
  |(go_at_call 240;refine(Hg a n c z _ j q aR).mono ?_;rintro e w' ⟨rfl,rfl⟩)
  |(go_at_call 239;refine(GY _ _ _ (by assumption) (by assumption)).mono ?_;rintro e w' ⟨rfl,rfl⟩))
 go_ret;exact⟨rfl,rfl⟩
theorem aaZ (O mn mt:Int) (a:OA) (n c:Nat) (z:List (Int×Int)) (w:World) (hr:Kk w a n z) (hu:Usual z) (hn:n<=64)
  (e0:0<=O/\O<=64) (hm:0<=mn/\mn<=1048576) (ht:0<=mt/\mt<=134217728):
  Y 184 #[U O,.complex .f64 (fw mn) (fw mt),acX a n c] w fun e w'=>e=acK (zC O mn mt z)/\w=w':=by
 have hlen:z.length=n:=by have:=hr.1;simpa using this
 obtain⟨i0,j0⟩:=e0;obtain⟨a0,b0⟩:=hm;obtain⟨f0,g0⟩:=ht;by_cases h0:n=0
 ·have e:zC O mn mt z=false:=by have:z= []:=dA aR;subst this;simp[zC,uh]
  rw[e];clear e;subst h0;go_enter func184,ntmps184
  go_wp2
  refine wp_scope_jumps 0 (fun P w'=>w'=w/\ ∃Q R S T V W X Z u8 u9 u b d f g h i j k l m o p q r s t v x y A B C D E F G H I J K L M N:Value,P={tmps:=#[Q,R,S,T,V,W,X,Z,u8,u9,u,b,d,f,g,h,i,j,k,l,m,o,p,q,r,s,t,v,x,y,A,B,C,D,E,F,G,H,I,J,K,L,M,N],defers:= []}) (fun _ _=>0) rfl ?_ ?_
  ·go_wp2
   go_step3
   exact⟨rfl,rfl,_,_,_,_,_,_,_,_,_,_,_,_,_,_,_,_,_,_,_,_,_,_,_,_,_,_,_,_,_,_,_,_,_,_,_,_,_,_,_,_,_,_,_,_,rfl⟩
  rintro P w' ⟨rfl,Q,R,S,T,V,W,X,Z,u8,u9,u,b,d,f,g,h,i,j,k,l,m,o,p,q,r,s,t,v,x,y,A,B,C,D,E,F,G,H,I,J,K,L,M,N,rfl⟩
  go_wp2
  simp only[Exit.jump];go_ret;exact⟨rfl,rfl⟩
 have hs:=UK z hu;rw[hlen] at hs;have S1:Small (uh z):=Small.of aR aR;have S2:Small (zK z):=Small.of aR aR;have S3:Small mn:=Small.of aR aR;have S4:Small mt:=Small.of aR aR;obtain⟨p1,p2⟩:=Ct f0 g0 hs.1 (show uh z<=134217728*64 by omega);obtain⟨p3,p4⟩:=Ct hs.2.2.1 (show zK z<=134217728*64 by omega) a0 b0;obtain⟨p5,p6⟩:=Ct i0 j0 a0 b0;obtain⟨p7,p8⟩:=Ct p5 p6 hs.1 (show uh z<=134217728*64 by omega);have k0:((n:Int)==0)=false:=by simp;omega
 by_cases c0:mn<=0
 ·have e:zC O mn mt z=false:=by simp[zC];omega
  rw[e];have d1:decide (mn<=0)=true:=decide_eq_true c0;clear e hs h0 hlen;go_enter func184,ntmps184
  go_wp2
  refine wp_scope_jumps 0 (fun P w'=>w'=w/\ ∃Q R S T V W X Z u8 u9 u b d f g h i j k l m o p q r s t v x y A B C D E F G H I J K L M N:Value,P={tmps:=#[Q,R,S,T,V,W,X,Z,u8,u9,u,b,d,f,g,h,i,j,k,l,m,o,p,q,r,s,t,v,x,y,A,B,C,D,E,F,G,H,I,J,K,L,M,N],defers:= []}) (fun _ _=>0) rfl ?_ ?_
  ·go_wp2_with(first
    |(go_at_call 240;refine(Hg a n c z _ hr hu aR).mono ?_;rintro e w' ⟨rfl,rfl⟩)
    |(go_at_call 239;refine(GY _ _ _ (by assumption) (by assumption)).mono ?_;rintro e w' ⟨rfl,rfl⟩))
   go_step3
   exact⟨rfl,rfl,_,_,_,_,_,_,_,_,_,_,_,_,_,_,_,_,_,_,_,_,_,_,_,_,_,_,_,_,_,_,_,_,_,_,_,_,_,_,_,_,_,_,_,_,rfl⟩
  rintro P w' ⟨rfl,Q,R,S,T,V,W,X,Z,u8,u9,u,b,d,f,g,h,i,j,k,l,m,o,p,q,r,s,t,v,x,y,A,B,C,D,E,F,G,H,I,J,K,L,M,N,rfl⟩
  go_wp2
  simp only[Exit.jump];go_ret;exact⟨rfl,rfl⟩
 have d1:decide (mn<=0)=false:=decide_eq_false c0;by_cases d0:uh z<=0
 ·have e:zC O mn mt z=false:=by simp[zC];omega
  rw[e];have d2:decide (uh z<=0)=true:=decide_eq_true d0;clear e hs h0 hlen;go_enter func184,ntmps184
  go_wp2
  refine wp_scope_jumps 0 (fun P w'=>w'=w/\ ∃Q R S T V W X Z u8 u9 u b d f g h i j k l m o p q r s t v x y A B C D E F G H I J K L M N:Value,P={tmps:=#[Q,R,S,T,V,W,X,Z,u8,u9,u,b,d,f,g,h,i,j,k,l,m,o,p,q,r,s,t,v,x,y,A,B,C,D,E,F,G,H,I,J,K,L,M,N],defers:= []}) (fun _ _=>0) rfl ?_ ?_
  ·go_wp2_with(first
    |(go_at_call 240;refine(Hg a n c z _ hr hu aR).mono ?_;rintro e w' ⟨rfl,rfl⟩)
    |(go_at_call 239;refine(GY _ _ _ (by assumption) (by assumption)).mono ?_;rintro e w' ⟨rfl,rfl⟩))
   go_step3
   exact⟨rfl,rfl,_,_,_,_,_,_,_,_,_,_,_,_,_,_,_,_,_,_,_,_,_,_,_,_,_,_,_,_,_,_,_,_,_,_,_,_,_,_,_,_,_,_,_,_,rfl⟩
  rintro P w' ⟨rfl,Q,R,S,T,V,W,X,Z,u8,u9,u,b,d,f,g,h,i,j,k,l,m,o,p,q,r,s,t,v,x,y,A,B,C,D,E,F,G,H,I,J,K,L,M,N,rfl⟩
  go_wp2
  simp only[Exit.jump];go_ret;exact⟨rfl,rfl⟩
 have d2:decide (uh z<=0)=false:=decide_eq_false d0;have e:zC O mn mt z=decide (zK z*mn+O*mn*uh z<mt*uh z):=by unfold zC;rw[decide_eq_true (show 0<mn by omega),decide_eq_true (show 0<uh z by omega),iw,iw]
 rw[e];clear e hs h0 hlen;go_enter func184,ntmps184
 go_wp2
 apply wp_scope_straight
 go_wp2_with(first
  |(go_at_call 240;refine(Hg a n c z _ hr hu aR).mono ?_;rintro e w' ⟨rfl,rfl⟩)
  |(go_at_call 239;refine(GY _ _ _ (by assumption) (by assumption)).mono ?_;rintro e w' ⟨rfl,rfl⟩))
 try rw[Exit.noGoto_ret]
 go_ret;exact⟨rfl,rfl⟩
end
section
open Go.RowKit Go.Proofs.Tryz F
def Hy(zs:List (Int×Int)):Prop:= ∀z∈zs,0<=z.1/\z.1<1048576/\0<=z.2/\z.2<1048576
theorem Hy.usual(h:Hy zs):Usual zs:=fun z H=>by have:=h z H;omega
theorem Hy.head(h:Hy (z::zs)):0<=z.1/\z.1<1048576/\0<=z.2/\z.2<1048576:=h z bJ
theorem Hy.tail(h:Hy (z::zs)):Hy zs:=fun x hx=>h x (by simp[hx])
theorem aaw{P:Program}(T E s:Nat)(d:P.underlying T=some (.slice E))(H:P.elem T=E)(f: ∀w:World,(sizeOf E).run P w= .ok s w)(b o n c:Nat)(i:n+1<=c):
  ∃A,(∀w:World,(Instr.slice T (.slice (some ⟨b,o,none⟩) (n+1) c) (some (U 1)) none none).run P w= .ok (.slice A n (c -1)) w)/\
   ∀(w:World) (v:LV),gD w (some ⟨b,o,none⟩) (n+1) s v->gD w A n s (v.drop s):=by
 refine⟨if c=1 then some ⟨b,o,none⟩ else some ⟨b,o+s,none⟩,fun w=> ?_,fun w v h=> ?_⟩
 ·have h:=run_slice_l (P:=P) (w:=w) T (some ⟨b,o,none⟩) (n+1) c (by rw[H];exact d) .i64 1 aR aR
  rw[h,H,f w];show Result.ok (sliced (some ⟨b,o,none⟩) 1 (n+1) c s) w=_;simp only[sliced,Option.map_some,addr_add,Nat.one_mul,fF]
 by_cases a:n=0
 ·subst a
  refine⟨?_,fun h=>absurd h aR⟩;rw[jm,h.1];omega
 rw[if_neg aR];obtain⟨B,O,e,g⟩:=h.from_ (k:=1) aR;injection e with e;injection e with e1 e2;subst e1 e2;simpa using g
theorem Yz(w:World):(sizeOf 301).run prog w= .ok 1 w:=by kernel_rfl
theorem ak4(s n l:Int)(w:World)(b:0<=s/\s<=1048576)(h:0<=n/\n<=1048576):Y 182 #[U s,U n,U l] w fun e w'=>e=acK (decide (l<n -s))/\w=w':=by
 obtain⟨c,d⟩:=b;obtain⟨H,a⟩:=h;go_enter func182,ntmps182
 go_wp2
 go_ret;exact⟨rfl,rfl⟩
def rH(num den om m0 m1:Int)(rest:List (Int×Int)):Bool:=Rt num den m0 rest||zC om m0 m1 rest
structure Half(w:World)(b2 o2 c2 n:Nat)(m0 m1:Int)(rest:List (Int×Int)):Prop where
 len:rest.length=n
 few:n<=5
 fine:Hy ((m0,m1)::rest)
 z:Kk w (some (adZ b2 o2)) (n+1) ((m0,m1)::rest)
 cz:n+1<=c2
theorem Half.below{o2:Nat}{rest:List (Int×Int)}(h:Half w b2 o2 c2 n m0 m1 rest)(H:Be w w'):Half w' b2 o2 c2 n m0 m1 rest:=
 ⟨h.len,h.few,h.fine,gD.below h.z H,h.cz⟩
theorem Half.z0{o2:Nat}{rest:List (Int×Int)}(h:Half w b2 o2 c2 n m0 m1 rest):J w b2 o2 (.complex .f64 (fw m0) (fw m1)):=by obtain⟨b,o,e,_,H⟩:=h.z.2 aR;injection e with e;injection e with e1 e2;subst e1 e2;exact H 0 (Qh m0 m1) rfl
theorem Half.rest{o2:Nat}{rest:List (Int×Int)}(h:Half w b2 o2 c2 n m0 m1 rest):
  ∃A,(∀w:World,(Instr.slice 242 (acX (some (adZ b2 o2)) (n+1) c2) (some (U 1)) none none).run prog w= .ok (acX A n (c2 -1)) w)/\Kk w A n rest:=by obtain⟨A,r,v⟩:=aaw (P:=prog) 242 301 1 underlying242 (by kernel_rfl) Yz b2 o2 n c2 h.cz;exact⟨A,r,v _ _ h.z⟩
theorem aak{a b c:World}(h:Be a b)(k:Be b c):Be a c:=h.trans (k.mono h.size)
theorem YG(c0 c1 c3 c4 c5 c6 c7 cx I J K L num d o:Int){o2:Nat}{rest:List (Int×Int)}(w:World)(B:Half w b2 o2 c2 n m0 m1 rest)(h1:0<=num/\num<=64)(h2:0<=d/\d<=64)(h3:0<=o/\o<=64):
  Y 129 #[acY #[U c0,U c1,U cx,U c3,U c4,U c5,U c6,U c7,U num,U d,U I,U o,U J,U K,U L],acX (some (adZ b2 o2)) (n+1) c2] w fun e w'=>e=acK (rH num d o m0 m1 rest)/\Be w w':=by
 obtain⟨N,H⟩:=ex (w.alloc (.cells #[U c0,U c1,U cx,U c3,U c4,U c5,U c6,U c7,U num,U d,U I,U o,U J,U K,U L] 24));have a:=(tQ H).out;have Q:=B.below a;have O:aZ N w.heap.size 24 #[U c0,U c1,U cx,U c3,U c4,U c5,U c6,U c7,U num,U d,U I,U o,U J,U K,U L]:=by rw[H];exact aZ.new _ _ _
 have x8:=fun(x:Later N)=>O.ER (i:=8) (v:= U num) rfl x;have x9:=fun(x:Later N)=>O.ER (i:=9) (v:= U d) rfl x;have a0:=fun(x:Later N)=>O.ER (i:=11) (v:= U o) rfl x;obtain⟨A,r2,hZ⟩:=Q.rest;have k3:=Q.z0;have q3:=fun(x:Later N)=>x.cell k3;have hf:=Q.fine.head;have T:=jj Q.fine;have hlen:=Q.few;have b:=jj hZ;have i1:(0:Int)<(n:Int)+1:=aR;have i2:((n:Int)+1==0)=false:=by simp;omega
 cases G:Rt num d m0 rest
 ·cases P:zC o m0 m1 rest
  ·have V:=jj (show rH num d o m0 m1 rest=false by simp[rH,G,P])
   have R:=jj (show∀w':World,Kk w' A n rest->Y 183 #[U num,U d,.complex .f64 (fw m0) (fw m1),acX A n (c2 -1)] w' fun e W=>e=acK false/\w'=W from fun w' h=>by have k:=UJ num d m0 m1 A n (c2 -1) rest w' h T.tail.usual aR aR aR aR (Small.of aR aR);rw[G] at k;exact k);have Cl:=jj (show∀w':World,Kk w' A n rest->Y 184 #[U o,.complex .f64 (fw m0) (fw m1),acX A n (c2 -1)] w' fun e W=>e=acK false/\w'=W from fun w' h=>by have k:=aaZ o m0 m1 A n (c2 -1) rest w' h T.tail.usual aR aR aR aR;rw[P] at k;exact k);clear G P;clear hZ k3 O;go_enter func129,ntmps129;go_wp2_with fail;rw[<-H];have HW:=jj H;clear H;apply wp_scope_straight;go_wp2_with fail;refine pU (by kernel_rfl) (by kernel_rfl) ?_
   repeat(go_big_quiet_step ((go_at_call 183;exact Later.same (R.out _ (gD.later b _)))))
   refine wpQuiet_nil ?_;rintro _ ⟨x,rfl⟩;have y3:=fun(y:Later x.w)=>y.cell (q3 x);have b0:=fun(y:Later x.w)=>y.cell (a0 x);have M:=jj (gD.later b x);go_wp2_with fail;refine pU (by kernel_rfl) (by kernel_rfl) ?_
   repeat(go_big_quiet_step ((go_at_call 184;exact Later.same (Cl.out _ (gD.later M _)))))
   refine wpQuiet_nil ?_;rintro _ ⟨y,rfl⟩
   go_wp2
   go_step3
   go_wp2
   try rw[Exit.noGoto_ret]
   go_ret;exact⟨by rw[V.out];rfl,a.trans ((aak x.b y.b).mono a.size)⟩
  have V:=jj (show rH num d o m0 m1 rest=true by simp[rH,P]);have R:=jj (show∀w':World,Kk w' A n rest->Y 183 #[U num,U d,.complex .f64 (fw m0) (fw m1),acX A n (c2 -1)] w' fun e W=>e=acK false/\w'=W from fun w' h=>by have k:=UJ num d m0 m1 A n (c2 -1) rest w' h T.tail.usual aR aR aR aR (Small.of aR aR);rw[G] at k;exact k);have Cl:=jj (show∀w':World,Kk w' A n rest->Y 184 #[U o,.complex .f64 (fw m0) (fw m1),acX A n (c2 -1)] w' fun e W=>e=acK true/\w'=W from fun w' h=>by have k:=aaZ o m0 m1 A n (c2 -1) rest w' h T.tail.usual aR aR aR aR;rw[P] at k;exact k);clear G P;clear hZ k3 O;go_enter func129,ntmps129;go_wp2_with fail;rw[<-H];have HW:=jj H;clear H;refine wp_scope_jumps 1 (fun S w'=>(∃x:Later N,w'=x.w)/\ ∃X Z u2 u3 u4 u5 u6 u7 u8 u9 u c f g j l m p q r s t C D E F:Value,S={tmps:=#[X,Z,u2,u3,u4,u5,u6,u7,u8,u9,u,c,f,g,j,l,m,p,q,r,s,t,C,D,E,F],defers:= []}) (fun _ _=>0) rfl ?_ ?_
  ·go_wp2_with fail
   refine pU (by kernel_rfl) (by kernel_rfl) ?_
   repeat(go_big_quiet_step ((go_at_call 183;exact Later.same (R.out _ (gD.later b _)))))
   refine wpQuiet_nil ?_;rintro _ ⟨x,rfl⟩;have y3:=fun(y:Later x.w)=>y.cell (q3 x);have b0:=fun(y:Later x.w)=>y.cell (a0 x);have M:=jj (gD.later b x);go_wp2_with fail;refine pU (by kernel_rfl) (by kernel_rfl) ?_
   repeat(go_big_quiet_step ((go_at_call 184;exact Later.same (Cl.out _ (gD.later M _)))))
   refine wpQuiet_nil ?_;rintro _ ⟨y,rfl⟩
   go_wp2
   go_step3
   exact⟨rfl,⟨⟨_,aak x.b y.b⟩,rfl⟩,_,_,_,_,_,_,_,_,_,_,_,_,_,_,_,_,_,_,_,_,_,_,_,_,_,_,rfl⟩
  rintro S w' ⟨⟨z,rfl⟩,X,Z,u2,u3,u4,u5,u6,u7,u8,u9,u,c,f,g,j,l,m,p,q,r,s,t,C,D,E,F,rfl⟩
  go_wp2
  simp only[Exit.jump];go_ret;exact⟨by rw[V.out];rfl,a.trans (z.b.mono a.size)⟩
 have V:=jj (show rH num d o m0 m1 rest=true by simp[rH,G]);have R:=jj (show∀w':World,Kk w' A n rest->Y 183 #[U num,U d,.complex .f64 (fw m0) (fw m1),acX A n (c2 -1)] w' fun e W=>e=acK true/\w'=W from fun w' h=>by have k:=UJ num d m0 m1 A n (c2 -1) rest w' h T.tail.usual aR aR aR aR (Small.of aR aR);rw[G] at k;exact k);clear G;clear hZ k3 O;go_enter func129,ntmps129;go_wp2_with fail;rw[<-H];have HW:=jj H;clear H;refine wp_scope_jumps 1 (fun S w'=>(∃x:Later N,w'=x.w)/\ ∃X Z u2 u3 u4 u5 u6 u7 u8 u9 u c f g j l m p q r s t C D E F:Value,S={tmps:=#[X,Z,u2,u3,u4,u5,u6,u7,u8,u9,u,c,f,g,j,l,m,p,q,r,s,t,C,D,E,F],defers:= []}) (fun _ _=>0) rfl ?_ ?_
 ·go_wp2_with fail
  refine pU (by kernel_rfl) (by kernel_rfl) ?_
  repeat(go_big_quiet_step ((go_at_call 183;exact Later.same (R.out _ (gD.later b _)))))
  refine wpQuiet_nil ?_;rintro _ ⟨x,rfl⟩
  go_wp2
  go_step3
  exact⟨rfl,⟨x,rfl⟩,_,_,_,_,_,_,_,_,_,_,_,_,_,_,_,_,_,_,_,_,_,_,_,_,_,_,rfl⟩
 rintro S w' ⟨⟨z,rfl⟩,X,Z,u2,u3,u4,u5,u6,u7,u8,u9,u,c,f,g,j,l,m,p,q,r,s,t,C,D,E,F,rfl⟩
 go_wp2
 simp only[Exit.jump];go_ret;exact⟨by rw[V.out];rfl,a.trans (z.b.mono a.size)⟩
end
def abL(T:List oO)(r:Rq):Int:=match AA T r with
 |some (some t)=>t
 |_=>0
def Uv(now since:Int)(T:List oO)(l:List Rq):Bool:=l.any fun r=>decide (12<now -max (abL T r) since)
def oZ(T:List oO):List Rq:=(T.filter oO.ready).map oO.r
def SH(T:List oO):Prop:= ∀r∈oZ T,∃t,AA T r=some (some t)/\0<=t/\t<=1000000
theorem ahy(x:Nat)(w:World)(f:Int)(n id gx b:Nat)(d:bK)(K:KS)(h:qE x w f n id gx b d K)(hT:d.T.length<=64)(hn:0<=d.now/\d.now<=1000000)(hs:0<=d.since/\d.since<=1000000)(hr:SH d.T)(o:Bool)(ho:Uv d.now d.since d.T (oZ d.T)=o):
  Y 128 #[gx] w fun e w'=>e= .returned o/\Be w w':=by
 obtain⟨H,HR,HO⟩:=j3 h hr ho;have c0:=h.blk.at_ 19;clear h hr ho;go_enter func128,ntmps128;go_wp2_with fail;refine(RJ H.tab hT).mono ?_;rintro e w1 ⟨⟨a,m,c,rfl,hlen,P⟩,I⟩;have B:=jj I;have OW:=jj P;have T:=F9 ((oZ d.T).length=m) hlen;have HM:=F9 (m<=64) (by have e:=T.out;unfold oZ at e;rw[aT] at e;have:=fB oO.ready d.T;omega)
 clear I P hlen c0;go_wp2_with fail;go_loopw [13] (fun q wr=> ∃i:Nat,i<=m/\q= U i/\Be w1 wr/\Uv d.now d.since d.T ((oZ d.T).drop i)=o) (fun q _=>m -(intOf q).toNat)
 case atStart=>exact⟨0,aR,by first|rfl|simp,aC _ _,by rw[jf];exact HO.out⟩
 case round=>
  obtain⟨i,hi,rfl,hb,j⟩:=hrel;have z:=jj hb;have OB:=jj j;have W:=jj (H.below (B.trans (hb.mono B.size)));clear hb j;by_cases d0:i<m
  ·have i1:(i:Int)<m:=aR
   have i0:(0:Int)<=i:=aR;have e2:IntKind.i64.wrap ((i:Int)+1)=(i:Int)+1:=aH _ (tL HM.out);have r:qc wr a m c (oZ d.T):=⟨fH (own_below OW z),T,qB OW,uO OW⟩;obtain⟨g,g0,rfl,N,X,A,C,D,E,F,v,a0,a1,a2,a3,a4,a5⟩:=r.get (k:=i) d0;have M:(oZ d.T).drop i=(X,A,C,D,E,F)::(oZ d.T).drop (i+1):=by obtain⟨hl,e⟩:=ah.1 v;rw[<-e];exact(dY hl).symm
   obtain⟨t,ht,e0,f0⟩:=HR.out _ (ak v);have j:=OB.out;rw[M] at j;unfold Uv at j;rw[List.any_cons,show abL d.T (X,A,C,D,E,F)=t by unfold abL;rw[ht]] at j;have b0:=jj j;have V:=jj ht;clear j ht M v r;go_upto_region 4 with fail;generalize hv1:wr.alloc _=v1;generalize hg1:wr.heap.size=g1;replace hv1:=hv1.symm;replace hg1:=hg1.symm;obtain⟨s,X1⟩:=nw hv1 hg1;clear hv1 hg1 a0 a1 a2 a3 a4 a5 N;have KS:=F9 (∀u,Be v1 u->J u gx 19 d.nH/\J u g1 0 (U X)/\J u g1 1 (U A)/\J u g1 2 (U C)/\J u g1 3 (U D)/\J u g1 4 (U E)/\J u g1 5 (U F)/\J u gx 31 (U d.since)/\J u gx 17 d.gt/\J u gx 10 (U 12)) fun u o=>by have Q:=(W.below s).below o;have G:=X1.below o X1.lt;exact⟨Q.blk.cell 19,G.cell 0,G.cell 1,G.cell 2,G.cell 3,G.cell 4,G.cell 5,Q.blk.cell 31,Q.blk.cell 17,Q.blk.cell 10⟩
   refine rD (fun u=>J u gx 19 d.nH/\J u g1 0 (U X)/\J u g1 1 (U A)/\J u g1 2 (U C)/\J u g1 3 (U D)/\J u g1 4 (U E)/\J u g1 5 (U F)/\J u gx 31 (U d.since)/\J u gx 17 d.gt/\J u gx 10 (U 12)) 11 (tk 0 5 (.one 5 (tk 6 5 .done))) (KS.out _ (aC _ _).drew) fun v2 B3 l=> ?_
   repeat refine' tT ?_
   refine pO fun KT bq=> ?_;go_simp;refine(QO ((W.below s).below B3) hT (X,A,C,D,E,F) (some t) V).mono ?_;rintro e v3 ⟨rfl,L⟩;have R:=nO B3 L;clear L;have S3:=KS.out _ R;refine oH bq S3 ?_;clear l;have l:=S3
   repeat refine' tT ?_
   refine aU ?_;clear l;go_upto_region 5 with fail;refine rP (fun u=>J u gx 19 d.nH/\J u g1 0 (U X)/\J u g1 1 (U A)/\J u g1 2 (U C)/\J u g1 3 (U D)/\J u g1 4 (U E)/\J u g1 5 (U F)/\J u gx 31 (U d.since)/\J u gx 17 d.gt/\J u gx 10 (U 12)) 17 (tk 0 10 (tk 11 5 (.one 10 (.one 16 .done)))) (KS.out _ R.drew) ?_;intro l;obtain⟨v4,y⟩:=ex v3.drew;have S:=F9 (Be v1 v4) (by rw[y];exact R.drew);rw[<-y] at l|-;clear y
   repeat refine' tT ?_
   refine pO fun KT bq=> ?_;go_simp;refine(vF ((W.below s).below S)).mono ?_;rintro e v5 ⟨rfl,rfl⟩;refine oH bq l ?_
   repeat refine' tT ?_
   refine pO fun KT bq=> ?_;go_simp;rw[show(if t<d.since then d.since else t)=max t d.since by split<;>omega];have O:0<=max t d.since/\max t d.since<=1048576:=aR;refine(ak4 (max t d.since) d.now 12 v4 O ⟨hn.1,aR⟩).mono ?_;rintro e v5 ⟨rfl,rfl⟩;refine oH bq l ?_
   repeat refine' tT ?_
   refine aU ?_;clear l O;have j:=b0.out;by_cases hq:12<d.now -max t d.since
   ·have p:true=o:=by rw[<-j];simp[hq]
    clear j;subst p;go_wp2_with fail;go_ret;exact⟨by trivial,(B.trans (z.mono B.size)).trans ((s.trans (S.mono s.size)).mono (aG B.size z.size))⟩
   have p:Uv d.now d.since d.T ((oZ d.T).drop (i+1))=o:=by rw[<-j];simp only[hq,decide_false,jV];rfl
   have Z:=jj p;clear j p;go_wp2_with fail;go_roundw
   case rel=>exact⟨i+1,aR,by go_num,(z.trans ((s.trans (S.mono s.size)).mono z.size)),Z⟩
   simp[intOf];omega
  obtain rfl:i=m:=aR;have i1: ¬(i:Int)<i:=aR;have j:=OB.out;rw[eP (tL T.out)] at j;replace j:false=o:=j;subst j;go_wp2_with fail;go_ret;exact⟨by trivial,B.trans (z.mono B.size)⟩
section
open Classical
def nP:List uo->Nat
 | []=>0
 |p::l=>if nP l=0 then(if p.has then 1 else 0) else nP l+1
def Ej(r:Rq):List uo->Bool
 | []=>false
 |p::l=>(p.has&&decide (r∈p.b))||(match p.done with
  |some c=>decide (r∈c.batch)
  |none=>false)||Ej r l
def FT(ps:List uo):List Rq->List Rq->List Rq
 | [],acc=>acc
 |r::l,acc=>FT ps l (if acc.length<2&&!Ej r ps then acc++ [r] else acc)
structure Vg(E:Who)(s:ql)(i:Ba)(k:Nat):Prop where
 on:i.on=true
 v:s.view=0
 kf:(k:Int)<=E.f
 T:s.T.length<=58
 len:i.ps.length=16
 nN: ∃l,s.nN[k]?=some l/\l.length=17
noncomputable def Au(E:Who)(k:Nat)(S:KN):Option KN:=
 S.2.is[k]?.bind fun i=>(must (Vg E S.2 i k)).bind fun _=>
  let t:=nP i.ps
  if k≠E.id\/16<=t\/oh i.ps+4<=t then some S else
  let b:=FT i.ps (oZ S.2.T) []
  if b= [] then some S else
  (Oz k t b S).bind fun s=>(yI E ⟨3,0,S.2.view,k,t+1,0,b,[],[]⟩ (s.1,{s.2 with nN:=s.2.nN.modify k fun l=>l.set (t+1) (S.2.view+1)})).bind fun q=>Nu E k t q.1
noncomputable def tN(E:Who):Nat->Nat->KN->Option KN
 |0,_,S=>some S
 |m+1,k,S=>(Au E k S).bind fun S1=>tN E m (k+1) S1
noncomputable def aiq(E:Who)(k j:Nat)(S:KN):Option KN:=
 (S.2.pl k j).bind fun i=>if i.2.has=true/\i.2.done.isSome=false then
  (must (k≠E.id/\i.2.b.length<=4096)).bind fun _=>(S.2.nG[k]?.bind fun l=>l[j+1]?).bind fun z=>(yI E ⟨4,0,S.2.view,k,j+1,0,i.2.b,[],[]⟩ S).bind fun q=>
   if z=S.2.view+1 then(yI E ⟨5,0,S.2.view,k,j+1,0,i.2.b,[],[]⟩ q.1).map fun q=>q.1 else some q.1
  else some S
noncomputable def lI(E:Who)(k:Nat):Nat->Nat->KN->Option KN
 |0,_,S=>some S
 |m+1,j,S=>(aiq E k j S).bind fun S1=>lI E k m (j+1) S1
noncomputable def iW(E:Who):Nat->Nat->KN->Option KN
 |0,_,S=>some S
 |m+1,k,S=>(lI E k 16 0 S).bind fun S1=>iW E m (k+1) S1
noncomputable def wX(E:Who):Nat->Nat->KN->Option KN
 |0,_,S=>some S
 |m+1,k,S=>S.2.is[k]?.bind fun i=>
  (if oh i.ps=0 then some S else(i.ps[S.2.now.toNat/2%oh i.ps]?.bind uo.done).bind fun c=>(yI E ⟨9,0,0,0,0,0,[],[],[c]⟩ S).map fun q=>q.1).bind fun S1=>wX E m (k+1) S1
noncomputable def Fj(E:Who):List Rq->KN->Option KN
 | [],S=>some S
 |r::l,S=>(NR S.2.T r E.id).bind fun h=>(if h then Jy E r S else some S).bind fun S1=>Fj E l S1
structure Px(E:Who)(s:ql):Prop where
 on: ∀i∈s.is,i.on=true/\i.ps.length=16
 v:s.view=0
 vk:s.vk≠0
 T:s.T.length<=58
 now:0<=s.now/\s.now<=1000000
 n:(s.is.length:Int)=E.f+1
 vZ:s.vZ=List.flatten (List.replicate s.is.length [U 0,U 0,U 0,U 0,U 0,U 0,U 0,(),(),(),()])
noncomputable def EB(E:Who)(S:KN):Option KN:=
 (must (Px E S.2)).bind fun _=>(iW E S.2.is.length 0 S).bind fun a=>(wX E S.2.is.length 0 a).bind fun s=>Fj E (s.2.T.map oO.r) s
structure Vj(E:Who)(s:ql):Prop where
 stop:s.stopped=false
 now:0<=s.now/\s.now<1000000
 n:(s.is.length:Int)=E.f+1
structure GJ(s:ql):Prop where
 on: ∃i,s.is[0]?=some i/\i.on=true
 now:0<=s.now/\s.now<=1000000
 T:s.T.length<=58
 since:0<=s.since/\s.since<=1000000
 start:0<=s.start/\s.start<=1000000
 rdy:SH s.T
 old:Uv s.now s.since s.T (oZ s.T)=false
 ga:1<=s.ga.length/\s.ga.length<=5/\Hy s.ga
 fair:s.start+8<=s.now-> ∀m l,s.ga=m::l->rH 1 2 8 m.1 m.2 l=false
noncomputable def Ni(E:Who)(S:KN):Option KN:=
 (must (Vj E S.2)).bind fun _=>(tN E S.2.is.length 0 (S.1,{S.2 with now:=S.2.now+1})).bind fun a=>(must (0<=a.2.now/\a.2.now<=1000000)).bind fun _=>
 (if a.2.now%2=0 then EB E a else some a).bind fun s=>(must (GJ s.2)).map fun _=>
  if s.2.start+8<=s.2.now then(s.1,{s.2 with ga:=List.replicate s.2.ga.length (0,0),start:=s.2.now}) else s
end
section
open Tok (TM)
structure mF where
 f:Nat
 nD:List Rq
 res:List Int
 K:List (Int×List Int)
 cl:Nat:=1
 alt:Option Rq:=none
def rq0:Rq:=(0,0,0,0,0,0)
def mF.rq(G:mF)(t:Nat):Rq:=if t=0 then G.alt.getD rq0 else G.nD.getD (t -1) rq0
theorem mF.WT(G:mF)(h:1<=t):G.rq t=G.nD.getD (t -1) rq0:=if_neg aR
def mF.qR(G:mF)(b:LN):List Rq:=b.map G.rq
def mF.wL(G:mF)(kind:Int)(i k seq:Nat)(b:LN):Ms:=⟨kind,i,0,k,seq,0,G.qR b,[],[]⟩
def mF.BO(G:mF)(kind:Int)(i k seq:Nat)(b:LN):Int×List Int:=((i:Int),dF (G.wL kind i k seq b))
def mF.vo(G:mF)(kind:Int)(k seq:Nat)(b:LN)(i:Nat):Vo:=(i,num G.K (G.BO kind i k seq b))
def mF.ce(G:mF)(k seq:Nat)(b vs:LN):Ce:=⟨0,k,seq,G.qR b,vs.map (G.vo 5 k seq b)⟩
def mF.ms(G:mF):TM->Ms
 | .req t=>⟨1,100+G.cl,0,0,0,0,[G.rq t],[],[]⟩
 | .prop src t=>⟨2,src,0,0,0,0,[G.rq t],[],[]⟩
 | .pp src k seq b=>⟨3,src,0,k,seq,0,G.qR b,[],[]⟩
 | .uf src k seq b=>G.wL 4 src k seq b
 | .com src k seq b=>G.wL 5 src k seq b
 | .proof src k seq b vs=>⟨9,src,0,0,0,0,[],[],[G.ce k seq b vs]⟩
 | .rep src t=>⟨10,src,0,G.cl,t,G.res.getD (t -1) 0,[],[],[]⟩
def mF.key(G:mF)(m:TM):Int×List Int:=((G.ms m).sender,dF (G.ms m))
def mF.bytes(G:mF)(m:TM):List Int:=mD (num G.K (G.key m)).toNat++dF (G.ms m)
def upto(n:Nat):TM->Prop
 | .req t=>1<=t/\t<=n
 | .prop _ t=>1<=t/\t<=n
 | .pp _ _ _ b=> ∀t∈b,t<=n
 | .uf _ _ _ b=> ∀t∈b,t<=n
 | .com _ _ _ b=> ∀t∈b,t<=n
 | .proof _ _ _ b _=> ∀t∈b,t<=n
 | .rep _ t=>1<=t/\t<=n
def mF.has(G:mF):TM->Prop
 | .proof src k seq b vs=>G.key (.proof src k seq b vs)∈G.K/\ ∀i∈vs,G.BO 5 i k seq b∈G.K
 |m=>G.key m∈G.K
theorem mF.NU{G:mF}{m:TM}(h:G.has m):G.key m∈G.K:=by cases m<;>first|exact h|exact h.1
structure mF.Le(G H:mF):Prop where
 f:H.f=G.f
 cl:H.cl=G.cl
 alt:H.alt=G.alt
 nD: ∃l,H.nD=G.nD++l
 res: ∃l,H.res=G.res++l
 len:G.res.length=G.nD.length
 K: ∃l,H.K=G.K++l
section
variable{G H I:mF}
theorem VX{K l:List (Int×List Int)}(h:q∈K):num (K++l) q=num K q:=by unfold num;rw[if_pos h,if_pos (bL _ h),List.idxOf_append,if_pos h]
theorem zf(K:List (Int×List Int))(q:Int×List Int):q∈sealed K q:=by
 unfold sealed;split
 ·assumption
 simp
theorem CJ(K:List (Int×List Int))(q:Int×List Int): ∃l,sealed K q=K++l:=by
 unfold sealed;split
 ·exact⟨[],bJ⟩
 exact⟨[q],rfl⟩
theorem Iy{α:Type}{l m:List α}{d:α}(h:k<l.length):(l++m).getD k d=l.getD k d:=by simp[List.getD,bC h]
theorem mF.Le.rq(h:G.Le H)(b:t<=G.nD.length):H.rq t=G.rq t:=by
 obtain⟨l,a⟩:=h.nD;unfold mF.rq;rw[h.alt];split
 ·rfl
 rw[a,Iy aR]
theorem mF.Le.qR(h:G.Le H)(a: ∀t∈b,t<=G.nD.length):H.qR b=G.qR b:=
 dX fun t c=>h.rq (a t c)
theorem mF.Le.wL(h:G.Le H)(a: ∀t∈b,t<=G.nD.length)(kind:Int)(i k s:Nat):H.wL kind i k s b=G.wL kind i k s b:=by unfold mF.wL;rw[h.qR a]
theorem mF.Le.BO(h:G.Le H)(a: ∀t∈b,t<=G.nD.length)(kind:Int)(i k s:Nat):H.BO kind i k s b=G.BO kind i k s b:=by unfold mF.BO;rw[h.wL a]
theorem mF.Le.num(h:G.Le H)(a:q∈G.K):num H.K q=num G.K q/\q∈H.K:=by obtain⟨l,b⟩:=h.K;rw[b];exact⟨VX a,bL _ a⟩
theorem mF.Le.vo(h:G.Le H)(a: ∀t∈b,t<=G.nD.length){kind:Int}{i:Nat}(c:G.BO kind i k seq b∈G.K):H.vo kind k seq b i=G.vo kind k seq b i:=by unfold mF.vo;rw[h.BO a,(h.num c).1]
theorem mF.Le.ce(h:G.Le H){vs:LN}(a: ∀t∈b,t<=G.nD.length)(d: ∀i∈vs,G.BO 5 i k seq b∈G.K):H.ce k seq b vs=G.ce k seq b vs:=by unfold mF.ce;rw[h.qR a,dX fun i c=>h.vo a (d i c)]
theorem mF.Le.ms(h:G.Le H){m:TM}(a:upto G.nD.length m)(c:G.has m):H.ms m=G.ms m:=by
 cases m with
 |req t=>simp only[mF.ms,h.rq a.2,h.cl]
 |prop s t=>simp only[mF.ms,h.rq a.2]
 |pp s k q b=>simp only[mF.ms,h.qR a]
 |uf s k q b=>exact h.wL a _ _ _ _
 |com s k q b=>exact h.wL a _ _ _ _
 |proof s k q b vs=>simp only[mF.ms,h.ce a c.2]
 |rep s t=>
  obtain⟨l,d⟩:=h.res;simp only[mF.ms,h.cl];rw[d,Iy (by have:=h.len;have:=a.1;have:=a.2;omega)]
theorem mF.Le.bytes(h:G.Le H){m:TM}(b:upto G.nD.length m)(a:G.has m):H.bytes m=G.bytes m/\H.key m=G.key m:=by
 have e:=h.ms b a;have k:H.key m=G.key m:=by unfold mF.key;rw[e]
 refine⟨?_,k⟩;unfold mF.bytes;rw[k,e,(h.num (mF.NU a)).1]
theorem mF.Le.has(h:G.Le H){m:TM}(c:upto G.nD.length m)(a:G.has m):H.has m:=by
 have k:=(h.num (mF.NU a)).2;rw[<-(h.bytes c a).2] at k
 cases m with
 |proof s k' q b vs=>exact⟨k,fun i d=>by rw[h.BO c];exact(h.num (a.2 i d)).2⟩
 |_=>exact k
def mF.zL(G:mF)(kind:Int)(k seq:Nat):List (Option LN)->Nat->List Xk
 | [],_=> []
 |none::l,i=>none::G.zL kind k seq l (i+1)
 |some b::l,i=>some (num G.K (G.BO kind i k seq b),G.qR b)::G.zL kind k seq l (i+1)
end
def zI(n d:Nat):Int:=if d<n then(d:Int) else 100+((d:Int) -n)
end
def DV(src id t res:Int):Ms:=⟨10,src,0,id,t,res,[],[],[]⟩
theorem QU (w:World) (nn b:Nat) (K:List (Int×List Int)) (G:vC w nn b K) (f cl:Int) (D:1<=f) (F:f<=4) (J:1<=cl/\cl<=4) (A:OA) (m c:Nat) (bs:LI) (src id t r z:Int) (S:qh z) (Q:xE K (DV src id t r) z) (p:bs=mD z.toNat++dF (DV src id t r)) (N:bs.length=m) (s:m<=65536) (q:m<=c)
  (R:gD w A m 1 (mZ bs)) (x:Nat) (hx:x<w.heap.size) (H:qU src 0 (3*f)=true) (M:qU id 0 (cl -1)=true) (O:qU t 1 1048576=true) (P:qU r (-549755813887) 549755813887=true):
  Y 119 #[acX A m c,U f,U cl,nn] w fun e w'=>(∃T C V v W y X B,e=acK (ac2 #[acY #[U 10,U src,U 0,U id,U t,U r,acX T 0 C,acX V 0 v,acX W 0 y,acX X 0 B],U z,U 0]))/\Be w w':=by
 have key: ∀d:MD,nA d=DV src id t r-> ∀w',d.Is w'->d.kind=10/\d.sender=src/\d.view=0/\d.inst=id/\d.seq=t/\d.res=r/\d.bn=0/\d.vn=0/\d.cn=0:=fun d e w' h=>by simp only[nA,DV,Ms.mk.injEq,gI] at e;obtain⟨E,a,g,i,j,k,l,n,o⟩:=e;exact⟨E,a,g,i,j,k,by rw[<-h.b.len,l];rfl,by rw[<-h.v.len,n];rfl,by rw[<-h.c.len,o];rfl⟩
 refine(abt w nn b K G f cl A m c bs (DV src id t r) z S Q p N s q R x hx fun w' d e h=> ?_).mono ?_
 ·obtain⟨E,a,g,i,j,k,l,n,o⟩:=key d e w' h
  have:=aat w' f cl D F d.ba d.va d.ca d.pa d.bc d.vc d.cc d.pc src id t r H J M O P;simp only[oM,E,a,g,i,j,k,l,n,o];exact this
 rintro e w' ⟨d,rfl,L,u,I⟩;obtain⟨E,a,g,i,j,k,l,n,o⟩:=key d L w' u.md;exact⟨⟨_,_,_,_,_,_,_,_,by simp only[oM,E,a,g,i,j,k,l,n,o];rfl⟩,I⟩
theorem Uj(w:World)(x g:Nat)(f id:Int)(d:sI)(h:qF x w f id g d)(H:d.waits=false)(A:OA)(m c:Nat):
  Y 89 #[g,acX A m c] w fun e w'=>e=acK false/\w=w':=by
 have C:J w g 18 false:=by have:=h.blk.cell 18;simp only[Nz,H] at this;exact this
 clear h;go_enter func89,ntmps89;go_wp2_with fail;go_ret;exact⟨by trivial,by trivial⟩
theorem adg{A:OA}{l:List (Int×Int)}(h:gD w A n 2 (l.flatMap Kw))(g:l.length=n)(f:k<n): ∃(p:Int×Int) (b o:Nat),l[k]?=some p/\A=some ⟨b,o,none⟩/\J w b (o+k*2) (U p.1)/\J w b (o+k*2+1) (U p.2):=by
 obtain⟨b,o,rfl,d,a⟩:=h.2 aR;have H:k<l.length:=aR;have key: ∀j v,j<2->(Kw l[k])[j]?=some v->J w b (o+k*2+j) v:=fun j v c e=>by rw[dL];exact a _ _ (nT Kw 2 (fun _=>rfl) l k j c H v e)
 exact⟨l[k],b,o,aj H,rfl,key 0 _ aR rfl,key 1 _ aR rfl⟩
theorem qF.an1{id:Int}{d:sI}(h:qF x w f id gk d){aa':OA}{ac':Nat}{al':List (Int×Int)}(i:aZ w' gk 120 (Nz f id {d with aa:=aa',ac:=ac',al:=al'}))(m:w'.ownsRow 0 253 2 (acX aa' al'.length ac') al'.length (al'.flatMap Kw))(o:Only (gk::(d.aa.map (·.block)).toList) w w'):qF x w' f id gk {d with aa:=aa',ac:=ac',al:=al'}:=by
 have far: ∀{base t s n c:Nat} {a:OA} {X:LV},w.ownsRow base t s (acX a n c) n X->t≠120->t≠253-> ∀g∈(a.map (·.block)).toList,g∉gk::(d.aa.map (·.block)).toList:=fun j k l g e H=>by
  simp only[ay] at H;rcases H with rfl|H
  ·exact oJ j h.blk k _ e rfl
  exact uP j h.ans l g e H
 refine⟨i,aZ.only h.Bc o ?_,wF h.yK o (far h.yK aV aV),h.SE,m,wF h.acc o (far h.acc aV aV),h.out.only o ?_ fun b i=>far h.out.own aV aV b (aJ.2 i)⟩
 ·simp only[ay]
  rintro(H|H)
  ·exact aZ.nY h.Bc h.blk aV H
  exact oJ h.ans h.Bc aV _ H rfl
 intro g e;simp only[ay] at e;rcases e with rfl|e
 ·exact nV.of h.blk aV
 exact wH h.ans aV g e
theorem qF.anZ{id:Int}{d:sI}(h:qF x w f id gk d){wt:Bool}{ea':OA}{ec':Nat}{el':List (Rq×Int)}(i:aZ w' gk 120 (Nz f id {d with waits:=wt,ea:=ea',ec:=ec',el:=el'}))(m:w'.ownsRow 0 51 7 (acX ea' el'.length ec') el'.length (el'.flatMap EO))(o:Only (gk::(d.ea.map (·.block)).toList) w w'):qF x w' f id gk {d with waits:=wt,ea:=ea',ec:=ec',el:=el'}:=by
 have far: ∀{base t s n c:Nat} {a:OA} {X:LV},w.ownsRow base t s (acX a n c) n X->t≠120->t≠51-> ∀g∈(a.map (·.block)).toList,g∉gk::(d.ea.map (·.block)).toList:=fun j k l g e H=>by
  simp only[ay] at H;rcases H with rfl|H
  ·exact oJ j h.blk k _ e rfl
  exact uP j h.acc l g e H
 refine⟨i,aZ.only h.Bc o ?_,wF h.yK o (far h.yK aV aV),h.SE,wF h.ans o (far h.ans aV aV),m,h.out.only o ?_ fun b i=>far h.out.own aV aV b (aJ.2 i)⟩
 ·simp only[ay]
  rintro(H|H)
  ·exact aZ.nY h.Bc h.blk aV H
  exact oJ h.acc h.Bc aV _ H rfl
 intro g e;simp only[ay] at e;rcases e with rfl|e
 ·exact nV.of h.blk aV
 exact wH h.acc aV g e
theorem adY (w:World) (x gk b:Nat) (f id:Int) (d:sI) (h:qF x w f id gk d) (h1:1<=f) (h4:f<=4) (L1:0<=id/\id<2) (K:List (Int×List Int)) (hN:vC w d.nn b K) (hw:d.waits=true) (hx:x<w.heap.size) (hl:d.il.length<=1000) (X0:d.al.length<=1000) (e1:d.el.length<=1000)
  (j:Nat) (hj:d.il.length=j+1) (r:Rq) (hr:d.il[j]?=some r) (t:Int) (ht:r.2.1=t) (src R:Int) (b0: ∀p∈d.al,p.1≠src/\p.2=R)
  (A:OA) (m c:Nat) (bs:LI) (z:Int) (hz:qh z) (hs:xE K (DV src id t R) z) (b1:bs=mD z.toNat++dF (DV src id t R)) (L:bs.length=m) (g1:m<=65536) (c1:m<=c)
  (hv:gD w A m 1 (mZ bs)) (m0:qU src 0 (3*f)=true) (hk:qU id 0 (2 -1)=true) (hq:qU t 1 1048576=true) (l0:qU R (-549755813887) 549755813887=true):
  Y 89 #[gk,.slice A m c] w fun e w'=>e= .returned true/\ ∃d',qF x w' f id gk d'/\d'.waits=decide ((d.al.length:Int)<f)/\d'.il=d.il/\d'.at_=d.at_/\d'.now=d.now/\d'.al=d.al++ [(src,R)]/\d'.el=(if(d.al.length:Int)<f then d.el else d.el++ [(r,R)])/\d'.ol=d.ol/\d'.nn=d.nn/\d'.gt=d.gt/\
   Only (d.foot gk) w w'/\(∀g∈d'.foot gk,g∈d.foot gk\/w.heap.size<=g):=by
 obtain⟨i0,v1,D1,E1,F1⟩:=info_parts Mf;obtain⟨j0,w1,A1,B1,C1⟩:=info_parts Mh;obtain⟨I,gt,waits,ia,ic,il,at_,aa,ac,S,ea,ec,el,oa,oc,ol,e0⟩:=d;obtain⟨r0,B,r2,r3,r4,r5⟩:=r;simp only at hN hw hl hj hr ht b0 X0 e1;subst hw;subst ht;obtain⟨im,s0⟩:=ex il.length;obtain⟨om,M0⟩:=ex ol.length;obtain⟨am,o0⟩:=ex S.length;obtain⟨P,q0⟩:=ex el.length;rw[<-s0] at hl hj;rw[<-o0] at X0;rw[<-q0] at e1;have HB:=F9 (aZ w gk 120 #[U f,U 2,U 2,U 4,U 64,U 8,U 8,U 8,U 1,U 2,U 12,U 8,U 6,U 2,U 6,U id,I,gt,true,.slice ia im ic,U at_,.slice aa am ac,.slice ea P ec,.slice oa om oc]) (by rw[s0,M0,o0,q0];exact h.blk);have T0:=HB.at_ 18;obtain⟨H,HN,HR,HA,HS,P0⟩:=j6 h hN hr b0 hs b1;obtain⟨HV,HX,y,f0,v0,Q0⟩:=j6 hv hx s0 o0 q0 M0;have HJ:=jj hj;have HM:=jj L;have HF:=jj (⟨m0,hk,hq,l0⟩:_/\_/\_/\_);clear h hN hr b0 hs b1 hv hx s0 o0 q0 M0 hj L m0 hk hq l0;go_enter func89,ntmps89;go_upto_region 3 with fail;go_cut [5,6,7] from 16 to 35 (fun q5 q6 q7 wx=>q6= U z/\q7= U 0/\ ∃G p6 c6 p7 c7 p8 C p9 c9,q5= .pointer (some ⟨G,0,none⟩)/\aZ wx G 82 #[U 10,U src,U 0,U id,U B,U R,.slice p6 0 c6,.slice p7 0 c7,.slice p8 0 C,.slice p9 0 c9]/\w.heap.size<=G/\Be w wx)
 case first=>
  have KS:=F9 (∀w',Only [] w w'->J w' gk 0 (U f)/\J w' gk 1 (U 2)/\J w' gk 16 I) fun w' o=>by have k1:=HB.only o bJ;exact⟨k1.cell 0,k1.cell 1,k1.cell 16⟩
  refine rD (fun w'=>J w' gk 0 (U f)/\J w' gk 1 (U 2)/\J w' gk 16 I) 24 (tk 0 15 (.two 15 (tk 16 4 (.one 20 (.one 21 (.take 22 (.take 23 .done))))) 20 (.one 15 (tk 16 4 (.one 21 (.take 22 (.take 23 .done))))))) (KS.out _ (Only.refl _ _).drew) fun v3 B3 i=> ?_;clear T0
  repeat refine' tT ?_
  refine qN ?_ ?_
  ·refine pO fun KT bq=> ?_
   go_simp;refine(QU v3 I b K (HN.below B3) f 2 h1 h4 aR A m c bs src id B R z hz HS P0 HM g1 c1 (HV.below B3) x (aB HX B3.size) HF.1 HF.2.1 HF.2.2.1 HF.2.2.2).mono ?_;rintro e v4 ⟨⟨p6,c6,p7,c7,p8,C,p9,c9,rfl⟩,d0⟩;have B4:=nO B3 d0;clear d0;have S4:=KS.out _ (Only.of_below B4);refine oH bq S4 ?_;clear i;have i:=S4
   repeat refine' tT ?_
   refine pO fun KT bq=> ?_;go_simp;generalize hv5:v4.alloc _=v5;generalize hg5:v4.heap.size=G;replace hv5:=hv5.symm;replace hg5:=hg5.symm;have X:=xNew hv5 hg5;have c0:=F9 (w.heap.size<=G) (by rw[hg5];exact B4.size);have B5:=GN B4 hv5;clear hv5 hg5;have S5:=KS.out _ (Only.of_below B5);refine oH bq S5 ?_;clear i;have i:=S5
   repeat refine' tT ?_
   refine pO fun KT bq=> ?_;have y0:=X.at_ 0;have z0:=X.frozen 0;have y1:=X.at_ 1;have z1:=X.frozen 1;have y2:=X.at_ 2;have z2:=X.frozen 2;have y3:=X.at_ 3;have z3:=X.frozen 3;have y4:=X.at_ 4;have z4:=X.frozen 4;have y5:=X.at_ 5;have z5:=X.frozen 5;have y6:=X.at_ 6;have z6:=X.frozen 6;have y7:=X.at_ 7;have z7:=X.frozen 7;have y8:=X.at_ 8;have z8:=X.frozen 8;have y9:=X.at_ 9;have z9:=X.frozen 9;go_simp;obtain⟨w9,l⟩:=ex (setW v5 G 0 [U 10,U src,U 0,U id,U B,U R,.slice p6 0 c6,.slice p7 0 c7,.slice p8 0 C,.slice p9 0 c9]);have K9:=jj (uL l X);have O9:=jj (vM l);simp only[setW,aO,Nat.reduceAdd] at l;rw[<-l];clear l y0 z0 y1 z1 y2 z2 y3 z3 y4 z4 y5 z5 y6 z6 y7 z7 y8 z8 y9 z9;have B9:Be w w9:=O9.below B5 B5.size (mR c0.out);have S9:=KS.out _ (Only.of_below B9);refine oH bq S9 ?_;clear i;have i:=S9
   repeat refine' tT ?_
   refine aU ?_;go_wp2_with fail;go_meet;exact⟨rfl,rfl,G,p6,c6,p7,c7,p8,C,p9,c9,rfl,K9,c0,B9⟩
  refine pO fun KT bq=> ?_;go_simp;generalize hv5:v3.alloc _=v4;generalize hg5:v3.heap.size=G;replace hv5:=hv5.symm;replace hg5:=hg5.symm;have X4:=xNew hv5 hg5;have c0:=F9 (w.heap.size<=G) (by rw[hg5];exact B3.size);have B4:=GN B3 hv5;clear hv5 hg5;have S4:=KS.out _ (Only.of_below B4);refine oH bq S4 ?_;clear i;have i:=S4
  repeat refine' tT ?_
  refine pO fun KT bq=> ?_;go_simp;refine(QU v4 I b K (HN.below B4) f 2 h1 h4 aR A m c bs src id B R z hz HS P0 HM g1 c1 (HV.below B4) x (aB HX B4.size) HF.1 HF.2.1 HF.2.2.1 HF.2.2.2).mono ?_;rintro e v5 ⟨⟨p6,c6,p7,c7,p8,C,p9,c9,rfl⟩,d0⟩;have B5:=nO B4 d0;have X:=jj (X4.below d0 X4.lt);clear d0;have S5:=KS.out _ (Only.of_below B5);refine oH bq S5 ?_;clear i;have i:=S5
  repeat refine' tT ?_
  refine pO fun KT bq=> ?_;have y0:=X.at_ 0;have z0:=X.frozen 0;have y1:=X.at_ 1;have z1:=X.frozen 1;have y2:=X.at_ 2;have z2:=X.frozen 2;have y3:=X.at_ 3;have z3:=X.frozen 3;have y4:=X.at_ 4;have z4:=X.frozen 4;have y5:=X.at_ 5;have z5:=X.frozen 5;have y6:=X.at_ 6;have z6:=X.frozen 6;have y7:=X.at_ 7;have z7:=X.frozen 7;have y8:=X.at_ 8;have z8:=X.frozen 8;have y9:=X.at_ 9;have z9:=X.frozen 9;go_simp;obtain⟨w9,l⟩:=ex (setW v5 G 0 [U 10,U src,U 0,U id,U B,U R,.slice p6 0 c6,.slice p7 0 c7,.slice p8 0 C,.slice p9 0 c9]);have K9:=jj (uL l X);have O9:=jj (vM l);simp only[setW,aO,Nat.reduceAdd] at l;rw[<-l];clear l y0 z0 y1 z1 y2 z2 y3 z3 y4 z4 y5 z5 y6 z6 y7 z7 y8 z8 y9 z9;have B9:Be w w9:=O9.below B5 B5.size (mR c0.out);have S9:=KS.out _ (Only.of_below B9);refine oH bq S9 ?_;clear i;have i:=S9
  repeat refine' tT ?_
  refine aU ?_;go_wp2_with fail;go_meet;exact⟨rfl,rfl,G,p6,c6,p7,c7,p8,C,p9,c9,rfl,K9,c0,B9⟩
 case rest=>
  obtain⟨rfl,rfl,G,p6,c6,p7,c7,p8,C,p9,c9,rfl,hg5,f1,k0⟩:=hcut;obtain⟨w3,N0⟩:=ex wc;rw[<-N0];rw[<-N0] at hg5 k0;clear N0 T0;obtain⟨X,B3,c0⟩:=j3 hg5 k0 f1;have K3:=jj (H.below k0);have n0:=jj (HB.below k0 HB.lt);clear hg5 f1 k0;have w0:=F9 (∀(u:World),qF x u f id gk ⟨I,gt,true,ia,ic,il,at_,aa,ac,S,ea,ec,el,oa,oc,ol,e0⟩->Y 57 #[gk] u fun e w'=>e= .returned (.agg #[U r0,U B,U r2,U r3,U r4,U r5])/\Be u w') fun u hu=>(Oi u gk _ hu.blk ia im ic il (by simp[Nz,y.out]) ⟨by have:=fH hu.yK;rwa [<-y.out] at this,y.symm,by have:=qB hu.yK;rwa [<-y.out] at this,uO hu.yK⟩ j HJ aR (r0,B,r2,r3,r4,r5) HR);go_upto_region 4 with fail;have J1: ∀w:World,(Instr.field 49 (.agg #[U r0,U B,U r2,U r3,U r4,U r5]) 1).run prog w= .ok (U B) w:=fun _=>by kernel_rfl
  refine rD (fun w'=>J w' gk 15 (U id)/\J w' G 0 (U 10)/\J w' G 3 (U id)/\J w' G 4 (U B)) 24 (tk 0 20 (.one 20 (tk 21 3 .done))) ⟨n0.drew.cell 15,X.drew.cell 0,X.drew.cell 3,X.drew.cell 4⟩ fun v4 E4 i=> ?_
  repeat refine' tT ?_
  refine pO fun KT bq=> ?_;go_simp;refine(w0.out v4 (K3.below E4)).mono ?_;rintro e v6 ⟨rfl,Z0⟩;have E6:=nO E4 Z0;clear Z0;have S6:J v6 gk 15 (U id)/\J v6 G 0 (U 10)/\J v6 G 3 (U id)/\J v6 G 4 (U B):=⟨kept E6 _ _ (n0.cell 15),kept E6 _ _ (X.cell 0),kept E6 _ _ (X.cell 3),kept E6 _ _ (X.cell 4)⟩;refine oH bq S6 ?_;clear i;have i:=S6
  repeat refine' tT ?_
  refine aU ?_;clear i;have K6:=jj (K3.below E6);have u0:=jj (n0.below E6 n0.lt);have X6:=jj (X.below E6 X.lt);have B6:=jj (B3.trans (E6.mono B3.size));have t1:=u0.at_ 21;go_wp2_with fail;go_loopw [8,65] (fun s q wr=> ∃k:Nat,k<=am/\q= U k/\s= U ((k:Int)+1)/\Be v6 wr) (fun _ q _=>am -(intOf q).toNat)
  case atStart=>exact⟨0,aR,by first|rfl|simp,by first|rfl|simp,aC _ _⟩
  case round=>
   obtain⟨k,hk,rfl,rfl,hb⟩:=hrel;have BW:=jj hb;clear hb t1;by_cases M1:k<am
   ·have i1:(k:Int)<am:=aR
    have i0:(0:Int)<=k:=aR;have e2:IntKind.i64.wrap ((k:Int)+1)=(k:Int)+1:=aH _ aR;have e3:IntKind.i64.wrap ((k:Int)+1+1)=(k:Int)+1+1:=aH _ aR;obtain⟨a,a',N1,L0,W0,y0,y1⟩:=adg (k:=k) (fH (own_below K6.ans BW)) rfl (by have:=f0.out;simp only;omega);simp only at L0 W0;subst W0;obtain⟨n1,n2⟩:=HA.out a (ak L0);rw[n2] at y1;have i2: ¬a.1=src:=n1;have S0:=X6.below BW X6.lt;have D:=S0.at_ 1;have d5:=S0.at_ 5;obtain⟨a1,a2⟩:=a;simp only at y0 y1 i2 n2;subst n2;clear n1 L0;go_upto_region 10 with fail;obtain⟨v7,hv7⟩:=ex ((wr.alloc (.cells #[U a1,U a2] 253)));obtain⟨g7,sM⟩:=ex wr.heap.size;rw[<-hv7,<-sM];have Z:=(tQ hv7).out;have X7:=xNew hv7 sM;have G1:=kept Z _ _ D;have H1:=kept Z _ _ d5;obtain⟨x0,x1⟩:=X7.a2;have B7:=nO BW Z;clear hv7 sM y0 y1 D d5;go_wp2_with fail;go_roundw
    case rel=>exact⟨k+1,aR,by go_num,by go_num,B7⟩
    simp[intOf];omega
   obtain rfl:k=am:=aR;have i1: ¬(k:Int)<k:=aR;go_upto_region 15 with fail;have KW:=jj (K6.below BW);have g0:=jj (u0.below BW u0.lt);have XW:=jj (X6.below BW X6.lt);have B7:=jj (B6.trans (BW.mono B6.size));obtain⟨wo,j1⟩:=ex wr;rw[<-j1] at KW g0 XW B7|-;clear j1;have E:=F9 (wo.ownsRow 0 253 2 (.slice aa k ac) k (S.flatMap Kw)) (by have:=KW.ans;simp only at this;rwa [<-f0.out] at this);have KS:=F9 (∀w',Only [] wo w'->J w' gk 21 (.slice aa k ac)/\J w' G 1 (U src)/\J w' G 5 (U R)) fun w' o=>by have k1:=g0.only o bJ;have k2:=XW.only o bJ;exact⟨k1.cell 21,k2.cell 1,k2.cell 5⟩
   refine rD (fun w'=>J w' gk 21 (.slice aa k ac)/\J w' G 1 (U src)/\J w' G 5 (U R)) 14 (tk 0 10 (.one 10 (.one 11 (.one 12 (.take 13 (.one 14 .done)))))) (KS.out _ (Only.refl _ _).drew) fun v5 E5 i=> ?_
   repeat refine' tT ?_
   refine pO fun KT bq=> ?_;go_simp;obtain⟨v7,hv7⟩:=ex (v5.alloc (.cells #[U src,U R] 253));obtain⟨g7,sM⟩:=ex v5.heap.size;rw[<-hv7,<-sM];have Z:=GN E5 hv7;have X7:=xNew hv7 sM;clear hv7 sM;have S7:=KS.out _ (Only.of_below Z.out);refine oH bq S7 ?_;clear i;have i:=S7
   repeat refine' tT ?_
   refine pO fun KT bq=> ?_;refine oo (by rfl) _ _ _ (by rfl) 0 253 i0 _ 2 16 underlying118 v1 D1 E1 F1 rfl aR aa k ac (S.flatMap Kw) (by rfl) (own_below (E) Z.out) (some ⟨g7,0,none⟩) 1 1 (Kw (src,R)) (by rfl) (gD.nR (n:=1) (s:=2) X7 rfl) (fun u hu=>PX [(src,R)] u (mR hu)) (by unfold maxLen;omega) aR (bF _) ?_;intro F C v8 h8;have P8:=F9 (Only (aa.map (·.block)).toList wo v8) ((Only.of_below Z.out).trans h8.only);have A0: ∀k∈(aa.map (·.block)).toList,k≠gk:=oJ (E) g0 aV;have K8:=jj (g0.only P8 fun L=>A0 _ L rfl);have a0:=jj h8.own;have t0:=F9 (∀k,F.map (·.block)=some k->aa.map (·.block)=some k\/wo.heap.size<=k) fun k hk=>by
    rcases h8.at_ k hk with h|h
    ·exact .inl h
    exact .inr (aG Z.out.size h)
   clear h8;have S8:=(show J v8 gk 21 (.slice aa k ac)/\J v8 G 1 (U src)/\v8.cell? ⟨G,5,none⟩=some (U R) from⟨K8.cell 21,(XW.only P8 fun L=>oJ E XW aV _ L rfl).cell 1,(XW.only P8 fun L=>oJ E XW aV _ L rfl).cell 5⟩);refine oH bq S8 ?_;clear i;have i:=S8
   repeat refine' tT ?_
   refine pO fun KT bq=> ?_;go_simp;refine oH bq S8 ?_
   repeat refine' tT ?_
   have f8:=K8.frozen 21;refine pL fun KT bq=> ?_;go_simp;refine oL bq ?_;refine aU ?_;clear i f8;obtain⟨W,l⟩:=ex (v8.setCell ⟨gk,21,none⟩ (.slice F (k+1) C));rw[<-l];have op:=F9 (Only [gk] v8 W) (by rw[l];exact(Only.refl [gk] _).setCell (.inl bJ) _);have Kp:=F9 (aZ W gk 120 #[U f,U 2,U 2,U 4,U 64,U 8,U 8,U 8,U 1,U 2,U 12,U 8,U 6,U 2,U 6,U id,I,gt,true,.slice ia im ic,U at_,.slice F (k+1) C,.slice ea P ec,.slice oa om oc]) (by rw[l];exact K8.fU 21 _);have B0:=jj (gH a0 op K8 aV);have Pp:=F9 (Only (gk::(aa.map (·.block)).toList) wo W) ((P8.mono (fun k hk=> .inl (by simp only[ay];exact .inr hk))).then op bJ);have l1:=t0;clear l;obtain⟨D,p0⟩: ∃D:sI,D=⟨I,gt,true,ia,ic,il,at_,F,C,S++ [(src,R)],ea,ec,el,oa,oc,ol,e0⟩:=⟨_,rfl⟩;have LA:=F9 ((S++ [(src,R)]).length=k+1) (by simp[f0.out]);have I0:=jj p0;have M:=F9 (qF x W f id gk D) (by
    rw[p0];exact KW.an1 (aa':=F) (ac':=C) (al':=S++ [(src,R)]) (by
     have e:Nz f id ⟨I,gt,true,ia,ic,il,at_,F,C,S++ [(src,R)],ea,ec,el,oa,oc,ol,e0⟩=#[U f,U 2,U 2,U 4,U 64,U 8,U 8,U 8,U 1,U 2,U 12,U 8,U 6,U 2,U 6,U id,.pointer (some ⟨I,0,none⟩),.pointer (some ⟨gt,0,none⟩),.bool true,.slice ia im ic,U at_,.slice F (k+1) C,.slice ea P ec,.slice oa om oc]:=by simp only[Nz,LA.out,y.out,v0.out,Q0.out]
     rw[e];exact Kp.out) (by rw[LA.out,bS];simpa using B0.out) Pp)
   have O0:=F9 (∀g∈D.foot gk,g∈(⟨I,gt,true,ia,ic,il,at_,aa,ac,S,ea,ec,el,oa,oc,ol,e0⟩:sI).foot gk\/wo.heap.size<=g) (by
    rw[p0];intro g v;simp only[sI.foot,ay,aQ] at v|-;rcases v with rfl|rfl|v|v|v|v
    ·exact .inl (.inl rfl)
    ·exact .inl (.inr (.inl rfl))
    ·exact .inl (.inr (.inr (.inl v)))
    ·rcases l1.out g (aJ.1 v) with h|h
     ·exact .inl (.inr (.inr (.inr (.inl (aJ.2 h)))))
     exact .inr h
    ·exact .inl (.inr (.inr (.inr (.inr (.inl v)))))
    exact .inl (.inr (.inr (.inr (.inr (.inr v))))))
   have R0:=F9 (Only ((⟨I,gt,true,ia,ic,il,at_,aa,ac,S,ea,ec,el,oa,oc,ol,e0⟩:sI).foot gk) w W) ((Only.of_below B7).then (Pp.mono fun g v=>by
    simp only[ay] at v;rcases v with rfl|v
    ·exact .inl (by simp[sI.foot])
    exact .inl (by simp only[sI.foot,ay,aQ];exact .inr (.inr (.inr (.inl v))))) fun g v=> .inl v)
   have XP:=jj (XW.only Pp (by
    simp only[ay];rintro(L|L)
    ·exact XW.nY g0 aV L
    exact oJ E XW aV _ L rfl))
   have N:=F9 (D.al=S++ [(src,R)]/\D.nn=I/\D.gt=gt/\D.il=il/\D.at_=at_/\D.now=e0/\D.el=el/\D.ol=ol/\D.waits=true/\D.ea=ea/\D.ec=ec) (by rw[p0];exact⟨rfl,rfl,rfl,rfl,rfl,rfl,rfl,rfl,rfl,rfl,rfl⟩);have U0:=Kp.at_ 0;go_wp2_with fail;refine(UR f W h1 h4).mono ?_;rintro e w' ⟨rfl,rfl⟩;have WS:=F9 (wo.heap.size<=W.heap.size) Pp.size;have D0:=F9 (w.heap.size<=wo.heap.size) B7.size;by_cases K1:(f:Int)<=k
   ·have J0:f+1<=(k:Int)+1:=aR
    have K0: ¬(k:Int)<f:=aR;have V: ¬(S.length:Int)<f:=by have:=f0.out;omega
    have u1:f<=(S.length:Int):=aR;clear U0;have Q:Hid (aZ W gk 120 #[U f,U 2,U 2,U 4,U 64,U 8,U 8,U 8,U 1,U 2,U 12,U 8,U 6,U 2,U 6,U id,I,gt,true,.slice ia im ic,U at_,.slice F (k+1) C,.slice ea P ec,.slice oa om oc]):=Kp;obtain⟨E0,G0⟩:=ex F;obtain⟨F0,H0⟩:=ex C;rw[<-G0,<-H0] at Q;have p1:=jj G0;have q1:=jj H0;clear G0 H0;have O:=F9 (W.ownsRow 0 51 7 (.slice ea P ec) P (el.flatMap EO)) (by have e:=M.acc;rw[N.2.2.2.2.2.2.2.2.2.1,N.2.2.2.2.2.2.2.2.2.2,N.2.2.2.2.2.2.1,<-v0.out] at e;exact e)
    have h0:=F9 (∀(u:World),Be W u->Y 57 #[gk] u fun e w'=>e= .returned (.agg #[U r0,U B,U r2,U r3,U r4,U r5])/\Be u w') fun u hu=>(Oi u gk _ (M.below hu).blk D.ia im D.ic D.il (by simp[Nz,N.2.2.2.1,y.out]) ⟨by have e:=fH (M.below hu).yK;rw[N.2.2.2.1,<-y.out] at e;rw[N.2.2.2.1];exact e,by rw[N.2.2.2.1];exact y.symm,by have e:=qB (M.below hu).yK;rw[N.2.2.2.1,<-y.out] at e;exact e,uO (M.below hu).yK⟩ j HJ aR (r0,B,r2,r3,r4,r5) (by rw[N.2.2.2.1];exact HR.out));go_upto_region 17 with fail;have KS:=F9 (∀w',Only [] W w'->J w' gk 22 (.slice ea P ec)/\J w' G 5 (U R)) fun w' o=>by have k1:=Q.only o bJ;have k2:=XP.only o bJ;exact⟨k1.cell 22,k2.cell 5⟩
    refine rD (fun w'=>J w' gk 22 (.slice ea P ec)/\J w' G 5 (U R)) 14 (tk 0 6 (.take 7 (.take 8 (.one 6 (.take 9 (.one 10 (.one 11 (.one 12 (.take 13 (.one 14 .done)))))))))) (KS.out _ (Only.refl _ _).drew) fun v4 E4 i=> ?_
    repeat refine' tT ?_
    refine pO fun KT bq=> ?_;go_simp;refine(h0.out v4 E4).mono ?_;rintro e v5 ⟨rfl,Y0⟩;have E5:=nO E4 Y0;clear Y0;have S5:=KS.out _ (Only.of_below E5);refine oH bq S5 ?_;clear i;have i:=S5
    repeat refine' tT ?_
    refine pO fun KT bq=> ?_;go_simp;generalize hv7:v5.alloc _=v7;generalize sM:v5.heap.size=g7;replace hv7:=hv7.symm;replace sM:=sM.symm;have Z:=GN E5 hv7;have X7:=xNew hv7 sM;clear hv7 sM;have S7:=KS.out _ (Only.of_below Z.out);refine oH bq S7 ?_;clear i;have i:=S7
    repeat refine' tT ?_
    refine pO fun KT bq=> ?_;refine oo (by rfl) _ _ _ (by rfl) 0 51 j0 _ 7 56 underlying44 w1 A1 B1 C1 rfl aR ea P ec (el.flatMap EO) (by rfl) (own_below (O) Z.out) (some ⟨g7,0,none⟩) 1 1 (EO ((r0,B,r2,r3,r4,r5),R)) (by rfl) (gD.nR (n:=1) (s:=7) X7 rfl) (fun u hu=>Ql [((r0,B,r2,r3,r4,r5),R)] u (mR hu)) (by unfold maxLen;omega) aR (bF _) ?_;intro F C v8 h8;have P8:=F9 (Only (ea.map (·.block)).toList W v8) ((Only.of_below Z.out).trans h8.only);have A0: ∀k∈(ea.map (·.block)).toList,k≠gk:=oJ (O) Q aV;have K8:=jj (Q.only P8 fun L=>A0 _ L rfl);have a0:=jj h8.own;have t0:=F9 (∀k,F.map (·.block)=some k->ea.map (·.block)=some k\/W.heap.size<=k) fun k hk=>by
     rcases h8.at_ k hk with h|h
     ·exact .inl h
     exact .inr (aG Z.out.size h)
    clear h8;have S8:=(show J v8 gk 22 (.slice ea P ec)/\v8.cell? ⟨G,5,none⟩=some (U R) from⟨K8.cell 22,(XP.only P8 fun L=>oJ O XP aV _ L rfl).cell 5⟩);refine oH bq S8 ?_;clear i;have i:=S8
    repeat refine' tT ?_
    refine pO fun KT bq=> ?_;go_simp;refine oH bq S8 ?_
    repeat refine' tT ?_
    have f8:=K8.frozen 22;refine pL fun KT bq=> ?_;go_simp;refine oL bq ?_;refine aU ?_;clear i f8;obtain⟨wq,l⟩:=ex (v8.setCell ⟨gk,22,none⟩ (.slice F (P+1) C));rw[<-l];have oq:=F9 (Only [gk] v8 wq) (by rw[l];exact(Only.refl [gk] _).setCell (.inl bJ) _);have Kq:=F9 (aZ wq gk 120 #[U f,U 2,U 2,U 4,U 64,U 8,U 8,U 8,U 1,U 2,U 12,U 8,U 6,U 2,U 6,U id,I,gt,true,.slice ia im ic,U at_,.slice E0 (k+1) F0,.slice F (P+1) C,.slice oa om oc]) (by rw[l];exact K8.fU 22 _);have C0:=jj (gH a0 oq K8 aV);have Pq:=F9 (Only (gk::(ea.map (·.block)).toList) W wq) ((P8.mono (fun k hk=> .inl (by simp only[ay];exact .inr hk))).then oq bJ);have m1:=t0;clear l;have cq:=Kq.at_ 18;have fq:=Kq.frozen 18;have K9:=F9 (aZ (wq.setCell ⟨gk,18,none⟩ false) gk 120 #[U f,U 2,U 2,U 4,U 64,U 8,U 8,U 8,U 1,U 2,U 12,U 8,U 6,U 2,U 6,U id,I,gt,false,.slice ia im ic,U at_,.slice E0 (k+1) F0,.slice F (P+1) C,.slice oa om oc]) (Kq.fU 18 _);have O9:=F9 (Only [gk] wq (wq.setCell ⟨gk,18,none⟩ false)) ((Only.refl [gk] _).setCell (.inl bJ) _);obtain⟨w9,l⟩:=ex (wq.setCell ⟨gk,18,none⟩ false);have s1:=jj l;rw[<-l] at K9 O9;clear l;go_wp2_with fail;go_ret;rw[<-s1.out];have LE:=F9 ((el++ [((r0,B,r2,r3,r4,r5),R)]).length=P+1) (by simp[v0.out]);have V0:D.ea=ea:=N.2.2.2.2.2.2.2.2.2.1;have I1:D.el=el:=N.2.2.2.2.2.2.1;have o1:qF x w9 f id gk {D with waits:=false,ea:=F,ec:=C,el:=el++ [((r0,B,r2,r3,r4,r5),R)]}:=M.anZ (by
     have e:Nz f id {D with waits:=false,ea:=F,ec:=C,el:=el++ [((r0,B,r2,r3,r4,r5),R)]}=#[U f,U 2,U 2,U 4,U 64,U 8,U 8,U 8,U 1,U 2,U 12,U 8,U 6,U 2,U 6,U id,.pointer (some ⟨I,0,none⟩),.pointer (some ⟨gt,0,none⟩),.bool false,.slice ia im ic,U at_,.slice E0 (k+1) F0,.slice F (P+1) C,.slice oa om oc]:=by rw[I0.out];simp only[Nz,LA.out,y.out,LE.out,Q0.out,p1.out,q1.out]
     rw[e];exact K9.out) (by
     rw[LE.out,bS];simpa using gH C0 O9 Kq aV) (by rw[V0];exact Pq.trans (O9.mono fun g v=> .inl (by simp only[au] at v;subst v;simp)))
    refine⟨by trivial,_,o1,?_,N.2.2.2.1,N.2.2.2.2.1,N.2.2.2.2.2.1,N.1,?_,N.2.2.2.2.2.2.2.1,N.2.1,N.2.2.1,?_,?_⟩
    ·first|rfl|simp[V]
    ·first|rfl|simp[V]
    ·refine R0.then (Pq.trans (O9.mono (T:=gk::(ea.map (·.block)).toList) fun g v=> .inl (by simp only[au] at v;subst v;simp))) fun g v=> .inl ?_
     simp only[ay] at v;rcases v with rfl|v
     ·simp[sI.foot]
     simp only[sI.foot,ay,aQ];exact .inr (.inr (.inr (.inr (.inl v))))
    intro g v;have key:g∈D.foot gk\/W.heap.size<=g:=by
     simp only[sI.foot,ay,aQ] at v|-;rcases v with rfl|rfl|v|v|v|v
     ·exact .inl (.inl rfl)
     ·exact .inl (.inr (.inl rfl))
     ·exact .inl (.inr (.inr (.inl v)))
     ·exact .inl (.inr (.inr (.inr (.inl v))))
     ·rcases m1.out g (aJ.1 v) with h|h
      ·exact .inl (.inr (.inr (.inr (.inr (.inl (by rw[V0];exact aJ.2 h))))))
      exact .inr h
     exact .inl (.inr (.inr (.inr (.inr (.inr v)))))
    rcases key with h|h
    ·exact(O0.out g h).imp (fun h=>h) fun h=>aG D0 h
    exact .inr (aG D0 (aG WS h))
   have J0: ¬f+1<=(k:Int)+1:=aR;have K0:(k:Int)<f:=aR;have V:(S.length:Int)<f:=by have:=f0.out;omega
   clear U0;go_wp2_with fail;go_ret;refine⟨by trivial,D,M,?_,N.2.2.2.1,N.2.2.2.2.1,N.2.2.2.2.2.1,N.1,?_,N.2.2.2.2.2.2.2.1,N.2.1,N.2.2.1,R0,fun g v=>(O0.out g v).imp (fun h=>h) fun h=>aG D0 h⟩
   ·rw[N.2.2.2.2.2.2.2.2.1];try simp[V]
   exact N.2.2.2.2.2.2.1
section
open Classical
structure CkV where
 waits:Bool
 il:List Rq
 at_:Int
 al:List (Int×Int)
 el:List (Rq×Int)
 now:Int
def sI.val(d:sI):CkV:=⟨d.waits,d.il,d.at_,d.al,d.el,d.now⟩
structure CV where
 K:KS
 nodes:List (Option ql)
 t0:Option Int
 ck:CkV
 M:Nat->List LI
def pE(n:Nat):List Int:=(List.range n).map (fun i:Nat=>(i:Int))++ [100,101]
def DF(n i:Nat)(S:KN)(X:CV):Option CV:=
 (zD (pE n) i S.2.out X.M).map fun M=>{X with K:=S.1,nodes:=X.nodes.set i (some {S.2 with out:= []}),M:=M}
noncomputable def zm(f:Int)(n:Nat):Nat->Nat->CV->Option CV
 |0,_,X=>some X
 |m+1,i,X=>match X.nodes[i]? with
  |some (some v)=>(Ni ⟨f,n,i⟩ (X.K,v)).bind fun S=>(must (S.2.out.length<=4096)).bind fun _=>(DF n i S X).bind fun X1=>zm f n m (i+1) X1
  |some none=>zm f n m (i+1) X
  |none=>none
noncomputable def NJ(X:CV):Option CV:=
 (must ((∀t,X.t0=some t->0<=t/\t<1048000)/\(X.ck.waits=false\/(X.ck.now+1 -X.ck.at_)%6≠0)/\0<=X.ck.at_/\X.ck.at_<=X.ck.now/\X.ck.now<1048000)).map fun _=>
  {X with t0:=X.t0.map (· +1),ck:={X.ck with now:=X.ck.now+1}}
noncomputable def Ei(f:Int)(n:Nat)(X:CV):Option CV:=(zm f n n 0 X).bind NJ
structure afb(f:Int)(K:KS)(s:CkV)(t src res z:Int)(bs:LI):Prop where
 il:s.il.length<=1000
 al:s.al.length<=1000
 el:s.el.length<=1000
 aaB: ∀p∈s.al,p.1≠src/\p.2=res
 z40:qh z
 ab2:xE K (DV src 1 t res) z
 bytes:bs=mD z.toNat++dF (DV src 1 t res)
 ao2:qU src 0 (3*f)=true
 it:qU t 1 1048576=true
 ao1:qU res (-549755813887) 549755813887=true
noncomputable def yN(f:Int)(K:KS)(src res z:Int)(bs:LI)(s:CkV):Option CkV:=
 if s.waits=false then some s else s.il.getLast?.bind fun r=>(must (afb f K s r.2.1 src res z bs)).map fun _=>
  {s with waits:=decide ((s.al.length:Int)<f),al:=s.al++ [(src,res)],el:=if(s.al.length:Int)<f then s.el else s.el++ [(r,res)]}
inductive Gm(f:Int)(n:Nat):Nat->Nat->CV->CV->Prop
 |node (a b:Nat) (bs:LI) (rest:List LI) (v:ql) (M:Ms) (z:Int) (S:KN) (X X':CV):a<n+2->b<n->a≠b->X.M (a*(n+2)+b)=bs::rest->X.nodes[b]?=some (some v)->JD ⟨f,n,b⟩ M z bs (X.K,v)=some S->S.2.out.length<=4096->
   DF n b S {X with M:=ru X.M (a*(n+2)+b) rest}=some X'->Gm f n a b X X'
 |dead (a b:Nat) (bs:LI) (rest:List LI) (X:CV):a<n+2->b<n->a≠b->X.M (a*(n+2)+b)=bs::rest->X.nodes[b]?=some none->Gm f n a b X {X with M:=ru X.M (a*(n+2)+b) rest}
 |alv (a:Nat) (bs:LI) (rest:List LI) (X:CV):a<n+2->a≠n->X.M (a*(n+2)+n)=bs::rest->X.t0=none->Gm f n a n X {X with M:=ru X.M (a*(n+2)+n) rest}
 |ck (a:Nat) (bs:LI) (rest:List LI) (src res z:Int) (s:CkV) (X:CV):a<n+1->X.M (a*(n+2)+(n+1))=bs::rest->yN f X.K src res z bs X.ck=some s->bs.length<=65536->Gm f n a (n+1) X {X with ck:=s,M:=ru X.M (a*(n+2)+(n+1)) rest}
def Hz(n:Nat)(M:Nat->List LI)(k:Nat):Prop:=k<(n+2)*(n+2)/\M k≠ []/\ ∀j,j<k->M j= []
inductive Ch(f:Int)(n:Nat):Nat->CV->CV->Prop
 |done (X:CV):(∀k,k<(n+2)*(n+2)->X.M k= [])->Ch f n 0 X X
 |step (m k:Nat) (X X1 X':CV):Hz n X.M k->Gm f n (k/(n+2)) (k%(n+2)) X X1->Ch f n m X1 X'->Ch f n (m+1) X X'
def zP(f:Int)(n:Nat)(X X':CV):Prop:= ∃m x,m<1950/\Ch f n m X x/\Ei f n x=some X'
structure agj(X:CV)(n:Nat)(r:Rq)(kd ky vl:Int)(q q':Int×List Int)(bs:LI):Prop where
 waits:X.ck.waits=false
 il:X.ck.il.length<=1000
 K:X.K.length+1<1048576
 valid:mq 2 (1,(X.ck.il.length:Int)+1,kd,ky,vl,0)=true
 ok:xH (1,(X.ck.il.length:Int)+1,kd,ky,vl,0)
 hq:q=(100+1,gM (1,(X.ck.il.length:Int)+1,kd,ky,vl,0))
 hq2:Ns q
 hr:r=(1,(X.ck.il.length:Int)+1,kd,ky,vl,num (sealed X.K q) q)
 hq':q'=(100+1,dF (mU 1 r))
 hbs:bs=mD (num (sealed (sealed X.K q) q') q').toNat++dF (mU 1 r)
def Zp(n:Nat)(kd ky vl:Int)(X X':CV):Prop:= ∃r q Q b M,agj X n r kd ky vl q Q b/\zD (pE n) 101 ((List.range n).map fun i:Nat=>((i:Int),b)) X.M=some M/\
 X'={X with K:=sealed (sealed X.K q) Q,ck:={X.ck with waits:=true,il:=X.ck.il++ [r],at_:=X.ck.now,al:= []},M:=M}
structure qb where
 C:Eu
 g0:Nat
 d0:Option sI
 g1:Nat
 d1:sI
abbrev sI.quiet(d:sI):Prop:=d.ol= []
def k0C(f:Int)(g:Nat):Option sI->ni
 |none=>uM []
 |some d=>Gp f 0 g d
structure Nn(D:qb):Prop where
 f1:1<=D.C.cd.f
 f4:D.C.cd.f<=4
 n:(D.C.n:Int)=3*D.C.cd.f+1
 ks:D.C.ks= [k0C D.C.cd.f D.g0 D.d0,uM []]
 kp:D.C.kp= [.pointer (D.d0.map fun _=>⟨D.g0,0,none⟩),.pointer (some ⟨D.g1,0,none⟩)]
 nl:D.C.cd.nl=D.C.n
 len:D.C.nodes.length=D.C.n
 kl:D.C.cd.kl=2
 fm:D.C.cd.fm=D.C.fl.length
 few:D.C.fl.length<=4096
 bad: ∀i,i<D.C.n->(D.C.nodes[i]?=some none↔(i:Int)∈D.C.fl)
 flt: ∀z∈D.C.fl,z<=100
 f0:100∈D.C.fl↔D.d0=none
 nn: ∀(i:Nat) (p:Ka),D.C.nodes[i]?=some (some p)->p.d.nn=D.C.cd.nn
 n0: ∀d,D.d0=some d->d.nn=D.C.cd.nn/\d.waits=false/\d.at_=0/\d.quiet
 n1:D.d1.nn=D.C.cd.nn
 np:D.C.nd.n=D.C.n+2
 ps:D.C.nd.ps=pE D.C.n
 q1:D.d1.quiet
def qb.val(D:qb)(K:KS):CV:=⟨K,D.C.nodes.map fun o=>o.map fun p=>p.d.val,D.d0.map sI.now,D.d1.val,D.C.nd.val⟩
structure mJ(x:Nat)(w:World)(D:qb)(K:KS):Prop where
 BJ:UY x w (D.C.cs K) D.C.cd.f 1 D.g1 D.d1
 fx:Nn D
 xlt:x<w.heap.size
structure rO(D D':qb):Prop where
 gc:D'.C.gc=D.C.gc
 f:D'.C.cd=D.C.cd
 n:D'.C.n=D.C.n
 b:D'.C.b=D.C.b
 g0:D'.g0=D.g0
 g1:D'.g1=D.g1
 fl:D'.C.fl=D.C.fl
 gx:D'.C.nodes.map tY=D.C.nodes.map tY
theorem rO.refl(D:qb):rO D D:=⟨rfl,rfl,rfl,rfl,rfl,rfl,rfl,rfl⟩
theorem rO.trans{D D' D'':qb}(h:rO D D')(k:rO D' D''):rO D D'':=⟨k.gc.trans h.gc,k.f.trans h.f,k.n.trans h.n,k.b.trans h.b,k.g0.trans h.g0,k.g1.trans h.g1,k.fl.trans h.fl,k.gx.trans h.gx⟩
def qb.nE(D:qb)(K:KS):List Nat:=Go.Proofs.YtgnhecmnlddjhaaGreat.nE (D.C.cs K)++D.d1.foot D.g1
structure pW(w w':World)(D:qb)(K:KS)(D':qb)(K':KS):Prop where
 same:rO D D'
 only:Only (D.nE K) w w'
 new: ∀k∈D'.nE K',k∈D.nE K\/w.heap.size<=k
theorem pW.refl(w:World)(D:qb)(K:KS):pW w w D K D K:=⟨rO.refl D,Only.refl _ _,fun k h=> .inl h⟩
theorem pW.trans{D D' D'':qb}{K'':KS}(h:pW w w' D K D' K')(k:pW w' w'' D' K' D'' K''):pW w w'' D K D'' K'':=
 ⟨h.same.trans k.same,h.only.then k.only h.new,fun b H=>by
  rcases k.new b H with H|H
  ·exact h.new b H
  exact .inr (aG h.only.size H)⟩
theorem pW.below{D D':qb}(h:pW w w' D K D' K')(H:Be w' w''):pW w w'' D K D' K':=⟨h.same,h.only.belows H,h.new⟩
end
def abX(gx:Nat)(w:World):Nat:=match w.cell? ⟨gx,28,none⟩ with
 |some (.int _ z)=>z.toNat
 |_=>0
theorem Rm{id b:Nat}(h:qE x w f n id gx b d K):abX gx w=d.run.toNat:=by unfold abX;rw[h.blk.cell 28];rfl
theorem aal{base:Nat}{es:List CY}(h:w.ownsRow base 51 7 (.slice a n c) n (es.flatMap pF))(p:es.length=n)(m:k<n): ∃(e:CY) (g:Nat),es[k]?=some e/\a=some ⟨g,0,none⟩/\ ∀j v,j<7->(pF e)[j]?=some v->J w g (k*7+j) v:=by
 have H:k<es.length:=aR;rcases h.2 with⟨_,rfl⟩|⟨g,C,f,d,_⟩
 ·omega
 injection d with ha _ _;subst ha;obtain⟨b,o,e,_,i⟩:=(fH h).2 aR;injection e with e;injection e with e1 e2;subst e1;subst e2;refine⟨es[k],g,aj H,rfl,fun j v l d=> ?_⟩;have:=i _ _ (nT pF 7 vP es k j l H v d)
 rwa [aO] at this
theorem Db: ∀l:List uo,oh l<=l.length
 | []=>aF _
 |p::l=>by have:=Db l;simp only[oh,List.length_cons];split<;>omega
theorem CF.step{L:List ni}{c:CD}(H:CF x w c)(h:Sys x w L)(st:Step x w w' L L'):CF x w' c:=H.only st.only h.soft
theorem Rl(st:List (Bool×Int))(ct:List (Int×Int))(R:List Rq):(qL ([],st,ct) R).1.length<=R.length:=by
 have key: ∀(R:List Rq) (s:Kr),(qL s R).1.length<=s.1.length+R.length:=by
  intro R
  induction R with
  |nil=>intro s;simp[qL]
  |cons r R ih=>
   intro s;have h:=ih (qg s r);have H:=Nf s r;simp only[qL,List.foldl_cons,List.length_cons] at h|-;omega
 have:=key R ([],st,ct);simpa using this
theorem XD{E:Who}{fuel:Nat}{K1:KS}{v1 v':ql}(h:wS E fuel (K1,v1)=some (K',v')): ∃i,v1.is[0]?=some i/\(((oh i.ps:Int)<=v1.run/\K1=K'/\v1=v')\/(v1.run<(oh i.ps:Int)/\ ∃(f:Nat) (c:Ce) (S:KN),i.ps[v1.run.toNat]?.bind uo.done=some c/\Yx E c.batch (K1,{v1 with run:=v1.run+1})=some S/\wS E f S=some (K',v'))):=by
 cases fuel with
 |zero=>
  simp only[wS,aA,aK,aM] at h;obtain⟨i,a,u,k,e,b⟩:=h;exact⟨i,a,.inl ⟨mI k,e,b⟩⟩
 |succ fuel=>
  rw[wS] at h;simp only[aA] at h;obtain⟨i,a,h⟩:=h;refine⟨i,a,?_⟩;split at h
  ·rename_i H
   simp only[aD,aM] at h;exact .inl ⟨H,h.1,h.2⟩
  rename_i H;simp only[aA] at h;obtain⟨c,j,S,d,g⟩:=h;exact .inr ⟨aR,fuel,c,S,aA.2 j,d,g⟩
theorem adD(x:Nat)(w:World)(E:Who)(gx b:Nat)(d:bK)(K:KS)(h:qE x w E.f E.n E.id gx b d K)(hx:x<w.heap.size)(h1:1<=E.f)(h4:E.f<=4)(k:Nat)(N2:k<=16)(z:Int)(hz:z=k)(A:OA)(m c:Nat)(bs:List Rq)(hr:sK x w A m c bs)(K':KS)(v':ql)(M:NC E k bs (K,d.val)=some (K',v')):
  Y 224 #[gx,U z,.slice A m c] w fun e w'=>e= .returned (.tuple #[])/\Kt x w w' E gx b d K K' v':=by
 unfold NC at M;simp only[aA] at M;obtain⟨u,I,ga,hg,M⟩:=M;have ft:=mI I;have P1:bs.length=m:=hr.row.len;have b3:m<=4:=by have:=ft.b;omega
 have hT:d.T.length<=64:=ft.T;have P2:0<=d.now/\d.now<=1000000:=ft.now;have p0:0<=d.run/\d.run<=16:=ft.run;have zi:qX z:=by rw[hz];exact⟨aR,aR⟩
 replace hg:wu z d.now d.T bs d.ga=some ga:=by rw[hz];exact hg
 obtain⟨H,HX,HR,HV,HG,l2⟩:=j6 h hx hr M hg P1;have HZ:=jj hz;have H0:=jj p0;clear h hx hr M hg ft I P1 hz p0;go_enter func224,ntmps224;go_wp2_with fail;go_loopw [16] (fun q wr=> ∃(i:Nat) (gi:List (Int×Int)),i<=m/\q= U i/\mP x w wr E.f E.n E.id gx b d K (d.yS gi) K/\wu z d.now d.T (bs.drop i) gi=some ga) (fun q _=>m -(intOf q).toNat)
 case atStart=>exact⟨0,d.ga,aR,by first|rfl|simp,Step.refl H,by rw[jf];exact HG.out⟩
 case round=>
  obtain⟨i,gi,hi,rfl,l,M1⟩:=hrel;obtain⟨SW,HW,GI⟩:=j3 l l.sys M1;clear l M1;by_cases y:i<m
  ·have i1:(i:Int)<m:=aR
   have i0:(0:Int)<=i:=aR;have e2:IntKind.i64.wrap ((i:Int)+1)=(i:Int)+1:=aH _ aR;obtain⟨g,k3,rfl,R0,x0,x1,x2,x3,x4,x5,L1,a0,a1,a2,a3,a4,a5⟩:=(HR.step H SW).row.get (k:=i) y;have k0:bs.drop i=(x0,x1,x2,x3,x4,x5)::bs.drop (i+1):=by obtain⟨hl,e⟩:=ah.1 L1;rw[<-e];exact(dY hl).symm
   have f:=GI.out;rw[k0,wu] at f;simp only[aA] at f;obtain⟨os,Q1,f⟩:=f;have m2:=jj Q1;have t0:=jj f;clear Q1 f k0 L1;go_upto_region 3 with fail;generalize hv1:wr.alloc _=v1;generalize hg1:wr.heap.size=g1;replace hv1:=hv1.symm;replace hg1:=hg1.symm;obtain⟨B1,T⟩:=nw hv1 hg1;clear hv1 hg1 a0 a1 a2 a3 a4 a5 R0;have KS:=F9 (∀u,Be v1 u->J u gx 19 d.nH/\J u g1 0 (U x0)/\J u g1 1 (U x1)/\J u g1 2 (U x2)/\J u g1 3 (U x3)/\J u g1 4 (U x4)/\J u g1 5 (U x5)) fun u o=>⟨((HW.below B1).below o).blk.cell 19,(T.below o T.lt).cell 0,(T.below o T.lt).cell 1,(T.below o T.lt).cell 2,(T.below o T.lt).cell 3,(T.below o T.lt).cell 4,(T.below o T.lt).cell 5⟩;refine rD (fun u=>J u gx 19 d.nH/\J u g1 0 (U x0)/\J u g1 1 (U x1)/\J u g1 2 (U x2)/\J u g1 3 (U x3)/\J u g1 4 (U x4)/\J u g1 5 (U x5)) 11 (tk 0 5 (.one 5 (tk 6 5 .done))) (KS.out _ (aC _ _).drew) fun v2 B2 a=> ?_
   repeat refine' tT ?_
   refine pO fun KT bq=> ?_;go_simp;refine(QO (d:=d.yS gi) (K:=K) ((HW.below B1).below B2) hT (x0,x1,x2,x3,x4,x5) os m2).mono ?_;rintro e v3 ⟨rfl,G1⟩;have B3:=nO B2 G1;clear G1;have S3:=KS.out _ B3;refine oH bq S3 ?_;clear a;have a:=S3
   repeat refine' tT ?_
   refine aU ?_;clear a;have BW:=F9 (Be wr v3) (B1.trans (B3.mono B1.size));have K0:=jj (HW.below BW);have p1:=jj (SW.below BW)
   cases os with
   |none=>
    go_wp2_with fail;go_roundw
    case rel=>exact⟨i+1,gi,aR,by go_num,p1,t0⟩
    simp[intOf];omega
   |some t=>
    have f:=t0.out;simp only[aA] at f;obtain⟨u,I,f⟩:=f;obtain⟨it,T1,O2,ik⟩:=mI I;obtain⟨E0,IT,RO⟩:=j3 f it T1;have e3:IntKind.i64.wrap (d.now -t)=d.now -t:=aH _ it;clear f I it T1;go_upto_region 5 with fail;refine rD (fun u=>J u gx 23 d.gm/\J u gx 17 d.gt) 13 (tk 0 9 (.take 10 (.one 9 (.take 11 (.one 12 .done))))) ⟨K0.blk.drew.cell 23,K0.blk.drew.cell 17⟩ fun v4 V a=> ?_;have e1:=jj (K0.below V)
    repeat refine' tT ?_
    refine pO fun KT bq=> ?_;go_simp;refine(vF e1).mono ?_;rintro e v5 ⟨rfl,rfl⟩;refine oH bq a ?_
    repeat refine' tT ?_
    refine pO fun KT bq=> ?_;go_simp;refine(ahr (d:=d.yS gi) e1 O2 RO z (d.now -t) zi IT).mono ?_;rintro e v6 ⟨o6,rfl,c2⟩;have W:=jj c2;clear c2;have S6:J v6 gx 23 d.gm/\J v6 gx 17 d.gt:=⟨W.sys.blk.cell 23,W.sys.blk.cell 17⟩;refine oH bq S6 ?_;clear a;have a:=S6
    repeat refine' tT ?_
    refine aU ?_;clear a;go_wp2_with fail;go_roundw
    case rel=>exact⟨i+1,_,aR,by go_num,(p1.below V).trans W,E0⟩
    simp[intOf];omega
  obtain rfl:i=m:=aR;have i1: ¬(i:Int)<i:=aR;have f:=GI.out;rw[eP (tL l2.out),wu] at f;injection f with f;subst f;have M:=HV.out;by_cases T2:z=0
  ·subst T2
   have T0:k=0:=by have:=HZ.out;omega
   rw[if_pos T0] at M;simp only[aA,aK] at M;obtain⟨S2,l0,u,I,he⟩:=M;subst he;have R1:=mI I;have Y0:=jj l0;have n2:=jj R1;obtain⟨dg,Q⟩:=ex (d.yS gi);have L0:=F9 (({d.val with ga:=gi}:ql)=dg.val) (by rw[Q];rfl);have C2:=F9 (qE x wr E.f E.n E.id gx b dg K) (by rw[Q];exact HW.out);have r1:=F9 (mP x w wr E.f E.n E.id gx b d K dg K) (by rw[Q];exact SW.out);have g2:=F9 (Fix d dg) (by rw[Q];exact Fix.MN d gi);have e0:=F9 (0<=dg.run/\dg.run<=16) (by rw[Q];exact H0.out);rw[L0.out] at Y0;clear l0 R1 I Q T0;obtain⟨wg,Y1⟩:=ex wr;rw[<-Y1] at C2 r1|-;clear Y1;go_wp2_with fail;go_loopw [] (fun wr=> ∃(fuel:Nat) (D:bK) (K1:KS),mP x w wr E.f E.n E.id gx b d K D K1/\Fix d D/\0<=D.run/\D.run<=16/\wS E fuel (K1,D.val)=some (K',v')) (fun wr=>17 -abX gx wr)
   case atStart=>exact⟨16,dg,K,r1,g2,e0.1,e0.2,Y0⟩
   case round=>
    obtain⟨fuel,D,K1,l,n0,f3,Q2,l0⟩:=hrel;obtain⟨wo,Z1⟩:=ex wr;rw[<-Z1] at l|-;clear Z1;obtain⟨S1,H1,F1,f2⟩:=j4 l l.sys n0 l0;clear l n0 l0;obtain⟨iv,S0,b0⟩:=XD f2;obtain⟨Z,I0,R,C1⟩:=qd S0;have G0:=F9 (D.is[0]?.map Prod.fst=some Z) (by rw[R];rfl);have P0:=F9 (∀u,qE x u E.f E.n E.id gx b D K1->J u D.gr 0 Z) fun u I=>I.ptr R;have i1:(0:Int)<D.is.length:=by have:=zZ R;omega
    have g3:0<D.is.length:=zZ R;have Z2:oh iv.ps<=16:=by have hl:I0.ps.length=16:=(H1.inst R).len;have:=Db iv.ps;rw[<-C1] at this|-;simp only[tJ.val,aT] at this|-;omega
    have Z0:=jj S0;have r2:=jj b0;clear S0 b0 R C1;go_upto_region 8 with fail;have E2:=F9 (∀u,Be wo u->J u gx 28 (U D.run)/\J u gx 18 (O D.gr D.is.length D.rX)/\J u D.gr 0 Z) fun u o=>⟨(H1.below o).blk.cell 28,(H1.below o).blk.cell 18,P0.out _ (H1.below o)⟩;refine rD (fun u=>J u gx 28 (U D.run)/\J u gx 18 (O D.gr D.is.length D.rX)/\J u D.gr 0 Z) 12 (tk 0 10 (.one 10 (.take 11 .done))) (E2.out _ (aC _ _).drew) fun v1 B1 a=> ?_
    repeat refine' tT ?_
    refine pO fun KT bq=> ?_;go_simp;refine(Ov (H1.below B1) 0 iv Z0 Z G0).mono ?_;rintro e v2 ⟨rfl,rfl⟩;refine oH bq a ?_
    repeat refine' tT ?_
    refine aU ?_;clear a;have J0:=jj (H1.below B1);have n1:=jj (S1.below B1);have l:=r2.out;rcases l with⟨O1,D1,O0⟩|⟨y,f0,cq,SQ,h0,j,m0⟩
    ·replace O1:(oh iv.ps:Int)<=D.run:=O1
     have i2: ¬D.run<(oh iv.ps:Int):=aR;have A1:=J0.blk.at_ 28;have j:D.run<16:=by have:=n2.out;rw[<-O0] at this;exact this
     have i3: ¬(16:Int)<=D.run:=aR;have VV:=jj O0;have KK:=jj D1;clear O0 D1;go_wp2_with fail;go_end0
     refine⟨by trivial,D,?_,F1,VV⟩;rw[<-KK.out];exact n1.out
    replace y:D.run<(oh iv.ps:Int):=y;have i2:D.run<(oh iv.ps:Int):=y;have e4:IntKind.i64.wrap (D.run+1)=D.run+1:=aH _ aR;have A1:=J0.blk.at_ 28;have M2:=J0.blk.frozen 28;obtain⟨j2,p2,D0⟩:=j3 h0 j m0;clear h0 j m0 y;have P3:=F9 (∀u,qE x u E.f E.n E.id gx b (D.runs (D.run+1)) K1->J u D.gr 0 Z) fun u I=>by have e:=G0.out;rw[aK] at e;obtain⟨q,hq,rfl⟩:=e;exact I.ptr (d:=D.runs (D.run+1)) (k:=0) hq
    go_upto_region 10 with fail;obtain⟨v3,W0⟩:=ex (v1.setCell ⟨gx,28,none⟩ (U (D.run+1)));rw[<-W0];have S3:=F9 (mP x w v3 E.f E.n E.id gx b d K (D.runs (D.run+1)) K1) (by rw[W0];exact n1.aeu (d'':=D.runs (D.run+1)) rfl (by simp[yB]));have H3:=jj S3.out.sys;have D2:=F9 (x<v3.heap.size) (aB HX S3.out.size);clear W0 A1 M2;have k2:=jj i2;clear i2;generalize decide (D.run<(oh iv.ps:Int))=tb;go_cut [10,11] from 65 to 78 (fun U2 V2 wx=>V2= .bool true/\ ∃(cd:CD) (G:Nat),U2= .pointer (some ⟨G,0,none⟩)/\pz cd=cq/\cd.bn<=4096/\aZ wx G 228 #[U cd.view,U cd.inst,U cd.seq,.slice cd.ba cd.bn cd.bc,.slice cd.va cd.vn cd.vc]/\v3.heap.size<=G/\CF x wx cd/\Be v3 wx)
    case first=>
     have N1:(D.runs (D.run+1)).val.is[0]?=some iv:=Z0.out;have h0:iv.ps[D.run.toNat]?.bind uo.done=some cq:=j2.out;have k1:=F9 (∀u,Be v3 u->J u gx 28 (U (D.run+1))/\J u gx 18 (O D.gr D.is.length D.rX)/\J u D.gr 0 Z) fun u o=>⟨(H3.below o).blk.cell 28,(H3.below o).blk.cell 18,P3.out _ (H3.below o)⟩;refine rD (fun u=>J u gx 28 (U (D.run+1))/\J u gx 18 (O D.gr D.is.length D.rX)/\J u D.gr 0 Z) 17 (tk 0 10 (.two 10 (tk 11 3 (.one 14 (.one 15 (.take 16 .done)))) 14 (.one 10 (tk 11 3 (.one 15 (.take 16 .done)))))) (k1.out _ (aC _ _).drew) fun v2 Bd a=> ?_;have Hd:=jj (H3.below Bd);have f1:=F9 (x<v2.heap.size) (aB D2 Bd.size);have N:=F9 (∀u,Be v2 u->J u gx 28 (U (D.run+1))/\J u gx 18 (O D.gr D.is.length D.rX)/\J u D.gr 0 Z) fun u o=>k1.out u (Bd.trans (o.mono Bd.size))
     repeat refine' tT ?_
     refine qN ?_ ?_
     ·refine pO fun KT bq=> ?_
      go_simp;refine(tX Hd f1 0 D.run.toNat _ N1 cq h0 Z G0 (D.run+1) aR).mono ?_;rintro e v4 ⟨cd,rfl,s,p,A0,R2,I1⟩;have V:=F9 (Be v2 v4) I1;have S4:=N.out _ V;rw[show(nS cd).toArray=#[U cd.view,U cd.inst,U cd.seq,.slice cd.ba cd.bn cd.bc,.slice cd.va cd.vn cd.vc] from rfl];refine oH bq S4 ?_;clear a;have a:=S4
      repeat refine' tT ?_
      refine pO fun KT bq=> ?_;go_simp;generalize hv5:v4.alloc _=v5;generalize qP:v4.heap.size=G;replace hv5:=hv5.symm;replace qP:=qP.symm;have X:=xNew hv5 qP;have GQ:=F9 (v2.heap.size<=G) (by rw[qP];exact V.size);have S:=GN V hv5;have F:=F9 (CF x v5 cd) (by rw[hv5];exact p.below nC);have CE:=F9 (pz cd=cq) s;clear hv5 qP p s I1;have S5:=N.out _ S;refine oH bq S5 ?_;clear a;have a:=S5
      repeat refine' tT ?_
      refine pO fun KT bq=> ?_;have y0:=X.at_ 0;have z0:=X.frozen 0;have y1:=X.at_ 1;have z1:=X.frozen 1;have y2:=X.at_ 2;have z2:=X.frozen 2;have y3:=X.at_ 3;have z3:=X.frozen 3;have y4:=X.at_ 4;have z4:=X.frozen 4;go_simp;obtain⟨w9,n⟩:=ex (setW v5 G 0 [U cd.view,U cd.inst,U cd.seq,.slice cd.ba cd.bn cd.bc,.slice cd.va cd.vn cd.vc]);have K9:=jj (uL n X);have O9:=jj (vM n);simp only[setW,aO,Nat.reduceAdd] at n;rw[<-n];clear n y0 z0 y1 z1 y2 z2 y3 z3 y4 z4;have B9:=F9 (Be v2 w9) (O9.below S S.size (mR GQ.out));have C0:=F9 (CF x w9 cd) (F.Aj O9 X);have S9:=N.out _ B9;refine oH bq S9 ?_;clear a;have a:=S9
      repeat refine' tT ?_
      refine aU ?_;go_wp2_with fail;go_meet;exact⟨rfl,cd,G,rfl,CE,A0,K9,aG Bd.size GQ,C0,Bd.trans (B9.mono Bd.size)⟩
     refine pO fun KT bq=> ?_;go_simp;generalize hv4:v2.alloc _=v4;generalize qP:v2.heap.size=G;replace hv4:=hv4.symm;replace qP:=qP.symm;have X4:=xNew hv4 qP;have GQ:=F9 (v2.heap.size<=G) aR;have V:=tQ hv4;clear hv4 qP;have S4:=N.out _ V;refine oH bq S4 ?_;clear a;have a:=S4
     repeat refine' tT ?_
     refine pO fun KT bq=> ?_;go_simp;refine(tX (Hd.below V) (aB f1 V.size) 0 D.run.toNat _ N1 cq h0 Z G0 (D.run+1) aR).mono ?_;rintro e v5 ⟨cd,rfl,s,p,A0,R2,Q0⟩;have S:=nO V Q0;have X:=jj (X4.below Q0 X4.lt);have F:=F9 (CF x v5 cd) p;have CE:=F9 (pz cd=cq) s;clear p s Q0;have S5:=N.out _ S;rw[show(nS cd).toArray=#[U cd.view,U cd.inst,U cd.seq,.slice cd.ba cd.bn cd.bc,.slice cd.va cd.vn cd.vc] from rfl];refine oH bq S5 ?_;clear a;have a:=S5
     repeat refine' tT ?_
     refine pO fun KT bq=> ?_;have y0:=X.at_ 0;have z0:=X.frozen 0;have y1:=X.at_ 1;have z1:=X.frozen 1;have y2:=X.at_ 2;have z2:=X.frozen 2;have y3:=X.at_ 3;have z3:=X.frozen 3;have y4:=X.at_ 4;have z4:=X.frozen 4;go_simp;obtain⟨w9,n⟩:=ex (setW v5 G 0 [U cd.view,U cd.inst,U cd.seq,.slice cd.ba cd.bn cd.bc,.slice cd.va cd.vn cd.vc]);have K9:=jj (uL n X);have O9:=jj (vM n);simp only[setW,aO,Nat.reduceAdd] at n;rw[<-n];clear n y0 z0 y1 z1 y2 z2 y3 z3 y4 z4;have B9:=F9 (Be v2 w9) (O9.below S S.size (mR GQ.out));have C0:=F9 (CF x w9 cd) (F.Aj O9 X);have S9:=N.out _ B9;refine oH bq S9 ?_;clear a;have a:=S9
     repeat refine' tT ?_
     refine aU ?_;go_wp2_with fail;go_meet;exact⟨rfl,cd,G,rfl,CE,A0,K9,aG Bd.size GQ,C0,Bd.trans (B9.mono Bd.size)⟩
    case rest=>
     obtain⟨rfl,cd,G,rfl,s,A0,qP,hge,p,hb⟩:=hcut;obtain⟨w4,W1⟩:=ex wc;rw[<-W1] at qP p hb|-;clear W1;have S4:=jj (S3.out.below hb);have H4:=jj (H3.below hb);have T4:=F9 (sV (nu E.f E.n E.id gx b (D.runs (D.run+1)) K1) w4 G 228 #[U cd.view,U cd.inst,U cd.seq,.slice cd.ba cd.bn cd.bc,.slice cd.va cd.vn cd.vc]) (sV.new H3 qP hge);have d2:=jj p;have CE:=jj s;clear qP p hb hge s;have j:=p2.out;unfold Yx at j;simp only[aA] at j;obtain⟨u,I,j⟩:=j;have b2:=mI I;obtain⟨⟨out,X0,N0⟩,V0⟩: ∃r,qL ([],D.st,D.ct) cq.batch=r:=⟨_,rfl⟩;replace j:rG E out (K1,{(D.runs (D.run+1)).val with es:=D.es++out,st:=X0,ct:=N0})=some SQ:=by have e:(qL ([],D.st,D.ct) cq.batch)=(out,X0,N0):=V0;rw[show({D.val with run:=D.val.run+1}:ql).st=D.st from rfl] at j;rw[show({D.val with run:=D.val.run+1}:ql).ct=D.ct from rfl] at j;rw[e] at j;exact j
     obtain⟨o2,b1,u0⟩:=j3 j V0 b2;have RB:=F9 (cd.bs=cq.batch) (by rw[<-CE.out];rfl);clear j V0 I b2;have K2:=H4.blk.at_ 22;have c3:=T4.blk.at_ 3;go_upto_region 11 with fail;refine rD (fun u=>J u gx 22 D.gd/\J u G 3 (.slice cd.ba cd.bn cd.bc)) 9 (tk 0 6 (.take 8 (.one 6 (.take 7 .done)))) ⟨H4.blk.drew.cell 22,T4.blk.drew.cell 3⟩ fun v5 S a=> ?_;clear K2 c3;have H5:=jj (H4.below S);have S5:=jj (S4.out.below S);have T5:=jj (T4.below S);have F:=jj (d2.below S)
     repeat refine' tT ?_
     refine pO fun KT bq=> ?_;go_simp;refine(ahA H5 (aB HX S5.out.size) cd.ba cd.bn cd.bc cq.batch (by rw[<-RB.out];exact⟨F.is.b,F.b⟩) (by
      have h1:=u0.es;have h2:cq.batch.length=cd.bn:=by rw[<-RB.out];exact F.is.b.len
      have h3:D.es.length+cq.batch.length<=1000:=h1;show D.es.length+cd.bn<=4096;omega) u0.i out X0 N0 b1).mono ?_
     rintro e v6 ⟨W2,a6,c6,rfl,L,r0⟩;obtain⟨W,H6,s1⟩:=j3 L L.sys r0;have T6:=jj (T5.step L);clear L r0;have m1:J v6 gx 22 D.gd/\J v6 G 3 (.slice cd.ba cd.bn cd.bc):=⟨H6.blk.cell 22,T6.blk.cell 3⟩;refine oH bq m1 ?_;clear a;have a:=m1
     repeat refine' tT ?_
     refine aU ?_;clear a;have OL:=F9 (out.length<=4) (by have h1:=Rl D.st D.ct cq.batch;have h2:=u0.n;have h3:=b1.out;rw[h3] at h1;simp only at h1;omega)
     obtain⟨ol,U0⟩:=ex out.length;have F0:=jj U0;rw[<-U0] at s1|-;clear U0;go_wp2_with fail;go_loopw [87] (fun q wr=> ∃(i:Nat) (P:bK) (K3:KS),i<=ol/\q= U i/\mP x w wr E.f E.n E.id gx b d K P K3/\Fix d P/\P.run=D.run+1/\P.T.length<=64/\rG E (out.drop i) (K3,P.val)=some SQ/\PO (nu E.f E.n E.id gx b P K3) wr v5.heap.size 51 7 ol (.slice a6 ol c6) (out.flatMap pF)) (fun q _=>ol -(intOf q).toNat)
     case atStart=>exact⟨0,_,K1,aR,by first|rfl|simp,S5.out.trans W,F1.trans (by constructor<;>rfl),rfl,u0.T,by rw[jf];exact o2.out,s1⟩
     case round=>
      obtain⟨i,P,K3,hi,rfl,l,n0,o0,E1,U1,r0⟩:=hrel;obtain⟨SW,HW,FX,v0,d0,t1⟩:=j6 l l.sys n0 o0 U1 r0;clear l n0 o0 U1 r0;by_cases y:i<ol
      ·have j1:(i:Int)<ol:=aR
       have j0:(0:Int)<=i:=aR;have e2:IntKind.i64.wrap ((i:Int)+1)=(i:Int)+1:=aH _ (VZ F0.out OL.out);obtain⟨e,g,J1,rfl,v⟩:=aal t1.own F0.symm y;have y0:J wr g (i*7) (U e.1.1):=v 0 _ aR rfl;have y1:J wr g (i*7+1) (U e.1.2.1):=v 1 _ aR rfl;have y2:J wr g (i*7+2) (U e.1.2.2.1):=v 2 _ aR rfl;have y3:J wr g (i*7+3) (U e.1.2.2.2.1):=v 3 _ aR rfl;have y4:J wr g (i*7+4) (U e.1.2.2.2.2.1):=v 4 _ aR rfl;have y5:J wr g (i*7+5) (U e.1.2.2.2.2.2):=v 5 _ aR rfl;have y6:J wr g (i*7+6) (U e.2):=v 6 _ aR rfl;have k0:out.drop i=e::out.drop (i+1):=by obtain⟨hl,ee⟩:=ah.1 J1;rw[<-ee];exact(dY hl).symm
       have f:=d0.out;rw[k0,rG] at f;simp only[aA] at f;obtain⟨⟨K4,v4⟩,V1,f⟩:=f;have q2:=jj V1;have t0:=jj f;clear V1 f k0 J1 v;go_upto_region 14 with fail;generalize hu1:wr.alloc _=u1;generalize hge:wr.heap.size=ge;replace hu1:=hu1.symm;replace hge:=hge.symm;have B0:=tQ hu1;have w0:=F9 (sV (nu E.f E.n E.id gx b P K3) u1 ge 51 #[U e.1.1,U e.1.2.1,U e.1.2.2.1,U e.1.2.2.2.1,U e.1.2.2.2.2.1,U e.1.2.2.2.2.2,U e.2]) (sV.new HW (by rw[hu1,hge];exact aZ.new _ _ _) aR);clear hu1 hge y0 y1 y2 y3 y4 y5 y6;have q0:=w0.blk.at_ 0;have q1:=w0.blk.at_ 1;have q6:=w0.blk.at_ 6;have s2:=jj (HW.below B0);have o1:=jj (SW.below B0);go_wp2_with fail;refine(abo x u1 E gx b P K3 s2 (aB HX o1.size) e.1.1 e.1.2.1 e.2 K4 v4 q2).mono ?_;rintro ee u2 ⟨rfl,A2,Y2,L2,B,c0⟩;have F2:=jj B;have c1:=jj B.sys;have M0:=jj (w0.step B);have H2:=jj ((t1.below B0).step B);have J2:=jj c0;clear B c0 q0 q1 q6;go_upto_region 15 with fail;have PT:=F9 (J u2 gx 19 P.nH/\J u2 ge 0 (U e.1.1)/\J u2 ge 1 (U e.1.2.1)) ⟨c1.blk.cell 19,M0.blk.cell 0,M0.blk.cell 1⟩;refine rD (fun u=>J u gx 19 P.nH/\J u ge 0 (U e.1.1)/\J u ge 1 (U e.1.2.1)) 11 (tk 0 10 (.one 10 .done)) PT fun u3 s0 a=> ?_;have t2:=jj (c1.below s0)
       repeat refine' tT ?_
       refine pO fun KT bq=> ?_;go_simp;refine(aec t2 E1 e.1.1 e.1.2.1).mono ?_;rintro ee u4 ⟨mm,X2,rfl,C⟩;have G2:=jj C;have w2:=jj C.sys;have w1:=jj ((M0.below s0).step C);have I2:=jj ((H2.below s0).step C);clear C;have l1:J u4 gx 19 P.nH/\J u4 ge 0 (U e.1.1)/\J u4 ge 1 (U e.1.2.1):=⟨w2.blk.cell 19,w1.blk.cell 0,w1.blk.cell 1⟩;refine oH bq l1 ?_;clear a;have a:=l1
       repeat refine' tT ?_
       refine aU ?_;clear a;go_wp2_with fail;go_roundw
       case rel=>
        refine⟨i+1,_,K4,aR,by go_num,((o1.trans F2).below s0).trans G2,FX.trans (by constructor<;>rfl),v0,aG (fB _ _) E1,?_,I2⟩;rw[<-t0.out,<-J2.out];rfl
       case measure=>simp[intOf];omega
      obtain rfl:i=ol:=aR;have j1: ¬(i:Int)<i:=aR;have f:=d0.out;rw[eP (tL F0.out),rG] at f;injection f with f;subst f;go_wp2_with fail;go_roundw
      case rel=>exact⟨f0,P,K3,SW,FX,by have:=v0.out;omega,by have:=v0.out;have:=k2.out;omega,D0⟩
      case measure=>
       rw[Rm HW,Rm H1,v0.out];omega
  rw[if_neg (by intro T0;have:=HZ.out;omega)] at M;injection M with M;injection M with hv1 hv2;subst hv1;subst hv2;go_wp2_with fail;((try simp only[Exit.inBlock,Exit.then]);refine bodyPost_ret (results_none rfl _ _ _) rfl ?_)
  exact⟨by trivial,d.yS gi,SW,Fix.MN _ _,rfl⟩
end Go.Proofs.YtgnhecmnlddjhaaGreat
