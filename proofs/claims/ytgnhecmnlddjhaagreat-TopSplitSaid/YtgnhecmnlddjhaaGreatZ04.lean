/- TopSplit, part 5 of 12: a proof squeezed by a program. -/
import Derived.Test.YtgnhecmnlddjhaaGreatZ03
import Derived.Laws.CopyOwn
import GoSem.Core.Float
import Derived.WalkLawsBesides
import Derived.Laws.ComplexArith
import Derived.Laws.FloatArith
import Derived.Laws.Entries
set_option linter.all false
set_option maxRecDepth 100000
set_option maxHeartbeats 6400000
namespace Go.Proofs.YtgnhecmnlddjhaaGreat
open Go.RowKit Go.Proofs.Tryz
variable{A a:OA}{E:Prop}{K:Act->World->Prop}{P:Program}{Q:Exit->Act->World->Prop}{S:LN}{b f z:Int}{c c' cap e g g' j k m n s t t' x y:Nat}{l:List (Nat×List Int)}{ms':Nat->List (Value×List Int)}{o:Oper}{ops:Array Oper}{p:qm}{r:Rq}{v:Value}{w w':World}{xs:LV}
section
variable{x:Nat}{w w':World}{f:Int}{n:Nat}{num ahead:Int}{gi:Nat}{i:tJ}
theorem eU.OG(h:eU x w f n num ahead gi i)(l:i.ps[k]?=some p){s':CQ}(o:s'.foot p.g=p.sl.foot p.g)(c:Only S w w')(d: ∀b∈S,b∈p.foot)(r:mM x w' f n p.g s')(m:qm.Short {p with sl:=s'}):
  eU x w' f n num ahead gi {i with ps:=i.ps.set k {p with sl:=s'}}:=by have a:=ak l;have g:=h.at_ p a;have H: ∀b∈S,nV x w b:=fun b j=>g.slot.soft b (d b j);refine h.put l o c (fun b j=> .inr (d b j)) ?_ ⟨r,g.cert.only c H,g.dw.only c H,m⟩;have e:=h.abZ (p':={p with sl:=s'}) l rfl;rw[e];exact h.row.only c fun q=>(h.far a).2 (d _ q)
theorem aij(h:eU x w f n num ahead gi i)(H:i.on=true)(k:Nat)(p:qm)(a:i.ps[k]?=some p)(kd:Int)(j:Nat)(b:kd=4/\(∃v,p.sl.pr[j]?=some v/\v.has=true)\/kd=5/\ ∃v,p.sl.co[j]?=some v/\v.has=true)(z:Int)(d:z=(k:Int)+1)(s:Int)(A:OA)(m c:Nat):
  Y 217 #[gi,U kd,U z,U j,U s,acX A m c] w fun e w'=>e=acK false/\w=w':=by
 have l:k<16:=by have:=(ah.1 a).1;rw[h.len] at this;exact this
 have C:J w i.gl (k*14) p.g:=h.cell a 0 aR _ rfl;have o:J w gi 4 true:=(h.blk.cell 4).trans (by rw[<-H];rfl);have S:=jj (ais (h.at_ p (ak a)).slot kd j b s A m c);have g:=jj (wC h k l z d);clear h a b d H;go_enter func217,ntmps217;go_wp2_with fail;refine g.mono ?_;rintro e w' ⟨rfl,rfl⟩;go_wp2_with fail;refine S.mono ?_;rintro e W ⟨rfl,rfl⟩;go_wp2_with fail;go_ret;exact⟨by trivial,by trivial⟩
theorem ahg(h:eU x w f n num ahead gi i)(l:i.on=true)(k:Nat)(p:qm)(o:i.ps[k]?=some p)(j:Nat)(v:rC)(D:p.sl.pr[j]?=some v)(I:v.has=false)(Q:n<=13)(z:Int)(K:z=(k:Int)+1)(s:Int)(A:OA)(m c:Nat)(bs:List Rq)(F:sK x w A m c bs)(t:m<=4096)(hx:x<w.heap.size):
  Y 217 #[gi,U 4,U z,U j,U s,acX A m c] w fun e w'=> ∃q c',e=acK true/\eU x w' f n num ahead gi {i with ps:=i.ps.set k {p with sl:={p.sl with pr:=p.sl.pr.set j ⟨true,s,q,m,c',bs⟩}}}/\Only [p.sl.gp] w w':=by
 have P:k<16:=by have:=(ah.1 o).1;rw[h.len] at this;exact this
 have a:=h.at_ p (ak o);have Z:J w i.gl (k*14) p.g:=h.cell o 0 aR _ rfl;have c4:J w gi 4 true:=(h.blk.cell 4).trans (by rw[<-l];rfl);obtain⟨g,d⟩:=ah.1 D;have N:=jj (ahO a.slot j g (by rw[d];exact I) s A m c bs F t Q hx);have L:=jj (wC h k P z K);obtain⟨H,B,M⟩:=j3 h o t;clear h o I K hx a F D g d t l;go_enter func217,ntmps217;go_wp2_with fail;refine L.mono ?_;rintro e w' ⟨rfl,rfl⟩;go_wp2_with fail;refine N.mono ?_;rintro e w2 ⟨q,c',rfl,G,E⟩;have S:=jj G;have O:=jj E;clear G E;go_wp2_with fail;go_ret;have a:=H.at_ p (ak B);have r:p.sl.gp∈p.foot:=by simp[qm.foot,CQ.foot]
 obtain⟨R,T,V,W,X⟩:=a.short;exact⟨q,c',by trivial,H.OG B (s':={p.sl with pr:=p.sl.pr.set j ⟨true,s,q,m,c',bs⟩}) rfl O (fun b C=>by simp only[au] at C;rw[C];exact r) S ⟨R,fun u y=>by
  rcases cB y with y|rfl
  ·exact T u y
  exact M.out,V,W,X⟩,O⟩
theorem ahh(h:eU x w f n num ahead gi i)(l:i.on=true)(k:Nat)(p:qm)(o:i.ps[k]?=some p)(j:Nat)(v:rC)(D:p.sl.co[j]?=some v)(I:v.has=false)(Q:n<=13)(z:Int)(K:z=(k:Int)+1)(s:Int)(A:OA)(m c:Nat)(bs:List Rq)(F:sK x w A m c bs)(t:m<=4096)(hx:x<w.heap.size):
  Y 217 #[gi,U 5,U z,U j,U s,acX A m c] w fun e w'=> ∃q c',e=acK true/\eU x w' f n num ahead gi {i with ps:=i.ps.set k {p with sl:={p.sl with co:=p.sl.co.set j ⟨true,s,q,m,c',bs⟩}}}/\Only [p.sl.gc] w w':=by
 have P:k<16:=by have:=(ah.1 o).1;rw[h.len] at this;exact this
 have a:=h.at_ p (ak o);have Z:J w i.gl (k*14) p.g:=h.cell o 0 aR _ rfl;have c4:J w gi 4 true:=(h.blk.cell 4).trans (by rw[<-l];rfl);obtain⟨g,d⟩:=ah.1 D;have N:=jj (ahP a.slot j g (by rw[d];exact I) s A m c bs F t Q hx);have L:=jj (wC h k P z K);obtain⟨H,B,M⟩:=j3 h o t;clear h o I K hx a F D g d t l;go_enter func217,ntmps217;go_wp2_with fail;refine L.mono ?_;rintro e w' ⟨rfl,rfl⟩;go_wp2_with fail;refine N.mono ?_;rintro e w2 ⟨q,c',rfl,G,E⟩;have S:=jj G;have O:=jj E;clear G E;go_wp2_with fail;go_ret;have a:=H.at_ p (ak B);have r:p.sl.gc∈p.foot:=by simp[qm.foot,CQ.foot]
 obtain⟨R,T,V,W,X⟩:=a.short;exact⟨q,c',by trivial,H.OG B (s':={p.sl with co:=p.sl.co.set j ⟨true,s,q,m,c',bs⟩}) rfl O (fun b C=>by simp only[au] at C;rw[C];exact r) S ⟨R,T,fun u y=>by
  rcases cB y with y|rfl
  ·exact V u y
  exact M.out,W,X⟩,O⟩
theorem ahf(h:eU x w f n num ahead gi i)(q:i.on=true)(k:Nat)(p:qm)(t:i.ps[k]?=some p)(N:p.sl.has=false)(z:Int)(P:z=(k:Int)+1)(ha:1<=ahead/\ahead<=16)(y:z<=(yt i.ps:Int)+ahead)(A:OA)(m c:Nat)(bs:List Rq)(M:sK x w A m c bs)(L:m<=4096)(hx:x<w.heap.size):
  Y 169 #[gi,U z,acX A m c] w fun e w'=> ∃v c',e=acK true/\eU x w' f n num ahead gi {i with ps:=i.ps.set k {p with sl:={p.sl with has:=true,ba:=v,bn:=m,bc:=c',bs:=bs}}}/\Only [p.g] w w':=by
 have hk:k<16:=by have:=(ah.1 t).1;rw[h.len] at this;exact this
 have g:=h.at_ p (ak t);obtain⟨d,s⟩: ∃d,yt i.ps=d:=⟨_,rfl⟩;have I:d<=16:=by rw[<-s,<-h.len];exact Qj _
 rw[s] at y;have R:=jj (wC h k hk z P);obtain⟨H,o,B,X,T,V⟩:=j6 h t L N s M;have Z:=jj hx;have u:=jj q;have e1:IntKind.i64.wrap ((d:Int)+ahead)=(d:Int)+ahead:=aH _ aR;clear h t N P hx g M L q s;go_enter func169,ntmps169;go_wp2_with fail;refine R.mono ?_;rintro e w' ⟨rfl,rfl⟩;go_upto_region 2 with fail;have D:=jj (H.below (aC _ _).drew);have C:J w.drew i.gl (k*14) p.g:=D.cell o 0 aR _ rfl;have F:J w.drew gi 4 true:=(D.blk.cell 4).trans (by rw[<-u.out];rfl);have E:=D.blk.at_ 2;refine rP (fun w'=>J w' i.gl (k*14) p.g/\J w' gi 4 true/\J w' gi 2 (U ahead)) 28 (tk 0 11 (tk 12 4 (.one 11 (tk 16 9 (.one 25 (.take 26 (.take 27 .done))))))) ⟨C,F,E⟩ ?_;intro a
 repeat refine' tT ?_
 refine pO fun KT bq=> ?_;go_simp;refine(VJ D d T).mono ?_;rintro e w' ⟨rfl,rfl⟩;refine oH bq a ?_
 repeat refine' tT ?_
 refine pO fun KT bq=> ?_;go_simp;have g:=D.at_ p (ak o);refine(ahN g.slot X A m c bs (V.below (aC _ _).drew) B Z).mono ?_;rintro e W ⟨v,c',rfl,r,j⟩;have S2:=jj r;have O:=jj j;have l:p.g∈p.foot:=by simp[qm.foot,CQ.foot]
 have K:=D.far (ak o);have n1:i.gl∉ [p.g]:=by simpa using fun e=>K.2 (by rw[e];exact l)
 have Q:gi∉ [p.g]:=by simpa using fun e=>K.1 (by rw[e];exact l)
 have S:J W i.gl (k*14) p.g/\J W gi 4 true/\J W gi 2 (U ahead):=⟨j.cell_ a.1 n1,j.cell_ a.2.1 Q,j.cell_ a.2.2 Q⟩;clear r j g;refine oH bq S ?_;clear a C F E;have a:=S
 repeat refine' tT ?_
 refine aU ?_;clear a;go_wp2_with fail;go_ret;have g:=D.at_ p (ak o);obtain⟨s1,s2,s3,s4,s5⟩:=g.short;exact⟨v,c',by trivial,D.OG o rfl O (fun b G=>by simp only[au] at G;rw[G];exact l) S2 ⟨B,s2,s3,s4,s5⟩,(Only.refl [p.g] w).drew.trans O⟩
end
section
variable{x:Nat}{w w':World}{f:Int}{n:Nat}{num ahead:Int}{gi:Nat}{i:tJ}
def CD.moved(c:CD)(a:OA)(k:Nat)(a':OA)(k':Nat):CD:={c with ba:=a,bc:=k,va:=a',vc:=k'}
theorem IU(w:World)(c:CD)(h:c.Is w)(hb:c.bn<=4096)(hv:c.vn<=4096)(x:Nat)(hx:x<w.heap.size):
  Y 232 #[acY (nS c).toArray] w fun e w'=> ∃a k a' k',e=acK (acY (nS (c.moved a k a' k')).toArray)/\CF x w' (c.moved a k a' k')/\Be w w':=by
 obtain⟨i0,M,S,T,Z⟩:=info_parts rT;obtain⟨j0,N,P,Q,R⟩:=info_parts Cr;obtain⟨C,d,f,F,b,G,I,t,V,u,vs⟩:=c;have H:=jj h;have HX:=jj hx;simp only at hb hv;clear h hx;show Y 232 #[acY #[U C,U d,U f,acX F b G,acX t V u]] w _;go_enter func232,ntmps232;go_upto_region 1 with fail;generalize hv1:w.alloc _=v1;generalize hg1:w.heap.size=g1;replace hv1:=hv1.symm;replace hg1:=hg1.symm;obtain⟨v2,g⟩:=ex (v1.alloc (.cells #[U 0,U 0,U 0,(),()] 228));obtain⟨g2,m⟩:=ex v1.heap.size;have eg:g1+1=g2:=by rw[m,hv1,hg1];simp
 try rw[eg]
 try rw[<-m]
 rw[<-g];have X:=F9 (aZ v2 g1 228 #[U C,U d,U f,acX F b G,acX t V u]) (by rw[g];refine aZ.alloc ?_ _;rw[hv1,hg1];exact aZ.new _ _ _);have X2:=xNew g m;have B:=F9 (Be w v2) (by rw[g,hv1];exact(nC.alloc bJ _));have GE:=F9 (w.heap.size<=g1/\w.heap.size<=g2/\g1≠g2) ⟨aR,aR,aR⟩;clear hv1 g hg1 m eg;have d3:=X.at_ 3
 go_upto_region 2 with(at_builtin;refine fD rfl _ _ _ rfl w.heap.size 49 i0 _ 6 48 underlying46 M S T Z rfl aR none 0 0 [] rfl ⟨bJ,.inl ⟨rfl,rfl⟩⟩ F b G (I.flatMap rA) rfl (H.b.row.below B) (Bt I) (by unfold maxLen;omega) aR B.size ?_;intro a5 l W J;have s:=jj (X.below J.only.mY X.lt);have x3:=s.cell 3;have f3:=s.frozen 3;have D:=jj J;clear J;rw[aO])
 have B5:=F9 (Be w W) (B.trans (D.only.mY.mono B.size));have Y5:=jj (X2.below D.only.mY X2.lt);have R5:=F9 (W.ownsRow w.heap.size 49 6 (acX a5 b l) b (I.flatMap rA)) (by have:=D.own;rwa [aO,bU] at this);obtain⟨w6,i⟩:=ex (W.setCell (adZ g1 3) (acX a5 b l));rw[<-i];have E:=F9 (aZ w6 g1 228 #[U C,U d,U f,acX a5 b l,acX t V u]) (by rw[i];exact s.fU 3 _);have o6:Only [g1] W w6:=by rw[i];exact(Only.refl [g1] _).setCell (.inl bJ) _
 have Y6:=jj (Y5.only o6 (mR GE.2.2.symm));have q:=F9 (Be w w6) (by rw[i];exact B5.setCell (p:=adZ g1 3) GE.1 _);have R6:=jj (gH R5 o6 s aV);have d4:=E.at_ 4;clear d3 x3 f3 i o6
 go_upto_region 3 with(at_builtin;refine fD rfl _ _ _ rfl w.heap.size 311 j0 _ 2 16 underlying78 N P Q R rfl aR none 0 0 [] rfl ⟨bJ,.inl ⟨rfl,rfl⟩⟩ t V u (vs.flatMap Cg) rfl (H.v.row.below q) (aeW vs) (by unfold maxLen;omega) aR q.size ?_;intro A o z L;have K:=jj (E.below L.only.mY E.lt);have x4:=K.cell 4;have f4:=K.frozen 4;have r:=jj L;clear L;rw[aO])
 have B7:=F9 (Be w z) (q.trans (r.only.mY.mono q.size));have Y7:=jj (Y6.below r.only.mY Y6.lt);have R7:=jj (own_below R6 r.only.mY);have S7:=F9 (z.ownsRow w.heap.size 311 2 (acX A V o) V (vs.flatMap Cg)) (by have:=r.own;rwa [aO,bU] at this);obtain⟨w8,j⟩:=ex (z.setCell (adZ g1 4) (acX A V o));rw[<-j];have K8:=F9 (aZ w8 g1 228 #[U C,U d,U f,acX a5 b l,acX A V o]) (by rw[j];exact K.fU 4 _);have O:Only [g1] z w8:=by rw[j];exact(Only.refl [g1] _).setCell (.inl bJ) _
 have y:=jj (Y7.only O (mR GE.2.2.symm));have B8:=F9 (Be w w8) (by rw[j];exact B7.setCell (p:=adZ g1 4) GE.1 _);have R8:=jj (gH R7 O K aV);have S8:=jj (gH S7 O K aV);clear d4 x4 f4 j O;obtain⟨e0,e1,e2,e3,e4⟩:=K8.a5;have y0:=y.cell 0;have y1:=y.cell 1;have y2:=y.cell 2;have y3:=y.cell 3;have y4:=y.cell 4;have z0:=y.frozen 0;have z1:=y.frozen 1;have z2:=y.frozen 2;have z3:=y.frozen 3;have z4:=y.frozen 4;go_wp2_with fail;obtain⟨w9,n⟩:=ex (((((w8.setCell (adZ g2 0) (U C)).setCell (adZ g2 1) (U d)).setCell (adZ g2 2) (U f)).setCell (adZ g2 3) (acX a5 b l)).setCell (adZ g2 4) (acX A V o));rw[<-n];have K9:aZ w9 g2 228 #[U C,U d,U f,acX a5 b l,acX A V o]:=by rw[n];have t1:aZ (w8.setCell (adZ g2 0) (U C)) g2 228 #[U C,U 0,U 0,(),()]:=y.fU 0 _;have t2:aZ ((w8.setCell (adZ g2 0) (U C)).setCell (adZ g2 1) (U d)) g2 228 #[U C,U d,U 0,(),()]:=t1.fU 1 _;have t3:aZ (((w8.setCell (adZ g2 0) (U C)).setCell (adZ g2 1) (U d)).setCell (adZ g2 2) (U f)) g2 228 #[U C,U d,U f,(),()]:=t2.fU 2 _;have t4:aZ ((((w8.setCell (adZ g2 0) (U C)).setCell (adZ g2 1) (U d)).setCell (adZ g2 2) (U f)).setCell (adZ g2 3) (acX a5 b l)) g2 228 #[U C,U d,U f,acX a5 b l,()]:=t3.fU 3 _;exact t4.fU 4 _
 have o9:Only [g2] w8 w9:=by rw[n];exact(((((Only.refl [g2] _).setCell (.inl bJ) _).setCell (.inl bJ) _).setCell (.inl bJ) _).setCell (.inl bJ) _).setCell (.inl bJ) _
 have B9:Be w w9:=o9.below B8 B8.size (mR GE.2.1);have R9:=sK.own (x:=x) (gH R8 o9 y aV) HX H.b.len;have S9:=Ez.own (x:=x) (gH S8 o9 y aV) HX H.v.len;clear n;refine bodyPost_ret (v:=acY #[U C,U d,U f,acX a5 b l,acX A V o]) ?_ rfl ⟨a5,l,A,o,rfl,⟨⟨R9.row,S9.row,H.i0,H.i1,H.i2⟩,R9.fix,S9.fix⟩,B9⟩;exact results_cell_row Tryz.results232 _ w9 g2 _ _ _ _ (by rfl) K9 underlying228 rfl (by kernel_rfl)
theorem afV(h:eU x w f n num ahead gi i)(z:Int)(ba:OA)(bn bc:Nat)(va:OA)(d vc:Nat):
  Y 286 #[gi,U z,acX ba bn bc,acX va d vc] w fun e w'=>e=acK (acY #[U i.vw,U num,U z,acX ba bn bc,acX va d vc])/\Be w w':=by
 have H:=jj h;clear h;go_enter func286,ntmps286;go_upto_region 1 with fail;generalize hv2:w.alloc _=v2;generalize hg2:w.heap.size=g2;replace hv2:=hv2.symm;replace hg2:=hg2.symm;have X:=xNew hv2 hg2;have B:=tQ hv2;have GE:=F9 (w.heap.size<=g2) aR;clear hv2 hg2;have D:=jj ((H.below B).below (aC _ _).drew);have g:=D.blk.at_ 3;have C:=D.blk.at_ 1;refine rP (fun w'=>J w' gi 3 (U i.vw)/\J w' gi 1 (U num)) 12 (tk 0 12 (.one 12 .done)) ⟨g,C⟩ ?_;intro c;obtain⟨V,a⟩:=ex v2.drew;have y:=F9 (aZ V g2 228 #[U 0,U 0,U 0,(),()]) (by rw[a];exact X.drew);have j:=F9 (Be w V) (by rw[a];exact B.drew);rw[<-a] at c|-;clear a g C
 repeat refine' tT ?_
 refine pL fun KT bq=> ?_;have o:=y.cell 0;have q:=y.cell 1;have r:=y.cell 2;have s:=y.cell 3;have u:=y.cell 4;have z0:=y.frozen 0;have Z:=y.frozen 1;have A:=y.frozen 2;have E:=y.frozen 3;have F:=y.frozen 4;go_simp;refine oL bq ?_;refine aU ?_;clear c o q r s u z0 Z A E F;obtain⟨w9,b⟩:=ex (((((V.setCell (adZ g2 0) (U i.vw)).setCell (adZ g2 1) (U num)).setCell (adZ g2 2) (U z)).setCell (adZ g2 3) (acX ba bn bc)).setCell (adZ g2 4) (acX va d vc));rw[<-b];have K:aZ w9 g2 228 #[U i.vw,U num,U z,acX ba bn bc,acX va d vc]:=by rw[b];have t:aZ (V.setCell (adZ g2 0) (U i.vw)) g2 228 #[U i.vw,U 0,U 0,(),()]:=y.fU 0 _;have T:aZ ((V.setCell (adZ g2 0) (U i.vw)).setCell (adZ g2 1) (U num)) g2 228 #[U i.vw,U num,U 0,(),()]:=t.fU 1 _;have l:aZ (((V.setCell (adZ g2 0) (U i.vw)).setCell (adZ g2 1) (U num)).setCell (adZ g2 2) (U z)) g2 228 #[U i.vw,U num,U z,(),()]:=T.fU 2 _;have m:aZ ((((V.setCell (adZ g2 0) (U i.vw)).setCell (adZ g2 1) (U num)).setCell (adZ g2 2) (U z)).setCell (adZ g2 3) (acX ba bn bc)) g2 228 #[U i.vw,U num,U z,acX ba bn bc,()]:=l.fU 3 _;exact m.fU 4 _
 have k:Be w w9:=by rw[b];exact((((j.setCell (p:=adZ g2 0) GE _).setCell (p:=adZ g2 1) GE _).setCell (p:=adZ g2 2) GE _).setCell (p:=adZ g2 3) GE _).setCell (p:=adZ g2 4) GE _
 clear b;go_wp2_with fail;refine bodyPost_ret (v:=acY #[U i.vw,U num,U z,acX ba bn bc,acX va d vc]) ?_ rfl ⟨rfl,k⟩;exact results_cell_row Tryz.results286 _ w9 g2 _ _ _ _ (by rfl) K underlying228 rfl (by kernel_rfl)
end
theorem set_mid{α:Type}(A B C:List α)(j:Nat)(v:α)(h:j<B.length):(A++(B++C)).set (A.length+j) v=A++(B.set j v++C):=by rw[iD _ _ aR,fG,jw _ _ h]
theorem rR{t:TypeId}{A B C:LV}(h:aZ w g t (A++(B++C)).toArray){o q:Nat}(H:A.length=o)(a:j<B.length)(b:q=o+j)(v:Value):aZ (w.setCell (adZ g q) v) g t (A++(B.set j v++C)).toArray:=by subst b;subst H;have:=h.fU (A.length+j) v;rw[<-set_mid A B C j v a];simpa using this
section
variable{x:Nat}{w w':World}{f:Int}{n:Nat}{num ahead:Int}{gi:Nat}{i:tJ}
theorem eU.open_row(h:eU x w f n num ahead gi i)(a:i.ps[k]?=some p): ∃A C:List Value,A.length=k*14/\aZ w i.gl 230 (A++(mH p++C)).toArray/\ ∀p':qm,(A++(mH p'++C)).toArray=((i.ps.set k p').flatMap mH++i.rest).toArray:=by
 obtain⟨H,e⟩:=ah.1 a;have key: ∀p':qm,(i.ps.take k).flatMap mH++(mH p'++((i.ps.drop (k+1)).flatMap mH++i.rest))=(i.ps.set k p').flatMap mH++i.rest:=fun p'=>by rw[iX,if_pos H];simp
 refine⟨(i.ps.take k).flatMap mH,(i.ps.drop (k+1)).flatMap mH++i.rest,?_,?_,fun p'=>by rw[key p']⟩
 ·rw[qj mH 14 tC,cO,fO aR]
 rw[key p,<-e,jg];exact h.row
theorem Jf(h:eU x w f n num ahead gi i)(k:Nat)(p:qm)(d:i.ps[k]?=some p)(b:i.on=true)(j:p.told=true)(z:Int)(l:z=(k:Int)+1)(hx:x<w.heap.size):
  Y 259 #[gi,U z] w fun e w'=>e=acK (ac2 #[acY #[U 0,U 0,U 0,(),()],false])/\Be w w':=by
 have s:k<16:=by have:=(ah.1 d).1;rw[h.len] at this;exact this
 obtain⟨H,o,I,r,q,c⟩:=j6 h d hx l j b;clear h d hx l j b;go_enter func259,ntmps259;go_upto_region 1 with fail;generalize hv1:w.alloc _=v1;generalize hg4:w.heap.size=g4;replace hv1:=hv1.symm;replace hg4:=hg4.symm;have X:=xNew hv1 hg4;have B:=tQ hv1;have GE:=F9 (w.heap.size<=g4) aR;have H1:=jj (H.below B);clear hv1 hg4;go_wp2_with fail;refine(wC H1 k s z r).mono ?_;rintro e w' ⟨rfl,rfl⟩;have L:J v1 i.gl (k*14+1) true:=by rw[<-q.out];exact H1.cell o 1 aR _ rfl
 have M:J v1 gi 4 true:=(H1.blk.cell 4).trans (by rw[<-c.out];rfl);have y:=X;have g:=B;have t:=y.out.at_ 0;have z0:=y.out.frozen 0;have u:=y.out.at_ 1;have Z:=y.out.frozen 1;have A:=y.out.at_ 2;have E:=y.out.frozen 2;have C:=y.out.at_ 3;have F:=y.out.frozen 3;have D:=y.out.at_ 4;have G:=y.out.frozen 4;go_wp2_with fail;obtain⟨w9,a⟩:=ex (setW v1 g4 0 [U 0,U 0,U 0,(),()]);have K:=uL a y.out;have O:=vM a;simp only[setW,aO,Nat.reduceAdd] at a;rw[<-a];clear a;have m:Be w w9:=O.below g.out g.out.size (mR GE.out);clear t u A C D z0 Z E F G;refine bodyPost_ret (v:=ac2 #[acY #[U 0,U 0,U 0,(),()],false]) ?_ rfl ⟨rfl,m⟩;exact(mV Tryz.results259 _ w9 g4 _ _ _ _ (by rfl) K underlying228 rfl (by kernel_rfl)).trans rfl
theorem Gu(h:eU x w f n num ahead gi i)(k:Nat)(p:qm)(g:i.ps[k]?=some p)(b:i.on=true)(m:p.told=false)(l:p.sl.has=false)(z:Int)(o:z=(k:Int)+1)(hx:x<w.heap.size):
  Y 259 #[gi,U z] w fun e w'=>e=acK (ac2 #[acY #[U 0,U 0,U 0,(),()],false])/\Be w w':=by
 have u:k<16:=by have:=(ah.1 g).1;rw[h.len] at this;exact this
 obtain⟨H,d,M,t,s,c⟩:=j6 h g hx o m b;have r:=jj l;clear h g hx o m b l;go_enter func259,ntmps259;go_upto_region 1 with fail;generalize hv1:w.alloc _=v1;generalize hg4:w.heap.size=g4;replace hv1:=hv1.symm;replace hg4:=hg4.symm;have X:=xNew hv1 hg4;have B:=tQ hv1;have GE:=F9 (w.heap.size<=g4) aR;have H1:=jj (H.below B);clear hv1 hg4;go_wp2_with fail;refine(wC H1 k u z t).mono ?_;rintro e w' ⟨rfl,rfl⟩;have N:J v1 i.gl (k*14) p.g:=H1.cell d 0 aR _ rfl;have P:J v1 i.gl (k*14+1) false:=by rw[<-s.out];exact H1.cell d 1 aR _ rfl
 have Q:J v1 gi 4 true:=(H1.blk.cell 4).trans (by rw[<-c.out];rfl);go_wp2_with fail;refine(OP (H1.at_ p (ak d)).slot r).mono ?_;rintro e w' ⟨rfl,rfl⟩;have y:=X;have j:=B;have A:=y.out.at_ 0;have z0:=y.out.frozen 0;have C:=y.out.at_ 1;have Z:=y.out.frozen 1;have D:=y.out.at_ 2;have G:=y.out.frozen 2;have E:=y.out.at_ 3;have I:=y.out.frozen 3;have F:=y.out.at_ 4;have L:=y.out.frozen 4;go_wp2_with fail;obtain⟨w9,a⟩:=ex (setW v1 g4 0 [U 0,U 0,U 0,(),()]);have K:=uL a y.out;have O:=vM a;simp only[setW,aO,Nat.reduceAdd] at a;rw[<-a];clear a;have q:Be w w9:=O.below j.out j.out.size (mR GE.out);clear A C D E F z0 Z G I L;refine bodyPost_ret (v:=ac2 #[acY #[U 0,U 0,U 0,(),()],false]) ?_ rfl ⟨rfl,q⟩;exact(mV Tryz.results259 _ w9 g4 _ _ _ _ (by rfl) K underlying228 rfl (by kernel_rfl)).trans rfl
theorem KJ(h:eU x w f n num ahead gi i)(k:Nat)(p:qm)(l:i.ps[k]?=some p)(c:i.on=true)(u:p.told=false)(t:p.sl.has=true)(O:1<=f)(Q:f<=4)(b:n<=13)(q:Nat)(r:(q:Int)=2*f+1)(s:qx q (p.sl.pr.map rC.val) p.sl.bs=none)(z:Int)(A:z=(k:Int)+1)(hx:x<w.heap.size):
  Y 259 #[gi,U z] w fun e w'=>e=acK (ac2 #[acY #[U 0,U 0,U 0,(),()],false])/\Be w w':=by
 have R:k<16:=by have:=(ah.1 l).1;rw[h.len] at this;exact this
 obtain⟨H,g,HX,I,G,d⟩:=j6 h l hx A u c;obtain⟨F,E,D⟩:=j3 t s r;clear s r h l hx A u c t;go_enter func259,ntmps259;go_upto_region 1 with fail;generalize hv1:w.alloc _=v1;generalize hg4:w.heap.size=g4;replace hv1:=hv1.symm;replace hg4:=hg4.symm;have X:=xNew hv1 hg4;have B:=tQ hv1;have GE:=F9 (w.heap.size<=g4) aR;have H1:=jj (H.below B);clear hv1 hg4;go_wp2_with fail;refine(wC H1 k R z I).mono ?_;rintro e w' ⟨rfl,rfl⟩;have L:J v1 i.gl (k*14) p.g:=H1.cell g 0 aR _ rfl;have M:J v1 i.gl (k*14+1) false:=by rw[<-G.out];exact H1.cell g 1 aR _ rfl
 have N:J v1 gi 4 true:=(H1.blk.cell 4).trans (by rw[<-d.out];rfl);have P:=jj (H1.at_ p (ak g));go_wp2_with fail;refine(Ga P.slot F O Q b P.short.b P.short.ps q D none E).mono ?_;rintro e W ⟨(⟨vs,a',k',c',m,S,rfl,ho⟩|⟨j,rfl⟩),hb⟩
 ·cases m
 clear j;have y:=jj (X.below hb X.lt);have o:=nO B hb;clear hb L M N;have V:=y.at_ 0;have z0:=y.frozen 0;have Z:=y.at_ 1;have z1:=y.frozen 1;have y2:=y.at_ 2;have z2:=y.frozen 2;have y3:=y.at_ 3;have z3:=y.frozen 3;have y4:=y.at_ 4;have z4:=y.frozen 4;go_wp2_with fail;obtain⟨w9,a⟩:=ex (setW W g4 0 [U 0,U 0,U 0,(),()]);have K:=uL a y;have T:=vM a;simp only[setW,aO,Nat.reduceAdd] at a;rw[<-a];clear a;have C:Be w w9:=T.below o o.size (mR GE.out);clear V Z y2 y3 y4 z0 z1 z2 z3 z4;refine bodyPost_ret (v:=ac2 #[acY #[U 0,U 0,U 0,(),()],false]) ?_ rfl ⟨rfl,C⟩;exact(mV Tryz.results259 _ w9 g4 _ _ _ _ (by rfl) K underlying228 rfl (by kernel_rfl)).trans rfl
theorem KD(h:eU x w f n num ahead gi i)(k:Nat)(p:qm)(b:i.ps[k]?=some p)(d:p.done=true)(z:Int)(g:z=(k:Int)+1)(hx:x<w.heap.size):
  Y 260 #[gi,U z] w fun e w'=>e=acK (ac2 #[acY #[U 0,U 0,U 0,(),()],false])/\Be w w':=by
 have q:k<16:=by have:=(ah.1 b).1;rw[h.len] at this;exact this
 obtain⟨H,l,F,o,m⟩:=j5 h b hx g d;clear h b hx g d;go_enter func260,ntmps260;go_upto_region 1 with fail;generalize hv1:w.alloc _=v1;generalize hg4:w.heap.size=g4;replace hv1:=hv1.symm;replace hg4:=hg4.symm;have X:=xNew hv1 hg4;have B:=tQ hv1;have GE:=F9 (w.heap.size<=g4) aR;have H1:=jj (H.below B);clear hv1 hg4;go_wp2_with fail;refine(wC H1 k q z o).mono ?_;rintro e w' ⟨rfl,rfl⟩;have G:J v1 i.gl (k*14+8) true:=by rw[<-m.out];exact H1.cell l 8 aR _ rfl
 have y:=X;have c:=B;have r:=y.out.at_ 0;have z0:=y.out.frozen 0;have s:=y.out.at_ 1;have Z:=y.out.frozen 1;have t:=y.out.at_ 2;have C:=y.out.frozen 2;have u:=y.out.at_ 3;have D:=y.out.frozen 3;have A:=y.out.at_ 4;have E:=y.out.frozen 4;go_wp2_with fail;obtain⟨w9,a⟩:=ex (setW v1 g4 0 [U 0,U 0,U 0,(),()]);have K:=uL a y.out;have O:=vM a;simp only[setW,aO,Nat.reduceAdd] at a;rw[<-a];clear a;have j:Be w w9:=O.below c.out c.out.size (mR GE.out);clear r s t u A z0 Z C D E;refine bodyPost_ret (v:=ac2 #[acY #[U 0,U 0,U 0,(),()],false]) ?_ rfl ⟨rfl,j⟩;exact(mV Tryz.results260 _ w9 g4 _ _ _ _ (by rfl) K underlying228 rfl (by kernel_rfl)).trans rfl
theorem Oe(h:eU x w f n num ahead gi i)(k:Nat)(p:qm)(o:i.ps[k]?=some p)(A:p.done=false)(O:1<=f)(Q:f<=4)(g:n<=13)(q:Nat)(t:(q:Int)=2*f+1)(u:mQ q (p.sl.co.map rC.val) (p.sl.co.map rC.val)=none)(z:Int)(C:z=(k:Int)+1)(hx:x<w.heap.size):
  Y 260 #[gi,U z] w fun e w'=>e=acK (ac2 #[acY #[U 0,U 0,U 0,(),()],false])/\Be w w':=by
 have R:k<16:=by have:=(ah.1 o).1;rw[h.len] at this;exact this
 obtain⟨H,j,I,K,G,F⟩:=j6 h o hx C A u;have E:=jj t;clear h o hx C A u t;go_enter func260,ntmps260;go_upto_region 1 with fail;generalize hv1:w.alloc _=v1;generalize hg4:w.heap.size=g4;replace hv1:=hv1.symm;replace hg4:=hg4.symm;have X:=xNew hv1 hg4;have B:=tQ hv1;have GE:=F9 (w.heap.size<=g4) aR;have H1:=jj (H.below B);clear hv1 hg4;go_wp2_with fail;refine(wC H1 k R z K).mono ?_;rintro e w' ⟨rfl,rfl⟩;have M:J v1 i.gl (k*14) p.g:=H1.cell j 0 aR _ rfl;have N:J v1 i.gl (k*14+8) false:=by rw[<-G.out];exact H1.cell j 8 aR _ rfl
 have P:=jj (H1.at_ p (ak j));go_wp2_with fail;refine(Eb P.slot O Q g P.short.cs (aB I B.size) q E none F).mono ?_;rintro e W ⟨(⟨b,vs,a,m,c,a',k',c',r,_,_,S,rfl,ho,T⟩|⟨l,rfl⟩),hb⟩
 ·cases r
 clear l;have y:=jj (X.below hb X.lt);have s:=nO B hb;clear hb M N;have Z:=y.at_ 0;have z0:=y.frozen 0;have y1:=y.at_ 1;have z1:=y.frozen 1;have y2:=y.at_ 2;have z2:=y.frozen 2;have y3:=y.at_ 3;have z3:=y.frozen 3;have y4:=y.at_ 4;have z4:=y.frozen 4;go_wp2_with fail;obtain⟨w9,d⟩:=ex (setW W g4 0 [U 0,U 0,U 0,(),()]);have L:=uL d y;have V:=vM d;simp only[setW,aO,Nat.reduceAdd] at d;rw[<-d];clear d;have D:Be w w9:=V.below s s.size (mR GE.out);clear Z y1 y2 y3 y4 z0 z1 z2 z3 z4;refine bodyPost_ret (v:=ac2 #[acY #[U 0,U 0,U 0,(),()],false]) ?_ rfl ⟨rfl,D⟩;exact(mV Tryz.results260 _ w9 g4 _ _ _ _ (by rfl) L underlying228 rfl (by kernel_rfl)).trans rfl
theorem KF(h:eU x w f n num ahead gi i)(k:Nat)(p:qm)(b:i.ps[k]?=some p)(d:p.done=false)(z:Int)(g:z=(k:Int)+1)(hx:x<w.heap.size):
  Y 174 #[gi,U z] w fun e w'=>e=acK (ac2 #[acY #[U 0,U 0,U 0,(),()],false])/\Be w w':=by
 have q:k<16:=by have:=(ah.1 b).1;rw[h.len] at this;exact this
 obtain⟨H,l,F,o,m⟩:=j5 h b hx g d;clear h b hx g d;go_enter func174,ntmps174;go_upto_region 1 with fail;generalize hv1:w.alloc _=v1;generalize hg4:w.heap.size=g4;replace hv1:=hv1.symm;replace hg4:=hg4.symm;have X:=xNew hv1 hg4;have B:=tQ hv1;have GE:=F9 (w.heap.size<=g4) aR;have H1:=jj (H.below B);clear hv1 hg4;go_wp2_with fail;refine(wC H1 k q z o).mono ?_;rintro e w' ⟨rfl,rfl⟩;have G:J v1 i.gl (k*14+8) false:=by rw[<-m.out];exact H1.cell l 8 aR _ rfl
 have y:=X;have c:=B;have r:=y.out.at_ 0;have z0:=y.out.frozen 0;have s:=y.out.at_ 1;have Z:=y.out.frozen 1;have t:=y.out.at_ 2;have C:=y.out.frozen 2;have u:=y.out.at_ 3;have D:=y.out.frozen 3;have A:=y.out.at_ 4;have E:=y.out.frozen 4;go_wp2_with fail;obtain⟨w9,a⟩:=ex (setW v1 g4 0 [U 0,U 0,U 0,(),()]);have K:=uL a y.out;have O:=vM a;simp only[setW,aO,Nat.reduceAdd] at a;rw[<-a];clear a;have j:Be w w9:=O.below c.out c.out.size (mR GE.out);clear r s t u A z0 Z C D E;refine bodyPost_ret (v:=ac2 #[acY #[U 0,U 0,U 0,(),()],false]) ?_ rfl ⟨rfl,j⟩;exact(mV Tryz.results174 _ w9 g4 _ _ _ _ (by rfl) K underlying228 rfl (by kernel_rfl)).trans rfl
end
section
variable{w w':World}{gt:Nat}{f cl:Int}{T:List oO}{S:LN}
theorem Bf{d d':oO}(h:T[k]?=some d)(a:j<21)(H:xW d'=(xW d).set j v):(T.flatMap xW).set (k*21+j) v=(T.set k d').flatMap xW:=by
 obtain⟨b,e⟩:=ah.1 h;have key: ∀p:oO,(T.take k).flatMap xW++(xW p++(T.drop (k+1)).flatMap xW)=(T.set k p).flatMap xW:=fun p=>by rw[iX,if_pos b];simp
 have l:((T.take k).flatMap xW).length=k*21:=by rw[qj xW 21 He,cO,fO aR]
 rw[<-key d',H,<-set_mid _ _ _ j v (by rw[He];exact a),l,key d,<-e,jg]
def oO.tell(d:oO)(j:Nat):oO:={d with nX:=fun i=>if i=j then true else d.nX i}
theorem JV(d:oO)(j:Nat)(h:j<13):xW (d.tell j)=(xW d).set (6+j) true:=by
 match j,h with
 |0,_|1,_|2,_|3,_|4,_|5,_|6,_|7,_|8,_|9,_|10,_|11,_|12,_=>rfl
def oO.count(d:oO):Nat:=Tok.count [d.nX 0,d.nX 1,d.nX 2,d.nX 3,d.nX 4,d.nX 5,d.nX 6,d.nX 7,d.nX 8,d.nX 9,d.nX 10,d.nX 11,d.nX 12]
def oO.told(d:oO)(f:Int)(j:Nat)(c:Int):oO:=if d.ready=false/\f+1<=((d.tell j).count:Int) then{d.tell j with ready:=true,since:=c} else d.tell j
theorem YE(h:TabAt w gt f cl T S)(h1:1<=f)(h4:f<=4)(hT:T.length<=64)(r:Rq)(hr:0<=r.1/\r.1<cl)(k:Nat)(ha:AtR T r k true)(d:oO)(hd:T[k]?=some d)(j:Nat)(hj:(j:Int)<=3*f)(hn:d.nX j=false)(c:Int):
  Y 215 #[gt,Kh r,U j,U c] w fun e w'=>e=acK (ac2 #[false,(!d.ready&&decide (f+1<=((d.tell j).count:Int))),U 0])/\TabAt w' gt f cl (T.set k (d.told f j c)) S/\Only S w w':=by
 have HD:=jj hd;clear hd;obtain⟨H,HA,HN⟩:=j3 h ha hn;obtain⟨y0,y1,y2,y3,y4,y5⟩:=r;simp only at hr;obtain⟨a0,C,-,t,-⟩:=h.ex;obtain⟨n0,E⟩:=ex T.length;rw[<-E] at t hT;have m:=jj E;have BT:=jj t;clear h ha t E;show Y 215 #[gt,acY #[U y0,U y1,U y2,U y3,U y4,U y5],U j,U c] w _;go_enter func215,ntmps215;go_upto_region 1 with fail;generalize hw1:w.alloc _=w1;generalize hg5:w.heap.size=g5;replace hw1:=hw1.symm;replace hg5:=hg5.symm;obtain⟨B1,BX⟩:=nw hw1 hg5;have M:=jj (BT.below B1 BT.lt);clear hw1 hg5;have i1: ¬y0<0:=aR;have i2: ¬cl<=y0:=aR;have i3:(0:Int)<=j:=aR;have i4: ¬(j:Int)<0:=aR;have i5: ¬3*f+1<=(j:Int):=aR;have x0:=BX.drew.at_ 0;have x1:=M.drew.at_ 1;have x2:=M.drew.at_ 0;refine qI (fun w'=>J w' g5 0 (U y0)/\J w' gt 1 (U cl)/\J w' gt 0 (U f)) 25 (tk 0 25 .done) (by kernel_rfl) (by kernel_rfl) (by kernel_rfl) ⟨x0,x1,x2⟩ ?_;intro l
 repeat(first|refine' uT ?_|refine' uS ?_)
 refine pR _ _ rfl (by rfl) (by assumption) (fun w=>by go_simp;try exact⟨rfl,rfl⟩) (fun w f0=>(oC f w h1 h4)) ?_;try simp only[Nw]
 repeat(first|refine' uT ?_|refine' uS ?_)
 refine qO ?_;clear l x0 x1 x2;obtain⟨b0,n⟩:=ex w1.drew;rw[<-n];have L:=F9 (Be w b0) (by rw[n];exact B1.drew);have D:=F9 (aZ b0 g5 49 #[U y0,U y1,U y2,U y3,U y4,U y5]) (by rw[n];exact BX.drew);clear n;obtain⟨d0,Q,d2,d3,d4,d5⟩:=D.a6;go_wp2_with fail;refine(JR (H.below L) (by rw[<-m.out];exact hT) (y0,y1,y2,y3,y4,y5) k HA.le HA.lo true HA.hi).mono ?_;rintro e w2 ⟨rfl,q⟩;have B2:=nO L q;have H2:=jj (H.below B2);have B:=jj (BT.below B2 BT.lt);have h0:=jj (D.below q D.lt);clear q d0 Q d2 d3 d4 d5;obtain⟨g,cap',hS,V,A,u⟩:=H2.line HD;obtain⟨rfl,rfl⟩:a0=some ⟨g,0,none⟩/\C=cap':=by have e1:=B.cell 2;have K:=V.cell 2;rw[e1] at K;simp at K;exact⟨K.1,K.2.2⟩
 have N:=jj hS;have hk:k<n0:=by rw[m.out];exact(ah.1 HD).1
 have I:j<13:=aR;have m0:(0:Int)<=k:=aR;have ik:(k:Int)<n0:=aR;have c2:=B.at_ 2;have cb:J w2 g (k*21+6+j) false:=by
  rw[dL,<-HN.out];refine u (6+j) _ aR ?_
  match j,I with
  |0,_|1,_|2,_|3,_|4,_|5,_|6,_|7,_|8,_|9,_|10,_|11,_|12,_=>rfl
 have R2:=jj A;clear u A V hS;go_wp2_with fail;refine(RI _ g (k*21+6) j I (j:Int) rfl cb (R2.frozen _)).mono ?_;rintro e W ⟨rfl,F⟩;have T3:=F9 (Row W g 356 21 T.length C ((T.set k (d.tell j)).flatMap xW)) (by rw[F,<-Bf HD aR (JV d j I),<-dL];exact R2.fU (k*21+6+j) true)
 have O3:=F9 (Only [g] w2 W) (by rw[F];exact(Only.refl [g] _).setCell (.inl bJ) _);have NE:=F9 (gt≠g) (fun e=>by have:=R2.ne B aV;exact this e.symm);have x:=jj (B.only O3 (mR NE.out));have H3:=F9 (TabAt W gt f cl (T.set k (d.tell j)) S) ⟨some (adZ g 0),C,by simpa using N.out,by rw[bG,<-m.out];exact x.out,by rw[bG];exact T3.out⟩;have e0:=F9 ((T.set k (d.tell j))[k]?=some (d.tell j)) (aL (by rw[<-m.out];exact hk));have L3: ∀i v,i<21->(xW (d.tell j))[i]?=some v->J W g (k*21+i) v:=fun i v hi hv=>T3.cell (nT xW 21 He _ k i hi (by rw[bG,<-m.out];exact hk) v (by rw[List.getElem_set_self];exact hv));have a:=jj L3;have O:=F9 (Only [g] w W) ((Only.of_below B2).trans O3);clear F c2 cb;go_upto_region 19 with fail;obtain⟨cn,X⟩:=ex ((d.tell j).count);have s:=jj X;obtain⟨rd,Z⟩:=ex d.ready;have p:=jj Z;clear X Z;have KS: ∀w',Be W w'->J w' g (k*21+19) rd/\J w' gt 0 (U f):=fun w' o=>⟨kept o _ _ (by rw[p.out];exact a.out 19 _ aR rfl),kept o _ _ (x.cell 0)⟩;refine qI (fun w'=>J w' g (k*21+19) rd/\J w' gt 0 (U f)) 17 (tk 0 9 (tk 10 4 (.one 9 (tk 14 3 .done)))) (by kernel_rfl) (by kernel_rfl) (by kernel_rfl) (KS _ (aC _ _).drew) ?_;intro l
 cases rd with
 |true=>
  have P:=F9 (d.told f j c=d.tell j) (if_neg (fun h=>by have:=p.out;rw[h.1] at this;cases this))
  repeat(first|refine' uT ?_|refine' uS ?_)
  try(refine yJ rfl (fun KT bq=> ?_);go_simp;refine oH bq l ?_)
  repeat(first|refine' uT ?_|refine' uS ?_)
  refine qO ?_;clear l;go_wp2_with fail;go_ret3
  rw[P.out];exact⟨by rw[<-p.out];first|rfl|trivial,H3.below (aC _ _).drew,(O.mono (fun b q=> .inl (by simp only[au] at q;rw[N.out,q];simp))).drew⟩
 |false=>
  repeat(first|refine' uT ?_|refine' uS ?_)
  refine yJ rfl (fun KT bq=> ?_);go_simp;refine(acp W.drew g (k*21+6) ((d.tell j).nX 0) ((d.tell j).nX 1) ((d.tell j).nX 2) ((d.tell j).nX 3) ((d.tell j).nX 4) ((d.tell j).nX 5) ((d.tell j).nX 6) ((d.tell j).nX 7) ((d.tell j).nX 8) ((d.tell j).nX 9) ((d.tell j).nX 10) ((d.tell j).nX 11) ((d.tell j).nX 12) ((a.out 6 _ aR rfl)) ((a.out 7 _ aR rfl)) ((a.out 8 _ aR rfl)) ((a.out 9 _ aR rfl)) ((a.out 10 _ aR rfl)) ((a.out 11 _ aR rfl)) ((a.out 12 _ aR rfl)) ((a.out 13 _ aR rfl)) ((a.out 14 _ aR rfl)) ((a.out 15 _ aR rfl)) ((a.out 16 _ aR rfl)) ((a.out 17 _ aR rfl)) ((a.out 18 _ aR rfl))).mono ?_;rintro e w4 ⟨rfl,R⟩;rw[show Tok.count [(d.tell j).nX 0,(d.tell j).nX 1,(d.tell j).nX 2,(d.tell j).nX 3,(d.tell j).nX 4,(d.tell j).nX 5,(d.tell j).nX 6,(d.tell j).nX 7,(d.tell j).nX 8,(d.tell j).nX 9,(d.tell j).nX 10,(d.tell j).nX 11,(d.tell j).nX 12]=cn from s.symm];have z:=jj ((aC W.heap.size W).drew.trans R);clear R;have S4:=KS _ z;refine oH bq S4 ?_;clear l;have l:=S4
  repeat(first|refine' uT ?_|refine' uS ?_)
  refine pR _ _ rfl (by rfl) (by assumption) (fun w=>by go_simp;try exact⟨rfl,rfl⟩) (fun w f0=>(UR f w h1 h4)) ?_;try simp only[Nw]
  by_cases y:f+1<=(cn:Int)
  ·have Q:decide (f+1<=(cn:Int))=true:=decide_eq_true y
   have P:=F9 (d.told f j c={d.tell j with ready:=true,since:=c}) (if_pos ⟨p.symm,by rw[<-s.out];exact y⟩)
   repeat(first|refine' uT ?_|refine' uS ?_)
   refine qO ?_;clear l;have T4:=jj (T3.below z);have c0:=jj (x.below z x.lt);have i0:J w4 g (k*21+19) false:=(KS _ z).1;have j0:J w4 g (k*21+20) (U d.since):=kept z _ _ (a.out 20 _ aR rfl);have k0:=T4.frozen (k*21+19);have l0:=T4.frozen (k*21+20);go_wp2_with fail;go_ret3
   rw[P.out];obtain⟨w9,G⟩:=ex ((w4.setCell (adZ g (k*21+19)) true).setCell (adZ g (k*21+20)) (U c));rw[<-G];have o9:Only [g] w4 w9:=by rw[G];exact((Only.refl [g] _).setCell (.inl bJ) _).setCell (.inl bJ) _
   have r9:Row w9 g 356 21 T.length C ((T.set k {d.tell j with ready:=true,since:=c}).flatMap xW):=by have t1:=(T4.fU (k*21+19) true).fU (k*21+20) (U c);rw[<-G] at t1;have e1:=Bf (d':={d.tell j with ready:=true}) (v:= .bool true) e0 (show 19<21 by omega) rfl;have g0:((T.set k (d.tell j)).set k {d.tell j with ready:=true})[k]?=some {d.tell j with ready:=true}:=aL (by rw[bG,<-m.out];exact hk);have K:=Bf (d':={d.tell j with ready:=true,since:=c}) (v:= U c) g0 (show 20<21 by omega) rfl;rw[e1,K] at t1;simpa using t1
   refine⟨by rw[<-p.out,<-s.out,Q];first|rfl|trivial,⟨some (adZ g 0),C,by simpa using N.out,by rw[bG,<-m.out];exact c0.only o9 (mR NE.out),by rw[bG];exact r9⟩,?_⟩;exact((O.belows z).trans o9).mono (fun b q=> .inl (by simp only[au] at q;rw[N.out,q];simp))
  have Q:decide (f+1<=(cn:Int))=false:=decide_eq_false y;have P:=F9 (d.told f j c=d.tell j) (if_neg (fun h=>y (by rw[s.out];exact h.2)))
  repeat(first|refine' uT ?_|refine' uS ?_)
  refine qO ?_;clear l;go_wp2_with fail;go_ret3
  rw[P.out];exact⟨by rw[<-p.out,<-s.out,Q];first|rfl|trivial,H3.below z,(O.belows z).mono (fun b q=> .inl (by simp only[au] at q;rw[N.out,q];simp))⟩
end
section
variable{P:Program}
theorem Rn(w:World)(e k t elem:TypeId)(d a:OA)(D b s c S:Nat)(j:P.underlying e=some (.slice elem))(g:(P.info? elem).map (·.size)=some S)(f:Nat.min s D=0):
  (Builtin.copy_ #[e,k] t #[.slice d D b,.slice a s c]).run P w= .ok (goInt 0) w:=by
 cases h:P.info? elem with
 |none=>simp[h] at g
 |some i=>
  have H: ∀(x:Addr),(loadCells x 0).run P w= .ok #[] w:=fun x=>by simpa using run_loadCells_list (P:=P) w x [] bJ
  cases d<;>cases a<;>simp[Builtin.copy_,run_underlying j,Builtin.lenOf,Builtin.firstCells,sizeOf,typeInfo,h,f,storeCells,H]
theorem DY{t:TypeId}: ∀(vs:LV) (o:Nat) (w:World) (L:LV),Row w g t s n cap L->Row (w.setCells g o vs) g t s n cap (setMany L o vs)
 | [],_,_,_,h=>h
 |v::vs,o,w,L,h=>DY vs (o+1) _ _ (h.fU o v)
theorem Al(hg:g∈S): ∀(vs:LV) (o:Nat) (a w:World),Only S a w->Only S a (w.setCells g o vs)
 | [],_,_,_,h=>h
 |v::vs,o,a,w,h=>Al hg vs (o+1) a _ (h.setCell (.inl hg) v)
end
section
variable{w w':World}{gt:Nat}{f cl:Int}{T:List oO}{S:LN}
theorem OQ     {a:Act}    (g:o.guard=none) (d s:Operand) (f k:TypeId)
  (p:o.op= .call {callee:= .builtin .copy,args:=#[d,s],argTypes:=#[f,k]}) (elem:TypeId) (r:P.underlying f=some (.slice elem)) (S:Nat) (i:(P.info? elem).map (·.size)=some S)
  (j l:OA) (D c b e:Nat) (m:a.eval d= .slice j D c) (q:a.eval s= .slice l b e) (n:Nat.min b D=0)
  (h:K (a.put o.dst (goInt 0)) w):if Region.wanted o (yielded ops a.tmps)=true then Oper.wp P o a w K Q else E:=by
 have t:Region.wanted o (yielded ops a.tmps)=true:=by simp[Region.wanted,g]
 rw[if_pos t];have H:=Rn (P:=P) w f k o.type elem j l D c b e S r i n;unfold Oper.wp;simp[execOp,p,resolve,invoke,builtin,m,q,H,Result.andThen];exact h
theorem JN     {a:Act}    (H:o.guard=none) (t:TypeId) (x y:Operand) (e:o.op= .store t x y)
  (b q:Nat) (cells:AV) (hx:a.eval x= .pointer (some (adZ b q))) (i:a.eval y=acY cells) (f:w.there b q cells.size) (d:(P.info? t).map (·.size)=some cells.size) (c:cells.all (·.oneCell')=true)
  (h:K (a.put o.dst undef) (w.setCells b q cells.toList)):if Region.wanted o (yielded ops a.tmps)=true then Oper.wp P o a w K Q else E:=by
 have g:Region.wanted o (yielded ops a.tmps)=true:=by simp[Region.wanted,H]
 rw[if_pos g];exact wp_store_mid t x y e b q cells hx i f d c h
theorem Nc(w:World):(sizeOf 356).run prog w= .ok 21 w:=by obtain⟨i,z,h,_,H,_⟩:=zq;simp[sizeOf,typeInfo,h,H]
def GK(r:Rq):oO:=⟨r,fun _=>false,false,0⟩
theorem UN(h:TabAt w gt f cl T S)(h1:1<=f)(h4:f<=4)(G:T= [])(r:Rq)(hr:0<=r.1/\r.1<cl)(j:Nat)(hj:(j:Int)<=3*f)(c:Int):
  Y 215 #[gt,Kh r,U j,U c] w fun e w'=>e= .returned (.tuple #[true,false,U 0])/\ ∃S',TabAt w' gt f cl [(GK r).tell j] S'/\Only S w w'/\ ∀b∈S',b∈S\/w.heap.size<=b:=by
 obtain⟨i0,zi,C0,D0,E0,P0,Q0⟩:=zq;obtain⟨k,j0⟩: ∃k:Nat,k=0:=⟨_,rfl⟩;have ha:AtR T r k false:=⟨aR,fun q d hq _=>by omega,.inr ⟨rfl,by rw[j0,G];rfl⟩⟩;have hT:T.length<=64:=by rw[G];simp
 have v0:=jj G;have E:=jj j0;have hn:=G;have H:=jj h;have HA:=jj ha;obtain⟨y0,y,p,x,z,A⟩:=r;simp only at hr;obtain⟨a0,w0,l,I,R⟩:=h.ex;have c0:=jj l;have K0:=jj R;clear l R;obtain⟨n0,k0⟩:=ex T.length;rw[<-k0] at I hT;have u0:=jj k0;have BT:=jj I;clear h ha I k0 hn G j0;show Y 215 #[gt,.agg #[U y0,U y,U p,U x,U z,U A],U j,U c] w _;go_enter func215,ntmps215;go_upto_region 1 with fail;generalize hw1:w.alloc _=w1;generalize hg5:w.heap.size=g5;replace hw1:=hw1.symm;replace hg5:=hg5.symm;obtain⟨B1,BX⟩:=nw hw1 hg5;have p0:=jj (BT.below B1 BT.lt);clear hw1 hg5;have i1: ¬y0<0:=aR;have i2: ¬cl<=y0:=aR;have i3:(0:Int)<=j:=aR;have i4: ¬(j:Int)<0:=aR;have i5: ¬3*f+1<=(j:Int):=aR;have x0:=BX.drew.at_ 0;have x1:=p0.drew.at_ 1;have x2:=p0.drew.at_ 0;refine qI (fun w'=>J w' g5 0 (U y0)/\J w' gt 1 (U cl)/\J w' gt 0 (U f)) 25 (tk 0 25 .done) (by kernel_rfl) (by kernel_rfl) (by kernel_rfl) ⟨x0,x1,x2⟩ ?_;intro l
 repeat(first|refine' uT ?_|refine' uS ?_)
 refine pR _ _ rfl (by rfl) (by assumption) (fun w=>by go_simp;try exact⟨rfl,rfl⟩) (fun w M0=>(oC f w h1 h4)) ?_;try simp only[Nw]
 repeat(first|refine' uT ?_|refine' uS ?_)
 refine qO ?_;clear l x0 x1 x2;obtain⟨F0,B⟩:=ex w1.drew;rw[<-B];have o0:=F9 (Be w F0) (by rw[B];exact B1.drew);have Z:=F9 (aZ F0 g5 49 #[U y0,U y,U p,U x,U z,U A]) (by rw[B];exact BX.drew);clear B;obtain⟨d0,D,d2,d3,d4,d5⟩:=Z.a6;go_wp2_with fail;refine(JR (H.below o0) (by rw[<-u0.out];exact hT) (y0,y,p,x,z,A) k HA.le HA.lo false HA.hi).mono ?_;rintro e w2 ⟨rfl,m⟩;have B2:=nO o0 m;have H2:=jj (H.below B2);have q0:=jj (BT.below B2 BT.lt);have G0:=jj (Z.below m Z.lt);clear m d0 D d2 d3 d4 d5;have N0:=F9 (n0=0) (by rw[u0.out,v0.out];rfl);have c2:=q0.at_ 2;have U0: ¬(0:Int)<(n0:Int):=by have:=N0.out;omega
 go_wp2_with fail;go_loopw [13,55] (fun u q wr=>u= U 0/\q= U 0/\wr=w2) (fun _ _ _=>0)
 case atStart=>exact⟨rfl,rfl,rfl⟩
 case round=>
  obtain⟨rfl,rfl,rfl⟩:=hrel;have f0:=F9 (wr.ownsRow 0 356 21 (.slice a0 n0 w0) n0 []) (by have:=own_below K0 B2;rw[v0.out] at this;rw[N0.out];exact this)
  have ZO:=F9 (∀v∈([U 0,U 0,U 0,U 0,U 0,U 0,false,false,false,false,false,false,false,false,false,false,false,false,false,false,U 0]:LV),v.oneCell'=true) (by simp only[ay,aI,or_false];intro v hv;rcases hv with rfl|rfl|rfl|rfl|rfl|rfl|rfl|rfl|rfl|rfl|rfl|rfl|rfl|rfl|rfl|rfl|rfl|rfl|rfl|rfl|rfl<;>rfl);have nl:n0<=64:=hT
  go_upto_region 15 with(first
   |(refine zu rfl 231 1 _ rfl #[(0,.agg (#[U 0,U 0,U 0,U 0,U 0,U 0,false,false,false,false,false,false,false,false,false,false,false,false,false,false,U 0]:AV))] (by go_simp) _ (EH (P:=prog) 231 356 i0 zi 21 underlying231 C0 D0 E0 aR aR (#[U 0,U 0,U 0,U 0,U 0,U 0,false,false,false,false,false,false,false,false,false,false,false,false,false,false,U 0]:AV) rfl wr) ?_;try simp only[Act.put])
   |(at_builtin;refine fD rfl _ _ _ rfl 0 356 i0 zi 21 72 underlying231 C0 D0 E0 P0 Q0 aR a0 n0 w0 [] rfl (own_below f0 nC) (some ⟨wr.heap.size,0,none⟩) 1 1 ([U 0,U 0,U 0,U 0,U 0,U 0,false,false,false,false,false,false,false,false,false,false,false,false,false,false,U 0]:LV) rfl (gD.nR (n:=1) (s:=21) (aZ.new wr 356 (#[U 0,U 0,U 0,U 0,U 0,U 0,false,false,false,false,false,false,false,false,false,false,false,false,false,false,U 0]:AV)) rfl) ZO (by unfold maxLen;omega) aR (bF _) ?_;intro a6 F w6 h6;have H6:=jj h6;have K6:=h6.ZT (own_below f0 nC) (q0.alloc (.cells (#[U 0,U 0,U 0,U 0,U 0,U 0,false,false,false,false,false,false,false,false,false,false,false,false,false,false,U 0]:AV) 356)) aV;have e0:=jj K6;have x6:=K6.cell 2;have f6:=K6.frozen 2;clear h6 K6))
  have g0:=H6.own;have n1:n0+1=1:=by rw[N0.out]
  have zk:(k:Int)=0:=by rw[E.out];rfl
  rw[n1,bU] at g0;rw[n1];obtain⟨ga,O0⟩: ∃ga,a6=some ⟨ga,0,none⟩:=by
   rcases g0.2 with⟨hv,h0⟩|⟨g,cp,T0,hv,_⟩
   ·cases h0
   injection hv with e1;exact⟨g,e1⟩
  subst O0;have I0:=jj H6.at_;have b0:=jj H6.only;obtain⟨w7,M⟩:=ex (w6.setCell ⟨gt,2,none⟩ (O ga 1 F));rw[<-M];have o7:Only [gt] w6 w7:=by rw[M];exact(Only.refl [gt] _).setCell (.inl bJ) _
  have X:=F9 (aZ w7 gt 233 #[U f,U cl,O ga 1 F]) (by rw[M];have:=e0.fU 2 (O ga 1 F);exact this);have R7:=F9 (Row w7 ga 356 21 1 F ([U 0,U 0,U 0,U 0,U 0,U 0,false,false,false,false,false,false,false,false,false,false,false,false,false,false,U 0]:LV)) (Row.sG (gH g0 o7 e0 aV));have t0:=F9 (aZ w6 g5 49 #[U y0,U y,U p,U x,U z,U A]) (H6.ZT (own_below f0 nC) (G0.alloc (.cells (#[U 0,U 0,U 0,U 0,U 0,U 0,false,false,false,false,false,false,false,false,false,false,false,false,false,false,U 0]:AV) 356)) aV);have C:=jj (t0.only o7 (mR (t0.nY e0 aV)));have O7:=jj o7;clear M o7 x6 f6 c2;go_upto_region 15 with fail;obtain⟨A1,R0,-⟩:=aax (P:=prog) (T:=231) (R7) underlying231 (by kernel_rfl) Nc 1 aR (1:Int) rfl;obtain⟨A2,S0,-⟩:=aax (P:=prog) (T:=231) (R7) underlying231 (by kernel_rfl) Nc 0 aR (k:Int) zk;have ek:IntKind.i64.wrap ((k:Int)+1)=1:=by rw[zk];rfl
  have ZK:=jj zk;clear zk;refine rP (fun w'=>J w' gt 2 (O ga 1 F)) 14 (tk 0 13 (.one 13 .done)) (X.drew.cell 2) ?_;intro l
  repeat refine' tT ?_
  refine pO fun KT bq=> ?_;refine OQ (by rfl) (.tmp 86) (.tmp 92) _ _ (by rfl) 356 underlying231 21 (by kernel_rfl) _ _ _ _ _ _ (by rfl) (by rfl) (by rfl) ?_;refine oH bq l ?_;refine aU ?_;clear l R0 S0 ek;have V0:(0:Int)<=k:=aR;have W0:(k:Int)<1:=by have:=ZK.out;omega
  go_upto_region 16 with fail;refine rP (fun w'=>J w' gt 2 (O ga 1 F)/\J w' g5 0 (U y0)/\J w' g5 1 (U y)/\J w' g5 2 (U p)/\J w' g5 3 (U x)/\J w' g5 4 (U z)/\J w' g5 5 (U A)) 8 (tk 0 8 (.one 8 .done)) ⟨X.drew.drew.cell 2,C.drew.drew.cell 0,C.drew.drew.cell 1,C.drew.drew.cell 2,C.drew.drew.cell 3,C.drew.drew.cell 4,C.drew.drew.cell 5⟩ ?_;intro l
  repeat refine' tT ?_
  obtain⟨V,L⟩:=ex w7.drew.drew;have RV:=F9 (Row V ga 356 21 1 F ([U 0,U 0,U 0,U 0,U 0,U 0,false,false,false,false,false,false,false,false,false,false,false,false,false,false,U 0]:LV)) (by rw[L];exact R7.drew.drew);have s0:=F9 (aZ V gt 233 #[U f,U cl,O ga 1 F]) (by rw[L];exact X.drew.drew);have OV:=F9 (Only [gt] w6 V) (by rw[L];exact O7.drew.drew);rw[<-L] at l|-;clear L;have TH:=F9 (V.there ga (k*21) ((#[U y0,U y,U p,U x,U z,U A,.bool false,.bool false,.bool false,.bool false,.bool false,.bool false,.bool false,.bool false,.bool false,.bool false,.bool false,.bool false,.bool false,.bool false,U 0]:AV)).size) (fun q hq=>by have l0:q<21:=hq;refine⟨?_,RV.frozen _⟩;rw[E.out,fI,aO];have hl:q<(([U 0,U 0,U 0,U 0,U 0,U 0,false,false,false,false,false,false,false,false,false,false,false,false,false,false,U 0]:LV)).length:=l0;rw[RV.cell (aj hl)];rfl)
  refine pL fun KT bq=> ?_;refine JN (by rfl) 356 (.tmp 101) (.tmp 100) (by rfl) ga (k*21) (#[U y0,U y,U p,U x,U z,U A,false,false,false,false,false,false,false,false,false,false,false,false,false,false,U 0]:AV) (by rfl) (by rfl) TH (by kernel_rfl) (all_oneCell_toArray (cs:=xW (GK (y0,y,p,x,z,A))) (mR (xq [GK (y0,y,p,x,z,A)]))) ?_;refine bq.out _ _ ?_
  try simp only[Act.put]
  refine aU ?_;obtain⟨w8,N⟩:=ex (V.setCells ga (k*21) (xW (GK (y0,y,p,x,z,A))));change Exit.then _ _ _ _ (V.setCells ga (k*21) (xW (GK (y0,y,p,x,z,A))));rw[<-N];have R8:=F9 (Row w8 ga 356 21 1 F ([GK (y0,y,p,x,z,A)].flatMap xW)) (by
   have t:=DY (xW (GK (y0,y,p,x,z,A))) (k*21) V _ RV;have e:setMany ([U 0,U 0,U 0,U 0,U 0,U 0,false,false,false,false,false,false,false,false,false,false,false,false,false,false,U 0]:LV) (k*21) (xW (GK (y0,y,p,x,z,A)))= [GK (y0,y,p,x,z,A)].flatMap xW:=by rw[E.out,fI];have:=zh (xW (GK (y0,y,p,x,z,A))) ([U 0,U 0,U 0,U 0,U 0,U 0,false,false,false,false,false,false,false,false,false,false,false,false,false,false,U 0]:LV) [] rfl;simpa using this
   rw[e] at t;rw[N];exact t)
  have O8:=F9 (Only [ga] V w8) (by rw[N];exact Al bJ _ _ _ _ (Only.refl [ga] _));have NE:=F9 (gt≠ga) (fun e=>by have:=RV.ne s0 aV;exact this e.symm);have r0:=jj (s0.only O8 (mR NE.out));clear N l;have Q:j<13:=aR;have c2:=r0.at_ 2;have cb:J w8 ga (k*21+6+j) false:=by
   rw[E.out,fI,aO];refine R8.cell ?_
   match j,Q with
   |0,_|1,_|2,_|3,_|4,_|5,_|6,_|7,_|8,_|9,_|10,_|11,_|12,_=>rfl
  go_wp2_with fail;refine(RI _ ga (k*21+6) j Q (j:Int) rfl cb (R8.frozen _)).mono ?_;rintro e w3 ⟨rfl,m0⟩;obtain⟨D,K⟩:=ex ((GK (y0,y,p,x,z,A)).tell j);have T3:=F9 (Row w3 ga 356 21 1 F ([D].flatMap xW)) (by have e:=Bf (T:= [GK (y0,y,p,x,z,A)]) (k:=0) (j:=6+j) rfl aR (JV (GK (y0,y,p,x,z,A)) j Q);rw[<-K] at e;have t:=R8.fU (k*21+6+j) true;rw[<-m0,E.out,dL,e] at t;exact t)
  have H0:=F9 (D.count=1) (by
   rw[K]
   match j,Q with
   |0,_|1,_|2,_|3,_|4,_|5,_|6,_|7,_|8,_|9,_|10,_|11,_|12,_=>rfl)
  have RD:=F9 (D.ready=false) (by rw[K];rfl);have J0:=jj K;have O3:=F9 (Only [ga] w8 w3) (by rw[m0];exact(Only.refl [ga] _).setCell (.inl bJ) _);have W:=jj (r0.only O3 (mR NE.out));have L3: ∀i v,(xW D)[i]?=some v->J w3 ga (k*21+i) v:=fun i v hv=>by rw[E.out,fI,aO];exact T3.cell (mR hv)
  have a:=jj L3;clear m0 c2 cb K;go_upto_region 19 with fail;have KS: ∀w',Be w3 w'->J w' ga (k*21+19) false/\J w' gt 0 (U f):=fun w' o=>⟨kept o _ _ (by rw[<-RD.out];exact a.out 19 _ rfl),kept o _ _ (W.cell 0)⟩;refine qI (fun w'=>J w' ga (k*21+19) false/\J w' gt 0 (U f)) 17 (tk 0 9 (tk 10 4 (.one 9 (tk 14 3 .done)))) (by kernel_rfl) (by kernel_rfl) (by kernel_rfl) (KS _ (aC _ _).drew) ?_;intro l
  repeat(first|refine' uT ?_|refine' uS ?_)
  refine yJ rfl (fun KT bq=> ?_);go_simp;refine(acp w3.drew ga (k*21+6) (D.nX 0) (D.nX 1) (D.nX 2) (D.nX 3) (D.nX 4) (D.nX 5) (D.nX 6) (D.nX 7) (D.nX 8) (D.nX 9) (D.nX 10) (D.nX 11) (D.nX 12) (a.out 6 _ rfl) (a.out 7 _ rfl) (a.out 8 _ rfl) (a.out 9 _ rfl) (a.out 10 _ rfl) (a.out 11 _ rfl) (a.out 12 _ rfl) (a.out 13 _ rfl) (a.out 14 _ rfl) (a.out 15 _ rfl) (a.out 16 _ rfl) (a.out 17 _ rfl) (a.out 18 _ rfl)).mono ?_;rintro e w4 ⟨rfl,B0⟩;rw[show Tok.count [D.nX 0,D.nX 1,D.nX 2,D.nX 3,D.nX 4,D.nX 5,D.nX 6,D.nX 7,D.nX 8,D.nX 9,D.nX 10,D.nX 11,D.nX 12]=1 from H0.out];have BB:=jj ((aC w3.heap.size w3).drew.trans B0);clear B0;have S4:=KS _ BB;refine oH bq S4 ?_;clear l;have l:=S4;have q1: ¬f+1<=1:=aR;have q2: ¬f<=0:=aR
  repeat(first|refine' uT ?_|refine' uS ?_)
  refine pR _ _ rfl (by rfl) (by assumption) (fun w=>by go_simp;try exact⟨rfl,rfl⟩) (fun w M0=>(UR f w h1 h4)) ?_;try simp only[Nw]
  repeat(first|refine' uT ?_|refine' uS ?_)
  refine qO ?_;clear l;go_wp2_with fail;go_ret3
  have OA:Only [gt,ga] w6 w4:=by have a1:=OV.mono (T:= [gt,ga]) (fun b m=> .inl (by simp only[au] at m;simp[m]));have a2:=O8.mono (T:= [gt,ga]) (fun b m=> .inl (by simp only[au] at m;simp[m]));have a3:=O3.mono (T:= [gt,ga]) (fun b m=> .inl (by simp only[au] at m;simp[m]));exact((a1.trans a2).trans a3).belows BB
  have z0:ga∈S\/w.heap.size<=ga:=by
   rcases I0.out ga rfl with h|h
   ·exact .inl (by rw[c0.out,h];simp)
   exact .inr (by have:=B2.size;simp at h;omega)
  have A0:gt∈S:=by rw[c0.out];simp
  have L0:Only S w w6:=by have b1:Be w (wr.alloc (.cells (#[U 0,U 0,U 0,U 0,U 0,U 0,false,false,false,false,false,false,false,false,false,false,false,false,false,false,U 0]:AV) 356)):=B2.alloc B2.size _;exact(Only.of_below (S:=S) b1).then b0 (fun b m=> .inl (by rw[c0.out];simp at m|-;exact .inr m))
  refine⟨by trivial,[gt,ga],?_,L0.then OA (fun b m=>by
   simp only[ay,aI,or_false] at m;rcases m with rfl|rfl
   ·exact .inl A0
   ·exact z0),fun b m=>by
   simp only[ay,aI,or_false] at m;rcases m with rfl|rfl
   ·exact .inl A0
   exact z0⟩
  rw[<-J0.out];exact⟨some ⟨ga,0,none⟩,F,rfl,W.below BB W.lt,T3.below BB⟩
end
section
open Go.RowKit Go.Proofs.Tryz Go.Maps
theorem ab4(n b:Nat)(K:List (Int×List Int))(p:Int)(a:OA)(m c:Nat)(bs:LI)(w:World)(h:vC w n b K)(l:gD w a m 1 (mZ bs))(k:Ns (p,bs))(i:(p,bs)∈K)(x:Int)(hx:num K (p,bs)=x):
  Y 104 #[n,U p,acX a m c] w fun e w'=>e=acK (U x)/\Be w w':=by
 subst hx;have C:=h.obj.at_ 0;obtain⟨s,f⟩:=ex (strOfNums bs);have F:(convert 140 9 (acX a m c)).run prog w= .ok (.string s) w:=by rw[f];exact Cm l
 have H:=jj h;have q:=jj k;have o:=jj (decide_eq_true i);have r:Hid (kv (p,bs)=acY #[U p,.string s]):=by rw[f];exact jj rfl
 clear h l f k i;go_enter func104,ntmps104;go_upto_region 2 with fail;generalize hw1:w.alloc _=w1;generalize hga:w.heap.size=ga;replace hw1:=hw1.symm;replace hga:=hga.symm;have d:=(tQ hw1).out;have g:aZ w1 ga 185 #[U p,.string s]:=by rw[hw1,hga];exact aZ.new _ _ _
 obtain⟨A,t⟩:=g.a2;have u:=kept d _ _ C;have N:=jj (H.below d);have B:=jj d;have v: ∀j,(Instr.lookup 153 (.map (some b)) (acY #[U p,.string s]) true).run prog (w1.drewN j)= .ok (ac2 #[U (num K (p,bs)),true]) (w1.drewN j):=fun j=>by have e:=(N.map.drewN j).look q;rw[r.out,o.out] at e;exact e
 clear hw1 hga d g C F
 go_quiet(fail);go_wp2_with fail;go_ret;exact⟨rfl,below_drewN B _⟩
theorem ab3(n b:Nat)(K:List (Int×List Int))(p:Int)(a:OA)(m c:Nat)(bs:LI)(w:World)(h:vC w n b K)(E:gD w a m 1 (mZ bs))(D:Ns (p,bs))(o:(p,bs)∉K)(hlen:K.length<1048576):
  Y 104 #[n,U p,acX a m c] w fun e w'=>e=acK (U ((K.length:Int)+1))/\vC w' n b (K++ [(p,bs)])/\Only [b] w w':=by
 have C:=h.obj.at_ 0;obtain⟨s,r⟩:=ex (strOfNums bs);have M:(convert 140 9 (acX a m c)).run prog w= .ok (.string s) w:=by rw[r];exact Cm E
 obtain⟨H,u,t⟩:=j3 h D o;have I:=jj (decide_eq_false o);have v:Hid (kv (p,bs)=acY #[U p,.string s]):=by rw[r];exact jj rfl
 clear h E r D o;go_enter func104,ntmps104;go_upto_region 2 with fail;generalize hw1:w.alloc _=w1;generalize hga:w.heap.size=ga;replace hw1:=hw1.symm;replace hga:=hga.symm;have f:=(tQ hw1).out;have z:aZ w1 ga 185 #[U p,.string s]:=by rw[hw1,hga];exact aZ.new _ _ _
 obtain⟨A,y⟩:=z.a2;have B:=kept f _ _ C;have x:=jj (H.below f);have F:=jj f;have g:num K (p,bs)=0:=if_neg t.out;have O: ∀j,(Instr.lookup 153 (.map (some b)) (acY #[U p,.string s]) true).run prog (w1.drewN j)= .ok (ac2 #[U 0,false]) (w1.drewN j):=fun j=>by have e:=(x.map.drewN j).look u;rw[v.out,I.out,g] at e;exact e
 clear hw1 hga f z C M g
 go_quiet(fail)
 obtain⟨W,d⟩:=ex (w1.drewN nq);rw[<-d];have a2:J W ga 0 (U p):=by rw[d];exact A
 have a3:J W ga 1 (.string s):=by rw[d];exact y
 have L:J W n 0 (.map (some b)):=by rw[d];exact B
 have N:Hid (vC W n b K):=by rw[d];exact jj (x.drewN _)
 have G:Hid (Be w W):=by rw[d];exact jj (below_drewN F _)
 have R:=N.map.len;clear d A y B O;go_upto_region 6 with fail;have KS: ∀j,J (W.drewN j) ga 0 (U p)/\J (W.drewN j) ga 1 (.string s)/\J (W.drewN j) n 0 (.map (some b)):=fun j=>⟨a2,a3,L⟩;refine rP (fun w'=>J w' ga 0 (U p)/\J w' ga 1 (.string s)/\J w' n 0 (.map (some b))) 6 (tk 0 6 (.one 6 .done)) (KS 1) ?_;intro P
 repeat refine' tT ?_
 obtain⟨w3,l,i,k⟩:=(N.map.drewN 1).put u t hlen;have Q:(Instr.mapUpdate 153 (.map (some b)) (acY #[U p,.string s]) (U ((K.length:Int)+1))).run prog W.drew= .ok () w3:=by rw[<-v.out];exact l
 clear l;refine pL fun KT bq=> ?_;go_simp;refine oL bq ?_;refine aU ?_;go_wp2_with fail;go_ret;have q:=H.ne;exact⟨rfl,⟨(N.obj.drewN 1).only k (mR q),i⟩,((Only.of_below (S:= [b]) G).drewN 1).trans k⟩
def sealed(K:List (Int×List Int))(q:Int×List Int):List (Int×List Int):=if q∈K then K else K++ [q]
theorem Cu(K:List (Int×List Int))(q:Int×List Int):num (sealed K q) q=if q∈K then num K q else(K.length:Int)+1:=by
 by_cases h:q∈K
 ·simp[sealed,h]
 simp[sealed,h,num,List.idxOf_append]
theorem Ox(n b:Nat)(K:List (Int×List Int))(p:Int)(a:OA)(m c:Nat)(bs:LI)(w:World)(h:vC w n b K)(g:gD w a m 1 (mZ bs))(f:Ns (p,bs))(hlen:K.length<1048576)(x:Int)(hx:num (sealed K (p,bs)) (p,bs)=x)(k:List (Int×List Int))(i:sealed K (p,bs)=k):
  Y 104 #[n,U p,acX a m c] w fun e w'=>e=acK (U x)/\vC w' n b k/\Only [b] w w':=by
 subst hx;subst i;rw[Cu];by_cases H:(p,bs)∈K
 ·rw[if_pos H]
  refine(ab4 n b K p a m c bs w h g f H _ rfl).mono ?_;rintro e w' ⟨rfl,d⟩;rw[sealed,if_pos H];exact⟨rfl,h.below d,Only.of_below d⟩
 rw[if_neg H];refine(ab3 n b K p a m c bs w h g f H hlen).mono ?_;rintro e w' ⟨rfl,j,l⟩;rw[sealed,if_neg H];exact⟨rfl,j,l⟩
end
theorem oG{xs ys:LI}(h: ∀x∈xs,0<=x/\x<=255)(k: ∀x∈ys,0<=x/\x<=255): ∀x∈xs++ys,0<=x/\x<=255:=fun x hx=>by
 rcases aQ.1 hx with hx|hx
 ·exact h x hx
 exact k x hx
theorem qA(h:qh z): ∀x∈mD z.toNat,0<=x/\x<=255:=Bn (by obtain⟨H,a⟩:=h;omega)
theorem JI(h:wP z): ∀x∈vg z,0<=x/\x<=255:=Bn (J9 h)
theorem Ad{α:Type}{f:α->List Int}{l:List α}(c:l.length<=256)(h: ∀a∈l,∀x∈f a,0<=x/\x<=255): ∀x∈nI f l,0<=x/\x<=255:=
 oG (Bn aR) fun x hx=>by obtain⟨a,b,H⟩:=bg.1 hx;exact h a b x H
theorem DX(h:xH r): ∀x∈oK r,0<=x/\x<=255:=
 oG (qA h.1) (oG (qA h.2.1) (oG (qA h.2.2.1) (oG (JI h.2.2.2.1) (oG (JI h.2.2.2.2.1) (qA h.2.2.2.2.2)))))
theorem WL{v:Vo}(h:Kv v): ∀x∈uQ v,0<=x/\x<=255:=oG (qA h.1) (qA h.2)
theorem adp{c:Ce}(h:Et c): ∀x∈uG c,0<=x/\x<=255:=
 oG (qA h.view) (oG (qA h.inst) (oG (qA h.seq) (oG (Ad h.nb fun r H=>DX (h.batch r H)) (Ad h.nv fun v a=>WL (h.sw v a)))))
theorem EG{m:Ms}(h:Ev m): ∀x∈dF m,0<=x/\x<=255:=
 oG (qA h.kind) (oG (qA h.sender) (oG (qA h.view) (oG (qA h.inst) (oG (qA h.seq) (oG (JI h.res) (oG (Ad h.nb fun r a=>DX (h.batch r a)) (oG (Ad h.nv fun v b=>WL (h.sw v b)) (oG (Ad h.nc fun c H=>adp (h.vI c H)) (Bn aR)))))))))
theorem wM.ahu{b:Nat}{K:List (Int×List Int)}(h:wM w b K){base:Nat}(f:w.ownsRow base e s v n xs):v.ownBlock≠some b:=by
 obtain⟨E,i,a,_⟩:=h.ex;rcases f.2 with⟨rfl,_⟩|⟨g,c,C,rfl,_,H,_⟩
 ·simp[Value.ownBlock]
 intro d;have:g=b:=by simpa[Value.ownBlock] using d
 subst this;rw[a] at H;cases H
theorem Tk(w:World)(z:Int)(q:qh z)(A:OA)(m c:Nat)(y:LI)(p:gD w A m 1 (mZ y))(l:y.length=m)(D:(mD z.toNat).length+m<=65536):
  Y 103 #[U z,acX A m c] w fun e w'=> ∃i c' n,e=acK (ac2 #[acX i n c',true])/\(mD z.toNat++y).length=n/\w'.ownsRow w.heap.size 5 1 (acX i n c') n (mZ (mD z.toNat++y))/\Be w w':=by
 obtain⟨I,a,d,f,g⟩:=info_parts wU;obtain⟨u,t,v⟩:=j3 p l q;clear p l q;go_enter func103,ntmps103;go_wp2_with fail;refine(uX z v _).mono ?_;rintro e W ⟨a2,C,rfl,b,h⟩;obtain⟨k,H⟩:=ex ((mD z.toNat).length);rw[<-H] at b D|-;have K:k<=6:=by rw[H];exact nK _
 have r:=jj H;have O:=jj b;have V:=jj (u.below h);have B:=jj h;have s:=h.size;have F: ¬(65536:Int)<(k:Int)+m:=aR;have E:IntKind.i64.wrap ((k:Int)+m)=(k:Int)+m:=aH _ aR;clear b h H
 go_wp2_with(at_builtin;refine fD rfl _ _ _ rfl w.heap.size 5 I _ 1 1 underlying140 a d f g rfl aR a2 k C (mZ (mD z.toNat)) rfl O A m c (mZ y) rfl V (yh y) (by unfold maxLen;omega) aR s ?_;intro a5 x G j)
 go_ret2
 have o:=j.own;rw[<-wR] at o;exact⟨a5,x,k+m,by trivial,by rw[av,<-r.out,t.out],o,j.below O B (aF _) s⟩
theorem UG(w:World)(n b:Nat)(K:List (Int×List Int))(T:vC w n b K)(m:MD)(h:m.Is w)(ok:Ev (nA m))(j:(dF (nA m)).length<=65000)(hlen:K.length<1048576):
  Y 64 #[acY (oM m).toArray,n] w fun e w'=> ∃F c' l,e=acK (ac2 #[acX F l c',true])/\
   (mD (num (sealed K (m.sender,dF (nA m))) (m.sender,dF (nA m))).toNat++dF (nA m)).length=l/\
   w'.ownsRow w.heap.size 5 1 (acX F l c') l (mZ (mD (num (sealed K (m.sender,dF (nA m))) (m.sender,dF (nA m))).toNat++dF (nA m)))/\
   vC w' n b (sealed K (m.sender,dF (nA m)))/\Only [b] w w':=by
 obtain⟨HN,HI,t,u⟩:=j4 T h ok j;have hq:=F9 (Ns (m.sender,dF (nA m))) ⟨by have:=ok.sender;obtain⟨h1,h2⟩:=this;simp only[nA] at h1 h2;exact⟨aR,aR⟩,EG ok,by show(dF (nA m)).length<=maxLen;unfold maxLen;omega⟩;obtain⟨K',r⟩: ∃K',sealed K (m.sender,dF (nA m))=K':=⟨_,rfl⟩;obtain⟨x,hx⟩: ∃x,num K' (m.sender,dF (nA m))=x:=⟨_,rfl⟩;rw[r,hx];have E:=jj r;have HX:=jj hx;have XO:=F9 (qh x) (by
  have e:K'.length<=K.length+1:=by rw[<-r];unfold sealed;split<;>simp
  rw[<-hx];unfold num;split
  ·rename_i hm
   have:=List.idxOf_lt_length_iff.2 hm;exact⟨aR,aR⟩
  exact⟨aR,aR⟩)
 obtain⟨z,f⟩:=ex (dF (nA m));have H:=jj f;rw[<-f] at j|-;clear T h ok r hx f;obtain⟨V,M,W,X,Z,m5,G,J,I,br,va,vn,vc,vs,P,R,Q,cs,pa,pc⟩:=m;show Y 64 #[acY #[U V,U M,U W,U X,U Z,U m5,acX G J I,acX va vn vc,acX P R Q,acX pa 0 pc],n] w _;go_enter func64,ntmps64;go_upto_region 1 with fail;generalize hw1:w.alloc _=w1;generalize hgb:w.heap.size=gb;replace hw1:=hw1.symm;replace hgb:=hgb.symm;have k:=(tQ hw1).out;have A:aZ w1 gb 82 #[U V,U M,U W,U X,U Z,U m5,acX G J I,acX va vn vc,acX P R Q,acX pa 0 pc]:=by rw[hw1,hgb];exact aZ.new _ _ _
 obtain⟨d0,d1,d2,d3,d4,d5,d6,d7,d8,d9⟩:=A.zA;have B:=jj k;have D:=jj A;clear hw1 hgb k A;go_wp2_with fail;refine(Ta _ _ (HI.below B) t (tL u.out)).mono ?_;rintro e w2 ⟨a2,L,rfl,a,c⟩;rw[<-H.out] at a|-;obtain⟨l,C⟩:=ex z.length;rw[<-C] at a j|-;have HL:=jj C;have v:=jj (mO a B.size);have s:=nO B c;have N:=jj (HN.below s);have e1:=((D.below c D.lt).cell 1).trans (show _=some (U M) from rfl);clear a c C d0 d1 d2 d3 d4 d5 d6 d7 d8 d9;go_wp2_with fail;refine(Ox n b K M a2 l L z _ N (fH v) (by have:=hq.out;rw[<-H.out] at this;exact this) hlen x (by rw[H.out];have:=HX.out;rw[<-E.out] at this;exact this) K' (by rw[H.out];exact E.out)).mono ?_;rintro e w3 ⟨rfl,p,i⟩;have N3:=jj p;have O:=jj i;have O3:=jj (mK v i (fun g hg=>by have:=N.map.ahu v;rw[hg] at this;simpa using fun e=>this (by rw[e])))
 clear p i e1;go_wp2_with fail;refine(Tk _ x XO a2 l L z (fH O3) HL.symm (tL (nK x.toNat))).mono ?_;rintro e w4 ⟨a4,c4,l4,rfl,o,q,d⟩;have O4:=jj (mO q (aG s.size O.size));have N4:=jj (N3.below d);have y:=jj (((Only.of_below (S:= [b]) s).trans O).belows d);have L4:=jj o;clear q d o;go_wp2_with fail;go_ret2
 exact⟨a4,c4,l4,by trivial,L4,O4,N4,y⟩
structure sU(K:List (Int×List Int))(cl:Int)(r:Rq):Prop where
 valid:mq cl r=true
 ok:xH r
 key:Ns (100+r.1,gM r)
 mem:(100+r.1,gM r)∈K
 num:num K (100+r.1,gM r)=r.2.2.2.2.2
 small:qX (100+r.1)
theorem LQ(w:World)(n b:Nat)(K:List (Int×List Int))(y:vC w n b K)(cl:Int)(r:Rq)(u:sU K cl r):
  Y 211 #[Kh r,U cl,n] w fun e w'=>e=acK true/\Be w w':=by obtain⟨r0,d,f,g,i,R⟩:=r;have c:=jj u;have C:=jj y;have I:IntKind.i64.wrap (100+r0)=100+r0:=aH _ u.small;clear u y;show Y 211 #[acY #[U r0,U d,U f,U g,U i,U R],U cl,n] w _;go_enter func211,ntmps211;go_upto_region 1 with fail;generalize hw1:w.alloc _=w1;generalize hgb:w.heap.size=gb;replace hw1:=hw1.symm;replace hgb:=hgb.symm;obtain⟨z,m⟩:=nw hw1 hgb;clear hw1 hgb;obtain⟨D,o,p,q,s,k⟩:=m.a6;go_wp2_with fail;refine(D8 _ cl (r0,d,f,g,i,R) true c.valid).mono ?_;rintro e W ⟨rfl,h⟩;have A:=nO z h;have X:=m.below h m.lt;have B:=jj X;clear h D o p q s k;obtain⟨D,o,p,q,s,k⟩:=X.a6;go_wp2_with fail;refine(Wt _ (r0,d,f,g,i,R) c.ok).mono ?_;rintro e J ⟨E,F,rfl,a,H⟩;have v:=nO A H;have x:=B.below H B.lt;obtain⟨l,t⟩:=ex ((gM (r0,d,f,g,i,R)).length);rw[<-t] at a|-;have G:=jj t;have O:=jj a;clear H D o p q s k a t;have D:=x.at_ 0;have k:=x.at_ 5;go_wp2_with fail;refine(Jo n b K (100+r0) E l F (gM (r0,d,f,g,i,R)) R _ (C.below v) (fH O) c.key true (by simp only[decide_eq_true c.mem,decide_eq_true c.num,kZ])).mono ?_;rintro e L ⟨rfl,j,rfl⟩;go_wp2_with fail;go_ret;exact⟨by trivial,below_drewN v j⟩
def vT(w:World)(g:Nat)(now:Int):Prop:=aZ w g 220 #[U now,()]
theorem aad(w:World):Y 73 #[] w fun e w'=>e=acK w.heap.size/\vT w' w.heap.size 0/\Be w w':=by go_enter func73,ntmps73;go_wp2_with fail;go_ret;exact⟨by trivial,aZ.new _ _ _,nC⟩
theorem Tj(w:World)(g:Nat)(now:Int)(h:vT w g now):Y 81 #[g] w fun e w'=>e=acK (U now)/\w=w':=by have c:J w g 0 (U now):=aZ.cell h 0;clear h;go_enter func81,ntmps81;go_wp2_with fail;go_ret;exact⟨by trivial,by trivial⟩
theorem Vy(w:World)(g:Nat)(now:Int)(h:vT w g now)(a:0<=now)(b:now<1048576):Y 123 #[g] w fun e w'=>e=acK true/\vT w' g (now+1)/\Only [g] w w':=by have c:J w g 0 (U now):=aZ.cell h 0;have f:=aZ.frozen h 0;have i: ¬1048576<=now:=aR;have E:IntKind.i64.wrap (now+1)=now+1:=aH _ aR;have H:=jj h;clear h;go_enter func123,ntmps123;go_wp2_with fail;go_ret;exact⟨by trivial,aZ.fU H 0 _,(Only.refl [g] _).setCell (.inl bJ) _⟩
def Ld(w:World)(g:Nat)(m t:Int):Prop:=aZ w g 239 #[U m,U t,()]
theorem agQ(w:World)(m t:Int)(h:1<=m/\m<=64)(H:1<=t/\t<=64):Y 77 #[U m,U t] w fun e w'=>e=acK (ac2 #[w.heap.size,U 0])/\Ld w' w.heap.size m t/\Be w w':=by
 have i: ¬m<1:=aR;have I: ¬64<m:=aR;have a: ¬t<1:=aR;have b: ¬64<t:=aR;go_enter func77,ntmps77;go_wp2_with fail;go_ret2
 exact⟨by trivial,aZ.new _ _ _,nC⟩
theorem ajY(w:World)(g:Nat)(m t p:Int)(h:Ld w g m t):Y 151 #[g,U p] w fun e w'=>e= .returned (U (-1))/\w=w':=by
 have c:J w g 2 ():=aZ.cell h 2;clear h;go_enter func151,ntmps151;go_wp2_with fail;go_loopw [12] (fun q wr=>q= U 0/\wr=w) (fun _ _=>0)
 case atStart=>exact⟨rfl,rfl⟩
 case round=>
  obtain⟨rfl,rfl⟩:=hrel;go_wp2_with fail;go_ret;exact⟨by trivial,by trivial⟩
theorem adB(w:World)(g:Nat)(m t p c:Int)(h:Ld w g m t):Y 118 #[g,U p,U c] w fun e w'=>e=acK false/\Be w w':=by
 have H:=jj h;clear h;go_enter func118,ntmps118;go_wp2_with fail;refine(ajY _ g m t p H).mono ?_;rintro e w' ⟨rfl,rfl⟩;go_upto_region 2 with fail;refine rP (fun w'=>True) 16 (tk 0 4 (tk 5 8 (.one 4 (tk 13 3 .done)))) trivial ?_;intro a
 repeat(first|refine' tT ?_|refine' tS ?_)
 refine pO fun KT bq=> ?_;go_simp;refine oH bq trivial ?_
 repeat(first|refine' tT ?_|refine' tS ?_)
 refine aU ?_;clear a;go_wp2_with fail;go_ret;exact⟨by trivial,(aC _ _).drew⟩
theorem aa3 (w:World) (nn b:Nat) (K:List (Int×List Int)) (hN:vC w nn b K) (cl c t kd ky vl:Int) (hv:mq cl (c,t,kd,ky,vl,0)=true) (s:xH (c,t,kd,ky,vl,0)) (hlen:K.length<1048576) (hc:0<=c/\c<4)
  (q:Int×List Int) (o:q=(100+c,gM (c,t,kd,ky,vl,0))) (u:Ns q) (z:Int) (hz:num (sealed K q) q=z):
  Y 80 #[nn,U cl,U c,U t,acY #[U kd,U ky,U vl]] w fun e w'=>e=acK (ac2 #[Kh (c,t,kd,ky,vl,z),U 0])/\vC w' nn b (sealed K q)/\Only [b] w w':=by
 subst o;obtain⟨HN,HV,L,HQ,HZ⟩:=j5 hN hv s u hz;have B:=F9 (b<w.heap.size) (by obtain⟨es,a0,H,_⟩:=hN.map.ex;exact(eX.1 H).1);have e1:IntKind.i64.wrap (100+c)=100+c:=aH _ aR;clear hN hv s u hz;show Y 80 _ w (fun e w'=>e=acK (ac2 #[acY #[U c,U t,U kd,U ky,U vl,U z],U 0])/\_);go_enter func80,ntmps80;go_upto_region 2 with fail;generalize hv1:w.alloc _=v1;generalize vE:w.heap.size=g9;replace hv1:=hv1.symm;replace vE:=vE.symm;obtain⟨v2,d⟩:=ex (v1.alloc (.cells #[U 0,U 0,U 0,U 0,U 0,U 0] 49));obtain⟨g10,h⟩:=ex v1.heap.size;have V:g9+1=g10:=by rw[h,hv1,vE];simp
 rw[<-d]
 try rw[V]
 try rw[<-h]
 obtain⟨v3,f⟩:=ex (v2.alloc (.cells #[U c,U t,U kd,U ky,U vl,U 0] 49));obtain⟨g12,a⟩:=ex v2.heap.size;have E:g10+1=g12:=by rw[a,d,h];simp
 have Z:g9+1+1=g12:=by rw[V,E]
 rw[<-f,E];have X:=xNew f a;have x:=F9 (aZ v3 g10 49 #[U 0,U 0,U 0,U 0,U 0,U 0]) (by rw[f];refine aZ.alloc ?_ _;rw[d,h];exact aZ.new _ _ _);have B3:=F9 (Be w v3) (by rw[f,d,hv1];exact((nC.alloc bJ _).alloc (by simp;omega) _));have GE:=F9 (w.heap.size<=g10/\w.heap.size<=g12/\g10≠g12) ⟨aR,aR,aR⟩;clear hv1 d f vE h a V E Z;obtain⟨D,C,F,G,I,J⟩:=X.a6;go_wp2_with fail;refine(D8 _ cl (c,t,kd,ky,vl,0) true HV).mono ?_;rintro e w4 ⟨rfl,H⟩;have B4:=nO B3 H;have k:=jj (X.below H X.lt);have p:=jj (x.below H x.lt);clear H D C F G I J;obtain⟨D,C,F,G,I,J⟩:=k.a6;go_wp2_with fail;refine(Wt _ (c,t,kd,ky,vl,0) L).mono ?_;rintro e w5 ⟨a',c',rfl,ho,H⟩;obtain⟨l,hl⟩:=ex ((gM (c,t,kd,ky,vl,0)).length);rw[<-hl] at ho|-;have B5:=nO B4 H;have T:=jj (k.below H k.lt);have S:=jj (p.below H p.lt);have O5:=jj ho;clear H ho hl D C F G I J;go_wp2_with fail;refine(Ox nn b K (100+c) a' l c' (gM (c,t,kd,ky,vl,0)) _ (HN.below B5) (fH O5) HQ hlen z HZ (sealed K (100+c,gM (c,t,kd,ky,vl,0))) rfl).mono ?_;rintro e W ⟨rfl,r,i⟩;have N6:=jj r;have M:=F9 (Only [b] w W) ((Only.of_below B5).trans i);have A:g12∉ [b]:=by have:=B.out;have:=GE.out;simp;omega
 have N:g10∉ [b]:=by have:=B.out;have:=GE.out;simp;omega
 have P:=jj (T.only i A);have Q:=jj (S.only i N);have x5:=P.cell 5;have f5:=P.frozen 5;clear r i;go_upto_region 6 with fail;obtain⟨w6,j⟩:=ex (W.setCell (adZ g12 5) (U z));rw[<-j];have R:=F9 (aZ w6 g12 49 #[U c,U t,U kd,U ky,U vl,U z]) (by rw[j];exact P.fU 5 _);have O:Only [g12] W w6:=by rw[j];exact(Only.refl [g12] _).setCell (.inl bJ) _
 have y:=F9 (aZ w6 g10 49 #[U 0,U 0,U 0,U 0,U 0,U 0]) (Q.only O (mR GE.2.2));have n:b≠g12:=by have:=B.out;have:=GE.out;omega
 have m:b≠g10:=by have:=B.out;have:=GE.out;omega
 have N7:=jj (N6.only O (mR (N6.obj.nY P aV)) (mR n));have O6:=jj (M.then O (fun q o=> .inr (by simp only[au] at o;rw[o];exact GE.2.1)));clear j O x5 f5;obtain⟨D,C,F,G,I,J⟩:=R.a6;have y0:=y.at_ 0;have z0:=y.frozen 0;have y1:=y.at_ 1;have z1:=y.frozen 1;have y2:=y.at_ 2;have z2:=y.frozen 2;have y3:=y.at_ 3;have z3:=y.frozen 3;have y4:=y.at_ 4;have z4:=y.frozen 4;have y5:=y.at_ 5;have z5:=y.frozen 5;go_wp2_with fail;obtain⟨w9,g⟩:=ex (setW w6 g10 0 [U c,U t,U kd,U ky,U vl,U z]);have K9:=uL g y;have o9:=vM g;simp only[setW,aO,Nat.reduceAdd] at g;rw[<-g];clear g;refine bodyPost_ret (v:=ac2 #[acY #[U c,U t,U kd,U ky,U vl,U z],U 0]) ?_ rfl ⟨rfl,N7.only o9 (mR (N7.obj.nY y aV)) (mR m),O6.then o9 (fun q o=> .inr (by simp only[au] at o;rw[o];exact GE.1))⟩;exact(mV Tryz.results80 _ w9 g10 _ _ _ _ (by rfl) K9 underlying49 rfl (by kernel_rfl)).trans rfl
structure wN where
 dst:Int
 a:Option Addr
 n:Nat
 c:Nat
 bs:List Int
def WB(s:wN):List Value:= [U s.dst,acX s.a s.n s.c]
theorem WC(s:wN):(WB s).length=2:=rfl
theorem Ec(L:List wN): ∀v∈L.flatMap WB,v.oneCell'=true:=by intro v H;obtain⟨p,_,h⟩:=bg.1 H;simp only[WB,ay,aI,or_false] at h;rcases h with rfl|rfl<;>rfl
structure wN.Is(x:Nat)(w:World)(s:wN):Prop where
 row:gD w s.a s.n 1 (mZ s.bs)
 len:s.bs.length=s.n
 fix:Fixed x w 5 s.a
 cap:s.n<=s.c
structure nJ(x:Nat)(w:World)(A:OA)(m c:Nat)(L:List wN):Prop where
 own:w.ownsRow 0 179 2 (acX A m c) m (L.flatMap WB)
 len:L.length=m
 is: ∀s∈L,s.Is x w
def uy(L:List wN):List (Int×List Int):=L.map fun s=>(s.dst,s.bs)
section
variable{x y:Nat}{w w':World}{A:OA}{m c:Nat}{L:List wN}{S:LN}{s:wN}
theorem wN.Is.only(h:s.Is x w)(a:Only S w w')(H: ∀g∈S,nV x w g):s.Is x w':=⟨h.row.fix h.fix aV a H,h.len,h.fix.only aV a H,h.cap⟩
theorem wN.Is.below(h:s.Is x w)(H:Be w w'):s.Is x w':=⟨h.row.below H,h.len,h.fix.below H,h.cap⟩
theorem wN.Is.re(h:s.Is x w)(H:w.heap.size<=y):s.Is y w:=⟨h.row,h.len,h.fix.re H,h.cap⟩
theorem nJ.only(h:nJ x w A m c L)(a:Only S w w')(d: ∀g∈S,nV x w g)(e: ∀b,A.map (·.block)=some b->b∉S):nJ x w' A m c L:=
 ⟨mK h.own a fun g H=>e g (by rw[dQ] at H;exact H),h.len,fun s f=>(h.is s f).only a d⟩
theorem nJ.below(h:nJ x w A m c L)(H:Be w w'):nJ x w' A m c L:=⟨own_below h.own H,h.len,fun s a=>(h.is s a).below H⟩
theorem nJ.re(h:nJ x w A m c L)(a:w.heap.size<=y):nJ y w A m c L:=⟨h.own,h.len,fun s H=>(h.is s H).re a⟩
theorem nJ.nil(x:Nat)(w:World):nJ x w none 0 0 []:=⟨⟨rfl,.inl ⟨rfl,rfl⟩⟩,rfl,fun s h=>by simp at h⟩
end
theorem wD:(prog.info? 179).map (fun i=>(i.zero,i.size,i.bytes))=some (some (acY #[U 0,()]),2,32):=by kernel_rfl
theorem wH{base:Nat}{t:TypeId}(h:w.ownsRow base t s (acX a n c) n xs)(f:t∉KH): ∀g∈(a.map (·.block)).toList,nV x w g:=fun g b=>by
 rcases h.2 with⟨H,_⟩|⟨G,C,d,H,_,e,_⟩
 ·injection H with H
  subst H;simp at b
 injection H with H;subst H;simp at b;subst b;exact nV.of e f
theorem nJ.more{A':OA}{L:List wN}{s:wN}(h:nJ x w A m c L)(b:s.Is x w)(a:qQ w w' 0 179 2 A A' (m+1) c' (L.flatMap WB++WB s)):nJ x w' A' (m+1) c' (L++ [s]):=by
 have soft:=wH (x:=x) h.own aV;exact⟨by rw[bS];simpa using a.own,by simp[h.len],fun r H=>by
  rcases aQ.1 H with H|H
  ·exact(h.is r H).only a.only soft
  rw[au.1 H];exact b.only a.only soft⟩
theorem EZ(L:List wN)(s:wN):uy (L++ [s])=uy L++ [(s.dst,s.bs)]:=by simp[uy]
theorem Fixed.both{t:TypeId}(h:Fixed x w' t a)(k:Fixed y w t a):Fixed y w' t a:=fun b H=>⟨(k b H).1,(h b H).2⟩
theorem nJ.both{L:List wN}(h:nJ x w' A m c L)(k:nJ y w A m c L):nJ y w' A m c L:=⟨h.own,h.len,fun s H=>⟨(h.is s H).row,(h.is s H).len,(h.is s H).fix.both (k.is s H).fix,(h.is s H).cap⟩⟩
theorem ab6{cs:AV}(h:cs[k]?=some v):cs.setIfInBounds k v=cs:=by
 apply gP;intro i;by_cases e:k=i
 ·subst e
  have:=(eX.1 h).1;rw[fZ this,h]
 rw[aW e]
theorem Dk{cs:AV}(h:k<cs.size):(cs.setIfInBounds k v)[k]?=some v:=fZ h
theorem Yy{cs:AV}{u:Value}:(cs.setIfInBounds k u).setIfInBounds k v=cs.setIfInBounds k v:=by
 apply gP;intro i;by_cases e:k=i
 ·subst e
  simp[Array.getElem?_setIfInBounds]
 rw[aW e,aW e,aW e]
namespace F
open Ieee
theorem yU(c e:Nat)(H:c≠0):(c*2^e).log2=c.log2+e:=by
 have a:=jY H;have b:=jZ (n:=c);have h:c*2^e≠0:=Nat.mul_ne_zero H bJ;have d:0<2^e:=fQ e;apply Nat.le_antisymm
 ·have:(c*2^e).log2<c.log2+e+1:=by
   rw[kS h]
   calc c*2^e<2^(c.log2+1)*2^e:=iG b d
    _=2^(c.log2+e+1):=by rw[<-iI];congr 1;omega
  omega
 rw[Nat.le_log2 h,iI];exact dN _ a
def UE(c:Nat):Nat:=(c.log2+1022)*2^52+c*2^(52 -c.log2)
theorem Lu(n:Bool)(x drop:Nat)(hx:2^drop<=x*2^drop):Toward.even.cut n (x*2^drop) drop=x:=by
 have h:x≠0:=by rintro rfl;have:=fQ drop;omega
 have a:drop<=(x*2^drop).log2+2:=by rw[yU x drop h];omega
 have b:0<2^drop:=fQ drop;unfold Toward.cut;rw[fO a,Nat.one_shiftLeft];simp only[Nat.mul_mod_left,iT _ b,Nat.mul_zero];have c: ¬(2^drop<0):=aR;have H:(2^drop==0)=false:=by simp
 simp[H]
theorem aux1(l k T:Nat)(h:l<=52)(c:k<2^53)(b:2^53<=2*T):(l+1022)*T+k<=2047*T:=by have a:(l+1022)*T=l*T+1022*T:=iH _ _ _;have H:l*T<=52*T:=dN _ h;generalize 2^53=M at*;omega
theorem Jp(N:Bool)(c e:Nat)(b:c≠0)(g:c<2^53):
  double.nearest N (c*2^e) (-(e:Int))=double.word N (UE c):=by
 have r:c.log2<=52:=by have:=(kS b (k:=53)).2 g;omega
 have t:=jY b;have q:=jZ (n:=c);have o:c*2^e≠0:=Nat.mul_ne_zero b (tL (fQ e));unfold Format.nearest;rw[if_neg o,yU c e b];have m:double.leastPlace= -1074:=aV;have i:(double.fractionBits:Int)=52:=aV;have s:double.binade=2^52:=aV;have j:double.infRung=2047*2^52:=aV;rw[m,i,s,j];have a:max (-(e:Int)+((c.log2+e:Nat):Int) -52) (-1074)=(c.log2:Int) -52:=by rw[Int.max_def];split<;>omega
 rw[a];have H:Toward.even.cut N ((c*2^e)<<<(-(e:Int) -((c.log2:Int) -52)).toNat) (((c.log2:Int) -52) - -(e:Int)).toNat=c*2^(52 -c.log2):=by
  rcases Nat.le_total e (52 -c.log2) with h|h
  ·have E:(-(e:Int) -((c.log2:Int) -52)).toNat=52 -c.log2 -e:=aR
   have d:(((c.log2:Int) -52) - -(e:Int)).toNat=0:=aR;rw[E,d,iL];have f:c*2^e*2^(52 -c.log2 -e)=c*2^(52 -c.log2)*2^0:=by
    rw[lg,<-iI];simp only[kD,fP]
    congr 2
    omega
   rw[f];apply Lu;have:0<c*2^(52 -c.log2):=lG aR (fQ _);rw[kD,fP];exact this
  have E:(-(e:Int) -((c.log2:Int) -52)).toNat=0:=aR;have d:(((c.log2:Int) -52) - -(e:Int)).toNat=e -(52 -c.log2):=aR;rw[E,d,iL,kD,fP];have f:c*2^e=c*2^(52 -c.log2)*2^(e -(52 -c.log2)):=by
   rw[lg,<-iI]
   congr 2
   omega
  rw[f];apply Lu;have:0<c*2^(52 -c.log2):=lG aR (fQ _);exact l9 _ this
 simp only[];rw[H];have l:c*2^(52 -c.log2)<2^53:=by
  calc c*2^(52 -c.log2)<2^(c.log2+1)*2^(52 -c.log2):=iG q (fQ _)
   _=2^53:=by rw[<-iI];congr 1;omega
 have p:((c.log2:Int) -52 - -1074).toNat=c.log2+1022:=aR;rw[p,fO]
 ·rfl
 exact aux1 _ _ _ r l aV
theorem Yr(f:Format)(T:Nat)(t:0<T)(e:f.signWeight=2048*T)(n:f.binade=T)(b:f.infRung=2047*T)(c:f.leastPlace= -1074)(neg:Bool)(l k:Nat)(m:l<=52)(s:T<=k)(o:k<2*T):
  f.read (f.word neg ((l+1022)*T+k))= .number neg k ((l:Int) -52):=by
 unfold Format.read Format.word;rw[e,n,b,c];have u:(l+1022)*T=l*T+1022*T:=iH _ _ _;have q:l*T<=52*T:=dN _ m;have v:(l+1022)*T+k<2047*T:=aR;obtain⟨r,d⟩:=ex ((l+1022)*T+k);have g:(if neg then 2048*T+r else r)/(2048*T)%2=(if neg then 1 else 0)/\(if neg then 2048*T+r else r)%(2048*T)=r:=by
  have a:r<2048*T:=aR;have h:0<2048*T:=aR;cases neg
  ·simp only[dz,if_false]
   rw[iJ a,dJ a];exact⟨rfl,rfl⟩
  simp only[if_true];rw[Nat.add_div_left _ h,iJ a,Nat.add_mod_left,dJ a];exact⟨rfl,rfl⟩
 rw[<-d];simp only[g.1,g.2];have C: ¬(r<T):=aR;rw[if_neg C,if_pos aR];obtain⟨j,p⟩: ∃j,k=T+j:=⟨k -T,aR⟩;have H:j<T:=aR;have E:r=j+(l+1023)*T:=by have:(l+1023)*T=l*T+1023*T:=iH _ _ _;omega
 have D:r/T=l+1023:=by rw[E,Nat.add_mul_div_right _ _ t,iJ H,aO]
 have i:r%T=j:=by rw[E,Nat.add_mul_mod_self_right,dJ H]
 rw[D,i,<-p];have A:(((if neg then 1 else 0:Nat))==1)=neg:=by cases neg<;>rfl
 have a2:(-1074+((l+1023 -1:Nat):Int))=(l:Int) -52:=aR;rw[A,a2]
theorem KP(n:Bool)(c:Nat)(H:double.binade<=c*2^(52 -c.log2))(h:c*2^(52 -c.log2)<2*double.binade)(a:c.log2<=52):
  double.read (double.word n ((c.log2+1022)*double.binade+c*2^(52 -c.log2)))= .number n (c*2^(52 -c.log2)) ((c.log2:Int) -52):=
 Yr double double.binade aV aV rfl aV aV n _ _ a H h
theorem Yq(N:Bool)(c:Nat)(b:c≠0)(h:c<2^53):double.read (double.word N (UE c))= .number N (c*2^(52 -c.log2)) ((c.log2:Int) -52):=by
 have g:c.log2<=52:=by have:=(kS b (k:=53)).2 h;omega
 have d:=jY b;have f:=jZ (n:=c);have a:2^52<=c*2^(52 -c.log2):=by
  calc 2^52=2^c.log2*2^(52 -c.log2):=by rw[<-iI];congr 1;omega
   _<=c*2^(52 -c.log2):=dN _ d
 have H:c*2^(52 -c.log2)<2*2^52:=by
  have e:2^(c.log2+1)*2^(52 -c.log2)=2*2^52:=by rw[<-iI,show c.log2+1+(52 -c.log2)=52+1 from by omega,iK 2 52,gX]
  rw[<-e];exact iG f (fQ _)
 exact KP N c a H g
def Rep(d:Datum)(n:Int):Prop:= ∃(m e:Nat),e<=1100/\d= .number (decide (n<0)) m (-(e:Int))/\m=n.natAbs*2^e
def fw(n:Int):Nat:=double.write (.number (n<0) n.natAbs 0)
theorem NQ:fw 0=0:=aV
theorem afq{n:Int}(H:n≠0)(h:n.natAbs<2^53):fw n=double.word (decide (n<0)) (UE n.natAbs):=by have:=Jp (decide (n<0)) n.natAbs 0 aR h;simp only[kD,fP] at this;exact this
theorem OH{n:Int}(h:n.natAbs<2^53):Rep (double.read (fw n)) n:=by
 by_cases H:n=0
 ·subst H
  have a: ∀e:Nat,(0:Nat)=(0:Int).natAbs*2^e:=fun e=>by rw[Int.natAbs_zero,fI]
  exact⟨0,1074,aR,aV,a 1074⟩
 rw[afq H h,Yq _ _ aR h];have b:n.natAbs.log2<=52:=by have:=(kS (n:=n.natAbs) aR (k:=53)).2 h;omega
 exact⟨_,52 -n.natAbs.log2,aR,by congr 1;omega,rfl⟩
theorem YN{d:Datum}{n:Int}(a:Rep d n)(h:n.natAbs<2^53):double.write d=fw n:=by
 obtain⟨m,e,b,rfl,rfl⟩:=a;by_cases H:n=0
 ·subst H
  simp[Format.write,Format.nearest,fw]
 rw[afq H h];exact Jp _ _ e aR h
theorem JK(n:Int)(e up:Nat):signed (decide (n<0)) (n.natAbs*2^e) up=n*2^(e+up):=by
 have H:((n.natAbs*2^e)<<<up:Nat)=n.natAbs*2^(e+up):=by rw[iL,lg,<-iI]
 unfold signed;rw[H];have a:((n.natAbs*2^(e+up):Nat):Int)=(n.natAbs:Int)*2^(e+up):=by simp
 rw[a];by_cases h:n<0
 ·simp only[h,decide_true,if_true]
  rw[<-Int.neg_mul]
  congr 1
  omega
 simp only[h,decide_false,dz,if_false]
 congr 1
 omega
theorem aeI{c d:Datum}{a:Int}(hc:Rep c a)(hd:Rep d b): ∃s,c.sum d=some s/\Rep s (a+b):=by
 obtain⟨m,e,he,rfl,rfl⟩:=hc;obtain⟨m',e',he',rfl,rfl⟩:=hd;unfold Datum.sum;simp only[aD,exists_eq_left'];obtain⟨x,hx⟩: ∃x:Nat,x=max e e':=⟨_,rfl⟩;have hmin:min (-(e:Int)) (-(e':Int))= -(x:Int):=aR;rw[hmin,JK,JK];have h1:e+(-(e:Int) - -(x:Int)).toNat=x:=aR;have h2:e'+(-(e':Int) - -(x:Int)).toNat=x:=aR;rw[h1,h2,<-Int.add_mul];have hp:(0:Int)<2^x:=Int.pow_pos aR;refine⟨((a+b)*2^x).natAbs,x,aR,?_,?_⟩
 ·congr 1
  by_cases h0:a+b=0
  ·rw[h0]
   simp only[Int.zero_mul,if_true,Int.lt_irrefl,decide_false];by_cases ha:a<0
   ·have: ¬b<0:=aR
    simp[this]
   simp[ha]
  have hne:(a+b)*2^x≠0:=Int.mul_ne_zero h0 aR;rw[if_neg hne]
  congr 1
  apply propext;constructor
  ·intro h
   exact Int.lt_of_not_ge fun hge=>by have:=Int.mul_nonneg hge (Int.le_of_lt hp);omega
  intro h;exact Int.mul_neg_of_neg_of_pos h hp
 rw[Int.natAbs_mul]
 congr 1
theorem ZJ{a:Int}(H:a.natAbs<2^53)(c:b.natAbs<2^53)(h:(a+b).natAbs<2^53):double.add (fw a) (fw b)=some (fw (a+b)):=by obtain⟨s,e,d⟩:=aeI (OH H) (OH c);unfold Format.add;rw[e,bP,YN d h]
theorem acr{a:Int}(f:a.natAbs<2^53):(double.read (fw a)).toInt .zero=some a:=by
 obtain⟨m,e,i,h,rfl⟩:=OH f;rw[h];unfold Datum.toInt Datum.integral;have c:(-(e:Int)).toNat=0:=aR;have d:(- -(e:Int)).toNat=e:=aR;simp only[c,d,Nat.shiftLeft_zero];have hcut:Toward.zero.cut (decide (a<0)) (a.natAbs*2^e) e=a.natAbs:=by
  by_cases H:a.natAbs=0
  ·rw[H]
   simp[Toward.cut]
  have g:e<=(a.natAbs*2^e).log2+2:=by rw[yU _ e H];omega
  unfold Toward.cut;rw[fO g,Nat.one_shiftLeft];simp[iT _ (fQ e)]
 rw[hcut];unfold signed;simp only[Nat.shiftLeft_zero];by_cases b:a<0
 ·simp only[b,decide_true,if_true]
  congr 1
  omega
 simp only[b,decide_false,dz,if_false]
 congr 1
 omega
end F
section
open Go.RowKit Go.Proofs.Tryz F
def Small(n:Int):Prop:=n.natAbs<2^53
theorem Small.of{n:Int}(h: -9007199254740991<=n)(H:n<=9007199254740991):Small n:=by unfold Small;have:(2:Nat)^53=9007199254740992:=aV;omega
def Qh(a b:Int):Value:= .complex .f64 (fw a) (fw b)
theorem DZ(w:World)(t:TypeId)(a b c d:Int)(i:Small a)(j:Small b)(k:Small c)(l:Small d)(h:Small (a+c))(H:Small (b+d)):
  (binOp .add t (.complex .f64 (fw a) (fw b)) (.complex .f64 (fw c) (fw d))).run P w= .ok (.complex .f64 (fw (a+c)) (fw (b+d))) w:=by have f:FloatKind.f64.format.add (fw a) (fw c)=some (fw (a+c)):=ZJ i k h;have g:FloatKind.f64.format.add (fw b) (fw d)=some (fw (b+d)):=ZJ j l H;refine run_complex_sum (P:=P) w .add (.inl rfl) t .f64 _ _ _ _ _ _ ?_;have e:floatBits .add .f64 (fw a) (fw c)=some (fw (a+c)):=f;have E:floatBits .add .f64 (fw b) (fw d)=some (fw (b+d)):=g;simp[cSumBits,e,E]
theorem ac3(n:Int)(h:Small n):floatToIntVal .f64 (fw n) .i64=some n:=by have H:(FloatKind.f64.decode (fw n)).toInt .zero=some n:=acr h;unfold floatToIntVal;rw[H];unfold Small at h;have a:(2:Nat)^53=9007199254740992:=aV;rw[a] at h;simp[IntKind.min,IntKind.max,IntKind.signed,IntKind.bits];omega
def Kk(w:World)(a:OA)(n:Nat)(zs:List (Int×Int)):Prop:=gD w a n 1 (zs.map fun z=>Qh z.1 z.2)
def uh(zs:List (Int×Int)):Int:=(zs.map (·.1)).sum
def zK(zs:List (Int×Int)):Int:=(zs.map (·.2)).sum
def Usual(zs:List (Int×Int)):Prop:= ∀z∈zs,0<=z.1/\z.1<=134217728/\0<=z.2/\z.2<=134217728
theorem ace(z:List (Int×Int))(k:Nat)(h:k<z.length):uh (z.take (k+1))=uh (z.take k)+z[k].1/\zK (z.take (k+1))=zK (z.take k)+z[k].2:=by rw[bA h];simp only[uh,zK,bR,lQ,bV,fu,jr,lV,Int.add_zero,and_self]
theorem UK(Z:List (Int×Int))(h:Usual Z):0<=uh Z/\uh Z<=134217728*Z.length/\0<=zK Z/\zK Z<=134217728*Z.length:=by
 induction Z with
 |nil=>simp[uh,zK]
 |cons z Z ih=>
  have a:=h z bJ;have H:=ih (fun x hx=>h x (by simp[hx]));simp only[uh,zK,bV,jr,aY] at H|-;omega
theorem Usual.take{zs:List (Int×Int)}(h:Usual zs)(k:Nat):Usual (zs.take k):=fun z H=>h z (jv H)
theorem aom:fw 1=4607182418800017408:=by decide+kernel
end
section
open Go.RowKit Go.Proofs.Tryz F
theorem Hg(a:OA)(n c:Nat)(zs:List (Int×Int))(w:World)(g:Kk w a n zs)(j:Usual zs)(v:n<=4096):
  Y 240 #[.slice a n c] w fun e w'=>e= .returned (.complex .f64 (fw (uh zs)) (fw (zK zs)))/\w=w':=by
 have hlen:zs.length=n:=by have:=g.1;simpa using this
 go_enter func240,ntmps240
 go_wp2
 go_loop [3,8] (fun z i=> ∃k:Nat,k<=n/\i= U k/\z= .complex .f64 (fw (uh (zs.take k))) (fw (zK (zs.take k)))) (fun _ i=>n -(intOf i).toNat)
 case atStart=>exact⟨0,aR,rfl,by simp[uh,zK,NQ]⟩
 case round=>
  obtain⟨k,u,rfl,rfl⟩:=hrel;by_cases s:k<n
  ·obtain⟨b,o,rfl,_,p⟩:=g.2 aR
   have t:=j zs[k] (bY aR);have d:J w b (o+k) (.complex .f64 (fw zs[k].1) (fw zs[k].2)):=p k _ (by rw[aS,aj aR];rfl);have q:=ace zs k aR;have h:=UK _ (j.take k);have H:(zs.take k).length<=4096:=by rw[cO];omega
   have m:=fun w=>DZ (P:=prog) w 301 (uh (zs.take k)) (zK (zs.take k)) zs[k].1 zs[k].2 (Small.of aR aR) (Small.of aR aR) (Small.of aR aR) (Small.of aR aR) (Small.of aR aR) (Small.of aR aR);have l:=jj q;clear q p h H t j g
   go_wp2
   go_round
   case rel=>exact⟨k+1,aR,by go_num,by rw[l.1,l.2]⟩
   simp[intOf];omega
  have f:k=n:=aR;have r:zs.take k=zs:=dB aR;rw[r];clear r f
  go_wp2
  go_ret;exact⟨rfl,rfl⟩
end
section
open Go.RowKit Go.Proofs.Tryz F
theorem xg(P:Program)(w:World)(a:Addr)(m:Mode)(k:FloatKind)(x y:Nat):(store a (.complex k x y) m).run P w=stored P w a (.complex k x y) m:=run_store P w a _ m rfl
attribute [local go_sem] xg
def FJ(z:Int×Int):Value:=Qh z.1 z.2
def Roomy(st:List (Int×Int)):Prop:= ∀z∈st,0<=z.1/\z.1<=1099511627776/\0<=z.2/\z.2<=1099511627776
structure pJ(w:World)(gm gl:Nat)(st:List (Int×Int)):Prop where
 ex: ∃cap,aZ w gm 244 #[O gl st.length cap]/\Row w gl 301 1 st.length cap (st.map FJ)
section
variable{w w':World}{gm gl:Nat}{st:List (Int×Int)}{S:LN}
theorem pJ.mlt(h:pJ w gm gl st):gm<w.heap.size:=by obtain⟨c,H,a⟩:=h.ex;exact H.lt
theorem pJ.llt(h:pJ w gm gl st):gl<w.heap.size:=by obtain⟨c,a,H⟩:=h.ex;exact H.lt
theorem pJ.only(h:pJ w gm gl st)(H:Only S w w')(a:gm∉S)(b:gl∉S):pJ w' gm gl st:=by obtain⟨c,k1,k⟩:=h.ex;exact⟨c,k1.only H a,k.only H b⟩
theorem pJ.drew(h:pJ w gm gl st):pJ w.drew gm gl st:=⟨h.ex⟩
theorem pJ.ne(h:pJ w gm gl st):gm≠gl:=by obtain⟨c,H,a⟩:=h.ex;exact(a.ne H aV).symm
theorem pJ.at_(h:pJ w gm gl st)(k:Nat)(a:k<st.length):J w gl k (Qh st[k].1 st[k].2):=by obtain⟨c,b,H⟩:=h.ex;exact H.cell (by rw[aS,aj a];rfl)
theorem pJ.fr(h:pJ w gm gl st)(k:Nat):w.frozen? (adZ gl k)=false:=by obtain⟨c,a,H⟩:=h.ex;exact H.frozen k
theorem pJ.head(h:pJ w gm gl st): ∃cap,st.length<=cap/\cap<=maxLen/\J w gm 0 (O gl st.length cap):=by obtain⟨cap,a,H⟩:=h.ex;exact⟨cap,H.EI,H.Vr,a.cell 0⟩
theorem pJ.set(h:pJ w gm gl st)(e:n<st.length)(a b:Int):pJ (w.setCell (adZ gl n) (Qh a b)) gm gl (st.set n (a,b)):=by
 obtain⟨c,H,d⟩:=h.ex;refine⟨c,?_,?_⟩
 ·rw[bG]
  exact H.far (p:=adZ gl n) h.ne _
 rw[bG,eT];exact d.fU n (Qh a b)
end
theorem Ot(g G:Nat)(st:List (Int×Int))(k:Int)(w:World)(h:pJ w g G st)(i:st.length<=5)(d:qX k)(b:Bool)(H:decide (0<=k/\k<st.length)=b):
  Y 290 #[g,U k] w fun e w'=>e=acK b/\w=w':=by
 obtain⟨C,_,_,f⟩:=h.head;clear h;unfold qX at d;by_cases a:0<=k
 ·by_cases c:k<st.length
  ·obtain rfl:b=true:=by rw[<-H];exact decide_eq_true ⟨a,c⟩
   clear H;go_enter func290,ntmps290
   go_wp2
   go_ret;exact⟨rfl,rfl⟩
  obtain rfl:b=false:=by rw[<-H];exact decide_eq_false fun h=>c h.2
  clear H;go_enter func290,ntmps290
  go_wp2
  go_ret;exact⟨rfl,rfl⟩
 obtain rfl:b=false:=by rw[<-H];exact decide_eq_false fun h=>a h.1
 clear H;go_enter func290,ntmps290
 go_wp2
 go_ret;exact⟨rfl,rfl⟩
def VU(st:List (Int×Int))(k:Int):Bool:=decide (0<=k/\k<st.length)
def PU(st:List (Int×Int))(k t:Int):Bool:=VU st k&&decide (0<=t/\t<=1048576)
def Xz(st:List (Int×Int))(k t:Int):List (Int×Int):=if PU st k t then st.set k.toNat ((st.getD k.toNat (0,0)).1+1,(st.getD k.toNat (0,0)).2+t) else st
theorem ajE(j G:Nat)(st:List (Int×Int))(k t:Int)(w:World)(h:pJ w j G st)(q:st.length<=5)(v:Roomy st)(p:qX k)(D:qX t)(b:Bool)(a:PU st k t=b)(st':List (Int×Int))(i:Xz st k t=st'):
  Y 267 #[j,U k,U t] w fun e w'=>e=acK b/\pJ w' j G st'/\Only [G] w w':=by
 have H:=jj h;obtain⟨y,_,_,B⟩:=h.head;by_cases f:0<=k/\k<st.length
 ·obtain⟨n,rfl⟩:=bB f.1
  have g:n<st.length:=aR;have c:VU st n=true:=decide_eq_true f;have m:=jj (show decide (0<=(n:Int)/\(n:Int)<st.length)=true from c);have I:(0:Int)<=n:=f.1;have E:(n:Int)<st.length:=f.2;rcases(show t<0\/(¬t<0/\1048576<t)\/(0<=t/\t<=1048576) by omega) with t1|⟨t1,t2⟩|⟨t1,t2⟩
  ·obtain rfl:b=false:=by rw[<-a];unfold PU;rw[c,decide_eq_false aR];rfl
   obtain rfl:st'=st:=by rw[<-i];unfold Xz;rw[a];rfl
   clear a i c f h;go_enter func267,ntmps267
   go_wp2_with(go_at_call 290;refine(Ot j G st' _ _ H q p true m).mono ?_;rintro e w' ⟨rfl,rfl⟩)
   go_ret;exact⟨rfl,H,Only.refl _ _⟩
  ·obtain rfl:b=false:=by rw[<-a];unfold PU;rw[c,decide_eq_false aR];rfl
   obtain rfl:st'=st:=by rw[<-i];unfold Xz;rw[a];rfl
   clear a i c f h;go_enter func267,ntmps267
   go_wp2_with(go_at_call 290;refine(Ot j G st' _ _ H q p true m).mono ?_;rintro e w' ⟨rfl,rfl⟩)
   go_ret;exact⟨rfl,H,Only.refl _ _⟩
  obtain rfl:b=true:=by rw[<-a];unfold PU;rw[c,decide_eq_true ⟨t1,t2⟩];rfl
  have u:st.getD n (0,0)=st[n]:=by simp[List.getD,g]
  have l:st'=st.set n (st[n].1+1,st[n].2+t):=by rw[<-i];unfold Xz;rw[a,bI,u];rfl
  have x:=v _ (bY g);have C:=h.at_ n g;have F:=h.fr n;obtain⟨z,o⟩:=ex st[n];rw[<-o] at l x C;obtain⟨N,T⟩:=z;have A:J w G n (.complex .f64 (fw N) (fw T)):=C;have d:=fun w=>DZ (P:=prog) w 301 N T 1 t (Small.of aR aR) (Small.of aR aR) (Small.of aR aR) (Small.of aR aR) (Small.of aR aR) (Small.of aR aR);rw[aom] at d;have s: ∀w,(binOp .add 301 (.complex .f64 (fw N) (fw T)) (.complex .f64 4607182418800017408 (floatOfInt .f64 t))).run prog w= .ok (.complex .f64 (fw (N+1)) (fw (T+t))) w:=d;have r:=jj l;clear a i c f h u l x C o d v;go_enter func267,ntmps267
  go_wp2_with(go_at_call 290;refine(Ot j G st _ _ H q p true m).mono ?_;rintro e w' ⟨rfl,rfl⟩)
  go_still_tail 17,(by kernel_rfl)
  change wpList _ _ _ _ _ w.drew;go_wp2_with fail;go_ret;exact⟨rfl,by rw[r.out];exact(H.set g (N+1) (T+t)).drew,((Only.refl _ _).setCell (.inl bJ) _).drew⟩
 have c:VU st k=false:=decide_eq_false f;obtain rfl:b=false:=by rw[<-a];unfold PU;rw[c];rfl
 obtain rfl:st'=st:=by rw[<-i];unfold Xz;rw[a];rfl
 have m:=jj (show decide (0<=k/\k<st'.length)=false from c);clear a i f c h;go_enter func267,ntmps267
 go_wp2_with(go_at_call 290;refine(Ot j G st' _ _ H q p false m).mono ?_;rintro e w' ⟨rfl,rfl⟩)
 go_ret;exact⟨rfl,H,Only.refl _ _⟩
theorem Mg:(prog.info? 301).map (fun i=>(i.zero,i.size,i.bytes))=some (some (.complex .f64 0 0),1,16):=by kernel_rfl
theorem Jl(n:Nat):madeCells #[.complex .f64 0 0] (n*1)=((List.replicate n ((0,0):Int×Int)).map FJ).toArray:=by
 have e:FJ (0,0)= .complex .f64 0 0:=by show Value.complex .f64 (fw 0) (fw 0)=_;rw[NQ]
 rw[List.map_replicate,e];apply Array.toList_inj.1;rw[fP,toList_madeCells_one]
theorem ad8(z:Int)(n:Nat)(g:z=n)(j:1<=n)(k:n<=5)(w:World):
  Y 79 #[U z] w fun e w'=> ∃gm gl,e=acK (ac2 #[(gm:Nat),U 0])/\pJ w' gm gl (List.replicate n (0,0))/\w.heap.size<=gm/\w.heap.size<=gl/\Be w w':=by
 subst g;obtain⟨i,H,a,b,c⟩:=info_parts Mg;have h:=fun W=>run_make (P:=prog) W 242 301 i _ underlying242 H a .i64 .i64 n n aR aR (by rw[c];omega) aR;rw[b] at h;simp only[bI,Value.cells,Jl] at h;obtain⟨C,d⟩:=ex (((List.replicate n ((0,0):Int×Int)).map FJ).toArray);rw[<-d] at h;have f:=jj d;clear H a b c d;go_enter func79,ntmps79
 go_wp2
 go_ret2
 refine⟨w.heap.size+1,w.heap.size,rfl,⟨n,?_,?_⟩,?_,?_,nC.alloc bJ _⟩
 ·simp only[fC]
  exact aZ.new' _ _ _ bJ
 ·simp only[fC]
  have e:=Row.nR (n:=n) (s:=1) ((aZ.new w 301 C).alloc (.cells #[O w.heap.size n n] 244)) (by rw[f.out];simp) (by unfold maxLen;omega);rw[f.out] at e|-;exact e
 ·simp
 simp
end
section
open Go.RowKit Go.Proofs.Tryz F
theorem XY(st:List (Int×Int)): ∀u∈st.map FJ,u.oneCell'=true:=by intro u h;simp only[bM] at h;obtain⟨p,_,rfl⟩:=h;rfl
theorem aa4(l G:Nat)(st:List (Int×Int))(w:World)(h:pJ w l G st)(t:1<=st.length)(s:st.length<=5):
  Y 130 #[l] w fun e w'=> ∃g cap,e=acK (O g st.length cap)/\Row w' g 301 1 st.length cap (st.map FJ)/\w.heap.size<=g/\Be w w':=by
 obtain⟨I,d,f,i,j⟩:=info_parts Mg;obtain⟨cap,k1,K⟩:=h.ex;have v:=k1.at_ 0;have hlen:=jj K.len;have c:=jj K.news;have u:st.length<=5:=s;clear k1 K h;go_enter func130,ntmps130
 go_wp2_with(at_builtin;refine wpList_append_lies _ rfl (.const ()) (.tmp 6) _ rfl 0 301 I _ 1 16 underlying242 d f i j rfl aR () 0 [] rfl ⟨bJ,.inl ⟨rfl,rfl⟩⟩ (adZ G 0) st.length cap (st.map FJ) rfl hlen c (XY st) aR (by unfold maxLen;omega) aR (bF _) w.heap.size rfl ?_;intro g C w1 H a b m)
 have q:g=w.heap.size:=by
  rcases b with h|h
  ·cases h
  exact h
 subst q;simp only[aO,bU] at H;have n:Only [] w w1:=(Only.refl [] w).grown a (fun k r=>by cases r);have o:=jj n.mY;have p:=jj H;clear H a b n;go_ret;exact⟨w.heap.size,C,bJ,Row.sG p,aF _,o⟩
theorem aa5(a d:Nat)(st:List (Int×Int))(w:World)(h:pJ w a d st)(l:1<=st.length)(n:st.length<=5):
  Y 97 #[a] w fun e w'=> ∃G b,e=acK (G:Nat)/\pJ w' G b st/\w.heap.size<=G/\w.heap.size<=b/\Be w w':=by
 have H:=jj h;clear h;go_enter func97,ntmps97;go_wp2_with fail;refine(aa4 a d st _ H l n).mono ?_;rintro e W ⟨g,c,rfl,i,m,f⟩;have k:=jj i;have j:=f.size;clear i
 go_wp2
 go_ret;exact⟨W.heap.size,g,rfl,⟨c,aZ.new _ _ _,k.alloc _⟩,j,m,f.alloc j _⟩
end
section
open Go.RowKit Go.Proofs.Tryz F
attribute [local go_sem] xg
section
variable{w w':World}{gp cap:Nat}{st:List (Int×Int)}{S:LN}
end
theorem aeE(G g:Nat)(st:List (Int×Int))(w:World)(h:pJ w G g st)(u:st.length<=5):
  Y 131 #[G] w fun e w'=>e= .returned (.tuple #[])/\pJ w' G g (List.replicate st.length (0,0))/\Only [g] w w':=by
 obtain⟨q,_,_,s⟩:=h.head;have H:=jj h;obtain⟨n,a⟩:=ex st.length;rw[<-a] at s u|-;have N:=jj a;clear h a;go_enter func131,ntmps131;go_wp2_with fail;go_loopw [8] (fun i wr=> ∃(k:Nat) (L:List (Int×Int)),k<=n/\i= U k/\pJ wr G g L/\L.length=n/\(∀j,j<k->L[j]?=some (0,0))/\Only [g] w wr) (fun i _=>n -(intOf i).toNat)
 case atStart=>exact⟨0,st,aR,rfl,H,N.symm,bJ,Only.refl _ _⟩
 case round=>
  obtain⟨k,L,v,rfl,b,d,o,m⟩:=hrel;obtain⟨p,_,_,r⟩:=b.head;obtain⟨M,l,Z,O⟩:=j4 b d o m;rw[d] at r;by_cases t:k<n
  ·have C:=b.at_ k aR
   have F:=b.fr k;unfold Qh at C;obtain⟨z,c⟩:=ex (L[k]' aR);rw[<-c] at C;clear c;have I:(0:Int)<=k:=aR;have x:(k:Int)<n:=aR;clear b d o m;go_wp2_with fail;go_roundw
   case rel=>
    refine⟨k+1,L.set k (0,0),aR,by go_num,?_,by rw[bG];exact l.out,fun j f=> ?_,O.setCell (.inl bJ) _⟩
    ·have e:=M.set (n:=k) (tL l.out) 0 0
     unfold Qh at e;rw[NQ] at e;exact e
    rw[je];split
    ·rename_i e
     subst e;rw[if_pos (tL l.out)]
    exact Z.out j aR
   case measure=>simp[intOf];omega
  have e:L=List.replicate n (0,0):=by
   apply dD;intro j;rw[dI];by_cases f:j<n
   ·rw[if_pos f];exact Z.out j aR
   rw[if_neg f,fT (tL l.out)]
  rw[e] at M;clear b d o m e;go_wp2_with fail;go_end0
  exact⟨rfl,M,O⟩
end
abbrev Vt:=Bool×Int×Int
def xw(p:Vt):List Value:= [p.1,U p.2.1,U p.2.2]
theorem Nk(p:Vt):(xw p).length=3:=rfl
structure zQ(w:World)(gv gl:Nat)(f:Int)(L:List Vt):Prop where
 ex: ∃cap,aZ w gv 236 #[U f,O gl L.length cap]/\Row w gl 364 3 L.length cap (L.flatMap xw)
section
variable{w w':World}{gv gl:Nat}{f:Int}{L:List Vt}{S:LN}
theorem zQ.vlt(h:zQ w gv gl f L):gv<w.heap.size:=by obtain⟨c,H,a⟩:=h.ex;exact H.lt
theorem zQ.llt(h:zQ w gv gl f L):gl<w.heap.size:=by obtain⟨c,a,H⟩:=h.ex;exact H.lt
theorem zQ.only(h:zQ w gv gl f L)(H:Only S w w')(a:gv∉S)(b:gl∉S):zQ w' gv gl f L:=by obtain⟨c,k1,k⟩:=h.ex;exact⟨c,k1.only H a,k.only H b⟩
end
theorem Mj:(prog.info? 364).map (fun i=>(i.zero,i.size,i.bytes))=some (some (acY #[false,U 0,U 0]),3,24):=by kernel_rfl
theorem Jm(n:Nat):madeCells #[false,U 0,U 0] (n*3)=((List.replicate n ((false,0,0):Vt)).flatMap xw).toArray:=by
 apply gP;intro i;simp only[cZ];have a:i=i/3*3+i%3:=aR;rw[show((List.replicate n ((false,0,0):Vt)).flatMap xw)[i]?=((List.replicate n ((false,0,0):Vt)).flatMap xw)[i/3*3+i%3]? by rw[<-a],flat_get xw 3 Nk _ _ _ (ji _ aR)];by_cases H:i<n*3
 ·have h:i/3<n:=aR
  rcases(show i%3=0\/i%3=1\/i%3=2 by omega) with hm|hm|hm
  ·simp[madeCells,H,h,hm,xw]
  ·simp[madeCells,H,h,hm,xw]
  simp[madeCells,H,h,hm,xw]
 have h: ¬i/3<n:=aR;simp[madeCells,H,h]
theorem aeT(f:Int)(n:Nat)(g:1<=f/\f<=4)(j:3*f+1=n)(w:World):
  Y 76 #[U f] w fun e w'=> ∃gv gl,e=acK (ac2 #[(gv:Nat),U 0])/\zQ w' gv gl f (List.replicate n (false,0,0))/\w.heap.size<=gv/\w.heap.size<=gl/\Be w w':=by
 obtain⟨I,H,a,b,c⟩:=info_parts Mj;have h:=fun W=>run_make (P:=prog) W 234 364 I _ underlying234 H a .i64 .i64 n n aR aR (by rw[c];omega) aR;rw[b] at h;simp only[bI,Value.cells,Jm] at h;obtain⟨C,d⟩:=ex (((List.replicate n ((false,0,0):Vt)).flatMap xw).toArray);rw[<-d] at h;have i:=jj d;have k:=jj j;have F:=g.1;have l:=g.2;have N:n<=13:=aR;clear H a b c d j g;go_enter func76,ntmps76;go_wp2_with fail;refine(oC f _ F l).mono ?_;rintro e w' ⟨rfl,rfl⟩;rw[k.out]
 go_wp2
 go_ret2
 refine⟨w.heap.size+1,w.heap.size,rfl,⟨n,?_,?_⟩,?_,?_,nC.alloc bJ _⟩
 ·simp only[fC]
  exact aZ.new' _ _ _ bJ
 ·simp only[fC]
  have e:=Row.nR (n:=n) (s:=3) ((aZ.new w 364 C).alloc (.cells #[U f,O w.heap.size n n] 236)) (by rw[i.out];simp[qj xw 3 Nk]) (by unfold maxLen;omega);rw[i.out] at e|-;exact e
 ·simp
 simp
theorem Fixed.mv{t:TypeId}(h:Fixed x w t a)(c:Fixed x w' t a)(e:w.heap.size<=y):Fixed y w' t a:=fun b H=>by obtain⟨_,cs,d⟩:=h b H;have:=d.lt;exact⟨aR,(c b H).2⟩
theorem sK.mv{bs:List Rq}(h:sK x w a n c bs)(H:sK x w' a n c bs)(b:w.heap.size<=y):sK y w' a n c bs:=⟨H.row,h.fix.mv H.fix b⟩
theorem CF.mv{cd:CD}(h:CF x w cd)(H:CF x w' cd)(a:w.heap.size<=y):CF y w' cd:=⟨H.is,h.b.mv H.b a,h.v.mv H.v a⟩
theorem mM.mv{s:CQ}(h:mM x w f n g s)(H:mM x w' f n g s)(b:w.heap.size<=y):mM y w' f n g s:=
 ⟨H.blk,H.bp,H.bc,H.np,H.nc,H.ne,h.b.mv H.b b,fun v a=>sK.mv (h.ps v a) (H.ps v a) b,fun v a=>sK.mv (h.cs v a) (H.cs v a) b⟩
theorem eU.mv{num ahead:Int}{gi:Nat}{i:tJ}(h:eU x w f n num ahead gi i)(H:eU x w' f n num ahead gi i)(b:w.heap.size<=y):eU y w' f n num ahead gi i:=
 ⟨H.blk,H.row,H.len,H.cap,fun p a=>⟨(h.at_ p a).slot.mv (H.at_ p a).slot b,(h.at_ p a).cert.mv (H.at_ p a).cert b,(h.at_ p a).dw.mv (H.at_ p a).dw b,(H.at_ p a).short⟩,H.sep⟩
theorem nJ.mv{L:List wN}(h:nJ x w A m c L)(H:nJ x w' A m c L)(b:w.heap.size<=y):nJ y w' A m c L:=
 ⟨H.own,H.len,fun s a=>⟨(H.is s a).row,(H.is s a).len,(h.is s a).fix.mv (H.is s a).fix b,(H.is s a).cap⟩⟩
def Plain(w:World)(g:Nat):Prop:= ∀t cs,aZ w g t cs->t∉KH/\t≠228
theorem Plain.of{t:TypeId}{cs:AV}(h:aZ w g t cs)(a:t∉KH/\t≠228):Plain w g:=fun T c H=>by unfold aZ at h H;rw[h] at H;injection H with H;injection H with _ ht';exact ht'▸a
theorem Plain.own{base:Nat}{t:TypeId}(h:w.ownsRow base t s (acX a n c) n xs)(d:t∉KH/\t≠228): ∀g∈(a.map (·.block)).toList,Plain w g:=fun g b=>by obtain⟨_,cs,H⟩:=dx h g b;exact Plain.of H d
theorem Plain.row{t:TypeId}(h:Row w g t s n cap xs)(a:t∉KH/\t≠228):Plain w g:=by obtain⟨c,H,_⟩:=h.parts;exact Plain.of H a
structure Pure(F:LN)(P:World->Prop):Prop where
 only: ∀{w w':World} {S:LN},P w->Only S w w'->(∀k∈F,k∉S)->P w'
 lt: ∀{w:World},P w-> ∀k∈F,k<w.heap.size
 plain: ∀{w:World},P w-> ∀k∈F,Plain w k
def nM(F:LN)(P:World->Prop):ni:=⟨F,fun _ w=>P w⟩
theorem Pure.good{F:LN}{P:World->Prop}(h:Pure F P):(nM F P).Good:=
 ⟨fun H d _ _ c=>h.only H d c,fun H _=>H,fun _ H _=>H,fun H=>h.lt H,fun H k b=> .inr fun t cs a=>(h.plain H k b t cs a).1,fun H k b cs a=>(h.plain H k b _ cs a).2 rfl⟩
def mW(g:Nat)(t:TypeId)(cs:AV):ni:=nM [g] fun w=>aZ w g t cs
theorem oF(g:Nat)(t:TypeId)(cs:AV)(c:t∉KH/\t≠228):(mW g t cs).Good:=
 Pure.good ⟨fun H b a=>H.only b (a _ bJ),fun H k h=>by
  simp only[au] at h;subst h;exact H.lt,fun H k h=>by simp only[au] at h;subst h;exact Plain.of H c⟩
def tZ(nn b:Nat)(K:List (Int×List Int)):ni:=nM [nn,b] fun w=>vC w nn b K
theorem EX(nn b:Nat)(K:List (Int×List Int)):(tZ nn b K).Good:=
 Pure.good ⟨fun h d a=>h.only d (a _ bJ) (a _ bJ),fun h k H=>by
  simp only[ay,aI,or_false] at H;rcases H with rfl|rfl
  ·exact h.obj.lt
  ·exact h.map.lt,fun h k H=>by
  simp only[ay,aI,or_false] at H;rcases H with rfl|rfl
  ·exact Plain.of h.obj aV
  exact fun t cs c=>absurd rfl (h.far c)⟩
def Da(gt:Nat)(now:Int):ni:=nM [gt] fun w=>vT w gt now
theorem Lp(g:Nat)(now:Int):(Da g now).Good:=oF _ _ _ aV
def abR(g:Nat)(t:TypeId)(s n cap:Nat)(xs:LV):ni:=nM [g] fun w=>Row w g t s n cap xs
theorem Yv(g:Nat)(t:TypeId)(s n cap:Nat)(xs:LV)(c:t∉KH/\t≠228):(abR g t s n cap xs).Good:=
 Pure.good ⟨fun H b a=>H.only b (a _ bJ),fun H k h=>by
  simp only[au] at h;subst h;exact H.lt,fun H k h=>by simp only[au] at h;subst h;exact Plain.row H c⟩
def Fg(gt:Nat)(f cl:Int)(T:List oO)(S:LN):ni:=nM S fun w=>TabAt w gt f cl T S
theorem Nh(g:Nat)(f cl:Int)(T:List oO)(S:LN):(Fg g f cl T S).Good:=
 Pure.good ⟨fun h e d=>h.only e d,fun h=>h.lt,fun h k H=>by
  obtain⟨a,c,rfl,b,i⟩:=h.ex;simp only[ay] at H;rcases H with rfl|H
  ·exact Plain.of b aV
  exact Plain.own i aV k H⟩
def Gw(gv gl:Nat)(f:Int)(L:List Vt):ni:=nM [gv,gl] fun w=>zQ w gv gl f L
theorem YH(G g:Nat)(f:Int)(L:List Vt):(Gw G g f L).Good:=
 Pure.good ⟨fun h d a=>h.only d (a _ bJ) (a _ bJ),fun h k H=>by
  simp only[ay,aI,or_false] at H;rcases H with rfl|rfl
  ·exact h.vlt
  ·exact h.llt,fun h k H=>by
  obtain⟨c,b,e⟩:=h.ex;simp only[ay,aI,or_false] at H;rcases H with rfl|rfl
  ·exact Plain.of b aV
  exact Plain.row e aV⟩
def Gr(g:Nat)(m t:Int):ni:=nM [g] fun w=>Ld w g m t
theorem XH(g:Nat)(m t:Int):(Gr g m t).Good:=oF _ _ _ aV
theorem PY(a:OA):blks a=(a.map (·.block)).toList:=by cases a<;>rfl
def ET(S:LN)(gd C:Nat)(es:List CY)(st:List (Bool×Int))(ct:List (Int×Int)):ni:=nM S fun w=>Er w S gd C es st ct
theorem Mq(S:LN)(g C:Nat)(es:List CY)(st:List (Bool×Int))(ct:List (Int×Int)):(ET S g C es st ct).Good:=
 Pure.good ⟨fun H j i=>H.only j i,fun H=>H.lt,fun H k h=>by
  obtain⟨p,G,o,a,d,rfl,e,l,m,f⟩:=H.ex;obtain⟨n,b,c⟩:=f.ex;rw[PY] at h;simp only[ay] at h;rcases h with rfl|rfl|rfl|rfl|h
  ·exact Plain.of e aV
  ·exact Plain.of m.b aV
  ·exact Plain.of b aV
  ·exact Plain.row c aV
  exact Plain.own l aV k h⟩
def Dx(gm gl:Nat)(st:List (Int×Int)):ni:=nM [gm,gl] fun w=>pJ w gm gl st
theorem Mx(G g:Nat)(st:List (Int×Int)):(Dx G g st).Good:=
 Pure.good ⟨fun h d a=>h.only d (a _ bJ) (a _ bJ),fun h k H=>by
  simp only[ay,aI,or_false] at H;rcases H with rfl|rfl
  ·exact h.mlt
  ·exact h.llt,fun h k H=>by
  obtain⟨c,b,e⟩:=h.ex;simp only[ay,aI,or_false] at H;rcases H with rfl|rfl
  ·exact Plain.of b aV
  exact Plain.row e aV⟩
structure xG(w:World)(g cap:Nat)(l:List (Nat×List Int)):Prop where
 out:Row w g 35 1 l.length cap (l.map fun p=> acX (some ⟨p.1,0,none⟩) p.2.length p.2.length)
 KI: ∀p∈l,aZ w p.1 3 (ints p.2)
 sep:(l.map Prod.fst).Nodup
def wJ(g cap:Nat)(l:List (Nat×List Int)):ni:=nM (g::l.map Prod.fst) fun w=>xG w g cap l
theorem xG.only(h:xG w g cap l)(a:Only S w w')(H: ∀k∈g::l.map Prod.fst,k∉S):xG w' g cap l:=
 ⟨h.out.only a (H _ bJ),fun p b=>(h.KI p b).only a (H _ (cK _ (bM.2 ⟨p,b,rfl⟩))),h.sep⟩
theorem yY(g cap:Nat)(l:List (Nat×List Int)):(wJ g cap l).Good:=
 Pure.good ⟨fun H b a=>H.only b a,fun H k h=>by
  simp only[ay,bM] at h;rcases h with rfl|⟨p,h,rfl⟩
  ·exact H.out.lt
  ·exact(H.KI p h).lt,fun H k h=>by
  simp only[ay,bM] at h;rcases h with rfl|⟨p,h,rfl⟩
  ·exact Plain.row H.out aV
  exact Plain.of (H.KI p h) aV⟩
theorem xG.set(h:xG w g cap l){p:Nat×List Int}(c:l[j]?=some p)(i:Nat)(n:Int):xG (w.setCell ⟨p.1,i,none⟩ (U n)) g cap (l.set j (p.1,p.2.set i n)):=by
 have a:j<l.length:=(ah.1 c).1;have m:=ak c;obtain⟨_,e⟩:=ah.1 c;have gne:g≠p.1:=by obtain⟨C,t,_⟩:=h.out.parts;exact t.nY (h.KI p m) aV
 have r:(l.set j (p.1,p.2.set i n)).map Prod.fst=l.map Prod.fst:=by
  rw[eT];refine dD fun k=> ?_;by_cases H:k=j
  ·subst H
   rw[aL (mR a),aS,c];rfl
  rw[aX (dR H)]
 have s:(l.set j (p.1,p.2.set i n)).map (fun p=>Value.slice (some ⟨p.1,0,none⟩) p.2.length p.2.length)=l.map fun p=>Value.slice (some ⟨p.1,0,none⟩) p.2.length p.2.length:=by
  rw[eT];refine dD fun k=> ?_;by_cases H:k=j
  ·subst H
   rw[aL (mR a),aS,c];simp
  rw[aX (dR H)]
 refine⟨?_,fun q v=> ?_,by rw[r];exact h.sep⟩
 ·rw[s,bG]
  exact h.out.far gne _
 obtain⟨k,H⟩:=bT.1 v;by_cases d:k=j
 ·subst d
  rw[aL a] at H;injection H with H;subst H;have:=(h.KI p m).fU i (U n);rw[ints_set] at this;exact this
 rw[aX (dR d)] at H;have f:k<l.length:=(ah.1 H).1;refine(h.KI q (ak H)).far (fun E=> ?_) _;have N:=fun(i j:Nat) (u:i<(l.map Prod.fst).length) (c:j<(l.map Prod.fst).length) (b:i<j)=>eO.1 h.sep i j u c b;obtain⟨_,o⟩:=ah.1 H;rcases Nat.lt_or_gt_of_ne d with b|b
 ·exact N k j (mR f) (mR a) b (by simp only[List.getElem_map,e,o];exact E)
 exact N j k (mR a) (mR f) b (by simp only[List.getElem_map,e,o];exact E.symm)
def Cv(A:OA)(c:Nat)(L:List wN):ni:=⟨(A.map (·.block)).toList,fun x w=>nJ x w A L.length c L⟩
theorem EY(A:OA)(c:Nat)(L:List wN):(Cv A c L).Good:=
 ⟨fun h j e _ i=>nJ.only h j e fun b f=>i b (aJ.2 f),fun h a=>nJ.re h a,fun h d a=>nJ.mv h d a,fun h k H=>(h.own.lt k (by rw[dQ];exact aJ.1 H)).2,
  fun h=>wH h.own aV,fun h k H cs g=>(Plain.own h.own aV k H _ cs g).2 rfl⟩
def zX(f:Int)(n:Nat)(k:Nat)(gi:Nat)(i:tJ):ni:=⟨i.foot gi,fun x w=>eU x w f n k 4 gi i⟩
theorem Ja(f:Int)(n k gi:Nat)(i:tJ):(zX f n k gi i).Good:=
 ⟨fun h j e _ g=>eU.only h j e g,fun h c=>eU.re h c,fun h d c=>eU.mv h d c,fun h=>eU.lt h,fun h=>eU.soft h,fun h q H cs a=>by
  replace H:q∈i.foot gi:=H;replace h:eU _ _ f n k 4 gi i:=h;simp only[tJ.foot,ay,bg] at H;rcases H with rfl|rfl|⟨p,b,H⟩
  ·exact h.blk.nY a aV rfl
  ·exact h.row.nY a aV rfl
  have s:=(h.at_ p b).slot;simp only[qm.foot,CQ.foot,ay,aI,or_false] at H;rcases H with rfl|rfl|rfl
  ·exact s.blk.nY a aV rfl
  ·exact s.bp.nY a aV rfl
  exact s.bc.nY a aV rfl⟩
def sD(f:Int)(n:Nat):Nat->List (Nat×tJ)->List ni
 |_,[]=> []
 |k,(g,i)::l=>zX f n k g i::sD f n (k+1) l
theorem Jc(f:Int)(n:Nat): ∀(l:List (Nat×tJ)) (k j:Nat),(sD f n k l)[j]?=l[j]?.map fun p=>zX f n (k+j) p.1 p.2
 | [],k,j=>by simp[sD]
 |(g,i)::l,k,0=>by simp[sD]
 |(g,i)::l,k,j+1=>by have:=Jc f n l (k+1) j;rw[show k+1+j=k+(j+1) by omega] at this;simpa[sD] using this
theorem Jd(f:Int)(n:Nat)(g:Nat)(i:tJ): ∀(l:List (Nat×tJ)) (k j:Nat),(sD f n k l).set j (zX f n (k+j) g i)=sD f n k (l.set j (g,i))
 | [],k,j=>rfl
 |(g',i')::l,k,0=>rfl
 |(g',i')::l,k,j+1=>by have:=Jd f n g i l (k+1) j;rw[show k+1+j=k+(j+1) by omega] at this;simp[sD,this]
structure bK where
 nn:Nat
 gt:Nat
 now:Int
 gr:Nat
 rX:Nat
 is:List (Nat×tJ)
 nH:Nat
 T:List oO
 ST:List Nat
 gv:Nat
 Iz:Nat
 V:List Vt
 gg:Nat
 gd:Nat
 SL:List Nat
 es:List CY
 st:List (Bool×Int)
 ct:List (Int×Int)
 gm:Nat
 Dl:Nat
 ga:List (Int×Int)
 gp:Nat
 xU:List Value
 gb:Nat
 vZ:List Value
 xL:Nat
 Aq:Nat
 nN:List (Nat×List Int)
 xK:Nat
 zR:Nat
 nG:List (Nat×List Int)
 run:Int
 view:Int
 vk:Int
 since:Int
 start:Int
 stopped:Bool
 oa:Option Addr
 oc:Nat
 ol:List wN
 c0:Int
 c1:Int
 c2:Int
 c3:Int
 c4:Int
abbrev bK.outs(d:bK)(A:OA)(c:Nat)(L:List wN):bK:={d with oa:=A,oc:=c,ol:=L}
abbrev bK.runs(d:bK)(z:Int):bK:={d with run:=z}
abbrev bK.GU(d:bK)(t:Int):bK:={d with now:=t}
abbrev bK.tabled(d:bK)(T:List oO)(ST:LN):bK:={d with T:=T,ST:=ST}
abbrev bK.booked(d:bK)(SL:LN)(es:List CY)(st:List (Bool×Int))(ct:List (Int×Int)):bK:={d with SL:=SL,es:=es,st:=st,ct:=ct}
abbrev bK.yS(d:bK)(ga:List (Int×Int)):bK:={d with ga:=ga}
abbrev bK.insts(d:bK)(k g:Nat)(i:tJ):bK:={d with is:=d.is.set k (g,i)}
abbrev bK.XA(d:bK)(j:Nat)(p:Nat×List Int)(i:Nat)(z:Int):bK:={d with nG:=d.nG.set j (p.1,p.2.set i z)}
abbrev bK.pred(d:bK)(j:Nat)(p:Nat×List Int)(i:Nat)(z:Int):bK:={d with nN:=d.nN.set j (p.1,p.2.set i z)}
def yB(f id:Int)(d:bK):Array Value:=#[U f,U 2,U 2,U 4,U 64,U 8,U 8,U 8,U 1,U 2,U 12,U 8,U 6,U 2,U 6,
 U id,.pointer (some ⟨d.nn,0,none⟩),.pointer (some ⟨d.gt,0,none⟩),acX (some ⟨d.gr,0,none⟩) d.is.length d.rX,.pointer (some ⟨d.nH,0,none⟩),.pointer (some ⟨d.gv,0,none⟩),.pointer (some ⟨d.gg,0,none⟩),.pointer (some ⟨d.gd,0,none⟩),.pointer (some ⟨d.gm,0,none⟩),
 acX (some ⟨d.gp,0,none⟩) (d.xU.length/5) (d.xU.length/5),acX (some ⟨d.gb,0,none⟩) (d.vZ.length/11) (d.vZ.length/11),acX (some ⟨d.xL,0,none⟩) d.nN.length d.Aq,acX (some ⟨d.xK,0,none⟩) d.nG.length d.zR,
 U d.run,U d.view,U d.vk,U d.since,U d.start,d.stopped,acX d.oa d.ol.length d.oc,U d.c0,U d.c1,U d.c2,U d.c3,U d.c4]
def sF(f id:Int)(n gx:Nat)(d:bK):List ni:=
 mW gx 131 (yB f id d)::Da d.gt d.now::abR d.gr 164 1 d.is.length d.rX (d.is.map fun p=> .pointer (some ⟨p.1,0,none⟩))::Fg d.nH f 2 d.T d.ST::Gw d.gv d.Iz f d.V::Gr d.gg 8 8::
 ET d.SL d.gd 2 d.es d.st d.ct::Dx d.gm d.Dl d.ga::mW d.gp 290 d.xU.toArray::mW d.gb 292 d.vZ.toArray::wJ d.xL d.Aq d.nN::wJ d.xK d.zR d.nG::Cv d.oa d.oc d.ol::sD f n 0 d.is
structure uU where
 n:Nat
 ps:List Int
 ap:Option Addr
 cp:Nat
 al:Option Addr
 cl:Nat
 ra:Nat->Option Addr
 rc:Nat->Nat
 q:Nat->Nat
 g:Nat->Nat
 lost:Nat->Int
 ms:Nat->List (Value×List Int)
abbrev uU.qs(d:uU)(g:Nat->Nat)(lost:Nat->Int)(ms:Nat->List (Value×List Int)):uU:={d with g:=g,lost:=lost,ms:=ms}
def uU.foot(gn:Nat)(d:uU):List Nat:=gn::((d.ap.map (·.block)).toList++((d.al.map (·.block)).toList++((List.range d.n).flatMap (fun a=>((d.ra a).map (·.block)).toList)++(List.range (d.n*d.n)).flatMap fun k=> [d.q k,d.g k])))
structure oD(w:World)(gn:Nat)(room:Int)(d:uU):Prop where
 blk:aZ w gn 158 #[acX d.ap d.n d.cp,acX d.al d.n d.cl]
 pr:w.ownsRow 0 3 1 (acX d.ap d.n d.cp) d.n (d.ps.map fun(x:Int)=>Value.int .i64 x)
 lr:w.ownsRow 0 159 1 (acX d.al d.n d.cl) d.n ((List.range d.n).map fun a=>Value.slice (d.ra a) d.n (d.rc a))
 rr: ∀a,a<d.n->w.ownsRow 0 160 1 (acX (d.ra a) d.n (d.rc a)) d.n ((List.range d.n).map fun b=>Value.pointer (some ⟨d.q (a*d.n+b),0,none⟩))
 DU:Qs w (d.n*d.n) d.q d.g room d.lost d.ms
section
variable{w w':World}{gn:Nat}{room:Int}{d:uU}{S:LN}
theorem oD.nt(h:oD w gn room d):Nt 0 w gn d.n d.ps d.q d.g room d.lost d.ms:=⟨⟨d.ap,d.cp,d.al,d.cl,d.ra,d.rc,h.blk,h.pr,h.lr,h.rr⟩,h.DU⟩
theorem oD.yQ(h:k<d.n*d.n):d.q k∈d.foot gn/\d.g k∈d.foot gn:=by have: ∀z∈ [d.q k,d.g k],z∈d.foot gn:=fun z H=>cK _ (bH _ (bH _ (bH _ (bg.2 ⟨k,fE.2 h,H⟩))));exact⟨this _ bJ,this _ bJ⟩
theorem oD.aar{a:Nat}(h:a<d.n): ∀z∈((d.ra a).map (·.block)).toList,z∈d.foot gn:=fun z H=>cK _ (bH _ (bH _ (bL _ (bg.2 ⟨a,fE.2 h,H⟩))))
theorem oD.aaq: ∀z∈(d.ap.map (·.block)).toList,z∈d.foot gn:=fun z h=>cK _ (bL _ h)
theorem oD.aap: ∀z∈(d.al.map (·.block)).toList,z∈d.foot gn:=fun z h=>cK _ (bH _ (bL _ h))
theorem oD.aao:gn∈d.foot gn:=jL
theorem DJ{base:Nat}(h:w.ownsRow base e s (acX a n c) n xs)(d:Only S w w')(b: ∀z∈(a.map (·.block)).toList,z∉S):w'.ownsRow base e s (acX a n c) n xs:=
 mK h d fun g H=>b g (by rw[dQ] at H;exact aJ.2 H)
theorem oD.kind(h:oD w gn room d): ∀z∈d.foot gn,∃t cs,aZ w z t cs/\t∉KH/\t≠228:=by
 intro z H;simp only[uU.foot,ay,aQ,bg,fE] at H;rcases H with rfl|H|H|⟨a,l,H⟩|⟨k,m,H⟩
 ·exact⟨_,_,h.blk,aV,aV⟩
 ·obtain⟨_,cs,b⟩:=dx h.pr z H
  exact⟨_,cs,b,aV,aV⟩
 ·obtain⟨_,cs,b⟩:=dx h.lr z H
  exact⟨_,cs,b,aV,aV⟩
 ·obtain⟨_,cs,b⟩:=dx (h.rr a l) z H
  exact⟨_,cs,b,aV,aV⟩
 have Q:=h.DU.DU k m;obtain⟨a,c,f,g,i⟩:=Q.ex;rcases H with rfl|rfl|H
 ·exact⟨_,_,f,aV,aV⟩
 ·rcases i with⟨_,e⟩|e
  ·rw[e]
   exact⟨_,_,f,aV,aV⟩
  rw[e] at g;obtain⟨C,_,j,_⟩:=g.blk;exact⟨_,_,j,aV,aV⟩
 cases H
theorem oD.only(h:oD w gn room d)(b:Only S w w')(g: ∀z∈S,∀cs,¬aZ w z 5 cs)(H: ∀z∈d.foot gn,z∉S):oD w' gn room d:=
 ⟨h.blk.only b (H _ oD.aao),DJ h.pr b fun z c=>H z (oD.aaq z c),DJ h.lr b fun z c=>H z (oD.aap z c),fun a f=>DJ (h.rr a f) b fun z c=>H z (oD.aar f z c),
  ⟨fun k e=>(h.DU.DU k e).only b (H _ (oD.yQ (gn:=gn) e).1) (H _ (oD.yQ (gn:=gn) e).2) g,h.DU.apart⟩⟩
theorem nV.byte{z:Nat}(h:nV x w z): ∀cs,¬aZ w z 5 cs:=fun cs H=>by
 rcases h with⟨_,h⟩|h
 ·exact absurd (h _ _ H) aV
 exact absurd (h _ _ H) aV
def xS(gn:Nat)(room:Int)(d:uU):ni:=⟨d.foot gn,fun _ w=>oD w gn room d⟩
theorem ME(gn:Nat)(room:Int)(d:uU):(xS gn room d).Good:=
 ⟨fun h i e _ g=>oD.only h i (fun z j=>(e z j).byte) g,fun h _=>h,fun _ h _=>h,fun h k a=>by
  obtain⟨t,cs,H,_⟩:=oD.kind h k a;exact H.lt,fun h k a=>by
  obtain⟨t,cs,H,b,_⟩:=oD.kind h k a;exact nV.of H b,fun h k a cs f=>by obtain⟨t,c,H,_,b⟩:=oD.kind h k a;exact b (sN f H)⟩
theorem oD.turn(h:oD w gn room d)(f:k<d.n*d.n){uW:Nat->Int}(b:Nt 0 w' gn d.n d.ps d.q (ru d.g k g') room uW ms')(H:Only [d.q k,d.g k] w w'):oD w' gn room (d.qs (ru d.g k g') uW ms'):=by
 have T:=(h.DU.DU k f).types;refine⟨h.blk.only H fun g=> ?_,qK h.pr H T aV aV,qK h.lr H T aV aV,fun a c=>qK (h.rr a c) H T aV aV,b.qs⟩;rcases T _ g _ _ h.blk with e|e
 ·exact absurd e aV
 exact absurd e aV
theorem uU.XF(gn k g':Nat)(l:Nat->Int)(ms':Nat->List (Value×List Int)){B:Nat}(H:g'=d.g k\/B<=g')(f:k<d.n*d.n): ∀z∈(d.qs (ru d.g k g') l ms').foot gn,z∈d.foot gn\/B<=z:=by
 intro z h;simp only[uU.foot,ay,aQ,bg,fE] at h;rcases h with rfl|h|h|⟨a,c,h⟩|⟨j,b,rfl|rfl|h⟩
 ·exact .inl oD.aao
 ·exact .inl (oD.aaq z h)
 ·exact .inl (oD.aap z h)
 ·exact .inl (oD.aar c z h)
 ·exact .inl (oD.yQ b).1
 ·by_cases e:j=k
  ·subst e
   have E:(ru d.g j g') j=g':=by simp[ru]
   rw[E];rcases H with rfl|H
   ·exact .inl (oD.yQ b).2
   exact .inr H
  have E:(ru d.g k g') j=d.g j:=by simp[ru,e]
  rw[E];exact .inl (oD.yQ b).2
 cases h
theorem Step.net{w0:World}{L L':List ni}(h:Step x w0 w L L')(a:L'[j]?=some (xS gn room d))(H:k<d.n*d.n){uW:Nat->Int}(e:Nt 0 w' gn d.n d.ps d.q (ru d.g k g') room uW ms')(b:Only [d.q k,d.g k] w w')(f:g'=d.g k\/w.heap.size<=g'):
  Step x w0 w' L (L'.set j (xS gn room (d.qs (ru d.g k g') uW ms'))):=
 h.turn a b (fun z c=> .inl (by
  simp only[ay,aI,or_false] at c;rcases c with rfl|rfl
  ·exact(oD.yQ H).1
  exact(oD.yQ H).2)) (oD.turn (h.sys.get a) H e b) (ME _ _ _) (uU.XF gn k g' uW ms' f H)
end
def QX(x:Int):List Int->Option Nat
 | []=>none
 |p::l=>if p=x then some 0 else(QX x l).map (· +1)
theorem Oy(x:Int): ∀(l:LI) (i:Nat),QX x l=some i->l[i]?=some x/\ ∀j,j<i->l[j]?≠some x
 | [],i,h=>by cases h
 |p::l,i,h=>by
  rw[QX] at h;by_cases hp:p=x
  ·rw[if_pos hp] at h
   injection h with h;subst h;exact⟨by simp[hp],fun j hj=>absurd hj aR⟩
  rw[if_neg hp] at h;simp only[aK] at h;obtain⟨i,h,rfl⟩:=h;obtain⟨h1,h2⟩:=Oy x l i h;refine⟨by simpa using h1,fun j hj=> ?_⟩
  cases j with
  |zero=>simpa using hp
  |succ j=>simpa using h2 j aR
def XT(ps:LI)(x y:Int):Option Nat:=(QX x ps).bind fun a=>(QX y ps).bind fun b=>if a=b then none else some (a*ps.length+b)
def zD(ps:LI)(x:Int):List (Int×List Int)->(Nat->List LI)->Option (Nat->List LI)
 | [],M=>some M
 |(y,bs)::r,M=>(XT ps x y).bind fun k=>if(M k).length<64/\bs.length<=65536 then zD ps x r (ru M k (M k++ [bs])) else none
def uU.val(d:uU):Nat->List LI:=fun k=>(d.ms k).map Prod.snd
theorem Iu{α:Type}(f:α->List Value)(s:Nat)(hs: ∀p,(f p).length=s): ∀(L:List α) (k:Nat) (p:α) (j:Nat),L[k]?=some p->j<s->(L.flatMap f)[k*s+j]?=(f p)[j]?
 | [],k,p,j,hk,hj=>by simp at hk
 |a::L,0,p,j,hk,hj=>by simp only[dV,aD] at hk;subst hk;rw[bQ,fI,aO,bC (by rw[hs];exact hj)]
 |a::L,k+1,p,j,hk,hj=>by rw[dU] at hk;rw[bQ,bN (by rw[hs,gY];omega),hs,show(k+1)*s+j -s=k*s+j by rw[gY];omega];exact Iu f s hs L k p j hk hj
theorem ad5{ps:LI}{x y:Int}(h:XT ps x y=some k):XQ ps.length ps x y k:=by
 unfold XT at h;simp only[aA] at h;obtain⟨a,d,b,e,h⟩:=h;split at h
 ·cases h
 rename_i H;injection h with h;obtain⟨A,a2⟩:=Oy x ps a d;obtain⟨B,c⟩:=Oy y ps b e;exact⟨a,b,⟨(ah.1 A).1,A,a2⟩,⟨(ah.1 B).1,B,c⟩,H,h⟩
theorem RU{α:Type}(f:Nat->α)(k:Nat):ru f k (f k)=f:=by
 funext j
 unfold ru;split
 ·rename_i e
  rw[e]
 rfl
theorem acB(d:uU)(g:Nat->Nat)(lost:Nat->Int)(ms:Nat->List (Value×List Int))(k:Nat)(z:Value)(bs:LI):(d.qs g lost (ru ms k (ms k++ [(z,bs)]))).val=ru (d.qs g lost ms).val k ((d.qs g lost ms).val k++ [bs]):=by
 funext j
 simp only[uU.val,ru];split
 ·rename_i e
  simp
 rfl
theorem adv (x:Nat) (w:World) (L:List ni) (h:Sys x w L) (j i gc gn:Nat) (N:AV) (d:uU) (hj:L[j]?=some (xS gn 64 d)) (P:L[i]?=some (mW gc 99 N)) (a0:i≠j) (y:N[17]?=some (.pointer (some ⟨gn,0,none⟩)))
  (hn:d.ps.length=d.n) (f0:d.n<=64) (src:Int) (A:OA) (m c:Nat) (SL:List wN) (q:nJ x w A m c SL) (hm:m<=4096) (M:Nat->List LI) (hM:zD d.ps src (uy SL) d.val=some M):
  Y 48 #[gc,U src,.slice A m c] w fun e w'=>e= .returned (.tuple #[])/\ ∃g ms',Step x w w' L (L.set j (xS gn 64 (d.qs g d.lost ms')))/\(d.qs g d.lost ms').val=M:=by
 obtain⟨H,HJ,HI,R,OO,HM⟩:=j6 h hj P y q hM;have HN:=jj hn;have jl:=F9 (j<L.length) (ah.1 hj).1;have ol:=F9 (SL.length=m) q.len;clear h hj P y q hM hn;go_enter func48,ntmps48;go_wp2_with fail;go_loopw [10] (fun z wr=> ∃p:Nat,p<=m/\z= U p/\ ∃g ms',Step x w wr L (L.set j (xS gn 64 (d.qs g d.lost ms')))/\zD d.ps src ((uy SL).drop p) (d.qs g d.lost ms').val=some M/\nJ x wr A m c SL) (fun z _=>m -(intOf z).toNat)
 case atStart=>exact⟨0,aR,by first|rfl|simp,d.g,d.ms,by
  have e:L.set j (xS gn 64 (d.qs d.g d.lost d.ms))=L:=dD fun k=>by
   by_cases E:k=j
   ·subst E
    rw[aL jl,HJ.out]
   rw[aX (dR E)]
  rw[e];exact Step.refl H,HM,OO⟩
 case round=>
  obtain⟨p,hp,rfl,g,ms',I,a,q⟩:=hrel;obtain⟨ST,PV,O⟩:=j3 I a q;clear I a q;by_cases b0:p<m
  ·have i1:(p:Int)<m:=aR
   have i2:(0:Int)<=p:=aR;obtain⟨s,F⟩: ∃s,SL[p]?=some s:=⟨_,aj (by rw[ol.out];exact b0)⟩;have SI:=jj (O.is s (ak F));have Z:=Iu WB 2 WC SL p s 0 F aV;have e1:=Iu WB 2 WC SL p s 1 F aV;rw[fA] at Z;obtain⟨G,rfl⟩: ∃G,A=some ⟨G,0,none⟩:=by
    rcases rF O.own with h|h
    ·omega
    exact h
   have RW:=jj (Row.sG O.own);have d0:J wr G (p*2) (U s.dst):=RW.cell (by rw[Z];rfl);have d1:J wr G (p*2+1) (.slice s.a s.n s.c):=RW.cell (by rw[e1];rfl);have V:=F9 ((XT d.ps src s.dst).bind (fun k=>if((d.qs g d.lost ms').val k).length<64/\s.bs.length<=65536 then zD d.ps src ((uy SL).drop (p+1)) (ru (d.qs g d.lost ms').val k ((d.qs g d.lost ms').val k++ [s.bs])) else none)=some M) (by
    have e:=PV.out;have c0:(uy SL)[p]?=some (s.dst,s.bs):=by simp[uy,F]
    rw[List.drop_eq_getElem?_toList_append] at e;rw[c0] at e;exact e)
   clear Z e1 F;go_upto_region 3 with fail;generalize hw1:wr.alloc _=w1;generalize qP:wr.heap.size=gq;replace hw1:=hw1.symm;replace qP:=qP.symm;have kq:=xNew hw1 qP;have Q:=tQ hw1;clear hw1 qP d0 d1;have X:=jj (ST.below Q);have O1:=jj (O.below Q);have I1:=jj (SI.below Q);obtain⟨k,E,a⟩:=aA.1 V;have LK:=F9 (XQ d.n d.ps src s.dst k) (by rw[<-HN.out];exact ad5 E);split at a
   case isFalse=>cases a
   rename_i f;have RM:=jj f;have W:=jj a;clear a f E;have n:(L.set j (xS gn 64 (d.qs g d.lost ms')))[j]?=some (xS gn 64 (d.qs g d.lost ms')):=aL jl;have D:(L.set j (xS gn 64 (d.qs g d.lost ms')))[i]?=some (mW gc 99 N):=by rw[aX (dR a0)];exact HI.out
   have NT:=F9 (oD w1 gn 64 (d.qs g d.lost ms')) (X.sys.get n);have CB:=F9 (aZ w1 gc 99 N) (X.sys.get D);have JJ:=jj n;clear n D;have KS:J w1.drew gc 17 gn/\J w1.drew gq 0 (U s.dst)/\J w1.drew gq 1 (.slice s.a s.n s.c):=⟨(CB.drew.cell 17).trans R,kq.drew.cell 0,kq.drew.cell 1⟩;refine rD (fun u=>J u gc 17 gn/\J u gq 0 (U s.dst)/\J u gq 1 (.slice s.a s.n s.c)) 6 (.take 4 (.take 5 (.one 0 (.one 1 (.one 2 (.take 3 (.one 6 .done))))))) KS fun w2 B l=> ?_
   repeat refine' tT ?_
   refine pO fun KT bq=> ?_;go_simp;refine oH bq l ?_;refine pO fun KT bq=> ?_;go_simp;refine oH bq l ?_;refine pO fun KT bq=> ?_;go_simp;refine oH bq l ?_
   repeat refine' tT ?_
   refine pL fun KT bq=> ?_;go_simp;refine(abn src s.dst s.a s.n s.c s.bs w2 ((NT.only (Only.of_below (S:= []) B) bJ bJ).nt) (by show d.n<=4096;omega) ⟨aV,aV⟩ k LK (I1.row.below B) (VZ RM.2 I1.len) (by have:=RM.1;simp only[uU.val,aT] at this;show((ms' k).length:Int)<64;omega)).mono ?_;rintro e w3 ⟨g3,z3,rfl,r,o,C⟩;refine oL bq ?_;refine aU ?_;clear l;have K:=F9 (k<d.n*d.n) LK.lt;have S2:=jj (X.below B);have O2:=jj (O1.below B);have v:Nt 0 w3 gn d.n d.ps d.q (ru g k g3) 64 d.lost (ru ms' k (ms' k++ [(z3,s.bs)])):=by have e:=r;rw[RU] at e;exact e
   have S3:=F9 (Step x w w3 L (L.set j (xS gn 64 (d.qs (ru g k g3) d.lost (ru ms' k (ms' k++ [(z3,s.bs)])))))) (by have e:=S2.net JJ K v o C;rw[List.set_set] at e;exact e)
   have N2:=jj (NT.only (Only.of_below (S:= []) B) bJ bJ);have O3:=F9 (nJ x w3 (some ⟨G,0,none⟩) m c SL) (O2.only o (fun z hz=>by
    obtain⟨t,cs,hb,P,_⟩:=N2.kind z (by
     simp only[ay,aI,or_false] at hz;rcases hz with rfl|rfl
     ·exact(oD.yQ (d:=d.qs g d.lost ms') K).1
     exact(oD.yQ (d:=d.qs g d.lost ms') K).2)
    exact nV.of hb P) (fun b hb hm=>by
    have T:=(N2.DU.DU k K).types;obtain⟨_,cs,hc⟩:=dx O2.own b (aJ.2 hb);rcases T b hm _ _ hc with e|e
    ·exact absurd e aV
    exact absurd e aV))
   clear r o C v;go_wp2_with fail;go_roundw
   case rel=>exact⟨p+1,aR,by go_num,_,_,S3,by rw[acB];exact W.out,O3⟩
   simp[intOf];omega
  obtain rfl:p=m:=aR;go_wp2_with fail;go_end0
  have e:=PV.out;rw[eP (by simp only[uy,aT,ol.out];exact aF _)] at e;injection e with e;exact⟨by trivial,g,ms',ST,e⟩
theorem Oi(w:World)(G:Nat)(cs:AV)(u:aZ w G 120 cs)(A:OA)(m c:Nat)(l:List Rq)(i:cs[19]?=some (acX A m c))(D:qc w A m c l)(j:Nat)(N:m=j+1)(hm:m<=4096)(r:Rq)(E:l[j]?=some r):
  Y 57 #[G] w fun e w'=>e=acK (acY (rA r).toArray)/\Be w w':=by
 obtain⟨g,O,rfl,q,x,X,a,b,d,f,hx,z0,z,Z,s,t,z5⟩:=D.get (k:=j) aR;obtain rfl:r=(x,X,a,b,d,f):=by rw[E] at hx;exact dh hx
 have C:=(u.cell 19).trans i;have e1:IntKind.i64.wrap ((m:Int) -1)=(j:Int):=by rw[aH _ aR];omega
 have i0:(0:Int)<=j:=aR;have i1:(j:Int)<m:=aR;have K: ∀w',Be w w'->J w' G 19 (acX (some (adZ g O)) m c)/\J w' g (O+j*6) (U x)/\J w' g (O+j*6+1) (U X)/\J w' g (O+j*6+2) (U a)/\J w' g (O+j*6+3) (U b)/\J w' g (O+j*6+4) (U d)/\J w' g (O+j*6+5) (U f):=fun w' o=>⟨kept o _ _ C,kept o _ _ z0,kept o _ _ z,kept o _ _ Z,kept o _ _ s,kept o _ _ t,kept o _ _ z5⟩;have KS:=jj K;clear u i D E hx z0 z Z s t z5 q C N;show Y 57 #[G] w fun e w'=>e=acK (acY #[U x,U X,U a,U b,U d,U f])/\Be w w';go_enter func57,ntmps57;go_upto_region 1 with fail;generalize hv2:w.alloc _=v2;generalize hg2:w.heap.size=g2;replace hv2:=hv2.symm;replace hg2:=hg2.symm;have M:=xNew hv2 hg2;have B:=tQ hv2;have GE:=F9 (w.heap.size<=g2) aR;clear hv2 hg2;refine rP (fun w'=>J w' G 19 (acX (some (adZ g O)) m c)/\J w' g (O+j*6) (U x)/\J w' g (O+j*6+1) (U X)/\J w' g (O+j*6+2) (U a)/\J w' g (O+j*6+3) (U b)/\J w' g (O+j*6+4) (U d)/\J w' g (O+j*6+5) (U f)) 12 (tk 0 12 (.one 12 .done)) (KS.out _ B.drew) ?_;intro n;obtain⟨V,H⟩:=ex v2.drew;have y:=F9 (aZ V g2 49 #[U 0,U 0,U 0,U 0,U 0,U 0]) (by rw[H];exact M.drew);have F:=F9 (Be w V) (by rw[H];exact B.drew);rw[<-H] at n|-;clear H
 repeat refine' tT ?_
 refine pL fun KT bq=> ?_;have P:=y.cell 0;have z0:=y.frozen 0;have Q:=y.cell 1;have z:=y.frozen 1;have R:=y.cell 2;have Z:=y.frozen 2;have S:=y.cell 3;have s:=y.frozen 3;have T:=y.cell 4;have t:=y.frozen 4;have W:=y.cell 5;have z5:=y.frozen 5;go_simp;refine oL bq ?_;refine aU ?_;clear n P Q R S T W z0 z Z s t z5;obtain⟨w9,h⟩:=ex (setW V g2 0 [U x,U X,U a,U b,U d,U f]);have L:=uL h y;simp only[setW,aO,Nat.reduceAdd] at h;rw[<-h];have I:Be w w9:=by rw[h];exact((((((F.setCell (p:=adZ g2 0) GE _).setCell (p:=adZ g2 1) GE _).setCell (p:=adZ g2 2) GE _).setCell (p:=adZ g2 3) GE _).setCell (p:=adZ g2 4) GE _).setCell (p:=adZ g2 5) GE _)
 clear h;go_wp2_with fail;refine bodyPost_ret (v:=acY #[U x,U X,U a,U b,U d,U f]) ?_ rfl ⟨rfl,I⟩;exact results_cell_row Tryz.results57 _ w9 g2 _ _ _ _ (by rfl) L underlying49 rfl (by kernel_rfl)
theorem Ui(w:World)(g:Nat)(cs:AV)(H:aZ w g 120 cs)(A:OA)(m c:Nat)(h:cs[23]?=some (acX A m c)):
  Y 49 #[g] w fun e w'=>e=acK (acX A m c)/\aZ w' g 120 (cs.setIfInBounds 23 ())/\Only [g] w w':=by have C:=(H.cell 23).trans h;have f:=H.frozen 23;have a:=jj H;clear H h;go_enter func49,ntmps49;go_wp2_with fail;go_ret;exact⟨by trivial,a.fU 23 _,(Only.refl [g] _).setCell (.inl bJ) _⟩
theorem WG(z:Int):(vg z).length<=6:=(qz _).2
theorem VD{α:Type}{f:α->List Int}: ∀(l:List α),(∀a∈l,(f a).length<=k)->(l.flatMap f).length<=k*l.length
 | [],_=>by simp
 |a::l,h=>by have h1:=h a bJ;have h2:=VD l fun b hb=>h b (by simp[hb]);simp only[bQ,av,aY];rw[lS];omega
theorem IL(r:Rq):(oK r).length<=36:=by have a:=fun n=>(qz n).2;have s:=fun z=>WG z;simp only[oK,av];have:=a r.1.toNat;have:=a r.2.1.toNat;have:=a r.2.2.1.toNat;have:=s r.2.2.2.1;have:=s r.2.2.2.2.1;have:=a r.2.2.2.2.2.toNat;omega
theorem acD(v:Vo):(uQ v).length<=12:=by have a:=fun n=>(qz n).2;simp only[uQ,av];have:=a v.1.toNat;have:=a v.2.toNat;omega
theorem Jk{α:Type}(f:α->List Int)(l:List α)(k:Nat)(h: ∀a∈l,(f a).length<=k):(nI f l).length<=6+k*l.length:=Oo f l k (VD l h)
theorem agK(c:Ce)(b:c.batch.length<=40)(d:c.sw.length<=40):(uG c).length<=2000:=by have a:=fun n=>(qz n).2;have h:=Jk oK c.batch 36 fun r _=>IL r;have H:=Jk uQ c.sw 12 fun r _=>acD r;simp only[uG,av];have:=a c.view.toNat;have:=a c.inst.toNat;have:=a c.seq.toNat;omega
theorem wQ{m:Ms}(f:m.batch.length<=40)(g:m.sw.length<=40)(H:m.vI.length<=20)(h: ∀c∈m.vI,c.batch.length<=40/\c.sw.length<=40):(dF m).length<=65000:=by have a:=fun n=>(qz n).2;have s:=fun z=>WG z;have b:=Jk oK m.batch 36 fun r _=>IL r;have d:=Jk uQ m.sw 12 fun r _=>acD r;have e:=Jk uG m.vI 2000 fun c H=>agK c (h c H).1 (h c H).2;simp only[dF,av];have:=a m.kind.toNat;have:=a m.sender.toNat;have:=a m.view.toNat;have:=a m.inst.toNat;have:=a m.seq.toNat;have:=s m.res;have:=a 0;omega
def mU(id:Int)(r:Rq):Ms:=⟨1,100+id,0,0,0,0,[r],[],[]⟩
theorem abO{id:Int}(h:xH r)(b:0<=id)(c:id<4):Ev (mU id r):=
 ⟨⟨by simp[mU],by simp[mU]⟩,⟨by simp only[mU];omega,by simp only[mU];omega⟩,⟨by simp[mU],by simp[mU]⟩,⟨by simp[mU],by simp[mU]⟩,⟨by simp[mU],by simp[mU]⟩,⟨by simp[mU],by simp[mU]⟩,fun q a=>by simp only[mU,au] at a;rw[a];exact h,fun v H=>by simp[mU] at H,fun v H=>by simp[mU] at H,by simp[mU],by simp[mU],by simp[mU]⟩
theorem MV(id:Int)(r:Rq):(dF (mU id r)).length<=65000:=wQ (by simp[mU]) (by simp[mU]) (by simp[mU]) (by simp[mU])
theorem adX (w:World) (gk nn b:Nat) (K:List (Int×List Int)) (hN:vC w nn b K) (cs:AV) (d:aZ w gk 120 cs) (f id:Int) (h1:1<=f) (h4:f<=4) (k0:0<=id/\id<4)
  (h0:cs[0]?=some (U f)) (N:cs[15]?=some (U id)) (P:cs[16]?=some (.pointer (some ⟨nn,0,none⟩))) (IA:OA) (im ic:Nat) (l:List Rq) (f0:cs[19]?=some (.slice IA im ic)) (hl:qc w IA im ic l) (j:Nat) (hj:im=j+1) (l0:im<=4096) (r:Rq) (hr:l[j]?=some r) (F:xH r)
  (A:OA) (m c:Nat) (g0:cs[23]?=some (.slice A m c)) (L:List wN) (x:Nat) (hL:nJ x w A m c L) (a:m<=4096) (hx:x<w.heap.size) (hlen:K.length<1048576)
  (q:Int×List Int) (hq:q=(100+id,dF (mU id r))) (bs:LI) (j0:bs=mD (num (sealed K q) q).toNat++dF (mU id r)) (n:Nat) (hn:(n:Int)=3*f+1):
  Y 82 #[gk] w fun e w'=>e= .returned (.tuple #[])/\ ∃A' c' y,aZ w' gk 120 (cs.setIfInBounds 23 (.slice A' (m+n) c'))/\nJ x w' A' (m+n) c' y/\uy y=uy L++(List.range n).map (fun i:Nat=>((i:Int),bs))/\
   vC w' nn b (sealed K q)/\Only (b::gk::(A.map (·.block)).toList) w w'/\(∀k,A'.map (·.block)=some k->A.map (·.block)=some k\/w.heap.size<=k):=by
 obtain⟨HN,HK,HL,HQ,e0,z⟩:=j6 hN d hL hq j0 hn;have HX:=jj hx;have a0:=jj F;have b0:=jj (fun(w':World) (o:Be w w')=>Oi w' gk cs (d.below o d.lt) IA im ic l f0 (hl.below o) j hj l0 r hr);obtain⟨C0,c0,o0,p0⟩:=j4 h0 g0 N P;have q0: ∀w',Be w w'->J w' gk 15 (U id)/\J w' gk 16 nn:=fun w' o=>⟨kept o _ _ ((d.cell 15).trans N),kept o _ _ ((d.cell 16).trans P)⟩;have KS:=jj q0;have e1:IntKind.i64.wrap (100+id)=100+id:=aH _ aR;obtain⟨V,W,X,Z,r4,r5⟩:=r;clear hN d hL hq j0 hn hx F h0 N P f0 hl hr g0 hj l0;obtain⟨iu,t0,y0,z0,A0⟩:=info_parts wU;obtain⟨is,s0,u0,w0,x0⟩:=info_parts wD;have SZ:=F9 (23<cs.size) (eX.1 c0).1;have NM:=F9 (n<=13) (tL z.out);go_enter func82,ntmps82;go_upto_region 0 with fail;refine rD (fun w'=>J w' gk 15 (U id)/\J w' gk 16 nn) 19 (tk 0 6 (tk 9 4 (.one 6 (.one 7 (.take 8 (.one 13 (tk 14 5 .done))))))) (KS.out _ (aC _ _).drew) fun v0 B0 H=> ?_
 repeat refine' tT ?_
 refine pO fun KT bq=> ?_;go_simp;refine(b0.out _ B0).mono ?_;rintro e v1 ⟨rfl,hb⟩;have B1:=nO B0 hb;clear hb;rw[show(rA (V,W,X,Z,r4,r5)).toArray=#[U V,U W,U X,U Z,U r4,U r5] from rfl];have S1:=KS.out _ B1;refine oH bq S1 ?_;clear H;have H:=S1;refine pO fun KT bq=> ?_;go_simp;generalize hv2:v1.alloc _=v2;generalize hgm:v1.heap.size=gm;replace hv2:=hv2.symm;replace hgm:=hgm.symm;have B2:=GN B1 hv2;have X2:=xNew hv2 hgm;clear hv2 hgm;have S2:=KS.out _ B2;refine oH bq S2 ?_;clear H;have H:=S2
 repeat refine' tT ?_
 refine pO fun KT bq=> ?_;go_simp;refine(UG _ nn b K (HN.below B2) ⟨1,100+id,0,0,0,0,some ⟨gm,0,none⟩,1,1,[(V,W,X,Z,r4,r5)],none,0,0,[],none,0,0,[],none,0⟩ ⟨⟨gD.nR (n:=1) (s:=6) X2 rfl,rfl,aF _,show 1<=maxLen by unfold maxLen;omega⟩,uz.nil _ _ (show 0<=maxLen by unfold maxLen;omega),(Gz.nil 0 _).vI⟩ (abO a0 k0.1 k0.2) (MV id _) hlen).mono ?_;rintro e v3 ⟨a3,c3,G,rfl,v,O,B,o3⟩;simp only[show nA ⟨1,100+id,0,0,0,0,some ⟨gm,0,none⟩,1,1,[(V,W,X,Z,r4,r5)],none,0,0,[],none,0,0,[],none,0⟩=mU id (V,W,X,Z,r4,r5) from rfl] at v O B;rw[<-HQ.out] at v O B;rw[<-e0.out] at v O;have N3:=jj B;have R:Only [b] w v3:=(Only.of_below B2).then o3 bJ;obtain⟨O3,W3,L3⟩:=j3 R O v;have K3:=F9 (aZ v3 gk 120 cs) (HK.only R (by simp only[au];intro e;exact HN.far HK e.symm))
 clear v O B o3 R;have S3:J v3 gk 15 (U id)/\J v3 gk 16 nn:=⟨(K3.cell 15).trans o0,(K3.cell 16).trans p0⟩;refine oH bq S3 ?_;clear H;have H:=S3
 repeat refine' tT ?_
 refine aU ?_;clear H;go_wp2_with fail;have LB:=F9 (G<=65010) (by have:=(qz (num (sealed K q) q).toNat).2;have:=MV id (V,W,X,Z,r4,r5);rw[<-L3.out,e0.out,av];omega);have AB:=F9 (∀k∈(A.map (·.block)).toList,k<w.heap.size) fun k d=>(HL.own.lt k (by rw[dQ];exact aJ.1 d)).2;have AN:=F9 (∀k∈(A.map (·.block)).toList,k≠b) fun k d e=>by obtain⟨_,M,C⟩:=dx HL.own k d;exact HN.far C e.symm
 go_loopw [4] (fun q' wr=> ∃k:Nat,q'= U k/\k<=n/\(∃A' c' y,aZ wr gk 120 (cs.setIfInBounds 23 (.slice A' (m+k) c'))/\nJ x wr A' (m+k) c' y/\uy y=uy L++(List.range k).map (fun i:Nat=>((i:Int),bs))/\
   (∀k,A'.map (·.block)=some k->A.map (·.block)=some k\/w.heap.size<=k))/\Only (b::gk::(A.map (·.block)).toList) w wr/\vC wr nn b (sealed K q)/\wr.ownsRow v2.heap.size 5 1 (.slice a3 G c3) G (mZ bs)) (fun q' _=>n -(intOf q').toNat)
 case atStart=>
  refine⟨0,by first|rfl|simp,aR,⟨A,c,L,?_,?_,bJ,fun k d=> .inl d⟩,O3.mono bJ,N3,W3⟩
  ·rw[fA,ab6 c0.out];exact K3.out
  rw[fA];exact HL.only O3 (fun g p=>by
   simp only[au] at p;subst p;exact .inr fun t cs C=>absurd rfl (HN.far C)) (fun g p a=>by simp only[au] at a;exact AN.out g (aJ.2 p) a)
 case round=>
  obtain⟨k,rfl,d,⟨A',c',y,Q,m0,hv,i0⟩,ho,hn,hw⟩:=hrel;obtain⟨E,I,VV,AT,OW,T⟩:=j6 Q m0 hv i0 ho hn;have RW:=jj hw;have D0:J wr gk 0 (U f):=(Q.cell 0).trans (by rw[aW aV];exact C0.out);clear Q m0 hv i0 ho hn hw;by_cases E0:k<n
  ·have i1:(k:Int)<3*f+1:=by have:=z.out;omega
   have e2:IntKind.i64.wrap ((k:Int)+1)=(k:Int)+1:=aH _ (tL z.out);go_wp2_with fail;refine(oC f _ h1 h4).mono ?_;rintro e w' ⟨rfl,rfl⟩;go_upto_region 5 with fail;refine rD (fun w'=>J w' gk 23 (.slice A' (m+k) c')) 13 (tk 0 7 (.one 7 (.take 8 (.one 9 (.one 10 (.one 11 (.take 12 (.one 13 .done)))))))) ((E.drew.cell 23).trans (Dk SZ)) fun v5 E5 H=> ?_
   repeat refine' tT ?_
   refine pO fun KT bq=> ?_;refine oo (by rfl) _ _ _ (by rfl) wr.heap.size 5 iu _ 1 1 underlying140 t0 y0 z0 A0 rfl aR none 0 0 [] (by rfl) ⟨bJ,.inl ⟨rfl,rfl⟩⟩ a3 G c3 (mZ bs) (by rfl) (fH (own_below RW E5)) (yh bs) (by have:=LB.out;unfold maxLen;omega) (tL LB.out) E5.size ?_;intro a6 c6 v6 h6;have O6:=h6.own;rw[aO,bU] at O6;rw[aO];have E6:=F9 (Be wr v6) (E5.trans (h6.only.mY.mono E5.size));have R6:=jj O6;clear h6;have S6:J v6 gk 23 (.slice A' (m+k) c'):=kept E6 _ _ ((E.cell 23).trans (Dk SZ));refine oH bq S6 ?_;clear H;have H:=S6
   repeat refine' tT ?_
   refine pO fun KT bq=> ?_;go_simp;generalize hv7:v6.alloc _=v7;generalize sM:v6.heap.size=g7;replace hv7:=hv7.symm;replace sM:=sM.symm;have d0:=(tQ hv7).out;have E7:=nO E6 d0;have X7:=xNew hv7 sM;have R7:=jj (own_below R6 d0);clear hv7 sM;have S7:J v7 gk 23 (.slice A' (m+k) c'):=kept E7 _ _ ((E.cell 23).trans (Dk SZ));refine oH bq S7 ?_;clear H;have H:=S7
   repeat refine' tT ?_
   refine pO fun KT bq=> ?_;refine oo (by rfl) _ _ _ (by rfl) 0 179 is _ 2 32 underlying109 s0 u0 w0 x0 rfl aR A' (m+k) c' (y.flatMap WB) (by rfl) (own_below I.own E7) (some ⟨g7,0,none⟩) 1 1 (WB ⟨(k:Int),a6,G,c6,bs⟩) (by rfl) (gD.nR (n:=1) (s:=2) X7 rfl) (fun u hu=>Ec [⟨(k:Int),a6,G,c6,bs⟩] u (mR hu)) (by unfold maxLen;omega) aR (bF _) ?_;intro a8 c8 v8 h8;have OA:=F9 (nJ x v7 A' (m+k) c' y) (I.below E7);have SI:=F9 ((⟨(k:Int),a6,G,c6,bs⟩:wN).Is x v7) ⟨fH R7,L3,Fixed.own R7 (aB HX OW.size),qB R7⟩;have O8:=jj (OA.more SI h8);have P8:=F9 (Only (A'.map (·.block)).toList wr v8) ((Only.of_below E7).trans h8.only);have n0:=F9 (∀k,a8.map (·.block)=some k->A'.map (·.block)=some k\/wr.heap.size<=k) fun k d=>by
    rcases h8.at_ k d with h|h
    ·exact .inl h
    exact .inr (aG E7.size h)
   have NG: ∀k∈(A'.map (·.block)).toList,k≠gk:=fun k d e=>mG I.own E aV (by rw[dQ,aJ.1 d,e]);have S:=jj (E.only P8 (fun a=>NG _ a rfl));have R8:=jj (mK RW P8 (fun g p a=>by obtain⟨_,M,C⟩:=dx I.own g a;exact mG RW C aV p))
   clear h8;have S8:J v8 gk 23 (.slice A' (m+k) c'):=(S.cell 23).trans (Dk SZ);refine oH bq S8 ?_;clear H;have H:=S8;have f8:=S.frozen 23
   repeat refine' tT ?_
   refine pO fun KT bq=> ?_;go_simp;refine oH bq S8 ?_
   repeat refine' tT ?_
   refine pL fun KT bq=> ?_;go_simp;refine oL bq ?_;refine aU ?_;clear H;obtain⟨w9,D⟩:=ex (v8.setCell ⟨gk,23,none⟩ (.slice a8 (m+k+1) c8));rw[<-D];have o9:Only [gk] v8 w9:=by rw[D];exact(Only.refl [gk] _).setCell (.inl bJ) _
   have K9:=F9 (aZ w9 gk 120 (cs.setIfInBounds 23 (.slice a8 (m+k+1) c8))) (by rw[D,<-Yy];exact S.fU 23 _);have O9:=F9 (nJ x w9 a8 (m+k+1) c8 (y++ [⟨(k:Int),a6,G,c6,bs⟩])) (O8.only o9 (fun g p=>by simp only[au] at p;subst p;exact nV.of S aV) (fun g p a=>by simp only[au] at a;subst a;exact mG O8.own S aV (by rw[dQ,p])));have P9:=F9 (Only (gk::(A'.map (·.block)).toList) wr w9) ((P8.mono (fun k d=> .inl (by simp only[ay];exact .inr d))).then o9 bJ);have R9:=jj (gH R8 o9 S aV);clear D o9 f8;go_wp2_with fail;go_roundw
   case rel=>
    refine⟨k+1,by go_num,aR,⟨a8,c8,_,K9,O9,?_,?_⟩,?_,?_,R9⟩
    ·rw[EZ,VV.out,gV];simp
    ·intro g p
     rcases n0.out g p with h|h
     ·exact AT.out g h
     exact .inr (aG OW.size h)
    ·refine OW.then P9 fun g p=> ?_
     simp only[ay] at p;rcases p with rfl|p
     ·exact .inl bJ
     rcases AT.out g (aJ.1 p) with h|h
     ·exact .inl (by simp only[ay];exact .inr (.inr (aJ.2 h)))
     exact .inr h
    refine T.only P9 (fun a=> ?_) (fun a=> ?_)
    ·simp only[ay] at a
     rcases a with rfl|a
     ·exact T.obj.nY E aV rfl
     obtain⟨_,M,C⟩:=dx I.own _ a;exact T.obj.nY C aV rfl
    simp only[ay] at a;rcases a with rfl|a
    ·exact T.far E rfl
    obtain⟨_,M,C⟩:=dx I.own _ a;exact T.far C rfl
   case measure=>simp[intOf];omega
  have i1: ¬(k:Int)<3*f+1:=by have:=z.out;omega
  obtain rfl:k=n:=aR;go_wp2_with fail;refine(oC f _ h1 h4).mono ?_;rintro e w' ⟨rfl,rfl⟩;go_wp2_with fail;go_end0
  exact⟨by trivial,A',c',y,E,I,VV,T,OW,AT⟩
theorem aem(K:List (Int×List Int))(q:Int×List Int)(h:K.length+1<1048576):0<=num (sealed K q) q/\num (sealed K q) q<=1048576:=by
 rw[Cu];split
 ·rename_i H
  have a:K.idxOf q<K.length:=jF H;unfold num;rw[if_pos H];omega
 omega
theorem JG(K:List (Int×List Int))(q:Int×List Int):(sealed K q).length<=K.length+1:=by unfold sealed;split<;>simp
def Kw(p:Int×Int):List Value:= [U p.1,U p.2]
def EO(p:Rq×Int):List Value:= [U p.1.1,U p.1.2.1,U p.1.2.2.1,U p.1.2.2.2.1,U p.1.2.2.2.2.1,U p.1.2.2.2.2.2,U p.2]
theorem PX(l:List (Int×Int)): ∀v∈l.flatMap Kw,v.oneCell'=true:=by intro v H;obtain⟨p,_,h⟩:=bg.1 H;simp only[Kw,ay,aI,or_false] at h;rcases h with rfl|rfl<;>rfl
theorem Ql(l:List (Rq×Int)): ∀v∈l.flatMap EO,v.oneCell'=true:=by intro v H;obtain⟨p,_,h⟩:=bg.1 H;simp only[EO,ay,aI,or_false] at h;rcases h with rfl|rfl|rfl|rfl|rfl|rfl|rfl<;>rfl
theorem Mf:(prog.info? 253).map (fun i=>(i.zero,i.size,i.bytes))=some (some (acY #[U 0,U 0]),2,16):=by kernel_rfl
theorem Mh:(prog.info? 51).map (fun i=>(i.zero,i.size,i.bytes))=some (some (acY #[U 0,U 0,U 0,U 0,U 0,U 0,U 0]),7,56):=by kernel_rfl
theorem nJ.Ak{L:List wN}{cs:AV}(h:nJ x w A m c L)(e:Only [g] w w')(f:aZ w g t cs)(j:t≠5)(k:t≠179):nJ x w' A m c L:=by
 have far: ∀s∈L,∀b,s.a.map (·.block)=some b->b∉ [g]:=fun s H b a i=>by obtain⟨_,C,d⟩:=(h.is s H).fix b a;simp only[au] at i;subst i;exact d.nY f j.symm rfl
 exact⟨gH h.own e f k.symm,h.len,fun s H=>⟨(h.is s H).row.only e (far s H),(h.is s H).len,fun b a=>⟨((h.is s H).fix b a).1,by obtain⟨_,C,d⟩:=(h.is s H).fix b a;exact⟨C,d.only e (far s H b a)⟩⟩,(h.is s H).cap⟩⟩
structure sI where
 nn:Nat
 gt:Nat
 waits:Bool
 ia:Option Addr
 ic:Nat
 il:List Rq
 at_:Int
 aa:Option Addr
 ac:Nat
 al:List (Int×Int)
 ea:Option Addr
 ec:Nat
 el:List (Rq×Int)
 oa:Option Addr
 oc:Nat
 ol:List wN
 now:Int
def Nz(f id:Int)(d:sI):Array Value:=#[U f,U 2,U 2,U 4,U 64,U 8,U 8,U 8,U 1,U 2,U 12,U 8,U 6,U 2,U 6,
 U id,d.nn,d.gt,d.waits,acX d.ia d.il.length d.ic,U d.at_,acX d.aa d.al.length d.ac,acX d.ea d.el.length d.ec,acX d.oa d.ol.length d.oc]
def sI.foot(gk:Nat)(d:sI):List Nat:=gk::d.gt::((d.ia.map (·.block)).toList++((d.aa.map (·.block)).toList++((d.ea.map (·.block)).toList++(d.oa.map (·.block)).toList)))
structure qF(x:Nat)(w:World)(f id:Int)(gk:Nat)(d:sI):Prop where
 blk:aZ w gk 120 (Nz f id d)
 Bc:vT w d.gt d.now
 yK:w.ownsRow 0 49 6 (acX d.ia d.il.length d.ic) d.il.length (d.il.flatMap rA)
 SE: ∀g,d.ia.map (·.block)=some g->g=x
 ans:w.ownsRow 0 253 2 (acX d.aa d.al.length d.ac) d.al.length (d.al.flatMap Kw)
 acc:w.ownsRow 0 51 7 (acX d.ea d.el.length d.ec) d.el.length (d.el.flatMap EO)
 out:nJ x w d.oa d.ol.length d.oc d.ol
section
variable{x y:Nat}{w w':World}{f id:Int}{gk:Nat}{d:sI}{S:LN}
theorem wF{base:Nat}(h:w.ownsRow base t s (acX a n c) n xs)(d:Only S w w')(b: ∀g∈(a.map (·.block)).toList,g∉S):w'.ownsRow base t s (acX a n c) n xs:=
 mK h d fun g H=>b g (by rw[dQ] at H;exact aJ.2 H)
theorem qF.only(h:qF x w f id gk d)(a:Only S w w')(e: ∀g∈S,nV x w g)(H: ∀g∈d.foot gk,g∉S):qF x w' f id gk d:=by simp only[sI.foot,ay,aQ] at H;exact⟨h.blk.only a (H _ (.inl rfl)),aZ.only h.Bc a (H _ (.inr (.inl rfl))),wF h.yK a fun g c=>H g (.inr (.inr (.inl c))),h.SE,wF h.ans a fun g c=>H g (.inr (.inr (.inr (.inl c)))),wF h.acc a fun g c=>H g (.inr (.inr (.inr (.inr (.inl c))))),h.out.only a e fun b i=>H b (.inr (.inr (.inr (.inr (.inr (aJ.2 i))))))⟩
theorem qF.below(h:qF x w f id gk d)(H:Be w w'):qF x w' f id gk d:=
 ⟨h.blk.below H h.blk.lt,aZ.below h.Bc H (aZ.lt h.Bc),own_below h.yK H,h.SE,own_below h.ans H,own_below h.acc H,h.out.below H⟩
theorem qF.lt(h:qF x w f id gk d): ∀g∈d.foot gk,g<w.heap.size:=by
 have o: ∀{base t s n c:Nat} {a:OA} {X:LV},w.ownsRow base t s (acX a n c) n X-> ∀g∈(a.map (·.block)).toList,g<w.heap.size:=fun h g H=>(h.lt g (by rw[dQ];exact aJ.1 H)).2;intro g H;simp only[sI.foot,ay,aQ] at H;rcases H with rfl|rfl|H|H|H|H
 ·exact h.blk.lt
 ·exact aZ.lt h.Bc
 ·exact o h.yK g H
 ·exact o h.ans g H
 ·exact o h.acc g H
 exact o h.out.own g H
theorem qF.soft(h:qF x w f id gk d): ∀g∈d.foot gk,nV x w g:=by
 intro g H;simp only[sI.foot,ay,aQ] at H;rcases H with rfl|rfl|H|H|H|H
 ·exact nV.of h.blk aV
 ·exact nV.of h.Bc aV
 ·exact .inl ⟨h.SE g (aJ.1 H),fun t cs b=>by obtain⟨_,c,a⟩:=dx h.yK g H;exact sN a b⟩
 ·exact wH h.ans aV g H
 ·exact wH h.acc aV g H
 exact wH h.out.own aV g H
theorem uP{base base' s' n':Nat}{a':OA}{xs':LV}(h:w.ownsRow base t s (acX a n c) n xs)(e:w.ownsRow base' t' s' (acX a' n' c') n' xs')(d:t≠t'): ∀g∈(a.map (·.block)).toList,g∉(a'.map (·.block)).toList:=fun g i b=>by obtain⟨_,cs,f⟩:=dx h g i;obtain⟨_,C,H⟩:=dx e g b;exact f.nY H d rfl
theorem oJ{base:Nat}{cs:AV}(h:w.ownsRow base t s (acX a n c) n xs)(b:aZ w g t' cs)(H:t≠t'): ∀k∈(a.map (·.block)).toList,k≠g:=fun k f e=>by obtain⟨_,cs,d⟩:=dx h k f;exact d.nY b H e
end
end Go.Proofs.YtgnhecmnlddjhaaGreat
