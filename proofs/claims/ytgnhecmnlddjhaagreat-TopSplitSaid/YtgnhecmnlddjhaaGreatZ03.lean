/- TopSplit, part 4 of 12: a proof squeezed by a program. -/
import Derived.Test.YtgnhecmnlddjhaaGreatZ02
import Derived.Great.FillDense
import Derived.Great.BuildSlice
import Derived.Deep.MidRow
set_option linter.all false
set_option maxRecDepth 100000
set_option maxHeartbeats 6400000
namespace Go.Proofs.YtgnhecmnlddjhaaGreat
open Go.RowKit Go.Proofs.Tryz
variable{P:Program}{Q:Exit->Act->World->Prop}{a:OA}{bs:List Rq}{c g gv k n t x:Nat}{l:List rC}{o:Oper}{ops:Array Oper}{v:rC}{w w' w0:World}
theorem Oo{α:Type}(f:α->List Int)(l:List α)(k:Nat)(h:(l.flatMap f).length<=k*l.length):(nI f l).length<=6+k*l.length:=by have:=nK l.length;unfold nI;rw[av];omega
theorem Mi:(prog.info? 3).map (fun i=>(i.zero,i.size,i.bytes))=some (some (U 0),1,8):=by kernel_rfl
theorem ix5(m M b c d:Int)(k:Nat)(z:Int)(f:k<5)(a: [m,M,b,c,d][k]?=some z)(w:World):
  (Instr.index 259 (acY #[U m,U M,U b,U c,U d]) (U k)).run prog w= .ok (U z) w:=by
 obtain⟨i,h,_,H,_⟩:=info_parts Mi;have e:(0:Int)<=(k:Int)/\(k:Int)<(5:Nat):=aR;simp only[Instr.index,jD,asIntOf,lD,gF,run_underlying underlying259,if_pos e,sizeOf,typeInfo,part,bI]
 match k,f with
 |0,_|1,_|2,_|3,_|4,_=>
  simp at a;subst a;simp[h,H]
theorem Ta(w:World)(m:MD)(h:m.Is w)(ok:Ev (nA m))(x0:(dF (nA m)).length<=65536):
  Y 102 #[.agg (oM m).toArray] w fun e w'=> ∃a' c',e= .returned (.tuple #[.slice a' (dF (nA m)).length c',true])/\w'.ownsRow w.heap.size 5 1 (.slice a' (dF (nA m)).length c') (dF (nA m)).length (mZ (dF (nA m)))/\Be w w':=by
 have K0: ∀(fn:Fn) (first i0:AV) (w:World),(Instr.makeFunc fn first i0).run prog w= .ok (.func fn first i0) w:=fun _ _ _ _=>rfl;obtain⟨M,d,f,g,j,z,I,E,K,L,va,V,vc,vs,N,F,P,cs,pa,pc⟩:=m;have IS:=jj h;have I0:=jj x0;obtain⟨o0,o1,o2,o3,o4,o5,o6,o7,o8,o9,y0,f0⟩:=ok;simp only[nA] at o0 o1 o2 o3 o4 o5 o6 o7 o8 o9 y0 f0;obtain⟨N0,N1,N2,N3,N4,N5⟩:=j6 o0 o1 o2 o3 o4 o5;have OB:=jj o6;have OV:=jj o7;have OC:=F9 (∀c∈cs,Et (pz c)) (fun c hc=>o8 _ (bM.2 ⟨c,hc,rfl⟩));have lb:=h.b.len;have lv:=h.v.len;have lc:=h.c.len;simp only at lb lv lc;have a0:E<=256:=aR;have g0:V<=256:=aR;have b0:F<=256:=by rw[<-lc];simpa using f0
 have LB:=jj lb;have LV:=jj lv;have E5:=F9 (qp [M,d,f,g,j]++vg z++nI oK L++nI uQ vs++nI uG (cs.map pz)++mD 0=dF (nA ⟨M,d,f,g,j,z,I,E,K,L,va,V,vc,vs,N,F,P,cs,pa,pc⟩)) (by simp[qp,dF,nA]);have g6:=nK 0;have g1:(qp [M,d,f,g,j]).length<=30:=by simpa using rW [M,d,f,g,j]
 have g2:(vg z).length<=6:=nK _;have g3:=Oo oK L 36 (Br L);have g4:=Oo uQ vs 12 (JX vs);have g5:(nI uG (cs.map pz)).length<=6+12400*cs.length:=by have e1:=Qc cs OC;have:=nK (cs.map pz).length;unfold nI;rw[av,List.flatMap_map];omega
 have gl:L.length<=256/\vs.length<=256/\cs.length<=256:=aR;clear h o0 o1 o2 o3 o4 o5 o6 o7 o8 o9 y0 f0 lb lv lc x0;show Y 102 #[.agg #[U M,U d,U f,U g,U j,U z,.slice I E K,.slice va V vc,.slice N F P,.slice pa 0 pc]] w _;go_enter func102,ntmps102;go_upto_region 3 with fail;obtain⟨w3,y⟩:=ex (((w.alloc (.cells #[U M,U d,U f,U g,U j,U z,.slice I E K,.slice va V vc,.slice N F P,.slice pa 0 pc] 82)).alloc (.cells #[()] 140)).alloc (.cells #[true] 4));obtain⟨gg,X⟩:=ex (w.heap.size+1+1);obtain⟨go,Z⟩:=ex (w.heap.size+1);obtain⟨gb,W⟩:=ex w.heap.size;rw[<-y,<-X,<-Z,<-W];have h0:=F9 (aZ w3 gb 82 #[U M,U d,U f,U g,U j,U z,.slice I E K,.slice va V vc,.slice N F P,.slice pa 0 pc]) (by rw[y,W];exact((aZ.new _ _ _).alloc _).alloc _);have D0:=F9 (Bd w w3 go gg []) (by rw[y];refine⟨⟨none,0,(aZ.new' _ _ _ (by simp[Z])).alloc _,⟨rfl,.inl ⟨rfl,rfl⟩⟩⟩,aZ.new' _ _ _ (by simp[X]),(nC.alloc bJ _).alloc (by simp;omega) _,aR,aR⟩)
 clear y X Z W;obtain⟨d0,d1,d2,d3,d4⟩:=h0.a5;go_wp2_with fail;clear d0 d1 d2 d3 d4
 go_loopw [21] (fun i wr=> ∃k:Nat,k<=5/\i= U k/\Bd w wr go gg (qp ([M,d,f,g,j].take k))/\aZ wr gb 82 #[U M,U d,U f,U g,U j,U z,.slice I E K,.slice va V vc,.slice N F P,.slice pa 0 pc]) (fun i _=>5 -(intOf i).toNat)
 case atStart=>exact⟨0,aR,rfl,D0,h0⟩
 case round=>
  obtain⟨k,hk,rfl,hd,hx⟩:=hrel;obtain⟨wo,rfl⟩:=ex wr;have D1:=jj hd;have B:=jj hx;clear hd hx;rcases(show k=0\/k=1\/k=2\/k=3\/k=4\/k=5 by omega) with rfl|rfl|rfl|rfl|rfl|rfl
  rotate_right
  ·skip
   have d5:=B.at_ 5;have d6:=B.at_ 6;have d7:=B.at_ 7;have d8:=B.at_ 8;have d9:=B.at_ 9;go_wp2_with fail;refine(Rs z N5 _).mono ?_;rintro e v1 ⟨A,C,rfl,p,H⟩;have O:=jj p;have D:=jj (D1.keep H);have r:=jj (B.below H B.lt);clear p H;go_wp2_with fail;refine(xI D A _ C _ (fH O) (fun b s=>(dx O b (aJ.2 s)).2) rfl (by have e0:(List.take 5 [M,d,f,g,j])= [M,d,f,g,j]:=rfl;rw[e0];omega)).mono ?_;rintro e w2 ⟨rfl,l,o⟩;have t:=jj l;have q:=jj (o.blk r aV aV aV);clear l o;have d6:=q.at_ 6;have d7:=q.at_ 7;have d8:=q.at_ 8;have d9:=q.at_ 9;go_wp2_with fail;refine(aby _ I E K L (IS.b.row.below t.below) LB a0 OB).mono ?_;rintro e v2 ⟨a2,c2,rfl,t0,Q⟩;have O2:=jj t0;have E0:=jj (t.keep Q);have z0:=jj (q.below Q q.lt);clear t0 Q;go_wp2_with fail;refine(xI E0 a2 _ c2 _ (fH O2) (fun b s=>(dx O2 b (aJ.2 s)).2) rfl (by rw[show(List.take 5 [M,d,f,g,j])= [M,d,f,g,j] from rfl];simp only[av];omega)).mono ?_;rintro e w3 ⟨rfl,j0,p0⟩;have D3:=jj j0;have u:=jj (p0.blk z0 aV aV aV);clear j0 p0;have d7:=u.at_ 7;have d8:=u.at_ 8;have d9:=u.at_ 9;go_wp2_with fail;refine(abJ _ va V vc vs (IS.v.row.below D3.below) LV g0 OV).mono ?_;rintro e v3 ⟨a3,c3,rfl,u0,R⟩;have O3:=jj u0;have F0:=jj (D3.keep R);have A0:=jj (u.below R u.lt);clear u0 R;go_wp2_with fail;refine(xI F0 a3 _ c3 _ (fH O3) (fun b s=>(dx O3 b (aJ.2 s)).2) rfl (by rw[show(List.take 5 [M,d,f,g,j])= [M,d,f,g,j] from rfl];simp only[av];omega)).mono ?_;rintro e w4 ⟨rfl,k0,q0⟩;have D4:=jj k0;have v:=jj (q0.blk A0 aV aV aV);clear k0 q0;have d8:=v.at_ 8;have d9:=v.at_ 9;go_wp2_with fail;refine(abz _ N F P cs (IS.c.below' D4.below) b0 OC).mono ?_;rintro e v4 ⟨a4,c4,rfl,v0,S⟩;have O4:=jj v0;have G0:=jj (D4.keep S);have B0:=jj (v.below S v.lt);clear v0 S;go_wp2_with fail;refine(xI G0 a4 _ c4 _ (fH O4) (fun b s=>(dx O4 b (aJ.2 s)).2) rfl (by rw[show(List.take 5 [M,d,f,g,j])= [M,d,f,g,j] from rfl];simp only[av];omega)).mono ?_;rintro e w5 ⟨rfl,l0,r0⟩;have D5:=jj l0;have G:=jj (r0.blk B0 aV aV aV);clear l0 r0;have d9:=G.at_ 9;go_wp2_with fail;refine(abD _ pa pc).mono ?_;rintro e v5 ⟨a5,c5,rfl,w0,T⟩;have O5:=jj w0;have H0:=jj (D5.keep T);have C0:=jj (G.below T G.lt);clear w0 T;go_wp2_with fail;refine(xI H0 a5 _ c5 _ (fH O5) (fun b s=>(dx O5 b (aJ.2 s)).2) rfl (by rw[show(List.take 5 [M,d,f,g,j])= [M,d,f,g,j] from rfl];simp only[av];omega)).mono ?_;rintro e w6 ⟨rfl,n0,s0⟩;have D6:=jj n0;have J0:=jj (s0.blk C0 aV aV aV);clear n0 s0;have D7:=D6.out;rw[show(List.take 5 [M,d,f,g,j])= [M,d,f,g,j] from rfl,E5.out] at D7;obtain⟨a,c,h1,h2⟩:=D7.ex;obtain⟨n,hn⟩:=ex ((dF (nA ⟨M,d,f,g,j,z,I,E,K,L,va,V,vc,vs,N,F,P,cs,pa,pc⟩)).length);have c0:J w6 go 0 (.slice a n c):=by rw[hn];exact h1.cell 0
   have C:=D7.good.at_ 0;have hs: ¬(65536:Int)<n:=by have:=I0.out;omega
   obtain⟨H2,BB,HN⟩:=j3 h2 D7.below hn;clear h1 h2 hn;go_wp2_with fail;go_ret2
   exact⟨a,c,by rw[<-HN.out];rfl,H2,BB⟩
  ·have x: ∀w:World,(Instr.index 259 (.agg #[U M,U d,U f,U g,U j]) (U 0)).run prog w= .ok (U M) w:=ix5 M d f g j 0 M aR rfl
   go_wp2_with fail;refine(uX M N0 _).mono ?_;rintro e v1 ⟨A,C,rfl,p,H⟩;have O:=jj p;have D:=jj (D1.keep H);have r:=jj (B.below H B.lt);clear p H;go_wp2_with fail;refine(xI D A _ C _ (fH O) (fun b s=>(dx O b (aJ.2 s)).2) rfl (by have e8:=rW ([M,d,f,g,j].take 0);have e9:([M,d,f,g,j].take 0).length=0:=rfl;have:=nK M.toNat;omega)).mono ?_;rintro e w2 ⟨rfl,l,o⟩;have t:=jj l;have q:=jj (o.blk r aV aV aV);clear l o;go_wp2_with fail;go_roundw
   case rel=>exact⟨1,aR,rfl,by simpa[qp] using t.out,q⟩
   simp[intOf]
  ·have x: ∀w:World,(Instr.index 259 (.agg #[U M,U d,U f,U g,U j]) (U 1)).run prog w= .ok (U d) w:=ix5 M d f g j 1 d aR rfl
   go_wp2_with fail;refine(uX d N1 _).mono ?_;rintro e v1 ⟨A,C,rfl,p,H⟩;have O:=jj p;have D:=jj (D1.keep H);have r:=jj (B.below H B.lt);clear p H;go_wp2_with fail;refine(xI D A _ C _ (fH O) (fun b s=>(dx O b (aJ.2 s)).2) rfl (by have e8:=rW ([M,d,f,g,j].take 1);have e9:([M,d,f,g,j].take 1).length=1:=rfl;have:=nK d.toNat;omega)).mono ?_;rintro e w2 ⟨rfl,l,o⟩;have t:=jj l;have q:=jj (o.blk r aV aV aV);clear l o;go_wp2_with fail;go_roundw
   case rel=>exact⟨2,aR,rfl,by simpa[qp] using t.out,q⟩
   simp[intOf]
  ·have x: ∀w:World,(Instr.index 259 (.agg #[U M,U d,U f,U g,U j]) (U 2)).run prog w= .ok (U f) w:=ix5 M d f g j 2 f aR rfl
   go_wp2_with fail;refine(uX f N2 _).mono ?_;rintro e v1 ⟨A,C,rfl,p,H⟩;have O:=jj p;have D:=jj (D1.keep H);have r:=jj (B.below H B.lt);clear p H;go_wp2_with fail;refine(xI D A _ C _ (fH O) (fun b s=>(dx O b (aJ.2 s)).2) rfl (by have e8:=rW ([M,d,f,g,j].take 2);have e9:([M,d,f,g,j].take 2).length=2:=rfl;have:=nK f.toNat;omega)).mono ?_;rintro e w2 ⟨rfl,l,o⟩;have t:=jj l;have q:=jj (o.blk r aV aV aV);clear l o;go_wp2_with fail;go_roundw
   case rel=>exact⟨3,aR,rfl,by simpa[qp] using t.out,q⟩
   simp[intOf]
  ·have x: ∀w:World,(Instr.index 259 (.agg #[U M,U d,U f,U g,U j]) (U 3)).run prog w= .ok (U g) w:=ix5 M d f g j 3 g aR rfl
   go_wp2_with fail;refine(uX g N3 _).mono ?_;rintro e v1 ⟨A,C,rfl,p,H⟩;have O:=jj p;have D:=jj (D1.keep H);have r:=jj (B.below H B.lt);clear p H;go_wp2_with fail;refine(xI D A _ C _ (fH O) (fun b s=>(dx O b (aJ.2 s)).2) rfl (by have e8:=rW ([M,d,f,g,j].take 3);have e9:([M,d,f,g,j].take 3).length=3:=rfl;have:=nK g.toNat;omega)).mono ?_;rintro e w2 ⟨rfl,l,o⟩;have t:=jj l;have q:=jj (o.blk r aV aV aV);clear l o;go_wp2_with fail;go_roundw
   case rel=>exact⟨4,aR,rfl,by simpa[qp] using t.out,q⟩
   simp[intOf]
  have x: ∀w:World,(Instr.index 259 (.agg #[U M,U d,U f,U g,U j]) (U 4)).run prog w= .ok (U j) w:=ix5 M d f g j 4 j aR rfl;go_wp2_with fail;refine(uX j N4 _).mono ?_;rintro e v1 ⟨A,C,rfl,p,H⟩;have O:=jj p;have D:=jj (D1.keep H);have r:=jj (B.below H B.lt);clear p H;go_wp2_with fail;refine(xI D A _ C _ (fH O) (fun b s=>(dx O b (aJ.2 s)).2) rfl (by have e8:=rW ([M,d,f,g,j].take 4);have e9:([M,d,f,g,j].take 4).length=4:=rfl;have:=nK j.toNat;omega)).mono ?_;rintro e w2 ⟨rfl,l,o⟩;have t:=jj l;have q:=jj (o.blk r aV aV aV);clear l o;go_wp2_with fail;go_roundw
  case rel=>exact⟨5,aR,rfl,by simpa[qp] using t.out,q⟩
  simp[intOf]
theorem ahU(a:OA)(l c:Nat)(bs:LI)(k:Nat)(z:Int)(b:wP z)(f:bs.length=l)(n:l<=1048576)(w:World)(g:gD w a l 1 (mZ bs))(h:At bs k (vg z)):
  Y 196 #[acX a l c,U k] w fun e w'=>e=acK (ac2 #[U z,U ((k+(vg z).length:Nat):Int),true])/\w=w':=by
 have d:=jj (lJ a l c bs k (zig z) (J9 b) f n w g h);have m:=jj b;obtain⟨j,H⟩:=ex (k+(vg z).length);rw[<-H];have i:=F9 (k+(mD (zig z)).length=j) (by rw[H];rfl);rw[i.out] at d;clear b f g h H;go_enter func196,ntmps196;go_wp2_with fail;refine d.mono ?_;rintro e w' ⟨rfl,rfl⟩;go_wp2_with fail;refine(afQ z m _).mono ?_;rintro e w' ⟨rfl,rfl⟩;go_wp2_with fail;go_ret3
 exact⟨by trivial,by trivial⟩
theorem mV  {fn:Func} {p u:Tmp} {ty:TypeId} (h:fn.results=#[.cell p ty,.tmp u]) (tmps:AV) (w:World) (g:Nat) (t:TypeId) (cs:AV) (fr:Nat×Nat) (d:TypeDesc)
  (e:tmps.getD p undef= .pointer (some (adZ g 0))) (b:w.heap[g]?=some (.cells cs t fr))
  (f:P.underlying ty=some d) (a:(match d with| .struct _| .array _ _=>true|_=>false)=true) (c:(P.info? ty).map (·.size)=some cs.size):
  (results fn tmps).run P w= .ok (ac2 #[acY cs,tmps.getD u undef]) w:=by
 have H:tmps[p]?.getD undef= .pointer (some (adZ g 0)):=by simpa using e
 simp[results,h,H,asAddr,run_loadVar_row w g t ty cs fr d b f a c]
theorem sK.uY{cs:AV}(h:sK x w a n c bs)(b:Only [g] w w')(H:aZ w g t cs)(d:t∉KH):sK x w' a n c bs:=h.only b (mR (nV.of H d))
theorem Ez.uY{bs:List Vo}{cs:AV}(h:Ez x w a n c bs)(b:Only [g] w w')(H:aZ w g t cs)(d:t∉KH):Ez x w' a n c bs:=h.only b (mR (nV.of H d))
theorem Gz.uY{bs:List CD}{cs:AV}(h:Gz x w a n c bs)(d:Only [g] w w')(H:aZ w g t cs)(e:t∉KH)(b:t≠228):Gz x w' a n c bs:=h.only d (mR (nV.of H e)) (Nr.of H b)
theorem Gz.own{base:Nat}{cs:List CD}(h:w.ownsRow base 228 5 (acX a n c) n (cs.flatMap nS))(b: ∀d∈cs,Fw w base d)(e: ∀d∈cs,qX d.view/\qX d.inst/\qX d.seq)(hx:x<base)(f:cs.length=n):Gz x w a n c cs:=
 ⟨fH h,f,qB h,uO h,fun d H=>⟨⟨(sK.own (b d H).b hx (b d H).lb).row,(Ez.own (b d H).v hx (b d H).lv).row,(e d H).1,(e d H).2.1,(e d H).2.2⟩,Fixed.own (b d H).b hx,Fixed.own (b d H).v hx⟩,Fixed.own h hx⟩
theorem qh.i64{z:Int}(h:qh z):qX z:=⟨by have:=h.1;omega,by have:=h.2;omega⟩
theorem aew(w:World)(a:OA)(m c:Nat)(bs:LI)(M:Ms)(W0:Ev M)(J:bs=dF M)(hm:bs.length=m)(J1:m<=65536)(hv:gD w a m 1 (mZ bs))(x:Nat)(hx:x<w.heap.size):
  Y 154 #[acX a m c] w fun e w'=> ∃d:MD,e=acK (ac2 #[acY (oM d).toArray,true])/\nA d=M/\MF x w' d/\Be w w':=by
 obtain⟨z0,z1,z2,z3,z4,z5,l6,l7,l8⟩:=M;obtain⟨o0,o1,o2,o3,o4,o5,o6,o7,o8,o9,l0,m0⟩:=W0;simp only at o0 o1 o2 o3 o4 o5 o6 o7 o8 o9 l0 m0;obtain⟨r,rfl⟩:=bB o0.1;have N0:=F9 (r<1099511627776) (tL o0.2);obtain⟨R,rfl⟩:=bB o1.1;have N1:=F9 (R<1099511627776) (tL o1.2);obtain⟨b,rfl⟩:=bB o2.1;have N2:=F9 (b<1099511627776) (tL o2.2);obtain⟨i,rfl⟩:=bB o3.1;have N3:=F9 (i<1099511627776) (tL o3.2);obtain⟨j,rfl⟩:=bB o4.1;have N4:=F9 (j<1099511627776) (tL o4.2);obtain⟨N5,O6,O7,O8⟩:=j4 o5 o6 o7 o8;obtain⟨N,Q⟩: ∃n,l6.length=n:=⟨_,rfl⟩;obtain⟨D,S⟩: ∃n,l7.length=n:=⟨_,rfl⟩;obtain⟨E,T⟩: ∃n,l8.length=n:=⟨_,rfl⟩;rw[Q] at o9;rw[S] at l0;rw[T] at m0;obtain⟨g0,h0,j0,t,s⟩:=j5 Q S T hv hm;have H:=F9 (m<=1048576) aR;have A0:=At.all bs;obtain⟨p0,V⟩: ∃p:Nat,p=0:=⟨_,rfl⟩;rw[<-V] at A0;have T0:At bs p0 (mD r++(mD R++(mD b++(mD i++(mD j++(vg z5++(nI oK l6++(nI uQ l7++(nI uG l8++(mD 0)))))))))):=by
  have e:bs=mD r++(mD R++(mD b++(mD i++(mD j++(vg z5++(nI oK l6++(nI uQ l7++(nI uG l8++(mD 0))))))))):=by rw[J];simp[dF]
  rw[<-e];exact A0
 obtain⟨p1,W⟩:=ex (p0+(mD r).length);have T1:=T0.right;rw[<-W] at T1;obtain⟨p2,X⟩:=ex (p1+(mD R).length);have T2:=T1.right;rw[<-X] at T2;obtain⟨p3,Z⟩:=ex (p2+(mD b).length);have T3:=T2.right;rw[<-Z] at T3;obtain⟨p4,a0⟩:=ex (p3+(mD i).length);have T4:=T3.right;rw[<-a0] at T4;obtain⟨p5,b0⟩:=ex (p4+(mD j).length);have T5:=T4.right;rw[<-b0] at T5;obtain⟨p6,c0⟩:=ex (p5+(vg z5).length);have T6:=T5.right;rw[<-c0] at T6;obtain⟨p7,d0⟩:=ex (p6+(nI oK l6).length);have T7:=T6.right;rw[<-d0] at T7;obtain⟨p8,e0⟩:=ex (p7+(nI uQ l7).length);have T8:=T7.right;rw[<-e0] at T8;obtain⟨p9,f0⟩:=ex (p8+(nI uG l8).length);have T9:=T8.right;rw[<-f0] at T9;obtain⟨P,B⟩:=ex (p9+(mD 0).length);have PE:=F9 (P=m) (by rw[<-hm,J];simp only[dF,av,bI];omega);obtain⟨Q0,Q1,Q2,Q3,Q4,Q5⟩:=j6 T0.left T1.left T2.left T3.left T4.left T5.left;obtain⟨Q6,Q7,Q8,Q9,P1,P2⟩:=j6 T6.left T7.left T8.left T9 W X;obtain⟨P3,P4,P5,P6,P7,P8⟩:=j6 Z a0 b0 c0 d0 e0;obtain⟨P9,G0,P0⟩:=j3 f0 B V;clear V W X Z a0 b0 c0 d0 e0 f0 B J hv hm Q S T o0 o1 o2 o3 o4 o5 o6 o7 o8;go_enter func154,ntmps154;go_upto_region 1 with fail;generalize hv1:w.alloc _=v1;generalize hg2:w.heap.size=g2;replace hv1:=hv1.symm;replace hg2:=hg2.symm;obtain⟨B1,X1⟩:=nw hv1 hg2;have G:=F9 (w.heap.size<=g2) aR;clear hv1 hg2;go_wp2_with fail
 apply wp_scope_straight;go_upto_region 2 with fail;generalize hu:v1.alloc _=u0;generalize hg4:v1.heap.size=g4;replace hu:=hu.symm;replace hg4:=hg4.symm;have B0:=GN B1 hu;have K0:=xNew hu hg4;have L0:=F9 (aZ u0 g2 82 #[U 0,U 0,U 0,U 0,U 0,U 0,(),(),(),()]) (by rw[hu];exact X1.alloc _);have NE:=F9 (g2≠g4) (by rw[hg4];exact kC X1.lt);have g:=F9 (w.heap.size<=g4) (by rw[hg4];exact B1.size);clear hu hg4;have i0: ¬(65536:Int)<m:=aR;go_wp2_with fail;have E0:(0:Int)=((p0:Nat):Int):=by rw[P0.out];rfl
 rw[E0];have f:=K0.frozen 0;have e:=K0.cell 0;refine(lJ a m c bs p0 r N0.out s.out H.out _ (t.below B0.out) Q0.out).mono ?_;rintro e w' ⟨rfl,rfl⟩;rw[<-P1.out];go_wp2_with fail;obtain⟨u1,hu⟩:=ex (u0.setCell (adZ g4 0) (U (r:Int)));rw[<-hu];have K1:=F9 (aZ u1 g4 82 #[U (r:Int),U 0,U 0,U 0,U 0,U 0,(),(),(),()]) (by rw[hu];exact K0.fU 0 _);have L1:=F9 (aZ u1 g2 82 #[U 0,U 0,U 0,U 0,U 0,U 0,(),(),(),()]) (by rw[hu];exact L0.far NE.out _);have B1:=F9 (Be w u1) (by rw[hu];exact B0.setCell (p:=adZ g4 0) g.out _);clear hu f e;go_wp2_with fail;have f:=K1.frozen 1;have e:=K1.cell 1;refine(lJ a m c bs p1 R N1.out s.out H.out _ (t.below B1.out) Q1.out).mono ?_;rintro e w' ⟨rfl,rfl⟩;rw[<-P2.out];go_wp2_with fail;obtain⟨u2,hu⟩:=ex (u1.setCell (adZ g4 1) (U (R:Int)));rw[<-hu];have K2:=F9 (aZ u2 g4 82 #[U (r:Int),U (R:Int),U 0,U 0,U 0,U 0,(),(),(),()]) (by rw[hu];exact K1.fU 1 _);have L2:=F9 (aZ u2 g2 82 #[U 0,U 0,U 0,U 0,U 0,U 0,(),(),(),()]) (by rw[hu];exact L1.far NE.out _);have B2:=F9 (Be w u2) (by rw[hu];exact B1.setCell (p:=adZ g4 1) g.out _);clear hu f e;go_wp2_with fail;have f:=K2.frozen 2;have e:=K2.cell 2;refine(lJ a m c bs p2 b N2.out s.out H.out _ (t.below B2.out) Q2.out).mono ?_;rintro e w' ⟨rfl,rfl⟩;rw[<-P3.out];go_wp2_with fail;obtain⟨u3,hu⟩:=ex (u2.setCell (adZ g4 2) (U (b:Int)));rw[<-hu];have K3:=F9 (aZ u3 g4 82 #[U (r:Int),U (R:Int),U (b:Int),U 0,U 0,U 0,(),(),(),()]) (by rw[hu];exact K2.fU 2 _);have L3:=F9 (aZ u3 g2 82 #[U 0,U 0,U 0,U 0,U 0,U 0,(),(),(),()]) (by rw[hu];exact L2.far NE.out _);have B3:=F9 (Be w u3) (by rw[hu];exact B2.setCell (p:=adZ g4 2) g.out _);clear hu f e;go_wp2_with fail;have f:=K3.frozen 3;have e:=K3.cell 3;refine(lJ a m c bs p3 i N3.out s.out H.out _ (t.below B3.out) Q3.out).mono ?_;rintro e w' ⟨rfl,rfl⟩;rw[<-P4.out];go_wp2_with fail;obtain⟨u4,hu⟩:=ex (u3.setCell (adZ g4 3) (U (i:Int)));rw[<-hu];have K4:=F9 (aZ u4 g4 82 #[U (r:Int),U (R:Int),U (b:Int),U (i:Int),U 0,U 0,(),(),(),()]) (by rw[hu];exact K3.fU 3 _);have L4:=F9 (aZ u4 g2 82 #[U 0,U 0,U 0,U 0,U 0,U 0,(),(),(),()]) (by rw[hu];exact L3.far NE.out _);have B4:=F9 (Be w u4) (by rw[hu];exact B3.setCell (p:=adZ g4 3) g.out _);clear hu f e;go_wp2_with fail;have f:=K4.frozen 4;have e:=K4.cell 4;refine(lJ a m c bs p4 j N4.out s.out H.out _ (t.below B4.out) Q4.out).mono ?_;rintro e w' ⟨rfl,rfl⟩;rw[<-P5.out];go_wp2_with fail;obtain⟨u5,hu⟩:=ex (u4.setCell (adZ g4 4) (U (j:Int)));rw[<-hu];have K5:=F9 (aZ u5 g4 82 #[U (r:Int),U (R:Int),U (b:Int),U (i:Int),U (j:Int),U 0,(),(),(),()]) (by rw[hu];exact K4.fU 4 _);have L5:=F9 (aZ u5 g2 82 #[U 0,U 0,U 0,U 0,U 0,U 0,(),(),(),()]) (by rw[hu];exact L4.far NE.out _);have B5:=F9 (Be w u5) (by rw[hu];exact B4.setCell (p:=adZ g4 4) g.out _);clear hu f e;go_wp2_with fail;have f:=K5.frozen 5;have e:=K5.cell 5;refine(ahU a m c bs p5 z5 N5.out s.out H.out _ (t.below B5.out) Q5.out).mono ?_;rintro e w' ⟨rfl,rfl⟩;rw[<-P6.out];go_wp2_with fail;obtain⟨u6,hu⟩:=ex (u5.setCell (adZ g4 5) (U z5));rw[<-hu];have K6:=F9 (aZ u6 g4 82 #[U (r:Int),U (R:Int),U (b:Int),U (i:Int),U (j:Int),U z5,(),(),(),()]) (by rw[hu];exact K5.fU 5 _);have L6:=F9 (aZ u6 g2 82 #[U 0,U 0,U 0,U 0,U 0,U 0,(),(),(),()]) (by rw[hu];exact L5.far NE.out _);have B6:=F9 (Be w u6) (by rw[hu];exact B5.setCell (p:=adZ g4 5) g.out _);clear hu f e;go_wp2_with fail;have f:=K6.frozen 6;have e:=K6.cell 6;clear f e;refine(UL _ a m c bs p6 (t.below B6.out) s.out H.out l6 N g0.out aR O6.out Q6.out).mono ?_;rintro e y6 ⟨a6,C,rfl,A,h⟩;have y:=jj (K6.below h K6.lt);have y0:=jj (L6.below h L6.lt);have s0:=nO B6 h;have R6:=jj (sK.own A (aB hx B6.size) g0.out);clear h A;have f:=y.frozen 6;have e:=y.cell 6;rw[<-P7.out];go_wp2_with fail;obtain⟨u7,hu⟩:=ex (y6.setCell (adZ g4 6) (acX a6 N C));rw[<-hu];have K7:=F9 (aZ u7 g4 82 #[U (r:Int),U (R:Int),U (b:Int),U (i:Int),U (j:Int),U z5,acX a6 N C,(),(),()]) (by rw[hu];exact y.fU 6 _);have L7:=F9 (aZ u7 g2 82 #[U 0,U 0,U 0,U 0,U 0,U 0,(),(),(),()]) (by rw[hu];exact y0.far NE.out _);have B7:=F9 (Be w u7) (by rw[hu];exact s0.setCell (p:=adZ g4 6) g.out _);have H0:=F9 (_) (R6.uY (by rw[hu];exact(Only.refl [g4] _).setCell (.inl bJ) _:Only [g4] y6 u7) y.out aV);clear hu f e;go_wp2_with fail;have f:=K7.frozen 7;have e:=K7.cell 7;clear f e;refine(RH _ a m c bs p7 (t.below B7.out) s.out H.out l7 D h0.out aR O7.out Q7.out).mono ?_;rintro e y7 ⟨F,I,rfl,A,h⟩;have o:=jj (K7.below h K7.lt);have C0:=jj (L7.below h L7.lt);have t0:=nO B7 h;have R7:=jj (H0.below h);have S7:=jj (Ez.own A (aB hx B7.size) h0.out);clear h A;have f:=o.frozen 7;have e:=o.cell 7;rw[<-P8.out];go_wp2_with fail;obtain⟨u8,hu⟩:=ex (y7.setCell (adZ g4 7) (acX F D I));rw[<-hu];have K8:=F9 (aZ u8 g4 82 #[U (r:Int),U (R:Int),U (b:Int),U (i:Int),U (j:Int),U z5,acX a6 N C,acX F D I,(),()]) (by rw[hu];exact o.fU 7 _);have L8:=F9 (aZ u8 g2 82 #[U 0,U 0,U 0,U 0,U 0,U 0,(),(),(),()]) (by rw[hu];exact C0.far NE.out _);have B8:=F9 (Be w u8) (by rw[hu];exact t0.setCell (p:=adZ g4 7) g.out _);have I0:=F9 (_) (R7.uY (by rw[hu];exact(Only.refl [g4] _).setCell (.inl bJ) _:Only [g4] y7 u8) o.out aV);have O0:=F9 (_) (S7.uY (by rw[hu];exact(Only.refl [g4] _).setCell (.inl bJ) _:Only [g4] y7 u8) o.out aV);clear hu f e;go_wp2_with fail;have f:=K8.frozen 8;have e:=K8.cell 8;clear f e;refine(Rz _ a m c bs p8 (t.below B8.out) s.out H.out l8 E j0.out aR O8.out Q8.out).mono ?_;rintro e y8 ⟨a8,c8,ds,rfl,z,k0,A,h⟩;have k:=jj (K8.below h K8.lt);have D0:=jj (L8.below h L8.lt);have v0:=nO B8 h;have R8:=jj (I0.below h);have S8:=jj (O0.below h);have LD:=F9 (ds.length=E) (by rw[<-j0.out,<-z,aT]);have U8:=jj (Gz.own A k0 (fun d hd=>by have:=O8.out (pz d) (by rw[<-z];exact bM.2 ⟨d,hd,rfl⟩);exact⟨this.view.i64,this.inst.i64,this.seq.i64⟩) (aB hx B8.size) LD.out)
 have DS:=jj z;clear h A;clear z k0;have f:=k.frozen 8;have e:=k.cell 8;rw[<-P9.out];go_wp2_with fail;obtain⟨u9,hu⟩:=ex (y8.setCell (adZ g4 8) (acX a8 E c8));rw[<-hu];have K9:=F9 (aZ u9 g4 82 #[U (r:Int),U (R:Int),U (b:Int),U (i:Int),U (j:Int),U z5,acX a6 N C,acX F D I,acX a8 E c8,()]) (by rw[hu];exact k.fU 8 _);have L9:=F9 (aZ u9 g2 82 #[U 0,U 0,U 0,U 0,U 0,U 0,(),(),(),()]) (by rw[hu];exact D0.far NE.out _);have B9:=F9 (Be w u9) (by rw[hu];exact v0.setCell (p:=adZ g4 8) g.out _);have J0:=F9 (_) (R8.uY (by rw[hu];exact(Only.refl [g4] _).setCell (.inl bJ) _:Only [g4] y8 u9) k.out aV);have R0:=F9 (_) (S8.uY (by rw[hu];exact(Only.refl [g4] _).setCell (.inl bJ) _:Only [g4] y8 u9) k.out aV);have U0:=F9 (_) (U8.uY (by rw[hu];exact(Only.refl [g4] _).setCell (.inl bJ) _:Only [g4] y8 u9) k.out aV aV);clear hu f e;go_wp2_with fail;have f:=K9.frozen 9;have e:=K9.cell 9;clear f e;refine(OT _ a m c bs p9 (t.below B9.out) s.out H.out Q9.out).mono ?_;rintro e y9 ⟨rfl,h⟩;have l:=jj (K9.below h K9.lt);have F0:=jj (L9.below h L9.lt);have w0:=nO B9 h;have R9:=jj (J0.below h);have S9:=jj (R0.below h);have U9:=jj (U0.below h);clear h;have f:=l.frozen 9;have e:=l.cell 9;rw[<-G0.out];have EM:=F9 (((P:Nat):Int)=(m:Int)) (by rw[PE.out]);go_upto_region 24 with fail;obtain⟨u,hu⟩:=ex (y9.setCell (adZ g4 9) ());rw[<-hu];have K:=F9 (aZ u g4 82 #[U (r:Int),U (R:Int),U (b:Int),U (i:Int),U (j:Int),U z5,acX a6 N C,acX F D I,acX a8 E c8,()]) (by rw[hu];exact l.fU 9 _);have L:=F9 (aZ u g2 82 #[U 0,U 0,U 0,U 0,U 0,U 0,(),(),(),()]) (by rw[hu];exact F0.far NE.out _);have n0:=F9 (Be w u) (by rw[hu];exact w0.setCell (p:=adZ g4 9) g.out _);have M0:=F9 (_) (R9.uY (by rw[hu];exact(Only.refl [g4] _).setCell (.inl bJ) _:Only [g4] y9 u) l.out aV);have S0:=F9 (_) (S9.uY (by rw[hu];exact(Only.refl [g4] _).setCell (.inl bJ) _:Only [g4] y9 u) l.out aV);have V0:=F9 (_) (U9.uY (by rw[hu];exact(Only.refl [g4] _).setCell (.inl bJ) _:Only [g4] y9 u) l.out aV aV);clear hu f e;have i1: ¬((P:Nat):Int)≠(m:Int):=by rw[EM.out];simp
 have i2:((P:Nat):Int)=(m:Int):=EM.out;go_upto_region 25 with fail;have X0:=K.at_ 0;have h1:=L.at_ 0;have x1:=L.frozen 0;have Y0:=K.at_ 1;have j1:=L.at_ 1;have y1:=L.frozen 1;have Z0:=K.at_ 2;have k1:=L.at_ 2;have A1:=L.frozen 2;have a1:=K.at_ 3;have l1:=L.at_ 3;have C1:=L.frozen 3;have b1:=K.at_ 4;have m1:=L.at_ 4;have D1:=L.frozen 4;have c1:=K.at_ 5;have n1:=L.at_ 5;have E1:=L.frozen 5;have d1:=K.at_ 6;have q1:=L.at_ 6;have F1:=L.frozen 6;have e1:=K.at_ 7;have s1:=L.at_ 7;have G1:=L.frozen 7;have f1:=K.at_ 8;have t1:=L.at_ 8;have H1:=L.frozen 8;have g1:=K.at_ 9;have w1:=L.at_ 9;have I1:=L.frozen 9;go_wp2_with fail;obtain⟨w9,q⟩:=ex (setW u g2 0 [U (r:Int),U (R:Int),U (b:Int),U (i:Int),U (j:Int),U z5,acX a6 N C,acX F D I,acX a8 E c8,()]);have x0:=uL q L.out;simp only[setW,aO,Nat.reduceAdd] at q;rw[<-q];have q0:Be w w9:=by rw[q];exact((((((((((n0.setCell (p:=adZ g2 0) G.out _).setCell (p:=adZ g2 1) G.out _).setCell (p:=adZ g2 2) G.out _).setCell (p:=adZ g2 3) G.out _).setCell (p:=adZ g2 4) G.out _).setCell (p:=adZ g2 5) G.out _).setCell (p:=adZ g2 6) G.out _).setCell (p:=adZ g2 7) G.out _).setCell (p:=adZ g2 8) G.out _).setCell (p:=adZ g2 9) G.out _)
 have O:Only [g2] u w9:=by rw[q];exact(((((((((((Only.refl [g2] _).setCell (p:=adZ g2 0) (.inl bJ) _).setCell (p:=adZ g2 1) (.inl bJ) _).setCell (p:=adZ g2 2) (.inl bJ) _).setCell (p:=adZ g2 3) (.inl bJ) _).setCell (p:=adZ g2 4) (.inl bJ) _).setCell (p:=adZ g2 5) (.inl bJ) _).setCell (p:=adZ g2 6) (.inl bJ) _).setCell (p:=adZ g2 7) (.inl bJ) _).setCell (p:=adZ g2 8) (.inl bJ) _).setCell (p:=adZ g2 9) (.inl bJ) _)
 try rw[jB]
 refine bodyPost_ret (v:=ac2 #[acY #[U (r:Int),U (R:Int),U (b:Int),U (i:Int),U (j:Int),U z5,acX a6 N C,acX F D I,acX a8 E c8,()],true]) ?_ rfl ⟨⟨(r:Int),(R:Int),(b:Int),(i:Int),(j:Int),z5,a6,N,C,l6,F,D,I,l7,a8,E,c8,ds,none,0⟩,rfl,?_,⟨M0.uY O L.out aV,S0.uY O L.out aV,V0.uY O L.out aV aV⟩,q0⟩
 ·exact(mV Tryz.results154 _ w9 g2 _ _ _ _ (by rfl) x0 underlying82 rfl (by kernel_rfl)).trans rfl
 simp only[nA,DS.out]
theorem Az(w:World)(A:OA)(n c:Nat)(bs:List Rq)(h:qc w A n c bs)(j:n<=4096):
  Y 270 #[acX A n c] w fun e w'=> ∃g c',e=acK (acX g n c')/\w'.ownsRow w.heap.size 49 6 (acX g n c') n (bs.flatMap rA)/\Be w w':=by
 obtain⟨I,a,b,d,f⟩:=info_parts rT;have H:=jj h;clear h;go_enter func270,ntmps270
 go_wp2_with(at_builtin;refine fD rfl _ _ _ rfl w.heap.size 49 I _ 6 48 underlying46 a b d f rfl aR none 0 0 [] rfl ⟨rfl,.inl ⟨rfl,rfl⟩⟩ A n c (bs.flatMap rA) rfl H.row (Bt bs) (by unfold maxLen;omega) aR (aF _) ?_;intro a5 C W i)
 go_ret;have o5:=i.own;rw[aO,bU] at o5;exact⟨a5,C,by trivial,o5,i.below (n0:=0) (c0:=0) (xs0:= []) ⟨bJ,.inl ⟨rfl,rfl⟩⟩ (aC _ _) (aF _) (aF _)⟩
section
variable{x:Nat}{w w':World}{f:Int}{n g:Nat}{s:CQ}
theorem mM.ajT(h:mM x w f n g s){m:Nat}(i:sK x w a m c bs)(H:Only [g] w w')(e:aZ w' g 271 (WA f n {s with has:=true,ba:=a,bn:=m,bc:=c,bs:=bs})):
  mM x w' f n g {s with has:=true,ba:=a,bn:=m,bc:=c,bs:=bs}:=
 have b: ∀k∈ [g],nV x w k:=by simpa using nV.of h.blk aV
 ⟨e,h.bp.only H (mR h.gne.1.symm),h.bc.only H (mR h.gne.2.symm),h.np,h.nc,h.ne,i.only H b,fun v d=>(h.ps v d).only H b,fun v d=>(h.cs v d).only H b⟩
theorem ahN(h:mM x w f n g s)(l:s.has=false)(A:OA)(m c:Nat)(bs:List Rq)(k:sK x w A m c bs)(p:m<=4096)(hx:x<w.heap.size):
  Y 228 #[g,acX A m c] w fun e w'=> ∃b c',e=acK true/\mM x w' f n g {s with has:=true,ba:=b,bn:=m,bc:=c',bs:=bs}/\Only [g] w w':=by
 have C:J w g 1 false:=(h.blk.cell 1).trans (by rw[<-l];rfl);obtain⟨H,i,o⟩:=j3 h k hx;clear h l k hx;go_enter func228,ntmps228;go_wp2_with fail;refine(Az w A m c bs i.row p).mono ?_;rintro e W ⟨b,c',rfl,j,d⟩;have R:=jj (sK.own (x:=x) j o i.row.len);have S:=jj (H.below d);have B:=jj d;have D:=S.blk.cell 1;have q:=S.blk.cell 2;have F:=S.blk.frozen 1;have r:=S.blk.frozen 2;clear j d C;go_wp2_with fail;go_ret;obtain⟨w3,a⟩:=ex ((W.setCell (adZ g 1) true).setCell (adZ g 2) (acX b m c'));rw[<-a];have t:=S.blk.fU 1 true;have T:aZ w3 g 271 (WA f n {s with has:=true,ba:=b,bn:=m,bc:=c',bs:=bs}):=by rw[a];exact t.fU 2 (acX b m c')
 have o3:Only [g] W w3:=by rw[a];exact((Only.refl [g] _).setCell (.inl bJ) _).setCell (.inl bJ) _
 exact⟨b,c',by trivial,S.ajT R o3 T,(Only.of_below B).trans o3⟩
theorem Bz(h:mM x w f n g s)(d:s.has=true)(k:s.bn<=4096)(hx:x<w.heap.size):
  Y 225 #[g] w fun e w'=> ∃a c',e=acK (ac2 #[acX a s.bn c',true])/\sK x w' a s.bn c' s.bs/\w'.ownsRow w.heap.size 49 6 (acX a s.bn c') s.bn (s.bs.flatMap rA)/\Be w w':=by
 have C:J w g 1 true:=(h.blk.cell 1).trans (by rw[<-d];rfl);have j:=h.blk.at_ 2;have b:=jj h.b;have i:=jj hx;clear h d hx;go_enter func225,ntmps225;go_wp2_with fail;refine(Az w s.ba s.bn s.bc s.bs b.row k).mono ?_;rintro e W ⟨a,c',rfl,H,c⟩;have R:=jj (sK.own (x:=x) H i b.row.len);have O:=jj H;have B:=jj c;clear H c C j;go_wp2_with fail;go_ret2
 exact⟨a,c',by trivial,R,O,B⟩
theorem CG(h:mM x w f n g s)(H:s.has=false):
  Y 225 #[g] w fun e w'=>e=acK (ac2 #[(),false])/\w=w':=by
 have c:J w g 1 false:=(h.blk.cell 1).trans (by rw[<-H];rfl);clear h H;go_enter func225,ntmps225;go_wp2_with fail;go_ret2
 exact⟨by trivial,by trivial⟩
theorem aeJ(h:mM x w f n g s):
  Y 284 #[g,U 4] w fun e w'=>e=acK (O s.gp n n)/\w=w':=by have c:=h.blk.at_ 3;clear h;go_enter func284,ntmps284;go_wp2_with fail;go_ret;exact⟨by trivial,by trivial⟩
theorem aeK(h:mM x w f n g s):
  Y 284 #[g,U 5] w fun e w'=>e=acK (O s.gc n n)/\w=w':=by have c:=h.blk.at_ 4;clear h;go_enter func284,ntmps284;go_wp2_with fail;go_ret;exact⟨by trivial,by trivial⟩
theorem mM.apa(h:mM x w f n g s)(d:v.Is x w)(H:Only [s.gp] w w')(c:aZ w' s.gp 408 ((s.pr.set k v).flatMap Ki).toArray):mM x w' f n g {s with pr:=s.pr.set k v}:=
 have b: ∀k∈ [s.gp],nV x w k:=by simpa using nV.of h.bp aV
 ⟨h.blk.only H (mR h.gne.1),c,h.bc.only H (mR h.ne.symm),by simp[h.np],h.nc,h.ne,h.b.only H b,fun u a=>by
  rcases cB a with a|rfl
  ·exact(h.ps u a).only H b
  exact d.only H b,fun u a=>(h.cs u a).only H b⟩
theorem mM.apb(h:mM x w f n g s)(d:v.Is x w)(H:Only [s.gc] w w')(c:aZ w' s.gc 408 ((s.co.set k v).flatMap Ki).toArray):mM x w' f n g {s with co:=s.co.set k v}:=
 have b: ∀k∈ [s.gc],nV x w k:=by simpa using nV.of h.bc aV
 ⟨h.blk.only H (mR h.gne.2),h.bp.only H (mR h.ne),c,h.np,by simp[h.nc],h.ne,h.b.only H b,fun u a=>(h.ps u a).only H b,fun u a=>by
  rcases cB a with a|rfl
  ·exact(h.cs u a).only H b
  exact d.only H b⟩
end
theorem Sc    (h:aZ w gv 408 (l.flatMap Ki).toArray) (H:k<l.length) (v:rC)
  (a:w'=((w.setCell (adZ gv (k*3)) v.has).setCell (adZ gv (k*3+1)) (U v.sg)).setCell (adZ gv (k*3+1+1)) (acX v.ba v.bn v.bc)):
  aZ w' gv 408 ((l.set k v).flatMap Ki).toArray/\Only [gv] w w':=by subst a;refine⟨?_,(((Only.refl [gv] _).setCell (.inl bJ) _).setCell (.inl bJ) _).setCell (.inl bJ) _⟩;have t:=((h.fU (k*3) v.has).fU (k*3+1) (U v.sg)).fU (k*3+1+1) (acX v.ba v.bn v.bc);rw[<-XE Ki adr v _ _ _ rfl l k H];simpa using t
theorem vS(h:aZ w gv 408 (l.flatMap Ki).toArray)(H:k<l.length):
  w.cell? (adZ gv (k*3))=some (.bool l[k].has)/\J w gv (k*3+1) (.int .i64 l[k].sg)/\J w gv (k*3+1+1) (acX l[k].ba l[k].bn l[k].bc):=
 ⟨(h.cell _).trans (mR (nT Ki 3 adr l k 0 aR H _ rfl)),(h.cell _).trans (mR (nT Ki 3 adr l k 1 aR H _ rfl)),(h.cell _).trans (mR (nT Ki 3 adr l k 2 aR H _ rfl))⟩
section
variable{x:Nat}{w w':World}{f:Int}{n g:Nat}{s:CQ}
theorem ais(h:mM x w f n g s)(kd:Int)(k:Nat)(H:kd=4/\(∃v,s.pr[k]?=some v/\v.has=true)\/kd=5/\ ∃v,s.co[k]?=some v/\v.has=true)(z:Int)(A:OA)(m c:Nat):
  Y 258 #[g,U kd,U k,U z,acX A m c] w fun e w'=>e=acK false/\w=w':=by
 obtain⟨V,C,j,i⟩: ∃V,J w V (k*3) true/\k<n/\Hid (Y 284 #[g,U kd] w fun e w'=>e=acK (O V n n)/\w=w'):=by
  rcases H with⟨rfl,v,d,H⟩|⟨rfl,v,d,H⟩
  ·obtain⟨a,b⟩:=ah.1 d
   exact⟨s.gp,by rw[(vS h.bp a).1,b,H],by rw[<-h.np];exact a,jj (aeJ h)⟩
  obtain⟨a,b⟩:=ah.1 d;exact⟨s.gc,by rw[(vS h.bc a).1,b,H],by rw[<-h.nc];exact a,jj (aeK h)⟩
 have I:(0:Int)<=k:=aR;have l: ¬(k:Int)<0:=aR;have o:(k:Int)<n:=aR;have p: ¬(n:Int)<=k:=aR;clear h H;go_enter func258,ntmps258;go_wp2_with fail;refine i.out.mono ?_;rintro e w' ⟨rfl,rfl⟩;go_wp2_with fail;go_ret;exact⟨by trivial,by trivial⟩
theorem ahO(h:mM x w f n g s)(k:Nat)(d:k<s.pr.length)(q:s.pr[k].has=false)(z:Int)(A:OA)(m c:Nat)(bs:List Rq)(p:sK x w A m c bs)(D:m<=4096)(M:n<=13)(hx:x<w.heap.size):
  Y 258 #[g,U 4,U k,U z,acX A m c] w fun e w'=> ∃b c',e=acK true/\mM x w' f n g {s with pr:=s.pr.set k ⟨true,z,b,m,c',bs⟩}/\Only [s.gp] w w':=by
 have y:k<n:=by rw[<-h.np];exact d
 have C:J w s.gp (k*3) false:=by rw[(vS h.bp d).1,q]
 obtain⟨H,l,u,j⟩:=j4 h p hx d;have N:(0:Int)<=k:=aR;have O: ¬(k:Int)<0:=aR;have P:(k:Int)<n:=aR;have Q: ¬(n:Int)<=k:=aR;clear h q p hx d;go_enter func258,ntmps258;go_wp2_with fail;refine(aeJ H).mono ?_;rintro e w' ⟨rfl,rfl⟩;go_wp2_with fail;refine(Az w A m c bs l.row D).mono ?_;rintro e W ⟨b,c',rfl,o,i⟩;have R:=jj (sK.own (x:=x) o u l.row.len);have S:=jj (H.below i);have B:=jj i;obtain⟨E,F,G⟩:=vS S.bp j;have I:=S.bp.frozen (k*3);have K:=S.bp.frozen (k*3+1);have L:=S.bp.frozen (k*3+1+1);clear o i C;go_wp2_with fail;go_ret;obtain⟨V,a⟩:=ex (((W.setCell ⟨s.gp,k*3,none⟩ true).setCell ⟨s.gp,k*3+1,none⟩ (U z)).setCell ⟨s.gp,k*3+1+1,none⟩ (acX b m c'));obtain⟨T,t⟩:=Sc S.bp j ⟨true,z,b,m,c',bs⟩ a;refine⟨b,c',by trivial,?_,?_⟩
 ·have r:=S.apa (v:=⟨true,z,b,m,c',bs⟩) (k:=k) R t T
  rw[a] at r;exact r
 rw[a] at t;exact(Only.of_below B).trans t
theorem ahP(h:mM x w f n g s)(k:Nat)(d:k<s.co.length)(q:s.co[k].has=false)(z:Int)(A:OA)(m c:Nat)(bs:List Rq)(p:sK x w A m c bs)(D:m<=4096)(M:n<=13)(hx:x<w.heap.size):
  Y 258 #[g,U 5,U k,U z,acX A m c] w fun e w'=> ∃b c',e=acK true/\mM x w' f n g {s with co:=s.co.set k ⟨true,z,b,m,c',bs⟩}/\Only [s.gc] w w':=by
 have y:k<n:=by rw[<-h.nc];exact d
 have C:J w s.gc (k*3) false:=by rw[(vS h.bc d).1,q]
 obtain⟨H,l,u,j⟩:=j4 h p hx d;have N:(0:Int)<=k:=aR;have O: ¬(k:Int)<0:=aR;have P:(k:Int)<n:=aR;have Q: ¬(n:Int)<=k:=aR;clear h q p hx d;go_enter func258,ntmps258;go_wp2_with fail;refine(aeK H).mono ?_;rintro e w' ⟨rfl,rfl⟩;go_wp2_with fail;refine(Az w A m c bs l.row D).mono ?_;rintro e W ⟨b,c',rfl,o,i⟩;have R:=jj (sK.own (x:=x) o u l.row.len);have S:=jj (H.below i);have B:=jj i;obtain⟨E,F,G⟩:=vS S.bc j;have I:=S.bc.frozen (k*3);have K:=S.bc.frozen (k*3+1);have L:=S.bc.frozen (k*3+1+1);clear o i C;go_wp2_with fail;go_ret;obtain⟨V,a⟩:=ex (((W.setCell ⟨s.gc,k*3,none⟩ true).setCell ⟨s.gc,k*3+1,none⟩ (U z)).setCell ⟨s.gc,k*3+1+1,none⟩ (acX b m c'));obtain⟨T,t⟩:=Sc S.bc j ⟨true,z,b,m,c',bs⟩ a;refine⟨b,c',by trivial,?_,?_⟩
 ·have r:=S.apb (v:=⟨true,z,b,m,c',bs⟩) (k:=k) R t T
  rw[a] at r;exact r
 rw[a] at t;exact(Only.of_below B).trans t
end
theorem ahK(a b:OA)(n m c d:Nat)(l N:List Rq)(w:World)(h:qc w a n c l)(L:qc w b m d N)(hn:n<=4096)(A:Bool)(u:decide (l=N)=A):
  Y 297 #[.slice a n c,.slice b m d] w fun e w'=>e= .returned A/\Be w w':=by
 obtain⟨H,H',y⟩:=j3 h L u;by_cases v:n=m
 ·subst v
  clear h L u;go_enter func297,ntmps297;go_wp2_with fail;go_loopw [14] (fun i wr=> ∃k:Nat,k<=n/\i= U k/\(∀j,j<k->l[j]?=N[j]?)/\Be w wr) (fun i _=>n -(intOf i).toNat)
  case atStart=>exact⟨0,aR,rfl,fun j W=>absurd W aR,aC _ _⟩
  case round=>
   obtain⟨k,d0,rfl,hs,u⟩:=hrel;have t:=jj u;have HS:=jj hs;clear hs u;by_cases C:k<n
   ·obtain⟨b1,o1,rfl,b0,x,X,p,q,r,s,hx,p0,p1,p2,p3,p4,p5⟩:=(H.below t).get C
    obtain⟨b2,o2,rfl,c0,O,P,Q,R,S,T,M,q0,q1,q2,q3,q4,q5⟩:=(H'.below t).get C;have i0:(0:Int)<=k:=aR;have i1:(k:Int)<n:=aR;have o:=jj (show(((x,X,p,q,r,s):Rq)≠(O,P,Q,R,S,T))->A=false from fun a0=>by rw[<-y.out];refine decide_eq_false fun V=>a0 ?_;subst V;rw[hx] at M;exact dh M)
    have G:=jj (show(((x,X,p,q,r,s):Rq)=(O,P,Q,R,S,T))-> ∀j,j<k+1->l[j]?=N[j]? from fun hh j W=>by
     rcases iZ j k with h|h
     ·exact HS.out j h
     obtain rfl:j=k:=aR;rw[hx,M,hh])
    clear hx M;by_cases D:x=O
    ·subst D
     by_cases E:X=P
     ·subst E
      by_cases F:p=Q
      ·subst F
       by_cases I:q=R
       ·subst I
        by_cases J:r=S
        ·subst J
         by_cases K:s=T
         ·subst K
          have hg:=G.out rfl;have HG:=jj hg;clear hg;go_wp2_with fail;have B:=(aC wr.heap.size wr).alloc (aF _) (.cells #[U x,U X,U p,U q,U r,U s] 49);have f:=nO t B
          go_quiet(fail);go_wp2_with fail;go_roundw
          case rel=>exact⟨k+1,aR,by go_num,HG,below_drewN f nq⟩
          simp[intOf];omega
         have g:=o.out (fun h=>K (congrArg (fun(z:Rq)=>z.2.2.2.2.2) h));subst g;have ne:(s==T)=false:=beq_eq_false_iff_ne.2 K;clear K;go_wp2_with fail;have B:=(aC wr.heap.size wr).alloc (aF _) (.cells #[U x,U X,U p,U q,U r,U s] 49);have f:=nO t B
         go_quiet(fail);go_wp2_with fail;go_ret;exact⟨rfl,below_drewN f nq⟩
        have g:=o.out (fun h=>J (congrArg (fun(z:Rq)=>z.2.2.2.2.1) h));subst g;have ne:(r==S)=false:=beq_eq_false_iff_ne.2 J;clear J;go_wp2_with fail;have B:=(aC wr.heap.size wr).alloc (aF _) (.cells #[U x,U X,U p,U q,U r,U s] 49);have f:=nO t B
        go_quiet(fail);go_wp2_with fail;go_ret;exact⟨rfl,below_drewN f nq⟩
       have g:=o.out (fun h=>I (congrArg (fun(z:Rq)=>z.2.2.2.1) h));subst g;have ne:(q==R)=false:=beq_eq_false_iff_ne.2 I;clear I;go_wp2_with fail;have B:=(aC wr.heap.size wr).alloc (aF _) (.cells #[U x,U X,U p,U q,U r,U s] 49);have f:=nO t B
       go_quiet(fail);go_wp2_with fail;go_ret;exact⟨rfl,below_drewN f nq⟩
      have g:=o.out (fun h=>F (congrArg (fun(z:Rq)=>z.2.2.1) h));subst g;have ne:(p==Q)=false:=beq_eq_false_iff_ne.2 F;clear F;go_wp2_with fail;have B:=(aC wr.heap.size wr).alloc (aF _) (.cells #[U x,U X,U p,U q,U r,U s] 49);have f:=nO t B
      go_quiet(fail);go_wp2_with fail;go_ret;exact⟨rfl,below_drewN f nq⟩
     have g:=o.out (fun h=>E (congrArg (fun(z:Rq)=>z.2.1) h));subst g;have ne:(X==P)=false:=beq_eq_false_iff_ne.2 E;clear E;go_wp2_with fail;have B:=(aC wr.heap.size wr).alloc (aF _) (.cells #[U x,U X,U p,U q,U r,U s] 49);have f:=nO t B
     go_quiet(fail);go_wp2_with fail;go_ret;exact⟨rfl,below_drewN f nq⟩
    have g:=o.out (fun h=>D (congrArg (fun(z:Rq)=>z.1) h));subst g;have ne:(x==O)=false:=beq_eq_false_iff_ne.2 D;clear D;go_wp2_with fail;have B:=(aC wr.heap.size wr).alloc (aF _) (.cells #[U x,U X,U p,U q,U r,U s] 49);have f:=nO t B
    go_quiet(fail);go_wp2_with fail;go_ret;exact⟨rfl,below_drewN f nq⟩
   have Z:k=n:=aR;obtain rfl:A=true:=by rw[<-y.out];exact decide_eq_true (Tm H.len H'.len fun j W=>HS.out j aR)
   clear Z;go_wp2_with fail;go_ret;exact⟨rfl,t⟩
 obtain rfl:A=false:=by rw[<-u];refine decide_eq_false fun V=>v ?_;rw[<-h.len,<-L.len,V]
 have E:((n:Int) !=(m:Int))=true:=bne_iff_ne.2 aR;clear h L u v;go_enter func297,ntmps297;go_wp2_with fail;go_ret;exact⟨rfl,aC _ _⟩
theorem oC(f:Int)(w:World)(h:1<=f)(H:f<=4):Y 44 #[U f] w fun e w'=>e=acK (U (3*f+1))/\w=w':=by
 go_enter func44,ntmps44
 go_wp2
 go_ret;exact⟨rfl,rfl⟩
theorem abQ(f:Int)(w:World)(h:1<=f)(H:f<=4):Y 17 #[U f] w fun e w'=>e=acK (U (3*f+1))/\w=w':=by
 go_enter func17,ntmps17
 go_wp2
 go_ret;exact⟨rfl,rfl⟩
theorem JB(f:Int)(w:World)(h:1<=f)(H:f<=4):Y 235 #[U f] w fun e w'=>e=acK (U (2*f+1))/\w=w':=by
 have E:IntKind.i64.wrap (2*f)=2*f:=aH _ aR;have a:IntKind.i64.wrap (2*f+1)=2*f+1:=aH _ aR;go_enter func235,ntmps235
 go_wp2
 go_ret;exact⟨by trivial,by trivial⟩
theorem UR(f:Int)(w:World)(h:1<=f)(H:f<=4):Y 122 #[U f] w fun e w'=>e=acK (U (f+1))/\w=w':=by
 have E:IntKind.i64.wrap (f+1)=f+1:=aH _ aR;go_enter func122,ntmps122
 go_wp2
 go_ret;exact⟨by trivial,by trivial⟩
theorem afE(f:Int)(w:World)(h:1<=f)(H:f<=4):Y 72 #[U f] w fun e w'=>e=acK true/\w=w':=by
 go_enter func72,ntmps72
 go_wp2
 go_ret;exact⟨by trivial,by trivial⟩
theorem MP(f:Int)(k:Int)(w:World)(h:1<=f)(H:f<=4)(a:0<=k/\k<=f):Y 206 #[U f,U 0,U k] w fun e w'=>e=acK (U k)/\w=w':=by
 obtain⟨k0,k1⟩:=a;have i: ¬k<0:=aR;have I: ¬f<k:=aR;have E:=F9 (k%(3*f+1)=k) (jQ k0 aR);go_enter func206,ntmps206;have b:IntKind.i64.wrap (0+k)=k:=by rw[aH _ aR];omega
 go_wp2_with fail;refine(afE f _ h H).mono ?_;rintro e w' ⟨rfl,rfl⟩;go_wp2_with fail;refine(oC f _ h H).mono ?_;rintro e w' ⟨rfl,rfl⟩;have q:1<=3*f+1:=aR;go_wp2_with fail;go_ret;exact⟨by first|rfl|(rw[E.out];rfl),by trivial⟩
theorem xB(b:List Rq)(v:Xk): ∀(l:List Xk) (k q:Nat),ny b (l++ [v]) k q=ny b l k q++(match v with
  |some (s,c)=>if c=b/\(ny b l k q).length<q then [(((k+l.length:Nat):Int),s)] else []
  |none=> [])
 | [],k,q=>by
  cases v with
  |none=>simp[ny]
  |some p=>
   obtain⟨s,c⟩:=p;by_cases h:c=b/\0<q
   ·simp[ny,h]
   simp only[bU,ny,if_neg h,dK];try exact(if_neg h).symm
 |none::l,k,q=>by have ih:=xB b v l (k+1) q;have e:k+1+l.length=k+(l.length+1):=aR;simp only[eH,ny,aY];rw[e] at ih;exact ih
 |some (s,c)::l,k,q=>by
  have e:k+1+l.length=k+(l.length+1):=aR;by_cases h:c=b/\0<q
  ·have ih:=xB b v l (k+1) (q -1)
   simp only[eH,ny,aY,if_pos h];rw[ih,e];have e2:((ny b l (k+1) (q -1)).length<q -1)=((ny b l (k+1) (q -1)).length+1<q):=by apply propext;omega
   cases v with
   |none=>rfl
   |some p=>simp only[e2];try rfl
  have ih:=xB b v l (k+1) q;simp only[eH,ny,aY,if_neg h];rw[ih,e]
theorem BH(b:List Rq): ∀(l:List Xk) (k q:Nat),(ny b l k q).length<=q/\(ny b l k q).length<=l.length
 | [],k,q=>by simp[ny]
 |none::l,k,q=>by have:=BH b l (k+1) q;simp only[ny,aY];omega
 |some (s,c)::l,k,q=>by
  by_cases h:c=b/\0<q
  ·have:=BH b l (k+1) (q -1)
   simp only[ny,if_pos h,aY];omega
  have:=BH b l (k+1) q;simp only[ny,if_neg h,aY];omega
theorem MZ (w:World) (g:Nat) (f:Int) (h1:1<=f) (h4:f<=4) (hg:J w g 0 (U f)) (gv n:Nat) (L:List rC) (hL:aZ w gv 408 (L.flatMap Ki).toArray) (hn:L.length=n) (b0:n<=13)
  (I: ∀v∈L,qc w v.ba v.bn v.bc v.bs/\v.bn<=4096) (A:OA) (m c:Nat) (bs:List Rq) (F:qc w A m c bs) (q:Nat) (hq:(q:Int)=2*f+1) (r:Option (List Vo)) (hr:qx q (L.map rC.val) bs=r):
  Y 295 #[g,O gv n n,.slice A m c] w fun e w'=>((∃vs a N c',r=some vs/\vs.length=N/\e= .returned (.tuple #[.slice a N c',true])/\w'.ownsRow w.heap.size 311 2 (.slice a N c') N (vs.flatMap Cg))\/(r=none/\e= .returned (.tuple #[(),false])))/\Be w w':=by
 obtain⟨i0,a0,f0,g0,h0⟩:=info_parts Cr;obtain⟨HG,HL,HN,T,HB,HR⟩:=j6 hg hL hn I F hr;have HQ:=jj hq;have GL:=World.block_lt_of_cell? w _ hg;clear hg hL hn I F hr hq;go_enter func295,ntmps295;go_wp2_with fail;go_loopw [8,13] (fun o i wr=> ∃k:Nat,k<=n/\i= U k/\(∃a j c',o= .slice a j c'/\(ny bs ((L.take k).map rC.val) 0 q).length=j/\wr.ownsRow w.heap.size 311 2 (.slice a j c') j ((ny bs ((L.take k).map rC.val) 0 q).flatMap Cg))/\Be w wr) (fun _ i _=>n -(intOf i).toNat)
 case atStart=>exact⟨0,aR,rfl,⟨none,0,0,rfl,rfl,⟨by simp[ny],.inl ⟨rfl,rfl⟩⟩⟩,aC _ _⟩
 case round=>
  obtain⟨k,hk,rfl,⟨a,j,c',rfl,hj,ho⟩,F⟩:=hrel;obtain⟨p,K,b⟩:=j3 F ho hj;have l0:j<=q/\j<=13:=by have:=BH bs ((L.take k).map rC.val) 0 q;rw[hj,aT,cO] at this;omega
  have j0:=HQ.out;clear F ho hj;by_cases z:k<n
  ·have l:k<L.length:=by rw[HN.out];exact z
   have k0:(0:Int)<=k:=aR;have i1:(k:Int)<n:=aR;have e0:IntKind.i64.wrap ((k:Int)+1)=(k:Int)+1:=aH _ aR;obtain⟨y,x⟩:=T.out _ (bY l);have ST:=F9 (ny bs ((L.take (k+1)).map rC.val) 0 q=ny bs ((L.take k).map rC.val) 0 q++(match L[k].val with
    |some (s,c)=>if c=bs/\j<q then [((k:Int),s)] else []
    |none=> [])) (by rw[bA l,bR,bV,fu,xB,b.out,aT,cO,fO aR,aO])
   obtain⟨X,Z,d2⟩:=vS (HL.below p HL.lt) l;obtain⟨v,hv⟩:=ex L[k];rw[<-hv] at y x ST X Z d2;obtain⟨vh,vz,va,vn,vc,V⟩:=v;have VB:=jj y;simp only at X Z d2 x;have H:=jj z;clear hv y l z hk
   cases vh with
   |false=>
    have S:=F9 (ny bs ((L.take (k+1)).map rC.val) 0 q=ny bs ((L.take k).map rC.val) 0 q) (by rw[ST.out];simp[rC.val]);go_wp2_with fail;go_roundw
    case rel=>exact⟨k+1,by have:=H.out;omega,by go_num,⟨a,j,c',by trivial,by rw[S.out];exact b.out,by rw[S.out];exact own_below K nC⟩,p.alloc p.size _⟩
    have:=H.out;simp[intOf];omega
   |true=>
    go_wp2_with fail;generalize mE:wr.alloc _=w9;generalize vE:wr.heap.size=g9;replace mE:=mE.symm;replace vE:=vE.symm;have X9:=xNew mE vE;have C:=(tQ mE).out;have O9:=jj (own_below K C);have P:=nO p C;have W:=jj (VB.below P);clear mE vE X Z d2;obtain⟨bb,t⟩: ∃bb,decide (V=bs)=bb:=⟨_,rfl⟩;have D:=jj t;refine(ahK va A vn m vc c V bs _ W (HB.below P) x bb t).mono ?_;rintro e w3 ⟨rfl,d⟩;have B:=nO P d;have X3:=jj (X9.below d X9.lt);have M:=jj (own_below O9 d);have G3:J w3 g 0 (U f):=kept B _ _ HG;clear t d
    cases bb with
    |false=>
     have S:=F9 (ny bs ((L.take (k+1)).map rC.val) 0 q=ny bs ((L.take k).map rC.val) 0 q) (by have c0: ¬V=bs:=of_decide_eq_false D;rw[ST.out];simp[rC.val,c0])
     go_wp2_with fail;go_roundw
     case rel=>exact⟨k+1,by have:=H.out;omega,by go_num,⟨a,j,c',by trivial,by rw[S.out];exact b.out,by rw[S.out];exact M.out⟩,B⟩
     have:=H.out;simp[intOf];omega
    |true=>
     have G:V=bs:=of_decide_eq_true D.out;have Q:=jj G;clear G;go_wp2_with fail;refine(JB f _ h1 h4).mono ?_;rintro e w' ⟨rfl,rfl⟩;by_cases h:j<q
     ·have i5:(j:Int)<2*f+1:=aR
      have S:=F9 (ny bs ((L.take (k+1)).map rC.val) 0 q=ny bs ((L.take k).map rC.val) 0 q++ [((k:Int),vz)]) (by rw[ST.out];simp[rC.val,Q.out,h])
      have y1:=X3.at_ 1;clear h
      go_wp2_with(first|(at_builtin;refine fD rfl _ _ _ rfl w.heap.size 311 i0 _ 2 16 underlying78 a0 f0 g0 h0 rfl aR a j c' ((ny bs ((L.take k).map rC.val) 0 q).flatMap Cg) rfl (own_below M nC) (some ⟨w3.heap.size,0,none⟩) 1 1 (Cg ((k:Int),vz)) rfl (gD.nR (n:=1) (s:=2) (aZ.new w3 311 #[U k,U vz]) rfl) (by intro u hu;simp[Cg] at hu;rcases hu with rfl|rfl<;>rfl) (by unfold maxLen;omega) aR (by have:=B.size;simp;omega) ?_;intro a6 c6 w6 h6;have H6:=jj h6;clear h6))
      have O6:=F9 (w6.ownsRow w.heap.size 311 2 (.slice a6 (j+1) c6) (j+1) ((ny bs ((L.take (k+1)).map rC.val) 0 q).flatMap Cg)) (by have:=H6.own;rw[S.out,bS];simpa using this)
      have B6:=F9 (Be w w6) (H6.below (own_below M nC) (B.alloc B.size _) (aF _) (by have:=B.size;simp;omega));have R:=F9 ((ny bs ((L.take (k+1)).map rC.val) 0 q).length=j+1) (by rw[S.out,av,b.out];rfl)
      try go_wp2_with fail
      go_roundw
      case rel=>exact⟨k+1,by have:=H.out;omega,by go_num,⟨a6,j+1,c6,by trivial,R,O6⟩,B6⟩
      have:=H.out;simp[intOf];omega
     have i5: ¬(j:Int)<2*f+1:=aR;have S:=F9 (ny bs ((L.take (k+1)).map rC.val) 0 q=ny bs ((L.take k).map rC.val) 0 q) (by rw[ST.out];simp[rC.val,h])
     clear h;go_wp2_with fail;go_roundw
     case rel=>exact⟨k+1,by have:=H.out;omega,by go_num,⟨a,j,c',by trivial,by rw[S.out];exact b.out,by rw[S.out];exact M.out⟩,B⟩
     have:=H.out;simp[intOf];omega
  have i1: ¬(k:Int)<n:=aR;have E:=F9 ((L.take k).map rC.val=L.map rC.val) (by rw[dB (by rw[HN.out];omega)]);have G3:J wr g 0 (U f):=kept p _ _ HG;rw[E.out] at b K;go_wp2_with fail;refine(JB f _ h1 h4).mono ?_;rintro e w' ⟨rfl,rfl⟩;by_cases h:j<q
  ·have i5:(j:Int)<2*f+1:=aR
   have RN:=F9 (r=none) (by rw[<-HR.out];unfold qx;rw[if_neg (by rw[b.out];omega)]);go_wp2_with fail;go_ret2
   exact⟨.inr ⟨RN,by trivial⟩,p⟩
  have i5: ¬(j:Int)<2*f+1:=aR;have RS:=F9 (r=some (ny bs (L.map rC.val) 0 q)) (by rw[<-HR.out];unfold qx;rw[if_pos (by rw[b.out];omega)]);go_wp2_with fail;go_ret2
  exact⟨.inl ⟨_,a,j,c',RS,b,by trivial,K⟩,p⟩
section
variable{x:Nat}{w w':World}{f:Int}{n g:Nat}{s:CQ}
theorem OP(h:mM x w f n g s)(H:s.has=false):
  Y 285 #[g] w fun e w'=>e=acK (ac2 #[(),false])/\w=w':=by
 have c:J w g 1 false:=(h.blk.cell 1).trans (by rw[<-H];rfl);clear h H;go_enter func285,ntmps285;go_wp2_with fail;go_ret2
 exact⟨by trivial,by trivial⟩
def Sz(w:World)(r:Option (List Vo)):Ending->World->Prop:=fun e W=>
 ((∃v a k c,r=some v/\v.length=k/\e=acK (ac2 #[acX a k c,true])/\W.ownsRow w.heap.size 311 2 (acX a k c) k (v.flatMap Cg))\/(r=none/\e=acK (ac2 #[(),false])))/\Be w W
theorem Ga(h:mM x w f n g s)(u:s.has=true)(L:1<=f)(M:f<=4)(c:n<=13)(N:s.bn<=4096)(i: ∀v∈s.pr,v.bn<=4096)(q:Nat)(p:(q:Int)=2*f+1)(r:Option (List Vo))(t:qx q (s.pr.map rC.val) s.bs=r):
  Y 285 #[g] w (Sz w r):=by
 have K:J w g 1 true:=(h.blk.cell 1).trans (by rw[<-u];rfl);obtain⟨H,F,E,l⟩:=j4 h t p i;clear h u t p i;go_enter func285,ntmps285;go_upto_region 3 with fail;have D:=jj (H.below (aC _ _).drew);clear K;refine rP (fun z=>J z g 2 (acX s.ba s.bn s.bc)/\J z g 3 (O s.gp n n)) 14 (tk 0 9 (.one 9 (tk 10 4 .done))) ⟨D.blk.cell 2,D.blk.cell 3⟩ ?_;intro a
 repeat refine' tT ?_
 refine pO fun KT bq=> ?_;go_simp;refine(MZ _ g f L M (D.blk.cell 0) s.gp n s.pr D.bp D.np c (fun v y=>⟨(D.ps v y).row,l.out v y⟩) s.ba s.bn s.bc s.bs D.b.row q E r F).mono ?_;rintro e W ⟨(⟨V,G,P,I,j,b,rfl,o⟩|⟨d,rfl⟩),hb⟩
 ·have B:=jj ((aC w.heap.size w).drew.trans hb)
  have m:=jj j;have A:=jj b;have C:=jj (mO o (aF _));have S:J W g 2 (acX s.ba s.bn s.bc)/\J W g 3 (O s.gp n n):=⟨kept hb _ _ a.1,kept hb _ _ a.2⟩;clear hb j b o;refine oH bq S ?_;clear a;have a:=S
  repeat refine' tT ?_
  refine aU ?_;clear a;go_wp2_with fail;go_ret2
  exact⟨.inl ⟨V,G,P,I,m,A,by trivial,C⟩,B⟩
 have B:=jj ((aC w.heap.size w).drew.trans hb);have k:=jj d;have S:J W g 2 (acX s.ba s.bn s.bc)/\J W g 3 (O s.gp n n):=⟨kept hb _ _ a.1,kept hb _ _ a.2⟩;clear hb d;refine oH bq S ?_;clear a;have a:=S
 repeat refine' tT ?_
 refine aU ?_;clear a;go_wp2_with fail;go_ret2
 exact⟨.inr ⟨k,by trivial⟩,B⟩
def Zh(x:Nat)(w:World)(r:Option (List Rq×List Vo)):Ending->World->Prop:=fun e W=>
 ((∃b v a m c A k C,r=some (b,v)/\b.length=m/\m<=4096/\v.length=k/\e=acK (ac2 #[acX a m c,acX A k C,true])/\sK x W a m c b/\Ez x W A k C v)\/(r=none/\e=acK (ac2 #[(),(),false])))/\Be w W
theorem Eb(h:mM x w f n g s)(h1:1<=f)(h4:f<=4)(L:n<=13)(K: ∀v∈s.co,v.bn<=4096)(hx:x<w.heap.size)(q:Nat)(hq:(q:Int)=2*f+1)(r:Option (List Rq×List Vo))(P:mQ q (s.co.map rC.val) (s.co.map rC.val)=r):
  Y 287 #[g] w (Zh x w r):=by
 have c4:=h.blk.at_ 4;obtain⟨H,HR,HQ,G,HX,HN⟩:=j6 h P hq K hx h.nc;clear h P hq K hx;go_enter func287,ntmps287;go_wp2_with fail;clear c4
 go_loopw [14] (fun i wr=> ∃k:Nat,k<=n/\i= U k/\mQ q (s.co.map rC.val) ((s.co.drop k).map rC.val)=r/\Be w wr) (fun i _=>n -(intOf i).toNat)
 case atStart=>exact⟨0,aR,rfl,by simpa using HR.out,aC _ _⟩
 case round=>
  obtain⟨k,hk,rfl,P,b⟩:=hrel;have F:=jj b;have j:=jj P;clear b P;by_cases u:k<n
  ·have c:k<s.co.length:=by rw[HN.out];exact u
   have b0:(0:Int)<=k:=aR;have i1:(k:Int)<n:=aR;have e0:IntKind.i64.wrap ((k:Int)+1)=(k:Int)+1:=aH _ aR;have SW:=jj (H.below F);obtain⟨d0,d1,d2⟩:=vS SW.bc c;have p:=SW.cs _ (bY c);have l:=G.out _ (bY c);have Z:=F9 (s.co.drop k=s.co[k]::s.co.drop (k+1)) (dY c).symm;obtain⟨v,R⟩:=ex s.co[k];rw[<-R] at p l Z d0 d1 d2;obtain⟨vh,vz,z,y,A,V⟩:=v;have VB:=jj p;simp only at d0 d1 d2 l;have d:=jj u;clear R p c u hk
   cases vh with
   |false=>
    have S':=F9 (mQ q (s.co.map rC.val) ((s.co.drop (k+1)).map rC.val)=r) (by rw[<-j.out,Z.out];rfl);go_wp2_with fail;go_roundw
    case rel=>exact⟨k+1,by have:=d.out;omega,by go_num,S',F.alloc F.size _⟩
    have:=d.out;simp[intOf];omega
   |true=>
    obtain⟨r1,Q⟩: ∃r1,qx q (s.co.map rC.val) V=r1:=⟨_,rfl⟩;have m:=jj Q;clear Q;go_upto_region 5 with fail;generalize mE:wr.alloc _=w9;generalize vE:wr.heap.size=g9;replace mE:=mE.symm;replace vE:=vE.symm;have X9:=xNew mE vE;have B:=(tQ mE).out;have C:=nO F B;have D:=jj ((SW.below B).below (aC _ _).drew);have I:=jj ((VB.below B).below (aC _ _).drew);clear mE vE d0 d1 d2;refine rP (fun w'=>J w' g 4 (O s.gc n n)/\J w' g9 2 (.slice z y A)) 13 (tk 0 7 (.one 7 (tk 8 5 .done))) ⟨D.blk.cell 4,X9.drew.cell 2⟩ ?_;intro a
    repeat refine' tT ?_
    refine pO fun KT bq=> ?_;go_simp;refine(MZ _ g f h1 h4 (D.blk.cell 0) s.gc n s.co D.bc D.nc L (fun v R=>⟨(D.cs v R).row,G.out v R⟩) z y A V I.row q HQ r1 m).mono ?_;rintro e W ⟨(⟨vs,a',k',c',T,t,rfl,ho⟩|⟨M,rfl⟩),b⟩
    ·have X:=jj (C.trans ((show Be w9 W from(aC w9.heap.size w9).drew.trans b).mono C.size))
     have a0:=F9 (r=some (V,vs)) (by rw[<-j.out,Z.out];show mQ q (s.co.map rC.val) (some (vz,V)::_)=_;rw[mQ,m.out,T])
     have HK:=jj t;have HO:=jj (Ez.own (x:=x) (base:=w9.drew.heap.size) ho (aB HX C.size) t);have V3:=jj (I.below b);have y2:J W g9 2 (.slice z y A):=kept b _ _ a.2;have S:J W g 4 (O s.gc n n)/\J W g9 2 (.slice z y A):=⟨kept b _ _ a.1,y2⟩;clear b T t ho;refine oH bq S ?_;clear a;have a:=S
     repeat refine' tT ?_
     refine aU ?_;clear a;go_wp2_with fail;refine(Az _ z y A V V3.row l).mono ?_;rintro e w4 ⟨a4,c4,rfl,N,o⟩;have R4:=jj (sK.own (x:=x) N (aB HX X.size) V3.row.len);have O4:=jj (HO.below o);have B4:=nO X o;clear N o y2;go_wp2_with fail;go_ret3
     exact⟨.inl ⟨V,vs,a4,y,c4,a',k',c',a0,V3.row.len,l,HK,by trivial,R4,O4⟩,B4⟩
    have X:=jj (C.trans ((show Be w9 W from(aC w9.heap.size w9).drew.trans b).mono C.size));have S':=F9 (mQ q (s.co.map rC.val) ((s.co.drop (k+1)).map rC.val)=r) (by rw[<-j.out,Z.out];show _=mQ q (s.co.map rC.val) (some (vz,V)::_);rw[mQ,m.out,M])
    have S:J W g 4 (O s.gc n n)/\J W g9 2 (.slice z y A):=⟨kept b _ _ a.1,kept b _ _ a.2⟩;clear b M;refine oH bq S ?_;clear a;have a:=S
    repeat refine' tT ?_
    refine aU ?_;clear a;go_wp2_with fail;go_roundw
    case rel=>exact⟨k+1,by have:=d.out;omega,by go_num,S',X⟩
    have:=d.out;simp[intOf];omega
  have i1: ¬(k:Int)<n:=aR;have E:=F9 (r=none) (by rw[<-j.out,iB (by rw[HN.out];omega)];rfl);go_wp2_with fail;go_ret3
  exact⟨.inr ⟨E,by trivial⟩,F⟩
end
structure qm where
 g:Nat
 sl:CQ
 told:Bool
 has:Bool
 cert:CD
 done:Bool
 dw:CD
deriving Inhabited
def mH(p:qm):List Value:= [p.g,p.told,p.has,U p.cert.view,U p.cert.inst,U p.cert.seq,acX p.cert.ba p.cert.bn p.cert.bc,acX p.cert.va p.cert.vn p.cert.vc,
 .bool p.done,U p.dw.view,U p.dw.inst,U p.dw.seq,acX p.dw.ba p.dw.bn p.dw.bc,acX p.dw.va p.dw.vn p.dw.vc]
theorem tC(p:qm):(mH p).length=14:=rfl
def qm.foot(p:qm):List Nat:=p.sl.foot p.g
structure qm.Short(p:qm):Prop where
 b:p.sl.bn<=4096
 ps: ∀v∈p.sl.pr,v.bn<=4096
 cs: ∀v∈p.sl.co,v.bn<=4096
 c:p.cert.bn<=4096/\p.cert.vn<=4096
 d:p.dw.bn<=4096/\p.dw.vn<=4096
structure tJ where
 vw:Int
 on:Bool
 gl:Nat
 cap:Nat
 ps:List qm
 rest:List Value
def afC(f num ahead:Int)(i:tJ):Array Value:=#[U f,U num,U ahead,U i.vw,i.on,O i.gl 16 i.cap]
def tJ.foot(gi:Nat)(i:tJ):List Nat:=gi::i.gl::i.ps.flatMap qm.foot
structure qw(x:Nat)(w:World)(f:Int)(n:Nat)(p:qm):Prop where
 slot:mM x w f n p.g p.sl
 cert:CF x w p.cert
 dw:CF x w p.dw
 short:p.Short
structure eU(x:Nat)(w:World)(f:Int)(n:Nat)(num ahead:Int)(gi:Nat)(i:tJ):Prop where
 blk:aZ w gi 223 (afC f num ahead i)
 row:aZ w i.gl 230 (i.ps.flatMap mH++i.rest).toArray
 len:i.ps.length=16
 cap:16<=i.cap
 at_: ∀p∈i.ps,qw x w f n p
 sep: ∀(j k:Nat) (p q:qm),i.ps[j]?=some p->i.ps[k]?=some q->j≠k-> ∀b∈p.foot,b∉q.foot
section
variable{x y:Nat}{w w':World}{f:Int}{n:Nat}{num ahead:Int}{gi:Nat}{i:tJ}{p:qm}{S:LN}
theorem qw.only(h:qw x w f n p)(a:Only S w w')(H: ∀g∈S,nV x w g)(b: ∀k∈p.foot,k∉S):qw x w' f n p:=⟨h.slot.only a H b,h.cert.only a H,h.dw.only a H,h.short⟩
theorem qw.below(h:qw x w f n p)(H:Be w w'):qw x w' f n p:=⟨h.slot.below H,h.cert.below H,h.dw.below H,h.short⟩
theorem qw.re(h:qw x w f n p)(H:w.heap.size<=y):qw y w f n p:=⟨h.slot.re H,h.cert.re H,h.dw.re H,h.short⟩
theorem Qo{p:qm}(H:p∈i.ps)(h:k∈p.foot):k∈i.foot gi:=cK _ (cK _ (bg.2 ⟨p,H,h⟩))
theorem eU.only(h:eU x w f n num ahead gi i)(a:Only S w w')(c: ∀g∈S,nV x w g)(H: ∀k∈i.foot gi,k∉S):eU x w' f n num ahead gi i:=
 ⟨h.blk.only a (H _ (by simp[tJ.foot])),h.row.only a (H _ (by simp[tJ.foot])),h.len,h.cap,fun p b=>(h.at_ p b).only a c (fun k d=>H k (Qo b d)),h.sep⟩
theorem eU.below(h:eU x w f n num ahead gi i)(H:Be w w'):eU x w' f n num ahead gi i:=
 ⟨h.blk.below H h.blk.lt,h.row.below H h.row.lt,h.len,h.cap,fun p a=>(h.at_ p a).below H,h.sep⟩
theorem eU.re(h:eU x w f n num ahead gi i)(a:w.heap.size<=y):eU y w f n num ahead gi i:=⟨h.blk,h.row,h.len,h.cap,fun p H=>(h.at_ p H).re a,h.sep⟩
theorem eU.soft(h:eU x w f n num ahead gi i): ∀k∈i.foot gi,nV x w k:=by
 intro k H;simp only[tJ.foot,ay,bg] at H;rcases H with rfl|rfl|⟨p,a,H⟩
 ·exact nV.of h.blk aV
 ·exact nV.of h.row aV
 exact(h.at_ p a).slot.soft k H
theorem eU.lt(h:eU x w f n num ahead gi i): ∀k∈i.foot gi,k<w.heap.size:=by
 intro k H;simp only[tJ.foot,ay,bg] at H;rcases H with rfl|rfl|⟨p,a,H⟩
 ·exact h.blk.lt
 ·exact h.row.lt
 exact(h.at_ p a).slot.lt k H
theorem eU.gne(h:eU x w f n num ahead gi i):gi≠i.gl:=h.blk.nY h.row aV
theorem eU.far(h:eU x w f n num ahead gi i){p:qm}(a:p∈i.ps):gi∉p.foot/\i.gl∉p.foot:=by
 have s:=(h.at_ p a).slot;refine⟨fun H=> ?_,fun H=> ?_⟩<;>simp only[qm.foot,CQ.foot,ay,aI,or_false] at H
 ·rcases H with H|H|H
  ·exact h.blk.nY s.blk aV H
  ·exact h.blk.nY s.bp aV H
  exact h.blk.nY s.bc aV H
 rcases H with H|H|H
 ·exact h.row.nY s.blk aV H
 ·exact h.row.nY s.bp aV H
 exact h.row.nY s.bc aV H
theorem eU.put (h:eU x w f n num ahead gi i)  {p p':qm} (o:i.ps[k]?=some p) (J:p'.foot=p.foot) (C:Only S w w') (s: ∀b∈S,b=i.gl\/b∈p.foot)
  (K:aZ w' i.gl 230 ((i.ps.set k p').flatMap mH++i.rest).toArray) (I:qw x w' f n p'):eU x w' f n num ahead gi {i with ps:=i.ps.set k p'}:=by
 have g:p∈i.ps:=ak o;have d: ∀b∈S,nV x w b:=fun b c=>by
  rcases s b c with rfl|c
  ·exact nV.of h.row aV
  exact(h.at_ p g).slot.soft b c
 have u:gi∉S:=fun v=>by
  rcases s gi v with e|c
  ·exact h.gne e
  exact(h.far g).1 c
 have B:k<i.ps.length:=(ah.1 o).1;refine⟨h.blk.only C u,K,by simp[h.len],h.cap,fun q z=> ?_,?_⟩
 ·obtain⟨j,H⟩:=bT.1 z
  by_cases a:j=k
  ·subst a
   rw[aL B] at H;injection H with H;subst H;exact I
  rw[aX (dR a)] at H;have m:=ak H;refine(h.at_ q m).only C d fun b c v=> ?_;rcases s b v with rfl|t
  ·exact(h.far m).2 c
  exact h.sep j k q p H o a b c t
 have key: ∀(j:Nat) (q:qm),(i.ps.set k p')[j]?=some q-> ∃Q,i.ps[j]?=some Q/\q.foot=Q.foot:=fun j q H=>by
  by_cases a:j=k
  ·subst a
   rw[aL B] at H;injection H with H;subst H;exact⟨p,o,J⟩
  rw[aX (dR a)] at H;exact⟨q,H,rfl⟩
 intro j l q r z A y b c;obtain⟨Q,F,E⟩:=key j q z;obtain⟨R,G,D⟩:=key l r A;rw[E] at c;rw[D];exact h.sep j l Q R F G y b c
theorem eU.cell(h:eU x w f n num ahead gi i){p:qm}(b:i.ps[k]?=some p)(j:Nat)(H:j<14)(v:Value)(c:(mH p)[j]?=some v):J w i.gl (k*14+j) v:=by obtain⟨a,e⟩:=ah.1 b;refine(h.row.cell _).trans ?_;have:=nT mH 14 tC i.ps k j H a v (by rw[e];exact c);simp only[cZ];rw[bC (ah.1 this).1];exact this
theorem eU.abZ(h:eU x w f n num ahead gi i){p p':qm}(b:i.ps[k]?=some p)(a:mH p'=mH p):((i.ps.set k p').flatMap mH++i.rest).toArray=(i.ps.flatMap mH++i.rest).toArray:=by
 obtain⟨H,e⟩:=ah.1 b
 congr 2
 rw[<-zV mH 14 tC p' i.ps k H,a,<-e,zV mH 14 tC _ i.ps k H,jg]
end
theorem aaT:(prog.info? 408).map (fun i=>(i.zero,i.size,i.bytes))=some (some (acY #[false,U 0,()]),3,40):=by kernel_rfl
def vt0:rC:=⟨false,0,none,0,0,[]⟩
theorem Um(n:Nat)(h:n=4\/n=7\/n=10\/n=13):madeCells #[false,U 0,()] (n*3)=((List.replicate n vt0).flatMap Ki).toArray:=by rcases h with rfl|rfl|rfl|rfl<;>kernel_rfl
theorem aa6(n:Nat)(c:n=4\/n=7\/n=10\/n=13)(W:World):(Instr.makeSlice 269 (U (n:Int)) (U (n:Int))).run prog W= .ok (O W.heap.size n n) (W.alloc (.cells ((List.replicate n vt0).flatMap Ki).toArray 408)):=by obtain⟨i,b,d,H,a⟩:=info_parts aaT;have h:=run_makeSlice (P:=prog) (w:=W) 269 408 i _ underlying269 b d .i64 .i64 (n:Int) (n:Int) aR (Int.le_refl _) (by rw[H];omega) (by rw[a];omega) aR;rw[h,H,bI,<-Um n c];rfl
def sl0(n gp gc:Nat):CQ:=⟨false,none,0,0,[],gp,List.replicate n vt0,gc,List.replicate n vt0⟩
theorem mM.fresh(x:Nat){f:Int}{gp gc:Nat}(a:aZ w g 271 (WA f n (sl0 n gp gc)))(c:aZ w gp 408 ((List.replicate n vt0).flatMap Ki).toArray)(b:aZ w gc 408 ((List.replicate n vt0).flatMap Ki).toArray)(h:gp≠gc):mM x w f n g (sl0 n gp gc):=
 ⟨a,c,b,by simp[sl0],by simp[sl0],h,sK.nil _ _,fun v H=>by rw[dO H];exact sK.nil _ _,fun v H=>by rw[dO H];exact sK.nil _ _⟩
theorem ab8(w:World)(g:Nat)(f:Int)(h1:1<=f)(h4:f<=4)(n:Nat)(hn:(n:Int)=3*f+1)(b1:Bool)(v2 v3 v4:Value)(H:aZ w g 271 #[U f,b1,v2,v3,v4])(x:Nat):
  Y 145 #[g] w fun e w'=>e=acK (ac2 #[])/\ ∃gp gc,mM x w' f n g (sl0 n gp gc)/\w.heap.size<=gp/\w.heap.size<=gc/\Only [g] w w':=by
 have H0:n=4\/n=7\/n=10\/n=13:=aR;have MK:=aa6 n H0;have G0:=jj H;have c0:=H.at_ 0;have c1:=H.cell 1;have c2:=H.cell 2;have f1:=H.frozen 1;have f2:=H.frozen 2;have HN:=jj hn;obtain⟨C,hC⟩:=ex (((List.replicate n vt0).flatMap Ki).toArray);rw[<-hC] at MK;have HC:=jj hC;clear H hn H0 hC;go_enter func145,ntmps145;go_wp2_with fail;refine(oC f _ h1 h4).mono ?_;rintro e w' ⟨rfl,rfl⟩;rw[<-HN.out];go_upto_region 2 with fail;obtain⟨w1,C0⟩:=ex ((w.setCell (adZ g 1) false).setCell (adZ g 2) ());rw[<-C0];have G1:=F9 (aZ w1 g 271 #[U f,false,(),v3,v4]) (by rw[C0];have t1:aZ (w.setCell (adZ g 1) false) g 271 #[U f,false,v2,v3,v4]:=G0.fU 1 _;exact t1.fU 2 _)
 have O1:=F9 (Only [g] w w1) (by rw[C0];exact((Only.refl [g] _).setCell (.inl bJ) _).setCell (.inl bJ) _);clear C0 c0 c1 c2 f1 f2;refine rP (fun w'=>True) 11 (tk 0 3 (.take 4 (.two 3 (.take 6 (.take 7 (.two 5 (.one 8 (.one 9 (.take 10 (.one 11 .done)))) 8 (.one 5 (.one 9 (.take 10 (.one 11 .done))))))) 5 (.one 3 (.take 6 (.take 7 (.one 8 (.one 9 (.take 10 (.one 11 .done)))))))))) trivial ?_;intro F0;obtain⟨u0,B0⟩:=ex w1.drew;have G2:=F9 (aZ u0 g 271 #[U f,false,(),v3,v4]) (by rw[B0];exact G1.drew);have O2:=F9 (Only [g] w u0) (by rw[B0];exact O1.drew);rw[<-B0];clear B0
 repeat refine' tT ?_
 refine qN ?_ ?_
 ·skip
  refine pO fun KT bq=> ?_;go_simp;obtain⟨A0,h⟩:=ex (u0.alloc (.cells C 408));obtain⟨G,H⟩:=ex u0.heap.size;rw[<-h,<-H];have P:=xNew h H;have g0:=F9 (w.heap.size<=G) (by rw[H];exact O2.size);have r:=F9 (aZ A0 g 271 #[U f,false,(),v3,v4]) (by rw[h];exact G2.alloc _);have m0:=F9 (Only [g] w A0) (by rw[h];exact O2.alloc _);clear h H;refine oH bq trivial ?_
  repeat refine' tT ?_
  refine qN ?_ ?_
  ·skip
   refine pO fun KT bq=> ?_;go_simp;obtain⟨V,h⟩:=ex (A0.alloc (.cells C 408));obtain⟨B,H⟩:=ex A0.heap.size;rw[<-h,<-H];have h0:=xNew h H;have r0:=F9 (w.heap.size<=B) (by rw[H];exact m0.size);have k0:=F9 (G≠B) (by rw[H];exact kC P.lt);have Q:=F9 (aZ V G 408 C) (by rw[h];exact P.alloc _);have j:=F9 (aZ V g 271 #[U f,false,(),v3,v4]) (by rw[h];exact r.alloc _);have x0:=F9 (Only [g] w V) (by rw[h];exact m0.alloc _);clear h H;refine oH bq trivial ?_;refine pO fun KT bq=> ?_;have y:=j.cell 3;have z:=j.frozen 3;go_simp;obtain⟨l,h⟩:=ex (V.setCell (adZ g 3) (O G n n));rw[<-h];have K:=F9 (aZ l G 408 C) (by rw[h];exact Q.far (Q.nY j.out aV) _);have s:=F9 (aZ l B 408 C) (by rw[h];exact h0.far (h0.nY j.out aV) _);have a:=F9 (aZ l g 271 #[U f,false,(),O G n n,v4]) (by rw[h];exact j.fU 3 _);have n0:=F9 (Only [g] w l) (by rw[h];exact x0.setCell (.inl bJ) _);clear h y z;refine oH bq trivial ?_;refine pO fun KT bq=> ?_;go_simp;refine oH bq trivial ?_
   repeat refine' tT ?_
   refine pL fun KT bq=> ?_;have y:=a.cell 4;have z:=a.frozen 4;go_simp;refine bq.out _ _ ?_
   try simp only[Act.put]
   refine aU ?_;obtain⟨u,h⟩:=ex (l.setCell (adZ g 4) (O B n n));rw[<-h];have E:=F9 (aZ u G 408 C) (by rw[h];exact K.far (K.nY a.out aV) _);have F:=F9 (aZ u B 408 C) (by rw[h];exact s.far (s.nY a.out aV) _);have X:=F9 (aZ u g 271 #[U f,false,(),O G n n,O B n n]) (by rw[h];exact a.fU 4 _);have b0:=F9 (Only [g] w u) (by rw[h];exact n0.setCell (.inl bJ) _);clear h y z;clear F0
   go_end0
   have FR:=mM.fresh x (f:=f) (n:=n) (gp:=G) (gc:=B) X.out (by rw[<-HC.out];exact E.out) (by rw[<-HC.out];exact F.out) k0.out;exact⟨by trivial,G,B,FR,g0.out,r0.out,b0.out⟩
  skip
  refine pO fun KT bq=> ?_;have y:=r.cell 3;have z:=r.frozen 3;go_simp;obtain⟨D,h⟩:=ex (A0.setCell (adZ g 3) (O G n n));rw[<-h];have R:=F9 (aZ D G 408 C) (by rw[h];exact P.far (P.nY r.out aV) _);have v0:=F9 (aZ D g 271 #[U f,false,(),O G n n,v4]) (by rw[h];exact r.fU 3 _);have j0:=F9 (Only [g] w D) (by rw[h];exact m0.setCell (.inl bJ) _);clear h y z;refine oH bq trivial ?_;refine pO fun KT bq=> ?_;go_simp;obtain⟨q,h⟩:=ex (D.alloc (.cells C 408));obtain⟨N,H⟩:=ex D.heap.size;rw[<-h,<-H];have S:=xNew h H;have s0:=F9 (w.heap.size<=N) (by rw[H];exact j0.size);have f0:=F9 (G≠N) (by rw[H];exact kC R.lt);have t:=F9 (aZ q G 408 C) (by rw[h];exact R.alloc _);have b:=F9 (aZ q g 271 #[U f,false,(),O G n n,v4]) (by rw[h];exact v0.alloc _);have o0:=F9 (Only [g] w q) (by rw[h];exact j0.alloc _);clear h H;refine oH bq trivial ?_;refine pO fun KT bq=> ?_;go_simp;refine oH bq trivial ?_
  repeat refine' tT ?_
  refine pL fun KT bq=> ?_;have y:=b.cell 4;have z:=b.frozen 4;go_simp;refine bq.out _ _ ?_
  try simp only[Act.put]
  refine aU ?_;obtain⟨d,h⟩:=ex (q.setCell (adZ g 4) (O N n n));rw[<-h];have I:=F9 (aZ d G 408 C) (by rw[h];exact t.far (t.nY b.out aV) _);have J:=F9 (aZ d N 408 C) (by rw[h];exact S.far (S.nY b.out aV) _);have Z:=F9 (aZ d g 271 #[U f,false,(),O G n n,O N n n]) (by rw[h];exact b.fU 4 _);have d0:=F9 (Only [g] w d) (by rw[h];exact o0.setCell (.inl bJ) _);clear h y z;clear F0
  go_end0
  have FR:=mM.fresh x (f:=f) (n:=n) (gp:=G) (gc:=N) Z.out (by rw[<-HC.out];exact I.out) (by rw[<-HC.out];exact J.out) f0.out;exact⟨by trivial,G,N,FR,g0.out,s0.out,d0.out⟩
 skip
 refine pO fun KT bq=> ?_;go_simp;obtain⟨D0,h⟩:=ex (u0.alloc (.cells C 408));obtain⟨p,H⟩:=ex u0.heap.size;rw[<-h,<-H];have w0:=xNew h H;have t0:=F9 (w.heap.size<=p) (by rw[H];exact O2.size);have E0:=F9 (aZ D0 g 271 #[U f,false,(),v3,v4]) (by rw[h];exact G2.alloc _);have y0:=F9 (Only [g] w D0) (by rw[h];exact O2.alloc _);clear h H;refine oH bq trivial ?_;refine pO fun KT bq=> ?_;go_simp;obtain⟨W,h⟩:=ex (D0.alloc (.cells C 408));obtain⟨o,H⟩:=ex D0.heap.size;rw[<-h,<-H];have i0:=xNew h H;have q0:=F9 (w.heap.size<=o) (by rw[H];exact y0.size);have l0:=F9 (p≠o) (by rw[H];exact kC w0.lt);have T:=F9 (aZ W p 408 C) (by rw[h];exact w0.alloc _);have k:=F9 (aZ W g 271 #[U f,false,(),v3,v4]) (by rw[h];exact E0.alloc _);have z0:=F9 (Only [g] w W) (by rw[h];exact y0.alloc _);clear h H;refine oH bq trivial ?_
 repeat refine' tT ?_
 refine pO fun KT bq=> ?_;have y:=k.cell 3;have z:=k.frozen 3;go_simp;obtain⟨m,h⟩:=ex (W.setCell (adZ g 3) (O o n n));rw[<-h];have A:=F9 (aZ m p 408 C) (by rw[h];exact T.far (T.nY k.out aV) _);have v:=F9 (aZ m o 408 C) (by rw[h];exact i0.far (i0.nY k.out aV) _);have c:=F9 (aZ m g 271 #[U f,false,(),O o n n,v4]) (by rw[h];exact k.fU 3 _);have p0:=F9 (Only [g] w m) (by rw[h];exact z0.setCell (.inl bJ) _);clear h y z;refine oH bq trivial ?_;refine pO fun KT bq=> ?_;go_simp;refine oH bq trivial ?_
 repeat refine' tT ?_
 refine pL fun KT bq=> ?_;have y:=c.cell 4;have z:=c.frozen 4;go_simp;refine bq.out _ _ ?_
 try simp only[Act.put]
 refine aU ?_;obtain⟨i,h⟩:=ex (m.setCell (adZ g 4) (O p n n));rw[<-h];have M:=F9 (aZ i p 408 C) (by rw[h];exact A.far (A.nY c.out aV) _);have L:=F9 (aZ i o 408 C) (by rw[h];exact v.far (v.nY c.out aV) _);have a0:=F9 (aZ i g 271 #[U f,false,(),O o n n,O p n n]) (by rw[h];exact c.fU 4 _);have e0:=F9 (Only [g] w i) (by rw[h];exact p0.setCell (.inl bJ) _);clear h y z;clear F0
 go_end0
 have FR:=mM.fresh x (f:=f) (n:=n) (gp:=o) (gc:=p) a0.out (by rw[<-HC.out];exact L.out) (by rw[<-HC.out];exact M.out) l0.symm;exact⟨by trivial,o,p,FR,q0.out,t0.out,e0.out⟩
theorem ahM(w:World)(f:Int)(d:1<=f)(i:f<=4)(n:Nat)(j:(n:Int)=3*f+1)(x:Nat):
  Y 110 #[U f] w fun e w'=> ∃g gp gc,e=acK (ac2 #[(g:Nat),U 0])/\mM x w' f n g (sl0 n gp gc)/\w.heap.size<=g/\w.heap.size<=gp/\w.heap.size<=gc/\Be w w':=by
 have I: ¬f<1:=aR;have k: ¬4<f:=aR;go_enter func110,ntmps110;go_wp2_with fail;generalize hw1:w.alloc _=w1;generalize hg:w.heap.size=g;replace hw1:=hw1.symm;replace hg:=hg.symm;have X:aZ w1 g 271 #[U f,false,(),(),()]:=by rw[hw1,hg];exact aZ.new _ _ _
 have B:=tQ hw1;have GE:=F9 (w.heap.size<=g) aR;clear hw1 hg;refine(ab8 w1 g f d i n j false _ _ _ X x).mono ?_;rintro e W ⟨rfl,gp,gc,b,h,H,a⟩;have S:=jj b;have c:=jj (a.below B B.size (mR GE.out));have G:=F9 (w.heap.size<=gp/\w.heap.size<=gc) ⟨aG B.size h,aG B.size H⟩;clear b a h H;go_wp2_with fail;go_ret2
 exact⟨g,gp,gc,by trivial,S,GE,G.1,G.2,c⟩
namespace Tok
inductive TM where
 |req (t:Nat)
 |prop (src t:Nat)
 |pp (src k seq:Nat) (b:LN)
 |uf (src k seq:Nat) (b:LN)
 |com (src k seq:Nat) (b:LN)
 |proof (src k seq:Nat) (b vs:LN)
 |rep (src t:Nat)
structure Sl where
 has:Bool
 b:List Nat
 pr:List (Option LN)
 co:List (Option LN)
 told:Bool
 done:Option (List Nat×List Nat)
structure Td where
 t:Nat
 nX:List Bool
 ready:Bool
 since:Nat
structure Nd where
 insts:List (List Sl)
 tab:List Td
 led:Nat
 wT:List (Nat×Nat)
 run:Nat
 now:Nat
 start:Nat
structure Ck where
 waits:Bool
 issued:Nat
 at_:Nat
 now:Nat
 ans:List Nat
 acc:Nat
abbrev Out:=List (Nat×TM)
def uw{α:Type}:List α->Nat->Option α
 | [],_=>none
 |a::_,0=>some a
 |_::l,k+1=>uw l k
def vG{α:Type}:List α->Nat->α->List α
 | [],_,_=> []
 |_::l,0,x=>x::l
 |a::l,k+1,x=>a::vG l k x
def tH{α:Type}(n:Nat)(a:α):List α:=match n with
 |0=> []
 |n+1=>a::tH n a
def YZ:List Nat->List Nat->Bool
 | [],[]=>true
 |a::l,b::m=>Nat.beq a b&&YZ l m
 |_,_=>false
def len{α:Type}:List α->Nat
 | []=>0
 |_::l=>len l+1
def oW:List (Option LN)->List Nat->Nat->Nat->List Nat
 | [],_,_,_=> []
 |none::l,b,n,q=>oW l b (n+1) q
 |some c::l,b,n,q=>match q with
  |0=> []
  |q'+1=>if YZ c b then n::oW l b (n+1) q' else oW l b (n+1) (q'+1)
def enough(l:List (Option LN))(b:LN)(q:Nat):Option LN:=
 let v:=oW l b 0 q
 if Nat.beq (len v) q then some v else none
def qG:List (Option LN)->List (Option LN)->Nat->Option (List Nat×List Nat)
 | [],_,_=>none
 |none::r,l,q=>qG r l q
 |some b::r,l,q=>match enough l b q with
  |some v=>some (b,v)
  |none=>qG r l q
def doneN:List Sl->Nat
 | []=>0
 |s::l=>match s.done with
  |some _=>doneN l+1
  |none=>0
def sendAll(n self:Nat)(m:TM):Nat->Out
 |0=> []
 |k+1=>let r:=sendAll n self m k;if Nat.beq k self then r else r++ [(k,m)]
def count:List Bool->Nat
 | []=>0
 |true::l=>count l+1
 |false::l=>count l
def JU(weak now node:Nat)(d:Td):Td:=
 let b:=vG d.nX node true
 if !d.ready&&Nat.ble weak (count b) then{d with nX:=b,ready:=true,since:=now} else{d with nX:=b}
def Pn:List Td->Nat->Option (Option Td)
 | [],_=>some none
 |d::l,t=>if Nat.beq d.t t then some (some d) else if Nat.blt d.t t then Pn l t else none
def KR:List Td->Nat->Td->List Td
 | [],_,_=> []
 |d::l,t,e=>if Nat.beq d.t t then e::l else d::KR l t e
def DN(weak now node:Nat)(l:List Td)(t:Nat):Option (List Td):=match Pn l t with
 |none=>none
 |some (some d)=>match uw d.nX node with
  |some false=>some (KR l t (JU weak now node d))
  |_=>none
 |some none=>match l with
  | []=>some [⟨t,vG (tH 13 false) node true,false,0⟩]
  |_=>none
def IB(l:List Td)(t node:Nat):Option Bool:=match Pn l t with
 |none=>none
 |some none=>some false
 |some (some d)=>uw d.nX node
def LJ(l:List Td)(t:Nat):List Td:=l.filter fun d=>!Nat.ble d.t t
structure qM where
 f:Nat
 n:Nat
 q:Nat
 cl:Nat
def agD(g:List (Nat×Nat))(k ticks:Nat):Option (List (Nat×Nat)):=match uw g k with
 |some (c,s)=>if Nat.ble (c+1) 1000&&Nat.ble (s+ticks) 100000 then some (vG g k (c+1,s+ticks)) else none
 |none=>none
def yR(tab:List Td)(now k:Nat):List Nat->List (Nat×Nat)->Option (List (Nat×Nat))
 | [],g=>some g
 |t::b,g=>match Pn tab t with
  |none=>none
  |some (some d)=>if d.ready then match agD g k (now -d.since) with
    |some g'=>yR tab now k b g'
    |none=>none
   else yR tab now k b g
  |some none=>yR tab now k b g
def kY(c:qM)(self:Nat):Nd->List Nat->Option (Nd×Out)
 |s,[]=>some (s,[])
 |s,t::b=>if Nat.beq t (s.led+1) then
   match kY c self {s with led:=t,tab:=LJ s.tab t} b with
   |some (s',o)=>some (s',(c.n+c.cl,TM.rep self t)::o)
   |none=>none
  else none
def execute(c:qM)(self:Nat):Nat->Nd->Option (Nd×Out)
 |0,s=>match uw s.insts 0 with
  |none=>none
  |some l0=>if Nat.ble (doneN l0) s.run then some (s,[]) else none
 |fuel+1,s=>match uw s.insts 0 with
  |none=>none
  |some l0=>if Nat.ble (doneN l0) s.run then some (s,[]) else
   match uw l0 s.run with
   |none=>none
   |some sl=>match sl.done with
    |none=>none
    |some (b,_)=>match kY c self {s with run:=s.run+1} b with
     |none=>none
     |some (s',o)=>match execute c self fuel s' with
      |none=>none
      |some (s'',o')=>some (s'',o++o')
def su(s:Nd)(k seq:Nat)(sl:Sl):Nd:=match uw s.insts k with
 |none=>s
 |some l=>{s with insts:=vG s.insts k (vG l (seq -1) sl)}
def tV(s:Nd)(k seq:Nat):Option Sl:=match seq with
 |0=>none
 |q+1=>match uw s.insts k with
  |none=>none
  |some l=>uw l q
def Cj(c:qM)(self k:Nat)(b:LN)(s:Nd):Option (Nd×Out):=
 if !b.all (Nat.ble 1) then none else
 match yR s.tab s.now k b s.wT with
 |none=>none
 |some g=>
  if Nat.beq k 0 then
   match execute c self 4 {s with wT:=g} with
   |some (s2,o)=>if Nat.ble 16 s2.run then none else some (s2,o)
   |none=>none
  else some ({s with wT:=g},[])
def Wq(c:qM)(self k seq:Nat)(s:Nd):Option (Nd×Out):=match tV s k seq with
 |none=>none
 |some sl=>if sl.told||!sl.has then some (s,[]) else match enough sl.pr sl.b c.q with
  |none=>some (s,[])
  |some _=>match uw sl.co self with
   |some none=>some (su s k seq {sl with told:=true,co:=vG sl.co self (some sl.b)},sendAll c.n self (.com self k seq sl.b) c.n)
   |_=>none
def Vx(c:qM)(self k seq:Nat)(s:Nd):Option (Nd×Out):=match tV s k seq with
 |none=>none
 |some sl=>match sl.done with
  |some _=>some (s,[])
  |none=>match qG sl.co sl.co c.q with
   |none=>some (s,[])
   |some (b,v)=>Cj c self k b (su s k seq {sl with done:=some (b,v)})
def looked(c:qM)(self k seq:Nat)(s:Nd):Option (Nd×Out):=match Wq c self k seq s with
 |none=>none
 |some (s1,o1)=>match Vx c self k seq s1 with
  |none=>none
  |some (s2,o2)=>some (s2,o1++o2)
def accepted(c:qM)(self k seq:Nat)(b:LN)(s:Nd):Option (Nd×Out):=match tV s k seq with
 |none=>none
 |some sl=>match uw sl.pr self,sl.has&&YZ sl.b b with
  |some none,true=>match looked c self k seq (su s k seq {sl with pr:=vG sl.pr self (some b)}) with
   |some (s2,o)=>some (s2,sendAll c.n self (.uf self k seq b) c.n++o)
   |none=>none
  |_,_=>none
def pre(k seq:Nat)(b:LN)(s:Nd):Option Nd:=match uw s.insts k,tV s k seq with
 |some l,some sl=>if Nat.ble seq (doneN l+4)&&!sl.has then some (su s k seq {sl with has:=true,b:=b}) else none
 |_,_=>none
def takeN(c:qM)(self:Nat)(m:TM)(s:Nd):Option (Nd×Out):=match m with
 | .req t=>if Nat.ble t s.led then none else match IB s.tab t self with
  |none=>none
  |some true=>some (s,[])
  |some false=>match DN (c.f+1) s.now self s.tab t with
   |none=>none
   |some T=>some ({s with tab:=T},sendAll c.n self (.prop self t) c.n)
 | .prop src t=>if Nat.ble t s.led||Nat.beq src self then none else match IB s.tab t src with
  |none=>none
  |some true=>some (s,[])
  |some false=>match IB s.tab t self with
   |none=>none
   |some true=>match DN (c.f+1) s.now src s.tab t with
    |none=>none
    |some T=>some ({s with tab:=T},[])
   |some false=>match DN (c.f+1) s.now self s.tab t with
    |none=>none
    |some T=>match DN (c.f+1) s.now src T t with
     |none=>none
     |some T'=>some ({s with tab:=T'},sendAll c.n self (.prop self t) c.n)
 | .pp _ k seq b=>match pre k seq b s with
  |some s1=>accepted c self k seq b s1
  |none=>none
 | .uf src k seq b=>match tV s k seq with
  |none=>none
  |some sl=>match uw sl.pr src with
   |some none=>looked c self k seq (su s k seq {sl with pr:=vG sl.pr src (some b)})
   |some (some _)=>some (s,[])
   |none=>none
 | .com src k seq b=>match tV s k seq with
  |none=>none
  |some sl=>match uw sl.co src with
   |some none=>looked c self k seq (su s k seq {sl with co:=vG sl.co src (some b)})
   |some (some _)=>some (s,[])
   |none=>none
 | .proof _ k seq b vs=>match tV s k seq with
  |some sl=>match sl.done with
   |some _=>some (s,[])
   |none=>Cj c self k b (su s k seq {sl with done:=some (b,vs)})
  |none=>none
 | .rep _ _=>none
def AQ(t:Nat):List Sl->Bool
 | []=>false
 |s::l=>(s.has&&s.b.any (Nat.beq t))||(match s.done with|some (b,_)=>b.any (Nat.beq t)|none=>false)||AQ t l
def Dz:List Sl->Nat->Nat->Nat
 | [],_,top=>top+1
 |s::l,k,top=>Dz l (k+1) (if s.has then k else top)
def pick(ins:List Sl):List Td->Nat->List Nat
 | [],_=> []
 |d::l,room=>match room with
  |0=> []
  |r+1=>if d.ready&&!AQ d.t ins then d.t::pick ins l r else pick ins l (r+1)
def rises:List Nat->Bool
 | []=>true
 |x::l=>match l with
  | []=>true
  |y::_=>Nat.blt x y&&rises l
def propose(c:qM)(self k:Nat)(s:Nd):Option (Nd×Out):=match uw s.insts k with
 |none=>none
 |some ins=>
  let S:=Dz ins 1 0
  if !Nat.beq k self||Nat.blt 16 S||Nat.blt (doneN ins+4) S then some (s,[]) else
  match pick ins s.tab 2 with
  | []=>some (s,[])
  |x::b=>if rises (x::b) then match pre k S (x::b) s with
   |none=>none
   |some s1=>match accepted c self k S (x::b) s1 with
    |some (s2,o)=>some (s2,sendAll c.n self (.pp k k S (x::b)) c.n++o)
    |none=>none
   else none
def tF(c:qM)(self:Nat):Nat->Nat->Nd->Option (Nd×Out)
 |0,_,s=>some (s,[])
 |fuel+1,k,s=>match propose c self k s with
  |none=>none
  |some (s1,o)=>match tF c self fuel (k+1) s1 with
   |none=>none
   |some (s2,o2)=>some (s2,o++o2)
def kQ(c:qM)(self k:Nat):List Sl->Nat->Option Out
 | [],_=>some []
 |s::l,seq=>match kQ c self k l (seq+1) with
  |none=>none
  |some o=>if s.has&&s.done.isNone then(if Nat.beq k self then none else some (sendAll c.n self (.uf self k seq s.b) c.n++((if s.told then sendAll c.n self (.com self k seq s.b) c.n else [])++o))) else some o
def iR(c:qM)(self:Nat):List (List Sl)->Nat->Option Out
 | [],_=>some []
 |ins::r,k=>match iR c self r (k+1),kQ c self k ins 1 with
  |some o',some o=>some (o++o')
  |_,_=>none
def proofs(c:qM)(self now:Nat):List (List Sl)->Nat->Option Out
 | [],_=>some []
 |ins::r,k=>match proofs c self now r (k+1) with
  |none=>none
  |some o=>let d:=doneN ins
   if Nat.beq d 0 then some o else
   let seq:=1+now/2%d
   match uw ins (seq -1) with
   |some sl=>match sl.done with
    |some (b,v)=>some (sendAll c.n self (.proof self k seq b v) c.n++o)
    |none=>none
   |none=>none
def Nv(c:qM)(self:Nat)(s:Nd):Option Out:=
 if s.tab.isEmpty then match iR c self s.insts 0,proofs c self s.now s.insts 0 with
  |some o,some o'=>some (o++o')
  |_,_=>none
 else none
def vN:List (Nat×Nat)->Nat×Nat
 | []=>(0,0)
 |(a,b)::l=>let r:=vN l;(a+r.1,b+r.2)
def fine:List (Nat×Nat)->Bool
 | []=>true
 |(n,t)::l=>let r:=vN l
  !Nat.blt (n*2*len l) (1*r.1)&&(Nat.beq n 0||Nat.beq r.1 0||!Nat.blt (r.2*n+8*n*r.1) (t*r.1))
def abq(now:Nat)(tab:List Td):Bool:=tab.all fun d=>!d.ready||(match Pn tab d.t with
 |some (some e)=>e.ready&&Nat.ble (now -e.since) 12
 |_=>false)
def WJ(c:qM)(self:Nat)(s:Nd):Option (Nd×Out):=
 if Nat.ble 900 s.now then none else
 match tF c self (c.f+1) 0 {s with now:=s.now+1} with
 |none=>none
 |some (s1,o1)=>
  match(if Nat.beq (s1.now%2) 0 then Nv c self s1 else some []) with
  |none=>none
  |some o2=>
   if !abq s1.now s1.tab then none else
   if Nat.ble (s1.start+8) s1.now then
    if fine s1.wT then some ({s1 with wT:=tH (c.f+1) (0,0),start:=s1.now},o1++o2) else none
   else some (s1,o1++o2)
def aaU(c:qM)(s:Ck):Ck×Out:=({s with waits:=true,issued:=s.issued+1,at_:=s.now,ans:= []},sendAll c.n 1000 (.req (s.issued+1)) c.n)
def takeC(c:qM)(m:TM)(s:Ck):Option Ck:=match m with
 | .rep src t=>if !s.waits then some s else if !Nat.beq t s.issued||!Nat.beq c.cl 1 then none else if s.ans.any (Nat.beq src) then none else
   let a:=s.ans++ [src]
   if Nat.ble (c.f+1) (len a) then some {s with ans:=a,acc:=s.acc+1,waits:=false} else some {s with ans:=a}
 |_=>none
def acn(s:Ck):Option Ck:=if(s.waits&&Nat.beq ((s.now+1 -s.at_)%6) 0)||Nat.ble 900 s.now then none else some {s with now:=s.now+1}
structure Cl where
 nodes:List (Option Nd)
 ck:Ck
 links:List (List TM)
 sent:Nat
def room(sent:Nat)(o:Out):Bool:=Nat.ble (len o) 2000&&Nat.ble (sent+len o) 500000
def Co:List (List TM)->Nat->Option (Nat×TM)
 | [],_=>none
 | []::l,k=>Co l (k+1)
 |(m::_)::_,k=>some (k,m)
def tq:List (List TM)->Nat->List (List TM)
 | [],_=> []
 |l::r,0=>l.drop 1::r
 |l::r,k+1=>l::tq r k
def Av:List (List TM)->Nat->TM->Option (List (List TM))
 | [],_,_=>none
 |l::r,0,m=>if Nat.ble 64 (len l) then none else some ((l++ [m])::r)
 |l::r,k+1,m=>match Av r k m with
  |some r'=>some (l::r')
  |none=>none
def wY(n src:Nat):Out->List (List TM)->Option (List (List TM))
 | [],l=>some l
 |(d,m)::o,l=>if Nat.beq d src||Nat.ble (n+2) d then none else match Av l (src*(n+2)+d) m with
  |some l'=>wY n src o l'
  |none=>none
def Ux(c:qM)(x:Cl)(i:Nat)(nd:Nd)(o:Out):Option Cl:=match room x.sent o with
 |false=>none
 |true=>match wY c.n i o x.links with
  |some l=>some {x with nodes:=vG x.nodes i (some nd),links:=l,sent:=x.sent+len o}
  |none=>none
def deliver(c:qM)(x:Cl)(src dst:Nat)(m:TM):Option Cl:=
 if Nat.beq dst (c.n+1) then
  match takeC c m x.ck with
  |some k=>some {x with ck:=k}
  |none=>none
 else if Nat.beq dst c.n then(if Nat.beq c.cl 0 then some x else none)
 else match uw x.nodes dst with
  |some (some nd)=>match takeN c dst m nd with
   |some (nd',o)=>Ux c x dst nd' o
   |none=>none
  |some none=>some x
  |none=>none
def drain(c:qM):Nat->Cl->Option Cl
 |0,_=>none
 |fuel+1,x=>match Co x.links 0 with
  |none=>some x
  |some (k,m)=>match deliver c {x with links:=tq x.links k} (k/(c.n+2)) (k%(c.n+2)) m with
   |some x'=>drain c fuel x'
   |none=>none
def BG(c:qM):Nat->Nat->Cl->Option Cl
 |0,_,x=>match acn x.ck with
  |some k=>some {x with ck:=k}
  |none=>none
 |fuel+1,i,x=>match uw x.nodes i with
  |some (some nd)=>match WJ c i nd with
   |some (nd',o)=>match Ux c x i nd' o with
    |some x'=>BG c fuel (i+1) x'
    |none=>none
   |none=>none
  |some none=>BG c fuel (i+1) x
  |none=>none
def round(c:qM)(x:Cl):Option Cl:=match drain c 1900 x with
 |some x'=>BG c c.n 0 x'
 |none=>none
def issue(c:qM)(x:Cl):Option Cl:=match aaU c x.ck with
 |(k,o)=>match x.ck.waits,room x.sent o with
  |false,true=>match wY c.n (c.n+1) o x.links with
   |some l=>some {x with ck:=k,links:=l,sent:=x.sent+len o+1}
   |none=>none
  |_,_=>none
def sl0(n:Nat):Sl:=⟨false,[],tH n none,tH n none,false,none⟩
def nd0(c:qM):Nd:=⟨tH (c.f+1) (tH 16 (sl0 c.n)),[],0,tH (c.f+1) (0,0),0,0,0⟩
def cl0(c:qM)(agP:Nat->Bool):Cl:=⟨(List.range c.n).map fun i=>if agP i then none else some (nd0 c),⟨false,0,0,0,[],0⟩,tH ((c.n+2)*(c.n+2)) [],0⟩
def cfg(f:Nat):qM:=⟨f,3*f+1,2*f+1,1⟩
def play(c:qM):Nat->Cl->Option Cl
 |0,x=>some x
 |m+1,x=>match issue c x with
  |some x1=>match round c x1 with
   |some x2=>match round c x2 with
    |some x3=>if Nat.beq x3.ck.acc x3.ck.issued then play c m x3 else none
    |none=>none
   |none=>none
  |none=>none
def wakes:Bool:=match play (cfg 1) 1 (cl0 (cfg 1) fun i=>Nat.beq i 3) with
 |some x=>Nat.beq x.ck.acc 1
 |none=>false
end Tok
theorem RI(w:World)(g o j:Nat)(h:j<13)(z:Int)(H:z=j)(a:J w g (o+j) false)(b:w.frozen? (adZ g (o+j))=false):
  Y 255 #[.pointer (some (adZ g o)),U z] w fun e w'=>e=acK true/\w'=w.setCell (adZ g (o+j)) true:=by have i: ¬z<0:=aR;have I: ¬12<z:=aR;have c:0<=z:=aR;have d:z<13:=aR;have E:z.toNat=j:=aR;clear H h;go_enter func255,ntmps255;go_wp2_with fail;go_ret;exact⟨by trivial,by trivial⟩
theorem ahR(w:World)(g o j:Nat)(h:j<13)(z:Int)(H:z=j)(b:Bool)(a:J w g (o+j) b):
  Y 234 #[.pointer (some (adZ g o)),U z] w fun e w'=>e=acK b/\w=w':=by have i:0<=z:=aR;have I:z<=12:=aR;have c:z<13:=aR;have E:z.toNat=j:=aR;clear H h;go_enter func234,ntmps234;go_wp2_with fail;go_ret;exact⟨by trivial,by trivial⟩
theorem Ub:(prog.info? 4).map (fun i=>(i.zero,i.size,i.bytes))=some (some (.bool false),1,1):=by kernel_rfl
theorem ao3(b0 b1 b2 b3 b4 b5 b6 b7 b8 b9 b B a:Bool)(k:Nat)(z:Bool)(e:k<13)(c: [b0,b1,b2,b3,b4,b5,b6,b7,b8,b9,b,B,a][k]?=some z)(w:World):
  (Instr.index 352 (acY #[b0,b1,b2,b3,b4,b5,b6,b7,b8,b9,b,B,a]) (U k)).run prog w= .ok z w:=by
 obtain⟨i,h,_,H,_⟩:=info_parts Ub;have d:(0:Int)<=(k:Int)/\(k:Int)<(13:Nat):=aR;simp only[Instr.index,jD,asIntOf,lD,gF,run_underlying underlying352,if_pos d,sizeOf,typeInfo,part,bI]
 match k,e with
 |0,_|1,_|2,_|3,_|4,_|5,_|6,_|7,_|8,_|9,_|10,_|11,_|12,_=>
  simp at c;subst c;simp[h,H]
theorem Cn: ∀(l:List Bool) (b:Bool),Tok.count (l++ [b])=Tok.count l+(if b then 1 else 0)
 | [],b=>by cases b<;>rfl
 |true::l,b=>by simp only[eH,Tok.count,Cn l b];omega
 |false::l,b=>by simp only[eH,Tok.count,Cn l b]
theorem count_le: ∀l:List Bool,Tok.count l<=l.length
 | []=>aF _
 |true::l=>by simp only[Tok.count,aY];have:=count_le l;omega
 |false::l=>by simp only[Tok.count,aY];have:=count_le l;omega
theorem ahQ(w:World)(g o:Nat)(b0 b1 b2 b3 b4 b5 b6 b7 b8 b9 b B d:Bool)(r:J w g o b0)(s:J w g (o+1) b1)(t:J w g (o+2) b2)(v:J w g (o+3) b3)(y:J w g (o+4) b4)(A:J w g (o+5) b5)(C:J w g (o+6) b6)(D:J w g (o+7) b7)(E:J w g (o+8) b8)(F:J w g (o+9) b9)(i:J w g (o+10) b)(l:J w g (o+11) B)(n:J w g (o+12) d):
  Y 281 #[.pointer (some ⟨g,o,none⟩)] w fun e w'=>(∃a c,e= .returned (.slice a (Tok.count [b0,b1,b2,b3,b4,b5,b6,b7,b8,b9,b,B,d]) c))/\Be w w':=by
 obtain⟨i0,I,M,N,O⟩:=info_parts Mi;go_enter func281,ntmps281;go_wp2_with fail;clear r s t v y A C D E F i l n
 go_loopw [3,10] (fun q j wr=> ∃k:Nat,k<=13/\j= U k/\(∃a m c,q= .slice a m c/\Tok.count ([b0,b1,b2,b3,b4,b5,b6,b7,b8,b9,b,B,d].take k)=m/\ ∃x,wr.ownsRow w.heap.size 3 1 (.slice a m c) m x)/\Be w wr) (fun _ j _=>13 -(intOf j).toNat)
 case atStart=>exact⟨0,aR,rfl,⟨none,0,0,rfl,rfl,[],⟨bJ,.inl ⟨rfl,rfl⟩⟩⟩,aC _ _⟩
 case round=>
  obtain⟨k,hk,rfl,⟨a,m,c,rfl,K,x,V⟩,T⟩:=hrel;obtain⟨f,p,R⟩:=j3 T V K;have c0:m<=13:=by rw[<-K];exact aG (count_le _) (by simp;omega)
  clear T V K;by_cases h:k<13
  ·have a0:(0:Int)<=k:=aR
   have i1:(k:Int)<13:=aR;have e0:IntKind.i64.wrap ((k:Int)+1)=(k:Int)+1:=aH _ aR;obtain⟨z,L⟩: ∃z,[b0,b1,b2,b3,b4,b5,b6,b7,b8,b9,b,B,d][k]?=some z:=⟨_,aj (mR h)⟩;have IX:=fun w=>ao3 b0 b1 b2 b3 b4 b5 b6 b7 b8 b9 b B d k z h L w;have P:=F9 (Tok.count ([b0,b1,b2,b3,b4,b5,b6,b7,b8,b9,b,B,d].take (k+1))=m+(if z then 1 else 0)) (by rw[fM,L,jH,Cn,R.out])
   have H:=F9 (k+1<=13) h;clear L h hk
   cases z with
   |false=>
    go_wp2_with fail;go_roundw
    case rel=>exact⟨k+1,H,by go_num,⟨a,m,c,by trivial,by rw[P.out];rfl,x,p⟩,f⟩
    have:=H.out;simp[intOf];omega
   |true=>
    go_wp2_with(first|(at_builtin;refine fD rfl _ _ _ rfl w.heap.size 3 i0 _ 1 8 underlying35 I M N O rfl aR a m c x rfl (own_below p nC) (some ⟨wr.heap.size,0,none⟩) 1 1 [U k] rfl (qC wr 3 (U k)) (by intro u W;simp only[au] at W;rw[W];rfl) (by unfold maxLen;omega) aR (by have:=f.size;simp;omega) ?_;intro a6 Z w6 S;have Q:=jj S;clear S))
    have X:=F9 (Be w w6) (Q.below (own_below p nC) (f.alloc f.size _) (aF _) (by have:=f.size;simp;omega))
    try go_wp2_with fail
    go_roundw
    case rel=>exact⟨k+1,H,by go_num,⟨a6,m+1,Z,by trivial,by rw[P.out];rfl,_,Q.own⟩,X⟩
    have:=H.out;simp[intOf];omega
  have i1: ¬(k:Int)<13:=aR;have G:=F9 (Tok.count [b0,b1,b2,b3,b4,b5,b6,b7,b8,b9,b,B,d]=m) (by rw[<-R.out,dB (by simp;omega)]);go_wp2_with fail;go_ret;exact⟨⟨a,c,by rw[G.out];first|rfl|trivial⟩,f⟩
theorem acp(w:World)(g o:Nat)(b0 b1 b2 b3 b4 b5 b6 b7 b8 b9 b B d:Bool)(i:J w g o b0)(j:J w g (o+1) b1)(k:J w g (o+2) b2)(l:J w g (o+3) b3)(n:J w g (o+4) b4)(p:J w g (o+5) b5)(q:J w g (o+6) b6)(r:J w g (o+7) b7)(s:J w g (o+8) b8)(t:J w g (o+9) b9)(h:J w g (o+10) b)(H:J w g (o+11) B)(f:J w g (o+12) d):
  Y 256 #[.pointer (some (adZ g o))] w fun e w'=>e=acK (U (Tok.count [b0,b1,b2,b3,b4,b5,b6,b7,b8,b9,b,B,d]))/\Be w w':=by have T:=jj (ahQ w g o b0 b1 b2 b3 b4 b5 b6 b7 b8 b9 b B d i j k l n p q r s t h H f);obtain⟨m,v⟩:=ex (Tok.count [b0,b1,b2,b3,b4,b5,b6,b7,b8,b9,b,B,d]);rw[<-v] at T|-;clear v i j k l n p q r s t h H f;go_enter func256,ntmps256;go_wp2_with fail;refine T.mono ?_;rintro e W ⟨⟨a,c,rfl⟩,u⟩;have x:=jj u;clear u;go_wp2_with fail;go_ret;exact⟨by trivial,x⟩
theorem wK     {a:Act} {K:Act->World->Prop}  {E:Prop} (H:o.guard=none) (t:TypeId) (n:Nat) (parts:Array (Nat×Operand)) (c:o.op= .buildSlice t n parts)
  (v:Array (Nat×Value)) (b:(parts.map fun(i,x)=>(i,a.eval x))=v) (A:Value) (e:(Instr.buildSlice t n v).run P w= .ok A w')
  (h:K (a.put o.dst A) w'):if Region.wanted o (yielded ops a.tmps)=true then Oper.wp P o a w K Q else E:=by
 have d:Region.wanted o (yielded ops a.tmps)=true:=by simp[Region.wanted,H]
 rw[if_pos d];unfold Oper.wp execOp;simp only[c,b,jD,e,gF];exact h
theorem EH(T E:TypeId)(i:TypeInfo)(z:Value)(s:Nat)(d:P.underlying T=some (.slice E))(h:P.info? E=some i)(e:i.zero=some z)(H:i.size=s)(b:0<s)(f:s<=2^24)(Z:AV)(c:Z.size=s)(w:World):
  (Instr.buildSlice T 1 #[(0,.agg Z)]).run P w= .ok (O w.heap.size 1 1) (w.alloc (.cells Z E)):=by
 refine run_buildSlice w T E 1 _ Z i z d h e (by rw[H];omega) (by rw[H];omega) ?_;rw[H];have:=Great.fill_whole b [.agg Z] ((Array.range (1*s)).map (z.cells[· %z.cells.size]!)) (fun v a=>by simp only[au] at a;subst a;simpa[Value.cells] using c) bJ
 simpa[Value.cells] using this
theorem qQ.ZT{base base0:Nat}{e:TypeId}{s n0 c0 cap:Nat}{t:TypeId}{cs:AV}{a0 a':OA}{xs0 xs:LV}(h:qQ w w' base e s a0 a' n cap xs)(f:w.ownsRow base0 e s (acX a0 n0 c0) n0 xs0)(a:aZ w g t cs)(H:t≠e):aZ w' g t cs:=
 a.only h.only fun d=>by obtain⟨_,c,b⟩:=dx f _ d;exact a.nY b H rfl
theorem yj(T E:TypeId)(i:TypeInfo)(z:Value)(c:P.underlying T=some (.slice E))(h:P.info? E=some i)(d:i.zero=some z)(H:i.size=1)(u:Value)(a:u.cells=#[u])(w:World):
  (Instr.buildSlice T 1 #[(0,u)]).run P w= .ok (O w.heap.size 1 1) (w.alloc (.cells #[u] E)):=by
 refine run_buildSlice w T E 1 _ #[u] i z c h d (by rw[H];omega) (by rw[H];omega) ?_;rw[H];have:=Great.fill_whole (s:=1) aR [u] ((Array.range (1*1)).map (z.cells[· %z.cells.size]!)) (fun v b=>by simp only[au] at b;subst b;rw[a];rfl) bJ
 simpa[a] using this
def yO(a b:Int):Int:=if a<b then -1 else if b<a then 1 else 0
theorem afG(a:Int)(w:World):Y 294 #[U a] w fun e w'=>e=acK false/\w=w':=by
 go_enter func294,ntmps294
 go_wp2
 go_ret;exact⟨by first|rfl|simp,by trivial⟩
theorem Ls(a b:Int)(w:World)(r:Int)(h:yO a b=r):Y 283 #[U a,U b] w fun e w'=>e=acK (U r)/\w=w':=by
 rcases(show(a<b/\r= -1)\/(¬a<b/\b<a/\r=1)\/(¬a<b/\ ¬b<a/\r=0) by
  unfold yO at h;split at h
  ·exact .inl ⟨by assumption,h.symm⟩
  split at h
  ·exact .inr (.inl ⟨by assumption,by assumption,h.symm⟩)
  exact .inr (.inr ⟨by assumption,by assumption,h.symm⟩)) with⟨h1,rfl⟩|⟨h1,h2,rfl⟩|⟨h1,h2,rfl⟩
 all_goals
  clear h;go_enter func283,ntmps283;go_wp2_with fail;refine(afG a _).mono ?_;rintro e w' ⟨rfl,rfl⟩;go_wp2_with fail;refine(afG b _).mono ?_;rintro e w' ⟨rfl,rfl⟩;go_wp2_with fail;go_ret;exact⟨by trivial,by trivial⟩
def orL:List Int->Int
 | []=>0
 |x::l=>if x=0 then orL l else x
theorem ao9(g:Nat)(l:LI)(n c:Nat)(m:l.length=n)(t:n<=4096)(w:World)(h:aZ w g 3 (ints l))(r:Int)(p:orL l=r):
  Y 282 #[O g n c] w fun e w'=>e= .returned (U r)/\w=w':=by
 have q:=jj p;have j:=jj m;have C:=F9 (∀k (a:k<l.length),J w g k (.int .i64 l[k])) fun k a=>by rw[h.cell,Du l k a];simp[List.getD,aj a]
 clear h p m;go_enter func282,ntmps282;go_wp2_with fail;go_loopw [8] (fun i wr=> ∃k:Nat,k<=n/\i= U k/\wr=w/\orL (l.drop k)=r) (fun i _=>n -(intOf i).toNat)
 case atStart=>exact⟨0,aR,rfl,rfl,by simpa using q.out⟩
 case round=>
  obtain⟨k,a,rfl,rfl,o⟩:=hrel;have b:=jj o;clear o;by_cases d:k<n
  ·have H:k<l.length:=by rw[j.out];exact d
   have s:=C.out k H;have u:(0:Int)<=k:=aR;have I:(k:Int)<n:=aR;have E:IntKind.i64.wrap ((k:Int)+1)=(k:Int)+1:=aH _ aR;obtain⟨z,f⟩:=ex l[k];rw[<-f] at s;have D:=F9 (l.drop k=z::l.drop (k+1)) (by rw[f];exact(dY H).symm);clear f;by_cases z0:z=0
   ·have G:=F9 (orL (l.drop (k+1))=r) (by rw[<-b.out,D.out,orL,if_pos z0])
    subst z0;go_wp2_with fail;go_roundw
    case rel=>exact⟨k+1,aR,by go_num,by trivial,G⟩
    simp[intOf];omega
   have G:=F9 (z=r) (by rw[<-b.out,D.out,orL,if_neg z0]);obtain rfl:=G.out;go_wp2_with fail;go_ret;exact⟨by trivial,by trivial⟩
  have I: ¬(k:Int)<n:=aR;have G:=F9 (r=0) (by rw[<-b.out,iB (by rw[j.out];omega)];rfl);obtain rfl:=G.out;go_wp2_with fail;go_ret;exact⟨by trivial,by trivial⟩
def zT(a b:Rq):Int:=orL [yO a.1 b.1,yO a.2.1 b.2.1,yO a.2.2.1 b.2.2.1,yO a.2.2.2.1 b.2.2.2.1,yO a.2.2.2.2.1 b.2.2.2.2.1,yO a.2.2.2.2.2 b.2.2.2.2.2]
theorem Lr(a:Int):yO a a=0:=by simp[yO]
theorem Xy(a:Rq):zT a a=0:=by simp[zT,Lr,orL]
theorem EJ{a b:Rq}(h:a.1=b.1)(H:a.2.1<b.2.1):zT a b= -1:=by
 have e:yO a.1 b.1=0:=by rw[h];exact Lr _
 have E:yO a.2.1 b.2.1= -1:=by simp[yO,H]
 simp[zT,e,E,orL]
theorem Cy(w:World)(a b:Rq)(r:Int)(T:zT a b=r):
  Y 257 #[Kh a,Kh b] w fun e w'=>e=acK (U r)/\Be w w':=by
 obtain⟨A,j,a2,a3,k,a5⟩:=a;obtain⟨B,y,z,C,D,E⟩:=b;obtain⟨Q,F⟩: ∃q,yO A B=q:=⟨_,rfl⟩;obtain⟨m,G⟩: ∃q,yO j y=q:=⟨_,rfl⟩;obtain⟨n,I⟩: ∃q,yO a2 z=q:=⟨_,rfl⟩;obtain⟨o,K⟩: ∃q,yO a3 C=q:=⟨_,rfl⟩;obtain⟨p,L⟩: ∃q,yO k D=q:=⟨_,rfl⟩;obtain⟨s,M⟩: ∃q,yO a5 E=q:=⟨_,rfl⟩;obtain⟨H0,H1,H2,H3,H4,H5⟩:=j6 F G I K L M;have HR:=F9 (orL [Q,m,n,o,p,s]=r) (by rw[<-T,<-F,<-G,<-I,<-K,<-L,<-M];rfl);clear F G I K L M T;show Y 257 #[acY #[U A,U j,U a2,U a3,U k,U a5],acY #[U B,U y,U z,U C,U D,U E]] w _;go_enter func257,ntmps257;go_upto_region 1 with fail;obtain⟨g,f⟩:=ex w.heap.size;obtain⟨W,H⟩:=ex (w.alloc (.cells #[U A,U j,U a2,U a3,U k,U a5] 49));rw[<-H,<-f];obtain⟨g3,i⟩:=ex W.heap.size;obtain⟨V,c⟩:=ex (W.alloc (.cells #[U B,U y,U z,U C,U D,U E] 49));have P:g+1=g3:=by rw[i,H,f];simp
 try rw[P]
 try rw[<-i]
 rw[<-c];have X:=F9 (aZ V g 49 #[U A,U j,U a2,U a3,U k,U a5]) (by rw[c];refine aZ.alloc ?_ _;rw[H,f];exact aZ.new _ _ _);have x:=xNew c i;have O:=F9 (Be w V) (by rw[c,H];exact(nC.alloc bJ _));clear H c f i P;refine qI (fun w'=>J w' g 0 (U A)/\J w' g 1 (U j)/\J w' g 2 (U a2)/\J w' g 3 (U a3)/\J w' g 4 (U k)/\J w' g 5 (U a5)/\J w' g3 0 (U B)/\J w' g3 1 (U y)/\J w' g3 2 (U z)/\J w' g3 3 (U C)/\J w' g3 4 (U D)/\J w' g3 5 (U E)) 39 (tk 0 36 (.one 36 (.one 37 (.take 38 .done)))) (by kernel_rfl) (by kernel_rfl) (by kernel_rfl) ⟨X.drew.cell 0,X.drew.cell 1,X.drew.cell 2,X.drew.cell 3,X.drew.cell 4,X.drew.cell 5,x.drew.cell 0,x.drew.cell 1,x.drew.cell 2,x.drew.cell 3,x.drew.cell 4,x.drew.cell 5⟩ ?_;intro N
 repeat(first|refine' uT ?_|refine' uS ?_)
 refine pR _ _ rfl (by rfl) (by assumption) (fun w=>by go_simp;try exact⟨rfl,rfl⟩) (fun w h=>Ls A B w Q H0) ?_;try simp only[Nw]
 repeat(first|refine' uT ?_|refine' uS ?_)
 refine pR _ _ rfl (by rfl) (by assumption) (fun w=>by go_simp;try exact⟨rfl,rfl⟩) (fun w h=>Ls j y w m H1) ?_;try simp only[Nw]
 repeat(first|refine' uT ?_|refine' uS ?_)
 refine pR _ _ rfl (by rfl) (by assumption) (fun w=>by go_simp;try exact⟨rfl,rfl⟩) (fun w h=>Ls a2 z w n H2) ?_;try simp only[Nw]
 repeat(first|refine' uT ?_|refine' uS ?_)
 refine pR _ _ rfl (by rfl) (by assumption) (fun w=>by go_simp;try exact⟨rfl,rfl⟩) (fun w h=>Ls a3 C w o H3) ?_;try simp only[Nw]
 repeat(first|refine' uT ?_|refine' uS ?_)
 refine pR _ _ rfl (by rfl) (by assumption) (fun w=>by go_simp;try exact⟨rfl,rfl⟩) (fun w h=>Ls k D w p H4) ?_;try simp only[Nw]
 repeat(first|refine' uT ?_|refine' uS ?_)
 refine pR _ _ rfl (by rfl) (by assumption) (fun w=>by go_simp;try exact⟨rfl,rfl⟩) (fun w h=>Ls a5 E w s H5) ?_;try simp only[Nw]
 repeat(first|refine' uT ?_|refine' uS ?_)
 refine yJ rfl (fun KT bq=> ?_);go_simp;obtain⟨v,d⟩:=ex ((V.alloc (.cells #[U Q,U m,U n,U o,U p,U s] 3)).drew);obtain⟨R,l⟩:=ex V.heap.size;rw[<-d,<-l];have S:J v g 0 (U A)/\J v g 1 (U j)/\J v g 2 (U a2)/\J v g 3 (U a3)/\J v g 4 (U k)/\J v g 5 (U a5)/\J v g3 0 (U B)/\J v g3 1 (U y)/\J v g3 2 (U z)/\J v g3 3 (U C)/\J v g3 4 (U D)/\J v g3 5 (U E):=by have t:=(X.alloc (.cells #[U Q,U m,U n,U o,U p,U s] 3)).drew;have u:=(x.alloc (.cells #[U Q,U m,U n,U o,U p,U s] 3)).drew;rw[<-d] at t u;exact⟨t.cell 0,t.cell 1,t.cell 2,t.cell 3,t.cell 4,t.cell 5,u.cell 0,u.cell 1,u.cell 2,u.cell 3,u.cell 4,u.cell 5⟩
 have X4:=F9 (aZ v R 3 (ints [Q,m,n,o,p,s])) (by rw[d,l];exact(aZ.new _ _ _).drew);have Z:=F9 (Be w v) (by rw[d];exact(O.alloc O.size _).drew);clear d l;refine oH bq S ?_;refine yJ rfl (fun KT bq=> ?_);go_simp;refine(ao9 R [Q,m,n,o,p,s] 6 6 rfl aR _ X4 r HR).mono ?_;rintro e w' ⟨rfl,rfl⟩;refine oH bq S ?_
 repeat(first|refine' uT ?_|refine' uS ?_)
 refine qO ?_;clear N;go_wp2_with fail;go_ret;exact⟨by trivial,Z⟩
structure oO where
 r:Rq
 nX:Nat->Bool
 ready:Bool
 since:Int
def xW(d:oO):List Value:= [U d.r.1,U d.r.2.1,U d.r.2.2.1,U d.r.2.2.2.1,U d.r.2.2.2.2.1,U d.r.2.2.2.2.2,(d.nX 0),(d.nX 1),(d.nX 2),(d.nX 3),(d.nX 4),(d.nX 5),(d.nX 6),(d.nX 7),(d.nX 8),(d.nX 9),(d.nX 10),(d.nX 11),(d.nX 12),d.ready,U d.since]
theorem He(d:oO):(xW d).length=21:=rfl
theorem xq(T:List oO): ∀v∈T.flatMap xW,v.oneCell'=true:=by intro v H;obtain⟨p,_,h⟩:=bg.1 H;simp only[xW,ay,aI,or_false] at h;rcases h with rfl|rfl|rfl|rfl|rfl|rfl|rfl|rfl|rfl|rfl|rfl|rfl|rfl|rfl|rfl|rfl|rfl|rfl|rfl|rfl|rfl<;>rfl
structure TabAt(w:World)(gt:Nat)(f cl:Int)(T:List oO)(S:LN):Prop where
 ex: ∃a cap,S=gt::(a.map (·.block)).toList/\aZ w gt 233 #[U f,U cl,acX a T.length cap]/\w.ownsRow 0 356 21 (acX a T.length cap) T.length (T.flatMap xW)
section
variable{w w':World}{gt:Nat}{f cl:Int}{T:List oO}{S R:LN}
theorem TabAt.only(h:TabAt w gt f cl T S)(e:Only R w w')(d: ∀k∈S,k∉R):TabAt w' gt f cl T S:=by obtain⟨a,c,H,i,j⟩:=h.ex;refine⟨a,c,H,i.only e (d _ (by simp[H])),mK j e fun g b=>d _ ?_⟩;rw[dQ] at b;simp[H,b]
theorem TabAt.below(h:TabAt w gt f cl T S)(H:Be w w'):TabAt w' gt f cl T S:=h.only (Only.of_below (S:= []) H) bJ
theorem TabAt.lt(h:TabAt w gt f cl T S): ∀k∈S,k<w.heap.size:=by
 obtain⟨a,c,e,b,d⟩:=h.ex;intro k H;rw[e] at H;simp only[ay,aJ] at H;rcases H with rfl|H
 ·exact b.lt
 exact(dG d k (by rw[dQ];exact H)).2
theorem TabAt.line(h:TabAt w gt f cl T S){d:oO}(m:T[k]?=some d): ∃ga cap,S= [gt,ga]/\aZ w gt 233 #[U f,U cl,O ga T.length cap]/\Row w ga 356 21 T.length cap (T.flatMap xW)/\
  ∀j v,j<21->(xW d)[j]?=some v->J w ga (k*21+j) v:=by
 obtain⟨o,e⟩:=ah.1 m;obtain⟨a,cap,l,i,b⟩:=h.ex;rcases b.2 with⟨H,p⟩|⟨g,c,C,H,q⟩
 ·omega
 injection H with e1 e2 e3;subst e1;refine⟨g,cap,by simpa using l,i,Row.sG b,fun j v n H=>(Row.sG b).cell (nT xW 21 He T k j n o v (by rw[e];exact H))⟩
end
section
variable{w w':World}{gt:Nat}{f cl:Int}{T:List oO}{S:LN}
theorem JR(h:TabAt w gt f cl T S)(hT:T.length<=64)(r:Rq)(k0:Nat)(f0:k0<=T.length)(R: ∀j d,j<k0->T[j]?=some d->zT d.r r= -1)(is:Bool)(Q:(is=true/\ ∃d,T[k0]?=some d/\d.r=r)\/(is=false/\k0=T.length)):
  Y 233 #[gt,Kh r] w fun e w'=>e= .returned (.tuple #[U k0,is])/\Be w w':=by
 obtain⟨D,E,F,G,I,K⟩:=r;obtain⟨H,d0,L⟩:=j3 h R Q;obtain⟨a0,c,-,t,-⟩:=h.ex;have B:=jj t;obtain⟨n0,A⟩:=ex T.length;rw[<-A] at B hT f0;have y:=jj A;clear h R Q t A;show Y 233 #[gt,.agg #[U D,U E,U F,U G,U I,U K]] w _;go_enter func233,ntmps233;go_upto_region 1 with fail;generalize hw1:w.alloc _=w1;generalize hg3:w.heap.size=g3;replace hw1:=hw1.symm;replace hg3:=hg3.symm;obtain⟨B1,BX⟩:=nw hw1 hg3;clear hw1 hg3;go_wp2_with fail;go_loopw [6] (fun j wr=> ∃k:Nat,k<=k0/\j= U k/\Be w1 wr) (fun j _=>k0 -(intOf j).toNat)
 case atStart=>exact⟨0,aR,rfl,aC _ _⟩
 case round=>
  obtain⟨k,hk,rfl,hb⟩:=hrel;have Z:=jj hb;have q:=nO B1 hb;clear hb;have HW:=jj (H.below q);have j0:(0:Int)<=k:=aR;go_upto_region 2 with fail;by_cases z:k<n0
  ·have i1:(k:Int)<n0:=aR
   have d1:decide ((k:Int)<n0)=true:=decide_eq_true i1;have d2:decide (k<n0)=true:=decide_eq_true z;obtain⟨d,hd⟩: ∃d,T[k]?=some d:=⟨_,aj (by rw[<-y.out];exact z)⟩;obtain⟨g,cap',hS,P,V,a⟩:=HW.line hd;obtain⟨rfl,rfl⟩:a0=some ⟨g,0,none⟩/\c=cap':=by have e1:=(B.below q B.lt).cell 2;have e2:=P.cell 2;rw[e1] at e2;simp at e2;exact⟨e2.1,e2.2.2⟩
   have HD:=jj hd;obtain⟨td,i0,rd,sc⟩:=d;obtain⟨x,X,i,l,m,n⟩:=td;have KS: ∀w',Be wr w'->J w' gt 2 (O g n0 c)/\J w' g (k*21) (U x)/\J w' g (k*21+1) (U X)/\J w' g (k*21+2) (U i)/\J w' g (k*21+3) (U l)/\J w' g (k*21+4) (U m)/\J w' g (k*21+5) (U n)/\J w' g3 0 (U D)/\J w' g3 1 (U E)/\J w' g3 2 (U F)/\J w' g3 3 (U G)/\J w' g3 4 (U I)/\J w' g3 5 (U K):=fun w' o=>by have u:=(B.below q B.lt).below o (B.below q B.lt).lt;have v:=(BX.below Z BX.lt).below o (BX.below Z BX.lt).lt;exact⟨u.cell 2,kept o _ _ (a 0 _ aR rfl),kept o _ _ (a 1 _ aR rfl),kept o _ _ (a 2 _ aR rfl),kept o _ _ (a 3 _ aR rfl),kept o _ _ (a 4 _ aR rfl),kept o _ _ (a 5 _ aR rfl),v.cell 0,v.cell 1,v.cell 2,v.cell 3,v.cell 4,v.cell 5⟩
   clear a V P hS hd;by_cases h0:k<k0
   ·have CM:=F9 (zT (x,X,i,l,m,n) (D,E,F,G,I,K)= -1) (d0.out k _ h0 HD)
    have e0:IntKind.i64.wrap ((k:Int)+1)=(k:Int)+1:=aH _ aR;refine rP (fun w'=>J w' gt 2 (O g n0 c)/\J w' g (k*21) (U x)/\J w' g (k*21+1) (U X)/\J w' g (k*21+2) (U i)/\J w' g (k*21+3) (U l)/\J w' g (k*21+4) (U m)/\J w' g (k*21+5) (U n)/\J w' g3 0 (U D)/\J w' g3 1 (U E)/\J w' g3 2 (U F)/\J w' g3 3 (U G)/\J w' g3 4 (U I)/\J w' g3 5 (U K)) 20 (tk 0 17 (.one 17 (.take 18 (.take 19 .done)))) (KS _ (aC _ _).drew) ?_;intro b
    repeat(first|refine' tT ?_|refine' tS ?_)
    refine pO fun KT bq=> ?_;go_simp;refine(Cy _ (x,X,i,l,m,n) (D,E,F,G,I,K) (-1) CM).mono ?_;rintro e w3 ⟨rfl,p⟩;have C:=jj ((aC wr.heap.size wr).drew.trans p);have b0:=jj (Z.trans (C.mono Z.size));have M:=KS _ C;clear p;refine oH bq M ?_;clear b;have b:=M
    repeat(first|refine' tT ?_|refine' tS ?_)
    refine aU ?_;clear b;go_wp2_with fail;go_roundw
    case rel=>exact⟨k+1,aR,by go_num,b0⟩
    simp[intOf];omega
   obtain rfl:k=k0:=aR;obtain⟨rfl,W⟩:is=true/\((x,X,i,l,m,n):Rq)=(D,E,F,G,I,K):=by
    rcases L.out with⟨N,d',s,h3⟩|⟨N,s⟩
    ·rw[HD.out] at s
     injection s with s;exact⟨N,by rw[<-h3,<-s]⟩
    have:=y.out;omega
   simp only[aM] at W;obtain⟨rfl,rfl,rfl,rfl,rfl,rfl⟩:=W;have CM:=F9 (zT (x,X,i,l,m,n) (x,X,i,l,m,n)=0) (Xy _);refine rP (fun w'=>J w' gt 2 (O g n0 c)/\J w' g (k*21) (U x)/\J w' g (k*21+1) (U X)/\J w' g (k*21+2) (U i)/\J w' g (k*21+3) (U l)/\J w' g (k*21+4) (U m)/\J w' g (k*21+5) (U n)/\J w' g3 0 (U x)/\J w' g3 1 (U X)/\J w' g3 2 (U i)/\J w' g3 3 (U l)/\J w' g3 4 (U m)/\J w' g3 5 (U n)) 20 (tk 0 17 (.one 17 (.take 18 (.take 19 .done)))) (KS _ (aC _ _).drew) ?_;intro b
   repeat(first|refine' tT ?_|refine' tS ?_)
   refine pO fun KT bq=> ?_;go_simp;refine(Cy _ (x,X,i,l,m,n) (x,X,i,l,m,n) 0 CM).mono ?_;rintro e w3 ⟨rfl,p⟩;have C:=jj ((aC wr.heap.size wr).drew.trans p);have c0:=jj (q.trans (C.mono q.size));have M:=KS _ C;clear p;refine oH bq M ?_;clear b;have b:=M
   repeat(first|refine' tT ?_|refine' tS ?_)
   refine aU ?_;clear b;go_upto_region 4 with fail;refine rP (fun w'=>J w' gt 2 (O g n0 c)/\J w' g (k*21) (U x)/\J w' g (k*21+1) (U X)/\J w' g (k*21+2) (U i)/\J w' g (k*21+3) (U l)/\J w' g (k*21+4) (U m)/\J w' g (k*21+5) (U n)/\J w' g3 0 (U x)/\J w' g3 1 (U X)/\J w' g3 2 (U i)/\J w' g3 3 (U l)/\J w' g3 4 (U m)/\J w' g3 5 (U n)) 22 (tk 0 22 .done) (KS _ C.drew) ?_;intro b
   repeat(first|refine' tT ?_|refine' tS ?_)
   refine aU ?_;clear b;go_wp2_with fail;go_ret2
   exact⟨by trivial,c0.drew⟩
  have i1: ¬(k:Int)<n0:=aR;have d1:decide ((k:Int)<n0)=false:=decide_eq_false i1;have d2:decide (k<n0)=false:=decide_eq_false z;obtain⟨rfl,g0⟩:k=k0/\k=n0:=aR;obtain rfl:is=false:=by
   rcases L.out with⟨N,d',s,h3⟩|⟨N,s⟩
   ·have:=(ah.1 s).1
    have:=y.out;omega
   exact N
  have KS: ∀w',Be wr w'->J w' gt 2 (.slice a0 n0 c):=fun w' o=>((B.below q B.lt).below o (B.below q B.lt).lt).cell 2;clear g0;refine rP (fun w'=>J w' gt 2 (.slice a0 n0 c)) 20 (tk 0 17 (.one 17 (.take 18 (.take 19 .done)))) (KS _ (aC _ _).drew) ?_;intro b
  repeat(first|refine' tT ?_|refine' tS ?_)
  refine pO fun KT bq=> ?_;go_simp;refine oH bq b ?_
  repeat(first|refine' tT ?_|refine' tS ?_)
  refine aU ?_;clear b;go_upto_region 4 with fail;refine rP (fun w'=>J w' gt 2 (.slice a0 n0 c)) 22 (tk 0 22 .done) (KS _ ((aC _ _).drew).drew) ?_;intro b
  repeat(first|refine' tT ?_|refine' tS ?_)
  refine aU ?_;clear b;go_wp2_with fail;go_ret2
  exact⟨by trivial,(q.drew).drew⟩
end
section
variable{w w':World}{gt:Nat}{f cl:Int}{T:List oO}{S:LN}
structure AtR(T:List oO)(r:Rq)(k:Nat)(is:Bool):Prop where
 le:k<=T.length
 lo: ∀j d,j<k->T[j]?=some d->zT d.r r= -1
 hi:(is=true/\ ∃d,T[k]?=some d/\d.r=r)\/(is=false/\k=T.length)
theorem AtR.yes{r:Rq}(h:AtR T r k true): ∃d,T[k]?=some d/\d.r=r:=by
 rcases h.hi with⟨_,h⟩|⟨h,_⟩
 ·exact h
 cases h
theorem acj(h:TabAt w gt f cl T S)(p:T.length<=64)(r:Rq)(k:Nat)(q:AtR T r k true)(j:Nat)(s:j<13)(b:Bool)(g: ∀d,T[k]?=some d->d.nX j=b):
  Y 176 #[gt,Kh r,U j] w fun e w'=>e=acK b/\Be w w':=by
 have C:=jj g;clear g;obtain⟨y,t,u,v,x,z⟩:=r;have H:=jj h;have n:=jj q;clear h q;show Y 176 #[gt,acY #[U y,U t,U u,U v,U x,U z],U j] w _;go_enter func176,ntmps176;go_upto_region 1 with fail;generalize hw1:w.alloc _=w1;generalize hg3:w.heap.size=g3;replace hw1:=hw1.symm;replace hg3:=hg3.symm;obtain⟨B,A⟩:=nw hw1 hg3;clear hw1 hg3;obtain⟨I,K,L,M,N,O⟩:=A.a6;go_wp2_with fail;refine(JR (H.below B) p (y,t,u,v,x,z) k n.le n.lo true n.hi).mono ?_;rintro e W ⟨rfl,g⟩;have o:=nO B g;clear g I K L M N O;obtain⟨d,l,-⟩:=n.yes;have R:=jj l;obtain⟨G,E,P,i,m,a⟩:=(H.below o).line l;have D:=i.at_ 2;obtain⟨n0,c⟩:=ex T.length;have V:k<n0:=by rw[c];exact(ah.1 l).1
 rw[<-c] at D p;have Q:(0:Int)<=k:=aR;have X:(k:Int)<n0:=aR;have F:J W G (k*21+6+j) b:=by
  rw[dL,<-C.out d l];refine a (6+j) _ aR ?_
  match j,s with
  |0,_|1,_|2,_|3,_|4,_|5,_|6,_|7,_|8,_|9,_|10,_|11,_|12,_=>rfl
 clear a m i P l c;go_wp2_with fail;refine(ahR _ G (k*21+6) j s (j:Int) rfl b F).mono ?_;rintro e w' ⟨rfl,rfl⟩;go_wp2_with fail;go_ret;exact⟨by trivial,o⟩
theorem aeQ(h:TabAt w gt f cl T S)(v:T.length<=64)(r:Rq)(k:Nat)(b:AtR T r k false)(j:Int):
  Y 176 #[gt,Kh r,U j] w fun e w'=>e=acK false/\Be w w':=by obtain⟨y,d,g,i,l,m⟩:=r;have H:=jj h;have a:=jj b;clear h b;show Y 176 #[gt,acY #[U y,U d,U g,U i,U l,U m],U j] w _;go_enter func176,ntmps176;go_upto_region 1 with fail;generalize hw1:w.alloc _=w1;generalize hg3:w.heap.size=g3;replace hw1:=hw1.symm;replace hg3:=hg3.symm;obtain⟨B,o⟩:=nw hw1 hg3;clear hw1 hg3;obtain⟨D,p,q,s,t,u⟩:=o.a6;go_wp2_with fail;refine(JR (H.below B) v (y,d,g,i,l,m) k a.le a.lo false a.hi).mono ?_;rintro e W ⟨rfl,c⟩;have n:=nO B c;clear c D p q s t u;go_wp2_with fail;go_ret;exact⟨by trivial,n⟩
theorem UO(h:TabAt w gt f cl T S)(n:T.length<=64)(r:Rq)(k:Nat)(o:AtR T r k true)(z:Int)(q: ∀d,T[k]?=some d->d.ready=true/\d.since=z):
  Y 181 #[gt,Kh r] w fun e w'=>e=acK (ac2 #[U z,true])/\Be w w':=by
 have m:=jj q;clear q;obtain⟨y,s,t,u,v,x⟩:=r;have H:=jj h;have j:=jj o;clear h o;show Y 181 #[gt,acY #[U y,U s,U t,U u,U v,U x]] w _;go_enter func181,ntmps181;go_upto_region 1 with fail;generalize hw1:w.alloc _=w1;generalize hg3:w.heap.size=g3;replace hw1:=hw1.symm;replace hg3:=hg3.symm;obtain⟨B,A⟩:=nw hw1 hg3;clear hw1 hg3;obtain⟨E,F,I,K,L,M⟩:=A.a6;go_wp2_with fail;refine(JR (H.below B) n (y,s,t,u,v,x) k j.le j.lo true j.hi).mono ?_;rintro e W ⟨rfl,p⟩;have l:=nO B p;clear p E F I K L M;obtain⟨d,c,-⟩:=j.yes;have P:=jj c;obtain⟨G,D,N,g,i,a⟩:=(H.below l).line c;have C:=g.at_ 2;obtain⟨n0,b⟩:=ex T.length;have R:k<n0:=by rw[b];exact(ah.1 c).1
 rw[<-b] at C n;have O:(0:Int)<=k:=aR;have V:(k:Int)<n0:=aR;have Q:J W G (k*21+19) true:=by rw[<-(m.out d c).1];exact a 19 _ aR rfl
 have cs:J W G (k*21+20) (U z):=by rw[<-(m.out d c).2];exact a 20 _ aR rfl
 clear a i g N c b;go_wp2_with fail;go_ret2
 exact⟨by trivial,l⟩
theorem JW(h:TabAt w gt f cl T S)(m:T.length<=64)(r:Rq)(k:Nat)(n:AtR T r k true)(p: ∀d,T[k]?=some d->d.ready=false):
  Y 181 #[gt,Kh r] w fun e w'=>e=acK (ac2 #[U 0,false])/\Be w w':=by
 have z:=jj p;clear p;obtain⟨y,q,s,t,u,v⟩:=r;have H:=jj h;have j:=jj n;clear h n;show Y 181 #[gt,acY #[U y,U q,U s,U t,U u,U v]] w _;go_enter func181,ntmps181;go_upto_region 1 with fail;generalize hw1:w.alloc _=w1;generalize hg3:w.heap.size=g3;replace hw1:=hw1.symm;replace hg3:=hg3.symm;obtain⟨B,x⟩:=nw hw1 hg3;clear hw1 hg3;obtain⟨D,E,F,G,I,K⟩:=x.a6;go_wp2_with fail;refine(JR (H.below B) m (y,q,s,t,u,v) k j.le j.lo true j.hi).mono ?_;rintro e W ⟨rfl,o⟩;have l:=nO B o;clear o D E F G I K;obtain⟨d,g,-⟩:=j.yes;have O:=jj g;obtain⟨L,A,M,c,i,a⟩:=(H.below l).line g;have C:=c.at_ 2;obtain⟨n0,b⟩:=ex T.length;have Q:k<n0:=by rw[b];exact(ah.1 g).1
 rw[<-b] at C m;have N:(0:Int)<=k:=aR;have R:(k:Int)<n0:=aR;have P:J W L (k*21+19) false:=by rw[<-z.out d g];exact a 19 _ aR rfl
 clear a i c M g b;go_wp2_with fail;go_ret2
 exact⟨by trivial,l⟩
theorem YF(h:TabAt w gt f cl T S)(u:T.length<=64)(r:Rq)(k:Nat)(b:AtR T r k false):
  Y 181 #[gt,Kh r] w fun e w'=>e=acK (ac2 #[U 0,false])/\Be w w':=by
 obtain⟨y,d,g,i,j,l⟩:=r;have H:=jj h;have a:=jj b;clear h b;show Y 181 #[gt,acY #[U y,U d,U g,U i,U j,U l]] w _;go_enter func181,ntmps181;go_upto_region 1 with fail;generalize hw1:w.alloc _=w1;generalize hg3:w.heap.size=g3;replace hw1:=hw1.symm;replace hg3:=hg3.symm;obtain⟨B,n⟩:=nw hw1 hg3;clear hw1 hg3;obtain⟨D,o,p,q,s,t⟩:=n.a6;go_wp2_with fail;refine(JR (H.below B) u (y,d,g,i,j,l) k a.le a.lo false a.hi).mono ?_;rintro e W ⟨rfl,c⟩;have m:=nO B c;clear c D o p q s t;go_wp2_with fail;go_ret2
 exact⟨by trivial,m⟩
theorem RJ(h:TabAt w gt f cl T S)(hT:T.length<=64):
  Y 167 #[gt] w fun e w'=>(∃a m c,e= .returned (.slice a m c)/\((T.filter oO.ready).map oO.r).length=m/\w'.ownsRow w.heap.size 49 6 (.slice a m c) m (((T.filter oO.ready).map oO.r).flatMap rA))/\Be w w':=by
 obtain⟨i0,c0,d0,f0,g0⟩:=info_parts rT;have H:=jj h;obtain⟨a0,b0,-,o,-⟩:=h.ex;have Q:=jj o;obtain⟨n0,A⟩:=ex T.length;rw[<-A] at Q hT;have r:=jj A;have c2:=Q.at_ 2;clear h o A;go_enter func167,ntmps167;go_wp2_with fail;clear c2
 go_loopw [3,11] (fun q j wr=> ∃k:Nat,k<=n0/\j= U k/\(∃a m c,q= .slice a m c/\(((T.take k).filter oO.ready).map oO.r).length=m/\wr.ownsRow w.heap.size 49 6 (.slice a m c) m ((((T.take k).filter oO.ready).map oO.r).flatMap rA))/\Be w wr) (fun _ j _=>n0 -(intOf j).toNat)
 case atStart=>exact⟨0,aR,rfl,⟨none,0,0,rfl,rfl,⟨bJ,.inl ⟨rfl,rfl⟩⟩⟩,aC _ _⟩
 case round=>
  obtain⟨k,hk,rfl,⟨a,m,c,rfl,hm,ho⟩,hb⟩:=hrel;obtain⟨R,HO,V⟩:=j3 hb ho hm;have k0:m<=64:=by rw[<-hm];rw[aT];exact aG (fB _ _) (by rw[cO];have:=r.out;omega)
  clear hb ho hm;by_cases z:k<n0
  ·have j0:(0:Int)<=k:=aR
   have i1:(k:Int)<n0:=aR;have e0:IntKind.i64.wrap ((k:Int)+1)=(k:Int)+1:=aH _ aR;have HW:=jj (H.below R);have O:k<T.length:=by rw[<-r.out];exact z
   obtain⟨d,hd⟩: ∃d,T[k]?=some d:=⟨_,aj O⟩;have TK:=F9 (T.take (k+1)=T.take k++ [d]) (by rw[fM,hd];rfl);obtain⟨ga,cap',hS,N,P,b⟩:=HW.line hd;obtain⟨rfl,rfl⟩:a0=some ⟨ga,0,none⟩/\b0=cap':=by have e1:=(Q.below R Q.lt).cell 2;have Z:=N.cell 2;rw[e1] at Z;simp at Z;exact⟨Z.1,Z.2.2⟩
   obtain⟨td,x,rd,sc⟩:=d;obtain⟨C,D,E,F,I,K⟩:=td;obtain⟨L,l⟩:=ex (xW ⟨(C,D,E,F,I,K),x,rd,sc⟩);have SZ:=F9 (L.length=21) (by rw[l];rfl);have M:=F9 (L.toArray.size=21) (by rw[l];rfl);have LO:=F9 (L.toArray.all (·.oneCell')=true) (all_oneCell_toArray (by rw[l];simpa using xq [⟨(C,D,E,F,I,K),x,rd,sc⟩]));have h0:=F9 (∀v∈L,v.oneCell'=true) (by rw[l];simpa using xq [⟨(C,D,E,F,I,K),x,rd,sc⟩]);have RG:=F9 (wr.rangeAt ga (k*21) L) (fun j v hv=>b j v (by have:=(ah.1 hv).1;rw[l] at this;exact this) (by rw[<-l];exact hv));have p:=jj l;clear l;have i:=F9 (k+1<=n0) z;clear b P N hS hd O z hk
   go_upto_region 5 with(first
    |(refine wpList_load_mid rfl 356 (.tmp 13) rfl ga (k*21) rfl L _ RG underlying356 rfl (by rw[SZ.out];kernel_rfl) ?_;try simp only[Act.put])
    |(refine wpList_store_row rfl 356 (.tmp 5) (.tmp 14) rfl wr.heap.size L.toArray rfl rfl 356 _ (aZ.new _ _ _) (by rw[M.out];kernel_rfl) (by rw[M.out];kernel_rfl) LO ?_;rw[World.setRow_alloc_new];try simp only[Act.put]))
   obtain⟨W,g⟩:=ex (wr.alloc (.cells L.toArray 356));obtain⟨G,y⟩:=ex wr.heap.size;rw[<-g,<-y];have X:=xNew g y;have B:=GN R g;have t:=F9 (W.ownsRow w.heap.size 49 6 (.slice a m c) m ((((T.take k).filter oO.ready).map oO.r).flatMap rA)) (by rw[g];exact own_below HO nC);clear g y;have l0:J W G 19 rd:=(X.cell 19).trans (by rw[p.out];rfl)
   cases rd with
   |false=>
    have ST:=F9 (((T.take (k+1)).filter oO.ready).map oO.r=((T.take k).filter oO.ready).map oO.r) (by rw[TK.out,fV];simp);go_wp2_with fail;go_roundw
    case rel=>exact⟨k+1,i,by go_num,⟨a,m,c,by trivial,by rw[ST.out];exact V.out,by rw[ST.out];exact t.out⟩,B⟩
    have:=i.out;simp[intOf];omega
   |true=>
    have ST:=F9 (((T.take (k+1)).filter oO.ready).map oO.r=((T.take k).filter oO.ready).map oO.r++ [(C,D,E,F,I,K)]) (by rw[TK.out,fV];simp);have p0:J W G 0 (U C):=(X.cell 0).trans (by rw[p.out];rfl);have p1:J W G 1 (U D):=(X.cell 1).trans (by rw[p.out];rfl);have p2:J W G 2 (U E):=(X.cell 2).trans (by rw[p.out];rfl);have p3:J W G 3 (U F):=(X.cell 3).trans (by rw[p.out];rfl);have p4:J W G 4 (U I):=(X.cell 4).trans (by rw[p.out];rfl);have p5:J W G 5 (U K):=(X.cell 5).trans (by rw[p.out];rfl)
    go_wp2_with(first|(at_builtin;refine fD rfl _ _ _ rfl w.heap.size 49 i0 _ 6 48 underlying46 c0 d0 f0 g0 rfl aR a m c ((((T.take k).filter oO.ready).map oO.r).flatMap rA) rfl (own_below t nC) (some ⟨W.heap.size,0,none⟩) 1 1 (rA (C,D,E,F,I,K)) rfl (gD.nR (n:=1) (s:=6) (aZ.new W 49 #[U C,U D,U E,U F,U I,U K]) rfl) (by intro u hu;simp[rA] at hu;rcases hu with rfl|rfl|rfl|rfl|rfl|rfl<;>rfl) (by unfold maxLen;omega) aR (by have:=B.size;simp;omega) ?_;intro a6 c6 w6 h6;have H6:=jj h6;clear h6))
    have B6:=F9 (Be w w6) (H6.below (own_below t nC) (B.alloc B.size _) (aF _) (by have:=B.size;simp;omega));have O6:=F9 (w6.ownsRow w.heap.size 49 6 (.slice a6 (m+1) c6) (m+1) ((((T.take (k+1)).filter oO.ready).map oO.r).flatMap rA)) (by have:=H6.own;rw[ST.out,bS];simpa using this)
    have M6:=F9 ((((T.take (k+1)).filter oO.ready).map oO.r).length=m+1) (by rw[ST.out,av,V.out];rfl)
    try go_wp2_with fail
    go_roundw
    case rel=>exact⟨k+1,i,by go_num,⟨a6,m+1,c6,by trivial,M6,O6⟩,B6⟩
    have:=i.out;simp[intOf];omega
  have i1: ¬(k:Int)<n0:=aR;have TE:=F9 (T.take k=T) (dB (by rw[<-r.out];omega));rw[TE.out] at V HO;go_wp2_with fail;go_ret;exact⟨⟨a,m,c,by trivial,by simpa using V.out,HO⟩,R⟩
theorem aeO(h:TabAt w gt f cl T S)(hT:T.length<=64):
  Y 175 #[gt] w fun e w'=>(∃a m c,e= .returned (.slice a m c)/\(T.map oO.r).length=m/\w'.ownsRow w.heap.size 49 6 (.slice a m c) m ((T.map oO.r).flatMap rA))/\Be w w':=by
 obtain⟨i0,c0,d0,f0,g0⟩:=info_parts rT;have H:=jj h;obtain⟨a0,b0,-,l,-⟩:=h.ex;have Q:=jj l;obtain⟨n0,x⟩:=ex T.length;rw[<-x] at Q hT;have o:=jj x;have c2:=Q.at_ 2;clear h l x;go_enter func175,ntmps175;go_wp2_with fail;clear c2
 go_loopw [3,11] (fun q j wr=> ∃k:Nat,k<=n0/\j= U k/\(∃a m c,q= .slice a m c/\((T.take k).map oO.r).length=m/\wr.ownsRow w.heap.size 49 6 (.slice a m c) m (((T.take k).map oO.r).flatMap rA))/\Be w wr) (fun _ j _=>n0 -(intOf j).toNat)
 case atStart=>exact⟨0,aR,rfl,⟨none,0,0,rfl,rfl,⟨bJ,.inl ⟨rfl,rfl⟩⟩⟩,aC _ _⟩
 case round=>
  obtain⟨k,hk,rfl,⟨a,m,c,rfl,hm,ho⟩,hb⟩:=hrel;obtain⟨R,HO,Z⟩:=j3 hb ho hm;have k0:m<=64:=by rw[<-hm];rw[aT,cO];have:=o.out;omega
  clear hb ho hm;by_cases t:k<n0
  ·have j0:(0:Int)<=k:=aR
   have i1:(k:Int)<n0:=aR;have e0:IntKind.i64.wrap ((k:Int)+1)=(k:Int)+1:=aH _ aR;have HW:=jj (H.below R);have O:k<T.length:=by rw[<-o.out];exact t
   obtain⟨d,hd⟩: ∃d,T[k]?=some d:=⟨_,aj O⟩;have TK:=F9 (T.take (k+1)=T.take k++ [d]) (by rw[fM,hd];rfl);obtain⟨ga,cap',hS,N,P,b⟩:=HW.line hd;obtain⟨rfl,rfl⟩:a0=some ⟨ga,0,none⟩/\b0=cap':=by have e1:=(Q.below R Q.lt).cell 2;have V:=N.cell 2;rw[e1] at V;simp at V;exact⟨V.1,V.2.2⟩
   obtain⟨td,p,rd,sc⟩:=d;obtain⟨X,y,z,A,C,D⟩:=td;obtain⟨L,i⟩:=ex (xW ⟨(X,y,z,A,C,D),p,rd,sc⟩);have SZ:=F9 (L.length=21) (by rw[i];rfl);have M:=F9 (L.toArray.size=21) (by rw[i];rfl);have LO:=F9 (L.toArray.all (·.oneCell')=true) (all_oneCell_toArray (by rw[i];simpa using xq [⟨(X,y,z,A,C,D),p,rd,sc⟩]));have h0:=F9 (∀v∈L,v.oneCell'=true) (by rw[i];simpa using xq [⟨(X,y,z,A,C,D),p,rd,sc⟩]);have RG:=F9 (wr.rangeAt ga (k*21) L) (fun j v hv=>b j v (by have:=(ah.1 hv).1;rw[i] at this;exact this) (by rw[<-i];exact hv));have E:=jj i;clear i;have I:=F9 (k+1<=n0) t;clear b P N hS hd O t hk
   go_upto_region 5 with(first
    |(refine wpList_load_mid rfl 356 (.tmp 13) rfl ga (k*21) rfl L _ RG underlying356 rfl (by rw[SZ.out];kernel_rfl) ?_;try simp only[Act.put])
    |(refine wpList_store_row rfl 356 (.tmp 5) (.tmp 14) rfl wr.heap.size L.toArray rfl rfl 356 _ (aZ.new _ _ _) (by rw[M.out];kernel_rfl) (by rw[M.out];kernel_rfl) LO ?_;rw[World.setRow_alloc_new];try simp only[Act.put]))
   obtain⟨W,g⟩:=ex (wr.alloc (.cells L.toArray 356));obtain⟨G,r⟩:=ex wr.heap.size;rw[<-g,<-r];have F:=xNew g r;have B:=GN R g;have K:=F9 (W.ownsRow w.heap.size 49 6 (.slice a m c) m (((T.take k).map oO.r).flatMap rA)) (by rw[g];exact own_below HO nC);clear g r;have ST:=F9 ((T.take (k+1)).map oO.r=(T.take k).map oO.r++ [(X,y,z,A,C,D)]) (by rw[TK.out,bR];rfl);have p0:J W G 0 (U X):=(F.cell 0).trans (by rw[E.out];rfl);have p1:J W G 1 (U y):=(F.cell 1).trans (by rw[E.out];rfl);have p2:J W G 2 (U z):=(F.cell 2).trans (by rw[E.out];rfl);have p3:J W G 3 (U A):=(F.cell 3).trans (by rw[E.out];rfl);have p4:J W G 4 (U C):=(F.cell 4).trans (by rw[E.out];rfl);have p5:J W G 5 (U D):=(F.cell 5).trans (by rw[E.out];rfl)
   go_wp2_with(first|(at_builtin;refine fD rfl _ _ _ rfl w.heap.size 49 i0 _ 6 48 underlying46 c0 d0 f0 g0 rfl aR a m c (((T.take k).map oO.r).flatMap rA) rfl (own_below K nC) (some ⟨W.heap.size,0,none⟩) 1 1 (rA (X,y,z,A,C,D)) rfl (gD.nR (n:=1) (s:=6) (aZ.new W 49 #[U X,U y,U z,U A,U C,U D]) rfl) (by intro u hu;simp[rA] at hu;rcases hu with rfl|rfl|rfl|rfl|rfl|rfl<;>rfl) (by unfold maxLen;omega) aR (by have:=B.size;simp;omega) ?_;intro a6 c6 w6 h6;have H6:=jj h6;clear h6))
   have B6:=F9 (Be w w6) (H6.below (own_below K nC) (B.alloc B.size _) (aF _) (by have:=B.size;simp;omega));have O6:=F9 (w6.ownsRow w.heap.size 49 6 (.slice a6 (m+1) c6) (m+1) (((T.take (k+1)).map oO.r).flatMap rA)) (by have:=H6.own;rw[ST.out,bS];simpa using this)
   have M6:=F9 (((T.take (k+1)).map oO.r).length=m+1) (by rw[ST.out,av,Z.out];rfl)
   try go_wp2_with fail
   go_roundw
   case rel=>exact⟨k+1,I,by go_num,⟨a6,m+1,c6,by trivial,M6,O6⟩,B6⟩
   have:=I.out;simp[intOf];omega
  have i1: ¬(k:Int)<n0:=aR;have TE:=F9 (T.take k=T) (dB (by rw[<-o.out];omega));rw[TE.out] at Z HO;go_wp2_with fail;go_ret;exact⟨⟨a,m,c,by trivial,by simpa using Z.out,HO⟩,R⟩
theorem ahS(w:World)(f cl:Int)(h:1<=f)(H:f<=4)(a:1<=cl/\cl<=4):
  Y 75 #[U f,U cl] w fun e w'=> ∃gt,e=acK (ac2 #[(gt:Nat),U 0])/\TabAt w' gt f cl [] [gt]/\w.heap.size<=gt/\Be w w':=by
 have i: ¬f<1:=aR;have I: ¬4<f:=aR;have b: ¬cl<1:=aR;have c: ¬4<cl:=aR;go_enter func75,ntmps75;go_wp2_with fail;go_ret2
 exact⟨w.heap.size,by trivial,⟨none,0,rfl,aZ.new _ _ _,⟨rfl,.inl ⟨rfl,rfl⟩⟩⟩,aF _,nC⟩
end
section
variable{w w':World}{gt:Nat}{f cl:Int}{T:List oO}{S:LN}
theorem zu    {rest:List Oper}  {a:Act}  (H:o.guard=none) (t:TypeId) (n:Nat) (parts:Array (Nat×Operand)) (d:o.op= .buildSlice t n parts)
  (v:Array (Nat×Value)) (b:(parts.map fun(i,x)=>(i,a.eval x))=v) (A:Value) (e:(Instr.buildSlice t n v).run P w= .ok A w')
  (h:wpList P ops Q rest (a.put o.dst A) w'):wpList P ops Q (o::rest) a w:=
 wpList_plain H fun _ c=>by unfold Oper.wp execOp;simp only[d,b,jD,e,gF];exact c _ _ h
theorem Ug:(prog.info? 356).map (fun i=>(i.zero.map (·.cells.size),i.size,i.bytes))=some (some 21,21,72):=by kernel_rfl
theorem zq: ∃i z,prog.info? 356=some i/\i.zero=some z/\i.size=21/\i.bytes=72/\z.cells.size=21:=by
 have h:=Ug
 cases a:prog.info? 356 with
 |none=>rw[a] at h;cases h
 |some i=>
  rw[a] at h;simp only[bP,aD,aM] at h
  cases H:i.zero with
  |none=>rw[H] at h;simp at h
  |some z=>rw[H] at h;exact⟨i,z,rfl,H,h.2.1,h.2.2,by simpa using h.1⟩
theorem aeP(h:TabAt w gt f cl T S)(hT:T.length<=64)(C t:Int)(T':List oO)(f0:T.filter (fun d:oO=>decide (d.r.1≠C)||decide (t<d.r.2.1))=T'):
  Y 269 #[gt,U C,U t] w fun e w'=>e= .returned (U ((T.length:Int) -T'.length))/\ ∃S',TabAt w' gt f cl T' S'/\Only [gt] w w'/\ ∀k∈S',k=gt\/w.heap.size<=k:=by
 have c0:=jj f0;clear f0;obtain⟨i0,zi,A,D,E,j0,k0⟩:=zq;have H:=jj h;obtain⟨a0,l0,-,r,-⟩:=h.ex;have Q:=jj r;obtain⟨n0,N⟩:=ex T.length;rw[<-N] at Q hT;have o:=jj N;have c2:=Q.at_ 2;have GT:=jj r.lt;clear h r N;go_enter func269,ntmps269;go_wp2_with fail;clear c2
 go_loopw [7,16] (fun q j wr=> ∃k:Nat,k<=n0/\j= U k/\(∃a m c,q= .slice a m c/\((T.take k).filter (fun d:oO=>decide (d.r.1≠C)||decide (t<d.r.2.1))).length=m/\wr.ownsRow w.heap.size 356 21 (.slice a m c) m (((T.take k).filter (fun d:oO=>decide (d.r.1≠C)||decide (t<d.r.2.1))).flatMap xW))/\Be w wr) (fun _ j _=>n0 -(intOf j).toNat)
 case atStart=>exact⟨0,aR,rfl,⟨none,0,0,rfl,rfl,⟨bJ,.inl ⟨rfl,rfl⟩⟩⟩,aC _ _⟩
 case round=>
  obtain⟨k,hk,rfl,⟨a,m,c,rfl,hm,ho⟩,hb⟩:=hrel;obtain⟨BW,HO,z⟩:=j3 hb ho hm;have q0:m<=64:=by rw[<-hm];exact aG (fB _ _) (by rw[cO];have:=o.out;omega)
  clear hb ho hm;by_cases M:k<n0
  ·have o0:(0:Int)<=k:=aR
   have i1:(k:Int)<n0:=aR;have e0:IntKind.i64.wrap ((k:Int)+1)=(k:Int)+1:=aH _ aR;have HW:=jj (H.below BW);have h0:k<T.length:=by rw[<-o.out];exact M
   obtain⟨d,hd⟩: ∃d,T[k]?=some d:=⟨_,aj h0⟩;have TK:=F9 (T.take (k+1)=T.take k++ [d]) (by rw[fM,hd];rfl);obtain⟨ga,cap',hS,g0,b0,u⟩:=HW.line hd;obtain⟨rfl,rfl⟩:a0=some ⟨ga,0,none⟩/\l0=cap':=by have e1:=(Q.below BW Q.lt).cell 2;have e2:=g0.cell 2;rw[e1] at e2;simp at e2;exact⟨e2.1,e2.2.2⟩
   obtain⟨td,b,rd,R⟩:=d;obtain⟨F,O,V,Z,x4,x5⟩:=td;obtain⟨L,I⟩:=ex (xW ⟨(F,O,V,Z,x4,x5),b,rd,R⟩);have SZ:=F9 (L.length=21) (by rw[I];rfl);have i:=F9 (L.toArray.size=21) (by rw[I];rfl);have LO:=F9 (L.toArray.all (·.oneCell')=true) (all_oneCell_toArray (by rw[I];simpa using xq [⟨(F,O,V,Z,x4,x5),b,rd,R⟩]));have d0:=F9 (∀v∈L,v.oneCell'=true) (by rw[I];simpa using xq [⟨(F,O,V,Z,x4,x5),b,rd,R⟩]);have RG:=F9 (wr.rangeAt ga (k*21) L) (fun j v hv=>u j v (by have:=(ah.1 hv).1;rw[I] at this;exact this) (by rw[<-I];exact hv));have g:=jj I;clear I;have l:=F9 (k+1<=n0) M;clear u b0 g0 hS hd h0 M hk
   go_upto_region 5 with(first
    |(refine wpList_load_mid rfl 356 (.tmp 18) rfl ga (k*21) rfl L _ RG underlying356 rfl (by rw[SZ.out];kernel_rfl) ?_;try simp only[Act.put])
    |(refine wpList_store_row rfl 356 (.tmp 9) (.tmp 19) rfl wr.heap.size L.toArray rfl rfl 356 _ (aZ.new _ _ _) (by rw[i.out];kernel_rfl) (by rw[i.out];kernel_rfl) LO ?_;rw[World.setRow_alloc_new];try simp only[Act.put]))
   obtain⟨W,x⟩:=ex (wr.alloc (.cells L.toArray 356));obtain⟨G,K⟩:=ex wr.heap.size;rw[<-x,<-K];have X:=xNew x K;have B:=GN BW x;have p:=F9 (W.ownsRow w.heap.size 356 21 (.slice a m c) m (((T.take k).filter (fun d:oO=>decide (d.r.1≠C)||decide (t<d.r.2.1))).flatMap xW)) (by rw[x];exact own_below HO nC);clear x K;have p0:J W G 0 (U F):=(X.cell 0).trans (by rw[g.out];rfl);have p1:J W G 1 (U O):=(X.cell 1).trans (by rw[g.out];rfl);have p2:J W G 2 (U V):=(X.cell 2).trans (by rw[g.out];rfl);have p3:J W G 3 (U Z):=(X.cell 3).trans (by rw[g.out];rfl);have p4:J W G 4 (U x4):=(X.cell 4).trans (by rw[g.out];rfl);have p5:J W G 5 (U x5):=(X.cell 5).trans (by rw[g.out];rfl);have p6:J W G 6 (b 0):=(X.cell 6).trans (by rw[g.out];rfl);have p7:J W G 7 (b 1):=(X.cell 7).trans (by rw[g.out];rfl);have p8:J W G 8 (b 2):=(X.cell 8).trans (by rw[g.out];rfl);have p9:J W G 9 (b 3):=(X.cell 9).trans (by rw[g.out];rfl);have r0:J W G 10 (b 4):=(X.cell 10).trans (by rw[g.out];rfl);have s0:J W G 11 (b 5):=(X.cell 11).trans (by rw[g.out];rfl);have t0:J W G 12 (b 6):=(X.cell 12).trans (by rw[g.out];rfl);have u0:J W G 13 (b 7):=(X.cell 13).trans (by rw[g.out];rfl);have v0:J W G 14 (b 8):=(X.cell 14).trans (by rw[g.out];rfl);have w0:J W G 15 (b 9):=(X.cell 15).trans (by rw[g.out];rfl);have y0:J W G 16 (b 10):=(X.cell 16).trans (by rw[g.out];rfl);have z0:J W G 17 (b 11):=(X.cell 17).trans (by rw[g.out];rfl);have A0:J W G 18 (b 12):=(X.cell 18).trans (by rw[g.out];rfl);have B0:J W G 19 rd:=(X.cell 19).trans (by rw[g.out];rfl);have C0:J W G 20 (U R):=(X.cell 20).trans (by rw[g.out];rfl);by_cases hc:F=C
   ·have ne:(F !=C)=false:=by rw[hc];simp
    by_cases ht:t<O
    ·have ST:=F9 ((T.take (k+1)).filter (fun d:oO=>decide (d.r.1≠C)||decide (t<d.r.2.1))=(T.take k).filter (fun d:oO=>decide (d.r.1≠C)||decide (t<d.r.2.1))++ [⟨(F,O,V,Z,x4,x5),b,rd,R⟩]) (by rw[TK.out,fV];simp[hc,ht])
     go_wp2_with(first
      |(refine wpList_load_row rfl 356 (.tmp 9) rfl G rfl 356 L.toArray (0,0) _ X underlying356 rfl (by rw[i.out];kernel_rfl) ?_;try simp only[Act.put])
      |(refine zu rfl 231 1 _ rfl #[(0,.agg L.toArray)] (by go_simp) _ (EH (P:=prog) 231 356 i0 zi 21 underlying231 A D E aR aR L.toArray i W) ?_;try simp only[Act.put])
      |(at_builtin;refine fD rfl _ _ _ rfl w.heap.size 356 i0 zi 21 72 underlying231 A D E j0 k0 aR a m c (((T.take k).filter (fun d:oO=>decide (d.r.1≠C)||decide (t<d.r.2.1))).flatMap xW) rfl (own_below p nC) (some ⟨W.heap.size,0,none⟩) 1 1 L rfl (gD.nR (n:=1) (s:=21) (aZ.new W 356 L.toArray) i) d0 (by unfold maxLen;omega) aR (by have:=B.size;simp;omega) ?_;intro a6 c6 w6 h6;have H6:=jj h6;clear h6))
     have B6:=F9 (Be w w6) (H6.below (own_below p nC) (B.alloc B.size _) (aF _) (by have:=B.size;simp;omega));have O6:=F9 (w6.ownsRow w.heap.size 356 21 (.slice a6 (m+1) c6) (m+1) (((T.take (k+1)).filter (fun d:oO=>decide (d.r.1≠C)||decide (t<d.r.2.1))).flatMap xW)) (by have:=H6.own;rw[ST.out,bS,g.out] at*;simpa using this)
     have M6:=F9 (((T.take (k+1)).filter (fun d:oO=>decide (d.r.1≠C)||decide (t<d.r.2.1))).length=m+1) (by rw[ST.out,av,z.out];rfl)
     try go_wp2_with fail
     go_roundw
     case rel=>exact⟨k+1,l,by go_num,⟨a6,m+1,c6,by trivial,M6,O6⟩,B6⟩
     have:=l.out;simp[intOf];omega
    have ST:=F9 ((T.take (k+1)).filter (fun d:oO=>decide (d.r.1≠C)||decide (t<d.r.2.1))=(T.take k).filter (fun d:oO=>decide (d.r.1≠C)||decide (t<d.r.2.1))) (by rw[TK.out,fV];simp[hc,ht]);go_wp2_with fail;go_roundw
    case rel=>exact⟨k+1,l,by go_num,⟨a,m,c,by trivial,by rw[ST.out];exact z.out,by rw[ST.out];exact p.out⟩,B⟩
    have:=l.out;simp[intOf];omega
   have ne:(F !=C)=true:=bne_iff_ne.2 hc;have ST:=F9 ((T.take (k+1)).filter (fun d:oO=>decide (d.r.1≠C)||decide (t<d.r.2.1))=(T.take k).filter (fun d:oO=>decide (d.r.1≠C)||decide (t<d.r.2.1))++ [⟨(F,O,V,Z,x4,x5),b,rd,R⟩]) (by rw[TK.out,fV];simp[hc])
   go_wp2_with(first
    |(refine wpList_load_row rfl 356 (.tmp 9) rfl G rfl 356 L.toArray (0,0) _ X underlying356 rfl (by rw[i.out];kernel_rfl) ?_;try simp only[Act.put])
    |(refine zu rfl 231 1 _ rfl #[(0,.agg L.toArray)] (by go_simp) _ (EH (P:=prog) 231 356 i0 zi 21 underlying231 A D E aR aR L.toArray i W) ?_;try simp only[Act.put])
    |(at_builtin;refine fD rfl _ _ _ rfl w.heap.size 356 i0 zi 21 72 underlying231 A D E j0 k0 aR a m c (((T.take k).filter (fun d:oO=>decide (d.r.1≠C)||decide (t<d.r.2.1))).flatMap xW) rfl (own_below p nC) (some ⟨W.heap.size,0,none⟩) 1 1 L rfl (gD.nR (n:=1) (s:=21) (aZ.new W 356 L.toArray) i) d0 (by unfold maxLen;omega) aR (by have:=B.size;simp;omega) ?_;intro a6 c6 w6 h6;have H6:=jj h6;clear h6))
   have B6:=F9 (Be w w6) (H6.below (own_below p nC) (B.alloc B.size _) (aF _) (by have:=B.size;simp;omega));have O6:=F9 (w6.ownsRow w.heap.size 356 21 (.slice a6 (m+1) c6) (m+1) (((T.take (k+1)).filter (fun d:oO=>decide (d.r.1≠C)||decide (t<d.r.2.1))).flatMap xW)) (by have:=H6.own;rw[ST.out,bS,g.out] at*;simpa using this)
   have M6:=F9 (((T.take (k+1)).filter (fun d:oO=>decide (d.r.1≠C)||decide (t<d.r.2.1))).length=m+1) (by rw[ST.out,av,z.out];rfl)
   try go_wp2_with fail
   go_roundw
   case rel=>exact⟨k+1,l,by go_num,⟨a6,m+1,c6,by trivial,M6,O6⟩,B6⟩
   have:=l.out;simp[intOf];omega
  have i1: ¬(k:Int)<n0:=aR;have TE:=F9 (T.take k=T) (dB (by rw[<-o.out];omega));rw[TE.out] at z HO;rw[c0.out] at z HO;have y:=jj (Q.below BW Q.lt);have c2:=y.at_ 2;have f2:=y.frozen 2;have m0:m<=n0:=by rw[<-z.out,<-c0.out,o.out];exact fB _ _
  have e1:IntKind.i64.wrap ((n0:Int) -m)=(n0:Int) -m:=aH _ aR;go_wp2_with fail;go_ret;have o9:Only [gt] wr (wr.setCell ⟨gt,2,none⟩ (.slice a m c)):=(Only.refl [gt] _).setCell (.inl bJ) _;refine⟨by rw[<-o.out,z.out];first|rfl|trivial,gt::(a.map (·.block)).toList,⟨a,c,rfl,by rw[z.out];exact y.fU 2 _,?_⟩,(Only.of_below BW).trans o9,?_⟩
  ·rw[z.out]
   exact gH (mO HO (bF _)) o9 y aV
  intro q hq;simp only[ay,aJ] at hq;rcases hq with rfl|hq
  ·exact .inl rfl
  exact .inr (dG HO q (by rw[dQ];exact hq)).1
end
def cd0:CD:=⟨0,0,0,none,0,0,[],none,0,0,[]⟩
def Yi(g:Nat)(s:CQ):qm:=⟨g,s,false,false,cd0,false,cd0⟩
theorem ah5(x:Nat)(w:World):CF x w cd0:=⟨⟨(sK.nil x w).row,(Ez.nil x w).row,⟨aV,aV⟩,⟨aV,aV⟩,⟨aV,aV⟩⟩,(sK.nil x w).fix,(Ez.nil x w).fix⟩
theorem FH:(prog.info? 230).map (fun i=>(i.zero,i.size,i.bytes))=some (some (acY #[.pointer none,false,false,U 0,U 0,U 0,(),(),false,U 0,U 0,U 0,(),()]),14,168):=by kernel_rfl
section
variable{x:Nat}{w w':World}{f:Int}{n:Nat}{p:qm}{S:LN}
theorem qw.Ak(h:qw x w f n p)(l:Only S w w')(c: ∀g∈S,∃t cs,aZ w g t cs/\t∉KH/\t≠271/\t≠408):qw x w' f n p:=
 h.only l (fun g i=>by obtain⟨t,cs,H,a,_⟩:=c g i;exact nV.of H a) fun k d j=>by
  obtain⟨t,cs,H,a,e,b⟩:=c k j;simp only[qm.foot,CQ.foot,ay,aI,or_false] at d;rcases d with rfl|rfl|rfl
  ·exact h.slot.blk.nY H e.symm rfl
  ·exact h.slot.bp.nY H b.symm rfl
  exact h.slot.bc.nY H b.symm rfl
structure YK(x:Nat)(w0 w:World)(f:Int)(n:Nat)(P:List qm):Prop where
 at_: ∀p∈P,qw x w f n p
 ge: ∀p∈P,∀b∈p.foot,w0.heap.size<=b
 sep: ∀(j k:Nat) (p q:qm),P[j]?=some p->P[k]?=some q->j≠k-> ∀b∈p.foot,b∉q.foot
theorem YK.below{P:List qm}(h:YK x w0 w f n P)(H:Be w w'):YK x w0 w' f n P:=⟨fun p a=>(h.at_ p a).below H,h.ge,h.sep⟩
theorem YK.Ak{P:List qm}(h:YK x w0 w f n P)(a:Only S w w')(H: ∀g∈S,∃t cs,aZ w g t cs/\t∉KH/\t≠271/\t≠408):YK x w0 w' f n P:=⟨fun p b=>(h.at_ p b).Ak a H,h.ge,h.sep⟩
theorem YK.add{P:List qm}(h:YK x w0 w f n P){B:Nat}(A:w0.heap.size<=B)(l: ∀p∈P,∀b∈p.foot,b<B)(y:qw x w f n p)(o: ∀b∈p.foot,B<=b):YK x w0 w f n (P++ [p]):=by
 refine⟨fun q H=> ?_,fun q H b d=> ?_,?_⟩
 ·rcases aQ.1 H with H|H
  ·exact h.at_ q H
  rw[au.1 H];exact y
 ·rcases aQ.1 H with H|H
  ·exact h.ge q H b d
  rw[au.1 H] at d;have:=o b d;omega
 have key: ∀(j:Nat) (q:qm),(P++ [p])[j]?=some q->(j<P.length/\P[j]?=some q)\/(j=P.length/\q=p):=fun j q i=>by
  rcases iZ j P.length with m|m
  ·rw[bC m] at i;exact .inl ⟨m,i⟩
  have:=(ah.1 i).1;simp at this;have e:j=P.length:=aR;subst e;simp at i;exact .inr ⟨rfl,i.symm⟩
 intro j k a c i u r b d g;rcases key j a i with⟨m,s⟩|⟨E,rfl⟩<;>rcases key k c u with⟨v,t⟩|⟨z,rfl⟩
 ·exact h.sep j k a c s t r b d g
 ·have:=l a (ak s) b d;have:=o b g;omega
 ·have:=l c (ak t) b g;have:=o b d;omega
 omega
end
theorem ahe(w:World)(f num ahead:Int)(h1:1<=f)(h4:f<=4)(hk:0<=num/\num<=f)(ha:1<=ahead/\ahead<=16)(n:Nat)(hn:(n:Int)=3*f+1)(x:Nat):
  Y 74 #[U f,U num,U ahead] w fun e w'=> ∃gi,e= .returned (.tuple #[(gi:Nat),U 0])/\ ∃i,eU x w' f n num ahead gi i/\i.vw=0/\i.on=true/\(∀p∈i.ps,∃g gp gc,p=Yi g (sl0 n gp gc))/\(∀b∈i.foot gi,w.heap.size<=b)/\Be w w':=by
 obtain⟨i0,o0,q0,r0,s0⟩:=info_parts FH;have q1: ¬f<1:=aR;have q2: ¬4<f:=aR;have q3: ¬num<0:=aR;have q4: ¬f<num:=aR;have q5: ¬ahead<1:=aR;have q6: ¬16<ahead:=aR;have HN:=jj hn;clear hn;go_enter func74,ntmps74;go_upto_region 4 with fail;generalize hw1:w.alloc _=w1;generalize hgi:w.heap.size=gi;replace hw1:=hw1.symm;replace hgi:=hgi.symm;have X1:=xNew hw1 hgi;have B1:=tQ hw1;have GE:=F9 (w.heap.size<=gi) aR;clear hw1 hgi;go_wp2_with fail;go_loopw [39] (fun j wr=> ∃k:Nat,k<=16/\j= U k/\(∃(P:List qm) (a:OA) (c:Nat),P.length=k/\YK x w wr f n P/\(∀p∈P,∃g gp gc,p=Yi g (sl0 n gp gc))/\aZ wr gi 223 #[U f,U num,U ahead,U 0,true,.slice a k c]/\
  wr.ownsRow w.heap.size 230 14 (.slice a k c) k (P.flatMap mH))/\Be w wr) (fun j _=>16 -(intOf j).toNat)
 case atStart=>exact⟨0,aR,rfl,⟨[],none,0,rfl,⟨bJ,bJ,bJ⟩,bJ,X1,⟨rfl,.inl ⟨rfl,rfl⟩⟩⟩,B1⟩
 case round=>
  obtain⟨k,hk,rfl,⟨P,a,c,hP,L,J,F,ho⟩,h⟩:=hrel;obtain⟨H,t,V,HO,R,y⟩:=j6 L J F ho h hP;clear L J F ho h hP;by_cases p0:k<16
  ·have t0:(0:Int)<=k:=aR
   have i1:(k:Int)<16:=aR;have e0:IntKind.i64.wrap ((k:Int)+1)=(k:Int)+1:=aH _ aR;have r:=jj p0;go_wp2_with fail;refine(ahM _ f h1 h4 n HN x).mono ?_;rintro e W ⟨g,gp,gc,rfl,hs,C,D,E,h⟩;have S2:=jj hs;have Z:=jj (H.below h);have G2:=jj (V.below h V.lt);have X:=jj (own_below HO h);have M:=nO R h;have S:=F9 (wr.heap.size<=g/\wr.heap.size<=gp/\wr.heap.size<=gc) ⟨C,D,E⟩;have c5:=G2.at_ 5;clear hs C D E h
   go_wp2_with(first
    |(at_builtin;refine fD rfl _ _ _ rfl w.heap.size 230 i0 _ 14 168 underlying221 o0 q0 r0 s0 rfl aR a k c (P.flatMap mH) rfl (own_below X nC) (some ⟨W.heap.size,0,none⟩) 1 1 (mH (Yi g (sl0 n gp gc))) rfl (gD.nR (n:=1) (s:=14) (aZ.new W 230 (mH (Yi g (sl0 n gp gc))).toArray) rfl) (by intro u hu;simp only[mH,ay,aI,or_false] at hu;rcases hu with rfl|rfl|rfl|rfl|rfl|rfl|rfl|rfl|rfl|rfl|rfl|rfl|rfl|rfl<;>rfl) (by unfold maxLen;omega) aR (by have:=M.size;simp;omega) ?_;intro a6 N Q h6;have T:=jj h6;have K:=jj (h6.ZT (own_below X nC) (G2.alloc (.cells (mH (Yi g (sl0 n gp gc))).toArray 230)) aV);have x6:=K.cell 5;have f6:=K.frozen 5;clear h6))
   have PA:=F9 (qw x W f n (Yi g (sl0 n gp gc))) ⟨S2,ah5 _ _,ah5 _ _,⟨bF _,fun v o=>by rw[dO o];exact bF _,fun v o=>by rw[dO o];exact bF _,⟨bF _,bF _⟩,⟨bF _,bF _⟩⟩⟩;have a0:=jj (Z.add (B:=wr.heap.size) R.size (fun p d b h=>(H.at_ p d).slot.lt b h) PA (fun b h=>by
    simp only[qm.foot,CQ.foot,Yi,sl0,ay,aI,or_false] at h;rcases h with rfl|rfl|rfl
    ·exact S.1
    ·exact S.2.1
    exact S.2.2))
   have OA:=own_below X ((aC W.heap.size W).alloc (aF _) (.cells (mH (Yi g (sl0 n gp gc))).toArray 230));have b0:=jj ((a0.below ((aC _ _).alloc (aF _) (.cells (mH (Yi g (sl0 n gp gc))).toArray 230))).Ak T.only (fun q O=>by obtain⟨_,cs,hc⟩:=dx OA q O;exact⟨_,cs,hc,aV,aV,aV⟩))
   have B6:=F9 (Be w Q) (T.below OA (M.alloc M.size _) (aF _) (by have:=M.size;simp;omega));obtain⟨w7,l⟩:=ex (Q.setCell ⟨gi,5,none⟩ (.slice a6 (k+1) N));have o7:Only [gi] Q w7:=by rw[l];exact(Only.refl [gi] _).setCell (.inl bJ) _
   have c0:=jj (b0.Ak o7 (fun q O=>by simp only[au] at O;subst O;exact⟨_,_,K,aV,aV,aV⟩));have O6:Q.ownsRow w.heap.size 230 14 (.slice a6 (k+1) N) (k+1) ((P++ [Yi g (sl0 n gp gc)]).flatMap mH):=by have:=T.own;rw[bS];simpa using this
   have O7:=jj (gH O6 o7 K aV);have G7:=F9 (aZ w7 gi 223 #[U f,U num,U ahead,U 0,true,.slice a6 (k+1) N]) (by rw[l];exact K.fU 5 _);have B7:=F9 (Be w w7) (by rw[l];exact B6.setCell (p:=⟨gi,5,none⟩) GE _);clear x6 f6 o7
   try go_wp2_with fail
   try rw[<-l]
   go_roundw
   case rel=>
    exact⟨k+1,by have:=r.out;omega,by go_num,⟨P++ [Yi g (sl0 n gp gc)],a6,N,by simp[y.out],c0,fun p d=>by
     rcases aQ.1 d with d|d
     ·exact t.out p d
     exact⟨g,gp,gc,au.1 d⟩,G7,O7⟩,B7⟩
   case measure=>have:=r.out;simp[intOf];omega
  have i1: ¬(k:Int)<16:=aR;obtain rfl:k=16:=aR;obtain⟨G,cur,rfl,I,z,m,m0,n0,A⟩: ∃G cur,a=some ⟨G,0,none⟩/\w.heap.size<=G/\aZ wr G 230 cur/\16<=c/\c<=maxLen/\cur.size=c*14/\cur.toList.take (16*14)=P.flatMap mH:=by
   rcases HO.2 with⟨o,h0⟩|⟨g,cp,cur,o,d0,f0,g0,j0,k0,l0⟩
   ·cases h0
   injection o with e1 e2 e3;subst e3;exact⟨g,cur,e1,d0,f0,g0,j0,k0,l0⟩
  have IA:=F9 (eU x wr f n num ahead gi ⟨0,true,G,c,P,cur.toList.drop (16*14)⟩) ⟨V,by
   have e:(P.flatMap mH++cur.toList.drop (16*14)).toArray=cur:=by rw[<-A,kJ]
   show aZ wr G _ (P.flatMap mH++cur.toList.drop (16*14)).toArray;rw[e];exact z,y,m,H.at_,H.sep⟩
  have FG:=F9 (∀b∈(tJ.foot gi ⟨0,true,G,c,P,cur.toList.drop (16*14)⟩),w.heap.size<=b) (fun b h=>by
   simp only[tJ.foot,ay,bg] at h;rcases h with rfl|rfl|⟨p,d,h⟩
   ·exact GE.out
   ·exact I
   exact H.ge p d b h)
  clear I z m m0 n0 A;go_wp2_with fail;go_ret2
  exact⟨gi,by trivial,⟨0,true,G,c,P,cur.toList.drop (16*14)⟩,IA,rfl,rfl,t,FG,R⟩
section
variable{x:Nat}{w w':World}{f:Int}{n:Nat}{num ahead:Int}{gi:Nat}{i:tJ}
theorem wC(h:eU x w f n num ahead gi i)(k:Nat)(H:k<16)(z:Int)(a:z=(k:Int)+1):
  Y 227 #[gi,U z] w fun e w'=>e=acK (.pointer (some ⟨i.gl,k*14,none⟩))/\w=w':=by
 have c:=h.blk.at_ 5;have I: ¬z<1:=aR;have b: ¬16<z:=aR;have E:IntKind.i64.wrap (z -1)=(k:Int):=by rw[aH _ aR];omega
 have d:(0:Int)<=k:=aR;have g:(k:Int)<16:=aR;clear h a H;go_enter func227,ntmps227;go_wp2_with fail;go_ret;exact⟨by trivial,by trivial⟩
theorem adQ(h:eU x w f n num ahead gi i):
  Y 126 #[gi] w fun e w'=>e=acK i.on/\w=w':=by have c:=h.blk.at_ 4;clear h;go_enter func126,ntmps126;go_wp2_with fail;go_ret;exact⟨by trivial,by trivial⟩
def yt:List qm->Nat
 | []=>0
 |p::l=>if p.done then yt l+1 else 0
theorem Qj: ∀l:List qm,yt l<=l.length
 | []=>aF _
 |p::l=>by have:=Qj l;unfold yt;split<;>simp<;>omega
theorem VJ(h:eU x w f n num ahead gi i)(d:Nat)(q:yt i.ps=d):
  Y 166 #[gi] w fun e w'=>e= .returned (U d)/\w=w':=by
 have t:=h.blk.at_ 5;obtain⟨H,r,p⟩:=j3 h q h.len;clear h q;go_enter func166,ntmps166;go_wp2_with fail;go_loopw [3] (fun j wr=> ∃k:Nat,k<=16/\j= U k/\wr=w/\d=k+yt (i.ps.drop k)) (fun j _=>16 -(intOf j).toNat)
 case atStart=>exact⟨0,aR,rfl,rfl,by simpa using r.symm⟩
 case round=>
  obtain⟨k,u,rfl,rfl,c⟩:=hrel;have a:=jj c;clear c;by_cases m:k<16
  ·have I:(k:Int)<16:=aR
   have s:(0:Int)<=k:=aR;have g:k<i.ps.length:=by rw[p.out];exact m
   have C:=H.cell (aj g) 8 aR (.bool i.ps[k].done) rfl;have E:IntKind.i64.wrap ((k:Int)+1)=(k:Int)+1:=aH _ aR;have D:=F9 (i.ps.drop k=i.ps[k]::i.ps.drop (k+1)) (dY g).symm;obtain⟨b,l⟩:=ex i.ps[k].done;rw[<-l] at C;have o:=jj l;clear l
   cases b with
   |true=>
    have G:=F9 (d=(k+1)+yt (i.ps.drop (k+1))) (by rw[a.out,D.out,yt,if_pos o.symm];omega);go_wp2_with fail;go_roundw
    case rel=>exact⟨k+1,aR,by go_num,by trivial,G⟩
    simp[intOf];omega
   |false=>
    have G:=F9 (d=k) (by rw[a.out,D.out,yt,if_neg (by rw[<-o.out];simp)];rfl);go_wp2_with fail;go_ret;exact⟨by rw[G.out];first|rfl|trivial,by trivial⟩
  have I: ¬(k:Int)<16:=aR;have G:=F9 (d=k) (by rw[a.out,iB (by rw[p.out];omega)];rfl);go_wp2_with fail;go_ret;exact⟨by rw[G.out];first|rfl|trivial,by trivial⟩
theorem Me(h:eU x w f n num ahead gi i)(k:Nat)(p:qm)(b:i.ps[k]?=some p)(j:p.sl.has=true)(z:Int)(l:z=(k:Int)+1)(hx:x<w.heap.size):
  Y 230 #[gi,U z] w fun e w'=> ∃a c',e=acK (ac2 #[acX a p.sl.bn c',true])/\sK x w' a p.sl.bn c' p.sl.bs/\w'.ownsRow w.heap.size 49 6 (acX a p.sl.bn c') p.sl.bn (p.sl.bs.flatMap rA)/\Be w w':=by
 have m:k<16:=by have:=(ah.1 b).1;rw[h.len] at this;exact this
 have H:=h.at_ p (ak b);have C:J w i.gl (k*14) p.g:=h.cell b 0 aR _ rfl;have S:=jj (Bz H.slot j H.short.b hx);have A:=jj (wC h k m z l);clear h b j l hx H;go_enter func230,ntmps230;go_wp2_with fail;refine A.mono ?_;rintro e w' ⟨rfl,rfl⟩;go_wp2_with fail;refine S.mono ?_;rintro e W ⟨a,c',rfl,g,d,c⟩;obtain⟨R,O,B⟩:=j3 g d c;clear g d c;go_wp2_with fail;go_ret2
 exact⟨a,c',by trivial,R,O,B⟩
theorem TY(h:eU x w f n num ahead gi i)(k:Nat)(p:qm)(a:i.ps[k]?=some p)(b:p.sl.has=false)(z:Int)(c:z=(k:Int)+1):
  Y 230 #[gi,U z] w fun e w'=>e=acK (ac2 #[(),false])/\w=w':=by
 have d:k<16:=by have:=(ah.1 a).1;rw[h.len] at this;exact this
 have H:=h.at_ p (ak a);have C:J w i.gl (k*14) p.g:=h.cell a 0 aR _ rfl;have S:=jj (CG H.slot b);have A:=jj (wC h k d z c);clear h a b c H;go_enter func230,ntmps230;go_wp2_with fail;refine A.mono ?_;rintro e w' ⟨rfl,rfl⟩;go_wp2_with fail;refine S.mono ?_;rintro e W ⟨rfl,rfl⟩;go_wp2_with fail;go_ret2
 exact⟨by trivial,by trivial⟩
end
end Go.Proofs.YtgnhecmnlddjhaaGreat
