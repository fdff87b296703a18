/- TopAlone, part 21 of 24: a proof squeezed by a program. -/
import Derived.Test.YtgnhecmnlddjhaaGreatZ17
import Derived.Test.YtgnhecmnlddjhaaGreatZ19
set_option linter.unusedVariables false
set_option linter.unusedSimpArgs false
set_option linter.defProp false
set_option maxRecDepth 100000
set_option maxHeartbeats 6400000
namespace Go.Proofs.YtgnhecmnlddjhaaGreat
open Go.RowKit Go.Proofs.Tryz
variable{A':OA}{B cap m x:Nat}{L':List ni}{b:LN}{c:ni}{v:Value}{w w':World}
theorem ahq:madeCells #[U 0] (17*1)=z17:=by
 refine Array.toList_inj.1 ?_;rw[fP,kT];simp[z17,ints]
theorem aey(g n gp gc:Nat):(Yi g (sl0 n gp gc)).val=QW n:=by
 simp[Yi,sl0,qm.val,QW,rC.val];exact .inr rfl
theorem Ue:(prog.info? 290).map (fun i=>(i.zero,i.size,i.bytes))=some (some (.agg #[U 0,U 0,(),(),U 0]),5,72):=by kernel_rfl
theorem QB:(prog.info? 292).map (fun i=>(i.zero,i.size,i.bytes))=some (some (.agg #[U 0,U 0,U 0,U 0,U 0,U 0,U 0,(),(),(),()]),11,152):=by kernel_rfl
theorem Dh{α:Type}(z:List α)(hz:0<z.length): ∀(k i:Nat),((List.replicate k z).flatten)[i]?=if i<k*z.length then z[i%z.length]? else none
 |0,i=>by simp
 |k+1,i=>by
  rw[List.replicate_succ,List.flatten_cons,List.getElem?_append,gY];split
  ·rename_i h
   rw[aV lK,dJ h]
  rename_i h;rw[Dh z hz k (i -z.length),Nat.mod_eq_sub_mod (by omega:i≥z.length)];by_cases h':i<k*z.length+z.length
  ·rw[aV h',aV lK]
  rw[aU h',aU lK]
theorem Mw(z:LV)(hz:0<z.length)(k:Nat):(madeCells z.toArray (k*z.length)).toList=(List.replicate k z).flatten:=by
 refine dD fun i=> ?_;rw[Dh z hz k i,Array.getElem?_toList];by_cases h:i<k*z.length
 ·rw[aV h]
  have hm:i%z.length<z.length:=ji _ hz;simp only[madeCells,Array.getElem?_map,Array.getElem?_range,h,fH,Option.map_some,gZ];rw[getElem!_pos z.toArray (i%z.length) (mR hm),aj hm];simp
 rw[aU h,gK (by rw[size_madeCells];omega)]
theorem NK{α:Type}{z:List α}{k:Nat}{v:α}(h:v∈(List.replicate k z).flatten):v∈z:=by
 obtain⟨l,hl,hv⟩:=List.mem_flatten.1 h;rw[dO hl] at hv;exact hv
theorem Di{α:Type}(z:List α)(k:Nat):((List.replicate k z).flatten).length=k*z.length:=by simp
abbrev z5:List Value:= [U 0,U 0,(),(),U 0]
abbrev z11:List Value:= [U 0,U 0,U 0,U 0,U 0,U 0,U 0,(),(),(),()]
theorem akZ(n:Nat):madeCells #[U 0,U 0,(),(),U 0] (n*5)=((List.replicate n z5).flatten).toArray:=by
 rw[<-Mw z5 lN n,Array.toArray_toList];rfl
theorem ahp(n:Nat):madeCells #[U 0,U 0,U 0,U 0,U 0,U 0,U 0,(),(),(),()] (n*11)=((List.replicate n z11).flatten).toArray:=by
 rw[<-Mw z11 lN n,Array.toArray_toList];rfl
structure Zv(x:Nat)(w wr:World)(f id:Int)(n nn gc q k:Nat)(D:xD):Prop where
 at_:pX x w wr f id n D (.pointer none) (.pointer none) (.pointer none) (.pointer none) (.pointer none) () () []
 gs:D.gs=D.is.map Prod.fst
 l1:D.is.length=k
 l2:D.ps.length=k
 l3:D.cs.length=k
 nn:D.nn=nn
 gc:D.gc=gc
 q:D.q=q
 ini: ∀p∈D.is,p.2.vw=0/\p.2.on=true/\p.2.ps.map qm.val=List.replicate 16 (QW n)
theorem ahx(x:Nat)(f:Int)(h1:1<=f)(h4:f<=4)(n:Nat)(hn:(n:Int)=3*f+1)(id:Nat)(hid:id<n)(nn:Nat)(w:World):
  Y 45 #[.agg (sW f),U id,nn] w fun e w'=> ∃q d,e= .returned (.tuple #[(q:Nat),U 0])/\Sys x w' (sF f id n q d)/\(∀k∈nE (sF f id n q d),w.heap.size<=k)/\d.nn=nn/\vU f n d.val/\Be w w':=by
 obtain⟨ip,hip,hp0,hp1,hp2⟩:=bq IY;obtain⟨ir,hir,hr0,hr1,hr2⟩:=bq FE;obtain⟨ii,hii,hi0,hi1,hi2⟩:=bq Bh;have hmk:=fun W=>kQ (P:=prog) W 35 3 ii _ underlying35 hii hi0 .i64 .i64 17 17 lK lK (by rw[hi2];omega) lK;rw[hi1] at hmk;simp only[show Int.toNat 17=17 from rfl,Value.cells,ahq] at hmk;have i1:(0:Int)<=id:=lK;have i2: ¬(id:Int)<0:=lK;have i3: ¬3*f+1<=(id:Int):=lK;have HN:=jj hn;clear hn hid;go_enter func45,ntmps45
 go_upto_region 1 with fail
 obtain⟨w1,hw1⟩:=ex (w.alloc (.cells (sW f) 24));obtain⟨gc,hgc⟩:=ex w.heap.size;rw[<-hw1,<-hgc];have K1:=xNew hw1 hgc;have B1:=tQ hw1;have GC:Hid (w.heap.size<=gc):=jj lK;clear hw1 hgc;obtain⟨c0,c1,c2,c3,c4,c5,c6,c7,c8,c9,c10,c11,c12,c13,c14⟩:=sZ K1
 go_wp2_with fail
 refine(qM.Hr _ _ _ _ _ _ _ _ _ _ _ _ _ _ _ _).mono ?_;rintro e w2 ⟨rfl,hb2⟩;rw[NG.xu f 64 h1 h4 lN];have K2:=jj (K1.below hb2 K1.lt);have B2:=nO B1 hb2;clear hb2 c0 c1 c2 c3 c4 c5 c6 c7 c8 c9 c10 c11 c12 c13 c14 K1 B1;have c0:=K2.at_ 0
 go_wp2_with fail
 refine(oC f _ lK lK).mono ?_;rintro e w2' ⟨rfl,rfl⟩
 go_upto_region 3 with fail
 clear c0;have KEEP:Hid (∀u,Be w2 u->uR u gc f):=jj fun u hu=>sZ (K2.below hu K2.lt);have KS:=KEEP.out w2.drew ((aC _ _).drew);unfold uR at KS;refine um (fun u=>J u gc 0 (U f)/\J u gc 1 (U 2)/\J u gc 2 (U 2)/\J u gc 3 (U 4)/\J u gc 4 (U 64)/\J u gc 5 (U 8)/\J u gc 6 (U 8)/\J u gc 7 (U 8)/\
  J u gc 8 (U 1)/\J u gc 9 (U 2)/\J u gc 10 (U 12)/\J u gc 11 (U 8)/\J u gc 12 (U 6)/\J u gc 13 (U 2)/\J u gc 14 (U 6)) 7 (tk 0 3 (.one 3 (.take 4 (.one 5 (.take 6 .done))))) (by kernel_rfl) (by kernel_rfl) (by kernel_rfl) KS ?_
 intro hS0;obtain⟨w3,hw3⟩:=ex w2.drew;have B3:=bDr hw3;rw[<-hw3] at hS0|-;clear hw3 KS
 repeat refine' tT ?_
 refine pO fun KT lS=> ?_;go_simp;refine(aad w3).mono ?_;rintro e w4 ⟨rfl,Tx,hb4⟩;have B4:=nO B3 hb4;obtain⟨gt,hgt⟩:=ex w3.heap.size;rw[<-hgt] at Tx|-;have CLK:=jj Tx;have GT:Hid (w2.heap.size<=gt):=jj (by rw[hgt];exact B3.size);clear Tx hb4 hgt;have S4:=KEEP.out _ B4;unfold uR at S4;refine oH lS S4 ?_;clear hS0;have hS0:=S4
 repeat refine' tT ?_
 refine pO fun KT lS=> ?_;go_simp;obtain⟨w5,zM⟩:=ex (w4.alloc (.cells (nmc f id nn gt () (.pointer none) (.pointer none) (.pointer none) (.pointer none) (.pointer none) () () () ()) 131));obtain⟨q,hq⟩:=ex w4.heap.size;have TU:=zM;simp only[nmc] at TU;rw[<-TU,<-hq];have X5:=xNew zM hq;have GQ:Hid (w2.heap.size<=q):=jj (by rw[hq];exact B4.size);have L5:=tQ zM;have WV:Hid (vT w5 gt 0):=jj (lQ.below CLK L5 (lQ.lt CLK));have B5:Hid (Be w2 w5):=jj (B4.trans (L5.mono B4.size));clear zM TU hq;have S5:=KEEP.out _ B5.out;unfold uR at S5;refine oH lS S5 ?_;clear hS0 S4;have hS0:=S5
 repeat refine' tT ?_
 refine lM ?_;clear hS0 S5;have ML:Hid (Zv x w w5 f id n nn gc q 0 ⟨gc,q,nn,gt,[],none,0,[],none,0,[],none,0,[]⟩):=jj (by
  have k2:=K2.below B5.out K2.lt;have nq:q≠gt:=X5.nY WV lN;have nc:gc≠q:=k2.nY X5 lN;have nt:gc≠gt:=k2.nY WV lN;have s0:=Sys.nil x w5;have s1:=s0.add (c:=mW q 131 (nmc f id nn gt () (.pointer none) (.pointer none) (.pointer none) (.pointer none) (.pointer none) () () () ())) X5 (oF _ _ _ lN) (fun k hk=>by simp[nE]);have s2:=s1.add (c:=Da gt 0) WV (Lp _ _) (fun k hk hm=>by simp[nE,Da,mW,nM] at hk hm;omega);have s3:=s2.add (c:=(⟨gc,q,nn,gt,[],none,0,[],none,0,[],none,0,[]⟩:xD).zJ) ⟨rfl,.inl ⟨rfl,rfl⟩⟩ (uJ _ _ _ _ _ _ lN) (fun k hk hm=>by simp[xD.zJ,wG,nM] at hk);have s4:=s3.add (c:=Ay none 0 []) ⟨⟨rfl,.inl ⟨rfl,rfl⟩⟩,fun g hg=>by simp at hg,List.nodup_nil⟩ (Ea _ _ _) (fun k hk hm=>by simp[Ay,nM] at hk);have s5:=s4.add (c:=Ay none 0 []) ⟨⟨rfl,.inl ⟨rfl,rfl⟩⟩,fun g hg=>by simp at hg,List.nodup_nil⟩ (Ea _ _ _) (fun k hk hm=>by simp[Ay,nM] at hk);have s6:=s5.add (c:=mW gc 24 (sW f)) k2 (oF _ _ _ lN) (fun k hk hm=>by simp[nE,Da,mW,nM,xD.zJ,wG,Ay] at hk hm;omega);refine⟨⟨s6,B2.trans (B5.out.mono B2.size),fun k hk=> ?_⟩,rfl,rfl,rfl,rfl,rfl,rfl,rfl,fun p hp=>by simp at hp⟩;have hs:=B2.size;have:=GC.out;have:=GT.out;have:=GQ.out;simp[nE,xD.L,Da,mW,nM,xD.zJ,wG,Ay,sD] at hk;omega)
 clear X5 WV L5 CLK GT GQ K2 B2 B3 B4 B5 KEEP GC
 go_wp2_with fail
 go_loopw [9] (fun z wr=> ∃k:Nat,(k:Int)<=f+1/\z= U k/\ ∃D,Zv x w wr f id n nn gc q k D) (fun z _=>(f+1).toNat -(intOf z).toNat)
 case atStart=>exact⟨0,lK,by first|rfl|simp,_,ML⟩
 case round=>
  obtain⟨k,hk,rfl,D,hL⟩:=hrel;have LL:=jj hL;clear hL;have c0:J wr gc 0 (U f):=by have:=LL.at_.cfg.cell 0;rw[LL.gc] at this;exact this
  have c3:J wr gc 3 (U 4):=by have:=LL.at_.cfg.cell 3;rw[LL.gc] at this;exact this
  by_cases hlt:(k:Int)<=f
  ·have j1:(0:Int)<=k:=lK
   go_wp2_with fail
   refine(ahe _ f k 4 h1 h4 ⟨j1,hlt⟩ ⟨lN,lN⟩ n HN x).mono ?_;rintro e w5 ⟨gi,rfl,i,hi,akr,aks,akt,aku,akv⟩;have A5:=jj (LL.at_.inst akv (by rw[LL.l1];exact hi) aku);have IV:Hid (i.vw=0/\i.on=true/\i.ps.map qm.val=List.replicate 16 (QW n)):=jj ⟨akr,aks,by
    have e:i.ps.map qm.val=i.ps.map fun _=>QW n:=dX fun p hp=>by
     obtain⟨g,gp,gcc,rfl⟩:=akt p hp;exact aey g n gp gcc
    rw[e,kH,hi.len]⟩
   clear hi akr aks akt aku akv c0 c3;have d18:J w5 q 18 (.slice D.a1 k D.d1):=by
    have:=A5.blk.cell 18;rw[show({D with is:=D.is++ [(gi,i)]}:xD).q=q from LL.q] at this;rw[this,show k=D.gs.length by rw[LL.gs,aT,LL.l1]];rfl
   have GL:Hid (D.gs.length=k):=jj (by rw[LL.gs,aT,LL.l1]);have O5:=jj A5.p1;rw[show({D with is:=D.is++ [(gi,i)]}:xD).gs=D.gs from rfl,GL.out] at O5;have SZ:=jj A5.below.size;have QQ:Hid (D.q=q):=jj LL.q
   go_wp2_with(at_builtin;refine lZ rfl (.tmp 51) (.tmp 53) _ rfl w.heap.size 164 ip _ 1 8 underlying122 hip hp0 hp1 hp2 rfl lK D.a1 k D.d1 (D.gs.map fun g=> .pointer (some ⟨g,0,none⟩)) rfl (dM O5 _) (some ⟨w5.heap.size,0,none⟩) 1 1 [gi] rfl (qC _ _ _) (by simp[Value.oneCell']) (by unfold maxLen;omega) lK (by have:=SZ.out;simp;omega) ?_;intro a8 c8 w8 h8;have A6:=A5.keep ((aC _ _).alloc (aF _) (.cells #[gi] 164));have Q8:=A6.q8 A6.p1 lN (by rw[<-GL.out] at h8;exact h8);rw[show({D with is:=D.is++ [(gi,i)]}:xD).q=q from QQ.out] at Q8;have d8:J w8 q 18 (.slice D.a1 D.gs.length D.d1):=Q8.cell 18;have f8:=Q8.frozen 18;have P8:=jj (A6.app1 (g:=gi) (cap:=c8) (A':=a8) (by rw[<-GL.out] at h8;exact h8));rw[show({D with is:=D.is++ [(gi,i)]}:xD).q=q from QQ.out,show({D with is:=D.is++ [(gi,i)]}:xD).gs=D.gs from rfl,GL.out] at P8;clear A6 Q8 h8)
   obtain⟨v9,CR⟩:=ex (w8.setCell ⟨q,18,none⟩ (.slice a8 (k+1) c8));rw[<-CR] at P8|-;obtain⟨D9,hD9⟩: ∃E,E=({D with is:=D.is++ [(gi,i)],gs:=D.gs++ [gi],a1:=a8,d1:=c8}:xD):=⟨_,rfl⟩;have A9:Hid (pX x w v9 f id n D9 (.pointer none) (.pointer none) (.pointer none) (.pointer none) (.pointer none) () () []):=jj (by
    have p:=P8.out;rw[<-QQ.out] at p;rw[hD9];exact p)
   have Q9:Hid (D9.q=q):=jj (by rw[hD9];exact QQ.out);have L9:Hid (D9.ps.length=k):=jj (by rw[hD9];exact LL.l2);have M9:Hid (D9.cs.length=k):=jj (by rw[hD9];exact LL.l3);have HD9:=jj hD9;clear CR hD9 P8 d8 f8 d18 A5 O5
   go_upto_region 9 with fail
   have KS: ∀w',Be v9 w'->J w' q 26 (.slice D9.a2 k D9.d2):=fun w' o=>by
    have:=(A9.keep o).blk.cell 26;rw[Q9.out] at this;rw[this,<-L9.out];rfl
   refine rP (fun w'=>J w' q 26 (.slice D9.a2 k D9.d2)) 10 (tk 0 5 (.one 5 (.one 6 (.one 7 (.one 8 (.take 9 (.one 10 .done))))))) (KS _ (aC _ _).drew) ?_;intro hS0;have B0:Be v9 v9.drew:=(aC _ _).drew;obtain⟨u0,hu0⟩:=ex v9.drew;rw[<-hu0] at hS0 B0|-;clear hu0
   repeat refine' tT ?_
   refine pO fun KT lS=> ?_;go_simp;obtain⟨u5,TG⟩:=ex (u0.alloc (.cells z17 3));obtain⟨g5,hg5⟩:=ex u0.heap.size;rw[<-TG,<-hg5];have X5:=xNew TG hg5;have B5:Be v9 u5:=by rw[TG];exact B0.alloc B0.size _
   have G5:Hid (v9.heap.size<=g5):=jj (by rw[hg5];exact B0.size);clear TG hg5;refine oH lS (KS _ B5) ?_;refine pO fun KT lS=> ?_;refine wK (by rfl) 129 1 _ (by rfl) #[(0,.slice (some ⟨g5,0,none⟩) 17 17)] (by go_simp) _ (yj 129 35 ir _ underlying129 hir hr0 hr1 (O g5 17 17) rfl _) ?_;have B6:=B5.alloc B5.size (.cells #[O g5 17 17] 35);have X6:Hid (lQ (u5.alloc (.cells #[O g5 17 17] 35)) g5 3 z17):=jj (X5.alloc _);refine oH lS (KS _ B6) ?_;refine pO fun KT lS=> ?_;have O9:=jj ((A9.keep B6).p2);rw[L9.out] at O9;refine oo (by rfl) _ _ _ (by rfl) w.heap.size 35 ir _ 1 24 underlying129 hir hr0 hr1 hr2 rfl lK D9.a2 k D9.d2 (D9.ps.map fun g=>Value.slice (some ⟨g,0,none⟩) 17 17) (by rfl) O9 (some ⟨u5.heap.size,0,none⟩) 1 1 [O g5 17 17] (by rfl) (qC _ _ _) (by simp[Value.oneCell']) (by unfold maxLen;omega) lK (VZ A9.below.size B6.size) ?_;intro e8 c8 u8 h8;have Q8:=jj ((A9.keep B6).q8 O9 lN h8);rw[Q9.out] at Q8;have S8:J u8 q 26 (.slice D9.a2 k D9.d2):=by
    rw[Q8.out.cell 26,<-L9.out];rfl
   have f8:=Q8.out.frozen 26;refine oH lS S8 ?_;refine pO fun KT lS=> ?_;go_simp;refine oH lS S8 ?_
   repeat refine' tT ?_
   refine pL fun KT lS=> ?_;go_simp;refine oL lS ?_;refine lM ?_;clear hS0 KS f8 S8 Q8;have A10:=jj (A9.an2 B6 X6 G5 (A':=e8) (cap:=c8) (by rw[L9.out];exact h8));obtain⟨v10,CR⟩:=ex (u8.setCell ⟨q,26,none⟩ (.slice e8 (k+1) c8));rw[<-CR];rw[show u8.setCell ⟨D9.q,26,none⟩ (.slice e8 (D9.ps.length+1) c8)=v10 by rw[CR,Q9.out,L9.out]] at A10;obtain⟨Kn,hD2⟩: ∃E,E=({D9 with ps:=D9.ps++ [g5],a2:=e8,d2:=c8}:xD):=⟨_,rfl⟩;rw[<-hD2] at A10;have Np:=jj hD2;clear CR h8 B6 B5 B0 X5 X6 G5 O9 hD2;have Q10:Hid (Kn.q=q):=jj (by rw[Np.out];exact Q9.out);have M10:Hid (Kn.cs.length=k):=jj (by rw[Np.out];exact M9.out)
   go_upto_region 10 with fail
   have KS: ∀w',Be v10 w'->J w' q 27 (.slice Kn.a3 k Kn.d3):=fun w' o=>by
    have:=(A10.keep o).blk.cell 27;rw[Q10.out] at this;rw[this,<-M10.out];rfl
   refine rP (fun w'=>J w' q 27 (.slice Kn.a3 k Kn.d3)) 10 (tk 0 5 (.one 5 (.one 6 (.one 7 (.one 8 (.take 9 (.one 10 .done))))))) (KS _ (aC _ _).drew) ?_;intro hS0;have B0:Be v10 v10.drew:=(aC _ _).drew;obtain⟨u0,hu0⟩:=ex v10.drew;rw[<-hu0] at hS0 B0|-;clear hu0
   repeat refine' tT ?_
   refine pO fun KT lS=> ?_;go_simp;obtain⟨u5,TG⟩:=ex (u0.alloc (.cells z17 3));obtain⟨g5,hg5⟩:=ex u0.heap.size;rw[<-TG,<-hg5];have X5:=xNew TG hg5;have B5:Be v10 u5:=by rw[TG];exact B0.alloc B0.size _
   have G5:Hid (v10.heap.size<=g5):=jj (by rw[hg5];exact B0.size);clear TG hg5;refine oH lS (KS _ B5) ?_;refine pO fun KT lS=> ?_;refine wK (by rfl) 129 1 _ (by rfl) #[(0,.slice (some ⟨g5,0,none⟩) 17 17)] (by go_simp) _ (yj 129 35 ir _ underlying129 hir hr0 hr1 (O g5 17 17) rfl _) ?_;have B6:=B5.alloc B5.size (.cells #[O g5 17 17] 35);have X6:Hid (lQ (u5.alloc (.cells #[O g5 17 17] 35)) g5 3 z17):=jj (X5.alloc _);refine oH lS (KS _ B6) ?_;refine pO fun KT lS=> ?_;have O10:=jj ((A10.keep B6).p3);rw[M10.out] at O10;refine oo (by rfl) _ _ _ (by rfl) w.heap.size 35 ir _ 1 24 underlying129 hir hr0 hr1 hr2 rfl lK Kn.a3 k Kn.d3 (Kn.cs.map fun g=>Value.slice (some ⟨g,0,none⟩) 17 17) (by rfl) O10 (some ⟨u5.heap.size,0,none⟩) 1 1 [O g5 17 17] (by rfl) (qC _ _ _) (by simp[Value.oneCell']) (by unfold maxLen;omega) lK (VZ A10.below.size B6.size) ?_;intro e8 c8 u8 h8;have Q8:=jj ((A10.keep B6).q8 O10 lN h8);rw[Q10.out] at Q8;have S8:J u8 q 27 (.slice Kn.a3 k Kn.d3):=by
    rw[Q8.out.cell 27,<-M10.out];rfl
   have f8:=Q8.out.frozen 27;refine oH lS S8 ?_;refine pO fun KT lS=> ?_;go_simp;refine oH lS S8 ?_
   repeat refine' tT ?_
   refine pL fun KT lS=> ?_;go_simp;refine oL lS ?_;refine lM ?_;clear hS0 KS f8 S8 Q8;have A11:=jj (A10.an3 B6 X6 G5 (A':=e8) (cap:=c8) (by rw[M10.out];exact h8));obtain⟨v11,CR⟩:=ex (u8.setCell ⟨q,27,none⟩ (.slice e8 (k+1) c8));rw[<-CR];rw[show u8.setCell ⟨Kn.q,27,none⟩ (.slice e8 (Kn.cs.length+1) c8)=v11 by rw[CR,Q10.out,M10.out]] at A11;obtain⟨D11,hD2⟩: ∃E,E=({Kn with cs:=Kn.cs++ [g5],a3:=e8,d3:=c8}:xD):=⟨_,rfl⟩;rw[<-hD2] at A11;have PD:=jj hD2;clear CR h8 B6 B5 B0 X5 X6 G5 O10 hD2;have LF:Hid (Zv x w v11 f id n nn gc q (k+1) D11):=jj (by
    have L:=LL.out;have l2:D11.ps.length=k+1:=by rw[PD.out];show Kn.ps.length=_;rw[Np.out];simp[L9.out]
    have l3:D11.cs.length=k+1:=by rw[PD.out];simp[M10.out]
    have egs:D11.gs=D.gs++ [gi]:=by rw[PD.out];show Kn.gs=_;rw[Np.out];show D9.gs=_;rw[HD9.out]
    have eis:D11.is=D.is++ [(gi,i)]:=by rw[PD.out];show Kn.is=_;rw[Np.out];show D9.is=_;rw[HD9.out]
    have enn:D11.nn=D.nn:=by rw[PD.out];show Kn.nn=_;rw[Np.out];show D9.nn=_;rw[HD9.out]
    have Sm:D11.gc=D.gc:=by rw[PD.out];show Kn.gc=_;rw[Np.out];show D9.gc=_;rw[HD9.out]
    have eq_:D11.q=D.q:=by rw[PD.out];show Kn.q=_;rw[Np.out];show D9.q=_;rw[HD9.out]
    refine⟨A11,?_,?_,l2,l3,by rw[enn];exact L.nn,by rw[Sm];exact L.gc,by rw[eq_];exact L.q,fun p hp=> ?_⟩
    ·rw[egs,eis,L.gs,bR]
     rfl
    ·rw[eis]
     simp[L.l1]
    rw[eis] at hp;rcases aQ.1 hp with hp|hp
    ·exact L.ini p hp
    rw[au] at hp;subst hp;exact IV.out)
   clear A9 A10 A11 Q9 Q10 L9 M9 M10 HD9 Np PD
   go_wp2_with fail
   go_roundw
   case rel=>exact⟨k+1,lK,by go_num,D11,LF⟩
   simp[intOf];omega
  have hk1:(k:Int)=f+1:=lK;have e1:IntKind.i64.wrap (f+1)=f+1:=aH _ lK;have HK:=jj hk1;have k5:k<=5:=lK;have n13:n<=13:=by have:=HN.out;omega
  obtain⟨ia,hia,ha0,ha1,ha2⟩:=bq Ue;obtain⟨ib,hib,hb0,hb1,hb2⟩:=bq QB;have hm5:=fun W=>kQ (P:=prog) W 127 290 ia _ underlying127 hia ha0 .i64 .i64 n n lK lK (by rw[ha2];omega) lK;rw[ha1] at hm5;simp only[Int.toNat_natCast,Value.cells,akZ] at hm5;have adL:=fun W=>kQ (P:=prog) W 128 292 ib _ underlying128 hib hb0 .i64 .i64 k k lK lK (by rw[hb2];omega) lK;rw[hb1] at adL;simp only[Int.toNat_natCast,Value.cells,ahp] at adL;rw[hk1] at adL;obtain⟨C5,hC5⟩:=ex (((List.replicate n z5).flatten));obtain⟨C11,agS⟩:=ex (((List.replicate k z11).flatten));rw[<-hC5] at hm5;rw[<-agS] at adL;have HC5:=jj hC5;have aiT:=jj agS;clear hC5 agS hk1 c3;have A0:=jj LL.at_;have QQ:Hid (D.q=q):=jj LL.q;have GG:Hid (D.gc=gc):=jj LL.gc;have c1:J wr gc 1 (U 2):=by have:=A0.cfg.cell 1;rw[GG.out] at this;exact this
  go_wp2_with fail
  refine(ahS _ f 2 h1 h4 ⟨lN,lN⟩).mono ?_;rintro e u1 ⟨nH,rfl,hP,hg,hb⟩;have M1:=jj (A0.more hb (Nh _ _ _ _ _) (c:=Fg nH f 2 [] [nH]) hP (fun k hk=>by
   simp only[Fg,nM,au] at hk;rw[hk];exact hg))
  have d19:J u1 q 19 (.pointer none):=by have:=M1.blk.cell 19;rw[QQ.out] at this;exact this
  have f19:=M1.blk.frozen 19;rw[QQ.out] at f19;clear hP hg hb c0 c1
  go_upto_region 12 with fail
  obtain⟨v1,hv1⟩:=ex (u1.setCell ⟨q,19,none⟩ nH);rw[<-hv1];have N1:=jj (M1.mg (i:=19) (v:= .pointer (some ⟨nH,0,none⟩)) (yL:= .pointer (some ⟨nH,0,none⟩)) (u20:= .pointer none) (u21:= .pointer none) (u22:= .pointer none) (u23:= .pointer none) (u24:= .slice none 0 0) (u25:= .slice none 0 0) rfl);rw[show u1.setCell ⟨D.q,19,none⟩ nH=v1 by rw[hv1,QQ.out]] at N1;clear hv1 d19 f19 M1;have c0:J v1 gc 0 (U f):=by have:=N1.cfg.cell 0;rw[GG.out] at this;exact this
  go_wp2_with fail
  refine(aeT f n ⟨h1,h4⟩ HN.symm _).mono ?_;rintro e u2 ⟨gv,Iz,rfl,hP,hg,hg2,hb⟩;have M2:=jj (N1.more hb (YH _ _ _ _) (c:=Gw gv Iz f (List.replicate n (false,0,0))) hP (fun k hk=>by
   simp only[Gw,nM,ay,aI,bK] at hk;rcases hk with rfl|rfl
   ·exact hg
   exact hg2))
  have d20:J u2 q 20 (.pointer none):=by have:=M2.blk.cell 20;rw[QQ.out] at this;exact this
  have f20:=M2.blk.frozen 20;rw[QQ.out] at f20;clear hP hg hg2 hb c0
  go_upto_region 13 with fail
  obtain⟨v2,hv2⟩:=ex (u2.setCell ⟨q,20,none⟩ gv);rw[<-hv2];have N2:=jj (M2.mg (i:=20) (v:= .pointer (some ⟨gv,0,none⟩)) (yL:= .pointer (some ⟨nH,0,none⟩)) (u20:= .pointer (some ⟨gv,0,none⟩)) (u21:= .pointer none) (u22:= .pointer none) (u23:= .pointer none) (u24:= .slice none 0 0) (u25:= .slice none 0 0) rfl);rw[show u2.setCell ⟨D.q,20,none⟩ gv=v2 by rw[hv2,QQ.out]] at N2;clear hv2 d20 f20 M2;have c5:J v2 gc 5 (U 8):=by have:=N2.cfg.cell 5;rw[GG.out] at this;exact this
  have c6:J v2 gc 6 (U 8):=by have:=N2.cfg.cell 6;rw[GG.out] at this;exact this
  go_wp2_with fail
  obtain⟨gg,hgg⟩:=ex v2.heap.size;refine(agQ _ 8 8 ⟨lN,lN⟩ ⟨lN,lN⟩).mono ?_;rintro e u3 ⟨rfl,hP,hb⟩;rw[<-hgg] at hP|-;have GE3:v2.heap.size<=gg:=lC hgg.symm;have M3:=jj (N2.more hb (XH _ _ _) (c:=Gr gg 8 8) hP (fun k hk=>by
   simp only[Gr,mW,nM,au] at hk;rw[hk];exact GE3))
  have d21:J u3 q 21 (.pointer none):=by have:=M3.blk.cell 21;rw[QQ.out] at this;exact this
  have f21:=M3.blk.frozen 21;rw[QQ.out] at f21;clear hP hb hgg GE3 c5 c6
  go_upto_region 14 with fail
  obtain⟨v3,hv3⟩:=ex (u3.setCell ⟨q,21,none⟩ gg);rw[<-hv3];have N3:=jj (M3.mg (i:=21) (v:= .pointer (some ⟨gg,0,none⟩)) (yL:= .pointer (some ⟨nH,0,none⟩)) (u20:= .pointer (some ⟨gv,0,none⟩)) (u21:= .pointer (some ⟨gg,0,none⟩)) (u22:= .pointer none) (u23:= .pointer none) (u24:= .slice none 0 0) (u25:= .slice none 0 0) rfl);rw[show u3.setCell ⟨D.q,21,none⟩ gg=v3 by rw[hv3,QQ.out]] at N3;clear hv3 d21 f21 M3;have c1:J v3 gc 1 (U 2):=by have:=N3.cfg.cell 1;rw[GG.out] at this;exact this
  go_wp2_with fail
  refine(ad4 2 lN lN _).mono ?_;rintro e u4 ⟨SL,gd,rfl,hP,hg,hb⟩;have M4:=jj (N3.more hb (Mq _ _ _ _ _ _) (c:=ET SL gd 2 [] st0 (List.replicate 2 (0,0))) hP (fun k hk=>hg k hk));have d22:J u4 q 22 (.pointer none):=by have:=M4.blk.cell 22;rw[QQ.out] at this;exact this
  have f22:=M4.blk.frozen 22;rw[QQ.out] at f22;clear hP hg hb c1
  go_upto_region 15 with fail
  obtain⟨v4,hv4⟩:=ex (u4.setCell ⟨q,22,none⟩ gd);rw[<-hv4];have N4:=jj (M4.mg (i:=22) (v:= .pointer (some ⟨gd,0,none⟩)) (yL:= .pointer (some ⟨nH,0,none⟩)) (u20:= .pointer (some ⟨gv,0,none⟩)) (u21:= .pointer (some ⟨gg,0,none⟩)) (u22:= .pointer (some ⟨gd,0,none⟩)) (u23:= .pointer none) (u24:= .slice none 0 0) (u25:= .slice none 0 0) rfl);rw[show u4.setCell ⟨D.q,22,none⟩ gd=v4 by rw[hv4,QQ.out]] at N4;clear hv4 d22 f22 M4;have c0:J v4 gc 0 (U f):=by have:=N4.cfg.cell 0;rw[GG.out] at this;exact this
  go_wp2_with fail
  refine(ad8 (f+1) k HK.symm (tL HK.out) k5 _).mono ?_;rintro e u5 ⟨gm,Dl,rfl,hP,hg,hg2,hb⟩;have M5:=jj (N4.more hb (Mx _ _ _) (c:=Dx gm Dl (List.replicate k (0,0))) hP (fun k hk=>by
   simp only[Dx,nM,ay,aI,bK] at hk;rcases hk with rfl|rfl
   ·exact hg
   exact hg2))
  have d23:J u5 q 23 (.pointer none):=by have:=M5.blk.cell 23;rw[QQ.out] at this;exact this
  have f23:=M5.blk.frozen 23;rw[QQ.out] at f23;clear hP hg hg2 hb c0
  go_upto_region 16 with fail
  obtain⟨v5,hv5⟩:=ex (u5.setCell ⟨q,23,none⟩ gm);rw[<-hv5];have N5:=jj (M5.mg (i:=23) (v:= .pointer (some ⟨gm,0,none⟩)) (yL:= .pointer (some ⟨nH,0,none⟩)) (u20:= .pointer (some ⟨gv,0,none⟩)) (u21:= .pointer (some ⟨gg,0,none⟩)) (u22:= .pointer (some ⟨gd,0,none⟩)) (u23:= .pointer (some ⟨gm,0,none⟩)) (u24:= .slice none 0 0) (u25:= .slice none 0 0) rfl);rw[show u5.setCell ⟨D.q,23,none⟩ gm=v5 by rw[hv5,QQ.out]] at N5;clear hv5 d23 f23 M5;have c0:J v5 gc 0 (U f):=by have:=N5.cfg.cell 0;rw[GG.out] at this;exact this
  go_wp2_with fail
  refine(oC f _ lK lK).mono ?_;rintro e u6 ⟨rfl,rfl⟩;rw[<-HN.out];have M6:=jj (N5.more ((aC _ _).alloc (aF _) (.cells C5.toArray 290)) (oF v5.heap.size 290 C5.toArray lN) (c:=mW v5.heap.size 290 C5.toArray) (lQ.new _ _ _) (fun k hk=>by
   simp only[mW,nM,au] at hk;rw[hk];exact aF _))
  have d24:J (v5.alloc (.cells C5.toArray 290)) q 24 ():=by have:=M6.blk.cell 24;rw[QQ.out] at this;exact this
  have f24:=M6.blk.frozen 24;rw[QQ.out] at f24
  go_upto_region 17 with fail
  obtain⟨gp,hgp⟩:=ex v5.heap.size;rw[<-hgp] at M6|-;obtain⟨u6,hu6⟩:=ex (v5.alloc (.cells C5.toArray 290));rw[<-hu6] at M6|-;obtain⟨v6,hv6⟩:=ex (u6.setCell ⟨q,24,none⟩ (O gp n n));rw[<-hv6];have N6:=jj (M6.mg (i:=24) (v:= .slice (some ⟨gp,0,none⟩) n n) (yL:= .pointer (some ⟨nH,0,none⟩)) (u20:= .pointer (some ⟨gv,0,none⟩)) (u21:= .pointer (some ⟨gg,0,none⟩)) (u22:= .pointer (some ⟨gd,0,none⟩)) (u23:= .pointer (some ⟨gm,0,none⟩)) (u24:= .slice (some ⟨gp,0,none⟩) n n) (u25:= .slice none 0 0) rfl);rw[show u6.setCell ⟨D.q,24,none⟩ (O gp n n)=v6 by rw[hv6,QQ.out]] at N6;clear hgp hu6 hv6 d24 f24 M6 c0;have c0:J v6 gc 0 (U f):=by have:=N6.cfg.cell 0;rw[GG.out] at this;exact this
  have M7:=jj (N6.more ((aC _ _).alloc (aF _) (.cells C11.toArray 292)) (oF v6.heap.size 292 C11.toArray lN) (c:=mW v6.heap.size 292 C11.toArray) (lQ.new _ _ _) (fun k hk=>by
   simp only[mW,nM,au] at hk;rw[hk];exact aF _))
  have d25:J (v6.alloc (.cells C11.toArray 292)) q 25 ():=by have:=M7.blk.cell 25;rw[QQ.out] at this;exact this
  have f25:=M7.blk.frozen 25;rw[QQ.out] at f25
  go_upto_region 18 with fail
  obtain⟨gb,hgb⟩:=ex v6.heap.size;rw[<-hgb] at M7|-;obtain⟨u7,hu7⟩:=ex (v6.alloc (.cells C11.toArray 292));rw[<-hu7] at M7|-;obtain⟨v7,hv7⟩:=ex (u7.setCell ⟨q,25,none⟩ (O gb k k));rw[<-hv7];have N7:=jj (M7.mg (i:=25) (v:= .slice (some ⟨gb,0,none⟩) k k) (yL:= .pointer (some ⟨nH,0,none⟩)) (u20:= .pointer (some ⟨gv,0,none⟩)) (u21:= .pointer (some ⟨gg,0,none⟩)) (u22:= .pointer (some ⟨gd,0,none⟩)) (u23:= .pointer (some ⟨gm,0,none⟩)) (u24:= .slice (some ⟨gp,0,none⟩) n n) (u25:= .slice (some ⟨gb,0,none⟩) k k) rfl);rw[show u7.setCell ⟨D.q,25,none⟩ (O gb k k)=v7 by rw[hv7,QQ.out]] at N7;clear hgb hu7 hv7 d25 f25 M7 c0
  go_wp2_with fail
  go_ret2
  have r:Ig:=⟨nH,gv,Iz,List.replicate n (false,0,0),gg,gd,SL,gm,Dl,List.replicate k (0,0),gp,C5,gb,C11⟩;have L:=LL.out;have l5:C5.length=n*5:=by rw[HC5.out,Di];rfl
  have l11:C11.length=k*11:=by rw[aiT.out,Di];rfl
  obtain⟨gr,xL,xK,hs,hge⟩:=pX.done (r:=⟨nH,gv,Iz,List.replicate n (false,0,0),gg,gd,SL,gm,Dl,List.replicate k (0,0),gp,C5,gb,C11⟩) N7 L.gs (by rw[L.l1];have:=HK.out;omega) (L.l2.trans L.l1.symm) (L.l3.trans L.l1.symm) l5 l11;refine⟨q,Ae D gr xL xK ⟨nH,gv,Iz,List.replicate n (false,0,0),gg,gd,SL,gm,Dl,List.replicate k (0,0),gp,C5,gb,C11⟩,by trivial,by rw[<-QQ.out];exact hs,by rw[<-QQ.out];exact hge,L.nn,XZ (by rw[L.l1];exact HK.out) (L.l2.trans L.l1.symm) (L.l3.trans L.l1.symm) L.ini (fC ..) (by rw[L.l1]) l5 (fun x hx=> ?_) (by rw[L.l1];exact aiT.out),N7.below⟩;replace hx:x∈C5:=hx;rw[HC5.out] at hx;have hx:=NK hx;simp only[ay,aI,bK] at hx;rcases hx with rfl|rfl|rfl|rfl|rfl<;>rfl
theorem ak3{gn:Nat}{ps:LI}{q g:Nat->Nat}{room:Int}{lost:Nat->Int}{ms:Nat->List (Value×List Int)}(h:Nt B w gn m ps q g room lost ms)(hg:B<=gn)(hq: ∀k,k<m*m->B<=q k/\B<=g k):
  ∃nd:uU,nd.n=m/\nd.ps=ps/\nd.lost=lost/\nd.ms=ms/\oD w gn room nd/\ ∀k∈nd.foot gn,B<=k:=by
 obtain⟨ap,cp,al,cl,ra,rc,h1,h2,h3,h4⟩:=h.ex;refine⟨⟨m,ps,ap,cp,al,cl,ra,rc,q,g,lost,ms⟩,rfl,rfl,rfl,rfl,⟨h1,mO h2 (bF _),mO h3 (bF _),fun a ha=>mO (h4 a ha) (bF _),h.qs⟩,fun k hk=> ?_⟩;have ge: ∀{t s n c:Nat} {a:OA} {xs:LV},w.ownsRow B t s (.slice a n c) n xs-> ∀k∈(a.map (·.block)).toList,B<=k:=fun ho k hk=>(dG ho k (by rw[lV];exact aJ.1 hk)).1;simp only[uU.foot,ay,aQ,bg,fE] at hk;rcases hk with rfl|hk|hk|⟨a,ha,hk⟩|⟨j,hj,hk⟩
 ·exact hg
 ·exact ge h2 k hk
 ·exact ge h3 k hk
 ·exact ge (h4 a ha) k hk
 simp only[aI,bK] at hk;rcases hk with rfl|rfl
 ·exact(hq j hj).1
 exact(hq j hj).2
theorem FM(f:Int)(n:Nat)(p:Option Ka): ∀(l:List (Option Ka)) (i:Nat),nW f n i (l++ [p])=nW f n i l++ [xR f n (i+l.length) p]
 | [],i=>by simp[nW]
 |q::l,i=>by
  have:=FM f n p l (i+1);rw[show i+1+l.length=i+(l.length+1) by omega] at this;simp[nW,this]
theorem Sys.grow{L:List ni}(h:Sys x w L)(hb:Be w w')(hP:c.P x w')(hg:c.Good)(hn: ∀k∈c.foot,w.heap.size<=k):Sys x w' (L++ [c]):=
 (h.below hb).add hP hg fun k hk hm=>by
  have:=h.lt k hm;have:=hn k hk;omega
def Ii(x B:Nat)(w:World)(L:List ni):Prop:=Sys x w L/\B<=w.heap.size/\ ∀k∈nE L,B<=k
theorem Ii.grow{L:List ni}(h:Ii x B w L)(hb:Be w w')(hP:c.P x w')(hg:c.Good)(hn: ∀k∈c.foot,w.heap.size<=k):Ii x B w' (L++ [c]):=
 ⟨h.1.grow hb hP hg hn,aG h.2.1 hb.size,fun k hk=>by
  rw[zU,aQ] at hk;rcases hk with hk|hk
  ·exact h.2.2 k hk
  exact aG h.2.1 (hn k (by simpa[nE] using hk))⟩
theorem Ii.step{L:List ni}(h:Ii x B w L)(s:Step x w w' L L'):Ii x B w' L':=
 ⟨s.sys,aG h.2.1 s.only.size,fun k hk=>(s.new k hk).elim (h.2.2 k) fun e=>aG h.2.1 e⟩
theorem Ii.perm{L:List ni}(h:Ii x B w L)(p:L.Perm L'):Ii x B w L':=
 ⟨h.1.perm p,h.2.1,fun k hk=>h.2.2 k ((LW p).2 hk)⟩
structure pI where
 bx:Nat
 nn:Nat
 b:Nat
 gc:Nat
 gn:Nat
 nd:uU
 fa:Option Addr
 fm:Nat
 fc:Nat
 fl:List Int
 na:Option Addr
 nc:Nat
 gx:List Value
 ka:Option Addr
 kc:Nat
 kp:List Value
 nodes:List (Option Ka)
def pI.cd(f:Int)(D:pI):ClD:=⟨f,D.fa,D.fm,D.fc,D.nn,D.gn,D.na,D.gx.length,D.nc,D.ka,D.kp.length,D.kc⟩
def pI.yG(D:pI):ni:=wG 52 1 D.na D.gx.length D.nc D.gx
def pI.wO(D:pI):ni:=wG 41 1 D.ka D.kp.length D.kc D.kp
def pI.OI(D:pI):ni:=wG 3 1 D.fa D.fm D.fc (D.fl.map fun y:Int=>Value.int .i64 y)
def pI.L(f:Int)(n:Nat)(D:pI)(R:List ni):List ni:=
 mW D.bx 24 (sW f)::tZ D.nn D.b []::mW D.gc 99 (Gq (D.cd f))::xS D.gn 64 D.nd::D.yG::D.wO::D.OI::(nW f n 0 D.nodes++R)
structure pV(x:Nat)(w wr:World)(f:Int)(n:Nat)(D:pI)(R:List ni):Prop where
 sys:Sys x wr (D.L f n R)
 below:Be w wr
 ge: ∀k∈nE (D.L f n R),w.heap.size<=k
section
variable{x n:Nat}{w wr w':World}{f:Int}{D:pI}{R:List ni}
theorem pV.keep(h:pV x w wr f n D R)(hb:Be wr w'):pV x w w' f n D R:=⟨h.sys.below hb,h.below.trans (hb.mono h.below.size),h.ge⟩
theorem pV.cfg(h:pV x w wr f n D R):lQ wr D.bx 24 (sW f):=h.sys.get (j:=0) (c:=mW D.bx 24 (sW f)) rfl
theorem pV.blk(h:pV x w wr f n D R):lQ wr D.gc 99 (Gq (D.cd f)):=h.sys.get (j:=2) (c:=mW D.gc 99 (Gq (D.cd f))) rfl
theorem pV.o4(h:pV x w wr f n D R):wr.ownsRow w.heap.size 52 1 (.slice D.na D.gx.length D.nc) D.gx.length D.gx:=Ap (h.sys.get (j:=4) (c:=D.yG) rfl) fun k hk=>h.ge k (pY (j:=4) (c:=D.yG) rfl hk)
theorem pV.o5(h:pV x w wr f n D R):wr.ownsRow w.heap.size 41 1 (.slice D.ka D.kp.length D.kc) D.kp.length D.kp:=Ap (h.sys.get (j:=5) (c:=D.wO) rfl) fun k hk=>h.ge k (pY (j:=5) (c:=D.wO) rfl hk)
theorem pV.q8(h:pV x w wr f n D R){t:TypeId}{A:OA}{d m':Nat}{xs ys:LV}(ho:wr.ownsRow w.heap.size t 1 (.slice A m d) m xs)(ht:t≠99)(hA:qQ wr w' w.heap.size t 1 A A' m' cap ys):lQ w' D.gc 99 (Gq (D.cd f)):=
 h.blk.only hA.only fun hm=>by
  obtain⟨_,cs,hc⟩:=lW ho _ hm;exact h.blk.nY hc (dR ht) rfl
theorem pV.node(h:pV x w wr f n D []){p:Option Ka}(hb:Be wr w')(hp: ∀q,p=some q->Sys x w' (sF f D.nodes.length n q.gx q.d)/\ ∀k∈nE (sF f D.nodes.length n q.gx q.d),wr.heap.size<=k):pV x w w' f n {D with nodes:=D.nodes++ [p]} []:=by
 have s:=(h.sys.below hb).add (c:=xR f n D.nodes.length p) (by
  cases p with
  |none=>exact Sys.nil _ _
  |some q=>exact(hp q rfl).1) (by
  cases p with
  |none=>exact BD lT
  |some q=>exact BD (hp q rfl).1.good) (fun k hk hm=>by
  cases p with
  |none=>simp[xR,uM,nE] at hk
  |some q=>
   have:=(hp q rfl).2 k hk;have:=h.sys.lt k hm;omega)
 have e:D.L f n []++ [xR f n D.nodes.length p]=({D with nodes:=D.nodes++ [p]}:pI).L f n []:=by
  simp only[pI.L,FM,aO,eG,List.cons_append];rfl
 rw[e] at s;refine⟨s,h.below.trans (hb.mono h.below.size),fun k hk=> ?_⟩;rw[<-e,zU,aQ] at hk;rcases hk with hk|hk
 ·exact h.ge k hk
 cases p with
 |none=>simp[xR,uM,nE] at hk
 |some q=>
  refine aG h.below.size ((hp q rfl).2 k ?_);simpa[nE,xR,uM] using hk
theorem pV.step{L:List ni}(s:Step x wr w' L L')(hb:Be w wr)(hge: ∀k∈nE L,w.heap.size<=k):Be w w'/\ ∀k∈nE L',w.heap.size<=k:=pX.step s hb hge
theorem pV.ajG(h:pV x w wr f n D R)(hA:qQ wr w' w.heap.size 52 1 D.na A' (D.gx.length+1) cap (D.gx++ [v])):
  pV x w (w'.setCell ⟨D.gc,18,none⟩ (.slice A' (D.gx.length+1) cap)) f n {D with gx:=D.gx++ [v],na:=A',nc:=cap} R:=by
 have s1:=h.sys.turn (j:=4) (c:=D.yG) (c':=({D with gx:=D.gx++ [v],na:=A',nc:=cap}:pI).yG) rfl hA.only (fun k hk=> .inl hk) (by
  show w'.ownsRow 0 _ _ _ _ _;simp only[av,List.length_cons,List.length_nil];exact mO hA.own (bF _)) (uJ _ _ _ _ _ _ lN) (fun k hk=>(hA.at_ k (aJ.1 hk)).imp (fun e=>aJ.2 e) fun e=>e)
 have b1:lQ w' D.gc 99 (Gq (D.cd f)):=s1.sys.get (j:=2) (c:=mW D.gc 99 (Gq (D.cd f))) rfl;have s2:=s1.turn (j:=2) (c:=mW D.gc 99 (Gq (D.cd f))) (c':=mW D.gc 99 (Gq (({D with gx:=D.gx++ [v],na:=A',nc:=cap}:pI).cd f))) rfl ((Only.refl [D.gc] w').setCell (p:=⟨D.gc,18,none⟩) (.inl lT) (.slice A' (D.gx.length+1) cap)) (fun k hk=> .inl hk) (by
  have:=b1.mg 18 (.slice A' (D.gx.length+1) cap);show lQ _ _ _ (Gq (({D with gx:=D.gx++ [v],na:=A',nc:=cap}:pI).cd f));simp only[pI.cd,av,List.length_cons,List.length_nil];exact this) (oF _ _ _ lN) (fun k hk=> .inl hk)
 have:=pV.step s2 h.below h.ge;exact⟨s2.sys,this.1,this.2⟩
theorem pV.an4(h:pV x w wr f n D R)(hA:qQ wr w' w.heap.size 41 1 D.ka A' (D.kp.length+1) cap (D.kp++ [v])):
  pV x w (w'.setCell ⟨D.gc,19,none⟩ (.slice A' (D.kp.length+1) cap)) f n {D with kp:=D.kp++ [v],ka:=A',kc:=cap} R:=by
 have s1:=h.sys.turn (j:=5) (c:=D.wO) (c':=({D with kp:=D.kp++ [v],ka:=A',kc:=cap}:pI).wO) rfl hA.only (fun k hk=> .inl hk) (by
  show w'.ownsRow 0 _ _ _ _ _;simp only[av,List.length_cons,List.length_nil];exact mO hA.own (bF _)) (uJ _ _ _ _ _ _ lN) (fun k hk=>(hA.at_ k (aJ.1 hk)).imp (fun e=>aJ.2 e) fun e=>e)
 have b1:lQ w' D.gc 99 (Gq (D.cd f)):=s1.sys.get (j:=2) (c:=mW D.gc 99 (Gq (D.cd f))) rfl;have s2:=s1.turn (j:=2) (c:=mW D.gc 99 (Gq (D.cd f))) (c':=mW D.gc 99 (Gq (({D with kp:=D.kp++ [v],ka:=A',kc:=cap}:pI).cd f))) rfl ((Only.refl [D.gc] w').setCell (p:=⟨D.gc,19,none⟩) (.inl lT) (.slice A' (D.kp.length+1) cap)) (fun k hk=> .inl hk) (by
  have:=b1.mg 19 (.slice A' (D.kp.length+1) cap);show lQ _ _ _ (Gq (({D with kp:=D.kp++ [v],ka:=A',kc:=cap}:pI).cd f));simp only[pI.cd,av,List.length_cons,List.length_nil];exact this) (oF _ _ _ lN) (fun k hk=> .inl hk)
 have:=pV.step s2 h.below h.ge;exact⟨s2.sys,this.1,this.2⟩
theorem pV.more(h:pV x w wr f n D R)(hb:Be wr w')(hg:c.Good)(hP:c.P x w')(hn: ∀k∈c.foot,wr.heap.size<=k):pV x w w' f n D (R++ [c]):=by
 have s:=(h.sys.below hb).add hP hg fun k hk hm=>by
  have:=h.sys.lt k hm;have:=hn k hk;omega
 have e:D.L f n R++ [c]=D.L f n (R++ [c]):=by
  simp only[pI.L,List.cons_append,bW]
 rw[e] at s;refine⟨s,h.below.trans (hb.mono h.below.size),fun k hk=> ?_⟩;rw[<-e,zU,aQ] at hk;rcases hk with hk|hk
 ·exact h.ge k hk
 refine aG h.below.size (hn k ?_);simpa[nE] using hk
end
structure Hw(f:Int)(n:Nat)(l:LI)(X:CV):Prop where
 K:X.K= []
 len:X.nodes.length=n
 nodes: ∀i,i<n->if(i:Int)∈l then X.nodes[i]?=some none else∃v,X.nodes[i]?=some (some v)/\vU f n v
 t0:X.t0=0
 ck:X.ck=⟨false,[],0,[],[],0⟩
 M: ∀k,X.M k= []
theorem pV.done {n:Nat} {wr:World} {f:Int} {D:pI} {g0 t0 g1 t1:Nat} (h:pV x w wr f n D [Gp f 0 g0 (Ip D.nn t0),Gp f 1 g1 (Ip D.nn t1)]) (h1:1<=f) (h4:f<=4) (hn:(n:Int)=3*f+1)
  (hgx:D.gx=D.nodes.map tY) (hl:D.nodes.length=n) (hkp:D.kp= [.pointer (some ⟨g0,0,none⟩),.pointer (some ⟨g1,0,none⟩)]) (hfm:D.fm=D.fl.length) (aoA:D.fl.length<=4096) (aoB: ∀z∈D.fl,z<100) (hnp:D.nd.n=n+2) (hps:D.nd.ps=pE n) (hms:D.nd.ms=fun _=> []) (hx:x<wr.heap.size)
  (hnd: ∀i,i<n->if(i:Int)∈D.fl then D.nodes[i]?=some none else∃p,D.nodes[i]?=some (some p)/\p.d.nn=D.nn/\vU f n p.d.val):
  ∃E:qb,mJ x wr E []/\E.C.gc=D.gc/\E.C.cd.f=f/\E.C.n=n/\Hw f n D.fl (E.val [])/\ ∀k∈E.nE [],w.heap.size<=k:=by
 have hs:=h.sys;have hge:=h.ge;unfold pI.L at hs hge;have hs1:=hs.tl;have e1:tZ D.nn D.b []::mW D.gc 99 (Gq (D.cd f))::xS D.gn 64 D.nd::D.yG::D.wO::D.OI::(nW f n 0 D.nodes++ [Gp f 0 g0 (Ip D.nn t0),Gp f 1 g1 (Ip D.nn t1)])=(tZ D.nn D.b []::mW D.gc 99 (Gq (D.cd f))::xS D.gn 64 D.nd::D.yG::D.wO::D.OI::(nW f n 0 D.nodes++ [Gp f 0 g0 (Ip D.nn t0)]))++ [Gp f 1 g1 (Ip D.nn t1)]:=by simp
 rw[e1] at hs1;obtain⟨sa,sb,sd⟩:=hs1.split;have sc:=sa.add (c:=uM []) (Sys.nil _ _) (BD lT) (fun k hk=>by simp[uM,nE] at hk);refine⟨⟨⟨n,D.gc,D.b,D.cd f,D.fl,D.nd,D.nodes,[Gp f 0 g0 (Ip D.nn t0),uM []],D.kp⟩,g0,Ip D.nn t0,g1,Ip D.nn t1⟩,⟨⟨?_,?_,?_⟩,?_,hx⟩,rfl,rfl,rfl,?_,?_⟩
 ·have e2:(tZ D.nn D.b []::mW D.gc 99 (Gq (D.cd f))::xS D.gn 64 D.nd::D.yG::D.wO::D.OI::(nW f n 0 D.nodes++ [Gp f 0 g0 (Ip D.nn t0)]))++ [uM []]=Eu.cs ⟨n,D.gc,D.b,D.cd f,D.fl,D.nd,D.nodes,[Gp f 0 g0 (Ip D.nn t0),uM []],D.kp⟩ []:=by
   unfold Eu.cs pI.yG pI.wO pI.OI;simp only[hgx,List.cons_append,bW,List.nil_append];simp[pI.cd,hgx]
  rw[e2] at sc;exact sc
 ·exact(sb.at_ (Gp f 1 g1 (Ip D.nn t1)) lT).1
 ·intro k hk hm
  refine sd k ?_ (by simpa[nE,Gp] using hk);unfold Eu.cs at hm;simp only[nE,bQ,bS,aQ,iM,eG] at hm|-;simp only[pI.yG,pI.wO,pI.OI];rcases hm with hm|hm|hm|hm|hm|hm|hm|hm|hm
  ·exact .inl hm
  ·exact .inr (.inl hm)
  ·exact .inr (.inr (.inl hm))
  ·exact .inr (.inr (.inr (.inl hm)))
  ·exact .inr (.inr (.inr (.inr (.inl hm))))
  ·exact .inr (.inr (.inr (.inr (.inr (.inl hm)))))
  ·exact .inr (.inr (.inr (.inr (.inr (.inr (.inl hm))))))
  ·exact .inr (.inr (.inr (.inr (.inr (.inr (.inr hm))))))
  simp[uM,nE] at hm
 ·refine⟨h1,h4,hn,rfl,hkp,by show D.gx.length=n;rw[hgx,aT,hl],hl,by show D.kp.length=2;rw[hkp];rfl,hfm,aoA,fun i hi=> ?_,aoB,fun i p hp=> ?_,rfl,rfl,hnp,hps,rfl,rfl,rfl,rfl⟩
  ·have:=hnd i hi
   show D.nodes[i]?=some none↔(i:Int)∈D.fl;split at this
   ·rename_i hm
    exact⟨fun _=>hm,fun _=>this⟩
   rename_i hm;obtain⟨p,hp,_⟩:=this;rw[hp];exact⟨fun e=>(by cases e),fun e=>absurd e hm⟩
  have hi:i<n:=by rw[<-hl];exact(ah.1 hp).1
  replace hp:D.nodes[i]?=some (some p):=hp;have:=hnd i hi;split at this
  ·rw[hp] at this
   cases this
  obtain⟨p',hp',h',_⟩:=this;rw[hp] at hp';injection hp' with e;injection e with e;rw[e];exact h'
 ·refine⟨rfl,by show(D.nodes.map _).length=n;rw[aT,hl],fun i hi=> ?_,rfl,rfl,fun k=>by show(D.nd.ms k).map _= [];rw[hms];rfl⟩
  have:=hnd i hi;show if(i:Int)∈D.fl then(D.nodes.map _)[i]?=some none else∃v,(D.nodes.map _)[i]?=some (some v)/\vU f n v;split
  ·rename_i hm
   rw[aV hm] at this;rw[aS,this];rfl
  rename_i hm;rw[aU hm] at this;obtain⟨p,hp,_,hi'⟩:=this;exact⟨p.d.val,by rw[aS,hp];rfl,hi'⟩
 intro k hk;refine hge k ?_;unfold qb.nE Eu.cs at hk;simp only[nE,bQ,bS,aQ,iM,eG] at hk|-;simp only[pI.yG,pI.wO,pI.OI];rcases hk with(hm|hm|hm|hm|hm|hm|hm|hm|hm)|hm
 ·exact .inr (.inl hm)
 ·exact .inr (.inr (.inl hm))
 ·exact .inr (.inr (.inr (.inl hm)))
 ·exact .inr (.inr (.inr (.inr (.inl (by rw[hgx];exact hm)))))
 ·exact .inr (.inr (.inr (.inr (.inr (.inl hm)))))
 ·exact .inr (.inr (.inr (.inr (.inr (.inr (.inl hm))))))
 ·exact .inr (.inr (.inr (.inr (.inr (.inr (.inr (.inl hm)))))))
 ·exact .inr (.inr (.inr (.inr (.inr (.inr (.inr (.inr (.inl hm))))))))
 ·simp[uM,nE] at hm
 exact .inr (.inr (.inr (.inr (.inr (.inr (.inr (.inr (.inr hm))))))))
theorem YA: ∀w:World,(sizeOf 3).run prog w= .ok 1 w:=fun w=>by simp only[sizeOf];kernel_rfl
theorem Ud:(prog.info? 52).map (fun i=>(i.zero,i.size,i.bytes))=some (some (.pointer none),1,8):=by kernel_rfl
theorem Oh:(prog.info? 41).map (fun i=>(i.zero,i.size,i.bytes))=some (some (.pointer none),1,8):=by kernel_rfl
def Ti(f:Int)(fa:OA)(m fc nn:Nat):Array Value:=#[U f,U 2,U 2,U 4,U 64,U 8,U 8,U 8,U 1,U 2,U 12,U 8,U 6,U 2,U 6,.slice fa m fc,nn,.pointer none,(),()]
structure UZ(x:Nat)(w wr:World)(f:Int)(n:Nat)(l:LI)(bx gc nn k:Nat)(D:pI):Prop where
 at_:pV x w wr f n D []
 gx:D.gx=D.nodes.map tY
 len:D.nodes.length=k
 YX:D.bx=bx
 Sm:D.gc=gc
 enn:D.nn=nn
 fl:D.fl=l
 fm:D.fm=l.length
 kp:D.kp= []
 np:D.nd.n=n+2
 ps:D.nd.ps=pE n
 ms:D.nd.ms=fun _=> []
 nd: ∀i,i<k->if(i:Int)∈l then D.nodes[i]?=some none else∃p,D.nodes[i]?=some (some p)/\p.d.nn=nn/\vU f n p.d.val
def ckL(f:Int)(nn:Nat):Nat->List (Nat×Nat)->List ni
 |_,[]=> []
 |i,p::r=>Gp f i p.1 (Ip nn p.2)::ckL f nn (i+1) r
theorem Vv(f:Int)(nn:Nat)(p:Nat×Nat): ∀(l:List (Nat×Nat)) (i:Nat),ckL f nn i (l++ [p])=ckL f nn i l++ [Gp f (i+l.length:Nat) p.1 (Ip nn p.2)]
 | [],i=>by simp[ckL]
 |q::l,i=>by
  have:=Vv f nn p l (i+1);rw[show i+1+l.length=i+(l.length+1) by omega] at this;simp only[List.cons_append,ckL,this,List.length_cons]
structure Sw(x:Nat)(w wr:World)(f:Int)(n:Nat)(l:LI)(bx gc nn j:Nat)(D:pI)(gs:List (Nat×Nat)):Prop where
 at_:pV x w wr f n D (ckL f nn 0 gs)
 gl:gs.length=j
 kp:D.kp=gs.map fun p=> .pointer (some ⟨p.1,0,none⟩)
 gx:D.gx=D.nodes.map tY
 len:D.nodes.length=n
 YX:D.bx=bx
 Sm:D.gc=gc
 enn:D.nn=nn
 fl:D.fl=l
 fm:D.fm=l.length
 np:D.nd.n=n+2
 ps:D.nd.ps=pE n
 ms:D.nd.ms=fun _=> []
 nd: ∀i,i<n->if(i:Int)∈l then D.nodes[i]?=some none else∃p,D.nodes[i]?=some (some p)/\p.d.nn=nn/\vU f n p.d.val
structure Zg(f:Int)(l:LI):Prop where
 p: ∀z∈l,0<=z/\z<=3*f
 nd:l.Nodup
 few:(l.length:Int)<=f
theorem agJ(w:World)(f:Int)(h1:1<=f)(h4:f<=4)(n:Nat)(hn:(n:Int)=3*f+1)(A:OA)(m c:Nat)(l:LI)(hl:l.length=m)(hcap:m<=c)(hr:mo w A m 1 (l.map fun y:Int=>Value.int .i64 y))(hB:Zg f l):
  Y 10 #[.agg (sW f),.slice A m c] w fun e w'=> ∃(x:Nat) (E:qb),e= .returned (.tuple #[E.C.gc,U 0])/\mJ x w' E []/\E.C.cd.f=f/\E.C.n=n/\Hw f n l (E.val [])/\(∀k∈E.nE [],w.heap.size<=k)/\Be w w':=by
 obtain⟨ii,hii,hi0,hi1,hi2⟩:=bq Bh;obtain⟨ip,hip,hp0,hp1,hp2⟩:=bq Ud;obtain⟨ic,hic,hc0,hc1,hc2⟩:=bq Oh;have m4:(m:Int)<=f:=by have:=hB.few;omega
 obtain⟨HB,HR,HL,HN⟩:=j4 hB hr hl hn;have n13:n<=13:=lK;clear hB hr hl hn;go_enter func10,ntmps10
 go_upto_region 1 with fail
 obtain⟨w1,hw1⟩:=ex (w.alloc (.cells (sW f) 24));obtain⟨bx,hbx⟩:=ex w.heap.size;rw[<-hw1,<-hbx];have K1:=xNew hw1 hbx;have B1:=tQ hw1;have GB:Hid (w.heap.size<=bx):=jj lK;clear hw1 hbx;have KEEP:Hid (∀u,Be w1 u->lQ u bx 24 (sW f)):=jj fun u hu=>K1.below hu K1.lt;obtain⟨c0,c1,c2,c3,c4,c5,c6,c7,c8,c9,c10,c11,c12,c13,c14⟩:=sZ K1
 go_wp2_with fail
 refine(qM.Hr _ _ _ _ _ _ _ _ _ _ _ _ _ _ _ _).mono ?_;rintro e w2 ⟨rfl,hb2⟩;rw[NG.xu f 64 h1 h4 lN];have B2:=jj hb2;clear hb2 c0 c1 c2 c3 c4 c5 c6 c7 c8 c9 c10 c11 c12 c13 c14 K1
 go_upto_block 0 with fail
 go_cut [6] (fun s wx=>s= U m/\Be w1 wx)
 case first=>
  go_wp2_with fail
  go_loopw [6,19] (fun s z wr=> ∃k:Nat,k<=m/\s= U k/\z= U k/\Be w1 wr) (fun _ z _=>m -(intOf z).toNat)
  case atStart=>exact⟨0,lK,by first|rfl|simp,by first|rfl|simp,B2⟩
  case round=>
   obtain⟨k,hk,rfl,rfl,hb⟩:=hrel;have BW:=jj hb;clear hb;by_cases hlt:k<m
   ·have i1:(k:Int)<m:=lK
    have i2:(0:Int)<=k:=lK;obtain⟨b,off,rfl,hb,hcell⟩:=(HR.below (B1.trans (BW.mono B1.size))).2 lK;obtain⟨y,hy⟩: ∃y,l[k]?=some y:=⟨_,aj (by rw[HL.out];exact hlt)⟩;have d0:J wr b (off+k) (U y):=hcell k _ (by rw[aS,hy];rfl);have yp:=HB.p y (ak hy);have av0:y<100:=lK;have NI:Hid ((false:Bool)=decide (y∈l.take k)):=jj (by
     refine(aR fun hm=> ?_).symm;obtain⟨j,hj⟩:=bT.1 hm;rw[iP] at hj;split at hj
     ·rename_i hjk
      have h1:=(ah.1 hj);have h2:=(ah.1 hy);obtain⟨h1,e1⟩:=h1;obtain⟨h2,e2⟩:=h2;have:=eO.1 HB.nd j k h1 h2 hjk;exact this (e1.trans e2.symm)
     cases hj)
    have PT:Hid (qM.wI f 2 y=true):=jj (qM.Fa f 2 y true (by simp;left;omega));have sl: ∀w:World,(Instr.slice 35 (.slice (some ⟨b,off,none⟩) m c) none (some (U k)) none).run prog w= .ok (.slice (some ⟨b,off,none⟩) k c) w:=ahT (P:=prog) 35 3 1 underlying35 (by kernel_rfl) YA (some ⟨b,off,none⟩) m c k hk hcap;obtain⟨c0,c1,c2,c3,c4,c5,c6,c7,c8,c9,c10,c11,c12,c13,c14⟩:=sZ (KEEP.out _ BW);clear hcell hb hy
    go_wp2_with fail
    refine(qM.Wm f 2 2 4 64 8 8 8 1 2 12 8 6 2 6 y _ h1 h4 lN lN).mono ?_;rintro e w3 ⟨rfl,hb3⟩;rw[PT.out];have B3:=nO BW hb3;clear hb3 d0 c0 c1 c2 c3 c4 c5 c6 c7 c8 c9 c10 c11 c12 c13 c14
    go_wp2_with fail
    refine(Vu _ (some ⟨b,off,none⟩) k c (l.take k) (by
     have:=(HR.below (B1.trans (B3.mono B1.size))).take (k:=k) lK;rw[fP] at this;rw[List.map_take];exact this) lK y false NI).mono ?_
    rintro e w4 ⟨rfl,rfl⟩
    go_wp2_with fail
    go_roundw
    case rel=>exact⟨k+1,lK,by go_num,by go_num,B3⟩
    simp[intOf];omega
   obtain rfl:k=m:=lK
   go_wp2_with fail
   go_meet;exact⟨by trivial,BW⟩
 case rest=>
  obtain⟨rfl,hbc⟩:=hcut;have BC:=jj hbc;clear hbc B2;have c0:J wc bx 0 (U f):=(KEEP.out _ BC).cell 0;have i1: ¬f<(m:Int):=lK
  go_upto_region 14 with fail
  clear c0;have KS:=sZ (KEEP.out wc.drew BC.drew);unfold uR at KS;refine rP (fun u=>J u bx 0 (U f)/\J u bx 1 (U 2)/\J u bx 2 (U 2)/\J u bx 3 (U 4)/\J u bx 4 (U 64)/\J u bx 5 (U 8)/\J u bx 6 (U 8)/\J u bx 7 (U 8)/\J u bx 8 (U 1)/\J u bx 9 (U 2)/\J u bx 10 (U 12)/\J u bx 11 (U 8)/\J u bx 12 (U 6)/\J u bx 13 (U 2)/\J u bx 14 (U 6)) 7 (.take 0 (.take 1 (.one 2 (.one 3 (.take 4 (.one 5 (.take 6 .done))))))) KS ?_;intro hS0;obtain⟨w3,hw3⟩:=ex wc.drew;have B3:Hid (Be w1 w3):=jj (by rw[hw3];exact BC.drew);rw[<-hw3] at hS0|-;clear hw3 KS
  repeat refine' tT ?_
  refine pO fun KT lS=> ?_;refine oo (by rfl) _ _ _ (by rfl) w3.heap.size 3 ii _ 1 8 underlying35 hii hi0 hi1 hi2 rfl lK none 0 0 [] (by rfl) ⟨rfl,.inl ⟨rfl,rfl⟩⟩ A m c (l.map fun y:Int=>Value.int .i64 y) (by rfl) (HR.below (B1.trans (B3.mono B1.size))) (fun u hu=>by obtain⟨y,_,rfl⟩:=bM.1 hu;rfl) (by unfold maxLen;omega) lK (aF _) ?_;intro fa fc w4 FD;have A4:=jj FD;rw[aO,List.nil_append] at A4;have L4:Hid (Be w3 w4):=jj FD.only.mY;have B4:Hid (Be w1 w4):=jj (B3.trans (L4.mono B3.size));clear FD;rw[aO];have S4:=sZ (KEEP.out _ B4);unfold uR at S4;refine oH lS S4 ?_;clear hS0;have hS0:=S4
  repeat refine' tT ?_
  refine pO fun KT lS=> ?_;go_simp;refine(abg w4).mono ?_;rintro e w5 ⟨nn,b,rfl,hN5,hn5,aki,hb5⟩;have N5:=jj hN5;have GN5:=jj (dH hn5 aki);have L5:=jj hb5;have B5:=nO B4 hb5;clear hN5 hn5 aki hb5;have S5:=sZ (KEEP.out _ B5);unfold uR at S5;refine oH lS S5 ?_;clear hS0 S4;have hS0:=S5
  repeat refine' tT ?_
  refine pO fun KT lS=> ?_;go_simp;obtain⟨w6,zN⟩:=ex (w5.alloc (.cells (Ti f fa m fc nn) 99));obtain⟨gc,hgc⟩:=ex w5.heap.size;have ahc:=zN;simp only[Ti] at ahc;rw[<-ahc,<-hgc];have X6:=xNew zN hgc;have GG:Hid (w5.heap.size<=gc):=jj lK;have L6:=tQ zN;have B6:Hid (Be w1 w6):=jj (B5.trans (L6.mono B5.size));clear zN ahc hgc;have S6:=sZ (KEEP.out _ B6);unfold uR at S6;refine oH lS S6 ?_;clear hS0 S5;have hS0:=S6
  repeat refine' tT ?_
  refine lM ?_;clear hS0;have S6s:Hid (Ii bx w.heap.size w6 ([mW bx 24 (sW f)]++ [wG 3 1 fa m fc (l.map fun y:Int=>Value.int .i64 y)]++ [tZ nn b []]++ [mW gc 99 (Ti f fa m fc nn)])):=jj (by
   have s3:Ii bx w.heap.size w3 [mW bx 24 (sW f)]:=⟨(Sys.nil bx w3).add (c:=mW bx 24 (sW f)) (KEEP.out _ B3) (oF _ _ _ lN) (fun k hk=>by simp[nE]),aG B1.size B3.size,fun k hk=>by
    simp[nE,mW,nM] at hk;rw[hk];exact GB.out⟩
   have s4:=s3.grow L4 (c:=wG 3 1 fa m fc (l.map fun y:Int=>Value.int .i64 y)) (mO A4.own (bF _)) (uJ _ _ _ _ _ _ lN) (fun k hk=>(A4.at_ k (aJ.1 hk)).elim (fun e=>by simp at e) fun e=>e);have s5:=s4.grow L5 (c:=tZ nn b []) N5 (EX _ _ _) (fun k hk=>by
    simp only[tZ,nM,ay,aI,bK] at hk;rcases hk with rfl|rfl
    ·exact GN5.1
    exact GN5.2)
   exact s5.grow L6 (c:=mW gc 99 (Ti f fa m fc nn)) X6 (oF _ _ _ lN) (fun k hk=>by
    simp only[mW,nM,au] at hk;rw[hk];exact GG.out))
  obtain⟨c0,c1,c2,c3,c4,c5,c6,c7,c8,c9,c10,c11,c12,c13,c14⟩:=S6
  go_wp2_with fail
  refine(NG.ahw f 64 h1 h4 n HN (n+2) rfl lN _).mono ?_;rintro e w7 ⟨gn,qq,gg,rfl,hN7,hb7,hgn,hqg⟩;obtain⟨nd,hd1,hd2,hd3,hd4,hd5,hd6⟩:=ak3 hN7 hgn hqg;have ND:=jj (dH hd1 (dH hd2 hd4));have S7s:=jj (S6s.grow hb7 (c:=xS gn 64 nd) hd5 (ME _ _ _) hd6);have B7:=nO B6 hb7;have X7:Hid (lQ w7 gc 99 (Ti f fa m fc nn)):=jj (X6.below hb7 X6.lt);have L7:=jj hb7;clear hN7 hb7 hgn hqg hd1 hd2 hd3 hd4 hd5 hd6 c0 c1 c2 c3 c4 c5 c6 c7 c8 c9 c10 c11 c12 c13 c14;have d17:=X7.at_ 17;have f17:=X7.frozen 17
  go_upto_region 16 with fail
  clear d17 f17;obtain⟨w8,hw8⟩:=ex (w7.setCell ⟨gc,17,none⟩ gn);rw[<-hw8];obtain⟨D0,hD0⟩: ∃D:pI,D=⟨bx,nn,b,gc,gn,nd,fa,m,fc,l,none,0,[],none,0,[],[]⟩:=⟨_,rfl⟩;have ML:Hid (UZ bx w w8 f n l bx gc nn 0 D0):=jj (by
   have t8:=S7s.1.turn (j:=3) (c:=mW gc 99 (Ti f fa m fc nn)) (c':=mW gc 99 (Gq (D0.cd f))) rfl ((Only.refl [gc] w7).setCell (p:=⟨gc,17,none⟩) (.inl lT) gn) (fun k hk=> .inl hk) (by
    show lQ _ _ _ _;have:=X7.mg 17 gn;rw[hD0];exact this) (oF _ _ _ lN) (fun k hk=> .inl hk)
   rw[<-hw8] at t8;have g8:=S7s.step t8;have s9:=(g8.grow (aC _ _) (c:=D0.yG) (by rw[hD0];exact⟨rfl,.inl ⟨rfl,rfl⟩⟩) (uJ _ _ _ _ _ _ lN) (fun k hk=>by rw[hD0] at hk;simp[pI.yG,wG,nM] at hk)).grow (aC _ _) (c:=D0.wO) (by rw[hD0];exact⟨rfl,.inl ⟨rfl,rfl⟩⟩) (uJ _ _ _ _ _ _ lN) (fun k hk=>by rw[hD0] at hk;simp[pI.wO,wG,nM] at hk);have eL:D0.L f n []= [mW bx 24 (sW f),tZ nn b [],mW gc 99 (Gq (D0.cd f)),xS gn 64 nd,D0.yG,D0.wO,wG 3 1 fa m fc (l.map fun y:Int=>Value.int .i64 y)]:=by rw[hD0];rfl
   have p:List.Perm (([mW bx 24 (sW f)]++ [wG 3 1 fa m fc (l.map fun y:Int=>Value.int .i64 y)]++ [tZ nn b []]++ [mW gc 99 (Ti f fa m fc nn)]++ [xS gn 64 nd]).set 3 (mW gc 99 (Gq (D0.cd f)))++ [D0.yG]++ [D0.wO]) (D0.L f n []):=by
    rw[eL];refine kV _ ?_;exact(jM (wG 3 1 fa m fc (l.map fun y:Int=>Value.int .i64 y)) [tZ nn b [],mW gc 99 (Gq (D0.cd f)),xS gn 64 nd,D0.yG,D0.wO]).symm
   have b8:Be w w8:=by
    have:=B1.trans (B7.mono B1.size);rw[hw8];exact this.setCell (p:=⟨gc,17,none⟩) (by have:=GG.out;have:=B1.size;have:=B5.size;show w.heap.size<=gc;omega) _
   refine⟨⟨(s9.perm p).1,b8,(s9.perm p).2.2⟩,by rw[hD0];rfl,by rw[hD0];rfl,by rw[hD0],by rw[hD0],by rw[hD0],by rw[hD0],by rw[hD0];exact HL.symm,by rw[hD0],by rw[hD0];exact ND.1,by rw[hD0];exact ND.2.1,by rw[hD0];exact ND.2.2,fun i hi=>absurd hi lK⟩)
  go_wp2_with fail
  go_loopw [10] (fun z wr=> ∃k:Nat,k<=n/\z= U k/\ ∃D,UZ bx w wr f n l bx gc nn k D) (fun z _=>n -(intOf z).toNat)
  case atStart=>exact⟨0,lK,by first|rfl|simp,D0,ML⟩
  case round=>
   obtain⟨k,hk,rfl,D,hL⟩:=hrel;have LL:=jj hL;clear hL;have c0:J wr bx 0 (U f):=by have:=LL.at_.cfg.cell 0;rw[LL.YX] at this;exact this
   go_wp2_with fail
   refine(oC f _ lK lK).mono ?_;rintro e w9 ⟨rfl,rfl⟩;rw[<-HN.out];clear c0;by_cases hlt:k<n
   ·have i1:(k:Int)<n:=lK
    obtain⟨tb,htb⟩:=ex (decide ((k:Int)∈l));have HTB:=jj htb;clear htb
    go_wp2_with fail
    refine(Vu _ A m c l (HR.below LL.at_.below) lK k tb HTB).mono ?_;rintro e w9 ⟨rfl,rfl⟩;cases tb
    ·have hnm: ¬(k:Int)∈l:=iR HTB.symm
     have HNM:=jj hnm;clear hnm HTB
     go_upto_region 21 with fail
     have KS:=sZ (by have:=LL.at_.cfg.drew;rw[LL.YX] at this;exact this:lQ wr.drew bx 24 (sW f));unfold uR at KS;have KN:Hid (∀u,Be wr u->J u gc 16 nn):=jj fun u hu=>by
      have:=(LL.at_.keep hu).blk.cell 16;rw[LL.Sm] at this;rw[this,<-LL.enn];rfl
     have KG:Hid (∀u,Be wr u->lQ u bx 24 (sW f)):=jj fun u hu=>by have:=(LL.at_.keep hu).cfg;rw[LL.YX] at this;exact this
     have KS2:=dH (KN.out wr.drew (aC _ _).drew) KS;refine rD (fun u=>J u gc 16 nn/\J u bx 0 (U f)/\J u bx 1 (U 2)/\J u bx 2 (U 2)/\J u bx 3 (U 4)/\J u bx 4 (U 64)/\J u bx 5 (U 8)/\J u bx 6 (U 8)/\J u bx 7 (U 8)/\J u bx 8 (U 1)/\J u bx 9 (U 2)/\J u bx 10 (U 12)/\J u bx 11 (U 8)/\J u bx 12 (U 6)/\J u bx 13 (U 2)/\J u bx 14 (U 6)) 11 (tk 0 6 (.one 6 (tk 7 4 .done))) KS2 fun w3' B3' hS0=> ?_;clear KS KS2
     repeat refine' tT ?_
     refine pO fun KT lS=> ?_;go_simp;refine(ahx bx f h1 h4 n HN k lK nn w3').mono ?_;rintro e w5' ⟨q,d,rfl,hs5,Ob,akE,akw,hb5⟩;have B5':=nO B3' hb5;obtain⟨P,hP⟩: ∃P:Option Ka,P=some ⟨q,d⟩:=⟨_,rfl⟩;have A5:=jj (LL.at_.node (p:=P) B5' (fun q' hq'=>by
      rw[hP] at hq';injection hq' with hq';subst hq';rw[LL.len];exact⟨hs5,fun k hk=>aG B3'.size (Ob k hk)⟩))
     have HPK:if(k:Int)∈l then [P][0]?=some none else∃p,[P][0]?=some (some p)/\p.d.nn=nn/\vU f n p.d.val:=by
      rw[aU HNM.out,hP];exact⟨⟨q,d⟩,rfl,akE,akw⟩
     clear hs5 Ob akE akw hb5;have S5:=dH (KN.out _ B5') (sZ (KG.out _ B5'));unfold uR at S5;refine oH lS S5 ?_;clear hS0;have hS0:=S5
     repeat refine' tT ?_
     refine lM ?_;clear hS0 S5 KN KG;have GL:Hid (D.gx.length=k):=jj (by rw[LL.gx,aT,LL.len]);have d18:J w5' gc 18 (.slice D.na k D.nc):=by
      have:=A5.blk.cell 18;rw[show({D with nodes:=D.nodes++ [P]}:pI).gc=gc from LL.Sm] at this;rw[this,<-GL.out];rfl
     have O5:=jj A5.o4;rw[show({D with nodes:=D.nodes++ [P]}:pI).gx=D.gx from rfl,GL.out] at O5;have SZ:=jj A5.below.size;have QQ:Hid (({D with nodes:=D.nodes++ [P]}:pI).gc=gc):=jj LL.Sm
     go_wp2_with(at_builtin;refine lZ rfl (.tmp 83) (.tmp 85) _ rfl w.heap.size 52 ip _ 1 8 underlying96 hip hp0 hp1 hp2 rfl lK D.na k D.nc D.gx rfl (dM O5 _) (some ⟨w5'.heap.size,0,none⟩) 1 1 [q] rfl (qC _ _ _) (by simp[Value.oneCell']) (by unfold maxLen;omega) lK (by have:=SZ.out;simp;omega) ?_;intro a8 c8 w8 h8;have A6:=A5.keep ((aC _ _).alloc (aF _) (.cells #[q] 52));have Q8:=A6.q8 A6.o4 lN (by rw[<-GL.out] at h8;exact h8);rw[QQ.out] at Q8;have d8:J w8 gc 18 (.slice D.na D.gx.length D.nc):=Q8.cell 18;have f8:=Q8.frozen 18;have P8:=jj (A6.ajG (v:= .pointer (some ⟨q,0,none⟩)) (cap:=c8) (A':=a8) (by rw[<-GL.out] at h8;exact h8));clear A6 Q8 h8)
     obtain⟨v9,CR⟩:=ex (w8.setCell ⟨gc,18,none⟩ (.slice a8 (k+1) c8));rw[<-CR];have P9:=P8.out;rw[show w8.setCell ⟨({D with nodes:=D.nodes++ [P]}:pI).gc,18,none⟩ (.slice a8 (({D with nodes:=D.nodes++ [P]}:pI).gx.length+1) c8)=v9 by rw[CR,QQ.out,show({D with nodes:=D.nodes++ [P]}:pI).gx=D.gx from rfl,GL.out]] at P9;have LF:Hid (UZ bx w v9 f n l bx gc nn (k+1) {D with nodes:=D.nodes++ [P],gx:=D.gx++ [.pointer (some ⟨q,0,none⟩)],na:=a8,nc:=c8}):=jj (by
      have L:=LL.out;refine⟨P9,?_,?_,L.YX,L.Sm,L.enn,L.fl,L.fm,L.kp,L.np,L.ps,L.ms,fun i hi=> ?_⟩
      ·show D.gx++ [.pointer (some ⟨q,0,none⟩)]=(D.nodes++ [P]).map tY
       rw[L.gx,bR,hP];rfl
      ·show(D.nodes++ [P]).length=k+1
       rw[av,L.len];rfl
      show if(i:Int)∈l then(D.nodes++ [P])[i]?=some none else∃p,(D.nodes++ [P])[i]?=some (some p)/\p.d.nn=nn/\vU f n p.d.val;by_cases e:i=k
      ·subst e
       rw[bN (by rw[L.len];exact aF _),L.len,fJ];exact HPK
      have:=L.nd i lK;rw[bC (by rw[L.len];omega)];exact this)
     clear P9 CR d8 f8 P8 d18 O5
     go_wp2_with fail
     go_roundw
     case rel=>exact⟨k+1,lK,by go_num,_,LF⟩
     simp[intOf];omega
    have hm:(k:Int)∈l:=eU HTB.symm;have HM:=jj hm;clear hm HTB;obtain⟨P,hP⟩: ∃P:Option Ka,P=none:=⟨_,rfl⟩;have A5:=jj (LL.at_.node (p:=P) (aC _ _) (fun q' hq'=>by
     rw[hP] at hq';cases hq'))
    have HPK:if(k:Int)∈l then [P][0]?=some none else∃p,[P][0]?=some (some p)/\p.d.nn=nn/\vU f n p.d.val:=by
     rw[aV HM.out,hP];rfl
    have GL:Hid (D.gx.length=k):=jj (by rw[LL.gx,aT,LL.len]);have d18:J wr gc 18 (.slice D.na k D.nc):=by
     have:=A5.blk.cell 18;rw[show({D with nodes:=D.nodes++ [P]}:pI).gc=gc from LL.Sm] at this;rw[this,<-GL.out];rfl
    have O5:=jj A5.o4;rw[show({D with nodes:=D.nodes++ [P]}:pI).gx=D.gx from rfl,GL.out] at O5;have SZ:=jj A5.below.size;have QQ:Hid (({D with nodes:=D.nodes++ [P]}:pI).gc=gc):=jj LL.Sm
    go_wp2_with(at_builtin;refine lZ rfl (.tmp 83) (.tmp 85) _ rfl w.heap.size 52 ip _ 1 8 underlying96 hip hp0 hp1 hp2 rfl lK D.na k D.nc D.gx rfl (dM O5 _) (some ⟨wr.heap.size,0,none⟩) 1 1 [.pointer none] rfl (qC _ _ _) (by simp[Value.oneCell']) (by unfold maxLen;omega) lK (by have:=SZ.out;simp;omega) ?_;intro a8 c8 w8 h8;have A6:=A5.keep ((aC _ _).alloc (aF _) (.cells #[.pointer none] 52));have Q8:=A6.q8 A6.o4 lN (by rw[<-GL.out] at h8;exact h8);rw[QQ.out] at Q8;have d8:J w8 gc 18 (.slice D.na D.gx.length D.nc):=Q8.cell 18;have f8:=Q8.frozen 18;have P8:=jj (A6.ajG (v:= .pointer none) (cap:=c8) (A':=a8) (by rw[<-GL.out] at h8;exact h8));clear A6 Q8 h8)
    obtain⟨v9,CR⟩:=ex (w8.setCell ⟨gc,18,none⟩ (.slice a8 (k+1) c8));rw[<-CR];have P9:=P8.out;rw[show w8.setCell ⟨({D with nodes:=D.nodes++ [P]}:pI).gc,18,none⟩ (.slice a8 (({D with nodes:=D.nodes++ [P]}:pI).gx.length+1) c8)=v9 by rw[CR,QQ.out,show({D with nodes:=D.nodes++ [P]}:pI).gx=D.gx from rfl,GL.out]] at P9;have LF:Hid (UZ bx w v9 f n l bx gc nn (k+1) {D with nodes:=D.nodes++ [P],gx:=D.gx++ [.pointer none],na:=a8,nc:=c8}):=jj (by
     have L:=LL.out;refine⟨P9,?_,?_,L.YX,L.Sm,L.enn,L.fl,L.fm,L.kp,L.np,L.ps,L.ms,fun i hi=> ?_⟩
     ·show D.gx++ [.pointer none]=(D.nodes++ [P]).map tY
      rw[L.gx,bR,hP];rfl
     ·show(D.nodes++ [P]).length=k+1
      rw[av,L.len];rfl
     show if(i:Int)∈l then(D.nodes++ [P])[i]?=some none else∃p,(D.nodes++ [P])[i]?=some (some p)/\p.d.nn=nn/\vU f n p.d.val;by_cases e:i=k
     ·subst e
      rw[bN (by rw[L.len];exact aF _),L.len,fJ];exact HPK
     have:=L.nd i lK;rw[bC (by rw[L.len];omega)];exact this)
    clear P9 CR d8 f8 P8 d18 O5
    go_wp2_with fail
    go_roundw
    case rel=>exact⟨k+1,lK,by go_num,_,LF⟩
    simp[intOf];omega
   obtain rfl:k=n:=lK;have KL:Hid (Sw bx w wr f k l bx gc nn 0 D []):=jj (by
    have L:=LL.out;exact⟨L.at_,rfl,L.kp,L.gx,L.len,L.YX,L.Sm,L.enn,L.fl,L.fm,L.np,L.ps,L.ms,L.nd⟩)
   clear LL ML
   go_wp2_with fail
   go_loopw [12] (fun z wr=> ∃j:Nat,j<=2/\z= U j/\ ∃D gs,Sw bx w wr f k l bx gc nn j D gs) (fun z _=>2 -(intOf z).toNat)
   case atStart=>exact⟨0,lK,by first|rfl|simp,D,[],KL⟩
   case round=>
    obtain⟨j,hj,rfl,D,gs,hL⟩:=hrel;have LL:=jj hL;clear hL;have c1:J wr bx 1 (U 2):=by have:=LL.at_.cfg.cell 1;rw[LL.YX] at this;exact this
    by_cases hlt:j<2
    ·have i1:(j:Int)<2:=lK
     have e1:IntKind.i64.wrap (100+(j:Int))=100+j:=aH _ lK;have NI:Hid ((false:Bool)=decide (100+(j:Int)∈l)):=jj (aR fun hm=>by have:=HB.p _ hm;omega).symm
     go_wp2_with fail
     refine(Vu _ A m c l (HR.below LL.at_.below) lK (100+j) false NI).mono ?_;rintro e w9 ⟨rfl,rfl⟩;clear c1
     go_upto_region 28 with fail
     have KS:=sZ (by have:=LL.at_.cfg.drew;rw[LL.YX] at this;exact this:lQ wr.drew bx 24 (sW f));unfold uR at KS;have KN:Hid (∀u,Be wr u->J u gc 16 nn):=jj fun u hu=>by
      have:=(LL.at_.keep hu).blk.cell 16;rw[LL.Sm] at this;rw[this,<-LL.enn];rfl
     have KG:Hid (∀u,Be wr u->lQ u bx 24 (sW f)):=jj fun u hu=>by have:=(LL.at_.keep hu).cfg;rw[LL.YX] at this;exact this
     have KS2:=dH (KN.out wr.drew (aC _ _).drew) KS;refine rD (fun u=>J u gc 16 nn/\J u bx 0 (U f)/\J u bx 1 (U 2)/\J u bx 2 (U 2)/\J u bx 3 (U 4)/\J u bx 4 (U 64)/\J u bx 5 (U 8)/\J u bx 6 (U 8)/\J u bx 7 (U 8)/\J u bx 8 (U 1)/\J u bx 9 (U 2)/\J u bx 10 (U 12)/\J u bx 11 (U 8)/\J u bx 12 (U 6)/\J u bx 13 (U 2)/\J u bx 14 (U 6)) 11 (tk 0 6 (.one 6 (tk 7 4 .done))) KS2 fun w3' B3' hS0=> ?_;clear KS KS2
     repeat refine' tT ?_
     refine pO fun KT lS=> ?_;go_simp;refine(ahl bx f h1 h4 j lK nn w3').mono ?_;rintro e w5' ⟨q,t,rfl,hk5,qP,hgt,hb5⟩;have B5':=nO B3' hb5;have A5:=jj (LL.at_.more B5' (c:=Gp f j q (Ip nn t)) (Qd _ _ _ _) ⟨hk5,rfl⟩ (fun k hk=>by
      simp[Gp,sI.foot,Ip] at hk;have:=B3'.size;rcases hk with rfl|rfl<;>omega))
     have eA:ckL f nn 0 gs++ [Gp f j q (Ip nn t)]=ckL f nn 0 (gs++ [(q,t)]):=by rw[Vv,aO,LL.gl]
     rw[eA] at A5;clear hk5 qP hgt hb5 eA;have S5:=dH (KN.out _ B5') (sZ (KG.out _ B5'));unfold uR at S5;refine oH lS S5 ?_;clear hS0;have hS0:=S5
     repeat refine' tT ?_
     refine lM ?_;clear hS0 S5 KN KG;have GL:Hid (D.kp.length=j):=jj (by rw[LL.kp,aT,LL.gl]);have d19:J w5' gc 19 (.slice D.ka j D.kc):=by
      have:=A5.blk.cell 19;rw[LL.Sm] at this;rw[this,<-GL.out];rfl
     have O5:=jj A5.o5;rw[GL.out] at O5;have SZ:=jj A5.below.size;have QQ:Hid (D.gc=gc):=jj LL.Sm
     go_wp2_with(at_builtin;refine lZ rfl (.tmp 114) (.tmp 116) _ rfl w.heap.size 41 ic _ 1 8 underlying97 hic hc0 hc1 hc2 rfl lK D.ka j D.kc D.kp rfl (dM O5 _) (some ⟨w5'.heap.size,0,none⟩) 1 1 [q] rfl (qC _ _ _) (by simp[Value.oneCell']) (by unfold maxLen;omega) lK (by have:=SZ.out;simp;omega) ?_;intro a8 c8 w8 h8;have A6:=A5.keep ((aC _ _).alloc (aF _) (.cells #[q] 41));have Q8:=A6.q8 A6.o5 lN (by rw[<-GL.out] at h8;exact h8);rw[QQ.out] at Q8;have d8:J w8 gc 19 (.slice D.ka D.kp.length D.kc):=Q8.cell 19;have f8:=Q8.frozen 19;have P8:=jj (A6.an4 (v:= .pointer (some ⟨q,0,none⟩)) (cap:=c8) (A':=a8) (by rw[<-GL.out] at h8;exact h8));clear A6 Q8 h8)
     obtain⟨v9,CR⟩:=ex (w8.setCell ⟨gc,19,none⟩ (.slice a8 (j+1) c8));rw[<-CR];have P9:=P8.out;rw[show w8.setCell ⟨D.gc,19,none⟩ (.slice a8 (D.kp.length+1) c8)=v9 by rw[CR,QQ.out,GL.out]] at P9;have LF:Hid (Sw bx w v9 f k l bx gc nn (j+1) {D with kp:=D.kp++ [.pointer (some ⟨q,0,none⟩)],ka:=a8,kc:=c8} (gs++ [(q,t)])):=jj (by
      have L:=LL.out;exact⟨P9,by rw[av,L.gl];rfl,by rw[bR,<-L.kp];rfl,L.gx,L.len,L.YX,L.Sm,L.enn,L.fl,L.fm,L.np,L.ps,L.ms,L.nd⟩)
     clear P9 CR d8 f8 P8 d19 O5
     go_wp2_with fail
     go_roundw
     case rel=>exact⟨j+1,lK,by go_num,_,_,LF⟩
     simp[intOf];omega
    obtain rfl:j=2:=lK
    go_wp2_with fail
    go_ret2
    have L:=LL.out;obtain⟨⟨g0,t0⟩,⟨g1,t1⟩,rfl⟩: ∃p q,gs= [p,q]:=by
     match gs,L.gl with
     | [p,q],_=>exact⟨p,q,rfl⟩
    have A9:pV bx w wr f k D [Gp f 0 g0 (Ip D.nn t0),Gp f 1 g1 (Ip D.nn t1)]:=by rw[L.enn];exact L.at_
    have xl:bx<wr.heap.size:=by have:=L.at_.cfg.lt;rw[L.YX] at this;exact this
    obtain⟨E,hE,e1,e2,e3,e4,e5⟩:=A9.done h1 h4 HN L.gx L.len L.kp (by rw[L.fm,L.fl]) (by rw[L.fl];have:=HB.few;omega) (by rw[L.fl];intro z hz;have:=HB.p z hz;omega) L.np L.ps L.ms xl (by rw[L.fl,L.enn];exact L.nd);refine⟨bx,E,by rw[e1,L.Sm];first|rfl|trivial,hE,e2,e3,by rw[<-L.fl];exact e4,e5,L.at_.below⟩
def Nl(w:World)(f:Int)(n gc:Nat)(X:CV)(F:LN):Prop:= ∃x D,mJ x w D X.K/\D.val X.K=X/\D.C.cd.f=f/\D.C.n=n/\D.C.gc=gc/\D.nE X.K=F
def Fro(w:World)(F F':LN):Prop:= ∀k∈F',k∈F\/w.heap.size<=k
section
variable{w w':World}{f:Int}{n gc:Nat}{X X':CV}{F S:LN}
theorem Nl.lt(h:Nl w f n gc X F): ∀k∈F,k<w.heap.size:=by
 obtain⟨x,D,h1,h2,h3,h4,h5,rfl⟩:=h;exact h1.lt
theorem mJ.only{D:qb}{K:KS}(h:mJ x w D K)(ho:Only S w w')(hS: ∀g∈S,nV x w g)(hC:Nr w S)(hn: ∀k∈D.nE K,k∉S):mJ x w' D K:=
 ⟨⟨h.BJ.sys.only ho hS hC fun k hk=>hn k (bL _ hk),h.BJ.ck.only ho hS fun k hk=>hn k (bH _ hk),h.BJ.far⟩,h.fx,aB h.xlt ho.size⟩
theorem Nl.only(h:Nl w f n gc X F)(ho:Only S w w')(hS: ∀g∈S,∃t cs,lQ w g t cs/\t∉KH/\t≠228)(hn: ∀k∈F,k∉S):Nl w' f n gc X F:=by
 obtain⟨x,D,h1,h2,h3,h4,h5,h6⟩:=h;refine⟨x,D,h1.only ho (fun g hg=> ?_) (fun g hg cs hb=> ?_) (by rw[h6];exact hn),h2,h3,h4,h5,h6⟩
 ·obtain⟨t,cs,h7,h8,h9⟩:=hS g hg
  exact nV.of h7 h8
 obtain⟨t,cs',h7,h8,h9⟩:=hS g hg;exact h9 (sN h7 hb).symm
theorem Nl.below(h:Nl w f n gc X F)(hb:Be w w'):Nl w' f n gc X F:=h.only (Only.of_below (S:= []) hb) lT lT
theorem aac(w:World)(f:Int)(h1:1<=f)(h4:f<=4)(n:Nat)(hn:(n:Int)=3*f+1)(A:OA)(m c:Nat)(l:LI)(hl:l.length=m)(hcap:m<=c)(hr:mo w A m 1 (l.map fun y:Int=>Value.int .i64 y))(hB:Zg f l):
  Y 10 #[.agg (sW f),.slice A m c] w fun e w'=> ∃gc X F,e= .returned (.tuple #[(gc:Nat),U 0])/\Nl w' f n gc X F/\Hw f n l X/\(∀k∈F,w.heap.size<=k)/\Be w w':=
 (agJ w f h1 h4 n hn A m c l hl hcap hr hB).mono fun e w' ⟨x,E,he,h1,h2,h3,h4,h5,h6⟩=>by
  have hK:=h4.K;exact⟨E.C.gc,E.val [],E.nE [],he,⟨x,E,h1,rfl,h2,h3,rfl,rfl⟩,h4,h5,h6⟩
theorem zS(h:Nl w f n gc X F)(hv:zP f n X X')(most:Int)(hm:1950<=most/\most<=1000000):
  Y 13 #[gc,U most] w fun e w'=> ∃z F',e= .returned (U z)/\Nl w' f n gc X' F'/\Only F w w'/\Fro w F F':=by
 obtain⟨x,D,h1,h2,rfl,rfl,rfl,rfl⟩:=h;exact(ZY x w D X.K h1 X' (by rw[h2];exact hv) most hm).mono fun e w' ⟨⟨z,he⟩,D',a1,a2,a3⟩=>
  ⟨z,D'.nE X'.K,he,⟨x,D',a1,a3,by rw[a2.same.f],a2.same.n,a2.same.gc,rfl⟩,a2.only,a2.new⟩
theorem Qe(h:Nl w f n gc X F)(kd ky vl:Int)(hv:Zp n kd ky vl X X'):
  Y 11 #[gc,U 1,.agg #[U kd,U ky,U vl]] w fun e w'=> ∃F',e= .returned (U 0)/\Nl w' f n gc X' F'/\Only F w w'/\Fro w F F':=by
 obtain⟨x,D,h1,h2,rfl,rfl,rfl,rfl⟩:=h;exact(ZX h1 kd ky vl X' (by rw[h2];exact hv)).mono fun e w' ⟨he,x',D',a1,a2,a3⟩=>
  ⟨D'.nE X'.K,he,⟨x',D',a1,a3,by rw[a2.same.f],a2.same.n,a2.same.gc,rfl⟩,a2.only,a2.new⟩
theorem Qf(h:Nl w f n gc X F)(kd ky vl:Int)(hwt:X.ck.waits=false)(hil:X.ck.il.length<=1000)(hv:mq 2 (1,(X.ck.il.length:Int)+1,kd,ky,vl,0)=false):
  Y 11 #[gc,U 1,.agg #[U kd,U ky,U vl]] w fun e w'=> ∃F',e= .returned (U 1)/\Nl w' f n gc X F'/\Only F w w'/\Fro w F F':=by
 obtain⟨x,D,h1,h2,rfl,rfl,rfl,rfl⟩:=h;exact(Xu h1 kd ky vl (by rw[h2];exact hwt) (by rw[h2];exact hil) (by rw[h2];exact hv)).mono fun e w' ⟨he,D',a1,a2,a3⟩=>
  ⟨D'.nE X.K,he,⟨x,D',a1,by rw[a3,h2],by rw[a2.same.f],a2.same.n,a2.same.gc,rfl⟩,a2.only,a2.new⟩
theorem ads(h:Nl w f n gc X F)(i:Nat)(v:ql)(hi:X.nodes[i]?=some (some v))(ft:Vf v):
  Y 18 #[gc,U i] w fun e w'=> ∃q,e= .returned (.tuple #[(q:Nat),true])/\(∃c S' Md,lQ w' q 131 c/\c[22]?=some (.pointer (some ⟨Md,0,none⟩))/\Er w' S' Md 2 v.es v.st v.ct)/\Be w w':=by
 obtain⟨x,D,h1,h2,rfl,rfl,rfl,rfl⟩:=h;exact adl h1 i v (by rw[h2];exact hi) ft
theorem Lm(h:Nl w f n gc X F)(hl:X.ck.il.length<=4096/\X.ck.al.length<=4096/\X.ck.el.length<=4096):
  Y 14 #[gc,U 1] w fun e w'=> ∃q,e= .returned (.tuple #[(q:Nat),true])/\(∃cs ia ic ea ec,lQ w' q 120 cs/\cs[19]?=some (.slice ia X.ck.il.length ic)/\mo w' ia X.ck.il.length 6 (X.ck.il.flatMap rA)/\cs[22]?=some (.slice ea X.ck.el.length ec)/\mo w' ea X.ck.el.length 7 (X.ck.el.flatMap EO))/\Be w w':=by
 obtain⟨x,D,h1,h2,rfl,rfl,rfl,rfl⟩:=h;have:=Xt h1 (by rw[h2];exact hl);rw[h2] at this;exact this
end
def Up(n:Nat)(b:LN):Prop:= ∀t∈b,1<=t/\t<=n
def mF.Inj(G:mF):Prop:= ∀s t,1<=s->s<=G.nD.length->1<=t->t<=G.nD.length->G.rq s=G.rq t->s=t
theorem map_inj{α β:Type}{f:α->β}: ∀{l m:List α},(∀x∈l,∀y∈m,f x=f y->x=y)->l.map f=m.map f->l=m
 | [],[],_,_=>rfl
 | [],y::m,_,h=>by simp at h
 |x::l,[],_,h=>by simp at h
 |x::l,y::m,hi,h=>by
  simp only[bV,gT] at h;rw[hi x lT y lT h.1,map_inj (fun a ha b hb=>hi a (by simp[ha]) b (by simp[hb])) h.2]
theorem mF.adi{G:mF}(h:G.Inj){c:LN}(hb:Up G.nD.length b)(hc:Up G.nD.length c):G.qR b=G.qR c↔b=c:=
 ⟨fun e=>map_inj (fun s hs t ht=>h s t (hb s hs).1 (hb s hs).2 (hc t ht).1 (hc t ht).2) e,fun e=>by rw[e]⟩
theorem Dc: ∀(b c:LN),Tok.YZ b c=true↔b=c
 | [],[]=>by simp[Tok.YZ]
 | [],_::_=>by simp[Tok.YZ]
 |_::_,[]=>by simp[Tok.YZ]
 |a::l,b::m=>by simp[Tok.YZ,Dc l m,Nat.beq_eq]
theorem JY(b:List Rq): ∀(l:List Xk) (k:Nat),ny b l k 0= []
 | [],_=>rfl
 |none::l,k=>by rw[ny,JY b l]
 |some (s,c)::l,k=>by rw[ny,aU lK,JY b l]
def UpV(n:Nat)(l:List (Option LN)):Prop:= ∀b,some b∈l->Up n b
theorem Fu{G:mF}(h:G.Inj)(hb:Up G.nD.length b)(kind:Int)(k seq:Nat): ∀(l:List (Option LN)) (i q:Nat),UpV G.nD.length l->
  ny (G.qR b) (G.zL kind k seq l i) i q=(Tok.oW l b i q).map (G.vo kind k seq b)
 | [],i,q,_=>rfl
 |none::l,i,q,hl=>by
  rw[mF.zL,ny,Tok.oW];exact Fu h hb kind k seq l (i+1) q fun c hc=>hl c (by simp[hc])
 |some c::l,i,q,hl=>by
  rw[mF.zL,ny];have ih:=fun q=>Fu h hb kind k seq l (i+1) q fun c hc=>hl c (by simp[hc]);have hc:=hl c lT
  cases q with
  |zero=>rw[aU lK,JY];rfl
  |succ q=>
   rw[show Tok.oW (some c::l) b i (q+1)=if Tok.YZ c b then i::Tok.oW l b (i+1) q else Tok.oW l b (i+1) (q+1) from rfl];by_cases e:c=b
   ·subst e
    rw[aV ⟨rfl,lK⟩,aV ((Dc c c).2 rfl),fF,ih q];rfl
   rw[aU (fun x=>e ((mF.adi h hc hb).1 x.1)),aU (fun x=>e ((Dc c b).1 x)),ih]
theorem pQ{α:Type}: ∀l:List α,Tok.len l=l.length
 | []=>rfl
 |_::l=>by simp[Tok.len,pQ l]
theorem Ir{G:mF}(h:G.Inj)(hb:Up G.nD.length b)(kind:Int)(k seq:Nat)(l:List (Option LN))(q:Nat)(hl:UpV G.nD.length l):
  qx q (G.zL kind k seq l 0) (G.qR b)=(Tok.enough l b q).map fun v=>v.map (G.vo kind k seq b):=by
 unfold qx Tok.enough;rw[Fu h hb kind k seq l 0 q hl,aT];simp only[pQ,Nat.beq_eq];split<;>rfl
theorem xJ{G:mF}(h:G.Inj)(kind:Int)(k seq:Nat)(l:List (Option LN))(q:Nat)(hl:UpV G.nD.length l): ∀(r:List (Option LN)) (j:Nat),UpV G.nD.length r->
  mQ q (G.zL kind k seq l 0) (G.zL kind k seq r j)=(Tok.qG r l q).map fun p=>(G.qR p.1,p.2.map (G.vo kind k seq p.1))
 | [],j,_=>rfl
 |none::r,j,hr=>by
  rw[mF.zL,mQ,Tok.qG];exact xJ h kind k seq l q hl r (j+1) fun c hc=>hr c (by simp[hc])
 |some c::r,j,hr=>by
  have ih:=xJ h kind k seq l q hl r (j+1) fun c hc=>hr c (by simp[hc]);rw[mF.zL,mQ,Tok.qG,Ir h (hr c lT) kind k seq l q hl]
  cases Tok.enough l c q with
  |none=>exact ih
  |some v=>rfl
theorem En(G:mF)(kind:Int)(k seq:Nat)(b:LN): ∀(l:List (Option LN)) (i n:Nat),n<l.length->
  G.zL kind k seq (Tok.vG l n (some b)) i=(G.zL kind k seq l i).set n (some (num G.K (G.BO kind (i+n) k seq b),G.qR b))
 | [],i,n,h=>by simp at h
 |x::l,i,0,_=>by cases x<;>simp[mF.zL,Tok.vG]
 |x::l,i,n+1,h=>by
  have ih:=En G kind k seq b l (i+1) n (mR h);have e:i+1+n=i+(n+1):=lK;rw[e] at ih;cases x<;>simp[mF.zL,Tok.vG,ih]
theorem El(G:mF)(kind:Int)(k seq:Nat): ∀(l:List (Option LN)) (i n:Nat) (v:Option LN),Tok.uw l n=some v->
  (G.zL kind k seq l i)[n]?=some (v.map fun b=>(num G.K (G.BO kind (i+n) k seq b),G.qR b))
 | [],i,n,v,h=>by simp[Tok.uw] at h
 |x::l,i,0,v,h=>by
  simp only[Tok.uw,aD] at h;subst h;cases x<;>simp[mF.zL]
 |x::l,i,n+1,v,h=>by
  have ih:=El G kind k seq l (i+1) n v h;have e:i+1+n=i+(n+1):=lK;rw[e] at ih;cases x<;>simp[mF.zL,ih]
end Go.Proofs.YtgnhecmnlddjhaaGreat
