/- TopAlone, part 8 of 24: a proof squeezed by a program. -/
import Derived.Test.YtgnhecmnlddjhaaGreatZ06
import Derived.Laws.CopyOwn
set_option linter.unusedVariables false
set_option linter.unusedSimpArgs false
set_option linter.defProp false
set_option maxRecDepth 100000
set_option maxHeartbeats 6400000
namespace Go.Proofs.YtgnhecmnlddjhaaGreat
open Go.RowKit Go.Proofs.Tryz
variable{P:List qm}{S:LN}{g j k:Nat}{p:qm}{w w0:World}
section
variable{w w':World}{gt:Nat}{f cl:Int}{T:List oO}{S:LN}
theorem zu {P:Program} {w':World} {ops:Array Oper} {rest:List Oper} {o:Oper} {a:Act} {Q:Exit->Act->World->Prop} (hgd:o.guard=none) (t:TypeId) (n:Nat) (parts:Array (Nat×Operand)) (ho:o.op= .buildSlice t n parts)
  (vs:Array (Nat×Value)) (hvs:(parts.map fun(i,x)=>(i,a.eval x))=vs) (A:Value) (hz:(Instr.buildSlice t n vs).run P w= .ok A w')
  (h:wpList P ops Q rest (a.put o.dst A) w'):wpList P ops Q (o::rest) a w:=
 kr hgd fun _ hK=>by
  unfold Oper.wp execOp;simp only[ho,hvs,jD,hz,Result.andThen_ok];exact hK _ _ h
theorem Ug:(prog.info? 356).map (fun i=>(i.zero.map (·.cells.size),i.size,i.bytes))=some (some 21,21,72):=by kernel_rfl
theorem zq: ∃i z,prog.info? 356=some i/\i.zero=some z/\i.size=21/\i.bytes=72/\z.cells.size=21:=by
 have h:=Ug
 cases hi:prog.info? 356 with
 |none=>rw[hi] at h;cases h
 |some i=>
  rw[hi] at h;simp only[Option.map_some,aD,aM] at h
  cases hz:i.zero with
  |none=>rw[hz] at h;simp at h
  |some z=>rw[hz] at h;exact⟨i,z,rfl,hz,h.2.1,h.2.2,by simpa using h.1⟩
theorem aeP(h:TabAt w gt f cl T S)(hT:T.length<=64)(cn tm:Int)(T':List oO)(hT':T.filter (fun d:oO=>decide (d.r.1≠cn)||decide (tm<d.r.2.1))=T'):
  Y 269 #[gt,U cn,U tm] w fun e w'=>e= .returned (U ((T.length:Int) -T'.length))/\ ∃S',TabAt w' gt f cl T' S'/\Only [gt] w w'/\ ∀k∈S',k=gt\/w.heap.size<=k:=by
 have HT':=jj hT';clear hT';obtain⟨i0,zi,hi0,hz0,hz1,hz2,hz3⟩:=zq;have H:=jj h;obtain⟨a0,cap,-,hblk,-⟩:=h.ex;have BT:=jj hblk;obtain⟨n0,hn0⟩:=ex T.length;rw[<-hn0] at BT hT;have AZ:=jj hn0;have c2:=BT.at_ 2;have GT:=jj hblk.lt;clear h hblk hn0;go_enter func269,ntmps269
 go_wp2_with fail
 clear c2
 go_loopw [7,16] (fun q j wr=> ∃k:Nat,k<=n0/\j= U k/\(∃a m c,q= .slice a m c/\((T.take k).filter (fun d:oO=>decide (d.r.1≠cn)||decide (tm<d.r.2.1))).length=m/\wr.ownsRow w.heap.size 356 21 (.slice a m c) m (((T.take k).filter (fun d:oO=>decide (d.r.1≠cn)||decide (tm<d.r.2.1))).flatMap xW))/\Be w wr) (fun _ j _=>n0 -(intOf j).toNat)
 case atStart=>exact⟨0,lK,rfl,⟨none,0,0,rfl,rfl,⟨lT,.inl ⟨rfl,rfl⟩⟩⟩,aC _ _⟩
 case round=>
  obtain⟨k,hk,rfl,⟨a,m,c,rfl,hm,ho⟩,hb⟩:=hrel;obtain⟨BW,HO,HM⟩:=j3 hb ho hm;have mle:m<=64:=by rw[<-hm];exact aG (fB _ _) (by rw[cO];have:=AZ.out;omega)
  clear hb ho hm;by_cases hlt:k<n0
  ·have VL:(0:Int)<=k:=lK
   have i1:(k:Int)<n0:=lK;have e0:IntKind.i64.wrap ((k:Int)+1)=(k:Int)+1:=aH _ lK;have HW:=jj (H.below BW);have hkl:k<T.length:=by rw[<-AZ.out];exact hlt
   obtain⟨d,hd⟩: ∃d,T[k]?=some d:=⟨_,aj hkl⟩;have TK:Hid (T.take (k+1)=T.take k++ [d]):=jj (by rw[fM,hd];rfl);obtain⟨ga,cap',hS,hbk,hrow,hcell⟩:=HW.line hd;obtain⟨rfl,rfl⟩:a0=some ⟨ga,0,none⟩/\cap=cap':=by
    have e1:=(BT.below BW BT.lt).cell 2;have e2:=hbk.cell 2;rw[e1] at e2;simp at e2;exact⟨e2.1,e2.2.2⟩
   obtain⟨td,nX,rd,sc⟩:=d;obtain⟨x0,x1,x2,x3,x4,x5⟩:=td;obtain⟨L,hL⟩:=ex (xW ⟨(x0,x1,x2,x3,x4,x5),nX,rd,sc⟩);have SZ:Hid (L.length=21):=jj (by rw[hL];rfl);have Vi:Hid (L.toArray.size=21):=jj (by rw[hL];rfl);have LO:Hid (L.toArray.all (·.oneCell')=true):=jj (iN (by rw[hL];simpa using xq [⟨(x0,x1,x2,x3,x4,x5),nX,rd,sc⟩]));have LO2:Hid (∀v∈L,v.oneCell'=true):=jj (by rw[hL];simpa using xq [⟨(x0,x1,x2,x3,x4,x5),nX,rd,sc⟩]);have RG:Hid (wr.rangeAt ga (k*21) L):=jj (fun j v hv=>hcell j v (by have:=(ah.1 hv).1;rw[hL] at this;exact this) (by rw[<-hL];exact hv));have HL:=jj hL;clear hL;have sJ:Hid (k+1<=n0):=jj hlt;clear hcell hrow hbk hS hd hkl hlt hk
   go_upto_region 5 with(first
    |(refine kF rfl 356 (.tmp 18) rfl ga (k*21) rfl L _ RG underlying356 rfl (by rw[SZ.out];kernel_rfl) ?_;try simp only[Act.put])
    |(refine jo rfl 356 (.tmp 9) (.tmp 19) rfl wr.heap.size L.toArray rfl rfl 356 _ (lQ.new _ _ _) (by rw[Vi.out];kernel_rfl) (by rw[Vi.out];kernel_rfl) LO ?_;rw[World.setRow_alloc_new];try simp only[Act.put]))
   obtain⟨w9,mE⟩:=ex (wr.alloc (.cells L.toArray 356));obtain⟨g9,vE⟩:=ex wr.heap.size;rw[<-mE,<-vE];have X9:=xNew mE vE;have Gy:=GN BW mE;have YS:Hid (w9.ownsRow w.heap.size 356 21 (.slice a m c) m (((T.take k).filter (fun d:oO=>decide (d.r.1≠cn)||decide (tm<d.r.2.1))).flatMap xW)):=jj (by rw[mE];exact own_below HO nC);clear mE vE;have p0:J w9 g9 0 (U x0):=(X9.cell 0).trans (by rw[HL.out];rfl);have p1:J w9 g9 1 (U x1):=(X9.cell 1).trans (by rw[HL.out];rfl);have p2:J w9 g9 2 (U x2):=(X9.cell 2).trans (by rw[HL.out];rfl);have p3:J w9 g9 3 (U x3):=(X9.cell 3).trans (by rw[HL.out];rfl);have p4:J w9 g9 4 (U x4):=(X9.cell 4).trans (by rw[HL.out];rfl);have p5:J w9 g9 5 (U x5):=(X9.cell 5).trans (by rw[HL.out];rfl);have p6:J w9 g9 6 (nX 0):=(X9.cell 6).trans (by rw[HL.out];rfl);have p7:J w9 g9 7 (nX 1):=(X9.cell 7).trans (by rw[HL.out];rfl);have p8:J w9 g9 8 (nX 2):=(X9.cell 8).trans (by rw[HL.out];rfl);have p9:J w9 g9 9 (nX 3):=(X9.cell 9).trans (by rw[HL.out];rfl);have p10:J w9 g9 10 (nX 4):=(X9.cell 10).trans (by rw[HL.out];rfl);have p11:J w9 g9 11 (nX 5):=(X9.cell 11).trans (by rw[HL.out];rfl);have p12:J w9 g9 12 (nX 6):=(X9.cell 12).trans (by rw[HL.out];rfl);have p13:J w9 g9 13 (nX 7):=(X9.cell 13).trans (by rw[HL.out];rfl);have p14:J w9 g9 14 (nX 8):=(X9.cell 14).trans (by rw[HL.out];rfl);have p15:J w9 g9 15 (nX 9):=(X9.cell 15).trans (by rw[HL.out];rfl);have p16:J w9 g9 16 (nX 10):=(X9.cell 16).trans (by rw[HL.out];rfl);have p17:J w9 g9 17 (nX 11):=(X9.cell 17).trans (by rw[HL.out];rfl);have p18:J w9 g9 18 (nX 12):=(X9.cell 18).trans (by rw[HL.out];rfl);have p19:J w9 g9 19 rd:=(X9.cell 19).trans (by rw[HL.out];rfl);have p20:J w9 g9 20 (U sc):=(X9.cell 20).trans (by rw[HL.out];rfl);by_cases hc:x0=cn
   ·have ne:(x0 !=cn)=false:=by rw[hc];simp
    by_cases ht:tm<x1
    ·have ST:Hid ((T.take (k+1)).filter (fun d:oO=>decide (d.r.1≠cn)||decide (tm<d.r.2.1))=(T.take k).filter (fun d:oO=>decide (d.r.1≠cn)||decide (tm<d.r.2.1))++ [⟨(x0,x1,x2,x3,x4,x5),nX,rd,sc⟩]):=jj (by rw[TK.out,fV];simp[hc,ht])
     go_wp2_with(first
      |(refine gU rfl 356 (.tmp 9) rfl g9 rfl 356 L.toArray (0,0) _ X9 underlying356 rfl (by rw[Vi.out];kernel_rfl) ?_;try simp only[Act.put])
      |(refine zu rfl 231 1 _ rfl #[(0,.agg L.toArray)] (by go_simp) _ (EH (P:=prog) 231 356 i0 zi 21 underlying231 hi0 hz0 hz1 lK lK L.toArray Vi w9) ?_;try simp only[Act.put])
      |(at_builtin;refine lZ rfl _ _ _ rfl w.heap.size 356 i0 zi 21 72 underlying231 hi0 hz0 hz1 hz2 hz3 lK a m c (((T.take k).filter (fun d:oO=>decide (d.r.1≠cn)||decide (tm<d.r.2.1))).flatMap xW) rfl (own_below YS nC) (some ⟨w9.heap.size,0,none⟩) 1 1 L rfl (mo.nR (n:=1) (s:=21) (lQ.new w9 356 L.toArray) Vi) LO2 (by unfold maxLen;omega) lK (by have:=Gy.size;simp;omega) ?_;intro a6 c6 w6 h6;have H6:=jj h6;clear h6))
     have B6:Hid (Be w w6):=jj (H6.below (own_below YS nC) (Gy.alloc Gy.size _) (aF _) (by have:=Gy.size;simp;omega));have O6:Hid (w6.ownsRow w.heap.size 356 21 (.slice a6 (m+1) c6) (m+1) (((T.take (k+1)).filter (fun d:oO=>decide (d.r.1≠cn)||decide (tm<d.r.2.1))).flatMap xW)):=jj (by
      have:=H6.own;rw[ST.out,bS,HL.out] at*;simpa using this)
     have M6:Hid (((T.take (k+1)).filter (fun d:oO=>decide (d.r.1≠cn)||decide (tm<d.r.2.1))).length=m+1):=jj (by rw[ST.out,av,HM.out];rfl)
     try go_wp2_with fail
     go_roundw
     case rel=>exact⟨k+1,sJ,by go_num,⟨a6,m+1,c6,by trivial,M6,O6⟩,B6⟩
     have:=sJ.out;simp[intOf];omega
    have ST:Hid ((T.take (k+1)).filter (fun d:oO=>decide (d.r.1≠cn)||decide (tm<d.r.2.1))=(T.take k).filter (fun d:oO=>decide (d.r.1≠cn)||decide (tm<d.r.2.1))):=jj (by rw[TK.out,fV];simp[hc,ht])
    go_wp2_with fail
    go_roundw
    case rel=>exact⟨k+1,sJ,by go_num,⟨a,m,c,by trivial,by rw[ST.out];exact HM.out,by rw[ST.out];exact YS.out⟩,Gy⟩
    have:=sJ.out;simp[intOf];omega
   have ne:(x0 !=cn)=true:=bne_iff_ne.2 hc;have ST:Hid ((T.take (k+1)).filter (fun d:oO=>decide (d.r.1≠cn)||decide (tm<d.r.2.1))=(T.take k).filter (fun d:oO=>decide (d.r.1≠cn)||decide (tm<d.r.2.1))++ [⟨(x0,x1,x2,x3,x4,x5),nX,rd,sc⟩]):=jj (by rw[TK.out,fV];simp[hc])
   go_wp2_with(first
    |(refine gU rfl 356 (.tmp 9) rfl g9 rfl 356 L.toArray (0,0) _ X9 underlying356 rfl (by rw[Vi.out];kernel_rfl) ?_;try simp only[Act.put])
    |(refine zu rfl 231 1 _ rfl #[(0,.agg L.toArray)] (by go_simp) _ (EH (P:=prog) 231 356 i0 zi 21 underlying231 hi0 hz0 hz1 lK lK L.toArray Vi w9) ?_;try simp only[Act.put])
    |(at_builtin;refine lZ rfl _ _ _ rfl w.heap.size 356 i0 zi 21 72 underlying231 hi0 hz0 hz1 hz2 hz3 lK a m c (((T.take k).filter (fun d:oO=>decide (d.r.1≠cn)||decide (tm<d.r.2.1))).flatMap xW) rfl (own_below YS nC) (some ⟨w9.heap.size,0,none⟩) 1 1 L rfl (mo.nR (n:=1) (s:=21) (lQ.new w9 356 L.toArray) Vi) LO2 (by unfold maxLen;omega) lK (by have:=Gy.size;simp;omega) ?_;intro a6 c6 w6 h6;have H6:=jj h6;clear h6))
   have B6:Hid (Be w w6):=jj (H6.below (own_below YS nC) (Gy.alloc Gy.size _) (aF _) (by have:=Gy.size;simp;omega));have O6:Hid (w6.ownsRow w.heap.size 356 21 (.slice a6 (m+1) c6) (m+1) (((T.take (k+1)).filter (fun d:oO=>decide (d.r.1≠cn)||decide (tm<d.r.2.1))).flatMap xW)):=jj (by
    have:=H6.own;rw[ST.out,bS,HL.out] at*;simpa using this)
   have M6:Hid (((T.take (k+1)).filter (fun d:oO=>decide (d.r.1≠cn)||decide (tm<d.r.2.1))).length=m+1):=jj (by rw[ST.out,av,HM.out];rfl)
   try go_wp2_with fail
   go_roundw
   case rel=>exact⟨k+1,sJ,by go_num,⟨a6,m+1,c6,by trivial,M6,O6⟩,B6⟩
   have:=sJ.out;simp[intOf];omega
  have i1: ¬(k:Int)<n0:=lK;have TE:Hid (T.take k=T):=jj (dB (by rw[<-AZ.out];omega));rw[TE.out] at HM HO;rw[HT'.out] at HM HO;have BW2:=jj (BT.below BW BT.lt);have c2:=BW2.at_ 2;have f2:=BW2.frozen 2;have avE:m<=n0:=by rw[<-HM.out,<-HT'.out,AZ.out];exact fB _ _
  have e1:IntKind.i64.wrap ((n0:Int) -m)=(n0:Int) -m:=aH _ lK
  go_wp2_with fail
  go_ret;have o9:Only [gt] wr (wr.setCell ⟨gt,2,none⟩ (.slice a m c)):=(Only.refl [gt] _).setCell (.inl lT) _;refine⟨by rw[<-AZ.out,HM.out];first|rfl|trivial,gt::(a.map (·.block)).toList,⟨a,c,rfl,by rw[HM.out];exact BW2.mg 2 _,?_⟩,(Only.of_below BW).trans o9,?_⟩
  ·rw[HM.out]
   exact mh (mO HO (bF _)) o9 BW2 lN
  intro q hq;simp only[ay,aJ] at hq;rcases hq with rfl|hq
  ·exact .inl rfl
  exact .inr (dG HO q (by rw[lV];exact hq)).1
end
def cd0:CD:=⟨0,0,0,none,0,0,[],none,0,0,[]⟩
def Yi(g:Nat)(s:CQ):qm:=⟨g,s,false,false,cd0,false,cd0⟩
theorem Z7(x:Nat)(w:World):CF x w cd0:=⟨⟨(sK.nil x w).row,(Ez.nil x w).row,⟨lN,lN⟩,⟨lN,lN⟩,⟨lN,lN⟩⟩,(sK.nil x w).fix,(Ez.nil x w).fix⟩
theorem FH:(prog.info? 230).map (fun i=>(i.zero,i.size,i.bytes))=some (some (.agg #[.pointer none,false,false,U 0,U 0,U 0,(),(),false,U 0,U 0,U 0,(),()]),14,168):=by kernel_rfl
section
variable{x:Nat}{w w':World}{f:Int}{n:Nat}{p:qm}{S:LN}
theorem qw.Ak(h:qw x w f n p)(ho:Only S w w')(hS: ∀g∈S,∃t cs,lQ w g t cs/\t∉KH/\t≠271/\t≠408):qw x w' f n p:=
 h.only ho (fun g hg=>by obtain⟨t,cs,h1,h2,_⟩:=hS g hg;exact nV.of h1 h2) fun k hk hm=>by
  obtain⟨t,cs,h1,h2,h3,h4⟩:=hS k hm;simp only[qm.foot,CQ.foot,ay,aI,bK] at hk;rcases hk with rfl|rfl|rfl
  ·exact h.slot.blk.nY h1 h3.symm rfl
  ·exact h.slot.bp.nY h1 h4.symm rfl
  exact h.slot.bc.nY h1 h4.symm rfl
structure Pls(x:Nat)(w0 w:World)(f:Int)(n:Nat)(P:List qm):Prop where
 at_: ∀p∈P,qw x w f n p
 ge: ∀p∈P,∀b∈p.foot,w0.heap.size<=b
 sep: ∀(j k:Nat) (p q:qm),P[j]?=some p->P[k]?=some q->j≠k-> ∀b∈p.foot,b∉q.foot
theorem Pls.below(h:Pls x w0 w f n P)(hb:Be w w'):Pls x w0 w' f n P:=⟨fun p hp=>(h.at_ p hp).below hb,h.ge,h.sep⟩
theorem Pls.Ak(h:Pls x w0 w f n P)(ho:Only S w w')(hS: ∀g∈S,∃t cs,lQ w g t cs/\t∉KH/\t≠271/\t≠408):Pls x w0 w' f n P:=⟨fun p hp=>(h.at_ p hp).Ak ho hS,h.ge,h.sep⟩
theorem Pls.add(h:Pls x w0 w f n P){B:Nat}(hB:w0.heap.size<=B)(hlt: ∀p∈P,∀b∈p.foot,b<B)(hp:qw x w f n p)(hg: ∀b∈p.foot,B<=b):Pls x w0 w f n (P++ [p]):=by
 refine⟨fun q hq=> ?_,fun q hq b hb=> ?_,?_⟩
 ·rcases aQ.1 hq with hq|hq
  ·exact h.at_ q hq
  rw[au.1 hq];exact hp
 ·rcases aQ.1 hq with hq|hq
  ·exact h.ge q hq b hb
  rw[au.1 hq] at hb;have:=hg b hb;omega
 have key: ∀(j:Nat) (q:qm),(P++ [p])[j]?=some q->(j<P.length/\P[j]?=some q)\/(j=P.length/\q=p):=fun j q hj=>by
  rcases iZ j P.length with hl|hl
  ·rw[bC hl] at hj;exact .inl ⟨hl,hj⟩
  have:=(ah.1 hj).1;simp at this;have e:j=P.length:=lK;subst e;simp at hj;exact .inr ⟨rfl,hj.symm⟩
 intro j k a c hj hk hne b hb hb';rcases key j a hj with⟨hl,h1⟩|⟨e1,rfl⟩<;>rcases key k c hk with⟨hl2,h2⟩|⟨e2,rfl⟩
 ·exact h.sep j k a c h1 h2 hne b hb hb'
 ·have:=hlt a (ak h1) b hb;have:=hg b hb';omega
 ·have:=hlt c (ak h2) b hb';have:=hg b hb;omega
 omega
end
theorem ahe(w:World)(f num ahead:Int)(h1:1<=f)(h4:f<=4)(hk:0<=num/\num<=f)(ha:1<=ahead/\ahead<=16)(n:Nat)(hn:(n:Int)=3*f+1)(x:Nat):
  Y 74 #[U f,U num,U ahead] w fun e w'=> ∃gi,e= .returned (.tuple #[(gi:Nat),U 0])/\ ∃i,lY x w' f n num ahead gi i/\i.vw=0/\i.on=true/\(∀p∈i.ps,∃g gp gc,p=Yi g (sl0 n gp gc))/\(∀b∈i.foot gi,w.heap.size<=b)/\Be w w':=by
 obtain⟨i0,hi0,hz0,hz1,hz2⟩:=bq FH;have q1: ¬f<1:=lK;have q2: ¬4<f:=lK;have q3: ¬num<0:=lK;have q4: ¬f<num:=lK;have q5: ¬ahead<1:=lK;have q6: ¬16<ahead:=lK;have HN:=jj hn;clear hn;go_enter func74,ntmps74
 go_upto_region 4 with fail
 generalize hw1:w.alloc _=w1;generalize hgi:w.heap.size=gi;replace hw1:=hw1.symm;replace hgi:=hgi.symm;have X1:=xNew hw1 hgi;have B1:=tQ hw1;have GE:Hid (w.heap.size<=gi):=jj lK;clear hw1 hgi
 go_wp2_with fail
 go_loopw [39] (fun j wr=> ∃k:Nat,k<=16/\j= U k/\(∃(P:List qm) (a:OA) (c:Nat),P.length=k/\Pls x w wr f n P/\(∀p∈P,∃g gp gc,p=Yi g (sl0 n gp gc))/\lQ wr gi 223 #[U f,U num,U ahead,U 0,true,.slice a k c]/\
  wr.ownsRow w.heap.size 230 14 (.slice a k c) k (P.flatMap mH))/\Be w wr) (fun j _=>16 -(intOf j).toNat)
 case atStart=>exact⟨0,lK,rfl,⟨[],none,0,rfl,⟨lT,lT,lT⟩,lT,X1,⟨rfl,.inl ⟨rfl,rfl⟩⟩⟩,B1⟩
 case round=>
  obtain⟨k,hk,rfl,⟨P,a,c,hP,hpl,hp0,hgb,ho⟩,hb⟩:=hrel;obtain⟨HPL,HP0,HG,HO,BW,HPN⟩:=j6 hpl hp0 hgb ho hb hP;clear hpl hp0 hgb ho hb hP;by_cases hlt:k<16
  ·have VL:(0:Int)<=k:=lK
   have i1:(k:Int)<16:=lK;have e0:IntKind.i64.wrap ((k:Int)+1)=(k:Int)+1:=aH _ lK;have sJ:=jj hlt
   go_wp2_with fail
   refine(ahM _ f h1 h4 n HN x).mono ?_;rintro e w2 ⟨g,gp,gc,rfl,hs,hg1,hg2,hg3,hb⟩;have S2:=jj hs;have PL2:=jj (HPL.below hb);have G2:=jj (HG.below hb HG.lt);have O2:=jj (own_below HO hb);have B2:=nO BW hb;have GG:Hid (wr.heap.size<=g/\wr.heap.size<=gp/\wr.heap.size<=gc):=jj ⟨hg1,hg2,hg3⟩;have c5:=G2.at_ 5;clear hs hg1 hg2 hg3 hb
   go_wp2_with(first
    |(at_builtin;refine lZ rfl _ _ _ rfl w.heap.size 230 i0 _ 14 168 underlying221 hi0 hz0 hz1 hz2 rfl lK a k c (P.flatMap mH) rfl (own_below O2 nC) (some ⟨w2.heap.size,0,none⟩) 1 1 (mH (Yi g (sl0 n gp gc))) rfl (mo.nR (n:=1) (s:=14) (lQ.new w2 230 (mH (Yi g (sl0 n gp gc))).toArray) rfl) (by intro u hu;simp only[mH,ay,aI,bK] at hu;rcases hu with rfl|rfl|rfl|rfl|rfl|rfl|rfl|rfl|rfl|rfl|rfl|rfl|rfl|rfl<;>rfl) (by unfold maxLen;omega) lK (by have:=B2.size;simp;omega) ?_;intro a6 c6 w6 h6;have H6:=jj h6;have K6:=jj (h6.ZT (own_below O2 nC) (G2.alloc (.cells (mH (Yi g (sl0 n gp gc))).toArray 230)) lN);have x6:=K6.cell 5;have f6:=K6.frozen 5;clear h6))
   have PA:Hid (qw x w2 f n (Yi g (sl0 n gp gc))):=jj ⟨S2,Z7 _ _,Z7 _ _,⟨bF _,fun v hv=>by rw[dO hv];exact bF _,fun v hv=>by rw[dO hv];exact bF _,⟨bF _,bF _⟩,⟨bF _,bF _⟩⟩⟩;have PL3:=jj (PL2.add (B:=wr.heap.size) BW.size (fun p hp b hb=>(HPL.at_ p hp).slot.lt b hb) PA (fun b hb=>by
    simp only[qm.foot,CQ.foot,Yi,sl0,ay,aI,bK] at hb;rcases hb with rfl|rfl|rfl
    ·exact GG.1
    ·exact GG.2.1
    exact GG.2.2))
   have OA:=own_below O2 ((aC w2.heap.size w2).alloc (aF _) (.cells (mH (Yi g (sl0 n gp gc))).toArray 230));have PL4:=jj ((PL3.below ((aC _ _).alloc (aF _) (.cells (mH (Yi g (sl0 n gp gc))).toArray 230))).Ak H6.only (fun q hq=>by
    obtain⟨_,cs,hc⟩:=lW OA q hq;exact⟨_,cs,hc,lN,lN,lN⟩))
   have B6:Hid (Be w w6):=jj (H6.below OA (B2.alloc B2.size _) (aF _) (by have:=B2.size;simp;omega));obtain⟨w7,hw7⟩:=ex (w6.setCell ⟨gi,5,none⟩ (.slice a6 (k+1) c6));have o7:Only [gi] w6 w7:=by rw[hw7];exact(Only.refl [gi] _).setCell (.inl lT) _
   have PL7:=jj (PL4.Ak o7 (fun q hq=>by simp only[au] at hq;subst hq;exact⟨_,_,K6,lN,lN,lN⟩));have O6:w6.ownsRow w.heap.size 230 14 (.slice a6 (k+1) c6) (k+1) ((P++ [Yi g (sl0 n gp gc)]).flatMap mH):=by
    have:=H6.own;rw[bS];simpa using this
   have O7:=jj (mh O6 o7 K6 lN);have G7:Hid (lQ w7 gi 223 #[U f,U num,U ahead,U 0,true,.slice a6 (k+1) c6]):=jj (by rw[hw7];exact K6.mg 5 _);have B7:Hid (Be w w7):=jj (by rw[hw7];exact B6.setCell (p:=⟨gi,5,none⟩) GE _);clear x6 f6 OA O6 o7
   try go_wp2_with fail
   try rw[<-hw7]
   go_roundw
   case rel=>
    exact⟨k+1,by have:=sJ.out;omega,by go_num,⟨P++ [Yi g (sl0 n gp gc)],a6,c6,by simp[HPN.out],PL7,fun p hp=>by
     rcases aQ.1 hp with hp|hp
     ·exact HP0.out p hp
     exact⟨g,gp,gc,au.1 hp⟩,G7,O7⟩,B7⟩
   case measure=>have:=sJ.out;simp[intOf];omega
  have i1: ¬(k:Int)<16:=lK;obtain rfl:k=16:=lK;obtain⟨gl,cur,rfl,hgl,hcb,hc16,hcm,hcs,hct⟩: ∃gl cur,a=some ⟨gl,0,none⟩/\w.heap.size<=gl/\lQ wr gl 230 cur/\16<=c/\c<=maxLen/\cur.size=c*14/\cur.toList.take (16*14)=P.flatMap mH:=by
   rcases HO.2 with⟨hv,h0⟩|⟨g,cp,cur,hv,hb1,hb2,hb3,hb4,hb5,hb6⟩
   ·cases h0
   injection hv with e1 e2 e3;subst e3;exact⟨g,cur,e1,hb1,hb2,hb3,hb4,hb5,hb6⟩
  have IA:Hid (lY x wr f n num ahead gi ⟨0,true,gl,c,P,cur.toList.drop (16*14)⟩):=jj ⟨HG,by
   have e:(P.flatMap mH++cur.toList.drop (16*14)).toArray=cur:=by rw[<-hct,kJ]
   show lQ wr gl _ (P.flatMap mH++cur.toList.drop (16*14)).toArray;rw[e];exact hcb,HPN,hc16,HPL.at_,HPL.sep⟩
  have FG:Hid (∀b∈(tJ.foot gi ⟨0,true,gl,c,P,cur.toList.drop (16*14)⟩),w.heap.size<=b):=jj (fun b hb=>by
   simp only[tJ.foot,ay,bg] at hb;rcases hb with rfl|rfl|⟨p,hp,hb⟩
   ·exact GE.out
   ·exact hgl
   exact HPL.ge p hp b hb)
  clear hgl hcb hc16 hcm hcs hct
  go_wp2_with fail
  go_ret2
  exact⟨gi,by trivial,⟨0,true,gl,c,P,cur.toList.drop (16*14)⟩,IA,rfl,rfl,HP0,FG,BW⟩
section
variable{x:Nat}{w w':World}{f:Int}{n:Nat}{num ahead:Int}{gi:Nat}{i:tJ}
theorem wC(h:lY x w f n num ahead gi i)(k:Nat)(hk:k<16)(z:Int)(hz:z=(k:Int)+1):
  Y 227 #[gi,U z] w fun e w'=>e= .returned (.pointer (some ⟨i.gl,k*14,none⟩))/\w=w':=by
 have c5:=h.blk.at_ 5;have i1: ¬z<1:=lK;have i2: ¬16<z:=lK;have e1:IntKind.i64.wrap (z -1)=(k:Int):=by rw[aH _ lK];omega
 have i3:(0:Int)<=k:=lK;have i4:(k:Int)<16:=lK;clear h hz hk;go_enter func227,ntmps227
 go_wp2_with fail
 go_ret;exact⟨by trivial,by trivial⟩
theorem adQ(h:lY x w f n num ahead gi i):
  Y 126 #[gi] w fun e w'=>e= .returned i.on/\w=w':=by
 have c5:=h.blk.at_ 4;clear h;go_enter func126,ntmps126
 go_wp2_with fail
 go_ret;exact⟨by trivial,by trivial⟩
def yt:List qm->Nat
 | []=>0
 |p::l=>if p.done then yt l+1 else 0
theorem Qj: ∀l:List qm,yt l<=l.length
 | []=>aF _
 |p::l=>by
  have:=Qj l;unfold yt;split<;>simp<;>omega
theorem VJ(h:lY x w f n num ahead gi i)(d:Nat)(hd:yt i.ps=d):
  Y 166 #[gi] w fun e w'=>e= .returned (U d)/\w=w':=by
 have c5:=h.blk.at_ 5;obtain⟨H,HD,HL⟩:=j3 h hd h.len;clear h hd;go_enter func166,ntmps166
 go_wp2_with fail
 go_loopw [3] (fun j wr=> ∃k:Nat,k<=16/\j= U k/\wr=w/\d=k+yt (i.ps.drop k)) (fun j _=>16 -(intOf j).toNat)
 case atStart=>exact⟨0,lK,rfl,rfl,by simpa using HD.symm⟩
 case round=>
  obtain⟨k,hk,rfl,rfl,hdk⟩:=hrel;have HDK:=jj hdk;clear hdk;by_cases hlt:k<16
  ·have i1:(k:Int)<16:=lK
   have VL:(0:Int)<=k:=lK;have hkl:k<i.ps.length:=by rw[HL.out];exact hlt
   have c8:=H.cell (aj hkl) 8 lK (.bool i.ps[k].done) rfl;have e0:IntKind.i64.wrap ((k:Int)+1)=(k:Int)+1:=aH _ lK;have DR:Hid (i.ps.drop k=i.ps[k]::i.ps.drop (k+1)):=jj (dY hkl).symm;obtain⟨b,hb⟩:=ex i.ps[k].done;rw[<-hb] at c8;have HB:=jj hb;clear hb
   cases b with
   |true=>
    have G:Hid (d=(k+1)+yt (i.ps.drop (k+1))):=jj (by rw[HDK.out,DR.out,yt,aV HB.symm];omega)
    go_wp2_with fail
    go_roundw
    case rel=>exact⟨k+1,lK,by go_num,by trivial,G⟩
    simp[intOf];omega
   |false=>
    have G:Hid (d=k):=jj (by rw[HDK.out,DR.out,yt,aU (by rw[<-HB.out];simp)];rfl)
    go_wp2_with fail
    go_ret;exact⟨by rw[G.out];first|rfl|trivial,by trivial⟩
  have i1: ¬(k:Int)<16:=lK;have G:Hid (d=k):=jj (by rw[HDK.out,iB (by rw[HL.out];omega)];rfl)
  go_wp2_with fail
  go_ret;exact⟨by rw[G.out];first|rfl|trivial,by trivial⟩
theorem Me(h:lY x w f n num ahead gi i)(k:Nat)(p:qm)(hp:i.ps[k]?=some p)(hs:p.sl.has=true)(z:Int)(hz:z=(k:Int)+1)(hx:x<w.heap.size):
  Y 230 #[gi,U z] w fun e w'=> ∃a' c',e= .returned (.tuple #[.slice a' p.sl.bn c',true])/\sK x w' a' p.sl.bn c' p.sl.bs/\w'.ownsRow w.heap.size 49 6 (.slice a' p.sl.bn c') p.sl.bn (p.sl.bs.flatMap rA)/\Be w w':=by
 have hk:k<16:=by have:=(ah.1 hp).1;rw[h.len] at this;exact this
 have hpm:=h.at_ p (ak hp);have c0:J w i.gl (k*14) p.g:=h.cell hp 0 lK _ rfl;have SC:=jj (Bz hpm.slot hs hpm.short.b hx);have AT:=jj (wC h k hk z hz);clear h hp hs hz hx hpm;go_enter func230,ntmps230
 go_wp2_with fail
 refine AT.mono ?_;rintro e w' ⟨rfl,rfl⟩
 go_wp2_with fail
 refine SC.mono ?_;rintro e w2 ⟨a',c',rfl,hr,ho,hb⟩;obtain⟨R2,O2,B2⟩:=j3 hr ho hb;clear hr ho hb
 go_wp2_with fail
 go_ret2
 exact⟨a',c',by trivial,R2,O2,B2⟩
theorem TY(h:lY x w f n num ahead gi i)(k:Nat)(p:qm)(hp:i.ps[k]?=some p)(hs:p.sl.has=false)(z:Int)(hz:z=(k:Int)+1):
  Y 230 #[gi,U z] w fun e w'=>e= .returned (.tuple #[(),false])/\w=w':=by
 have hk:k<16:=by have:=(ah.1 hp).1;rw[h.len] at this;exact this
 have hpm:=h.at_ p (ak hp);have c0:J w i.gl (k*14) p.g:=h.cell hp 0 lK _ rfl;have SC:=jj (CG hpm.slot hs);have AT:=jj (wC h k hk z hz);clear h hp hs hz hpm;go_enter func230,ntmps230
 go_wp2_with fail
 refine AT.mono ?_;rintro e w' ⟨rfl,rfl⟩
 go_wp2_with fail
 refine SC.mono ?_;rintro e w2 ⟨rfl,rfl⟩
 go_wp2_with fail
 go_ret2
 exact⟨by trivial,by trivial⟩
end
section
variable{x:Nat}{w w':World}{f:Int}{n:Nat}{num ahead:Int}{gi:Nat}{i:tJ}
theorem lY.OG(h:lY x w f n num ahead gi i)(hp:i.ps[k]?=some p){s':CQ}(hg:s'.foot p.g=p.sl.foot p.g)(ho:Only S w w')(hS: ∀b∈S,b∈p.foot)(hs:mM x w' f n p.g s')(hsh:qm.Short {p with sl:=s'}):
  lY x w' f n num ahead gi {i with ps:=i.ps.set k {p with sl:=s'}}:=by
 have hpm:=ak hp;have ha:=h.at_ p hpm;have Dp: ∀b∈S,nV x w b:=fun b hb=>ha.slot.soft b (hS b hb);refine h.put hp hg ho (fun b hb=> .inr (hS b hb)) ?_ ⟨hs,ha.cert.only ho Dp,ha.dw.only ho Dp,hsh⟩;have e:=h.abZ (p':={p with sl:=s'}) hp rfl;rw[e];exact h.row.only ho fun hm=>(h.far hpm).2 (hS _ hm)
theorem ahg(h:lY x w f n num ahead gi i)(hon:i.on=true)(k:Nat)(p:qm)(hp:i.ps[k]?=some p)(j:Nat)(v:rC)(hj:p.sl.pr[j]?=some v)(hv:v.has=false)(hn:n<=13)(z:Int)(hz:z=(k:Int)+1)(sg:Int)(A:OA)(m c:Nat)(bs:List Rq)(hr:sK x w A m c bs)(hm:m<=4096)(hx:x<w.heap.size):
  Y 217 #[gi,U 4,U z,U j,U sg,.slice A m c] w fun e w'=> ∃a' c',e= .returned true/\lY x w' f n num ahead gi {i with ps:=i.ps.set k {p with sl:={p.sl with pr:=p.sl.pr.set j ⟨true,sg,a',m,c',bs⟩}}}/\Only [p.sl.gp] w w':=by
 have hk:k<16:=by have:=(ah.1 hp).1;rw[h.len] at this;exact this
 have hpm:=h.at_ p (ak hp);have c0:J w i.gl (k*14) p.g:=h.cell hp 0 lK _ rfl;have c4:J w gi 4 true:=(h.blk.cell 4).trans (by rw[<-hon];rfl);obtain⟨hjl,hje⟩:=ah.1 hj;have SC:=jj (ahO hpm.slot j hjl (by rw[hje];exact hv) sg A m c bs hr hm hn hx);have AT:=jj (wC h k hk z hz);obtain⟨H,HP,HM⟩:=j3 h hp hm;clear h hp hv hz hx hpm hr hj hjl hje hm hon;go_enter func217,ntmps217
 go_wp2_with fail
 refine AT.mono ?_;rintro e w' ⟨rfl,rfl⟩
 go_wp2_with fail
 refine SC.mono ?_;rintro e w2 ⟨a',c',rfl,hs,ho⟩;have S2:=jj hs;have O2:=jj ho;clear hs ho
 go_wp2_with fail
 go_ret;have hpm:=H.at_ p (ak HP);have hin:p.sl.gp∈p.foot:=by simp[qm.foot,CQ.foot]
 obtain⟨s1,s2,s3,s4,s5⟩:=hpm.short;exact⟨a',c',by trivial,H.OG HP (s':={p.sl with pr:=p.sl.pr.set j ⟨true,sg,a',m,c',bs⟩}) rfl O2 (fun b hb=>by simp only[au] at hb;rw[hb];exact hin) S2 ⟨s1,fun u hu=>by
  rcases cB hu with hu|rfl
  ·exact s2 u hu
  exact HM.out,s3,s4,s5⟩,O2⟩
theorem ahh(h:lY x w f n num ahead gi i)(hon:i.on=true)(k:Nat)(p:qm)(hp:i.ps[k]?=some p)(j:Nat)(v:rC)(hj:p.sl.co[j]?=some v)(hv:v.has=false)(hn:n<=13)(z:Int)(hz:z=(k:Int)+1)(sg:Int)(A:OA)(m c:Nat)(bs:List Rq)(hr:sK x w A m c bs)(hm:m<=4096)(hx:x<w.heap.size):
  Y 217 #[gi,U 5,U z,U j,U sg,.slice A m c] w fun e w'=> ∃a' c',e= .returned true/\lY x w' f n num ahead gi {i with ps:=i.ps.set k {p with sl:={p.sl with co:=p.sl.co.set j ⟨true,sg,a',m,c',bs⟩}}}/\Only [p.sl.gc] w w':=by
 have hk:k<16:=by have:=(ah.1 hp).1;rw[h.len] at this;exact this
 have hpm:=h.at_ p (ak hp);have c0:J w i.gl (k*14) p.g:=h.cell hp 0 lK _ rfl;have c4:J w gi 4 true:=(h.blk.cell 4).trans (by rw[<-hon];rfl);obtain⟨hjl,hje⟩:=ah.1 hj;have SC:=jj (ahP hpm.slot j hjl (by rw[hje];exact hv) sg A m c bs hr hm hn hx);have AT:=jj (wC h k hk z hz);obtain⟨H,HP,HM⟩:=j3 h hp hm;clear h hp hv hz hx hpm hr hj hjl hje hm hon;go_enter func217,ntmps217
 go_wp2_with fail
 refine AT.mono ?_;rintro e w' ⟨rfl,rfl⟩
 go_wp2_with fail
 refine SC.mono ?_;rintro e w2 ⟨a',c',rfl,hs,ho⟩;have S2:=jj hs;have O2:=jj ho;clear hs ho
 go_wp2_with fail
 go_ret;have hpm:=H.at_ p (ak HP);have hin:p.sl.gc∈p.foot:=by simp[qm.foot,CQ.foot]
 obtain⟨s1,s2,s3,s4,s5⟩:=hpm.short;exact⟨a',c',by trivial,H.OG HP (s':={p.sl with co:=p.sl.co.set j ⟨true,sg,a',m,c',bs⟩}) rfl O2 (fun b hb=>by simp only[au] at hb;rw[hb];exact hin) S2 ⟨s1,s2,fun u hu=>by
  rcases cB hu with hu|rfl
  ·exact s3 u hu
  exact HM.out,s4,s5⟩,O2⟩
theorem ahf(h:lY x w f n num ahead gi i)(hon:i.on=true)(k:Nat)(p:qm)(hp:i.ps[k]?=some p)(hs:p.sl.has=false)(z:Int)(hz:z=(k:Int)+1)(ha:1<=ahead/\ahead<=16)(hle:z<=(yt i.ps:Int)+ahead)(A:OA)(m c:Nat)(bs:List Rq)(hr:sK x w A m c bs)(hm:m<=4096)(hx:x<w.heap.size):
  Y 169 #[gi,U z,.slice A m c] w fun e w'=> ∃a' c',e= .returned true/\lY x w' f n num ahead gi {i with ps:=i.ps.set k {p with sl:={p.sl with has:=true,ba:=a',bn:=m,bc:=c',bs:=bs}}}/\Only [p.g] w w':=by
 have hk:k<16:=by have:=(ah.1 hp).1;rw[h.len] at this;exact this
 have hpm:=h.at_ p (ak hp);obtain⟨d,hd⟩: ∃d,yt i.ps=d:=⟨_,rfl⟩;have ag1:d<=16:=by rw[<-hd,<-h.len];exact Qj _
 rw[hd] at hle;have AT:=jj (wC h k hk z hz);obtain⟨H,HP,HM,HS,HD,HR⟩:=j6 h hp hm hs hd hr;have HX:=jj hx;have PI:=jj hon;have e1:IntKind.i64.wrap ((d:Int)+ahead)=(d:Int)+ahead:=aH _ lK;clear h hp hs hz hx hpm hr hm hon hd;go_enter func169,ntmps169
 go_wp2_with fail
 refine AT.mono ?_;rintro e w' ⟨rfl,rfl⟩
 go_upto_region 2 with fail
 have D:=jj (H.below (aC _ _).drew);have c0:J w.drew i.gl (k*14) p.g:=D.cell HP 0 lK _ rfl;have c4:J w.drew gi 4 true:=(D.blk.cell 4).trans (by rw[<-PI.out];rfl);have c2:=D.blk.at_ 2;refine rP (fun w'=>J w' i.gl (k*14) p.g/\J w' gi 4 true/\J w' gi 2 (U ahead)) 28 (tk 0 11 (tk 12 4 (.one 11 (tk 16 9 (.one 25 (.take 26 (.take 27 .done))))))) ⟨c0,c4,c2⟩ ?_;intro hS0
 repeat refine' tT ?_
 refine pO fun KT lS=> ?_;go_simp;refine(VJ D d HD).mono ?_;rintro e w' ⟨rfl,rfl⟩;refine oH lS hS0 ?_
 repeat refine' tT ?_
 refine pO fun KT lS=> ?_;go_simp;have hpm:=D.at_ p (ak HP);refine(ahN hpm.slot HS A m c bs (HR.below (aC _ _).drew) HM HX).mono ?_;rintro e w2 ⟨a',c',rfl,hs2,ho2⟩;have S2:=jj hs2;have O2:=jj ho2;have hin:p.g∈p.foot:=by simp[qm.foot,CQ.foot]
 have hf:=D.far (ak HP);have n1:i.gl∉ [p.g]:=by simpa using fun e=>hf.2 (by rw[e];exact hin)
 have n2:gi∉ [p.g]:=by simpa using fun e=>hf.1 (by rw[e];exact hin)
 have S3:J w2 i.gl (k*14) p.g/\J w2 gi 4 true/\J w2 gi 2 (U ahead):=⟨ho2.cell_ hS0.1 n1,ho2.cell_ hS0.2.1 n2,ho2.cell_ hS0.2.2 n2⟩;clear hs2 ho2 hpm;refine oH lS S3 ?_;clear hS0 c0 c4 c2;have hS0:=S3
 repeat refine' tT ?_
 refine lM ?_;clear hS0 S3
 go_wp2_with fail
 go_ret;have hpm:=D.at_ p (ak HP);obtain⟨s1,s2,s3,s4,s5⟩:=hpm.short;exact⟨a',c',by trivial,D.OG HP rfl O2 (fun b hb=>by simp only[au] at hb;rw[hb];exact hin) S2 ⟨HM,s2,s3,s4,s5⟩,(Only.refl [p.g] w).drew.trans O2⟩
end
section
variable{x:Nat}{w w':World}{f:Int}{n:Nat}{num ahead:Int}{gi:Nat}{i:tJ}
def CD.moved(c:CD)(a:OA)(k:Nat)(a':OA)(k':Nat):CD:={c with ba:=a,bc:=k,va:=a',vc:=k'}
theorem IU(w:World)(c:CD)(h:c.Is w)(hb:c.bn<=4096)(hv:c.vn<=4096)(x:Nat)(hx:x<w.heap.size):
  Y 232 #[.agg (nS c).toArray] w fun e w'=> ∃a k a' k',e= .returned (.agg (nS (c.moved a k a' k')).toArray)/\CF x w' (c.moved a k a' k')/\Be w w':=by
 obtain⟨i0,hi0,hz0,hz1,hz2⟩:=bq rT;obtain⟨j0,hj0,hy0,hy1,hy2⟩:=bq Cr;obtain⟨c0,c1,c2,ba,bn,bc,bs,va,vn,vc,vs⟩:=c;have H:=jj h;have HX:=jj hx;simp only at hb hv;clear h hx;show Y 232 #[.agg #[U c0,U c1,U c2,.slice ba bn bc,.slice va vn vc]] w _;go_enter func232,ntmps232
 go_upto_region 1 with fail
 generalize hv1:w.alloc _=v1;generalize hg1:w.heap.size=g1;replace hv1:=hv1.symm;replace hg1:=hg1.symm;obtain⟨v2,hv2⟩:=ex (v1.alloc (.cells #[U 0,U 0,U 0,(),()] 228));obtain⟨g2,hg2⟩:=ex v1.heap.size;have eg:g1+1=g2:=by rw[hg2,hv1,hg1];simp
 try rw[eg]
 try rw[<-hg2]
 rw[<-hv2];have X1:Hid (lQ v2 g1 228 #[U c0,U c1,U c2,.slice ba bn bc,.slice va vn vc]):=jj (by rw[hv2];refine lQ.alloc ?_ _;rw[hv1,hg1];exact lQ.new _ _ _);have X2:=xNew hv2 hg2;have B2:Hid (Be w v2):=jj (by rw[hv2,hv1];exact(nC.alloc lT _));have GE:Hid (w.heap.size<=g1/\w.heap.size<=g2/\g1≠g2):=jj ⟨lK,lK,lK⟩;clear hv1 hv2 hg1 hg2 eg;have d3:=X1.at_ 3
 go_upto_region 2 with(at_builtin;refine lZ rfl _ _ _ rfl w.heap.size 49 i0 _ 6 48 underlying46 hi0 hz0 hz1 hz2 rfl lK none 0 0 [] rfl ⟨lT,.inl ⟨rfl,rfl⟩⟩ ba bn bc (bs.flatMap rA) rfl (H.b.row.below B2) (Bt bs) (by unfold maxLen;omega) lK B2.size ?_;intro a5 c5 w5 h5;have K5:=jj (X1.below h5.only.mY X1.lt);have x3:=K5.cell 3;have f3:=K5.frozen 3;have H5:=jj h5;clear h5;rw[aO])
 have B5:Hid (Be w w5):=jj (B2.trans (H5.only.mY.mono B2.size));have Y5:=jj (X2.below H5.only.mY X2.lt);have R5:Hid (w5.ownsRow w.heap.size 49 6 (.slice a5 bn c5) bn (bs.flatMap rA)):=jj (by have:=H5.own;rwa [aO,List.nil_append] at this);obtain⟨w6,zN⟩:=ex (w5.setCell ⟨g1,3,none⟩ (.slice a5 bn c5));rw[<-zN];have K6:Hid (lQ w6 g1 228 #[U c0,U c1,U c2,.slice a5 bn c5,.slice va vn vc]):=jj (by rw[zN];exact K5.mg 3 _);have o6:Only [g1] w5 w6:=by rw[zN];exact(Only.refl [g1] _).setCell (.inl lT) _
 have Y6:=jj (Y5.only o6 (mR GE.2.2.symm));have B6:Hid (Be w w6):=jj (by rw[zN];exact B5.setCell (p:=⟨g1,3,none⟩) GE.1 _);have R6:=jj (mh R5 o6 K5 lN);have d4:=K6.at_ 4;clear d3 x3 f3 H5 zN o6
 go_upto_region 3 with(at_builtin;refine lZ rfl _ _ _ rfl w.heap.size 311 j0 _ 2 16 underlying78 hj0 hy0 hy1 hy2 rfl lK none 0 0 [] rfl ⟨lT,.inl ⟨rfl,rfl⟩⟩ va vn vc (vs.flatMap Cg) rfl (H.v.row.below B6) (aeW vs) (by unfold maxLen;omega) lK B6.size ?_;intro a7 c7 w7 h7;have K7:=jj (K6.below h7.only.mY K6.lt);have x4:=K7.cell 4;have f4:=K7.frozen 4;have H7:=jj h7;clear h7;rw[aO])
 have B7:Hid (Be w w7):=jj (B6.trans (H7.only.mY.mono B6.size));have Y7:=jj (Y6.below H7.only.mY Y6.lt);have R7:=jj (own_below R6 H7.only.mY);have S7:Hid (w7.ownsRow w.heap.size 311 2 (.slice a7 vn c7) vn (vs.flatMap Cg)):=jj (by have:=H7.own;rwa [aO,List.nil_append] at this);obtain⟨w8,hw8⟩:=ex (w7.setCell ⟨g1,4,none⟩ (.slice a7 vn c7));rw[<-hw8];have K8:Hid (lQ w8 g1 228 #[U c0,U c1,U c2,.slice a5 bn c5,.slice a7 vn c7]):=jj (by rw[hw8];exact K7.mg 4 _);have o8:Only [g1] w7 w8:=by rw[hw8];exact(Only.refl [g1] _).setCell (.inl lT) _
 have Y8:=jj (Y7.only o8 (mR GE.2.2.symm));have B8:Hid (Be w w8):=jj (by rw[hw8];exact B7.setCell (p:=⟨g1,4,none⟩) GE.1 _);have R8:=jj (mh R7 o8 K7 lN);have S8:=jj (mh S7 o8 K7 lN);clear d4 x4 f4 H7 hw8 o8;obtain⟨e0,e1,e2,e3,e4⟩:=K8.a5;have y0:=Y8.cell 0;have y1:=Y8.cell 1;have y2:=Y8.cell 2;have y3:=Y8.cell 3;have y4:=Y8.cell 4;have z0:=Y8.frozen 0;have z1:=Y8.frozen 1;have z2:=Y8.frozen 2;have z3:=Y8.frozen 3;have z4:=Y8.frozen 4
 go_wp2_with fail
 obtain⟨w9,mE⟩:=ex (((((w8.setCell ⟨g2,0,none⟩ (U c0)).setCell ⟨g2,1,none⟩ (U c1)).setCell ⟨g2,2,none⟩ (U c2)).setCell ⟨g2,3,none⟩ (.slice a5 bn c5)).setCell ⟨g2,4,none⟩ (.slice a7 vn c7));rw[<-mE];have K9:lQ w9 g2 228 #[U c0,U c1,U c2,.slice a5 bn c5,.slice a7 vn c7]:=by
  rw[mE];have t1:lQ (w8.setCell ⟨g2,0,none⟩ (U c0)) g2 228 #[U c0,U 0,U 0,(),()]:=Y8.mg 0 _;have t2:lQ ((w8.setCell ⟨g2,0,none⟩ (U c0)).setCell ⟨g2,1,none⟩ (U c1)) g2 228 #[U c0,U c1,U 0,(),()]:=t1.mg 1 _;have t3:lQ (((w8.setCell ⟨g2,0,none⟩ (U c0)).setCell ⟨g2,1,none⟩ (U c1)).setCell ⟨g2,2,none⟩ (U c2)) g2 228 #[U c0,U c1,U c2,(),()]:=t2.mg 2 _;have t4:lQ ((((w8.setCell ⟨g2,0,none⟩ (U c0)).setCell ⟨g2,1,none⟩ (U c1)).setCell ⟨g2,2,none⟩ (U c2)).setCell ⟨g2,3,none⟩ (.slice a5 bn c5)) g2 228 #[U c0,U c1,U c2,.slice a5 bn c5,()]:=t3.mg 3 _;exact t4.mg 4 _
 have o9:Only [g2] w8 w9:=by rw[mE];exact(((((Only.refl [g2] _).setCell (.inl lT) _).setCell (.inl lT) _).setCell (.inl lT) _).setCell (.inl lT) _).setCell (.inl lT) _
 have B9:Be w w9:=o9.below B8 B8.size (mR GE.2.1);have R9:=sK.own (x:=x) (mh R8 o9 Y8 lN) HX H.b.len;have S9:=Ez.own (x:=x) (mh S8 o9 Y8 lN) HX H.v.len;clear mE;refine dF (v:= .agg #[U c0,U c1,U c2,.slice a5 bn c5,.slice a7 vn c7]) ?_ rfl ⟨a5,c5,a7,c7,rfl,⟨⟨R9.row,S9.row,H.i0,H.i1,H.i2⟩,R9.fix,S9.fix⟩,B9⟩;exact gM Tryz.results232 _ w9 g2 _ _ _ _ (by rfl) K9 underlying228 rfl (by kernel_rfl)
theorem VI(h:lY x w f n num ahead gi i)(z:Int)(ba:OA)(bn bc:Nat)(va:OA)(vn vc:Nat):
  Y 286 #[gi,U z,.slice ba bn bc,.slice va vn vc] w fun e w'=>e= .returned (.agg #[U i.vw,U num,U z,.slice ba bn bc,.slice va vn vc])/\Be w w':=by
 have H:=jj h;clear h;go_enter func286,ntmps286
 go_upto_region 1 with fail
 generalize hv2:w.alloc _=v2;generalize hg2:w.heap.size=g2;replace hv2:=hv2.symm;replace hg2:=hg2.symm;have X2:=xNew hv2 hg2;have B2:=tQ hv2;have GE:Hid (w.heap.size<=g2):=jj lK;clear hv2 hg2;have D:=jj ((H.below B2).below (aC _ _).drew);have c3:=D.blk.at_ 3;have c1:=D.blk.at_ 1;refine rP (fun w'=>J w' gi 3 (U i.vw)/\J w' gi 1 (U num)) 12 (tk 0 12 (.one 12 .done)) ⟨c3,c1⟩ ?_;intro hS0;obtain⟨v3,hv3⟩:=ex v2.drew;have Y0:Hid (lQ v3 g2 228 #[U 0,U 0,U 0,(),()]):=jj (by rw[hv3];exact X2.drew);have B3:Hid (Be w v3):=jj (by rw[hv3];exact B2.drew);rw[<-hv3] at hS0|-;clear hv3 D c3 c1
 repeat refine' tT ?_
 refine pL fun KT lS=> ?_;have y0:=Y0.cell 0;have y1:=Y0.cell 1;have y2:=Y0.cell 2;have y3:=Y0.cell 3;have y4:=Y0.cell 4;have z0:=Y0.frozen 0;have z1:=Y0.frozen 1;have z2:=Y0.frozen 2;have z3:=Y0.frozen 3;have z4:=Y0.frozen 4;go_simp;refine oL lS ?_;refine lM ?_;clear hS0 y0 y1 y2 y3 y4 z0 z1 z2 z3 z4;obtain⟨w9,mE⟩:=ex (((((v3.setCell ⟨g2,0,none⟩ (U i.vw)).setCell ⟨g2,1,none⟩ (U num)).setCell ⟨g2,2,none⟩ (U z)).setCell ⟨g2,3,none⟩ (.slice ba bn bc)).setCell ⟨g2,4,none⟩ (.slice va vn vc));rw[<-mE];have K9:lQ w9 g2 228 #[U i.vw,U num,U z,.slice ba bn bc,.slice va vn vc]:=by
  rw[mE];have t1:lQ (v3.setCell ⟨g2,0,none⟩ (U i.vw)) g2 228 #[U i.vw,U 0,U 0,(),()]:=Y0.mg 0 _;have t2:lQ ((v3.setCell ⟨g2,0,none⟩ (U i.vw)).setCell ⟨g2,1,none⟩ (U num)) g2 228 #[U i.vw,U num,U 0,(),()]:=t1.mg 1 _;have t3:lQ (((v3.setCell ⟨g2,0,none⟩ (U i.vw)).setCell ⟨g2,1,none⟩ (U num)).setCell ⟨g2,2,none⟩ (U z)) g2 228 #[U i.vw,U num,U z,(),()]:=t2.mg 2 _;have t4:lQ ((((v3.setCell ⟨g2,0,none⟩ (U i.vw)).setCell ⟨g2,1,none⟩ (U num)).setCell ⟨g2,2,none⟩ (U z)).setCell ⟨g2,3,none⟩ (.slice ba bn bc)) g2 228 #[U i.vw,U num,U z,.slice ba bn bc,()]:=t3.mg 3 _;exact t4.mg 4 _
 have B9:Be w w9:=by rw[mE];exact((((B3.setCell (p:=⟨g2,0,none⟩) GE _).setCell (p:=⟨g2,1,none⟩) GE _).setCell (p:=⟨g2,2,none⟩) GE _).setCell (p:=⟨g2,3,none⟩) GE _).setCell (p:=⟨g2,4,none⟩) GE _
 clear mE
 go_wp2_with fail
 refine dF (v:= .agg #[U i.vw,U num,U z,.slice ba bn bc,.slice va vn vc]) ?_ rfl ⟨rfl,B9⟩;exact gM Tryz.results286 _ w9 g2 _ _ _ _ (by rfl) K9 underlying228 rfl (by kernel_rfl)
end
theorem set_mid{α:Type}(A B C:List α)(j:Nat)(v:α)(hj:j<B.length):(A++(B++C)).set (A.length+j) v=A++(B.set j v++C):=by
 rw[iD _ _ lK,fG,jw _ _ hj]
theorem rR{t:TypeId}{A B C:LV}(h:lQ w g t (A++(B++C)).toArray){o q:Nat}(hA:A.length=o)(hj:j<B.length)(hq:q=o+j)(v:Value):lQ (w.setCell ⟨g,q,none⟩ v) g t (A++(B.set j v++C)).toArray:=by
 subst hq;subst hA;have:=h.mg (A.length+j) v;rw[<-set_mid A B C j v hj];simpa using this
section
variable{x:Nat}{w w':World}{f:Int}{n:Nat}{num ahead:Int}{gi:Nat}{i:tJ}
theorem lY.open_row(h:lY x w f n num ahead gi i)(hp:i.ps[k]?=some p): ∃A C:List Value,A.length=k*14/\lQ w i.gl 230 (A++(mH p++C)).toArray/\ ∀p':qm,(A++(mH p'++C)).toArray=((i.ps.set k p').flatMap mH++i.rest).toArray:=by
 obtain⟨hk,e⟩:=ah.1 hp;have key: ∀p':qm,(i.ps.take k).flatMap mH++(mH p'++((i.ps.drop (k+1)).flatMap mH++i.rest))=(i.ps.set k p').flatMap mH++i.rest:=fun p'=>by
  rw[iX,aV hk];simp
 refine⟨(i.ps.take k).flatMap mH,(i.ps.drop (k+1)).flatMap mH++i.rest,?_,?_,fun p'=>by rw[key p']⟩
 ·rw[qj mH 14 tC,cO,fO lK]
 rw[key p,<-e,jg];exact h.row
theorem Jf(h:lY x w f n num ahead gi i)(k:Nat)(p:qm)(hp:i.ps[k]?=some p)(hon:i.on=true)(ht:p.told=true)(z:Int)(hz:z=(k:Int)+1)(hx:x<w.heap.size):
  Y 259 #[gi,U z] w fun e w'=>e= .returned (.tuple #[.agg #[U 0,U 0,U 0,(),()],false])/\Be w w':=by
 have hk:k<16:=by have:=(ah.1 hp).1;rw[h.len] at this;exact this
 obtain⟨H,HP,HX,HZ,HT,PI⟩:=j6 h hp hx hz ht hon;clear h hp hx hz ht hon;go_enter func259,ntmps259
 go_upto_region 1 with fail
 generalize hv1:w.alloc _=v1;generalize hg4:w.heap.size=g4;replace hv1:=hv1.symm;replace hg4:=hg4.symm;have X1:=xNew hv1 hg4;have B1:=tQ hv1;have GE:Hid (w.heap.size<=g4):=jj lK;have H1:=jj (H.below B1);clear hv1 hg4
 go_wp2_with fail
 refine(wC H1 k hk z HZ).mono ?_;rintro e w' ⟨rfl,rfl⟩;have c1:J v1 i.gl (k*14+1) true:=by rw[<-HT.out];exact H1.cell HP 1 lK _ rfl
 have c4:J v1 gi 4 true:=(H1.blk.cell 4).trans (by rw[<-PI.out];rfl);have Y0:=X1;have BS:=B1;have y0:=Y0.out.at_ 0;have z0:=Y0.out.frozen 0;have y1:=Y0.out.at_ 1;have z1:=Y0.out.frozen 1;have y2:=Y0.out.at_ 2;have z2:=Y0.out.frozen 2;have y3:=Y0.out.at_ 3;have z3:=Y0.out.frozen 3;have y4:=Y0.out.at_ 4;have z4:=Y0.out.frozen 4
 go_wp2_with fail
 obtain⟨w9,mE⟩:=ex (setW v1 g4 0 [U 0,U 0,U 0,(),()]);have K9:=uL mE Y0.out;have o9:=vM mE;simp only[setW,aO,Nat.reduceAdd] at mE;rw[<-mE];clear mE;have B9:Be w w9:=o9.below BS.out BS.out.size (mR GE.out);clear y0 y1 y2 y3 y4 z0 z1 z2 z3 z4;refine dF (v:= .tuple #[.agg #[U 0,U 0,U 0,(),()],false]) ?_ rfl ⟨rfl,B9⟩;exact(mV Tryz.results259 _ w9 g4 _ _ _ _ (by rfl) K9 underlying228 rfl (by kernel_rfl)).trans rfl
theorem Gu(h:lY x w f n num ahead gi i)(k:Nat)(p:qm)(hp:i.ps[k]?=some p)(hon:i.on=true)(ht:p.told=false)(hs:p.sl.has=false)(z:Int)(hz:z=(k:Int)+1)(hx:x<w.heap.size):
  Y 259 #[gi,U z] w fun e w'=>e= .returned (.tuple #[.agg #[U 0,U 0,U 0,(),()],false])/\Be w w':=by
 have hk:k<16:=by have:=(ah.1 hp).1;rw[h.len] at this;exact this
 obtain⟨H,HP,HX,HZ,HT,PI⟩:=j6 h hp hx hz ht hon;have HS:=jj hs;clear h hp hx hz ht hon hs;go_enter func259,ntmps259
 go_upto_region 1 with fail
 generalize hv1:w.alloc _=v1;generalize hg4:w.heap.size=g4;replace hv1:=hv1.symm;replace hg4:=hg4.symm;have X1:=xNew hv1 hg4;have B1:=tQ hv1;have GE:Hid (w.heap.size<=g4):=jj lK;have H1:=jj (H.below B1);clear hv1 hg4
 go_wp2_with fail
 refine(wC H1 k hk z HZ).mono ?_;rintro e w' ⟨rfl,rfl⟩;have c0:J v1 i.gl (k*14) p.g:=H1.cell HP 0 lK _ rfl;have c1:J v1 i.gl (k*14+1) false:=by rw[<-HT.out];exact H1.cell HP 1 lK _ rfl
 have c4:J v1 gi 4 true:=(H1.blk.cell 4).trans (by rw[<-PI.out];rfl)
 go_wp2_with fail
 refine(OP (H1.at_ p (ak HP)).slot HS).mono ?_;rintro e w' ⟨rfl,rfl⟩;have Y0:=X1;have BS:=B1;have y0:=Y0.out.at_ 0;have z0:=Y0.out.frozen 0;have y1:=Y0.out.at_ 1;have z1:=Y0.out.frozen 1;have y2:=Y0.out.at_ 2;have z2:=Y0.out.frozen 2;have y3:=Y0.out.at_ 3;have z3:=Y0.out.frozen 3;have y4:=Y0.out.at_ 4;have z4:=Y0.out.frozen 4
 go_wp2_with fail
 obtain⟨w9,mE⟩:=ex (setW v1 g4 0 [U 0,U 0,U 0,(),()]);have K9:=uL mE Y0.out;have o9:=vM mE;simp only[setW,aO,Nat.reduceAdd] at mE;rw[<-mE];clear mE;have B9:Be w w9:=o9.below BS.out BS.out.size (mR GE.out);clear y0 y1 y2 y3 y4 z0 z1 z2 z3 z4;refine dF (v:= .tuple #[.agg #[U 0,U 0,U 0,(),()],false]) ?_ rfl ⟨rfl,B9⟩;exact(mV Tryz.results259 _ w9 g4 _ _ _ _ (by rfl) K9 underlying228 rfl (by kernel_rfl)).trans rfl
theorem KJ(h:lY x w f n num ahead gi i)(k:Nat)(p:qm)(hp:i.ps[k]?=some p)(hon:i.on=true)(ht:p.told=false)(hs:p.sl.has=true)(h1:1<=f)(h4:f<=4)(xP:n<=13)(q:Nat)(hq:(q:Int)=2*f+1)(hr:qx q (p.sl.pr.map rC.val) p.sl.bs=none)(z:Int)(hz:z=(k:Int)+1)(hx:x<w.heap.size):
  Y 259 #[gi,U z] w fun e w'=>e= .returned (.tuple #[.agg #[U 0,U 0,U 0,(),()],false])/\Be w w':=by
 have hk:k<16:=by have:=(ah.1 hp).1;rw[h.len] at this;exact this
 obtain⟨H,HP,HX,HZ,HT,PI⟩:=j6 h hp hx hz ht hon;obtain⟨HS,HR,HQ⟩:=j3 hs hr hq;clear hr hq h hp hx hz ht hon hs;go_enter func259,ntmps259
 go_upto_region 1 with fail
 generalize hv1:w.alloc _=v1;generalize hg4:w.heap.size=g4;replace hv1:=hv1.symm;replace hg4:=hg4.symm;have X1:=xNew hv1 hg4;have B1:=tQ hv1;have GE:Hid (w.heap.size<=g4):=jj lK;have H1:=jj (H.below B1);clear hv1 hg4
 go_wp2_with fail
 refine(wC H1 k hk z HZ).mono ?_;rintro e w' ⟨rfl,rfl⟩;have c0:J v1 i.gl (k*14) p.g:=H1.cell HP 0 lK _ rfl;have c1:J v1 i.gl (k*14+1) false:=by rw[<-HT.out];exact H1.cell HP 1 lK _ rfl
 have c4:J v1 gi 4 true:=(H1.blk.cell 4).trans (by rw[<-PI.out];rfl);have PL:=jj (H1.at_ p (ak HP))
 go_wp2_with fail
 refine(Ga PL.slot HS h1 h4 xP PL.short.b PL.short.ps q HQ none HR).mono ?_;rintro e w2 ⟨(⟨vs,a',k',c',hvs,hk',rfl,ho⟩|⟨hno,rfl⟩),hb⟩
 ·cases hvs
 clear hno;have Y0:=jj (X1.below hb X1.lt);have BS:=nO B1 hb;clear hb c0 c1 c4;have y0:=Y0.at_ 0;have z0:=Y0.frozen 0;have y1:=Y0.at_ 1;have z1:=Y0.frozen 1;have y2:=Y0.at_ 2;have z2:=Y0.frozen 2;have y3:=Y0.at_ 3;have z3:=Y0.frozen 3;have y4:=Y0.at_ 4;have z4:=Y0.frozen 4
 go_wp2_with fail
 obtain⟨w9,mE⟩:=ex (setW w2 g4 0 [U 0,U 0,U 0,(),()]);have K9:=uL mE Y0;have o9:=vM mE;simp only[setW,aO,Nat.reduceAdd] at mE;rw[<-mE];clear mE;have B9:Be w w9:=o9.below BS BS.size (mR GE.out);clear y0 y1 y2 y3 y4 z0 z1 z2 z3 z4;refine dF (v:= .tuple #[.agg #[U 0,U 0,U 0,(),()],false]) ?_ rfl ⟨rfl,B9⟩;exact(mV Tryz.results259 _ w9 g4 _ _ _ _ (by rfl) K9 underlying228 rfl (by kernel_rfl)).trans rfl
theorem KD(h:lY x w f n num ahead gi i)(k:Nat)(p:qm)(hp:i.ps[k]?=some p)(ht:p.done=true)(z:Int)(hz:z=(k:Int)+1)(hx:x<w.heap.size):
  Y 260 #[gi,U z] w fun e w'=>e= .returned (.tuple #[.agg #[U 0,U 0,U 0,(),()],false])/\Be w w':=by
 have hk:k<16:=by have:=(ah.1 hp).1;rw[h.len] at this;exact this
 obtain⟨H,HP,HX,HZ,HT⟩:=j5 h hp hx hz ht;clear h hp hx hz ht;go_enter func260,ntmps260
 go_upto_region 1 with fail
 generalize hv1:w.alloc _=v1;generalize hg4:w.heap.size=g4;replace hv1:=hv1.symm;replace hg4:=hg4.symm;have X1:=xNew hv1 hg4;have B1:=tQ hv1;have GE:Hid (w.heap.size<=g4):=jj lK;have H1:=jj (H.below B1);clear hv1 hg4
 go_wp2_with fail
 refine(wC H1 k hk z HZ).mono ?_;rintro e w' ⟨rfl,rfl⟩;have c1:J v1 i.gl (k*14+8) true:=by rw[<-HT.out];exact H1.cell HP 8 lK _ rfl
 have Y0:=X1;have BS:=B1;have y0:=Y0.out.at_ 0;have z0:=Y0.out.frozen 0;have y1:=Y0.out.at_ 1;have z1:=Y0.out.frozen 1;have y2:=Y0.out.at_ 2;have z2:=Y0.out.frozen 2;have y3:=Y0.out.at_ 3;have z3:=Y0.out.frozen 3;have y4:=Y0.out.at_ 4;have z4:=Y0.out.frozen 4
 go_wp2_with fail
 obtain⟨w9,mE⟩:=ex (setW v1 g4 0 [U 0,U 0,U 0,(),()]);have K9:=uL mE Y0.out;have o9:=vM mE;simp only[setW,aO,Nat.reduceAdd] at mE;rw[<-mE];clear mE;have B9:Be w w9:=o9.below BS.out BS.out.size (mR GE.out);clear y0 y1 y2 y3 y4 z0 z1 z2 z3 z4;refine dF (v:= .tuple #[.agg #[U 0,U 0,U 0,(),()],false]) ?_ rfl ⟨rfl,B9⟩;exact(mV Tryz.results260 _ w9 g4 _ _ _ _ (by rfl) K9 underlying228 rfl (by kernel_rfl)).trans rfl
theorem Oe(h:lY x w f n num ahead gi i)(k:Nat)(p:qm)(hp:i.ps[k]?=some p)(ht:p.done=false)(h1:1<=f)(h4:f<=4)(xP:n<=13)(q:Nat)(hq:(q:Int)=2*f+1)(hr:mQ q (p.sl.co.map rC.val) (p.sl.co.map rC.val)=none)(z:Int)(hz:z=(k:Int)+1)(hx:x<w.heap.size):
  Y 260 #[gi,U z] w fun e w'=>e= .returned (.tuple #[.agg #[U 0,U 0,U 0,(),()],false])/\Be w w':=by
 have hk:k<16:=by have:=(ah.1 hp).1;rw[h.len] at this;exact this
 obtain⟨H,HP,HX,HZ,HT,HR⟩:=j6 h hp hx hz ht hr;have HQ:=jj hq;clear h hp hx hz ht hr hq;go_enter func260,ntmps260
 go_upto_region 1 with fail
 generalize hv1:w.alloc _=v1;generalize hg4:w.heap.size=g4;replace hv1:=hv1.symm;replace hg4:=hg4.symm;have X1:=xNew hv1 hg4;have B1:=tQ hv1;have GE:Hid (w.heap.size<=g4):=jj lK;have H1:=jj (H.below B1);clear hv1 hg4
 go_wp2_with fail
 refine(wC H1 k hk z HZ).mono ?_;rintro e w' ⟨rfl,rfl⟩;have c0:J v1 i.gl (k*14) p.g:=H1.cell HP 0 lK _ rfl;have c1:J v1 i.gl (k*14+8) false:=by rw[<-HT.out];exact H1.cell HP 8 lK _ rfl
 have PL:=jj (H1.at_ p (ak HP))
 go_wp2_with fail
 refine(Eb PL.slot h1 h4 xP PL.short.cs (aB HX B1.size) q HQ none HR).mono ?_;rintro e w2 ⟨(⟨b,vs,a,m,c,a',k',c',hvs,_,_,hk',rfl,ho,ho'⟩|⟨hno,rfl⟩),hb⟩
 ·cases hvs
 clear hno;have Y0:=jj (X1.below hb X1.lt);have BS:=nO B1 hb;clear hb c0 c1;have y0:=Y0.at_ 0;have z0:=Y0.frozen 0;have y1:=Y0.at_ 1;have z1:=Y0.frozen 1;have y2:=Y0.at_ 2;have z2:=Y0.frozen 2;have y3:=Y0.at_ 3;have z3:=Y0.frozen 3;have y4:=Y0.at_ 4;have z4:=Y0.frozen 4
 go_wp2_with fail
 obtain⟨w9,mE⟩:=ex (setW w2 g4 0 [U 0,U 0,U 0,(),()]);have K9:=uL mE Y0;have o9:=vM mE;simp only[setW,aO,Nat.reduceAdd] at mE;rw[<-mE];clear mE;have B9:Be w w9:=o9.below BS BS.size (mR GE.out);clear y0 y1 y2 y3 y4 z0 z1 z2 z3 z4;refine dF (v:= .tuple #[.agg #[U 0,U 0,U 0,(),()],false]) ?_ rfl ⟨rfl,B9⟩;exact(mV Tryz.results260 _ w9 g4 _ _ _ _ (by rfl) K9 underlying228 rfl (by kernel_rfl)).trans rfl
theorem KF(h:lY x w f n num ahead gi i)(k:Nat)(p:qm)(hp:i.ps[k]?=some p)(ht:p.done=false)(z:Int)(hz:z=(k:Int)+1)(hx:x<w.heap.size):
  Y 174 #[gi,U z] w fun e w'=>e= .returned (.tuple #[.agg #[U 0,U 0,U 0,(),()],false])/\Be w w':=by
 have hk:k<16:=by have:=(ah.1 hp).1;rw[h.len] at this;exact this
 obtain⟨H,HP,HX,HZ,HT⟩:=j5 h hp hx hz ht;clear h hp hx hz ht;go_enter func174,ntmps174
 go_upto_region 1 with fail
 generalize hv1:w.alloc _=v1;generalize hg4:w.heap.size=g4;replace hv1:=hv1.symm;replace hg4:=hg4.symm;have X1:=xNew hv1 hg4;have B1:=tQ hv1;have GE:Hid (w.heap.size<=g4):=jj lK;have H1:=jj (H.below B1);clear hv1 hg4
 go_wp2_with fail
 refine(wC H1 k hk z HZ).mono ?_;rintro e w' ⟨rfl,rfl⟩;have c1:J v1 i.gl (k*14+8) false:=by rw[<-HT.out];exact H1.cell HP 8 lK _ rfl
 have Y0:=X1;have BS:=B1;have y0:=Y0.out.at_ 0;have z0:=Y0.out.frozen 0;have y1:=Y0.out.at_ 1;have z1:=Y0.out.frozen 1;have y2:=Y0.out.at_ 2;have z2:=Y0.out.frozen 2;have y3:=Y0.out.at_ 3;have z3:=Y0.out.frozen 3;have y4:=Y0.out.at_ 4;have z4:=Y0.out.frozen 4
 go_wp2_with fail
 obtain⟨w9,mE⟩:=ex (setW v1 g4 0 [U 0,U 0,U 0,(),()]);have K9:=uL mE Y0.out;have o9:=vM mE;simp only[setW,aO,Nat.reduceAdd] at mE;rw[<-mE];clear mE;have B9:Be w w9:=o9.below BS.out BS.out.size (mR GE.out);clear y0 y1 y2 y3 y4 z0 z1 z2 z3 z4;refine dF (v:= .tuple #[.agg #[U 0,U 0,U 0,(),()],false]) ?_ rfl ⟨rfl,B9⟩;exact(mV Tryz.results174 _ w9 g4 _ _ _ _ (by rfl) K9 underlying228 rfl (by kernel_rfl)).trans rfl
end
section
variable{w w':World}{gt:Nat}{f cl:Int}{T:List oO}{S:LN}
theorem Bf{d d':oO}{v:Value}(hd:T[k]?=some d)(hj:j<21)(he:xW d'=(xW d).set j v):(T.flatMap xW).set (k*21+j) v=(T.set k d').flatMap xW:=by
 obtain⟨hk,e⟩:=ah.1 hd;have key: ∀p:oO,(T.take k).flatMap xW++(xW p++(T.drop (k+1)).flatMap xW)=(T.set k p).flatMap xW:=fun p=>by
  rw[iX,aV hk];simp
 have l1:((T.take k).flatMap xW).length=k*21:=by rw[qj xW 21 He,cO,fO lK]
 rw[<-key d',he,<-set_mid _ _ _ j v (by rw[He];exact hj),l1,key d,<-e,jg]
def oO.tell(d:oO)(j:Nat):oO:={d with nX:=fun i=>if i=j then true else d.nX i}
theorem JV(d:oO)(j:Nat)(hj:j<13):xW (d.tell j)=(xW d).set (6+j) true:=by
 match j,hj with
 |0,_|1,_|2,_|3,_|4,_|5,_|6,_|7,_|8,_|9,_|10,_|11,_|12,_=>rfl
def oO.count(d:oO):Nat:=Tok.count [d.nX 0,d.nX 1,d.nX 2,d.nX 3,d.nX 4,d.nX 5,d.nX 6,d.nX 7,d.nX 8,d.nX 9,d.nX 10,d.nX 11,d.nX 12]
def oO.told(d:oO)(f:Int)(j:Nat)(c:Int):oO:=if d.ready=false/\f+1<=((d.tell j).count:Int) then{d.tell j with ready:=true,since:=c} else d.tell j
theorem YE(h:TabAt w gt f cl T S)(h1:1<=f)(h4:f<=4)(hT:T.length<=64)(r:Rq)(hr:0<=r.1/\r.1<cl)(k:Nat)(ha:AtR T r k true)(d:oO)(hd:T[k]?=some d)(j:Nat)(hj:(j:Int)<=3*f)(hn:d.nX j=false)(c:Int):
  Y 215 #[gt,Kh r,U j,U c] w fun e w'=>e= .returned (.tuple #[false,(!d.ready&&decide (f+1<=((d.tell j).count:Int))),U 0])/\TabAt w' gt f cl (T.set k (d.told f j c)) S/\Only S w w':=by
 have HD:=jj hd;clear hd;obtain⟨H,HA,HN⟩:=j3 h ha hn;obtain⟨y0,y1,y2,y3,y4,y5⟩:=r;simp only at hr;obtain⟨a0,cap,-,hblk,-⟩:=h.ex;obtain⟨n0,hn0⟩:=ex T.length;rw[<-hn0] at hblk hT;have AZ:=jj hn0;have BT:=jj hblk;clear h ha hblk hn0;show Y 215 #[gt,.agg #[U y0,U y1,U y2,U y3,U y4,U y5],U j,U c] w _;go_enter func215,ntmps215
 go_upto_region 1 with fail
 generalize hw1:w.alloc _=w1;generalize hg5:w.heap.size=g5;replace hw1:=hw1.symm;replace hg5:=hg5.symm;obtain⟨B1,BX⟩:=nw hw1 hg5;have BT1:=jj (BT.below B1 BT.lt);clear hw1 hg5;have i1: ¬y0<0:=lK;have i2: ¬cl<=y0:=lK;have i3:(0:Int)<=j:=lK;have i4: ¬(j:Int)<0:=lK;have i5: ¬3*f+1<=(j:Int):=lK;have x0:=BX.drew.at_ 0;have x1:=BT1.drew.at_ 1;have x2:=BT1.drew.at_ 0;refine qI (fun w'=>J w' g5 0 (U y0)/\J w' gt 1 (U cl)/\J w' gt 0 (U f)) 25 (tk 0 25 .done) (by kernel_rfl) (by kernel_rfl) (by kernel_rfl) ⟨x0,x1,x2⟩ ?_;intro hS0
 repeat(first|refine' uT ?_|refine' uS ?_)
 refine pR _ _ rfl (by rfl) (by assumption) (fun w=>by go_simp;try exact⟨rfl,rfl⟩) (fun w hSw=>(oC f w h1 h4)) ?_;try simp only[Nw]
 repeat(first|refine' uT ?_|refine' uS ?_)
 refine qO ?_;clear hS0 x0 x1 x2;obtain⟨w1',Od⟩:=ex w1.drew;rw[<-Od];have UW:Hid (Be w w1'):=jj (by rw[Od];exact B1.drew);have BX':Hid (lQ w1' g5 49 #[U y0,U y1,U y2,U y3,U y4,U y5]):=jj (by rw[Od];exact BX.drew);clear Od;obtain⟨d0,d1,d2,d3,d4,d5⟩:=BX'.a6
 go_wp2_with fail
 refine(JR (H.below UW) (by rw[<-AZ.out];exact hT) (y0,y1,y2,y3,y4,y5) k HA.le HA.lo true HA.hi).mono ?_;rintro e w2 ⟨rfl,hb⟩;have B2:=nO UW hb;have H2:=jj (H.below B2);have BT2:=jj (BT.below B2 BT.lt);have yM:=jj (BX'.below hb BX'.lt);clear hb d0 d1 d2 d3 d4 d5;obtain⟨ga,cap',hS,hbk,hrow,hcell⟩:=H2.line HD;obtain⟨rfl,rfl⟩:a0=some ⟨ga,0,none⟩/\cap=cap':=by
  have e1:=BT2.cell 2;have e2:=hbk.cell 2;rw[e1] at e2;simp at e2;exact⟨e2.1,e2.2.2⟩
 have HS:=jj hS;have hk:k<n0:=by rw[AZ.out];exact(ah.1 HD).1
 have j13:j<13:=lK;have VL:(0:Int)<=k:=lK;have ik:(k:Int)<n0:=lK;have c2:=BT2.at_ 2;have cb:J w2 ga (k*21+6+j) false:=by
  rw[dL,<-HN.out];refine hcell (6+j) _ lK ?_
  match j,j13 with
  |0,_|1,_|2,_|3,_|4,_|5,_|6,_|7,_|8,_|9,_|10,_|11,_|12,_=>rfl
 have R2:=jj hrow;clear hcell hrow hbk hS
 go_wp2_with fail
 refine(RI _ ga (k*21+6) j j13 (j:Int) rfl cb (R2.frozen _)).mono ?_;rintro e w3 ⟨rfl,hw3⟩;have T3:Hid (Row w3 ga 356 21 T.length cap ((T.set k (d.tell j)).flatMap xW)):=jj (by
  rw[hw3,<-Bf HD lK (JV d j j13),<-dL];exact R2.mg (k*21+6+j) true)
 have O3:Hid (Only [ga] w2 w3):=jj (by rw[hw3];exact(Only.refl [ga] _).setCell (.inl lT) _);have NE:Hid (gt≠ga):=jj (fun e=>by have:=R2.ne BT2 lN;exact this e.symm);have BT3:=jj (BT2.only O3 (mR NE.out));have H3:Hid (TabAt w3 gt f cl (T.set k (d.tell j)) S):=jj ⟨some ⟨ga,0,none⟩,cap,by simpa using HS.out,by rw[bG,<-AZ.out];exact BT3.out,by rw[bG];exact T3.out⟩;have HD3:Hid ((T.set k (d.tell j))[k]?=some (d.tell j)):=jj (aL (by rw[<-AZ.out];exact hk));have L3: ∀i v,i<21->(xW (d.tell j))[i]?=some v->J w3 ga (k*21+i) v:=fun i v hi hv=>T3.cell (nT xW 21 He _ k i hi (by rw[bG,<-AZ.out];exact hk) v (by rw[List.getElem_set_self];exact hv));have CP:=jj L3;have ON3:Hid (Only [ga] w w3):=jj ((Only.of_below B2).trans O3);clear hw3 c2 cb L3
 go_upto_region 19 with fail
 obtain⟨cn,hcn⟩:=ex ((d.tell j).count);have HCN:=jj hcn;obtain⟨rd,hrd⟩:=ex d.ready;have HRD:=jj hrd;clear hcn hrd;have KS: ∀w',Be w3 w'->J w' ga (k*21+19) rd/\J w' gt 0 (U f):=fun w' o=>⟨kept o _ _ (by rw[HRD.out];exact CP.out 19 _ lK rfl),kept o _ _ (BT3.cell 0)⟩;refine qI (fun w'=>J w' ga (k*21+19) rd/\J w' gt 0 (U f)) 17 (tk 0 9 (tk 10 4 (.one 9 (tk 14 3 .done)))) (by kernel_rfl) (by kernel_rfl) (by kernel_rfl) (KS _ (aC _ _).drew) ?_;intro hS0
 cases rd with
 |true=>
  have TE:Hid (d.told f j c=d.tell j):=jj (aU (fun h=>by have:=HRD.out;rw[h.1] at this;cases this))
  repeat(first|refine' uT ?_|refine' uS ?_)
  try(refine yJ rfl (fun KT lS=> ?_);go_simp;refine oH lS hS0 ?_)
  repeat(first|refine' uT ?_|refine' uS ?_)
  refine qO ?_;clear hS0 KS
  go_wp2_with fail
  go_ret3
  rw[TE.out];exact⟨by rw[<-HRD.out];first|rfl|trivial,H3.below (aC _ _).drew,(ON3.mono (fun b hb=> .inl (by simp only[au] at hb;rw[HS.out,hb];simp))).drew⟩
 |false=>
  repeat(first|refine' uT ?_|refine' uS ?_)
  refine yJ rfl (fun KT lS=> ?_);go_simp;refine(acp w3.drew ga (k*21+6) ((d.tell j).nX 0) ((d.tell j).nX 1) ((d.tell j).nX 2) ((d.tell j).nX 3) ((d.tell j).nX 4) ((d.tell j).nX 5) ((d.tell j).nX 6) ((d.tell j).nX 7) ((d.tell j).nX 8) ((d.tell j).nX 9) ((d.tell j).nX 10) ((d.tell j).nX 11) ((d.tell j).nX 12) ((CP.out 6 _ lK rfl)) ((CP.out 7 _ lK rfl)) ((CP.out 8 _ lK rfl)) ((CP.out 9 _ lK rfl)) ((CP.out 10 _ lK rfl)) ((CP.out 11 _ lK rfl)) ((CP.out 12 _ lK rfl)) ((CP.out 13 _ lK rfl)) ((CP.out 14 _ lK rfl)) ((CP.out 15 _ lK rfl)) ((CP.out 16 _ lK rfl)) ((CP.out 17 _ lK rfl)) ((CP.out 18 _ lK rfl))).mono ?_;rintro e w4 ⟨rfl,hb4⟩;rw[show Tok.count [(d.tell j).nX 0,(d.tell j).nX 1,(d.tell j).nX 2,(d.tell j).nX 3,(d.tell j).nX 4,(d.tell j).nX 5,(d.tell j).nX 6,(d.tell j).nX 7,(d.tell j).nX 8,(d.tell j).nX 9,(d.tell j).nX 10,(d.tell j).nX 11,(d.tell j).nX 12]=cn from HCN.symm];have BB:=jj ((aC w3.heap.size w3).drew.trans hb4);clear hb4;have S4:=KS _ BB;refine oH lS S4 ?_;clear hS0;have hS0:=S4
  repeat(first|refine' uT ?_|refine' uS ?_)
  refine pR _ _ rfl (by rfl) (by assumption) (fun w=>by go_simp;try exact⟨rfl,rfl⟩) (fun w hSw=>(UR f w h1 h4)) ?_;try simp only[Nw]
  by_cases hge:f+1<=(cn:Int)
  ·have d1:decide (f+1<=(cn:Int))=true:=aZ hge
   have TE:Hid (d.told f j c={d.tell j with ready:=true,since:=c}):=jj (aV ⟨HRD.symm,by rw[<-HCN.out];exact hge⟩)
   repeat(first|refine' uT ?_|refine' uS ?_)
   refine qO ?_;clear hS0 S4;have T4:=jj (T3.below BB);have BT4:=jj (BT3.below BB BT3.lt);have c19:J w4 ga (k*21+19) false:=(KS _ BB).1;have c20:J w4 ga (k*21+20) (U d.since):=kept BB _ _ (CP.out 20 _ lK rfl);have f19:=T4.frozen (k*21+19);have f20:=T4.frozen (k*21+20);clear KS
   go_wp2_with fail
   go_ret3
   rw[TE.out];obtain⟨w9,mE⟩:=ex ((w4.setCell ⟨ga,k*21+19,none⟩ true).setCell ⟨ga,k*21+20,none⟩ (U c));rw[<-mE];have o9:Only [ga] w4 w9:=by rw[mE];exact((Only.refl [ga] _).setCell (.inl lT) _).setCell (.inl lT) _
   have r9:Row w9 ga 356 21 T.length cap ((T.set k {d.tell j with ready:=true,since:=c}).flatMap xW):=by
    have t1:=(T4.mg (k*21+19) true).mg (k*21+20) (U c);rw[<-mE] at t1;have e1:=Bf (d':={d.tell j with ready:=true}) (v:= .bool true) HD3 (show 19<21 by omega) rfl;have hd4:((T.set k (d.tell j)).set k {d.tell j with ready:=true})[k]?=some {d.tell j with ready:=true}:=aL (by rw[bG,<-AZ.out];exact hk);have e2:=Bf (d':={d.tell j with ready:=true,since:=c}) (v:= U c) hd4 (show 20<21 by omega) rfl;rw[e1,e2] at t1;simpa using t1
   refine⟨by rw[<-HRD.out,<-HCN.out,d1];first|rfl|trivial,⟨some ⟨ga,0,none⟩,cap,by simpa using HS.out,by rw[bG,<-AZ.out];exact BT4.only o9 (mR NE.out),by rw[bG];exact r9⟩,?_⟩;exact((ON3.belows BB).trans o9).mono (fun b hb=> .inl (by simp only[au] at hb;rw[HS.out,hb];simp))
  have d1:decide (f+1<=(cn:Int))=false:=aR hge;have TE:Hid (d.told f j c=d.tell j):=jj (aU (fun h=>hge (by rw[HCN.out];exact h.2)))
  repeat(first|refine' uT ?_|refine' uS ?_)
  refine qO ?_;clear hS0 S4 KS
  go_wp2_with fail
  go_ret3
  rw[TE.out];exact⟨by rw[<-HRD.out,<-HCN.out,d1];first|rfl|trivial,H3.below BB,(ON3.belows BB).mono (fun b hb=> .inl (by simp only[au] at hb;rw[HS.out,hb];simp))⟩
end
section
variable{P:Program}
theorem Rn(w:World)(dT sT ty elem:TypeId)(d a:OA)(dLen dCap sLen sCap S:Nat)(hu:P.underlying dT=some (.slice elem))(hs:(P.info? elem).map (·.size)=some S)(hn:Nat.min sLen dLen=0):
  (Builtin.copy_ #[dT,sT] ty #[.slice d dLen dCap,.slice a sLen sCap]).run P w= .ok (goInt 0) w:=by
 cases hq:P.info? elem with
 |none=>simp[hq] at hs
 |some i=>
  have hl: ∀(x:Addr),(loadCells x 0).run P w= .ok #[] w:=fun x=>by simpa using jG (P:=P) w x [] lT
  cases d<;>cases a<;>simp[Builtin.copy_,fD hu,Builtin.lenOf,Builtin.firstCells,sizeOf,typeInfo,hq,hn,storeCells,hl]
theorem DY{t:TypeId}{s n cap:Nat}: ∀(vs:LV) (o:Nat) (w:World) (L:LV),Row w g t s n cap L->Row (w.setCells g o vs) g t s n cap (setMany L o vs)
 | [],_,_,_,h=>h
 |v::vs,o,w,L,h=>DY vs (o+1) _ _ (h.mg o v)
theorem Al(hg:g∈S): ∀(vs:LV) (o:Nat) (a w:World),Only S a w->Only S a (w.setCells g o vs)
 | [],_,_,_,h=>h
 |v::vs,o,a,w,h=>Al hg vs (o+1) a _ (h.setCell (.inl hg) v)
end
end Go.Proofs.YtgnhecmnlddjhaaGreat
