/- TopAlone, part 9 of 24: a proof squeezed by a program. -/
import Derived.Test.YtgnhecmnlddjhaaGreatZ07
import Derived.StillTactics
set_option linter.unusedVariables false
set_option linter.unusedSimpArgs false
set_option linter.defProp false
set_option maxRecDepth 100000
set_option maxHeartbeats 6400000
namespace Go.Proofs.YtgnhecmnlddjhaaGreat
open Go.RowKit Go.Proofs.Tryz
variable{A a:OA}{E:Prop}{K:Act->World->Prop}{P:Program}{Q:Exit->Act->World->Prop}{c gc gl k m n s x y:Nat}{o:Oper}{ops:Array Oper}{st:List (Int×Int)}{v:Value}{w w':World}{xs:LV}{z:Int}
section
variable{w w':World}{gt:Nat}{f cl:Int}{T:List oO}{S:LN}
theorem OQ     {a:Act}    (hgd:o.guard=none) (d s:Operand) (dT sT:TypeId)
  (ho:o.op= .call {callee:= .builtin .copy,args:=#[d,s],argTypes:=#[dT,sT]}) (elem:TypeId) (hu:P.underlying dT=some (.slice elem)) (S:Nat) (hsz:(P.info? elem).map (·.size)=some S)
  (dp sp:OA) (dLen dCap sLen sCap:Nat) (hd:a.eval d= .slice dp dLen dCap) (hs:a.eval s= .slice sp sLen sCap) (hn:Nat.min sLen dLen=0)
  (h:K (a.put o.dst (goInt 0)) w):if Region.wanted o (yielded ops a.tmps)=true then Oper.wp P o a w K Q else E:=by
 have hw:Region.wanted o (yielded ops a.tmps)=true:=by simp[Region.wanted,hgd]
 rw[aV hw];have hrun:=Rn (P:=P) w dT sT o.type elem dp sp dLen dCap sLen sCap S hu hsz hn;unfold Oper.wp;simp[execOp,ho,resolve,invoke,builtin,hd,hs,hrun,Result.andThen];exact h
theorem JN     {a:Act}    (hgd:o.guard=none) (ty:TypeId) (x y:Operand) (ho:o.op= .store ty x y)
  (b q:Nat) (cells:AV) (hx:a.eval x= .pointer (some ⟨b,q,none⟩)) (hy:a.eval y= .agg cells) (ht:w.there b q cells.size) (hi:(P.info? ty).map (·.size)=some cells.size) (h1:cells.all (·.oneCell')=true)
  (h:K (a.put o.dst undef) (w.setCells b q cells.toList)):if Region.wanted o (yielded ops a.tmps)=true then Oper.wp P o a w K Q else E:=by
 have hw:Region.wanted o (yielded ops a.tmps)=true:=by simp[Region.wanted,hgd]
 rw[aV hw];exact wp_store_mid ty x y ho b q cells hx hy ht hi h1 h
theorem Nc(w:World):(sizeOf 356).run prog w= .ok 21 w:=by
 obtain⟨i,z,hi,_,hs,_⟩:=zq;simp[sizeOf,typeInfo,hi,hs]
def WI(r:Rq):oO:=⟨r,fun _=>false,false,0⟩
theorem UN(h:TabAt w gt f cl T S)(h1:1<=f)(h4:f<=4)(hT0:T= [])(r:Rq)(hr:0<=r.1/\r.1<cl)(j:Nat)(hj:(j:Int)<=3*f)(c:Int):
  Y 215 #[gt,Kh r,U j,U c] w fun e w'=>e= .returned (.tuple #[true,false,U 0])/\ ∃S',TabAt w' gt f cl [(WI r).tell j] S'/\Only S w w'/\ ∀b∈S',b∈S\/w.heap.size<=b:=by
 obtain⟨i0,zi,hi0,hz0,hz1,hz2,hz3⟩:=zq;obtain⟨k,hk0⟩: ∃k:Nat,k=0:=⟨_,rfl⟩;have ha:AtR T r k false:=⟨lK,fun q d hq _=>by omega,.inr ⟨rfl,by rw[hk0,hT0];rfl⟩⟩;have hT:T.length<=64:=by rw[hT0];simp
 have HT0:=jj hT0;have HK0:=jj hk0;have hn:=hT0;have H:=jj h;have HA:=jj ha;obtain⟨y0,y1,y2,y3,y4,y5⟩:=r;simp only at hr;obtain⟨a0,cap,hS0,hblk,hown⟩:=h.ex;have HS0:=jj hS0;have HOW:=jj hown;clear hS0 hown;obtain⟨n0,hn0⟩:=ex T.length;rw[<-hn0] at hblk hT;have AZ:=jj hn0;have BT:=jj hblk;clear h ha hblk hn0 hn hT0 hk0;show Y 215 #[gt,.agg #[U y0,U y1,U y2,U y3,U y4,U y5],U j,U c] w _;go_enter func215,ntmps215
 go_upto_region 1 with fail
 generalize hw1:w.alloc _=w1;generalize hg5:w.heap.size=g5;replace hw1:=hw1.symm;replace hg5:=hg5.symm;obtain⟨B1,BX⟩:=nw hw1 hg5;have BT1:=jj (BT.below B1 BT.lt);clear hw1 hg5;have i1: ¬y0<0:=lK;have i2: ¬cl<=y0:=lK;have i3:(0:Int)<=j:=lK;have i4: ¬(j:Int)<0:=lK;have i5: ¬3*f+1<=(j:Int):=lK;have x0:=BX.drew.at_ 0;have x1:=BT1.drew.at_ 1;have x2:=BT1.drew.at_ 0;refine qI (fun w'=>J w' g5 0 (U y0)/\J w' gt 1 (U cl)/\J w' gt 0 (U f)) 25 (tk 0 25 .done) (by kernel_rfl) (by kernel_rfl) (by kernel_rfl) ⟨x0,x1,x2⟩ ?_;intro hS0
 repeat(first|refine' uT ?_|refine' uS ?_)
 refine pR _ _ rfl (by rfl) (by assumption) (fun w=>by go_simp;try exact⟨rfl,rfl⟩) (fun w hSw=>(oC f w h1 h4)) ?_;try simp only[Nw]
 repeat(first|refine' uT ?_|refine' uS ?_)
 refine qO ?_;clear hS0 x0 x1 x2;obtain⟨w1',Od⟩:=ex w1.drew;rw[<-Od];have UW:Hid (Be w w1'):=jj (by rw[Od];exact B1.drew);have BX':Hid (lQ w1' g5 49 #[U y0,U y1,U y2,U y3,U y4,U y5]):=jj (by rw[Od];exact BX.drew);clear Od;obtain⟨d0,d1,d2,d3,d4,d5⟩:=BX'.a6
 go_wp2_with fail
 refine(JR (H.below UW) (by rw[<-AZ.out];exact hT) (y0,y1,y2,y3,y4,y5) k HA.le HA.lo false HA.hi).mono ?_;rintro e w2 ⟨rfl,hb⟩;have B2:=nO UW hb;have H2:=jj (H.below B2);have BT2:=jj (BT.below B2 BT.lt);have yM:=jj (BX'.below hb BX'.lt);clear hb d0 d1 d2 d3 d4 d5;have N0:Hid (n0=0):=jj (by rw[AZ.out,HT0.out];rfl);have c2:=BT2.at_ 2;have in0: ¬(0:Int)<(n0:Int):=by have:=N0.out;omega
 go_wp2_with fail
 go_loopw [13,55] (fun u q wr=>u= U 0/\q= U 0/\wr=w2) (fun _ _ _=>0)
 case atStart=>exact⟨rfl,rfl,rfl⟩
 case round=>
  obtain⟨rfl,rfl,rfl⟩:=hrel;have OW2:Hid (wr.ownsRow 0 356 21 (.slice a0 n0 cap) n0 []):=jj (by
   have:=own_below HOW B2;rw[HT0.out] at this;rw[N0.out];exact this)
  have ZO:Hid (∀v∈([U 0,U 0,U 0,U 0,U 0,U 0,false,false,false,false,false,false,false,false,false,false,false,false,false,false,U 0]:LV),v.oneCell'=true):=jj (by simp only[ay,aI,bK];intro v hv;rcases hv with rfl|rfl|rfl|rfl|rfl|rfl|rfl|rfl|rfl|rfl|rfl|rfl|rfl|rfl|rfl|rfl|rfl|rfl|rfl|rfl|rfl<;>rfl);have nl:n0<=64:=hT
  go_upto_region 15 with(first
   |(refine zu rfl 231 1 _ rfl #[(0,.agg (#[U 0,U 0,U 0,U 0,U 0,U 0,false,false,false,false,false,false,false,false,false,false,false,false,false,false,U 0]:AV))] (by go_simp) _ (EH (P:=prog) 231 356 i0 zi 21 underlying231 hi0 hz0 hz1 lK lK (#[U 0,U 0,U 0,U 0,U 0,U 0,false,false,false,false,false,false,false,false,false,false,false,false,false,false,U 0]:AV) rfl wr) ?_;try simp only[Act.put])
   |(at_builtin;refine lZ rfl _ _ _ rfl 0 356 i0 zi 21 72 underlying231 hi0 hz0 hz1 hz2 hz3 lK a0 n0 cap [] rfl (own_below OW2 nC) (some ⟨wr.heap.size,0,none⟩) 1 1 ([U 0,U 0,U 0,U 0,U 0,U 0,false,false,false,false,false,false,false,false,false,false,false,false,false,false,U 0]:LV) rfl (mo.nR (n:=1) (s:=21) (lQ.new wr 356 (#[U 0,U 0,U 0,U 0,U 0,U 0,false,false,false,false,false,false,false,false,false,false,false,false,false,false,U 0]:AV)) rfl) ZO (by unfold maxLen;omega) lK (bF _) ?_;intro a6 c6 w6 h6;have H6:=jj h6;have K6:=h6.ZT (own_below OW2 nC) (BT2.alloc (.cells (#[U 0,U 0,U 0,U 0,U 0,U 0,false,false,false,false,false,false,false,false,false,false,false,false,false,false,U 0]:AV) 356)) lN;have KK6:=jj K6;have x6:=K6.cell 2;have f6:=K6.frozen 2;clear h6 K6))
  have OW6:=H6.own;have n1:n0+1=1:=by rw[N0.out]
  have zk:(k:Int)=0:=by rw[HK0.out];rfl
  rw[n1,List.nil_append] at OW6;rw[n1];obtain⟨ga,hga⟩: ∃ga,a6=some ⟨ga,0,none⟩:=by
   rcases OW6.2 with⟨hv,h0⟩|⟨g,cp,cur,hv,_⟩
   ·cases h0
   injection hv with e1;exact⟨g,e1⟩
  subst hga;have HAT:=jj H6.at_;have amW:=jj H6.only;obtain⟨w7,hw7⟩:=ex (w6.setCell ⟨gt,2,none⟩ (O ga 1 c6));rw[<-hw7];have o7:Only [gt] w6 w7:=by rw[hw7];exact(Only.refl [gt] _).setCell (.inl lT) _
  have BT7:Hid (lQ w7 gt 233 #[U f,U cl,O ga 1 c6]):=jj (by rw[hw7];have:=KK6.mg 2 (O ga 1 c6);exact this);have R7:Hid (Row w7 ga 356 21 1 c6 ([U 0,U 0,U 0,U 0,U 0,U 0,false,false,false,false,false,false,false,false,false,false,false,false,false,false,U 0]:LV)):=jj (Row.sG (mh OW6 o7 KK6 lN));have BX6:Hid (lQ w6 g5 49 #[U y0,U y1,U y2,U y3,U y4,U y5]):=jj (H6.ZT (own_below OW2 nC) (yM.alloc (.cells (#[U 0,U 0,U 0,U 0,U 0,U 0,false,false,false,false,false,false,false,false,false,false,false,false,false,false,U 0]:AV) 356)) lN);have BX7:=jj (BX6.only o7 (mR (BX6.nY KK6 lN)));have O7:=jj o7;clear hw7 o7 x6 f6 c2
  go_upto_region 15 with fail
  obtain⟨A1,sl1,-⟩:=aax (P:=prog) (T:=231) (R7) underlying231 (by kernel_rfl) Nc 1 lK (1:Int) rfl;obtain⟨A2,sl2,-⟩:=aax (P:=prog) (T:=231) (R7) underlying231 (by kernel_rfl) Nc 0 lK (k:Int) zk;have ek:IntKind.i64.wrap ((k:Int)+1)=1:=by rw[zk];rfl
  have ZK:=jj zk;clear zk;refine rP (fun w'=>J w' gt 2 (O ga 1 c6)) 14 (tk 0 13 (.one 13 .done)) (BT7.drew.cell 2) ?_;intro hS0
  repeat refine' tT ?_
  refine pO fun KT lS=> ?_;refine OQ (by rfl) (.tmp 86) (.tmp 92) _ _ (by rfl) 356 underlying231 21 (by kernel_rfl) _ _ _ _ _ _ (by rfl) (by rfl) (by rfl) ?_;refine oH lS hS0 ?_;refine lM ?_;clear hS0 sl1 sl2 ek;have VL:(0:Int)<=k:=lK;have iz1:(k:Int)<1:=by have:=ZK.out;omega
  go_upto_region 16 with fail
  refine rP (fun w'=>J w' gt 2 (O ga 1 c6)/\J w' g5 0 (U y0)/\J w' g5 1 (U y1)/\J w' g5 2 (U y2)/\J w' g5 3 (U y3)/\J w' g5 4 (U y4)/\J w' g5 5 (U y5)) 8 (tk 0 8 (.one 8 .done)) ⟨BT7.drew.drew.cell 2,BX7.drew.drew.cell 0,BX7.drew.drew.cell 1,BX7.drew.drew.cell 2,BX7.drew.drew.cell 3,BX7.drew.drew.cell 4,BX7.drew.drew.cell 5⟩ ?_;intro hS0
  repeat refine' tT ?_
  obtain⟨v8,hv8⟩:=ex w7.drew.drew;have RV:Hid (Row v8 ga 356 21 1 c6 ([U 0,U 0,U 0,U 0,U 0,U 0,false,false,false,false,false,false,false,false,false,false,false,false,false,false,U 0]:LV)):=jj (by rw[hv8];exact R7.drew.drew);have BTV:Hid (lQ v8 gt 233 #[U f,U cl,O ga 1 c6]):=jj (by rw[hv8];exact BT7.drew.drew);have OV:Hid (Only [gt] w6 v8):=jj (by rw[hv8];exact O7.drew.drew);rw[<-hv8] at hS0|-;clear hv8;have TH:Hid (v8.there ga (k*21) ((#[U y0,U y1,U y2,U y3,U y4,U y5,.bool false,.bool false,.bool false,.bool false,.bool false,.bool false,.bool false,.bool false,.bool false,.bool false,.bool false,.bool false,.bool false,.bool false,U 0]:AV)).size):=jj (fun q hq=>by
   have aoV:q<21:=hq;refine⟨?_,RV.frozen _⟩;rw[HK0.out,fI,aO];have hl:q<(([U 0,U 0,U 0,U 0,U 0,U 0,false,false,false,false,false,false,false,false,false,false,false,false,false,false,U 0]:LV)).length:=aoV;rw[RV.cell (aj hl)];rfl)
  refine pL fun KT lS=> ?_;refine JN (by rfl) 356 (.tmp 101) (.tmp 100) (by rfl) ga (k*21) (#[U y0,U y1,U y2,U y3,U y4,U y5,false,false,false,false,false,false,false,false,false,false,false,false,false,false,U 0]:AV) (by rfl) (by rfl) TH (by kernel_rfl) (iN (cs:=xW (WI (y0,y1,y2,y3,y4,y5))) (mR (xq [WI (y0,y1,y2,y3,y4,y5)]))) ?_;refine lS.out _ _ ?_
  try simp only[Act.put]
  refine lM ?_;obtain⟨w8,hw8⟩:=ex (v8.setCells ga (k*21) (xW (WI (y0,y1,y2,y3,y4,y5))));change Exit.then _ _ _ _ (v8.setCells ga (k*21) (xW (WI (y0,y1,y2,y3,y4,y5))));rw[<-hw8];have R8:Hid (Row w8 ga 356 21 1 c6 ([WI (y0,y1,y2,y3,y4,y5)].flatMap xW)):=jj (by
   have t:=DY (xW (WI (y0,y1,y2,y3,y4,y5))) (k*21) v8 _ RV;have e:setMany ([U 0,U 0,U 0,U 0,U 0,U 0,false,false,false,false,false,false,false,false,false,false,false,false,false,false,U 0]:LV) (k*21) (xW (WI (y0,y1,y2,y3,y4,y5)))= [WI (y0,y1,y2,y3,y4,y5)].flatMap xW:=by
    rw[HK0.out,fI];have:=zh (xW (WI (y0,y1,y2,y3,y4,y5))) ([U 0,U 0,U 0,U 0,U 0,U 0,false,false,false,false,false,false,false,false,false,false,false,false,false,false,U 0]:LV) [] rfl;simpa using this
   rw[e] at t;rw[hw8];exact t)
  have O8:Hid (Only [ga] v8 w8):=jj (by rw[hw8];exact Al lT _ _ _ _ (Only.refl [ga] _));have NE:Hid (gt≠ga):=jj (fun e=>by have:=RV.ne BTV lN;exact this e.symm);have BT8:=jj (BTV.only O8 (mR NE.out));clear hw8 hS0;have j13:j<13:=lK;have c2:=BT8.at_ 2;have cb:J w8 ga (k*21+6+j) false:=by
   rw[HK0.out,fI,aO];refine R8.cell ?_
   match j,j13 with
   |0,_|1,_|2,_|3,_|4,_|5,_|6,_|7,_|8,_|9,_|10,_|11,_|12,_=>rfl
  go_wp2_with fail
  refine(RI _ ga (k*21+6) j j13 (j:Int) rfl cb (R8.frozen _)).mono ?_;rintro e w3 ⟨rfl,hw3⟩;obtain⟨d1,hd1⟩:=ex ((WI (y0,y1,y2,y3,y4,y5)).tell j);have T3:Hid (Row w3 ga 356 21 1 c6 ([d1].flatMap xW)):=jj (by
   have e:=Bf (T:= [WI (y0,y1,y2,y3,y4,y5)]) (k:=0) (j:=6+j) rfl lK (JV (WI (y0,y1,y2,y3,y4,y5)) j j13);rw[<-hd1] at e;have t:=R8.mg (k*21+6+j) true;rw[<-hw3,HK0.out,dL,e] at t;exact t)
  have CNT:Hid (d1.count=1):=jj (by
   rw[hd1]
   match j,j13 with
   |0,_|1,_|2,_|3,_|4,_|5,_|6,_|7,_|8,_|9,_|10,_|11,_|12,_=>rfl)
  have RD:Hid (d1.ready=false):=jj (by rw[hd1];rfl);have HD1:=jj hd1;have O3:Hid (Only [ga] w8 w3):=jj (by rw[hw3];exact(Only.refl [ga] _).setCell (.inl lT) _);have BT3:=jj (BT8.only O3 (mR NE.out));have L3: ∀i v,(xW d1)[i]?=some v->J w3 ga (k*21+i) v:=fun i v hv=>by
   rw[HK0.out,fI,aO];exact T3.cell (mR hv)
  have CP:=jj L3;clear hw3 c2 cb L3 hd1
  go_upto_region 19 with fail
  have KS: ∀w',Be w3 w'->J w' ga (k*21+19) false/\J w' gt 0 (U f):=fun w' o=>⟨kept o _ _ (by rw[<-RD.out];exact CP.out 19 _ rfl),kept o _ _ (BT3.cell 0)⟩;refine qI (fun w'=>J w' ga (k*21+19) false/\J w' gt 0 (U f)) 17 (tk 0 9 (tk 10 4 (.one 9 (tk 14 3 .done)))) (by kernel_rfl) (by kernel_rfl) (by kernel_rfl) (KS _ (aC _ _).drew) ?_;intro hS0
  repeat(first|refine' uT ?_|refine' uS ?_)
  refine yJ rfl (fun KT lS=> ?_);go_simp;refine(acp w3.drew ga (k*21+6) (d1.nX 0) (d1.nX 1) (d1.nX 2) (d1.nX 3) (d1.nX 4) (d1.nX 5) (d1.nX 6) (d1.nX 7) (d1.nX 8) (d1.nX 9) (d1.nX 10) (d1.nX 11) (d1.nX 12) (CP.out 6 _ rfl) (CP.out 7 _ rfl) (CP.out 8 _ rfl) (CP.out 9 _ rfl) (CP.out 10 _ rfl) (CP.out 11 _ rfl) (CP.out 12 _ rfl) (CP.out 13 _ rfl) (CP.out 14 _ rfl) (CP.out 15 _ rfl) (CP.out 16 _ rfl) (CP.out 17 _ rfl) (CP.out 18 _ rfl)).mono ?_;rintro e w4 ⟨rfl,hb4⟩;rw[show Tok.count [d1.nX 0,d1.nX 1,d1.nX 2,d1.nX 3,d1.nX 4,d1.nX 5,d1.nX 6,d1.nX 7,d1.nX 8,d1.nX 9,d1.nX 10,d1.nX 11,d1.nX 12]=1 from CNT.out];have BB:=jj ((aC w3.heap.size w3).drew.trans hb4);clear hb4;have S4:=KS _ BB;refine oH lS S4 ?_;clear hS0;have hS0:=S4;have q1: ¬f+1<=1:=lK;have q2: ¬f<=0:=lK
  repeat(first|refine' uT ?_|refine' uS ?_)
  refine pR _ _ rfl (by rfl) (by assumption) (fun w=>by go_simp;try exact⟨rfl,rfl⟩) (fun w hSw=>(UR f w h1 h4)) ?_;try simp only[Nw]
  repeat(first|refine' uT ?_|refine' uS ?_)
  refine qO ?_;clear hS0 S4 KS
  go_wp2_with fail
  go_ret3
  have OA:Only [gt,ga] w6 w4:=by
   have a1:=OV.mono (T:= [gt,ga]) (fun b hb=> .inl (by simp only[au] at hb;simp[hb]));have a2:=O8.mono (T:= [gt,ga]) (fun b hb=> .inl (by simp only[au] at hb;simp[hb]));have a3:=O3.mono (T:= [gt,ga]) (fun b hb=> .inl (by simp only[au] at hb;simp[hb]));exact((a1.trans a2).trans a3).belows BB
  have gaS:ga∈S\/w.heap.size<=ga:=by
   rcases HAT.out ga rfl with h|h
   ·exact .inl (by rw[HS0.out,h];simp)
   exact .inr (by have:=B2.size;simp at h;omega)
  have gtS:gt∈S:=by rw[HS0.out];simp
  have O6w:Only S w w6:=by
   have b1:Be w (wr.alloc (.cells (#[U 0,U 0,U 0,U 0,U 0,U 0,false,false,false,false,false,false,false,false,false,false,false,false,false,false,U 0]:AV) 356)):=B2.alloc B2.size _;exact(Only.of_below (S:=S) b1).then amW (fun b hb=> .inl (by rw[HS0.out];simp at hb|-;exact .inr hb))
  refine⟨by trivial,[gt,ga],?_,O6w.then OA (fun b hb=>by
   simp only[ay,aI,bK] at hb;rcases hb with rfl|rfl
   ·exact .inl gtS
   ·exact gaS),fun b hb=>by
   simp only[ay,aI,bK] at hb;rcases hb with rfl|rfl
   ·exact .inl gtS
   exact gaS⟩
  rw[<-HD1.out];exact⟨some ⟨ga,0,none⟩,c6,rfl,BT3.below BB BT3.lt,T3.below BB⟩
end
section
open Go.RowKit Go.Proofs.Tryz Go.Maps
theorem ab4(n b:Nat)(K:List (Int×List Int))(p:Int)(a:OA)(m c:Nat)(bs:LI)(w:World)(h:vC w n b K)(hv:mo w a m 1 (mZ bs))(hq:Ns (p,bs))(hm:(p,bs)∈K)(x:Int)(hx:num K (p,bs)=x):
  Y 104 #[n,U p,.slice a m c] w fun e w'=>e= .returned (U x)/\Be w w':=by
 subst hx;have c0:=h.obj.at_ 0;obtain⟨s,hs⟩:=ex (strOfNums bs);have f1:(convert 140 9 (.slice a m c)).run prog w= .ok (.string s) w:=by rw[hs];exact Cm hv
 have H:=jj h;have HQ:=jj hq;have HM:=jj (aZ hm);have HS:Hid (kv (p,bs)= .agg #[U p,.string s]):=by rw[hs];exact jj rfl
 clear h hv hs hq hm;go_enter func104,ntmps104
 go_upto_region 2 with fail
 generalize hw1:w.alloc _=w1;generalize hga:w.heap.size=ga;replace hw1:=hw1.symm;replace hga:=hga.symm;have hb1:=(tQ hw1).out;have hA:lQ w1 ga 185 #[U p,.string s]:=by rw[hw1,hga];exact lQ.new _ _ _
 obtain⟨a0,a1⟩:=hA.a2;have b0:=kept hb1 _ _ c0;have N1:=jj (H.below hb1);have B1:=jj hb1;have f2: ∀j,(Instr.lookup 153 (.map (some b)) (.agg #[U p,.string s]) true).run prog (w1.drewN j)= .ok (.tuple #[U (num K (p,bs)),true]) (w1.drewN j):=fun j=>by
  have e:=(N1.map.drewN j).look HQ;rw[HS.out,HM.out] at e;exact e
 clear hw1 hga hb1 hA c0 f1
 go_quiet(fail)
 go_wp2_with fail
 go_ret;exact⟨rfl,below_drewN B1 _⟩
theorem ab3(n b:Nat)(K:List (Int×List Int))(p:Int)(a:OA)(m c:Nat)(bs:LI)(w:World)(h:vC w n b K)(hv:mo w a m 1 (mZ bs))(hq:Ns (p,bs))(hm:(p,bs)∉K)(hlen:K.length<1048576):
  Y 104 #[n,U p,.slice a m c] w fun e w'=>e= .returned (U ((K.length:Int)+1))/\vC w' n b (K++ [(p,bs)])/\Only [b] w w':=by
 have c0:=h.obj.at_ 0;obtain⟨s,hs⟩:=ex (strOfNums bs);have f1:(convert 140 9 (.slice a m c)).run prog w= .ok (.string s) w:=by rw[hs];exact Cm hv
 obtain⟨H,HQ,HN⟩:=j3 h hq hm;have HM:=jj (aR hm);have HS:Hid (kv (p,bs)= .agg #[U p,.string s]):=by rw[hs];exact jj rfl
 clear h hv hs hq hm;go_enter func104,ntmps104
 go_upto_region 2 with fail
 generalize hw1:w.alloc _=w1;generalize hga:w.heap.size=ga;replace hw1:=hw1.symm;replace hga:=hga.symm;have hb1:=(tQ hw1).out;have hA:lQ w1 ga 185 #[U p,.string s]:=by rw[hw1,hga];exact lQ.new _ _ _
 obtain⟨a0,a1⟩:=hA.a2;have b0:=kept hb1 _ _ c0;have N1:=jj (H.below hb1);have B1:=jj hb1;have adN:num K (p,bs)=0:=aU HN.out;have f2: ∀j,(Instr.lookup 153 (.map (some b)) (.agg #[U p,.string s]) true).run prog (w1.drewN j)= .ok (.tuple #[U 0,false]) (w1.drewN j):=fun j=>by
  have e:=(N1.map.drewN j).look HQ;rw[HS.out,HM.out,adN] at e;exact e
 clear hw1 hga hb1 hA c0 f1 adN
 go_quiet(fail)
 obtain⟨w2,hw2⟩:=ex (w1.drewN nq);rw[<-hw2];have a2:J w2 ga 0 (U p):=by rw[hw2];exact a0
 have a3:J w2 ga 1 (.string s):=by rw[hw2];exact a1
 have b2:J w2 n 0 (.map (some b)):=by rw[hw2];exact b0
 have N2:Hid (vC w2 n b K):=by rw[hw2];exact jj (N1.drewN _)
 have B2:Hid (Be w w2):=by rw[hw2];exact jj (below_drewN B1 _)
 have hl:=N2.map.len;clear hw2 a0 a1 b0 f2 N1 B1
 go_upto_region 6 with fail
 have KS: ∀j,J (w2.drewN j) ga 0 (U p)/\J (w2.drewN j) ga 1 (.string s)/\J (w2.drewN j) n 0 (.map (some b)):=fun j=>⟨a2,a3,b2⟩;refine rP (fun w'=>J w' ga 0 (U p)/\J w' ga 1 (.string s)/\J w' n 0 (.map (some b))) 6 (tk 0 6 (.one 6 .done)) (KS 1) ?_;intro hS0
 repeat refine' tT ?_
 obtain⟨w3,hw3,akA,ho3⟩:=(N2.map.drewN 1).put HQ HN hlen;have hup:(Instr.mapUpdate 153 (.map (some b)) (.agg #[U p,.string s]) (U ((K.length:Int)+1))).run prog w2.drew= .ok () w3:=by rw[<-HS.out];exact hw3
 clear hw3;refine pL fun KT lS=> ?_;go_simp;refine oL lS ?_;refine lM ?_
 go_wp2_with fail
 go_ret;have hne:=H.ne;exact⟨rfl,⟨(N2.obj.drewN 1).only ho3 (mR hne),akA⟩,((Only.of_below (S:= [b]) B2).drewN 1).trans ho3⟩
def sealed(K:List (Int×List Int))(q:Int×List Int):List (Int×List Int):=if q∈K then K else K++ [q]
theorem Cu(K:List (Int×List Int))(q:Int×List Int):num (sealed K q) q=if q∈K then num K q else(K.length:Int)+1:=by
 by_cases h:q∈K
 ·simp[sealed,h]
 simp[sealed,h,num,List.idxOf_append]
theorem Ox(n b:Nat)(K:List (Int×List Int))(p:Int)(a:OA)(m c:Nat)(bs:LI)(w:World)(h:vC w n b K)(hv:mo w a m 1 (mZ bs))(hq:Ns (p,bs))(hlen:K.length<1048576)(x:Int)(hx:num (sealed K (p,bs)) (p,bs)=x)(K':List (Int×List Int))(hK:sealed K (p,bs)=K'):
  Y 104 #[n,U p,.slice a m c] w fun e w'=>e= .returned (U x)/\vC w' n b K'/\Only [b] w w':=by
 subst hx;subst hK;rw[Cu];by_cases hm:(p,bs)∈K
 ·rw[aV hm]
  refine(ab4 n b K p a m c bs w h hv hq hm _ rfl).mono ?_;rintro e w' ⟨rfl,hb⟩;rw[sealed,aV hm];exact⟨rfl,h.below hb,Only.of_below hb⟩
 rw[aU hm];refine(ab3 n b K p a m c bs w h hv hq hm hlen).mono ?_;rintro e w' ⟨rfl,hn,ho⟩;rw[sealed,aU hm];exact⟨rfl,hn,ho⟩
end
theorem oG{xs ys:LI}(h: ∀x∈xs,0<=x/\x<=255)(k: ∀x∈ys,0<=x/\x<=255): ∀x∈xs++ys,0<=x/\x<=255:=fun x hx=>by
 rcases aQ.1 hx with hx|hx
 ·exact h x hx
 exact k x hx
theorem qA(h:qh z): ∀x∈mD z.toNat,0<=x/\x<=255:=Bn (by obtain⟨h1,h2⟩:=h;omega)
theorem JI(h:wP z): ∀x∈vg z,0<=x/\x<=255:=Bn (J9 h)
theorem Ad{α:Type}{f:α->List Int}{l:List α}(hl:l.length<=256)(h: ∀a∈l,∀x∈f a,0<=x/\x<=255): ∀x∈nI f l,0<=x/\x<=255:=
 oG (Bn lK) fun x hx=>by
  obtain⟨a,ha,hxa⟩:=bg.1 hx;exact h a ha x hxa
theorem DX{r:Rq}(h:xH r): ∀x∈oK r,0<=x/\x<=255:=
 oG (qA h.1) (oG (qA h.2.1) (oG (qA h.2.2.1) (oG (JI h.2.2.2.1) (oG (JI h.2.2.2.2.1) (qA h.2.2.2.2.2)))))
theorem WL{v:Vo}(h:Kv v): ∀x∈uQ v,0<=x/\x<=255:=oG (qA h.1) (qA h.2)
theorem adp{c:Ce}(h:Et c): ∀x∈uG c,0<=x/\x<=255:=
 oG (qA h.view) (oG (qA h.inst) (oG (qA h.seq) (oG (Ad h.nb fun r hr=>DX (h.batch r hr)) (Ad h.nv fun v hv=>WL (h.sw v hv)))))
theorem EG{m:Ms}(h:Ev m): ∀x∈lX m,0<=x/\x<=255:=
 oG (qA h.kind) (oG (qA h.sender) (oG (qA h.view) (oG (qA h.inst) (oG (qA h.seq) (oG (JI h.res) (oG (Ad h.nb fun r hr=>DX (h.batch r hr)) (oG (Ad h.nv fun v hv=>WL (h.sw v hv)) (oG (Ad h.nc fun c hc=>adp (h.vI c hc)) (Bn lK)))))))))
theorem wM.ahu{b:Nat}{K:List (Int×List Int)}(h:wM w b K){base e:Nat}(ho:w.ownsRow base e s v n xs):v.ownBlock≠some b:=by
 obtain⟨es,cl,hb,_⟩:=h.ex;rcases ho.2 with⟨rfl,_⟩|⟨g,cap,cur,rfl,_,hh,_⟩
 ·simp[Value.ownBlock]
 intro he;have:g=b:=by simpa[Value.ownBlock] using he
 subst this;rw[hb] at hh;cases hh
theorem Tk(w:World)(z:Int)(hz:qh z)(A:OA)(m c:Nat)(ys:LI)(hv:mo w A m 1 (mZ ys))(hm:ys.length=m)(hl:(mD z.toNat).length+m<=65536):
  Y 103 #[U z,.slice A m c] w fun e w'=> ∃a' c' n,e= .returned (.tuple #[.slice a' n c',true])/\(mD z.toNat++ys).length=n/\w'.ownsRow w.heap.size 5 1 (.slice a' n c') n (mZ (mD z.toNat++ys))/\Be w w':=by
 obtain⟨i0,hi0,hz0,hz1,hz2⟩:=bq wU;obtain⟨HV,HM,HZ⟩:=j3 hv hm hz;clear hv hm hz;go_enter func103,ntmps103
 go_wp2_with fail
 refine(uX z HZ _).mono ?_;rintro e w2 ⟨a2,c2,rfl,ho,hb⟩;obtain⟨k,hk⟩:=ex ((mD z.toNat).length);rw[<-hk] at ho hl|-;have k6:k<=6:=by rw[hk];exact nK _
 have HK:=jj hk;have O2:=jj ho;have V2:=jj (HV.below hb);have B2:=jj hb;have sz:=hb.size;have i1: ¬(65536:Int)<(k:Int)+m:=lK;have e1:IntKind.i64.wrap ((k:Int)+m)=(k:Int)+m:=aH _ lK;clear ho hb hk
 go_wp2_with(at_builtin;refine lZ rfl _ _ _ rfl w.heap.size 5 i0 _ 1 1 underlying140 hi0 hz0 hz1 hz2 rfl lK a2 k c2 (mZ (mD z.toNat)) rfl O2 A m c (mZ ys) rfl V2 (yh ys) (by unfold maxLen;omega) lK sz ?_;intro a5 c5 w5 h5)
 go_ret2
 have KM:=h5.own;rw[<-wR] at KM;exact⟨a5,c5,k+m,by trivial,by rw[av,<-HK.out,HM.out],KM,h5.below O2 B2 (aF _) sz⟩
theorem UG(w:World)(n b:Nat)(K:List (Int×List Int))(hN:vC w n b K)(m:MD)(h:m.Is w)(ok:Ev (nA m))(hsz:(lX (nA m)).length<=65000)(hlen:K.length<1048576):
  Y 64 #[.agg (oM m).toArray,n] w fun e w'=> ∃a' c' l,e= .returned (.tuple #[.slice a' l c',true])/\
   (mD (num (sealed K (m.sender,lX (nA m))) (m.sender,lX (nA m))).toNat++lX (nA m)).length=l/\
   w'.ownsRow w.heap.size 5 1 (.slice a' l c') l (mZ (mD (num (sealed K (m.sender,lX (nA m))) (m.sender,lX (nA m))).toNat++lX (nA m)))/\
   vC w' n b (sealed K (m.sender,lX (nA m)))/\Only [b] w w':=by
 obtain⟨HN,HI,Nq,HSZ⟩:=j4 hN h ok hsz;have hq:Hid (Ns (m.sender,lX (nA m))):=jj ⟨by have:=ok.sender;obtain⟨h1,h2⟩:=this;simp only[nA] at h1 h2;exact⟨lK,lK⟩,EG ok,by show(lX (nA m)).length<=maxLen;unfold maxLen;omega⟩;obtain⟨K',hK⟩: ∃K',sealed K (m.sender,lX (nA m))=K':=⟨_,rfl⟩;obtain⟨x,hx⟩: ∃x,num K' (m.sender,lX (nA m))=x:=⟨_,rfl⟩;rw[hK,hx];have HK:=jj hK;have HX:=jj hx;have XO:Hid (qh x):=jj (by
  have e:K'.length<=K.length+1:=by rw[<-hK];unfold sealed;split<;>simp
  rw[<-hx];unfold num;split
  ·rename_i hm
   have:=List.idxOf_lt_length_iff.2 hm;exact⟨lK,lK⟩
  exact⟨lK,lK⟩)
 obtain⟨bs,hbs⟩:=ex (lX (nA m));have Lf:=jj hbs;rw[<-hbs] at hsz|-;clear hN h ok hK hx hbs;obtain⟨m0,m1,m2,m3,m4,m5,ba,bn,bc,br,va,vn,vc,vs,ca,cn,cc,cs,pa,pc⟩:=m;show Y 64 #[.agg #[U m0,U m1,U m2,U m3,U m4,U m5,.slice ba bn bc,.slice va vn vc,.slice ca cn cc,.slice pa 0 pc],n] w _;go_enter func64,ntmps64
 go_upto_region 1 with fail
 generalize hw1:w.alloc _=w1;generalize hgb:w.heap.size=gb;replace hw1:=hw1.symm;replace hgb:=hgb.symm;have hB1:=(tQ hw1).out;have bx:lQ w1 gb 82 #[U m0,U m1,U m2,U m3,U m4,U m5,.slice ba bn bc,.slice va vn vc,.slice ca cn cc,.slice pa 0 pc]:=by rw[hw1,hgb];exact lQ.new _ _ _
 obtain⟨d0,d1,d2,d3,d4,d5,d6,d7,d8,d9⟩:=bx.zA;have B1:=jj hB1;have BX:=jj bx;clear hw1 hgb hB1 bx
 go_wp2_with fail
 refine(Ta _ _ (HI.below B1) Nq (tL HSZ.out)).mono ?_;rintro e w2 ⟨a2,c2,rfl,ho2,hb2⟩;rw[<-Lf.out] at ho2|-;obtain⟨l,hl⟩:=ex bs.length;rw[<-hl] at ho2 hsz|-;have HL:=jj hl;have O2:=jj (mO ho2 B1.size);have B2:=nO B1 hb2;have N2:=jj (HN.below B2);have e1:=((BX.below hb2 BX.lt).cell 1).trans (show _=some (U m1) from rfl);clear ho2 hb2 hl d0 d1 d2 d3 d4 d5 d6 d7 d8 d9
 go_wp2_with fail
 refine(Ox n b K m1 a2 l c2 bs _ N2 (l9 O2) (by have:=hq.out;rw[<-Lf.out] at this;exact this) hlen x (by rw[Lf.out];have:=HX.out;rw[<-HK.out] at this;exact this) K' (by rw[Lf.out];exact HK.out)).mono ?_;rintro e w3 ⟨rfl,hn3,ho3⟩;have N3:=jj hn3;have ON3:=jj ho3;have O3:=jj (mK O2 ho3 (fun g hg=>by
  have:=N2.map.ahu O2;rw[hg] at this;simpa using fun e=>this (by rw[e])))
 clear hn3 ho3 e1
 go_wp2_with fail
 refine(Tk _ x XO a2 l c2 bs (l9 O3) HL.symm (tL (nK x.toNat))).mono ?_;rintro e w4 ⟨a4,c4,l4,rfl,hl4,xQ,hb4⟩;have O4:=jj (mO xQ (aG B2.size ON3.size));have N4:=jj (N3.below hb4);have ON4:=jj (((Only.of_below (S:= [b]) B2).trans ON3).belows hb4);have L4:=jj hl4;clear xQ hb4 hl4
 go_wp2_with fail
 go_ret2
 exact⟨a4,c4,l4,by trivial,L4,O4,N4,ON4⟩
structure sU(K:List (Int×List Int))(cl:Int)(r:Rq):Prop where
 valid:mq cl r=true
 ok:xH r
 key:Ns (100+r.1,pq r)
 mem:(100+r.1,pq r)∈K
 num:num K (100+r.1,pq r)=r.2.2.2.2.2
 small:qX (100+r.1)
theorem Bu(w:World)(n b:Nat)(K:List (Int×List Int))(hN:vC w n b K)(cl:Int)(r:Rq)(hr:sU K cl r):
  Y 211 #[Kh r,U cl,n] w fun e w'=>e= .returned true/\Be w w':=by
 obtain⟨r0,r1,r2,r3,r4,r5⟩:=r;have HR:=jj hr;have HN:=jj hN;have e1:IntKind.i64.wrap (100+r0)=100+r0:=aH _ hr.small;clear hr hN;show Y 211 #[.agg #[U r0,U r1,U r2,U r3,U r4,U r5],U cl,n] w _;go_enter func211,ntmps211
 go_upto_region 1 with fail
 generalize hw1:w.alloc _=w1;generalize hgb:w.heap.size=gb;replace hw1:=hw1.symm;replace hgb:=hgb.symm;obtain⟨B1,BX⟩:=nw hw1 hgb;clear hw1 hgb;obtain⟨d0,d1,d2,d3,d4,d5⟩:=BX.a6
 go_wp2_with fail
 refine(D8 _ cl (r0,r1,r2,r3,r4,r5) true HR.valid).mono ?_;rintro e w2 ⟨rfl,hb2⟩;have B2:=nO B1 hb2;have X2:=BX.below hb2 BX.lt;have yM:=jj X2;clear hb2 d0 d1 d2 d3 d4 d5;obtain⟨d0,d1,d2,d3,d4,d5⟩:=X2.a6;clear X2
 go_wp2_with fail
 refine(Wt _ (r0,r1,r2,r3,r4,r5) HR.ok).mono ?_;rintro e w3 ⟨a',c',rfl,ho3,hb3⟩;have B3:=nO B2 hb3;have X3:=yM.below hb3 yM.lt;obtain⟨l,hl⟩:=ex ((pq (r0,r1,r2,r3,r4,r5)).length);rw[<-hl] at ho3|-;have HL:=jj hl;have O3:=jj ho3;clear hb3 d0 d1 d2 d3 d4 d5 ho3 hl;have d0:=X3.at_ 0;have d5:=X3.at_ 5;clear X3
 go_wp2_with fail
 refine(Jo n b K (100+r0) a' l c' (pq (r0,r1,r2,r3,r4,r5)) r5 _ (HN.below B3) (l9 O3) HR.key true (by simp only[aZ HR.mem,aZ HR.num,kZ])).mono ?_;rintro e w4 ⟨rfl,j,rfl⟩
 go_wp2_with fail
 go_ret;exact⟨by trivial,below_drewN B3 j⟩
def vT(w:World)(g:Nat)(now:Int):Prop:=lQ w g 220 #[U now,()]
theorem aad(w:World):Y 73 #[] w fun e w'=>e= .returned w.heap.size/\vT w' w.heap.size 0/\Be w w':=by
 go_enter func73,ntmps73
 go_wp2_with fail
 go_ret;exact⟨by trivial,lQ.new _ _ _,nC⟩
theorem Tj(w:World)(g:Nat)(now:Int)(h:vT w g now):Y 81 #[g] w fun e w'=>e= .returned (U now)/\w=w':=by
 have c0:J w g 0 (U now):=lQ.cell h 0;clear h;go_enter func81,ntmps81
 go_wp2_with fail
 go_ret;exact⟨by trivial,by trivial⟩
theorem Vy(w:World)(g:Nat)(now:Int)(h:vT w g now)(h0:0<=now)(h1:now<1048576):Y 123 #[g] w fun e w'=>e= .returned true/\vT w' g (now+1)/\Only [g] w w':=by
 have c0:J w g 0 (U now):=lQ.cell h 0;have f0:=lQ.frozen h 0;have i1: ¬1048576<=now:=lK;have e1:IntKind.i64.wrap (now+1)=now+1:=aH _ lK;have H:=jj h;clear h;go_enter func123,ntmps123
 go_wp2_with fail
 go_ret;exact⟨by trivial,lQ.mg H 0 _,(Only.refl [g] _).setCell (.inl lT) _⟩
def Ld(w:World)(g:Nat)(m t:Int):Prop:=lQ w g 239 #[U m,U t,()]
theorem agQ(w:World)(m t:Int)(hm:1<=m/\m<=64)(ht:1<=t/\t<=64):Y 77 #[U m,U t] w fun e w'=>e= .returned (.tuple #[w.heap.size,U 0])/\Ld w' w.heap.size m t/\Be w w':=by
 have i1: ¬m<1:=lK;have i2: ¬64<m:=lK;have i3: ¬t<1:=lK;have i4: ¬64<t:=lK;go_enter func77,ntmps77
 go_wp2_with fail
 go_ret2
 exact⟨by trivial,lQ.new _ _ _,nC⟩
theorem ajY(w:World)(g:Nat)(m t p:Int)(h:Ld w g m t):Y 151 #[g,U p] w fun e w'=>e= .returned (U (-1))/\w=w':=by
 have c2:J w g 2 ():=lQ.cell h 2;clear h;go_enter func151,ntmps151
 go_wp2_with fail
 go_loopw [12] (fun q wr=>q= U 0/\wr=w) (fun _ _=>0)
 case atStart=>exact⟨rfl,rfl⟩
 case round=>
  obtain⟨rfl,rfl⟩:=hrel
  go_wp2_with fail
  go_ret;exact⟨by trivial,by trivial⟩
theorem adB(w:World)(g:Nat)(m t p c:Int)(h:Ld w g m t):Y 118 #[g,U p,U c] w fun e w'=>e= .returned false/\Be w w':=by
 have H:=jj h;clear h;go_enter func118,ntmps118
 go_wp2_with fail
 refine(ajY _ g m t p H).mono ?_;rintro e w' ⟨rfl,rfl⟩
 go_upto_region 2 with fail
 refine rP (fun w'=>True) 16 (tk 0 4 (tk 5 8 (.one 4 (tk 13 3 .done)))) trivial ?_;intro hS0
 repeat(first|refine' tT ?_|refine' tS ?_)
 refine pO fun KT lS=> ?_;go_simp;refine oH lS trivial ?_
 repeat(first|refine' tT ?_|refine' tS ?_)
 refine lM ?_;clear hS0
 go_wp2_with fail
 go_ret;exact⟨by trivial,(aC _ _).drew⟩
theorem aa3 (w:World) (nn b:Nat) (K:List (Int×List Int)) (hN:vC w nn b K) (cl c t kd ky vl:Int) (hv:mq cl (c,t,kd,ky,vl,0)=true) (hok:xH (c,t,kd,ky,vl,0)) (hlen:K.length<1048576) (hc:0<=c/\c<4)
  (q:Int×List Int) (hq:q=(100+c,pq (c,t,kd,ky,vl,0))) (hq2:Ns q) (z:Int) (hz:num (sealed K q) q=z):
  Y 80 #[nn,U cl,U c,U t,.agg #[U kd,U ky,U vl]] w fun e w'=>e= .returned (.tuple #[Kh (c,t,kd,ky,vl,z),U 0])/\vC w' nn b (sealed K q)/\Only [b] w w':=by
 subst hq;obtain⟨HN,HV,Nq,HQ,HZ⟩:=j5 hN hv hok hq2 hz;have BLT:Hid (b<w.heap.size):=jj (by obtain⟨es,cl',hb,_⟩:=hN.map.ex;exact(eX.1 hb).1);have e1:IntKind.i64.wrap (100+c)=100+c:=aH _ lK;clear hN hv hok hq2 hz;show Y 80 _ w (fun e w'=>e= .returned (.tuple #[.agg #[U c,U t,U kd,U ky,U vl,U z],U 0])/\_);go_enter func80,ntmps80
 go_upto_region 2 with fail
 generalize hv1:w.alloc _=v1;generalize vE:w.heap.size=g9;replace hv1:=hv1.symm;replace vE:=vE.symm;obtain⟨v2,hv2⟩:=ex (v1.alloc (.cells #[U 0,U 0,U 0,U 0,U 0,U 0] 49));obtain⟨g10,IC⟩:=ex v1.heap.size;have eg:g9+1=g10:=by rw[IC,hv1,vE];simp
 rw[<-hv2]
 try rw[eg]
 try rw[<-IC]
 obtain⟨v3,hv3⟩:=ex (v2.alloc (.cells #[U c,U t,U kd,U ky,U vl,U 0] 49));obtain⟨g12,TD⟩:=ex v2.heap.size;have eg2:g10+1=g12:=by rw[TD,hv2,IC];simp
 have eg3:g9+1+1=g12:=by rw[eg,eg2]
 rw[<-hv3,eg2];have X12:=xNew hv3 TD;have X10:Hid (lQ v3 g10 49 #[U 0,U 0,U 0,U 0,U 0,U 0]):=jj (by rw[hv3];refine lQ.alloc ?_ _;rw[hv2,IC];exact lQ.new _ _ _);have B3:Hid (Be w v3):=jj (by rw[hv3,hv2,hv1];exact((nC.alloc lT _).alloc (by simp;omega) _));have GE:Hid (w.heap.size<=g10/\w.heap.size<=g12/\g10≠g12):=jj ⟨lK,lK,lK⟩;clear hv1 hv2 hv3 vE IC TD eg eg2 eg3;obtain⟨d0,d1,d2,d3,d4,d5⟩:=X12.a6
 go_wp2_with fail
 refine(D8 _ cl (c,t,kd,ky,vl,0) true HV).mono ?_;rintro e w4 ⟨rfl,hb⟩;have B4:=nO B3 hb;have Y12:=jj (X12.below hb X12.lt);have Sj:=jj (X10.below hb X10.lt);clear hb d0 d1 d2 d3 d4 d5;obtain⟨d0,d1,d2,d3,d4,d5⟩:=Y12.a6
 go_wp2_with fail
 refine(Wt _ (c,t,kd,ky,vl,0) Nq).mono ?_;rintro e w5 ⟨a',c',rfl,ho,hb⟩;obtain⟨l,hl⟩:=ex ((pq (c,t,kd,ky,vl,0)).length);rw[<-hl] at ho|-;have B5:=nO B4 hb;have U12:=jj (Y12.below hb Y12.lt);have U10:=jj (Sj.below hb Sj.lt);have O5:=jj ho;clear hb ho hl d0 d1 d2 d3 d4 d5
 go_wp2_with fail
 refine(Ox nn b K (100+c) a' l c' (pq (c,t,kd,ky,vl,0)) _ (HN.below B5) (l9 O5) HQ hlen z HZ (sealed K (100+c,pq (c,t,kd,ky,vl,0))) rfl).mono ?_;rintro e w6' ⟨rfl,hn6,KC⟩;have N6:=jj hn6;have ON6:Hid (Only [b] w w6'):=jj ((Only.of_below B5).trans KC);have ao7:g12∉ [b]:=by have:=BLT.out;have:=GE.out;simp;omega
 have ao6:g10∉ [b]:=by have:=BLT.out;have:=GE.out;simp;omega
 have P12:=jj (U12.only KC ao7);have P10:=jj (U10.only KC ao6);have x5:=P12.cell 5;have f5:=P12.frozen 5;clear hn6 KC
 go_upto_region 6 with fail
 obtain⟨w6,zN⟩:=ex (w6'.setCell ⟨g12,5,none⟩ (U z));rw[<-zN];have Q12:Hid (lQ w6 g12 49 #[U c,U t,U kd,U ky,U vl,U z]):=jj (by rw[zN];exact P12.mg 5 _);have o6:Only [g12] w6' w6:=by rw[zN];exact(Only.refl [g12] _).setCell (.inl lT) _
 have Y6:Hid (lQ w6 g10 49 #[U 0,U 0,U 0,U 0,U 0,U 0]):=jj (P10.only o6 (mR GE.2.2));have ajL:b≠g12:=by have:=BLT.out;have:=GE.out;omega
 have ajK:b≠g10:=by have:=BLT.out;have:=GE.out;omega
 have N7:=jj (N6.only o6 (mR (N6.obj.nY P12 lN)) (mR ajL));have O6:=jj (ON6.then o6 (fun q hq=> .inr (by simp only[au] at hq;rw[hq];exact GE.2.1)));clear zN o6 x5 f5;obtain⟨d0,d1,d2,d3,d4,d5⟩:=Q12.a6;have y0:=Y6.at_ 0;have z0:=Y6.frozen 0;have y1:=Y6.at_ 1;have z1:=Y6.frozen 1;have y2:=Y6.at_ 2;have z2:=Y6.frozen 2;have y3:=Y6.at_ 3;have z3:=Y6.frozen 3;have y4:=Y6.at_ 4;have z4:=Y6.frozen 4;have y5:=Y6.at_ 5;have z5:=Y6.frozen 5
 go_wp2_with fail
 obtain⟨w9,mE⟩:=ex (setW w6 g10 0 [U c,U t,U kd,U ky,U vl,U z]);have K9:=uL mE Y6;have o9:=vM mE;simp only[setW,aO,Nat.reduceAdd] at mE;rw[<-mE];clear mE;refine dF (v:= .tuple #[.agg #[U c,U t,U kd,U ky,U vl,U z],U 0]) ?_ rfl ⟨rfl,N7.only o9 (mR (N7.obj.nY Y6 lN)) (mR ajK),O6.then o9 (fun q hq=> .inr (by simp only[au] at hq;rw[hq];exact GE.1))⟩;exact(mV Tryz.results80 _ w9 g10 _ _ _ _ (by rfl) K9 underlying49 rfl (by kernel_rfl)).trans rfl
structure wN where
 dst:Int
 a:Option Addr
 n:Nat
 c:Nat
 bs:List Int
def WB(s:wN):List Value:= [U s.dst,.slice s.a s.n s.c]
theorem WC(s:wN):(WB s).length=2:=rfl
theorem Ec(L:List wN): ∀v∈L.flatMap WB,v.oneCell'=true:=by
 intro v hv;obtain⟨p,_,hp⟩:=bg.1 hv;simp only[WB,ay,aI,bK] at hp;rcases hp with rfl|rfl<;>rfl
structure wN.Is(x:Nat)(w:World)(s:wN):Prop where
 row:mo w s.a s.n 1 (mZ s.bs)
 len:s.bs.length=s.n
 fix:Fixed x w 5 s.a
 cap:s.n<=s.c
structure nJ(x:Nat)(w:World)(A:OA)(m c:Nat)(L:List wN):Prop where
 own:w.ownsRow 0 179 2 (.slice A m c) m (L.flatMap WB)
 len:L.length=m
 is: ∀s∈L,s.Is x w
def uy(L:List wN):List (Int×List Int):=L.map fun s=>(s.dst,s.bs)
section
variable{x y:Nat}{w w':World}{A:OA}{m c:Nat}{L:List wN}{S:LN}{s:wN}
theorem wN.Is.only(h:s.Is x w)(ho:Only S w w')(hS: ∀g∈S,nV x w g):s.Is x w':=⟨h.row.fix h.fix lN ho hS,h.len,h.fix.only lN ho hS,h.cap⟩
theorem wN.Is.below(h:s.Is x w)(hb:Be w w'):s.Is x w':=⟨h.row.below hb,h.len,h.fix.below hb,h.cap⟩
theorem wN.Is.re(h:s.Is x w)(hy:w.heap.size<=y):s.Is y w:=⟨h.row,h.len,h.fix.re hy,h.cap⟩
theorem nJ.only(h:nJ x w A m c L)(ho:Only S w w')(hS: ∀g∈S,nV x w g)(hn: ∀b,A.map (·.block)=some b->b∉S):nJ x w' A m c L:=
 ⟨mK h.own ho fun g hg=>hn g (by rw[lV] at hg;exact hg),h.len,fun s hs=>(h.is s hs).only ho hS⟩
theorem nJ.below(h:nJ x w A m c L)(hb:Be w w'):nJ x w' A m c L:=⟨own_below h.own hb,h.len,fun s hs=>(h.is s hs).below hb⟩
theorem nJ.re(h:nJ x w A m c L)(hy:w.heap.size<=y):nJ y w A m c L:=⟨h.own,h.len,fun s hs=>(h.is s hs).re hy⟩
theorem nJ.nil(x:Nat)(w:World):nJ x w none 0 0 []:=⟨⟨rfl,.inl ⟨rfl,rfl⟩⟩,rfl,fun s hs=>by simp at hs⟩
end
theorem wD:(prog.info? 179).map (fun i=>(i.zero,i.size,i.bytes))=some (some (.agg #[U 0,()]),2,32):=by kernel_rfl
theorem wH{base:Nat}{t:TypeId}(h:w.ownsRow base t s (.slice a n c) n xs)(ht:t∉KH): ∀g∈(a.map (·.block)).toList,nV x w g:=fun g hg=>by
 rcases h.2 with⟨hv,_⟩|⟨g',cap,cur,hv,_,hh,_⟩
 ·injection hv with hv
  subst hv;simp at hg
 injection hv with hv;subst hv;simp at hg;subst hg;exact nV.of hh ht
theorem nJ.more{A':OA}{c':Nat}{L:List wN}{s:wN}(h:nJ x w A m c L)(hs:s.Is x w)(hp:qQ w w' 0 179 2 A A' (m+1) c' (L.flatMap WB++WB s)):nJ x w' A' (m+1) c' (L++ [s]):=by
 have soft:=wH (x:=x) h.own lN;exact⟨by rw[bS];simpa using hp.own,by simp[h.len],fun r hr=>by
  rcases aQ.1 hr with hr|hr
  ·exact(h.is r hr).only hp.only soft
  rw[au.1 hr];exact hs.only hp.only soft⟩
theorem EZ(L:List wN)(s:wN):uy (L++ [s])=uy L++ [(s.dst,s.bs)]:=by simp[uy]
theorem Fixed.both{t:TypeId}(h:Fixed x w' t a)(k:Fixed y w t a):Fixed y w' t a:=fun b hb=>⟨(k b hb).1,(h b hb).2⟩
theorem nJ.both{L:List wN}(h:nJ x w' A m c L)(k:nJ y w A m c L):nJ y w' A m c L:=⟨h.own,h.len,fun s hs=>⟨(h.is s hs).row,(h.is s hs).len,(h.is s hs).fix.both (k.is s hs).fix,(h.is s hs).cap⟩⟩
theorem ab6{cs:AV}(h:cs[k]?=some v):cs.setIfInBounds k v=cs:=by
 apply gP;intro i;by_cases e:k=i
 ·subst e
  have:=(eX.1 h).1;rw[fZ this,h]
 rw[aW e]
theorem Dk{cs:AV}(h:k<cs.size):(cs.setIfInBounds k v)[k]?=some v:=fZ h
theorem Yy{cs:AV}{u:Value}:(cs.setIfInBounds k u).setIfInBounds k v=cs.setIfInBounds k v:=by
 apply gP;intro i;by_cases e:k=i
 ·subst e
  simp[Array.getElem?_setIfInBounds]
 rw[aW e,aW e,aW e]
def vJ(r:Int×Int):List Value:= [U r.1,U r.2]
theorem yE(r:Int×Int):(vJ r).length=2:=rfl
structure Cache(w:World)(gc gl:Nat)(st:List (Int×Int)):Prop where
 ex: ∃cap,lQ w gc 200 #[O gl st.length cap]/\Row w gl 202 2 st.length cap (st.flatMap vJ)
theorem Cache.clt(h:Cache w gc gl st):gc<w.heap.size:=by obtain⟨cap,h1,h2⟩:=h.ex;exact h1.lt
theorem Cache.llt(h:Cache w gc gl st):gl<w.heap.size:=by obtain⟨cap,h1,h2⟩:=h.ex;exact h2.lt
theorem Cache.only{S:LN}(h:Cache w gc gl st)(ho:Only S w w')(h1:gc∉S)(h2:gl∉S):Cache w' gc gl st:=by
 obtain⟨cap,k1,k2⟩:=h.ex;exact⟨cap,k1.only ho h1,k2.only ho h2⟩
theorem Cache.below(h:Cache w gc gl st)(hb:Be w w'):Cache w' gc gl st:=h.only (Only.of_below (S:= []) hb) aI aI
theorem Cache.drew(h:Cache w gc gl st):Cache w.drew gc gl st:=⟨h.ex⟩
theorem Cache.ne(h:Cache w gc gl st):gc≠gl:=by obtain⟨cap,h1,h2⟩:=h.ex;exact(h2.ne h1 lN).symm
theorem Cache.EC(h:Cache w gc gl st)(k:Nat)(hk:k<st.length):J w gl (k*2) (.int .i64 st[k].1):=by
 obtain⟨cap,h1,h2⟩:=h.ex;exact h2.cell (nT vJ 2 yE st k 0 lK hk _ rfl)
theorem Cache.ZM(h:Cache w gc gl st)(k:Nat)(hk:k<st.length):J w gl (k*2+1) (.int .i64 st[k].2):=by
 obtain⟨cap,h1,h2⟩:=h.ex;exact h2.cell (nT vJ 2 yE st k 1 lK hk _ rfl)
theorem Cache.fr(h:Cache w gc gl st)(k:Nat):w.frozen? ⟨gl,k,none⟩=false:=by
 obtain⟨cap,h1,h2⟩:=h.ex;exact h2.frozen k
theorem Cache.head(h:Cache w gc gl st): ∃cap,st.length<=cap/\cap<=maxLen/\J w gc 0 (O gl st.length cap):=by
 obtain⟨cap,h1,h2⟩:=h.ex;exact⟨cap,h2.EI,h2.Vr,h1.cell 0⟩
theorem Qt(gc gl:Nat)(st:List (Int×Int))(k:Int)(w:World)(h:Cache w gc gl st)(hn:st.length<=4)(hk:qX k)(b:Bool)(hb:decide (0<=k/\k<st.length)=b):
  Y 280 #[gc,U k] w fun e w'=>e= .returned b/\w=w':=by
 obtain⟨cap,_,_,h1⟩:=h.head;clear h;unfold qX at hk;by_cases hk0:0<=k
 ·by_cases hk1:k<st.length
  ·obtain rfl:b=true:=by rw[<-hb];exact aZ ⟨hk0,hk1⟩
   clear hb;go_enter func280,ntmps280
   go_wp2
   go_ret;exact⟨rfl,rfl⟩
  obtain rfl:b=false:=by rw[<-hb];exact aR fun h=>hk1 h.2
  clear hb;go_enter func280,ntmps280
  go_wp2
  go_ret;exact⟨rfl,rfl⟩
 obtain rfl:b=false:=by rw[<-hb];exact aR fun h=>hk0 h.1
 clear hb;go_enter func280,ntmps280
 go_wp2
 go_ret;exact⟨rfl,rfl⟩
def hasB(st:List (Int×Int))(k:Int):Bool:=decide (0<=k/\k<st.length)
def OE(st:List (Int×Int))(k t:Int):Bool:=hasB st k&&decide ((st.getD k.toNat (0,0)).1<t)
def Aw(st:List (Int×Int))(k t r:Int):List (Int×Int):=if OE st k t then st.set k.toNat (t,r) else st
def lastOf(st:List (Int×Int))(k:Int):Int:=if hasB st k then(st.getD k.toNat (0,0)).1 else 0
theorem Cache.set(h:Cache w gc gl st)(hn:n<st.length)(t r:Int):
  Cache ((w.setCell ⟨gl,n*2,none⟩ (U t)).setCell ⟨gl,n*2+1,none⟩ (U r)) gc gl (st.set n (t,r)):=by
 obtain⟨cap,h1,h2⟩:=h.ex;refine⟨cap,?_,?_⟩
 ·rw[bG]
  exact(h1.far (p:=⟨gl,n*2,none⟩) h.ne _).far (p:=⟨gl,n*2+1,none⟩) h.ne _
 have e:=(h2.mg (n*2) (U t)).mg (n*2+1) (U r);rw[LY vJ yE (t,r) (U t) (U r) rfl st n hn] at e;rw[bG];exact e
theorem ak8(gc gl:Nat)(st:List (Int×Int))(k t r:Int)(w:World)(h:Cache w gc gl st)(hn:st.length<=4)(hk:qX k)(b:Bool)(hb:OE st k t=b)(st':List (Int×Int))(hs:Aw st k t r=st'):
  Y 292 #[gc,U k,U t,U r] w fun e w'=>e= .returned b/\Cache w' gc gl st'/\Only [gl] w w':=by
 have H:=jj h;obtain⟨cap,_,_,h1⟩:=h.head;by_cases hh:0<=k/\k<st.length
 ·obtain⟨n,rfl⟩:=bB hh.1
  have hlt:n<st.length:=lK;have hg:st.getD n (0,0)=st[n]:=by simp[List.getD,hlt]
  have c0:=h.EC n hlt;have c1:=h.ZM n hlt;have f0:=h.fr (n*2);have f1:=h.fr (n*2+1);have hB:hasB st n=true:=aZ hh;clear h;obtain⟨l0,hl0⟩:=ex st[n].1;rw[<-hl0] at c0;have i0:(0:Int)<=n:=hh.1;have i1:(n:Int)<st.length:=hh.2;have HB:=jj hB;by_cases htl:t<=l0
  ·obtain rfl:b=false:=by
    rw[<-hb];simp only[OE,hB,iw,Int.toNat_natCast,hg,<-hl0];exact aR lK
   obtain rfl:st'=st:=by rw[<-hs];unfold Aw;rw[hb];rfl
   clear hb hs hg hl0 hB hh;go_enter func292,ntmps292
   go_wp2_with(go_at_call 280;refine(Qt gc gl st' _ _ H hn hk true HB).mono ?_;rintro e w' ⟨rfl,rfl⟩)
   go_ret;exact⟨rfl,H,Only.refl _ _⟩
  obtain rfl:b=true:=by
   rw[<-hb];simp only[OE,hB,iw,Int.toNat_natCast,hg,<-hl0];exact aZ lK
  obtain rfl:st'=st.set n (t,r):=by rw[<-hs];unfold Aw;rw[hb];rfl
  clear hb hs hg hl0 hB hh;go_enter func292,ntmps292
  go_wp2_with(go_at_call 280;refine(Qt gc gl st _ _ H hn hk true HB).mono ?_;rintro e w' ⟨rfl,rfl⟩)
  go_ret;exact⟨rfl,H.set hlt t r,((Only.refl _ _).setCell (.inl lT) _).setCell (.inl lT) _⟩
 have hB:hasB st k=false:=aR hh;obtain rfl:b=false:=by rw[<-hb];simp only[OE,hB,kN]
 obtain rfl:st'=st:=by rw[<-hs];unfold Aw;rw[hb];rfl
 have HB:=jj hB;clear hb hs hh hB h;go_enter func292,ntmps292
 go_wp2_with(go_at_call 280;refine(Qt gc gl st' _ _ H hn hk false HB).mono ?_;rintro e w' ⟨rfl,rfl⟩)
 go_ret;exact⟨rfl,H,Only.refl _ _⟩
theorem Uk(gc gl:Nat)(st:List (Int×Int))(k:Int)(w:World)(h:Cache w gc gl st)(hn:st.length<=4)(hk:qX k)(t:Int)(ht:lastOf st k=t):
  Y 253 #[gc,U k] w fun e w'=>e= .returned (U t)/\w=w':=by
 have H:=jj h;obtain⟨cap,_,_,h1⟩:=h.head;by_cases hh:0<=k/\k<st.length
 ·obtain⟨n,rfl⟩:=bB hh.1
  have hlt:n<st.length:=lK;have hB:hasB st n=true:=aZ hh;have c0:=h.EC n hlt;obtain rfl:t=st[n].1:=by rw[<-ht];simp[lastOf,hB,List.getD,hlt]
  obtain⟨l0,hl0⟩:=ex st[n].1;rw[<-hl0] at c0|-;have i0:(0:Int)<=n:=hh.1;have i1:(n:Int)<st.length:=hh.2;have HB:=jj hB;clear ht hl0 hB hh h;go_enter func253,ntmps253
  go_wp2_with(go_at_call 280;refine(Qt gc gl st _ _ H hn hk true HB).mono ?_;rintro e w' ⟨rfl,rfl⟩)
  go_ret;exact⟨rfl,rfl⟩
 have hB:hasB st k=false:=aR hh;obtain rfl:t=0:=by rw[<-ht];simp[lastOf,hB]
 have HB:=jj hB;clear ht hh hB h;go_enter func253,ntmps253
 go_wp2_with(go_at_call 280;refine(Qt gc gl st _ _ H hn hk false HB).mono ?_;rintro e w' ⟨rfl,rfl⟩)
 go_ret;exact⟨rfl,rfl⟩
theorem IZ:(prog.info? 202).map (fun i=>(i.zero,i.size,i.bytes))=some (some (.agg #[U 0,U 0]),2,16):=by kernel_rfl
theorem Gv(n:Nat):madeCells #[U 0,U 0] (n*2)=((List.replicate n ((0,0):Int×Int)).flatMap vJ).toArray:=by
 apply gP;intro i;simp only[cZ];have hd:i=i/2*2+i%2:=lK;rw[show((List.replicate n ((0,0):Int×Int)).flatMap vJ)[i]?=((List.replicate n ((0,0):Int×Int)).flatMap vJ)[i/2*2+i%2]? by rw[<-hd],flat_get vJ 2 yE _ _ _ (ji _ lK)];by_cases hi:i<n*2
 ·have h2:i/2<n:=lK
  rcases Nat.mod_two_eq_zero_or_one i with hm|hm
  ·simp[madeCells,hi,h2,hm,vJ]
  simp[madeCells,hi,h2,hm,vJ]
 have h2: ¬i/2<n:=lK;simp[madeCells,hi,h2]
theorem ahv(n:Nat)(h1:1<=n)(h4:n<=4)(w:World):
  Y 111 #[U n] w fun e w'=> ∃gc gl,e= .returned (.tuple #[(gc:Nat),U 0])/\Cache w' gc gl (List.replicate n (0,0))/\w.heap.size<=gc/\w.heap.size<=gl/\Be w w':=by
 obtain⟨i0,hi0,hz0,hz1,hz2⟩:=bq IZ;have hmk:=fun W=>kQ (P:=prog) W 198 202 i0 _ underlying198 hi0 hz0 .i64 .i64 n n lK lK (by rw[hz2];omega) lK;rw[hz1] at hmk;simp only[Int.toNat_natCast,Value.cells,Gv] at hmk;clear hi0 hz0 hz1 hz2;go_enter func111,ntmps111
 go_wp2
 go_ret2
 refine⟨w.heap.size+1,w.heap.size,rfl,⟨n,?_,?_⟩,?_,?_,nC.alloc lT _⟩
 ·simp only[fC]
  exact lQ.new' _ _ _ lT
 ·simp only[fC]
  have e:=Row.nR (n:=n) (s:=2) ((lQ.new w 202 ((List.replicate n ((0,0):Int×Int)).flatMap vJ).toArray).alloc (.cells #[O w.heap.size n n] 200)) (by simp[qj vJ 2 yE]) (by unfold maxLen;omega);exact e
 ·simp
 simp
theorem MR(st:List (Int×Int))(k t r:Int):(Aw st k t r).length=st.length:=by
 unfold Aw;split<;>simp
theorem Yn(st:List (Int×Int)): ∀u∈st.flatMap vJ,u.oneCell'=true:=by
 intro u hu;simp only[bg,vJ,ay,aI,bK] at hu;obtain⟨p,_,rfl|rfl⟩:=hu<;>rfl
theorem Z5(gc gl:Nat)(st:List (Int×Int))(w:World)(h:Cache w gc gl st)(h1:1<=st.length)(hn:st.length<=4):
  Y 99 #[gc] w fun e w'=> ∃gd gk,e= .returned (gd:Nat)/\Cache w' gd gk st/\w.heap.size<=gd/\w.heap.size<=gk/\Be w w':=by
 obtain⟨i0,hi0,hz0,hz1,hz2⟩:=bq IZ;obtain⟨cap,k1,k2⟩:=h.ex;have hc:=k1.at_ 0;have hlen:=jj k2.len;have hnews:=jj k2.news;have h4:st.length<=4:=hn;clear k1 k2 h;go_enter func99,ntmps99
 go_wp2_with(at_builtin;refine fU _ rfl (.const ()) (.tmp 6) _ rfl 0 202 i0 _ 2 16 underlying198 hi0 hz0 hz1 hz2 rfl lK () 0 [] rfl ⟨lT,.inl ⟨rfl,rfl⟩⟩ ⟨gl,0,none⟩ st.length cap (st.flatMap vJ) rfl hlen hnews (Yn st) lK (by unfold maxLen;omega) lK (bF _) w.heap.size rfl ?_;intro g cap' w1 hown1 hgrow1 aaC hlt1)
 have hg:g=w.heap.size:=by
  rcases aaC with h|h
  ·cases h
  exact h
 subst hg;simp only[aO,List.nil_append] at hown1;have ho:Only [] w w1:=(Only.refl [] w).grown hgrow1 (fun k hk=>by cases hk);have hb:Be w w1:=ho.mY;have HO:=jj hown1;clear hown1 hgrow1 aaC
 go_wp2
 go_ret;refine⟨w1.heap.size,w.heap.size,rfl,⟨cap',lQ.new _ _ _,(Row.sG HO).alloc _⟩,hb.size,aF _,hb.alloc hb.size _⟩
abbrev CY:=Rq×Int
def pF(e:CY):List Value:= [U e.1.1,U e.1.2.1,U e.1.2.2.1,U e.1.2.2.2.1,U e.1.2.2.2.2.1,U e.1.2.2.2.2.2,U e.2]
theorem vP(e:CY):(pF e).length=7:=rfl
theorem LM(es:List CY): ∀v∈es.flatMap pF,v.oneCell'=true:=by
 intro v hv;obtain⟨p,_,hp⟩:=bg.1 hv;simp only[pF,ay,aI,bK] at hp;rcases hp with rfl|rfl|rfl|rfl|rfl|rfl|rfl<;>rfl
def Yf(ct:List (Int×Int))(r:Rq):Bool:=hasB ct r.1&&decide (lastOf ct r.1<r.2.1)
abbrev Kr:=List CY×List (Bool×Int)×List (Int×Int)
def uK(s:Kr)(r:Rq):Int:=Pw s.2.1 r.2.2.1 r.2.2.2.1 r.2.2.2.2.1
def qg(s:Kr)(r:Rq):Kr:=if Yf s.2.2 r then(s.1++ [(r,uK s r)],yD s.2.1 r.2.2.1 r.2.2.2.1 r.2.2.2.2.1,Aw s.2.2 r.1 r.2.1 (uK s r)) else s
def qL(s:Kr)(rs:List Rq):Kr:=rs.foldl qg s
theorem Yw(s:Kr)(rs:List Rq)(k:Nat)(hk:k<rs.length):qL s (rs.take (k+1))=qg (qL s (rs.take k)) rs[k]:=by
 unfold qL;rw[fM,aj hk,jR];rfl
theorem Ru(s:Kr)(r:Rq):(qg s r).2.2.length=s.2.2.length:=by
 unfold qg;split
 ·exact MR _ _ _ _
 rfl
theorem Rv{s:Kr}(h:oQ s.2.1)(r:Rq):oQ (qg s r).2.1:=by
 unfold qg;split
 ·exact h.op _ _ _
 exact h
theorem Nf(s:Kr)(r:Rq):(qg s r).1.length<=s.1.length+1:=by
 unfold qg;split
 ·simp
 exact Nat.le_succ _
theorem abW{s:Kr}(h:oQ s.2.1): ∀rs:List Rq,oQ (qL s rs).2.1/\(qL s rs).2.2.length=s.2.2.length/\(qL s rs).1.length<=s.1.length+rs.length:=by
 intro rs
 induction rs generalizing s with
 |nil=>exact⟨h,rfl,by simp[qL]⟩
 |cons r rs ih=>
  have h1:=ih (Rv h r);have e:qL s (r::rs)=qL (qg s r) rs:=rfl;rw[e];refine⟨h1.1,by rw[h1.2.1,Ru],?_⟩;have:=h1.2.2;have:=Nf s r;simp only[List.length_cons];omega
def blks(a:OA):List Nat:=match a with|none=> []|some p=> [p.block]
structure Er(w:World)(S:LN)(gd:Nat)(C:Nat)(es:List CY)(st:List (Bool×Int))(ct:List (Int×Int)):Prop where
 ex: ∃gs gc gl a cap,S=gd::gs::gc::gl::blks a/\lQ w gd 135 #[U C,.slice a es.length cap,(gs:Nat),(gc:Nat)]/\
  w.ownsRow 0 51 7 (.slice a es.length cap) es.length (es.flatMap pF)/\Store w gs st/\Cache w gc gl ct
 c:1<=C/\C<=4
 len:ct.length=C
 sm:oQ st
section
variable{w w':World}{S T:LN}{gd C:Nat}{es:List CY}{st:List (Bool×Int)}{ct:List (Int×Int)}
theorem yg{g:Nat}(h:(Value.slice a n c).ownBlock=some g):g∈blks a:=by
 cases a with
 |none=>cases h
 |some p=>
  have:p.block=g:=by simpa[Value.ownBlock] using h
  simp[blks,this]
theorem Er.only(h:Er w S gd C es st ct)(ho:Only T w w')(hd: ∀k∈S,k∉T):Er w' S gd C es st ct:=by
 obtain⟨gs,gc,gl,a,cap,rfl,h1,h2,h3,h4⟩:=h.ex;refine⟨⟨gs,gc,gl,a,cap,rfl,h1.only ho (hd _ lT),mK h2 ho (fun g hg=>hd g ?_),h3.only ho (hd _ lT),h4.only ho (hd _ lT) (hd _ lT)⟩,h.c,h.len,h.sm⟩;have:=yg hg;simp[this]
theorem Er.below(h:Er w S gd C es st ct)(hb:Be w w'):Er w' S gd C es st ct:=h.only (Only.of_below (S:= []) hb) fun _ _=>aI
theorem Er.lt(h:Er w S gd C es st ct): ∀k∈S,k<w.heap.size:=by
 obtain⟨gs,gc,gl,a,cap,rfl,h1,h2,h3,h4⟩:=h.ex;intro k hk;simp only[ay] at hk;rcases hk with rfl|rfl|rfl|rfl|hk
 ·exact h1.lt
 ·exact h3.lt
 ·exact h4.clt
 ·exact h4.llt
 rcases h2.2 with⟨hv,_⟩|⟨g,cp,cur,hv,_,hh,_⟩
 ·injection hv with e1 _ _
  subst e1;cases hk
 injection hv with e1 _ _;subst e1;simp only[blks,au] at hk;subst hk;exact(eX.1 hh).1
end
theorem ad4(n:Nat)(h1:1<=n)(h4:n<=4)(w:World):
  Y 78 #[U n] w fun e w'=> ∃S gd,e= .returned (.tuple #[(gd:Nat),U 0])/\Er w' S gd n [] st0 (List.replicate n (0,0))/\(∀k∈S,w.heap.size<=k)/\Be w w':=by
 go_enter func78,ntmps78
 go_wp2_with fail
 refine(ahv n h1 h4 _).mono ?_;rintro e w1 ⟨gc,gl,rfl,hC,hg1,hg2,hb1⟩;have HC:=jj hC;have B1:=jj hb1;have G:=jj (show w.heap.size<=gc/\w.heap.size<=gl from⟨hg1,hg2⟩);clear hC hb1 hg1 hg2
 go_wp2_with fail
 refine(ak0 _).mono ?_;rintro e w2 ⟨gs,rfl,hS,hg3,hb2⟩;have HS:=jj hS;have HC2:=jj (HC.below hb2);have B2:=nO B1 hb2;have G3:=jj (aG B1.size hg3);clear hS hb2 hg3
 go_wp2
 go_ret2
 have b3:Be w2 (w2.alloc (.cells #[U n,(),gs,gc] 135)):=nC;refine⟨_,w2.heap.size,rfl,⟨⟨gs,gc,gl,none,0,rfl,lQ.new _ _ _,⟨lT,.inl ⟨rfl,rfl⟩⟩,HS.below b3,HC2.below b3⟩,⟨h1,h4⟩,lT,oQ.zero⟩,?_,B2.alloc B2.size _⟩;intro k hk;simp only[blks,ay,aI,bK] at hk;have:=G.out;have:=G3.out;have:=B2.size;omega
end Go.Proofs.YtgnhecmnlddjhaaGreat
