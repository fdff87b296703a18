/- TopAlone, part 6 of 24: a proof squeezed by a program. -/
import Derived.Test.YtgnhecmnlddjhaaGreatZ04
set_option linter.unusedVariables false
set_option linter.unusedSimpArgs false
set_option linter.defProp false
set_option maxRecDepth 100000
set_option maxHeartbeats 6400000
namespace Go.Proofs.YtgnhecmnlddjhaaGreat
open Go.RowKit Go.Proofs.Tryz
variable{a:OA}{bs:List Rq}{c g gv k n t x:Nat}{l:List rC}{v:rC}{w w':World}
theorem Oo{α:Type}(f:α->List Int)(l:List α)(k:Nat)(h:(l.flatMap f).length<=k*l.length):(nI f l).length<=6+k*l.length:=by
 have:=nK l.length;unfold nI;rw[av];omega
theorem Mi:(prog.info? 3).map (fun i=>(i.zero,i.size,i.bytes))=some (some (U 0),1,8):=by kernel_rfl
theorem ix5(m0 m1 m2 m3 m4:Int)(k:Nat)(z:Int)(hk:k<5)(hz: [m0,m1,m2,m3,m4][k]?=some z)(w:World):
  (Instr.index 259 (.agg #[U m0,U m1,U m2,U m3,U m4]) (U k)).run prog w= .ok (U z) w:=by
 obtain⟨i0,hi0,_,hz1,_⟩:=bq Mi;have h1:(0:Int)<=(k:Int)/\(k:Int)<(5:Nat):=lK;simp only[Instr.index,jD,asIntOf,Sem.run_pure,Result.andThen_ok,fD underlying259,aV h1,sizeOf,typeInfo,part,Int.toNat_natCast]
 match k,hk with
 |0,_|1,_|2,_|3,_|4,_=>
  simp at hz;subst hz;simp[hi0,hz1]
theorem Ta(w:World)(m:MD)(h:m.Is w)(ok:Ev (nA m))(hsz:(lX (nA m)).length<=65536):
  Y 102 #[.agg (oM m).toArray] w fun e w'=> ∃a' c',e= .returned (.tuple #[.slice a' (lX (nA m)).length c',true])/\w'.ownsRow w.heap.size 5 1 (.slice a' (lX (nA m)).length c') (lX (nA m)).length (mZ (lX (nA m)))/\Be w w':=by
 have TF: ∀(fn:Fn) (first cap:AV) (w:World),(Instr.makeFunc fn first cap).run prog w= .ok (.func fn first cap) w:=fun _ _ _ _=>rfl;obtain⟨m0,m1,m2,m3,m4,m5,ba,bn,bc,br,va,vn,vc,vs,ca,cn,cc,cs,pa,pc⟩:=m;have IS:=jj h;have HSZ:=jj hsz;obtain⟨o0,o1,o2,o3,o4,o5,o6,o7,o8,o9,o10,o11⟩:=ok;simp only[nA] at o0 o1 o2 o3 o4 o5 o6 o7 o8 o9 o10 o11;obtain⟨N0,N1,N2,N3,N4,N5⟩:=j6 o0 o1 o2 o3 o4 o5;have OB:=jj o6;have OV:=jj o7;have OC:Hid (∀c∈cs,Et (pz c)):=jj (fun c hc=>o8 _ (bM.2 ⟨c,hc,rfl⟩));have lb:=h.b.len;have lv:=h.v.len;have lc:=h.c.len;simp only at lb lv lc;have agF:bn<=256:=lK;have ahV:vn<=256:=lK;have aod:cn<=256:=by rw[<-lc];simpa using o11
 have LB:=jj lb;have LV:=jj lv;have E5:Hid (qp [m0,m1,m2,m3,m4]++vg m5++nI oK br++nI uQ vs++nI uG (cs.map pz)++mD 0=lX (nA ⟨m0,m1,m2,m3,m4,m5,ba,bn,bc,br,va,vn,vc,vs,ca,cn,cc,cs,pa,pc⟩)):=jj (by simp[qp,lX,nA]);have g6:=nK 0;have g1:(qp [m0,m1,m2,m3,m4]).length<=30:=by simpa using rW [m0,m1,m2,m3,m4]
 have g2:(vg m5).length<=6:=nK _;have g3:=Oo oK br 36 (Br br);have g4:=Oo uQ vs 12 (JX vs);have g5:(nI uG (cs.map pz)).length<=6+12400*cs.length:=by
  have e1:=Qc cs OC;have:=nK (cs.map pz).length;unfold nI;rw[av,List.flatMap_map];omega
 have gl:br.length<=256/\vs.length<=256/\cs.length<=256:=lK;clear h o0 o1 o2 o3 o4 o5 o6 o7 o8 o9 o10 o11 lb lv lc hsz;show Y 102 #[.agg #[U m0,U m1,U m2,U m3,U m4,U m5,.slice ba bn bc,.slice va vn vc,.slice ca cn cc,.slice pa 0 pc]] w _;go_enter func102,ntmps102
 go_upto_region 3 with fail
 obtain⟨w3,hw3⟩:=ex (((w.alloc (.cells #[U m0,U m1,U m2,U m3,U m4,U m5,.slice ba bn bc,.slice va vn vc,.slice ca cn cc,.slice pa 0 pc] 82)).alloc (.cells #[()] 140)).alloc (.cells #[true] 4));obtain⟨gg,hgg⟩:=ex (w.heap.size+1+1);obtain⟨go,hgo⟩:=ex (w.heap.size+1);obtain⟨gb,hgb⟩:=ex w.heap.size;rw[<-hw3,<-hgg,<-hgo,<-hgb];have YP:Hid (lQ w3 gb 82 #[U m0,U m1,U m2,U m3,U m4,U m5,.slice ba bn bc,.slice va vn vc,.slice ca cn cc,.slice pa 0 pc]):=jj (by rw[hw3,hgb];exact((lQ.new _ _ _).alloc _).alloc _);have D0:Hid (Bd w w3 go gg []):=jj (by
  rw[hw3];refine⟨⟨none,0,(lQ.new' _ _ _ (by simp[hgo])).alloc _,⟨rfl,.inl ⟨rfl,rfl⟩⟩⟩,lQ.new' _ _ _ (by simp[hgg]),(nC.alloc lT _).alloc (by simp;omega) _,lK,lK⟩)
 clear hw3 hgg hgo hgb;obtain⟨d0,d1,d2,d3,d4⟩:=YP.a5
 go_wp2_with fail
 clear d0 d1 d2 d3 d4
 go_loopw [21] (fun i wr=> ∃k:Nat,k<=5/\i= U k/\Bd w wr go gg (qp ([m0,m1,m2,m3,m4].take k))/\lQ wr gb 82 #[U m0,U m1,U m2,U m3,U m4,U m5,.slice ba bn bc,.slice va vn vc,.slice ca cn cc,.slice pa 0 pc]) (fun i _=>5 -(intOf i).toNat)
 case atStart=>exact⟨0,lK,rfl,D0,YP⟩
 case round=>
  obtain⟨k,hk,rfl,hd,hx⟩:=hrel;obtain⟨wo,rfl⟩:=ex wr;have D1:=jj hd;have AY:=jj hx;clear hd hx;rcases(show k=0\/k=1\/k=2\/k=3\/k=4\/k=5 by omega) with rfl|rfl|rfl|rfl|rfl|rfl
  rotate_right
  ·clear D0 YP
   have d5:=AY.at_ 5;have d6:=AY.at_ 6;have d7:=AY.at_ 7;have d8:=AY.at_ 8;have d9:=AY.at_ 9
   go_wp2_with fail
   refine(Rs m5 N5 _).mono ?_;rintro e v1 ⟨a1,c1,rfl,ho1,hb1⟩;have O1:=jj ho1;have Zi:=jj (D1.keep hb1);have Zf:=jj (AY.below hb1 AY.lt);clear ho1 hb1
   go_wp2_with fail
   refine(xI Zi a1 _ c1 _ (l9 O1) (fun b hb=>(lW O1 b (aJ.2 hb)).2) rfl (by have e0:(List.take 5 [m0,m1,m2,m3,m4])= [m0,m1,m2,m3,m4]:=rfl;rw[e0];omega)).mono ?_;rintro e w2 ⟨rfl,hd2,hk2⟩;have D2:=jj hd2;have yM:=jj (hk2.blk Zf lN lN lN);clear hd2 hk2;have d6:=yM.at_ 6;have d7:=yM.at_ 7;have d8:=yM.at_ 8;have d9:=yM.at_ 9
   go_wp2_with fail
   refine(aby _ ba bn bc br (IS.b.row.below D2.below) LB agF OB).mono ?_;rintro e v2 ⟨a2,c2,rfl,ho2,hb2⟩;have O2:=jj ho2;have DD2:=jj (D2.keep hb2);have BY2:=jj (yM.below hb2 yM.lt);clear ho2 hb2
   go_wp2_with fail
   refine(xI DD2 a2 _ c2 _ (l9 O2) (fun b hb=>(lW O2 b (aJ.2 hb)).2) rfl (by rw[show(List.take 5 [m0,m1,m2,m3,m4])= [m0,m1,m2,m3,m4] from rfl];simp only[av];omega)).mono ?_;rintro e w3 ⟨rfl,hd3,hk3⟩;have D3:=jj hd3;have Sv:=jj (hk3.blk BY2 lN lN lN);clear hd3 hk3;have d7:=Sv.at_ 7;have d8:=Sv.at_ 8;have d9:=Sv.at_ 9
   go_wp2_with fail
   refine(abJ _ va vn vc vs (IS.v.row.below D3.below) LV ahV OV).mono ?_;rintro e v3 ⟨a3,c3,rfl,ho3,hb3⟩;have O3:=jj ho3;have DD3:=jj (D3.keep hb3);have BY3:=jj (Sv.below hb3 Sv.lt);clear ho3 hb3
   go_wp2_with fail
   refine(xI DD3 a3 _ c3 _ (l9 O3) (fun b hb=>(lW O3 b (aJ.2 hb)).2) rfl (by rw[show(List.take 5 [m0,m1,m2,m3,m4])= [m0,m1,m2,m3,m4] from rfl];simp only[av];omega)).mono ?_;rintro e w4 ⟨rfl,hd4,hk4⟩;have D4:=jj hd4;have BX4:=jj (hk4.blk BY3 lN lN lN);clear hd4 hk4;have d8:=BX4.at_ 8;have d9:=BX4.at_ 9
   go_wp2_with fail
   refine(abz _ ca cn cc cs (IS.c.below' D4.below) aod OC).mono ?_;rintro e v4 ⟨a4,c4,rfl,xQ,hb4⟩;have O4:=jj xQ;have DD4:=jj (D4.keep hb4);have BY4:=jj (BX4.below hb4 BX4.lt);clear xQ hb4
   go_wp2_with fail
   refine(xI DD4 a4 _ c4 _ (l9 O4) (fun b hb=>(lW O4 b (aJ.2 hb)).2) rfl (by rw[show(List.take 5 [m0,m1,m2,m3,m4])= [m0,m1,m2,m3,m4] from rfl];simp only[av];omega)).mono ?_;rintro e w5 ⟨rfl,hd5,hk5⟩;have D5:=jj hd5;have BX5:=jj (hk5.blk BY4 lN lN lN);clear hd5 hk5;have d9:=BX5.at_ 9
   go_wp2_with fail
   refine(abD _ pa pc).mono ?_;rintro e v5 ⟨a5,c5,rfl,Kg,hb5⟩;have O5:=jj Kg;have DD5:=jj (D5.keep hb5);have BY5:=jj (BX5.below hb5 BX5.lt);clear Kg hb5
   go_wp2_with fail
   refine(xI DD5 a5 _ c5 _ (l9 O5) (fun b hb=>(lW O5 b (aJ.2 hb)).2) rfl (by rw[show(List.take 5 [m0,m1,m2,m3,m4])= [m0,m1,m2,m3,m4] from rfl];simp only[av];omega)).mono ?_;rintro e w6 ⟨rfl,hd6,hk6⟩;have D6:=jj hd6;have BX6:=jj (hk6.blk BY5 lN lN lN);clear hd6 hk6;have D7:=D6.out;rw[show(List.take 5 [m0,m1,m2,m3,m4])= [m0,m1,m2,m3,m4] from rfl,E5.out] at D7;obtain⟨a,c,h1,h2⟩:=D7.ex;obtain⟨n,hn⟩:=ex ((lX (nA ⟨m0,m1,m2,m3,m4,m5,ba,bn,bc,br,va,vn,vc,vs,ca,cn,cc,cs,pa,pc⟩)).length);have c0:J w6 go 0 (.slice a n c):=by rw[hn];exact h1.cell 0
   have c1:=D7.good.at_ 0;have hs: ¬(65536:Int)<n:=by have:=HSZ.out;omega
   obtain⟨H2,BB,HN⟩:=j3 h2 D7.below hn;clear h1 h2 D7 hn
   go_wp2_with fail
   go_ret2
   exact⟨a,c,by rw[<-HN.out];rfl,H2,BB⟩
  ·have hix: ∀w:World,(Instr.index 259 (.agg #[U m0,U m1,U m2,U m3,U m4]) (U 0)).run prog w= .ok (U m0) w:=ix5 m0 m1 m2 m3 m4 0 m0 lK rfl
   go_wp2_with fail
   refine(uX m0 N0 _).mono ?_;rintro e v1 ⟨a1,c1,rfl,ho1,hb1⟩;have O1:=jj ho1;have Zi:=jj (D1.keep hb1);have Zf:=jj (AY.below hb1 AY.lt);clear ho1 hb1
   go_wp2_with fail
   refine(xI Zi a1 _ c1 _ (l9 O1) (fun b hb=>(lW O1 b (aJ.2 hb)).2) rfl (by have e8:=rW ([m0,m1,m2,m3,m4].take 0);have e9:([m0,m1,m2,m3,m4].take 0).length=0:=rfl;have:=nK m0.toNat;omega)).mono ?_;rintro e w2 ⟨rfl,hd2,hk2⟩;have D2:=jj hd2;have yM:=jj (hk2.blk Zf lN lN lN);clear hd2 hk2
   go_wp2_with fail
   go_roundw
   case rel=>exact⟨1,lK,rfl,by simpa[qp] using D2.out,yM⟩
   simp[intOf]
  ·have hix: ∀w:World,(Instr.index 259 (.agg #[U m0,U m1,U m2,U m3,U m4]) (U 1)).run prog w= .ok (U m1) w:=ix5 m0 m1 m2 m3 m4 1 m1 lK rfl
   go_wp2_with fail
   refine(uX m1 N1 _).mono ?_;rintro e v1 ⟨a1,c1,rfl,ho1,hb1⟩;have O1:=jj ho1;have Zi:=jj (D1.keep hb1);have Zf:=jj (AY.below hb1 AY.lt);clear ho1 hb1
   go_wp2_with fail
   refine(xI Zi a1 _ c1 _ (l9 O1) (fun b hb=>(lW O1 b (aJ.2 hb)).2) rfl (by have e8:=rW ([m0,m1,m2,m3,m4].take 1);have e9:([m0,m1,m2,m3,m4].take 1).length=1:=rfl;have:=nK m1.toNat;omega)).mono ?_;rintro e w2 ⟨rfl,hd2,hk2⟩;have D2:=jj hd2;have yM:=jj (hk2.blk Zf lN lN lN);clear hd2 hk2
   go_wp2_with fail
   go_roundw
   case rel=>exact⟨2,lK,rfl,by simpa[qp] using D2.out,yM⟩
   simp[intOf]
  ·have hix: ∀w:World,(Instr.index 259 (.agg #[U m0,U m1,U m2,U m3,U m4]) (U 2)).run prog w= .ok (U m2) w:=ix5 m0 m1 m2 m3 m4 2 m2 lK rfl
   go_wp2_with fail
   refine(uX m2 N2 _).mono ?_;rintro e v1 ⟨a1,c1,rfl,ho1,hb1⟩;have O1:=jj ho1;have Zi:=jj (D1.keep hb1);have Zf:=jj (AY.below hb1 AY.lt);clear ho1 hb1
   go_wp2_with fail
   refine(xI Zi a1 _ c1 _ (l9 O1) (fun b hb=>(lW O1 b (aJ.2 hb)).2) rfl (by have e8:=rW ([m0,m1,m2,m3,m4].take 2);have e9:([m0,m1,m2,m3,m4].take 2).length=2:=rfl;have:=nK m2.toNat;omega)).mono ?_;rintro e w2 ⟨rfl,hd2,hk2⟩;have D2:=jj hd2;have yM:=jj (hk2.blk Zf lN lN lN);clear hd2 hk2
   go_wp2_with fail
   go_roundw
   case rel=>exact⟨3,lK,rfl,by simpa[qp] using D2.out,yM⟩
   simp[intOf]
  ·have hix: ∀w:World,(Instr.index 259 (.agg #[U m0,U m1,U m2,U m3,U m4]) (U 3)).run prog w= .ok (U m3) w:=ix5 m0 m1 m2 m3 m4 3 m3 lK rfl
   go_wp2_with fail
   refine(uX m3 N3 _).mono ?_;rintro e v1 ⟨a1,c1,rfl,ho1,hb1⟩;have O1:=jj ho1;have Zi:=jj (D1.keep hb1);have Zf:=jj (AY.below hb1 AY.lt);clear ho1 hb1
   go_wp2_with fail
   refine(xI Zi a1 _ c1 _ (l9 O1) (fun b hb=>(lW O1 b (aJ.2 hb)).2) rfl (by have e8:=rW ([m0,m1,m2,m3,m4].take 3);have e9:([m0,m1,m2,m3,m4].take 3).length=3:=rfl;have:=nK m3.toNat;omega)).mono ?_;rintro e w2 ⟨rfl,hd2,hk2⟩;have D2:=jj hd2;have yM:=jj (hk2.blk Zf lN lN lN);clear hd2 hk2
   go_wp2_with fail
   go_roundw
   case rel=>exact⟨4,lK,rfl,by simpa[qp] using D2.out,yM⟩
   simp[intOf]
  have hix: ∀w:World,(Instr.index 259 (.agg #[U m0,U m1,U m2,U m3,U m4]) (U 4)).run prog w= .ok (U m4) w:=ix5 m0 m1 m2 m3 m4 4 m4 lK rfl
  go_wp2_with fail
  refine(uX m4 N4 _).mono ?_;rintro e v1 ⟨a1,c1,rfl,ho1,hb1⟩;have O1:=jj ho1;have Zi:=jj (D1.keep hb1);have Zf:=jj (AY.below hb1 AY.lt);clear ho1 hb1
  go_wp2_with fail
  refine(xI Zi a1 _ c1 _ (l9 O1) (fun b hb=>(lW O1 b (aJ.2 hb)).2) rfl (by have e8:=rW ([m0,m1,m2,m3,m4].take 4);have e9:([m0,m1,m2,m3,m4].take 4).length=4:=rfl;have:=nK m4.toNat;omega)).mono ?_;rintro e w2 ⟨rfl,hd2,hk2⟩;have D2:=jj hd2;have yM:=jj (hk2.blk Zf lN lN lN);clear hd2 hk2
  go_wp2_with fail
  go_roundw
  case rel=>exact⟨5,lK,rfl,by simpa[qp] using D2.out,yM⟩
  simp[intOf]
theorem ahU(a:OA)(l c:Nat)(bs:LI)(k:Nat)(z:Int)(hz:wP z)(hl:bs.length=l)(hm:l<=1048576)(w:World)(hv:mo w a l 1 (mZ bs))(hat:At bs k (vg z)):
  Y 196 #[.slice a l c,U k] w fun e w'=>e= .returned (.tuple #[U z,U ((k+(vg z).length:Nat):Int),true])/\w=w':=by
 have HC:=jj (AL a l c bs k (zig z) (J9 hz) hl hm w hv hat);have HZ:=jj hz;obtain⟨j,hj⟩:=ex (k+(vg z).length);rw[<-hj];have HJ:Hid (k+(mD (zig z)).length=j):=jj (by rw[hj];rfl);rw[HJ.out] at HC;clear hz hl hv hat hj;go_enter func196,ntmps196
 go_wp2_with fail
 refine HC.mono ?_;rintro e w' ⟨rfl,rfl⟩
 go_wp2_with fail
 refine(afQ z HZ _).mono ?_;rintro e w' ⟨rfl,rfl⟩
 go_wp2_with fail
 go_ret3
 exact⟨by trivial,by trivial⟩
theorem mV {P:Program} {fn:Func} {p u:Tmp} {ty:TypeId} (h:fn.results=#[.cell p ty,.tmp u]) (tmps:AV) (w:World) (g:Nat) (t:TypeId) (cs:AV) (fr:Nat×Nat) (d:TypeDesc)
  (hp:tmps.getD p undef= .pointer (some ⟨g,0,none⟩)) (hg:w.heap[g]?=some (.cells cs t fr))
  (hu:P.underlying ty=some d) (hd:(match d with| .struct _| .array _ _=>true|_=>false)=true) (hi:(P.info? ty).map (·.size)=some cs.size):
  (results fn tmps).run P w= .ok (.tuple #[.agg cs,tmps.getD u undef]) w:=by
 have hp':tmps[p]?.getD undef= .pointer (some ⟨g,0,none⟩):=by simpa using hp
 simp[results,h,hp',asAddr,run_loadVar_row w g t ty cs fr d hg hu hd hi]
theorem sK.uY{cs:AV}(h:sK x w a n c bs)(ho:Only [g] w w')(hb:lQ w g t cs)(ht:t∉KH):sK x w' a n c bs:=h.only ho (mR (nV.of hb ht))
theorem Ez.uY{bs:List Vo}{cs:AV}(h:Ez x w a n c bs)(ho:Only [g] w w')(hb:lQ w g t cs)(ht:t∉KH):Ez x w' a n c bs:=h.only ho (mR (nV.of hb ht))
theorem Gz.uY{bs:List CD}{cs:AV}(h:Gz x w a n c bs)(ho:Only [g] w w')(hb:lQ w g t cs)(ht:t∉KH)(hc:t≠228):Gz x w' a n c bs:=h.only ho (mR (nV.of hb ht)) (Nr.of hb hc)
theorem Gz.own{base:Nat}{cs:List CD}(h:w.ownsRow base 228 5 (.slice a n c) n (cs.flatMap nS))(hc: ∀d∈cs,Fw w base d)(hi: ∀d∈cs,qX d.view/\qX d.inst/\qX d.seq)(hx:x<base)(hn:cs.length=n):Gz x w a n c cs:=
 ⟨l9 h,hn,qB h,uO h,fun d hd=>⟨⟨(sK.own (hc d hd).b hx (hc d hd).lb).row,(Ez.own (hc d hd).v hx (hc d hd).lv).row,(hi d hd).1,(hi d hd).2.1,(hi d hd).2.2⟩,Fixed.own (hc d hd).b hx,Fixed.own (hc d hd).v hx⟩,Fixed.own h hx⟩
theorem qh.i64{z:Int}(h:qh z):qX z:=⟨by have:=h.1;omega,by have:=h.2;omega⟩
theorem aew(w:World)(a:OA)(m c:Nat)(bs:LI)(M:Ms)(hok:Ev M)(hbs:bs=lX M)(hm:bs.length=m)(hm2:m<=65536)(hv:mo w a m 1 (mZ bs))(x:Nat)(hx:x<w.heap.size):
  Y 154 #[.slice a m c] w fun e w'=> ∃d:MD,e= .returned (.tuple #[.agg (oM d).toArray,true])/\nA d=M/\MF x w' d/\Be w w':=by
 obtain⟨z0,z1,z2,z3,z4,z5,l6,l7,l8⟩:=M;obtain⟨o0,o1,o2,o3,o4,o5,o6,o7,o8,o9,o10,o11⟩:=hok;simp only at o0 o1 o2 o3 o4 o5 o6 o7 o8 o9 o10 o11;obtain⟨r0,rfl⟩:=bB o0.1;have N0:Hid (r0<1099511627776):=jj (tL o0.2);obtain⟨r1,rfl⟩:=bB o1.1;have N1:Hid (r1<1099511627776):=jj (tL o1.2);obtain⟨r2,rfl⟩:=bB o2.1;have N2:Hid (r2<1099511627776):=jj (tL o2.2);obtain⟨r3,rfl⟩:=bB o3.1;have N3:Hid (r3<1099511627776):=jj (tL o3.2);obtain⟨r4,rfl⟩:=bB o4.1;have N4:Hid (r4<1099511627776):=jj (tL o4.2);obtain⟨N5,O6,O7,O8⟩:=j4 o5 o6 o7 o8;obtain⟨n6,hn6⟩: ∃n,l6.length=n:=⟨_,rfl⟩;obtain⟨n7,hn7⟩: ∃n,l7.length=n:=⟨_,rfl⟩;obtain⟨n8,hn8⟩: ∃n,l8.length=n:=⟨_,rfl⟩;rw[hn6] at o9;rw[hn7] at o10;rw[hn8] at o11;obtain⟨LL6,LL7,LL8,HV,HM⟩:=j5 hn6 hn7 hn8 hv hm;have PG:Hid (m<=1048576):=jj lK;have A0:=At.all bs;obtain⟨p0,hp0⟩: ∃p:Nat,p=0:=⟨_,rfl⟩;rw[<-hp0] at A0;have T0:At bs p0 (mD r0++(mD r1++(mD r2++(mD r3++(mD r4++(vg z5++(nI oK l6++(nI uQ l7++(nI uG l8++(mD 0)))))))))):=by
  have e:bs=mD r0++(mD r1++(mD r2++(mD r3++(mD r4++(vg z5++(nI oK l6++(nI uQ l7++(nI uG l8++(mD 0))))))))):=by rw[hbs];simp[lX]
  rw[<-e];exact A0
 obtain⟨p1,hp1⟩:=ex (p0+(mD r0).length);have T1:=T0.right;rw[<-hp1] at T1;obtain⟨p2,hp2⟩:=ex (p1+(mD r1).length);have T2:=T1.right;rw[<-hp2] at T2;obtain⟨p3,hp3⟩:=ex (p2+(mD r2).length);have T3:=T2.right;rw[<-hp3] at T3;obtain⟨p4,hp4⟩:=ex (p3+(mD r3).length);have T4:=T3.right;rw[<-hp4] at T4;obtain⟨p5,hp5⟩:=ex (p4+(mD r4).length);have T5:=T4.right;rw[<-hp5] at T5;obtain⟨p6,hp6⟩:=ex (p5+(vg z5).length);have T6:=T5.right;rw[<-hp6] at T6;obtain⟨p7,hp7⟩:=ex (p6+(nI oK l6).length);have T7:=T6.right;rw[<-hp7] at T7;obtain⟨p8,hp8⟩:=ex (p7+(nI uQ l7).length);have T8:=T7.right;rw[<-hp8] at T8;obtain⟨p9,hp9⟩:=ex (p8+(nI uG l8).length);have T9:=T8.right;rw[<-hp9] at T9;obtain⟨p10,akJ⟩:=ex (p9+(mD 0).length);have PE:Hid (p10=m):=jj (by rw[<-hm,hbs];simp only[lX,av,Int.toNat_natCast];omega);obtain⟨Q0,Q1,Q2,Q3,Q4,Q5⟩:=j6 T0.left T1.left T2.left T3.left T4.left T5.left;obtain⟨Q6,Q7,Q8,Q9,P1,P2⟩:=j6 T6.left T7.left T8.left T9 hp1 hp2;obtain⟨P3,P4,P5,P6,P7,P8⟩:=j6 hp3 hp4 hp5 hp6 hp7 hp8;obtain⟨P9,P10,P0⟩:=j3 hp9 akJ hp0;clear T0 T1 T2 T3 T4 T5 T6 T7 T8 T9 hp0 hp1 hp2 hp3 hp4 hp5 hp6 hp7 hp8 hp9 akJ A0 hbs hv hm hn6 hn7 hn8 o0 o1 o2 o3 o4 o5 o6 o7 o8;go_enter func154,ntmps154
 go_upto_region 1 with fail
 generalize hv1:w.alloc _=v1;generalize hg2:w.heap.size=g2;replace hv1:=hv1.symm;replace hg2:=hg2.symm;obtain⟨B1,X1⟩:=nw hv1 hg2;have GE2:Hid (w.heap.size<=g2):=jj lK;clear hv1 hg2
 go_wp2_with fail
 apply jd
 go_upto_region 2 with fail
 generalize hu:v1.alloc _=u0;generalize hg4:v1.heap.size=g4;replace hu:=hu.symm;replace hg4:=hg4.symm;have B0:=GN B1 hu;have K0:=xNew hu hg4;have L0:Hid (lQ u0 g2 82 #[U 0,U 0,U 0,U 0,U 0,U 0,(),(),(),()]):=jj (by rw[hu];exact X1.alloc _);have NE:Hid (g2≠g4):=jj (by rw[hg4];exact kC X1.lt);have GE4:Hid (w.heap.size<=g4):=jj (by rw[hg4];exact B1.size);clear hu hg4 X1 B1;have i0: ¬(65536:Int)<m:=lK
 go_wp2_with fail
 have E0:(0:Int)=((p0:Nat):Int):=by rw[P0.out];rfl
 rw[E0];clear E0;have f:=K0.frozen 0;have e:=K0.cell 0;refine(AL a m c bs p0 r0 N0.out HM.out PG.out _ (HV.below B0.out) Q0.out).mono ?_;rintro e w' ⟨rfl,rfl⟩;rw[<-P1.out]
 go_wp2_with fail
 obtain⟨u1,hu⟩:=ex (u0.setCell ⟨g4,0,none⟩ (U (r0:Int)));rw[<-hu];have K1:Hid (lQ u1 g4 82 #[U (r0:Int),U 0,U 0,U 0,U 0,U 0,(),(),(),()]):=jj (by rw[hu];exact K0.mg 0 _);have L1:Hid (lQ u1 g2 82 #[U 0,U 0,U 0,U 0,U 0,U 0,(),(),(),()]):=jj (by rw[hu];exact L0.far NE.out _);have B1:Hid (Be w u1):=jj (by rw[hu];exact B0.setCell (p:=⟨g4,0,none⟩) GE4.out _);clear hu f e
 go_wp2_with fail
 have f:=K1.frozen 1;have e:=K1.cell 1;refine(AL a m c bs p1 r1 N1.out HM.out PG.out _ (HV.below B1.out) Q1.out).mono ?_;rintro e w' ⟨rfl,rfl⟩;rw[<-P2.out]
 go_wp2_with fail
 obtain⟨u2,hu⟩:=ex (u1.setCell ⟨g4,1,none⟩ (U (r1:Int)));rw[<-hu];have K2:Hid (lQ u2 g4 82 #[U (r0:Int),U (r1:Int),U 0,U 0,U 0,U 0,(),(),(),()]):=jj (by rw[hu];exact K1.mg 1 _);have L2:Hid (lQ u2 g2 82 #[U 0,U 0,U 0,U 0,U 0,U 0,(),(),(),()]):=jj (by rw[hu];exact L1.far NE.out _);have B2:Hid (Be w u2):=jj (by rw[hu];exact B1.setCell (p:=⟨g4,1,none⟩) GE4.out _);clear hu f e
 go_wp2_with fail
 have f:=K2.frozen 2;have e:=K2.cell 2;refine(AL a m c bs p2 r2 N2.out HM.out PG.out _ (HV.below B2.out) Q2.out).mono ?_;rintro e w' ⟨rfl,rfl⟩;rw[<-P3.out]
 go_wp2_with fail
 obtain⟨u3,hu⟩:=ex (u2.setCell ⟨g4,2,none⟩ (U (r2:Int)));rw[<-hu];have K3:Hid (lQ u3 g4 82 #[U (r0:Int),U (r1:Int),U (r2:Int),U 0,U 0,U 0,(),(),(),()]):=jj (by rw[hu];exact K2.mg 2 _);have L3:Hid (lQ u3 g2 82 #[U 0,U 0,U 0,U 0,U 0,U 0,(),(),(),()]):=jj (by rw[hu];exact L2.far NE.out _);have B3:Hid (Be w u3):=jj (by rw[hu];exact B2.setCell (p:=⟨g4,2,none⟩) GE4.out _);clear hu f e
 go_wp2_with fail
 have f:=K3.frozen 3;have e:=K3.cell 3;refine(AL a m c bs p3 r3 N3.out HM.out PG.out _ (HV.below B3.out) Q3.out).mono ?_;rintro e w' ⟨rfl,rfl⟩;rw[<-P4.out]
 go_wp2_with fail
 obtain⟨u4,hu⟩:=ex (u3.setCell ⟨g4,3,none⟩ (U (r3:Int)));rw[<-hu];have K4:Hid (lQ u4 g4 82 #[U (r0:Int),U (r1:Int),U (r2:Int),U (r3:Int),U 0,U 0,(),(),(),()]):=jj (by rw[hu];exact K3.mg 3 _);have L4:Hid (lQ u4 g2 82 #[U 0,U 0,U 0,U 0,U 0,U 0,(),(),(),()]):=jj (by rw[hu];exact L3.far NE.out _);have B4:Hid (Be w u4):=jj (by rw[hu];exact B3.setCell (p:=⟨g4,3,none⟩) GE4.out _);clear hu f e
 go_wp2_with fail
 have f:=K4.frozen 4;have e:=K4.cell 4;refine(AL a m c bs p4 r4 N4.out HM.out PG.out _ (HV.below B4.out) Q4.out).mono ?_;rintro e w' ⟨rfl,rfl⟩;rw[<-P5.out]
 go_wp2_with fail
 obtain⟨u5,hu⟩:=ex (u4.setCell ⟨g4,4,none⟩ (U (r4:Int)));rw[<-hu];have K5:Hid (lQ u5 g4 82 #[U (r0:Int),U (r1:Int),U (r2:Int),U (r3:Int),U (r4:Int),U 0,(),(),(),()]):=jj (by rw[hu];exact K4.mg 4 _);have L5:Hid (lQ u5 g2 82 #[U 0,U 0,U 0,U 0,U 0,U 0,(),(),(),()]):=jj (by rw[hu];exact L4.far NE.out _);have B5:Hid (Be w u5):=jj (by rw[hu];exact B4.setCell (p:=⟨g4,4,none⟩) GE4.out _);clear hu f e
 go_wp2_with fail
 have f:=K5.frozen 5;have e:=K5.cell 5;refine(ahU a m c bs p5 z5 N5.out HM.out PG.out _ (HV.below B5.out) Q5.out).mono ?_;rintro e w' ⟨rfl,rfl⟩;rw[<-P6.out]
 go_wp2_with fail
 obtain⟨u6,hu⟩:=ex (u5.setCell ⟨g4,5,none⟩ (U z5));rw[<-hu];have K6:Hid (lQ u6 g4 82 #[U (r0:Int),U (r1:Int),U (r2:Int),U (r3:Int),U (r4:Int),U z5,(),(),(),()]):=jj (by rw[hu];exact K5.mg 5 _);have L6:Hid (lQ u6 g2 82 #[U 0,U 0,U 0,U 0,U 0,U 0,(),(),(),()]):=jj (by rw[hu];exact L5.far NE.out _);have B6:Hid (Be w u6):=jj (by rw[hu];exact B5.setCell (p:=⟨g4,5,none⟩) GE4.out _);clear hu f e
 go_wp2_with fail
 have f:=K6.frozen 6;have e:=K6.cell 6;clear f e;refine(UL _ a m c bs p6 (HV.below B6.out) HM.out PG.out l6 n6 LL6.out lK O6.out Q6.out).mono ?_;rintro e y6 ⟨a6,c6,rfl,ho,hb⟩;have K6':=jj (K6.below hb K6.lt);have L6':=jj (L6.below hb L6.lt);have B6':=nO B6 hb;have R6:=jj (sK.own ho (aB hx B6.size) LL6.out);clear hb ho;have f:=K6'.frozen 6;have e:=K6'.cell 6;rw[<-P7.out]
 go_wp2_with fail
 obtain⟨u7,hu⟩:=ex (y6.setCell ⟨g4,6,none⟩ (.slice a6 n6 c6));rw[<-hu];have K7:Hid (lQ u7 g4 82 #[U (r0:Int),U (r1:Int),U (r2:Int),U (r3:Int),U (r4:Int),U z5,.slice a6 n6 c6,(),(),()]):=jj (by rw[hu];exact K6'.mg 6 _);have L7:Hid (lQ u7 g2 82 #[U 0,U 0,U 0,U 0,U 0,U 0,(),(),(),()]):=jj (by rw[hu];exact L6'.far NE.out _);have B7:Hid (Be w u7):=jj (by rw[hu];exact B6'.setCell (p:=⟨g4,6,none⟩) GE4.out _);have R6s:Hid (_):=jj (R6.uY (by rw[hu];exact(Only.refl [g4] _).setCell (.inl lT) _:Only [g4] y6 u7) K6'.out lN);clear hu f e
 go_wp2_with fail
 have f:=K7.frozen 7;have e:=K7.cell 7;clear f e;refine(RH _ a m c bs p7 (HV.below B7.out) HM.out PG.out l7 n7 LL7.out lK O7.out Q7.out).mono ?_;rintro e y7 ⟨a7,c7,rfl,ho,hb⟩;have K7':=jj (K7.below hb K7.lt);have L7':=jj (L7.below hb L7.lt);have B7':=nO B7 hb;have R7:=jj (R6s.below hb);have S7:=jj (Ez.own ho (aB hx B7.size) LL7.out);clear hb ho;have f:=K7'.frozen 7;have e:=K7'.cell 7;rw[<-P8.out]
 go_wp2_with fail
 obtain⟨u8,hu⟩:=ex (y7.setCell ⟨g4,7,none⟩ (.slice a7 n7 c7));rw[<-hu];have K8:Hid (lQ u8 g4 82 #[U (r0:Int),U (r1:Int),U (r2:Int),U (r3:Int),U (r4:Int),U z5,.slice a6 n6 c6,.slice a7 n7 c7,(),()]):=jj (by rw[hu];exact K7'.mg 7 _);have L8:Hid (lQ u8 g2 82 #[U 0,U 0,U 0,U 0,U 0,U 0,(),(),(),()]):=jj (by rw[hu];exact L7'.far NE.out _);have B8:Hid (Be w u8):=jj (by rw[hu];exact B7'.setCell (p:=⟨g4,7,none⟩) GE4.out _);have R7s:Hid (_):=jj (R7.uY (by rw[hu];exact(Only.refl [g4] _).setCell (.inl lT) _:Only [g4] y7 u8) K7'.out lN);have S7s:Hid (_):=jj (S7.uY (by rw[hu];exact(Only.refl [g4] _).setCell (.inl lT) _:Only [g4] y7 u8) K7'.out lN);clear hu f e
 go_wp2_with fail
 have f:=K8.frozen 8;have e:=K8.cell 8;clear f e;refine(Rz _ a m c bs p8 (HV.below B8.out) HM.out PG.out l8 n8 LL8.out lK O8.out Q8.out).mono ?_;rintro e y8 ⟨a8,c8,ds,rfl,hds,hdo,ho,hb⟩;have K8':=jj (K8.below hb K8.lt);have L8':=jj (L8.below hb L8.lt);have B8':=nO B8 hb;have R8:=jj (R7s.below hb);have S8:=jj (S7s.below hb);have LD:Hid (ds.length=n8):=jj (by rw[<-LL8.out,<-hds,aT]);have U8:=jj (Gz.own ho hdo (fun d hd=>by
  have:=O8.out (pz d) (by rw[<-hds];exact bM.2 ⟨d,hd,rfl⟩);exact⟨this.view.i64,this.inst.i64,this.seq.i64⟩) (aB hx B8.size) LD.out)
 have DS:=jj hds;clear hb ho;clear hds hdo;have f:=K8'.frozen 8;have e:=K8'.cell 8;rw[<-P9.out]
 go_wp2_with fail
 obtain⟨u9,hu⟩:=ex (y8.setCell ⟨g4,8,none⟩ (.slice a8 n8 c8));rw[<-hu];have K9:Hid (lQ u9 g4 82 #[U (r0:Int),U (r1:Int),U (r2:Int),U (r3:Int),U (r4:Int),U z5,.slice a6 n6 c6,.slice a7 n7 c7,.slice a8 n8 c8,()]):=jj (by rw[hu];exact K8'.mg 8 _);have L9:Hid (lQ u9 g2 82 #[U 0,U 0,U 0,U 0,U 0,U 0,(),(),(),()]):=jj (by rw[hu];exact L8'.far NE.out _);have B9:Hid (Be w u9):=jj (by rw[hu];exact B8'.setCell (p:=⟨g4,8,none⟩) GE4.out _);have R8s:Hid (_):=jj (R8.uY (by rw[hu];exact(Only.refl [g4] _).setCell (.inl lT) _:Only [g4] y8 u9) K8'.out lN);have S8s:Hid (_):=jj (S8.uY (by rw[hu];exact(Only.refl [g4] _).setCell (.inl lT) _:Only [g4] y8 u9) K8'.out lN);have U8s:Hid (_):=jj (U8.uY (by rw[hu];exact(Only.refl [g4] _).setCell (.inl lT) _:Only [g4] y8 u9) K8'.out lN lN);clear hu f e
 go_wp2_with fail
 have f:=K9.frozen 9;have e:=K9.cell 9;clear f e;refine(OT _ a m c bs p9 (HV.below B9.out) HM.out PG.out Q9.out).mono ?_;rintro e y9 ⟨rfl,hb⟩;have K9':=jj (K9.below hb K9.lt);have L9':=jj (L9.below hb L9.lt);have B9':=nO B9 hb;have R9:=jj (R8s.below hb);have S9:=jj (S8s.below hb);have U9:=jj (U8s.below hb);clear hb;have f:=K9'.frozen 9;have e:=K9'.cell 9;rw[<-P10.out];have EM:Hid (((p10:Nat):Int)=(m:Int)):=jj (by rw[PE.out])
 go_upto_region 24 with fail
 obtain⟨AP,hu⟩:=ex (y9.setCell ⟨g4,9,none⟩ ());rw[<-hu];have YV:Hid (lQ AP g4 82 #[U (r0:Int),U (r1:Int),U (r2:Int),U (r3:Int),U (r4:Int),U z5,.slice a6 n6 c6,.slice a7 n7 c7,.slice a8 n8 c8,()]):=jj (by rw[hu];exact K9'.mg 9 _);have GH:Hid (lQ AP g2 82 #[U 0,U 0,U 0,U 0,U 0,U 0,(),(),(),()]):=jj (by rw[hu];exact L9'.far NE.out _);have B10:Hid (Be w AP):=jj (by rw[hu];exact B9'.setCell (p:=⟨g4,9,none⟩) GE4.out _);have R9s:Hid (_):=jj (R9.uY (by rw[hu];exact(Only.refl [g4] _).setCell (.inl lT) _:Only [g4] y9 AP) K9'.out lN);have S9s:Hid (_):=jj (S9.uY (by rw[hu];exact(Only.refl [g4] _).setCell (.inl lT) _:Only [g4] y9 AP) K9'.out lN);have U9s:Hid (_):=jj (U9.uY (by rw[hu];exact(Only.refl [g4] _).setCell (.inl lT) _:Only [g4] y9 AP) K9'.out lN lN);clear hu f e;have i1: ¬((p10:Nat):Int)≠(m:Int):=by rw[EM.out];simp
 have i2:((p10:Nat):Int)=(m:Int):=EM.out
 go_upto_region 25 with fail
 have c0_:=YV.at_ 0;have d0_:=GH.at_ 0;have f0_:=GH.frozen 0;have c1_:=YV.at_ 1;have d1_:=GH.at_ 1;have f1_:=GH.frozen 1;have c2_:=YV.at_ 2;have d2_:=GH.at_ 2;have f2_:=GH.frozen 2;have c3_:=YV.at_ 3;have d3_:=GH.at_ 3;have f3_:=GH.frozen 3;have c4_:=YV.at_ 4;have d4_:=GH.at_ 4;have f4_:=GH.frozen 4;have c5_:=YV.at_ 5;have d5_:=GH.at_ 5;have f5_:=GH.frozen 5;have c6_:=YV.at_ 6;have d6_:=GH.at_ 6;have f6_:=GH.frozen 6;have c7_:=YV.at_ 7;have d7_:=GH.at_ 7;have f7_:=GH.frozen 7;have c8_:=YV.at_ 8;have d8_:=GH.at_ 8;have f8_:=GH.frozen 8;have c9_:=YV.at_ 9;have d9_:=GH.at_ 9;have f9_:=GH.frozen 9
 go_wp2_with fail
 obtain⟨w9,mE⟩:=ex (setW AP g2 0 [U (r0:Int),U (r1:Int),U (r2:Int),U (r3:Int),U (r4:Int),U z5,.slice a6 n6 c6,.slice a7 n7 c7,.slice a8 n8 c8,()]);have K11:=uL mE GH.out;simp only[setW,aO,Nat.reduceAdd] at mE;rw[<-mE];have B11:Be w w9:=by rw[mE];exact((((((((((B10.setCell (p:=⟨g2,0,none⟩) GE2.out _).setCell (p:=⟨g2,1,none⟩) GE2.out _).setCell (p:=⟨g2,2,none⟩) GE2.out _).setCell (p:=⟨g2,3,none⟩) GE2.out _).setCell (p:=⟨g2,4,none⟩) GE2.out _).setCell (p:=⟨g2,5,none⟩) GE2.out _).setCell (p:=⟨g2,6,none⟩) GE2.out _).setCell (p:=⟨g2,7,none⟩) GE2.out _).setCell (p:=⟨g2,8,none⟩) GE2.out _).setCell (p:=⟨g2,9,none⟩) GE2.out _)
 have O11:Only [g2] AP w9:=by rw[mE];exact(((((((((((Only.refl [g2] _).setCell (p:=⟨g2,0,none⟩) (.inl lT) _).setCell (p:=⟨g2,1,none⟩) (.inl lT) _).setCell (p:=⟨g2,2,none⟩) (.inl lT) _).setCell (p:=⟨g2,3,none⟩) (.inl lT) _).setCell (p:=⟨g2,4,none⟩) (.inl lT) _).setCell (p:=⟨g2,5,none⟩) (.inl lT) _).setCell (p:=⟨g2,6,none⟩) (.inl lT) _).setCell (p:=⟨g2,7,none⟩) (.inl lT) _).setCell (p:=⟨g2,8,none⟩) (.inl lT) _).setCell (p:=⟨g2,9,none⟩) (.inl lT) _)
 try rw[Exit.noGoto_ret]
 refine dF (v:= .tuple #[.agg #[U (r0:Int),U (r1:Int),U (r2:Int),U (r3:Int),U (r4:Int),U z5,.slice a6 n6 c6,.slice a7 n7 c7,.slice a8 n8 c8,()],true]) ?_ rfl ⟨⟨(r0:Int),(r1:Int),(r2:Int),(r3:Int),(r4:Int),z5,a6,n6,c6,l6,a7,n7,c7,l7,a8,n8,c8,ds,none,0⟩,rfl,?_,⟨R9s.uY O11 GH.out lN,S9s.uY O11 GH.out lN,U9s.uY O11 GH.out lN lN⟩,B11⟩
 ·exact(mV Tryz.results154 _ w9 g2 _ _ _ _ (by rfl) K11 underlying82 rfl (by kernel_rfl)).trans rfl
 simp only[nA,DS.out]
theorem Az(w:World)(A:OA)(n c:Nat)(bs:List Rq)(h:qc w A n c bs)(hn:n<=4096):
  Y 270 #[.slice A n c] w fun e w'=> ∃a' c',e= .returned (.slice a' n c')/\w'.ownsRow w.heap.size 49 6 (.slice a' n c') n (bs.flatMap rA)/\Be w w':=by
 obtain⟨i0,hi0,hz0,hz1,hz2⟩:=bq rT;have H:=jj h;clear h;go_enter func270,ntmps270
 go_wp2_with(at_builtin;refine lZ rfl _ _ _ rfl w.heap.size 49 i0 _ 6 48 underlying46 hi0 hz0 hz1 hz2 rfl lK none 0 0 [] rfl ⟨rfl,.inl ⟨rfl,rfl⟩⟩ A n c (bs.flatMap rA) rfl H.row (Bt bs) (by unfold maxLen;omega) lK (aF _) ?_;intro a5 c5 w5 h5)
 go_ret;have o5:=h5.own;rw[aO,List.nil_append] at o5;exact⟨a5,c5,by trivial,o5,h5.below (n0:=0) (c0:=0) (xs0:= []) ⟨lT,.inl ⟨rfl,rfl⟩⟩ (aC _ _) (aF _) (aF _)⟩
section
variable{x:Nat}{w w':World}{f:Int}{n g:Nat}{s:CQ}
theorem mM.ajT(h:mM x w f n g s){m:Nat}(hr:sK x w a m c bs)(ho:Only [g] w w')(hb:lQ w' g 271 (WA f n {s with has:=true,ba:=a,bn:=m,bc:=c,bs:=bs})):
  mM x w' f n g {s with has:=true,ba:=a,bn:=m,bc:=c,bs:=bs}:=
 have hS: ∀k∈ [g],nV x w k:=by simpa using nV.of h.blk lN
 ⟨hb,h.bp.only ho (mR h.gne.1.symm),h.bc.only ho (mR h.gne.2.symm),h.np,h.nc,h.ne,hr.only ho hS,fun v hv=>(h.ps v hv).only ho hS,fun v hv=>(h.cs v hv).only ho hS⟩
theorem ahN(h:mM x w f n g s)(hs:s.has=false)(A:OA)(m c:Nat)(bs:List Rq)(hr:sK x w A m c bs)(hm:m<=4096)(hx:x<w.heap.size):
  Y 228 #[g,.slice A m c] w fun e w'=> ∃a' c',e= .returned true/\mM x w' f n g {s with has:=true,ba:=a',bn:=m,bc:=c',bs:=bs}/\Only [g] w w':=by
 have c1:J w g 1 false:=(h.blk.cell 1).trans (by rw[<-hs];rfl);obtain⟨H,HR,HX⟩:=j3 h hr hx;clear h hs hr hx;go_enter func228,ntmps228
 go_wp2_with fail
 refine(Az w A m c bs HR.row hm).mono ?_;rintro e w2 ⟨a',c',rfl,ho,hb⟩;have R2:=jj (sK.own (x:=x) ho HX HR.row.len);have S2:=jj (H.below hb);have B2:=jj hb;have d1:=S2.blk.cell 1;have d2:=S2.blk.cell 2;have f1:=S2.blk.frozen 1;have f2:=S2.blk.frozen 2;clear ho hb c1
 go_wp2_with fail
 go_ret;obtain⟨w3,hw3⟩:=ex ((w2.setCell ⟨g,1,none⟩ true).setCell ⟨g,2,none⟩ (.slice a' m c'));rw[<-hw3];have t1:=S2.blk.mg 1 true;have t2:lQ w3 g 271 (WA f n {s with has:=true,ba:=a',bn:=m,bc:=c',bs:=bs}):=by rw[hw3];exact t1.mg 2 (.slice a' m c')
 have o3:Only [g] w2 w3:=by rw[hw3];exact((Only.refl [g] _).setCell (.inl lT) _).setCell (.inl lT) _
 exact⟨a',c',by trivial,S2.ajT R2 o3 t2,(Only.of_below B2).trans o3⟩
theorem Bz(h:mM x w f n g s)(hs:s.has=true)(hm:s.bn<=4096)(hx:x<w.heap.size):
  Y 225 #[g] w fun e w'=> ∃a' c',e= .returned (.tuple #[.slice a' s.bn c',true])/\sK x w' a' s.bn c' s.bs/\w'.ownsRow w.heap.size 49 6 (.slice a' s.bn c') s.bn (s.bs.flatMap rA)/\Be w w':=by
 have c1:J w g 1 true:=(h.blk.cell 1).trans (by rw[<-hs];rfl);have c2:=h.blk.at_ 2;have HR:=jj h.b;have HX:=jj hx;clear h hs hx;go_enter func225,ntmps225
 go_wp2_with fail
 refine(Az w s.ba s.bn s.bc s.bs HR.row hm).mono ?_;rintro e w2 ⟨a',c',rfl,ho,hb⟩;have R2:=jj (sK.own (x:=x) ho HX HR.row.len);have O2:=jj ho;have B2:=jj hb;clear ho hb c1 c2
 go_wp2_with fail
 go_ret2
 exact⟨a',c',by trivial,R2,O2,B2⟩
theorem CG(h:mM x w f n g s)(hs:s.has=false):
  Y 225 #[g] w fun e w'=>e= .returned (.tuple #[(),false])/\w=w':=by
 have c1:J w g 1 false:=(h.blk.cell 1).trans (by rw[<-hs];rfl);clear h hs;go_enter func225,ntmps225
 go_wp2_with fail
 go_ret2
 exact⟨by trivial,by trivial⟩
theorem aeJ(h:mM x w f n g s):
  Y 284 #[g,U 4] w fun e w'=>e= .returned (O s.gp n n)/\w=w':=by
 have c1:=h.blk.at_ 3;clear h;go_enter func284,ntmps284
 go_wp2_with fail
 go_ret;exact⟨by trivial,by trivial⟩
theorem aeK(h:mM x w f n g s):
  Y 284 #[g,U 5] w fun e w'=>e= .returned (O s.gc n n)/\w=w':=by
 have c1:=h.blk.at_ 4;clear h;go_enter func284,ntmps284
 go_wp2_with fail
 go_ret;exact⟨by trivial,by trivial⟩
theorem mM.apa(h:mM x w f n g s)(hv:v.Is x w)(ho:Only [s.gp] w w')(hb:lQ w' s.gp 408 ((s.pr.set k v).flatMap Ki).toArray):mM x w' f n g {s with pr:=s.pr.set k v}:=
 have hS: ∀k∈ [s.gp],nV x w k:=by simpa using nV.of h.bp lN
 ⟨h.blk.only ho (mR h.gne.1),hb,h.bc.only ho (mR h.ne.symm),by simp[h.np],h.nc,h.ne,h.b.only ho hS,fun u hu=>by
  rcases cB hu with hu|rfl
  ·exact(h.ps u hu).only ho hS
  exact hv.only ho hS,fun u hu=>(h.cs u hu).only ho hS⟩
theorem mM.apb(h:mM x w f n g s)(hv:v.Is x w)(ho:Only [s.gc] w w')(hb:lQ w' s.gc 408 ((s.co.set k v).flatMap Ki).toArray):mM x w' f n g {s with co:=s.co.set k v}:=
 have hS: ∀k∈ [s.gc],nV x w k:=by simpa using nV.of h.bc lN
 ⟨h.blk.only ho (mR h.gne.2),h.bp.only ho (mR h.ne),hb,h.np,by simp[h.nc],h.ne,h.b.only ho hS,fun u hu=>(h.ps u hu).only ho hS,fun u hu=>by
  rcases cB hu with hu|rfl
  ·exact(h.cs u hu).only ho hS
  exact hv.only ho hS⟩
end
theorem Sc    (h:lQ w gv 408 (l.flatMap Ki).toArray) (hk:k<l.length) (v:rC)
  (hw:w'=((w.setCell ⟨gv,k*3,none⟩ v.has).setCell ⟨gv,k*3+1,none⟩ (U v.sg)).setCell ⟨gv,k*3+1+1,none⟩ (.slice v.ba v.bn v.bc)):
  lQ w' gv 408 ((l.set k v).flatMap Ki).toArray/\Only [gv] w w':=by
 subst hw;refine⟨?_,(((Only.refl [gv] _).setCell (.inl lT) _).setCell (.inl lT) _).setCell (.inl lT) _⟩;have t:=((h.mg (k*3) v.has).mg (k*3+1) (U v.sg)).mg (k*3+1+1) (.slice v.ba v.bn v.bc);rw[<-XE Ki BI v _ _ _ rfl l k hk];simpa using t
theorem vS(h:lQ w gv 408 (l.flatMap Ki).toArray)(hk:k<l.length):
  w.cell? ⟨gv,k*3,none⟩=some (.bool l[k].has)/\J w gv (k*3+1) (.int .i64 l[k].sg)/\J w gv (k*3+1+1) (.slice l[k].ba l[k].bn l[k].bc):=
 ⟨(h.cell _).trans (mR (nT Ki 3 BI l k 0 lK hk _ rfl)),(h.cell _).trans (mR (nT Ki 3 BI l k 1 lK hk _ rfl)),(h.cell _).trans (mR (nT Ki 3 BI l k 2 lK hk _ rfl))⟩
section
variable{x:Nat}{w w':World}{f:Int}{n g:Nat}{s:CQ}
theorem ahO(h:mM x w f n g s)(k:Nat)(hk:k<s.pr.length)(hv:s.pr[k].has=false)(z:Int)(A:OA)(m c:Nat)(bs:List Rq)(hr:sK x w A m c bs)(hm:m<=4096)(hn:n<=13)(hx:x<w.heap.size):
  Y 258 #[g,U 4,U k,U z,.slice A m c] w fun e w'=> ∃a' c',e= .returned true/\mM x w' f n g {s with pr:=s.pr.set k ⟨true,z,a',m,c',bs⟩}/\Only [s.gp] w w':=by
 have hkn:k<n:=by rw[<-h.np];exact hk
 have c1:J w s.gp (k*3) false:=by rw[(vS h.bp hk).1,hv]
 obtain⟨H,HR,HX,HK⟩:=j4 h hr hx hk;have i0:(0:Int)<=k:=lK;have i1: ¬(k:Int)<0:=lK;have i2:(k:Int)<n:=lK;have i3: ¬(n:Int)<=k:=lK;clear h hv hr hx hk;go_enter func258,ntmps258
 go_wp2_with fail
 refine(aeJ H).mono ?_;rintro e w' ⟨rfl,rfl⟩
 go_wp2_with fail
 refine(Az w A m c bs HR.row hm).mono ?_;rintro e w2 ⟨a',c',rfl,ho,hb⟩;have R2:=jj (sK.own (x:=x) ho HX HR.row.len);have S2:=jj (H.below hb);have B2:=jj hb;obtain⟨d1,d2,d3⟩:=vS S2.bp HK;have f1:=S2.bp.frozen (k*3);have f2:=S2.bp.frozen (k*3+1);have f3:=S2.bp.frozen (k*3+1+1);clear ho hb c1
 go_wp2_with fail
 go_ret;obtain⟨w3,hw3⟩:=ex (((w2.setCell ⟨s.gp,k*3,none⟩ true).setCell ⟨s.gp,k*3+1,none⟩ (U z)).setCell ⟨s.gp,k*3+1+1,none⟩ (.slice a' m c'));obtain⟨t1,t2⟩:=Sc S2.bp HK ⟨true,z,a',m,c',bs⟩ hw3;refine⟨a',c',by trivial,?_,?_⟩
 ·have r:=S2.apa (v:=⟨true,z,a',m,c',bs⟩) (k:=k) R2 t2 t1
  rw[hw3] at r;exact r
 rw[hw3] at t2;exact(Only.of_below B2).trans t2
theorem ahP(h:mM x w f n g s)(k:Nat)(hk:k<s.co.length)(hv:s.co[k].has=false)(z:Int)(A:OA)(m c:Nat)(bs:List Rq)(hr:sK x w A m c bs)(hm:m<=4096)(hn:n<=13)(hx:x<w.heap.size):
  Y 258 #[g,U 5,U k,U z,.slice A m c] w fun e w'=> ∃a' c',e= .returned true/\mM x w' f n g {s with co:=s.co.set k ⟨true,z,a',m,c',bs⟩}/\Only [s.gc] w w':=by
 have hkn:k<n:=by rw[<-h.nc];exact hk
 have c1:J w s.gc (k*3) false:=by rw[(vS h.bc hk).1,hv]
 obtain⟨H,HR,HX,HK⟩:=j4 h hr hx hk;have i0:(0:Int)<=k:=lK;have i1: ¬(k:Int)<0:=lK;have i2:(k:Int)<n:=lK;have i3: ¬(n:Int)<=k:=lK;clear h hv hr hx hk;go_enter func258,ntmps258
 go_wp2_with fail
 refine(aeK H).mono ?_;rintro e w' ⟨rfl,rfl⟩
 go_wp2_with fail
 refine(Az w A m c bs HR.row hm).mono ?_;rintro e w2 ⟨a',c',rfl,ho,hb⟩;have R2:=jj (sK.own (x:=x) ho HX HR.row.len);have S2:=jj (H.below hb);have B2:=jj hb;obtain⟨d1,d2,d3⟩:=vS S2.bc HK;have f1:=S2.bc.frozen (k*3);have f2:=S2.bc.frozen (k*3+1);have f3:=S2.bc.frozen (k*3+1+1);clear ho hb c1
 go_wp2_with fail
 go_ret;obtain⟨w3,hw3⟩:=ex (((w2.setCell ⟨s.gc,k*3,none⟩ true).setCell ⟨s.gc,k*3+1,none⟩ (U z)).setCell ⟨s.gc,k*3+1+1,none⟩ (.slice a' m c'));obtain⟨t1,t2⟩:=Sc S2.bc HK ⟨true,z,a',m,c',bs⟩ hw3;refine⟨a',c',by trivial,?_,?_⟩
 ·have r:=S2.apb (v:=⟨true,z,a',m,c',bs⟩) (k:=k) R2 t2 t1
  rw[hw3] at r;exact r
 rw[hw3] at t2;exact(Only.of_below B2).trans t2
end
theorem ahK(a b:OA)(n m c d:Nat)(l l':List Rq)(w:World)(h:qc w a n c l)(h':qc w b m d l')(hn:n<=4096)(bb:Bool)(hb:decide (l=l')=bb):
  Y 297 #[.slice a n c,.slice b m d] w fun e w'=>e= .returned bb/\Be w w':=by
 obtain⟨H,H',WX⟩:=j3 h h' hb;by_cases hnm:n=m
 ·subst hnm
  clear h h' hb;go_enter func297,ntmps297
  go_wp2_with fail
  go_loopw [14] (fun i wr=> ∃k:Nat,k<=n/\i= U k/\(∀j,j<k->l[j]?=l'[j]?)/\Be w wr) (fun i _=>n -(intOf i).toNat)
  case atStart=>exact⟨0,lK,rfl,fun j hj=>absurd hj lK,aC _ _⟩
  case round=>
   obtain⟨k,hkn,rfl,hs,hb⟩:=hrel;have HB:=jj hb;have HS:=jj hs;clear hs hb;by_cases hlt:k<n
   ·obtain⟨b1,o1,rfl,hb1,x0,x1,x2,x3,x4,x5,hx,p0,p1,p2,p3,p4,p5⟩:=(H.below HB).get hlt
    obtain⟨b2,o2,rfl,hb2,y0,y1,y2,y3,y4,y5,hy,q0,q1,q2,q3,q4,q5⟩:=(H'.below HB).get hlt;have i0:(0:Int)<=k:=lK;have i1:(k:Int)<n:=lK;have BAD:=jj (show(((x0,x1,x2,x3,x4,x5):Rq)≠(y0,y1,y2,y3,y4,y5))->bb=false from fun hne=>by
     rw[<-WX.out];refine aR fun he=>hne ?_;subst he;rw[hx] at hy;exact dh hy)
    have GOOD:=jj (show(((x0,x1,x2,x3,x4,x5):Rq)=(y0,y1,y2,y3,y4,y5))-> ∀j,j<k+1->l[j]?=l'[j]? from fun hh j hj=>by
     rcases iZ j k with h|h
     ·exact HS.out j h
     obtain rfl:j=k:=lK;rw[hx,hy,hh])
    clear hx hy;by_cases e0:x0=y0
    ·subst e0
     by_cases e1:x1=y1
     ·subst e1
      by_cases e2:x2=y2
      ·subst e2
       by_cases e3:x3=y3
       ·subst e3
        by_cases e4:x4=y4
        ·subst e4
         by_cases e5:x5=y5
         ·subst e5
          have hg:=GOOD.out rfl;have HG:=jj hg;clear hg
          go_wp2_with fail
          have B9:=(aC wr.heap.size wr).alloc (aF _) (.cells #[U x0,U x1,U x2,U x3,U x4,U x5] 49);have WW:=nO HB B9;clear B9
          go_quiet(fail)
          go_wp2_with fail
          go_roundw
          case rel=>exact⟨k+1,lK,by go_num,HG,below_drewN WW nq⟩
          simp[intOf];omega
         have hbf:=BAD.out (fun h=>e5 (congrArg (fun(z:Rq)=>z.2.2.2.2.2) h));subst hbf;have ne:(x5==y5)=false:=bJ.2 e5;clear e5 BAD GOOD
         go_wp2_with fail
         have B9:=(aC wr.heap.size wr).alloc (aF _) (.cells #[U x0,U x1,U x2,U x3,U x4,U x5] 49);have WW:=nO HB B9;clear B9
         go_quiet(fail)
         go_wp2_with fail
         go_ret;exact⟨rfl,below_drewN WW nq⟩
        have hbf:=BAD.out (fun h=>e4 (congrArg (fun(z:Rq)=>z.2.2.2.2.1) h));subst hbf;have ne:(x4==y4)=false:=bJ.2 e4;clear e4 BAD GOOD
        go_wp2_with fail
        have B9:=(aC wr.heap.size wr).alloc (aF _) (.cells #[U x0,U x1,U x2,U x3,U x4,U x5] 49);have WW:=nO HB B9;clear B9
        go_quiet(fail)
        go_wp2_with fail
        go_ret;exact⟨rfl,below_drewN WW nq⟩
       have hbf:=BAD.out (fun h=>e3 (congrArg (fun(z:Rq)=>z.2.2.2.1) h));subst hbf;have ne:(x3==y3)=false:=bJ.2 e3;clear e3 BAD GOOD
       go_wp2_with fail
       have B9:=(aC wr.heap.size wr).alloc (aF _) (.cells #[U x0,U x1,U x2,U x3,U x4,U x5] 49);have WW:=nO HB B9;clear B9
       go_quiet(fail)
       go_wp2_with fail
       go_ret;exact⟨rfl,below_drewN WW nq⟩
      have hbf:=BAD.out (fun h=>e2 (congrArg (fun(z:Rq)=>z.2.2.1) h));subst hbf;have ne:(x2==y2)=false:=bJ.2 e2;clear e2 BAD GOOD
      go_wp2_with fail
      have B9:=(aC wr.heap.size wr).alloc (aF _) (.cells #[U x0,U x1,U x2,U x3,U x4,U x5] 49);have WW:=nO HB B9;clear B9
      go_quiet(fail)
      go_wp2_with fail
      go_ret;exact⟨rfl,below_drewN WW nq⟩
     have hbf:=BAD.out (fun h=>e1 (congrArg (fun(z:Rq)=>z.2.1) h));subst hbf;have ne:(x1==y1)=false:=bJ.2 e1;clear e1 BAD GOOD
     go_wp2_with fail
     have B9:=(aC wr.heap.size wr).alloc (aF _) (.cells #[U x0,U x1,U x2,U x3,U x4,U x5] 49);have WW:=nO HB B9;clear B9
     go_quiet(fail)
     go_wp2_with fail
     go_ret;exact⟨rfl,below_drewN WW nq⟩
    have hbf:=BAD.out (fun h=>e0 (congrArg (fun(z:Rq)=>z.1) h));subst hbf;have ne:(x0==y0)=false:=bJ.2 e0;clear e0 BAD GOOD
    go_wp2_with fail
    have B9:=(aC wr.heap.size wr).alloc (aF _) (.cells #[U x0,U x1,U x2,U x3,U x4,U x5] 49);have WW:=nO HB B9;clear B9
    go_quiet(fail)
    go_wp2_with fail
    go_ret;exact⟨rfl,below_drewN WW nq⟩
   have hkk:k=n:=lK;obtain rfl:bb=true:=by
    rw[<-WX.out];exact aZ (Tm H.len H'.len fun j hj=>HS.out j lK)
   clear hkk
   go_wp2_with fail
   go_ret;exact⟨rfl,HB⟩
 obtain rfl:bb=false:=by
  rw[<-hb];refine aR fun he=>hnm ?_;rw[<-h.len,<-h'.len,he]
 have e1:((n:Int) !=(m:Int))=true:=bne_iff_ne.2 lK;clear h h' hb hnm;go_enter func297,ntmps297
 go_wp2_with fail
 go_ret;exact⟨rfl,aC _ _⟩
theorem oC(f:Int)(w:World)(h1:1<=f)(h4:f<=4):Y 44 #[U f] w fun e w'=>e= .returned (U (3*f+1))/\w=w':=by
 go_enter func44,ntmps44
 go_wp2
 go_ret;exact⟨rfl,rfl⟩
theorem abQ(f:Int)(w:World)(h1:1<=f)(h4:f<=4):Y 17 #[U f] w fun e w'=>e= .returned (U (3*f+1))/\w=w':=by
 go_enter func17,ntmps17
 go_wp2
 go_ret;exact⟨rfl,rfl⟩
theorem JB(f:Int)(w:World)(h1:1<=f)(h4:f<=4):Y 235 #[U f] w fun e w'=>e= .returned (U (2*f+1))/\w=w':=by
 have e1:IntKind.i64.wrap (2*f)=2*f:=aH _ lK;have e2:IntKind.i64.wrap (2*f+1)=2*f+1:=aH _ lK;go_enter func235,ntmps235
 go_wp2
 go_ret;exact⟨by trivial,by trivial⟩
theorem UR(f:Int)(w:World)(h1:1<=f)(h4:f<=4):Y 122 #[U f] w fun e w'=>e= .returned (U (f+1))/\w=w':=by
 have e2:IntKind.i64.wrap (f+1)=f+1:=aH _ lK;go_enter func122,ntmps122
 go_wp2
 go_ret;exact⟨by trivial,by trivial⟩
theorem afE(f:Int)(w:World)(h1:1<=f)(h4:f<=4):Y 72 #[U f] w fun e w'=>e= .returned true/\w=w':=by
 go_enter func72,ntmps72
 go_wp2
 go_ret;exact⟨by trivial,by trivial⟩
theorem MP(f:Int)(k:Int)(w:World)(h1:1<=f)(h4:f<=4)(hk:0<=k/\k<=f):Y 206 #[U f,U 0,U k] w fun e w'=>e= .returned (U k)/\w=w':=by
 obtain⟨k0,k1⟩:=hk;have i1: ¬k<0:=lK;have i2: ¬f<k:=lK;have E:Hid (k%(3*f+1)=k):=jj (jQ k0 lK);go_enter func206,ntmps206;have e1:IntKind.i64.wrap (0+k)=k:=by rw[aH _ lK];omega
 go_wp2_with fail
 refine(afE f _ h1 h4).mono ?_;rintro e w' ⟨rfl,rfl⟩
 go_wp2_with fail
 refine(oC f _ h1 h4).mono ?_;rintro e w' ⟨rfl,rfl⟩;have q1:1<=3*f+1:=lK
 go_wp2_with fail
 go_ret;exact⟨by first|rfl|(rw[E.out];rfl),by trivial⟩
theorem xB(b:List Rq)(v:Xk): ∀(l:List Xk) (k q:Nat),ny b (l++ [v]) k q=ny b l k q++(match v with
  |some (s,c)=>if c=b/\(ny b l k q).length<q then [(((k+l.length:Nat):Int),s)] else []
  |none=> [])
 | [],k,q=>by
  cases v with
  |none=>simp[ny]
  |some p=>
   obtain⟨s,c⟩:=p;by_cases h:c=b/\0<q
   ·simp[ny,h]
   simp only[List.nil_append,ny,aU h,List.length_nil];exact(aU h).symm
 |none::l,k,q=>by
  have ih:=xB b v l (k+1) q;have e:k+1+l.length=k+(l.length+1):=lK;simp only[List.cons_append,ny,List.length_cons];rw[e] at ih;exact ih
 |some (s,c)::l,k,q=>by
  have e:k+1+l.length=k+(l.length+1):=lK;by_cases h:c=b/\0<q
  ·have ih:=xB b v l (k+1) (q -1)
   simp only[List.cons_append,ny,List.length_cons,aV h];rw[ih,e];have e2:((ny b l (k+1) (q -1)).length<q -1)=((ny b l (k+1) (q -1)).length+1<q):=by apply propext;omega
   cases v with
   |none=>rfl
   |some p=>simp only[e2];try rfl
  have ih:=xB b v l (k+1) q;simp only[List.cons_append,ny,List.length_cons,aU h];rw[ih,e]
theorem BH(b:List Rq): ∀(l:List Xk) (k q:Nat),(ny b l k q).length<=q/\(ny b l k q).length<=l.length
 | [],k,q=>by simp[ny]
 |none::l,k,q=>by
  have:=BH b l (k+1) q;simp only[ny,List.length_cons];omega
 |some (s,c)::l,k,q=>by
  by_cases h:c=b/\0<q
  ·have:=BH b l (k+1) (q -1)
   simp only[ny,aV h,List.length_cons];omega
  have:=BH b l (k+1) q;simp only[ny,aU h,List.length_cons];omega
theorem MZ (w:World) (g:Nat) (f:Int) (h1:1<=f) (h4:f<=4) (hg:J w g 0 (U f)) (gv n:Nat) (L:List rC) (hL:lQ w gv 408 (L.flatMap Ki).toArray) (hn:L.length=n) (xP:n<=13)
  (hls: ∀v∈L,qc w v.ba v.bn v.bc v.bs/\v.bn<=4096) (A:OA) (m c:Nat) (bs:List Rq) (hb:qc w A m c bs) (q:Nat) (hq:(q:Int)=2*f+1) (r:Option (List Vo)) (hr:qx q (L.map rC.val) bs=r):
  Y 295 #[g,O gv n n,.slice A m c] w fun e w'=>((∃vs a' k' c',r=some vs/\vs.length=k'/\e= .returned (.tuple #[.slice a' k' c',true])/\w'.ownsRow w.heap.size 311 2 (.slice a' k' c') k' (vs.flatMap Cg))\/(r=none/\e= .returned (.tuple #[(),false])))/\Be w w':=by
 obtain⟨i0,hi0,hz0,hz1,hz2⟩:=bq Cr;obtain⟨HG,HL,HN,HLS,HB,HR⟩:=j6 hg hL hn hls hb hr;have HQ:=jj hq;have GL:=World.block_lt_of_cell? w _ hg;clear hg hL hn hls hb hr hq;go_enter func295,ntmps295
 go_wp2_with fail
 go_loopw [8,13] (fun o i wr=> ∃k:Nat,k<=n/\i= U k/\(∃a' j c',o= .slice a' j c'/\(ny bs ((L.take k).map rC.val) 0 q).length=j/\wr.ownsRow w.heap.size 311 2 (.slice a' j c') j ((ny bs ((L.take k).map rC.val) 0 q).flatMap Cg))/\Be w wr) (fun _ i _=>n -(intOf i).toNat)
 case atStart=>exact⟨0,lK,rfl,⟨none,0,0,rfl,rfl,⟨by simp[ny],.inl ⟨rfl,rfl⟩⟩⟩,aC _ _⟩
 case round=>
  obtain⟨k,hk,rfl,⟨a',j,c',rfl,hj,ho⟩,hb⟩:=hrel;obtain⟨BW,HO,HJ⟩:=j3 hb ho hj;have jle:j<=q/\j<=13:=by
   have:=BH bs ((L.take k).map rC.val) 0 q;rw[hj,aT,cO] at this;omega
  have hqq:=HQ.out;clear hb ho hj;by_cases hlt:k<n
  ·have hkl:k<L.length:=by rw[HN.out];exact hlt
   have VL:(0:Int)<=k:=lK;have i1:(k:Int)<n:=lK;have e0:IntKind.i64.wrap ((k:Int)+1)=(k:Int)+1:=aH _ lK;obtain⟨hbr,hbn⟩:=HLS.out _ (bY hkl);have ST:Hid (ny bs ((L.take (k+1)).map rC.val) 0 q=ny bs ((L.take k).map rC.val) 0 q++(match L[k].val with
    |some (s,c)=>if c=bs/\j<q then [((k:Int),s)] else []
    |none=> [])):=jj (by
    rw[bA hkl,bR,bV,fu,xB,HJ.out,aT,cO,fO lK,aO])
   obtain⟨d0,d1,d2⟩:=vS (HL.below BW HL.lt) hkl;obtain⟨v,hv⟩:=ex L[k];rw[<-hv] at hbr hbn ST d0 d1 d2;obtain⟨vh,vz,va,vn,vc,vb⟩:=v;have VB:=jj hbr;simp only at d0 d1 d2 hbn;have sJ:=jj hlt;clear hv hbr hkl hlt hk
   cases vh with
   |false=>
    have S':Hid (ny bs ((L.take (k+1)).map rC.val) 0 q=ny bs ((L.take k).map rC.val) 0 q):=jj (by rw[ST.out];simp[rC.val])
    go_wp2_with fail
    go_roundw
    case rel=>exact⟨k+1,by have:=sJ.out;omega,by go_num,⟨a',j,c',by trivial,by rw[S'.out];exact HJ.out,by rw[S'.out];exact own_below HO nC⟩,BW.alloc BW.size _⟩
    have:=sJ.out;simp[intOf];omega
   |true=>
    go_wp2_with fail
    generalize mE:wr.alloc _=w9;generalize vE:wr.heap.size=g9;replace mE:=mE.symm;replace vE:=vE.symm;have X9:=xNew mE vE;have WR:=(tQ mE).out;have O9:=jj (own_below HO WR);have B9:=nO BW WR;have VB9:=jj (VB.below B9);clear mE vE WR d0 d1 d2;obtain⟨bb,hbb⟩: ∃bb,decide (vb=bs)=bb:=⟨_,rfl⟩;have WX:=jj hbb;refine(ahK va A vn m vc c vb bs _ VB9 (HB.below B9) hbn bb hbb).mono ?_;rintro e w3 ⟨rfl,hb3⟩;have B3:=nO B9 hb3;have X3:=jj (X9.below hb3 X9.lt);have O3:=jj (own_below O9 hb3);have G3:J w3 g 0 (U f):=kept B3 _ _ HG;clear hbb hb3
    cases bb with
    |false=>
     have S':Hid (ny bs ((L.take (k+1)).map rC.val) 0 q=ny bs ((L.take k).map rC.val) 0 q):=jj (by
      have hne: ¬vb=bs:=iR WX;rw[ST.out];simp[rC.val,hne])
     go_wp2_with fail
     go_roundw
     case rel=>exact⟨k+1,by have:=sJ.out;omega,by go_num,⟨a',j,c',by trivial,by rw[S'.out];exact HJ.out,by rw[S'.out];exact O3.out⟩,B3⟩
     have:=sJ.out;simp[intOf];omega
    |true=>
     have heq:vb=bs:=eU WX.out;have HEQ:=jj heq;clear heq
     go_wp2_with fail
     refine(JB f _ h1 h4).mono ?_;rintro e w' ⟨rfl,rfl⟩;by_cases hjq:j<q
     ·have i5:(j:Int)<2*f+1:=lK
      have S':Hid (ny bs ((L.take (k+1)).map rC.val) 0 q=ny bs ((L.take k).map rC.val) 0 q++ [((k:Int),vz)]):=jj (by
       rw[ST.out];simp[rC.val,HEQ.out,hjq])
      have y1:=X3.at_ 1;clear hjq
      go_wp2_with(first|(at_builtin;refine lZ rfl _ _ _ rfl w.heap.size 311 i0 _ 2 16 underlying78 hi0 hz0 hz1 hz2 rfl lK a' j c' ((ny bs ((L.take k).map rC.val) 0 q).flatMap Cg) rfl (own_below O3 nC) (some ⟨w3.heap.size,0,none⟩) 1 1 (Cg ((k:Int),vz)) rfl (mo.nR (n:=1) (s:=2) (lQ.new w3 311 #[U k,U vz]) rfl) (by intro u hu;simp[Cg] at hu;rcases hu with rfl|rfl<;>rfl) (by unfold maxLen;omega) lK (by have:=B3.size;simp;omega) ?_;intro a6 c6 w6 h6;have H6:=jj h6;clear h6))
      have O6:Hid (w6.ownsRow w.heap.size 311 2 (.slice a6 (j+1) c6) (j+1) ((ny bs ((L.take (k+1)).map rC.val) 0 q).flatMap Cg)):=jj (by
       have:=H6.own;rw[S'.out,bS];simpa using this)
      have B6:Hid (Be w w6):=jj (H6.below (own_below O3 nC) (B3.alloc B3.size _) (aF _) (by have:=B3.size;simp;omega));have HJ6:Hid ((ny bs ((L.take (k+1)).map rC.val) 0 q).length=j+1):=jj (by rw[S'.out,av,HJ.out];rfl)
      try go_wp2_with fail
      go_roundw
      case rel=>exact⟨k+1,by have:=sJ.out;omega,by go_num,⟨a6,j+1,c6,by trivial,HJ6,O6⟩,B6⟩
      have:=sJ.out;simp[intOf];omega
     have i5: ¬(j:Int)<2*f+1:=lK;have S':Hid (ny bs ((L.take (k+1)).map rC.val) 0 q=ny bs ((L.take k).map rC.val) 0 q):=jj (by
      rw[ST.out];simp[rC.val,hjq])
     clear hjq
     go_wp2_with fail
     go_roundw
     case rel=>exact⟨k+1,by have:=sJ.out;omega,by go_num,⟨a',j,c',by trivial,by rw[S'.out];exact HJ.out,by rw[S'.out];exact O3.out⟩,B3⟩
     have:=sJ.out;simp[intOf];omega
  have i1: ¬(k:Int)<n:=lK;have E:Hid ((L.take k).map rC.val=L.map rC.val):=jj (by rw[dB (by rw[HN.out];omega)]);have G3:J wr g 0 (U f):=kept BW _ _ HG;rw[E.out] at HJ HO
  go_wp2_with fail
  refine(JB f _ h1 h4).mono ?_;rintro e w' ⟨rfl,rfl⟩;by_cases hjq:j<q
  ·have i5:(j:Int)<2*f+1:=lK
   have RN:Hid (r=none):=jj (by rw[<-HR.out];unfold qx;rw[aU (by rw[HJ.out];omega)])
   go_wp2_with fail
   go_ret2
   exact⟨.inr ⟨RN,by trivial⟩,BW⟩
  have i5: ¬(j:Int)<2*f+1:=lK;have RS:Hid (r=some (ny bs (L.map rC.val) 0 q)):=jj (by rw[<-HR.out];unfold qx;rw[aV (by rw[HJ.out];omega)])
  go_wp2_with fail
  go_ret2
  exact⟨.inl ⟨_,a',j,c',RS,HJ,by trivial,HO⟩,BW⟩
section
variable{x:Nat}{w w':World}{f:Int}{n g:Nat}{s:CQ}
theorem OP(h:mM x w f n g s)(hs:s.has=false):
  Y 285 #[g] w fun e w'=>e= .returned (.tuple #[(),false])/\w=w':=by
 have c1:J w g 1 false:=(h.blk.cell 1).trans (by rw[<-hs];rfl);clear h hs;go_enter func285,ntmps285
 go_wp2_with fail
 go_ret2
 exact⟨by trivial,by trivial⟩
def Sz(w:World)(r:Option (List Vo)):Ending->World->Prop:=fun e w'=>
 ((∃vs a' k' c',r=some vs/\vs.length=k'/\e= .returned (.tuple #[.slice a' k' c',true])/\w'.ownsRow w.heap.size 311 2 (.slice a' k' c') k' (vs.flatMap Cg))\/(r=none/\e= .returned (.tuple #[(),false])))/\Be w w'
theorem Ga(h:mM x w f n g s)(hs:s.has=true)(h1:1<=f)(h4:f<=4)(xP:n<=13)(hbs:s.bn<=4096)(hps: ∀v∈s.pr,v.bn<=4096)(q:Nat)(hq:(q:Int)=2*f+1)(r:Option (List Vo))(hr:qx q (s.pr.map rC.val) s.bs=r):
  Y 285 #[g] w (Sz w r):=by
 have c1:J w g 1 true:=(h.blk.cell 1).trans (by rw[<-hs];rfl);obtain⟨H,HR,HQ,HPS⟩:=j4 h hr hq hps;clear h hs hr hq hps;go_enter func285,ntmps285
 go_upto_region 3 with fail
 have D:=jj (H.below (aC _ _).drew);clear c1;refine rP (fun w'=>J w' g 2 (.slice s.ba s.bn s.bc)/\J w' g 3 (O s.gp n n)) 14 (tk 0 9 (.one 9 (tk 10 4 .done))) ⟨D.blk.cell 2,D.blk.cell 3⟩ ?_;intro hS0
 repeat refine' tT ?_
 refine pO fun KT lS=> ?_;go_simp;refine(MZ _ g f h1 h4 (D.blk.cell 0) s.gp n s.pr D.bp D.np xP (fun v hv=>⟨(D.ps v hv).row,HPS.out v hv⟩) s.ba s.bn s.bc s.bs D.b.row q HQ r HR).mono ?_;rintro e w3 ⟨(⟨vs,a',k',c',hvs,hk',rfl,ho⟩|⟨hno,rfl⟩),hb⟩
 ·have B3:=jj ((aC w.heap.size w).drew.trans hb)
  have HVS:=jj hvs;have HK:=jj hk';have HO:=jj (mO ho (aF _));have S3:J w3 g 2 (.slice s.ba s.bn s.bc)/\J w3 g 3 (O s.gp n n):=⟨kept hb _ _ hS0.1,kept hb _ _ hS0.2⟩;clear hb hvs hk' ho;refine oH lS S3 ?_;clear hS0;have hS0:=S3
  repeat refine' tT ?_
  refine lM ?_;clear hS0 S3
  go_wp2_with fail
  go_ret2
  exact⟨.inl ⟨vs,a',k',c',HVS,HK,by trivial,HO⟩,B3⟩
 have B3:=jj ((aC w.heap.size w).drew.trans hb);have HNO:=jj hno;have S3:J w3 g 2 (.slice s.ba s.bn s.bc)/\J w3 g 3 (O s.gp n n):=⟨kept hb _ _ hS0.1,kept hb _ _ hS0.2⟩;clear hb hno;refine oH lS S3 ?_;clear hS0;have hS0:=S3
 repeat refine' tT ?_
 refine lM ?_;clear hS0 S3
 go_wp2_with fail
 go_ret2
 exact⟨.inr ⟨HNO,by trivial⟩,B3⟩
def Zh(x:Nat)(w:World)(r:Option (List Rq×List Vo)):Ending->World->Prop:=fun e w'=>
 ((∃b vs a m c a' k' c',r=some (b,vs)/\b.length=m/\m<=4096/\vs.length=k'/\e= .returned (.tuple #[.slice a m c,.slice a' k' c',true])/\sK x w' a m c b/\Ez x w' a' k' c' vs)\/(r=none/\e= .returned (.tuple #[(),(),false])))/\Be w w'
theorem Eb(h:mM x w f n g s)(h1:1<=f)(h4:f<=4)(xP:n<=13)(hcs: ∀v∈s.co,v.bn<=4096)(hx:x<w.heap.size)(q:Nat)(hq:(q:Int)=2*f+1)(r:Option (List Rq×List Vo))(hr:mQ q (s.co.map rC.val) (s.co.map rC.val)=r):
  Y 287 #[g] w (Zh x w r):=by
 have c4:=h.blk.at_ 4;obtain⟨H,HR,HQ,HCS,HX,HN⟩:=j6 h hr hq hcs hx h.nc;clear h hr hq hcs hx;go_enter func287,ntmps287
 go_wp2_with fail
 clear c4
 go_loopw [14] (fun i wr=> ∃k:Nat,k<=n/\i= U k/\mQ q (s.co.map rC.val) ((s.co.drop k).map rC.val)=r/\Be w wr) (fun i _=>n -(intOf i).toNat)
 case atStart=>exact⟨0,lK,rfl,by simpa using HR.out,aC _ _⟩
 case round=>
  obtain⟨k,hk,rfl,hr,hb⟩:=hrel;have BW:=jj hb;have HRK:=jj hr;clear hb hr;by_cases hlt:k<n
  ·have hkl:k<s.co.length:=by rw[HN.out];exact hlt
   have VL:(0:Int)<=k:=lK;have i1:(k:Int)<n:=lK;have e0:IntKind.i64.wrap ((k:Int)+1)=(k:Int)+1:=aH _ lK;have SW:=jj (H.below BW);obtain⟨d0,d1,d2⟩:=vS SW.bc hkl;have hbr:=SW.cs _ (bY hkl);have hbn:=HCS.out _ (bY hkl);have DR:Hid (s.co.drop k=s.co[k]::s.co.drop (k+1)):=jj (dY hkl).symm;obtain⟨v,hv⟩:=ex s.co[k];rw[<-hv] at hbr hbn DR d0 d1 d2;obtain⟨vh,vz,va,vn,vc,vb⟩:=v;have VB:=jj hbr;simp only at d0 d1 d2 hbn;have sJ:=jj hlt;clear hv hbr hkl hlt hk
   cases vh with
   |false=>
    have S':Hid (mQ q (s.co.map rC.val) ((s.co.drop (k+1)).map rC.val)=r):=jj (by rw[<-HRK.out,DR.out];rfl)
    go_wp2_with fail
    go_roundw
    case rel=>exact⟨k+1,by have:=sJ.out;omega,by go_num,S',BW.alloc BW.size _⟩
    have:=sJ.out;simp[intOf];omega
   |true=>
    obtain⟨r1,hr1⟩: ∃r1,qx q (s.co.map rC.val) vb=r1:=⟨_,rfl⟩;have HR1:=jj hr1;clear hr1
    go_upto_region 5 with fail
    generalize mE:wr.alloc _=w9;generalize vE:wr.heap.size=g9;replace mE:=mE.symm;replace vE:=vE.symm;have X9:=xNew mE vE;have WR:=(tQ mE).out;have B9:=nO BW WR;have D:=jj ((SW.below WR).below (aC _ _).drew);have VB9:=jj ((VB.below WR).below (aC _ _).drew);clear mE vE WR d0 d1 d2;refine rP (fun w'=>J w' g 4 (O s.gc n n)/\J w' g9 2 (.slice va vn vc)) 13 (tk 0 7 (.one 7 (tk 8 5 .done))) ⟨D.blk.cell 4,X9.drew.cell 2⟩ ?_;intro hS0
    repeat refine' tT ?_
    refine pO fun KT lS=> ?_;go_simp;refine(MZ _ g f h1 h4 (D.blk.cell 0) s.gc n s.co D.bc D.nc xP (fun v hv=>⟨(D.cs v hv).row,HCS.out v hv⟩) va vn vc vb VB9.row q HQ r1 HR1).mono ?_;rintro e w3 ⟨(⟨vs,a',k',c',hvs,hk',rfl,ho⟩|⟨hno,rfl⟩),hb⟩
    ·have B3:=jj (B9.trans ((show Be w9 w3 from(aC w9.heap.size w9).drew.trans hb).mono B9.size))
     have HRS:Hid (r=some (vb,vs)):=jj (by
      rw[<-HRK.out,DR.out];show mQ q (s.co.map rC.val) (some (vz,vb)::_)=_;rw[mQ,HR1.out,hvs])
     have HK:=jj hk';have HO:=jj (Ez.own (x:=x) (base:=w9.drew.heap.size) ho (aB HX B9.size) hk');have V3:=jj (VB9.below hb);have y2:J w3 g9 2 (.slice va vn vc):=kept hb _ _ hS0.2;have S3:J w3 g 4 (O s.gc n n)/\J w3 g9 2 (.slice va vn vc):=⟨kept hb _ _ hS0.1,y2⟩;clear hb hvs hk' ho;refine oH lS S3 ?_;clear hS0;have hS0:=S3
     repeat refine' tT ?_
     refine lM ?_;clear hS0 S3
     go_wp2_with fail
     refine(Az _ va vn vc vb V3.row hbn).mono ?_;rintro e w4 ⟨a4,c4,rfl,xQ,hb4⟩;have R4:=jj (sK.own (x:=x) xQ (aB HX B3.size) V3.row.len);have O4:=jj (HO.below hb4);have B4:=nO B3 hb4;clear xQ hb4 y2
     go_wp2_with fail
     go_ret3
     exact⟨.inl ⟨vb,vs,a4,vn,c4,a',k',c',HRS,V3.row.len,hbn,HK,by trivial,R4,O4⟩,B4⟩
    have B3:=jj (B9.trans ((show Be w9 w3 from(aC w9.heap.size w9).drew.trans hb).mono B9.size));have S':Hid (mQ q (s.co.map rC.val) ((s.co.drop (k+1)).map rC.val)=r):=jj (by
     rw[<-HRK.out,DR.out];show _=mQ q (s.co.map rC.val) (some (vz,vb)::_);rw[mQ,HR1.out,hno])
    have S3:J w3 g 4 (O s.gc n n)/\J w3 g9 2 (.slice va vn vc):=⟨kept hb _ _ hS0.1,kept hb _ _ hS0.2⟩;clear hb hno;refine oH lS S3 ?_;clear hS0;have hS0:=S3
    repeat refine' tT ?_
    refine lM ?_;clear hS0 S3
    go_wp2_with fail
    go_roundw
    case rel=>exact⟨k+1,by have:=sJ.out;omega,by go_num,S',B3⟩
    have:=sJ.out;simp[intOf];omega
  have i1: ¬(k:Int)<n:=lK;have E:Hid (r=none):=jj (by rw[<-HRK.out,iB (by rw[HN.out];omega)];rfl)
  go_wp2_with fail
  go_ret3
  exact⟨.inr ⟨E,by trivial⟩,BW⟩
end
structure qm where
 g:Nat
 sl:CQ
 told:Bool
 has:Bool
 cert:CD
 done:Bool
 dw:CD
deriving Inhabited
def mH(p:qm):List Value:= [p.g,p.told,p.has,U p.cert.view,U p.cert.inst,U p.cert.seq,.slice p.cert.ba p.cert.bn p.cert.bc,.slice p.cert.va p.cert.vn p.cert.vc,
 .bool p.done,U p.dw.view,U p.dw.inst,U p.dw.seq,.slice p.dw.ba p.dw.bn p.dw.bc,.slice p.dw.va p.dw.vn p.dw.vc]
theorem tC(p:qm):(mH p).length=14:=rfl
def qm.foot(p:qm):List Nat:=p.sl.foot p.g
structure qm.Short(p:qm):Prop where
 b:p.sl.bn<=4096
 ps: ∀v∈p.sl.pr,v.bn<=4096
 cs: ∀v∈p.sl.co,v.bn<=4096
 c:p.cert.bn<=4096/\p.cert.vn<=4096
 d:p.dw.bn<=4096/\p.dw.vn<=4096
structure tJ where
 vw:Int
 on:Bool
 gl:Nat
 cap:Nat
 ps:List qm
 rest:List Value
def afC(f num ahead:Int)(i:tJ):Array Value:=#[U f,U num,U ahead,U i.vw,i.on,O i.gl 16 i.cap]
def tJ.foot(gi:Nat)(i:tJ):List Nat:=gi::i.gl::i.ps.flatMap qm.foot
structure qw(x:Nat)(w:World)(f:Int)(n:Nat)(p:qm):Prop where
 slot:mM x w f n p.g p.sl
 cert:CF x w p.cert
 dw:CF x w p.dw
 short:p.Short
structure lY(x:Nat)(w:World)(f:Int)(n:Nat)(num ahead:Int)(gi:Nat)(i:tJ):Prop where
 blk:lQ w gi 223 (afC f num ahead i)
 row:lQ w i.gl 230 (i.ps.flatMap mH++i.rest).toArray
 len:i.ps.length=16
 cap:16<=i.cap
 at_: ∀p∈i.ps,qw x w f n p
 sep: ∀(j k:Nat) (p q:qm),i.ps[j]?=some p->i.ps[k]?=some q->j≠k-> ∀b∈p.foot,b∉q.foot
section
variable{x y:Nat}{w w':World}{f:Int}{n:Nat}{num ahead:Int}{gi:Nat}{i:tJ}{p:qm}{S:LN}
theorem qw.only(h:qw x w f n p)(ho:Only S w w')(hS: ∀g∈S,nV x w g)(hn: ∀k∈p.foot,k∉S):qw x w' f n p:=⟨h.slot.only ho hS hn,h.cert.only ho hS,h.dw.only ho hS,h.short⟩
theorem qw.below(h:qw x w f n p)(hb:Be w w'):qw x w' f n p:=⟨h.slot.below hb,h.cert.below hb,h.dw.below hb,h.short⟩
theorem qw.re(h:qw x w f n p)(hy:w.heap.size<=y):qw y w f n p:=⟨h.slot.re hy,h.cert.re hy,h.dw.re hy,h.short⟩
theorem Qo{p:qm}(hp:p∈i.ps)(hk:k∈p.foot):k∈i.foot gi:=cK _ (cK _ (bg.2 ⟨p,hp,hk⟩))
theorem lY.only(h:lY x w f n num ahead gi i)(ho:Only S w w')(hS: ∀g∈S,nV x w g)(hn: ∀k∈i.foot gi,k∉S):lY x w' f n num ahead gi i:=
 ⟨h.blk.only ho (hn _ (by simp[tJ.foot])),h.row.only ho (hn _ (by simp[tJ.foot])),h.len,h.cap,fun p hp=>(h.at_ p hp).only ho hS (fun k hk=>hn k (Qo hp hk)),h.sep⟩
theorem lY.below(h:lY x w f n num ahead gi i)(hb:Be w w'):lY x w' f n num ahead gi i:=
 ⟨h.blk.below hb h.blk.lt,h.row.below hb h.row.lt,h.len,h.cap,fun p hp=>(h.at_ p hp).below hb,h.sep⟩
theorem lY.re(h:lY x w f n num ahead gi i)(hy:w.heap.size<=y):lY y w f n num ahead gi i:=⟨h.blk,h.row,h.len,h.cap,fun p hp=>(h.at_ p hp).re hy,h.sep⟩
theorem lY.soft(h:lY x w f n num ahead gi i): ∀k∈i.foot gi,nV x w k:=by
 intro k hk;simp only[tJ.foot,ay,bg] at hk;rcases hk with rfl|rfl|⟨p,hp,hk⟩
 ·exact nV.of h.blk lN
 ·exact nV.of h.row lN
 exact(h.at_ p hp).slot.soft k hk
theorem lY.lt(h:lY x w f n num ahead gi i): ∀k∈i.foot gi,k<w.heap.size:=by
 intro k hk;simp only[tJ.foot,ay,bg] at hk;rcases hk with rfl|rfl|⟨p,hp,hk⟩
 ·exact h.blk.lt
 ·exact h.row.lt
 exact(h.at_ p hp).slot.lt k hk
theorem lY.gne(h:lY x w f n num ahead gi i):gi≠i.gl:=h.blk.nY h.row lN
theorem lY.far(h:lY x w f n num ahead gi i){p:qm}(hp:p∈i.ps):gi∉p.foot/\i.gl∉p.foot:=by
 have s:=(h.at_ p hp).slot;refine⟨fun hm=> ?_,fun hm=> ?_⟩<;>simp only[qm.foot,CQ.foot,ay,aI,bK] at hm
 ·rcases hm with hm|hm|hm
  ·exact h.blk.nY s.blk lN hm
  ·exact h.blk.nY s.bp lN hm
  exact h.blk.nY s.bc lN hm
 rcases hm with hm|hm|hm
 ·exact h.row.nY s.blk lN hm
 ·exact h.row.nY s.bp lN hm
 exact h.row.nY s.bc lN hm
theorem lY.put (h:lY x w f n num ahead gi i)  {p p':qm} (hp:i.ps[k]?=some p) (hg:p'.foot=p.foot) (ho:Only S w w') (hS: ∀b∈S,b=i.gl\/b∈p.foot)
  (hr:lQ w' i.gl 230 ((i.ps.set k p').flatMap mH++i.rest).toArray) (ha:qw x w' f n p'):lY x w' f n num ahead gi {i with ps:=i.ps.set k p'}:=by
 have hpm:p∈i.ps:=ak hp;have Dp: ∀b∈S,nV x w b:=fun b hb=>by
  rcases hS b hb with rfl|hb
  ·exact nV.of h.row lN
  exact(h.at_ p hpm).slot.soft b hb
 have hgi:gi∉S:=fun hm=>by
  rcases hS gi hm with e|hb
  ·exact h.gne e
  exact(h.far hpm).1 hb
 have hk:k<i.ps.length:=(ah.1 hp).1;refine⟨h.blk.only ho hgi,hr,by simp[h.len],h.cap,fun q hq=> ?_,?_⟩
 ·obtain⟨j,hj⟩:=bT.1 hq
  by_cases hjk:j=k
  ·subst hjk
   rw[aL hk] at hj;injection hj with hj;subst hj;exact ha
  rw[aX (dR hjk)] at hj;have hqm:=ak hj;refine(h.at_ q hqm).only ho Dp fun b hb hm=> ?_;rcases hS b hm with rfl|hb'
  ·exact(h.far hqm).2 hb
  exact h.sep j k q p hj hp hjk b hb hb'
 have key: ∀(j:Nat) (q:qm),(i.ps.set k p')[j]?=some q-> ∃q',i.ps[j]?=some q'/\q.foot=q'.foot:=fun j q hj=>by
  by_cases hjk:j=k
  ·subst hjk
   rw[aL hk] at hj;injection hj with hj;subst hj;exact⟨p,hp,hg⟩
  rw[aX (dR hjk)] at hj;exact⟨q,hj,rfl⟩
 intro j l q r hq hr2 hne b hb;obtain⟨q',h1,e1⟩:=key j q hq;obtain⟨r',h2,e2⟩:=key l r hr2;rw[e1] at hb;rw[e2];exact h.sep j l q' r' h1 h2 hne b hb
theorem lY.cell(h:lY x w f n num ahead gi i){p:qm}(hp:i.ps[k]?=some p)(j:Nat)(hj:j<14)(v:Value)(hv:(mH p)[j]?=some v):J w i.gl (k*14+j) v:=by
 obtain⟨hk,e⟩:=ah.1 hp;refine(h.row.cell _).trans ?_;have:=nT mH 14 tC i.ps k j hj hk v (by rw[e];exact hv);simp only[cZ];rw[bC (ah.1 this).1];exact this
theorem lY.abZ(h:lY x w f n num ahead gi i){p p':qm}(hp:i.ps[k]?=some p)(he:mH p'=mH p):((i.ps.set k p').flatMap mH++i.rest).toArray=(i.ps.flatMap mH++i.rest).toArray:=by
 obtain⟨hk,e⟩:=ah.1 hp
 congr 2
 rw[<-zV mH 14 tC p' i.ps k hk,he,<-e,zV mH 14 tC _ i.ps k hk,jg]
end
end Go.Proofs.YtgnhecmnlddjhaaGreat
