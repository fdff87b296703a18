/- TopAlone, part 16 of 24: a proof squeezed by a program. -/
import Derived.Test.YtgnhecmnlddjhaaGreatZ14
set_option linter.unusedVariables false
set_option linter.unusedSimpArgs false
set_option linter.defProp false
set_option maxRecDepth 100000
set_option maxHeartbeats 6400000
namespace Go.Proofs.YtgnhecmnlddjhaaGreat
open Go.RowKit Go.Proofs.Tryz
variable{E:Who}{K:KS}{M:Ms}{S:KN}{a:OA}{b c gx m n x:Nat}{d:lU}{f z:Int}{l:List Rq}{r:Rq}{w w1 w2:World}
theorem aci{j:Nat}{now:Int}{T T':List oO}(h:zH f j now r T=some T'):T'.length<=T.length+1:=by
 unfold zH at h;split at h
 ·simp only[aA] at h
  obtain⟨d,_,h⟩:=h;split at h
  ·cases h
  injection h with h;rw[<-h,bG];omega
 ·split at h
  ·injection h with h
   rw[<-h];simp
  cases h
 cases h
theorem qZ{u:World}{gq:Nat}{d':lU}{K':KS}{r0 r1 r2 r3 r4 r5:Int}(h:qE x u E.f E.n E.id gx b d' K')(fx:Fix d d')(t:lQ u gq 49 #[U r0,U r1,U r2,U r3,U r4,U r5]):J u gx 1 (U 2)/\J u gx 15 (U E.id)/\J u gx 16 d.nn/\J u gx 17 d.gt/\J u gx 19 d.nH/\J u gx 22 d.gd/\J u gq 0 (U r0)/\J u gq 1 (U r1)/\J u gq 2 (U r2)/\J u gq 3 (U r3)/\J u gq 4 (U r4)/\J u gq 5 (U r5):=
 ⟨(h.blk.cell 1).trans (fx.cell _ _ 1 lN),(h.blk.cell 15).trans (fx.cell _ _ 15 lN),(h.blk.cell 16).trans (fx.cell _ _ 16 lN),(h.blk.cell 17).trans (fx.cell _ _ 17 lN),(h.blk.cell 19).trans (fx.cell _ _ 19 lN),(h.blk.cell 22).trans (fx.cell _ _ 22 lN),t.cell 0,t.cell 1,t.cell 2,t.cell 3,t.cell 4,t.cell 5⟩
theorem Ur(x:Nat)(w:World)(E:Who)(gx b:Nat)(d:lU)(K:KS)(h:qE x w E.f E.n E.id gx b d K)(hx:x<w.heap.size)(h1:1<=E.f)(h4:E.f<=4)(hn:(E.n:Int)=3*E.f+1)(m:MD)(hM:MF x w m)(hk:m.kind=1)(src:Nat)(hid:E.id<E.n)(r:Rq)(hid:E.id<E.n)(hr:m.bs= [r])(K':KS)(v':ql)(a:Kj)(hv:JE E 1 src r (K,d.val)=some ((K',v'),a)):
  Y 157 #[gx,.agg (oM m).toArray] w fun e w'=>e= .returned (U (match a with| .used=>0| .stale=>1))/\Kt x w w' E gx b d K K' v':=by
 obtain⟨r0,r1,r2,r3,r4,r5⟩:=r;unfold JE at hv;simp only[aA] at hv;obtain⟨u,hu,hv⟩:=hv;obtain⟨tf,sl,hlast,VG,xP,hr0,hr2⟩:=mI hu;replace hlast:lastOf d.ct r0<r1:=hlast;replace hr0:0<=((r0,r1,r2,r3,r4,r5):Rq).1/\((r0,r1,r2,r3,r4,r5):Rq).1<2:=⟨hr0,hr2⟩;have hT:d.T.length<=58:=tf.T;have TN:Hid (E.id<13):=jj (mR xP);have ID3:Hid ((E.id:Int)<=3*E.f):=jj lK;have TI:Hid (E.id<13):=jj (VZ ID3.out hn);obtain⟨agx,vB,HX⟩:=j3 sl hn hx;obtain⟨kind,sender,view,inst,seq,res,ba,bn,bc,bs,va,vn,vc,vs,ca,cn,cc,cs,pa,pc⟩:=m;simp only at hk hr;subst hk;subst hr;have H:=jj h;have bn1:bn=1:=hM.b.row.len.symm;subst bn1;obtain⟨g0,off,rfl,IE,x0,x1,x2,x3,x4,x5,hbx,a0,a1,a2,a3,a4,a5⟩:=hM.b.row.get (k:=0) (show 0<1 by omega);simp only[List.getElem?_cons_zero,aD,aM] at hbx;obtain⟨rfl,rfl,rfl,rfl,rfl,rfl⟩:=hbx;rw[fI,Nat.add_zero] at a0 a1 a2 a3 a4 a5;have agb:=jj hlast;clear h hx hM hu hn tf sl hlast VG xP hr2;show Y 157 #[gx,.agg #[U 1,U sender,U view,U inst,U seq,U res,.slice (some ⟨g0,off,none⟩) 1 bc,.slice va vn vc,.slice ca cn cc,.slice pa 0 pc]] w _;go_enter func157,ntmps157
 go_upto_region 1 with fail
 generalize hw1:w.alloc _=w1;generalize hgm:w.heap.size=gm;replace hw1:=hw1.symm;replace hgm:=hgm.symm;have B1:=tQ hw1;have X1:Hid (sV (nu E.f E.n E.id gx b d K) w1 gm 82 #[U 1,U sender,U view,U inst,U seq,U res,.slice (some ⟨g0,off,none⟩) 1 bc,.slice va vn vc,.slice ca cn cc,.slice pa 0 pc]):=jj (sV.new H (by rw[hw1,hgm];exact lQ.new _ _ _) lK);clear hw1 hgm;have c6:=X1.blk.at_ 6;replace a0:=kept B1 _ _ a0;replace a1:=kept B1 _ _ a1;replace a2:=kept B1 _ _ a2;replace a3:=kept B1 _ _ a3;replace a4:=kept B1 _ _ a4;replace a5:=kept B1 _ _ a5
 go_upto_region 2 with fail
 generalize hw2:w1.alloc _=w2;generalize qP:w1.heap.size=gq;replace hw2:=hw2.symm;replace qP:=qP.symm;have B12:=tQ hw2;have B2:Hid (Be w w2):=jj (B1.trans (B12.mono B1.size));have H2:=jj (H.below B2);have T2:Hid (sV (nu E.f E.n E.id gx b d K) w2 gq 49 #[U r0,U r1,U r2,U r3,U r4,U r5]):=jj (sV.new (H.below B1) (by rw[hw2,qP];exact lQ.new _ _ _) lK);have TM2:=jj (X1.below B12);clear hw2 qP c6 a0 a1 a2 a3 a4 a5 IE;refine rD (fun u=>J u gx 1 (U 2)/\J u gx 15 (U E.id)/\J u gx 16 d.nn/\J u gx 17 d.gt/\J u gx 19 d.nH/\J u gx 22 d.gd/\J u gq 0 (U r0)/\J u gq 1 (U r1)/\J u gq 2 (U r2)/\J u gq 3 (U r3)/\J u gq 4 (U r4)/\J u gq 5 (U r5)) 12 (tk 0 10 (.one 10 (.take 11 .done))) (qZ (H2).uD (Fix.refl d) (T2).blk.drew) fun v1 Bv hS0=> ?_
 repeat refine' tT ?_
 refine pO fun KT lS=> ?_;go_simp;refine(Bu v1 d.nn b K (H2.below Bv).Pt 2 (r0,r1,r2,r3,r4,r5) agx).mono ?_;rintro e w3 ⟨rfl,hb⟩;have B3:=nO Bv hb;have H3:=jj ((H2).below B3);have T3:=jj ((T2).below B3);have SS:=qZ H3 (Fix.refl d) T3.blk;refine oH lS SS ?_;clear hS0 hb Bv;have hS0:=SS
 repeat refine' tT ?_
 refine lM ?_;clear hS0 SS;have TM3:=jj (TM2.below B3)
 go_upto_region 4 with fail
 refine rD (fun u=>J u gx 1 (U 2)/\J u gx 15 (U E.id)/\J u gx 16 d.nn/\J u gx 17 d.gt/\J u gx 19 d.nH/\J u gx 22 d.gd/\J u gq 0 (U r0)/\J u gq 1 (U r1)/\J u gq 2 (U r2)/\J u gq 3 (U r3)/\J u gq 4 (U r4)/\J u gq 5 (U r5)) 8 (tk 0 6 (.one 6 (.take 7 .done))) (qZ (H3).uD (Fix.refl d) (T3).blk.drew) fun v1 Bv hS0=> ?_
 repeat refine' tT ?_
 refine pO fun KT lS=> ?_;go_simp;refine(VQ d.SL d.gd 2 d.es d.st d.ct r0 v1 (H3.below Bv).led ⟨by have h9:0<=r0:=hr0.1;omega,by have h9:r0<2:=hr0.2;omega⟩ _ rfl).mono ?_;rintro e w4 ⟨rfl,hbe⟩;have hb:Be v1 w4:=by rw[hbe];exact aC _ _
 clear hbe;have B4:=nO Bv hb;have H4:=jj ((H3).below B4);have T4:=jj ((T3).below B4);have SS:=qZ H4 (Fix.refl d) T4.blk;refine oH lS SS ?_;clear hS0 hb Bv;have hS0:=SS
 repeat refine' tT ?_
 refine lM ?_;clear hS0 SS;have TM:=jj (TM3.below B4);have B04:Hid (Be w w4):=jj (B2.trans ((B3.trans (B4.mono B3.size)).mono B2.size));have S4:=jj (H.step B04);have hle: ¬r1<=lastOf d.ct r0:=by have:=agb.out;omega
 have q1:=T4.blk.at_ 1;obtain⟨m0,m1⟩:=TM.blk.a2;have n15:=H4.blk.at_ 15;obtain⟨HH,hh,hgo⟩:=hv;have HHH:=jj hh;have Zo:=jj hgo;clear hh hgo
 go_upto_region 14 with fail
 refine rD (fun u=>J u gx 1 (U 2)/\J u gx 15 (U E.id)/\J u gx 16 d.nn/\J u gx 17 d.gt/\J u gx 19 d.nH/\J u gx 22 d.gd/\J u gq 0 (U r0)/\J u gq 1 (U r1)/\J u gq 2 (U r2)/\J u gq 3 (U r3)/\J u gq 4 (U r4)/\J u gq 5 (U r5)) 7 (tk 0 6 (.one 6 .done)) (qZ (H4).uD (Fix.refl d) (T4).blk.drew) fun v1 Bv hS0=> ?_
 repeat refine' tT ?_
 refine pO fun KT lS=> ?_;go_simp;refine(Jr (H4.below Bv) lK (r0,r1,r2,r3,r4,r5) E.id TN HH HHH).mono ?_;rintro e w5 ⟨rfl,hb⟩;have B5:=nO Bv hb;have H5:=jj ((H4).below B5);have T5:=jj ((T4).below B5);have SS:=qZ H5 (Fix.refl d) T5.blk;refine oH lS SS ?_;clear hS0 hb Bv;have hS0:=SS
 repeat refine' tT ?_
 refine lM ?_;clear hS0 SS;have hgo:=Zo.out;cases HH
 ·simp only[dz,gH,aA] at hgo
  obtain⟨HI,hi,⟨K6,v6⟩,hmid,hlast⟩:=hgo;obtain⟨HHI,WY,Lg⟩:=j3 hi hmid hlast;clear hi hmid hlast Zo
  go_upto_region 16 with fail
  refine rD (fun u=>J u gx 1 (U 2)/\J u gx 15 (U E.id)/\J u gx 16 d.nn/\J u gx 17 d.gt/\J u gx 19 d.nH/\J u gx 22 d.gd/\J u gq 0 (U r0)/\J u gq 1 (U r1)/\J u gq 2 (U r2)/\J u gq 3 (U r3)/\J u gq 4 (U r4)/\J u gq 5 (U r5)) 11 (tk 0 9 (.one 9 (.take 10 .done))) (qZ (H5).uD (Fix.refl d) (T5).blk.drew) fun v1 Bv hS0=> ?_
  repeat refine' tT ?_
  refine pO fun KT lS=> ?_;go_simp;refine(Jr (H5.below Bv) lK (r0,r1,r2,r3,r4,r5) E.id TI HI HHI).mono ?_;rintro e w6 ⟨rfl,hb⟩;have B6:=nO Bv hb;have H6:=jj ((H5).below B6);have T6:=jj ((T5).below B6);have SS:=qZ H6 (Fix.refl d) T6.blk;refine oH lS SS ?_;clear hS0 hb Bv;have hS0:=SS
  repeat refine' tT ?_
  refine lM ?_;clear hS0 SS;have hmid:=WY.out;cases HI
  ·simp only[dz,gH,aA] at hmid
   obtain⟨T',ht,hp⟩:=hmid;have HT':=jj ht;have HP:=jj hp;clear ht hp WY
   go_upto_region 17 with fail
   refine rD (fun u=>J u gx 1 (U 2)/\J u gx 15 (U E.id)/\J u gx 16 d.nn/\J u gx 17 d.gt/\J u gx 19 d.nH/\J u gx 22 d.gd/\J u gq 0 (U r0)/\J u gq 1 (U r1)/\J u gq 2 (U r2)/\J u gq 3 (U r3)/\J u gq 4 (U r4)/\J u gq 5 (U r5)) 22 (tk 0 13 (.one 13 (.one 14 (tk 15 7 .done)))) (qZ (H6).uD (Fix.refl d) (T6).blk.drew) fun v1 Bv hS0=> ?_
   repeat refine' tT ?_
   refine pO fun KT lS=> ?_;go_simp;have S6:=jj (S4.below (B5.trans (B6.mono B5.size)));have HX6:Hid (x<v1.heap.size):=jj (aB HX (aG S6.size Bv.size));have H6v:=jj (H6.below Bv);refine(vF H6v).mono ?_;rintro e w7 ⟨rfl,rfl⟩;refine oH lS hS0 ?_
   repeat refine' tT ?_
   refine pO fun KT lS=> ?_;go_simp;refine(GX H6v h1 h4 lK (r0,r1,r2,r3,r4,r5) hr0 E.id ID3 d.now T' HT').mono ?_;rintro e w7 ⟨o1,o2,ST',rfl,hst⟩;obtain⟨d7,hd7⟩:=ex (d.tabled T' ST');rw[<-hd7] at hst;have S7:=jj hst;have H7:=jj hst.sys;have T7:=jj ((T6.below Bv).step hst);have TM7:=jj ((TM.below (B5.trans (B6.mono B5.size))).below Bv.out|>.step hst);have F7:Hid (Fix d d7):=jj (by rw[hd7];exact Fix.Bp d _ _);have V7:Hid (d7.val={d.val with T:=T'}):=jj (by rw[hd7];rfl);have SS:=qZ H7 F7 T7.blk;clear hst hd7;refine oH lS SS ?_;clear hS0;have hS0:=SS
   repeat refine' tT ?_
   refine lM ?_;clear hS0 SS;obtain⟨y0,y1,y2,y3,y4,y5⟩:=T7.blk.a6
   go_wp2_with fail
   refine(yV x w7 E gx b d7 K H7 (aB HX6 S7.size) h1 h4 vB (r0,r1,r2,r3,r4,r5) K6 v6 (by rw[V7.out];exact HP.out)).mono ?_;rintro e w8 ⟨rfl,A8,c8,L8,hst,hval⟩;obtain⟨d8,XI⟩:=ex (d7.outs A8 c8 L8);rw[<-XI] at hst hval;have S8:Hid (mP x w w8 E.f E.n E.id gx b d K d8 K6):=jj (((S6.below Bv).trans S7).trans hst);have H8:=jj hst.sys;have T8:=jj (T7.step hst);have TM8:=jj (TM7.step hst);have F8:Hid (Fix d d8):=jj (F7.trans (by rw[XI];exact Fix.Bo _ _ _ _));have V8:=jj hval;have TT8:Hid (d8.T=T'):=jj (by rw[XI];show d7.T=T';exact congrArg ql.T V7);clear hst hval XI y0 y1 y2 y3 y4 y5;have ym:=TM8.blk.at_ 0;have hlast:=Lg.out;rw[aU (fun e=>absurd e.1 lN)] at hlast;simp only[fH,aD,aM] at hlast;obtain⟨⟨rfl,rfl⟩,rfl⟩:=hlast
   go_wp2_with fail
   go_ret;exact⟨by trivial,d8,S8,F8,V8⟩
  exact absurd (HHH.symm.trans HHI) lT
 simp only[fH,aD,aM] at hgo;obtain⟨⟨rfl,rfl⟩,rfl⟩:=hgo
 go_wp2_with fail
 go_ret;exact⟨by trivial,d,S4.below B5,Fix.refl d,rfl⟩
theorem Us(x:Nat)(w:World)(E:Who)(gx b:Nat)(d:lU)(K:KS)(h:qE x w E.f E.n E.id gx b d K)(hx:x<w.heap.size)(h1:1<=E.f)(h4:E.f<=4)(hn:(E.n:Int)=3*E.f+1)(m:MD)(hM:MF x w m)(hk:m.kind=2)(src:Nat)(hsrc:m.sender=src)(r:Rq)(hid:E.id<E.n)(hr:m.bs= [r])(K':KS)(v':ql)(a:Kj)(hv:JE E 2 src r (K,d.val)=some ((K',v'),a)):
  Y 157 #[gx,.agg (oM m).toArray] w fun e w'=>e= .returned (U (match a with| .used=>0| .stale=>1))/\Kt x w w' E gx b d K K' v':=by
 obtain⟨r0,r1,r2,r3,r4,r5⟩:=r;unfold JE at hv;simp only[aA] at hv;obtain⟨u,hu,hv⟩:=hv;obtain⟨tf,sl,hlast,VG,xP,hr0,hr2⟩:=mI hu;replace hlast:lastOf d.ct r0<r1:=hlast;replace hr0:0<=((r0,r1,r2,r3,r4,r5):Rq).1/\((r0,r1,r2,r3,r4,r5):Rq).1<2:=⟨hr0,hr2⟩;have hT:d.T.length<=58:=tf.T;have TN:Hid (src<13):=jj (mR xP);have ID3:Hid ((E.id:Int)<=3*E.f):=jj lK;have ajv:Hid ((src:Int)<=3*E.f):=jj (by have h9:src<E.n:=(mR VG);omega);have TI:Hid (E.id<13):=jj (VZ ID3.out hn);obtain⟨agx,vB,HX⟩:=j3 sl hn hx;obtain⟨kind,sender,view,inst,seq,res,ba,bn,bc,bs,va,vn,vc,vs,ca,cn,cc,cs,pa,pc⟩:=m;simp only at hk hr hsrc;subst hk;subst hsrc;subst hr;have H:=jj h;have bn1:bn=1:=hM.b.row.len.symm;subst bn1;obtain⟨g0,off,rfl,IE,x0,x1,x2,x3,x4,x5,hbx,a0,a1,a2,a3,a4,a5⟩:=hM.b.row.get (k:=0) (show 0<1 by omega);simp only[List.getElem?_cons_zero,aD,aM] at hbx;obtain⟨rfl,rfl,rfl,rfl,rfl,rfl⟩:=hbx;rw[fI,Nat.add_zero] at a0 a1 a2 a3 a4 a5;have agb:=jj hlast;clear h hx hM hu hn tf sl hlast VG xP hr2;show Y 157 #[gx,.agg #[U 2,U src,U view,U inst,U seq,U res,.slice (some ⟨g0,off,none⟩) 1 bc,.slice va vn vc,.slice ca cn cc,.slice pa 0 pc]] w _;go_enter func157,ntmps157
 go_upto_region 1 with fail
 generalize hw1:w.alloc _=w1;generalize hgm:w.heap.size=gm;replace hw1:=hw1.symm;replace hgm:=hgm.symm;have B1:=tQ hw1;have X1:Hid (sV (nu E.f E.n E.id gx b d K) w1 gm 82 #[U 2,U src,U view,U inst,U seq,U res,.slice (some ⟨g0,off,none⟩) 1 bc,.slice va vn vc,.slice ca cn cc,.slice pa 0 pc]):=jj (sV.new H (by rw[hw1,hgm];exact lQ.new _ _ _) lK);clear hw1 hgm;have c6:=X1.blk.at_ 6;replace a0:=kept B1 _ _ a0;replace a1:=kept B1 _ _ a1;replace a2:=kept B1 _ _ a2;replace a3:=kept B1 _ _ a3;replace a4:=kept B1 _ _ a4;replace a5:=kept B1 _ _ a5
 go_upto_region 2 with fail
 generalize hw2:w1.alloc _=w2;generalize qP:w1.heap.size=gq;replace hw2:=hw2.symm;replace qP:=qP.symm;have B12:=tQ hw2;have B2:Hid (Be w w2):=jj (B1.trans (B12.mono B1.size));have H2:=jj (H.below B2);have T2:Hid (sV (nu E.f E.n E.id gx b d K) w2 gq 49 #[U r0,U r1,U r2,U r3,U r4,U r5]):=jj (sV.new (H.below B1) (by rw[hw2,qP];exact lQ.new _ _ _) lK);have TM2:=jj (X1.below B12);clear hw2 qP c6 a0 a1 a2 a3 a4 a5 IE;refine rD (fun u=>J u gx 1 (U 2)/\J u gx 15 (U E.id)/\J u gx 16 d.nn/\J u gx 17 d.gt/\J u gx 19 d.nH/\J u gx 22 d.gd/\J u gq 0 (U r0)/\J u gq 1 (U r1)/\J u gq 2 (U r2)/\J u gq 3 (U r3)/\J u gq 4 (U r4)/\J u gq 5 (U r5)) 12 (tk 0 10 (.one 10 (.take 11 .done))) (qZ (H2).uD (Fix.refl d) (T2).blk.drew) fun v1 Bv hS0=> ?_
 repeat refine' tT ?_
 refine pO fun KT lS=> ?_;go_simp;refine(Bu v1 d.nn b K (H2.below Bv).Pt 2 (r0,r1,r2,r3,r4,r5) agx).mono ?_;rintro e w3 ⟨rfl,hb⟩;have B3:=nO Bv hb;have H3:=jj ((H2).below B3);have T3:=jj ((T2).below B3);have SS:=qZ H3 (Fix.refl d) T3.blk;refine oH lS SS ?_;clear hS0 hb Bv;have hS0:=SS
 repeat refine' tT ?_
 refine lM ?_;clear hS0 SS;have TM3:=jj (TM2.below B3)
 go_upto_region 4 with fail
 refine rD (fun u=>J u gx 1 (U 2)/\J u gx 15 (U E.id)/\J u gx 16 d.nn/\J u gx 17 d.gt/\J u gx 19 d.nH/\J u gx 22 d.gd/\J u gq 0 (U r0)/\J u gq 1 (U r1)/\J u gq 2 (U r2)/\J u gq 3 (U r3)/\J u gq 4 (U r4)/\J u gq 5 (U r5)) 8 (tk 0 6 (.one 6 (.take 7 .done))) (qZ (H3).uD (Fix.refl d) (T3).blk.drew) fun v1 Bv hS0=> ?_
 repeat refine' tT ?_
 refine pO fun KT lS=> ?_;go_simp;refine(VQ d.SL d.gd 2 d.es d.st d.ct r0 v1 (H3.below Bv).led ⟨by have h9:0<=r0:=hr0.1;omega,by have h9:r0<2:=hr0.2;omega⟩ _ rfl).mono ?_;rintro e w4 ⟨rfl,hbe⟩;have hb:Be v1 w4:=by rw[hbe];exact aC _ _
 clear hbe;have B4:=nO Bv hb;have H4:=jj ((H3).below B4);have T4:=jj ((T3).below B4);have SS:=qZ H4 (Fix.refl d) T4.blk;refine oH lS SS ?_;clear hS0 hb Bv;have hS0:=SS
 repeat refine' tT ?_
 refine lM ?_;clear hS0 SS;have TM:=jj (TM3.below B4);have B04:Hid (Be w w4):=jj (B2.trans ((B3.trans (B4.mono B3.size)).mono B2.size));have S4:=jj (H.step B04);have hle: ¬r1<=lastOf d.ct r0:=by have:=agb.out;omega
 have q1:=T4.blk.at_ 1;obtain⟨m0,m1⟩:=TM.blk.a2;have n15:=H4.blk.at_ 15;obtain⟨HH,hh,hgo⟩:=hv;have HHH:=jj hh;have Zo:=jj hgo;clear hh hgo
 go_upto_region 14 with fail
 refine rD (fun u=>J u gx 1 (U 2)/\J u gx 15 (U E.id)/\J u gx 16 d.nn/\J u gx 17 d.gt/\J u gx 19 d.nH/\J u gx 22 d.gd/\J u gq 0 (U r0)/\J u gq 1 (U r1)/\J u gq 2 (U r2)/\J u gq 3 (U r3)/\J u gq 4 (U r4)/\J u gq 5 (U r5)) 7 (tk 0 6 (.one 6 .done)) (qZ (H4).uD (Fix.refl d) (T4).blk.drew) fun v1 Bv hS0=> ?_
 repeat refine' tT ?_
 refine pO fun KT lS=> ?_;go_simp;refine(Jr (H4.below Bv) lK (r0,r1,r2,r3,r4,r5) src TN HH HHH).mono ?_;rintro e w5 ⟨rfl,hb⟩;have B5:=nO Bv hb;have H5:=jj ((H4).below B5);have T5:=jj ((T4).below B5);have SS:=qZ H5 (Fix.refl d) T5.blk;refine oH lS SS ?_;clear hS0 hb Bv;have hS0:=SS
 repeat refine' tT ?_
 refine lM ?_;clear hS0 SS;have hgo:=Zo.out;cases HH
 ·simp only[dz,gH,aA] at hgo
  obtain⟨HI,hi,⟨K6,v6⟩,hmid,hlast⟩:=hgo;obtain⟨HHI,WY,Lg⟩:=j3 hi hmid hlast;clear hi hmid hlast Zo
  go_upto_region 16 with fail
  refine rD (fun u=>J u gx 1 (U 2)/\J u gx 15 (U E.id)/\J u gx 16 d.nn/\J u gx 17 d.gt/\J u gx 19 d.nH/\J u gx 22 d.gd/\J u gq 0 (U r0)/\J u gq 1 (U r1)/\J u gq 2 (U r2)/\J u gq 3 (U r3)/\J u gq 4 (U r4)/\J u gq 5 (U r5)) 11 (tk 0 9 (.one 9 (.take 10 .done))) (qZ (H5).uD (Fix.refl d) (T5).blk.drew) fun v1 Bv hS0=> ?_
  repeat refine' tT ?_
  refine pO fun KT lS=> ?_;go_simp;refine(Jr (H5.below Bv) lK (r0,r1,r2,r3,r4,r5) E.id TI HI HHI).mono ?_;rintro e w6 ⟨rfl,hb⟩;have B6:=nO Bv hb;have H6:=jj ((H5).below B6);have T6:=jj ((T5).below B6);have SS:=qZ H6 (Fix.refl d) T6.blk;refine oH lS SS ?_;clear hS0 hb Bv;have hS0:=SS
  repeat refine' tT ?_
  refine lM ?_;clear hS0 SS;have hmid:=WY.out;cases HI
  ·simp only[dz,gH,aA] at hmid
   obtain⟨T',ht,hp⟩:=hmid;have HT':=jj ht;have HP:=jj hp;clear ht hp WY
   go_upto_region 17 with fail
   refine rD (fun u=>J u gx 1 (U 2)/\J u gx 15 (U E.id)/\J u gx 16 d.nn/\J u gx 17 d.gt/\J u gx 19 d.nH/\J u gx 22 d.gd/\J u gq 0 (U r0)/\J u gq 1 (U r1)/\J u gq 2 (U r2)/\J u gq 3 (U r3)/\J u gq 4 (U r4)/\J u gq 5 (U r5)) 22 (tk 0 13 (.one 13 (.one 14 (tk 15 7 .done)))) (qZ (H6).uD (Fix.refl d) (T6).blk.drew) fun v1 Bv hS0=> ?_
   repeat refine' tT ?_
   refine pO fun KT lS=> ?_;go_simp;have S6:=jj (S4.below (B5.trans (B6.mono B5.size)));have HX6:Hid (x<v1.heap.size):=jj (aB HX (aG S6.size Bv.size));have H6v:=jj (H6.below Bv);refine(vF H6v).mono ?_;rintro e w7 ⟨rfl,rfl⟩;refine oH lS hS0 ?_
   repeat refine' tT ?_
   refine pO fun KT lS=> ?_;go_simp;refine(GX H6v h1 h4 lK (r0,r1,r2,r3,r4,r5) hr0 E.id ID3 d.now T' HT').mono ?_;rintro e w7 ⟨o1,o2,ST',rfl,hst⟩;obtain⟨d7,hd7⟩:=ex (d.tabled T' ST');rw[<-hd7] at hst;have S7:=jj hst;have H7:=jj hst.sys;have T7:=jj ((T6.below Bv).step hst);have TM7:=jj ((TM.below (B5.trans (B6.mono B5.size))).below Bv.out|>.step hst);have F7:Hid (Fix d d7):=jj (by rw[hd7];exact Fix.Bp d _ _);have V7:Hid (d7.val={d.val with T:=T'}):=jj (by rw[hd7];rfl);have SS:=qZ H7 F7 T7.blk;clear hst hd7;refine oH lS SS ?_;clear hS0;have hS0:=SS
   repeat refine' tT ?_
   refine lM ?_;clear hS0 SS;obtain⟨y0,y1,y2,y3,y4,y5⟩:=T7.blk.a6
   go_wp2_with fail
   refine(yV x w7 E gx b d7 K H7 (aB HX6 S7.size) h1 h4 vB (r0,r1,r2,r3,r4,r5) K6 v6 (by rw[V7.out];exact HP.out)).mono ?_;rintro e w8 ⟨rfl,A8,c8,L8,hst,hval⟩;obtain⟨d8,XI⟩:=ex (d7.outs A8 c8 L8);rw[<-XI] at hst hval;have S8:Hid (mP x w w8 E.f E.n E.id gx b d K d8 K6):=jj (((S6.below Bv).trans S7).trans hst);have H8:=jj hst.sys;have T8:=jj (T7.step hst);have TM8:=jj (TM7.step hst);have F8:Hid (Fix d d8):=jj (F7.trans (by rw[XI];exact Fix.Bo _ _ _ _));have V8:=jj hval;have TT8:Hid (d8.T=T'):=jj (by rw[XI];show d7.T=T';exact congrArg ql.T V7);clear hst hval XI y0 y1 y2 y3 y4 y5;have ym:=TM8.blk.at_ 0;have hlast:=Lg.out;split at hlast
   ·rename_i hcond
    simp only[aK,aM] at hlast;obtain⟨T9',ht9,⟨rfl,rfl⟩,rfl⟩:=hlast;have HT9:=jj ht9;clear ht9 hcond Lg
    go_upto_region 22 with fail
    refine rD (fun u=>J u gx 1 (U 2)/\J u gx 15 (U E.id)/\J u gx 16 d.nn/\J u gx 17 d.gt/\J u gx 19 d.nH/\J u gx 22 d.gd/\J u gq 0 (U r0)/\J u gq 1 (U r1)/\J u gq 2 (U r2)/\J u gq 3 (U r3)/\J u gq 4 (U r4)/\J u gq 5 (U r5)) 12 (tk 0 10 (.one 10 (.one 11 .done))) (qZ (H8).uD F8 (T8).blk.drew) fun v1 Bv hS0=> ?_
    repeat refine' tT ?_
    refine pO fun KT lS=> ?_;go_simp;have Hv:=jj (H8.below Bv);rw[<-F8.gt];refine(vF Hv).mono ?_;rintro e w9 ⟨rfl,rfl⟩;refine oH lS hS0 ?_
    repeat refine' tT ?_
    refine pO fun KT lS=> ?_;go_simp;rw[<-F8.nH];refine(GX Hv h1 h4 (by rw[TT8.out];have e:T'.length<=d.T.length+1:=aci HT';omega) (r0,r1,r2,r3,r4,r5) hr0 src ajv _ T9' (by have e:=HT9.out;rw[<-V8.out] at e;exact e)).mono ?_;rintro e w9 ⟨o3,o4,ST9,rfl,hst⟩;have S9:=jj hst;have H9:=jj hst.sys;have T9:=jj ((T8.below Bv).step hst);have F9:Hid (Fix d (d8.tabled T9' ST9)):=jj (F8.trans (Fix.Bp _ _ _));have SS:=qZ H9 F9 T9.blk;clear hst;refine oH lS SS ?_;clear hS0;have hS0:=SS
    repeat refine' tT ?_
    refine lM ?_;clear hS0 SS
    go_wp2_with fail
    go_ret;refine⟨by trivial,_,(S8.below Bv).trans S9,F9,?_⟩;rw[<-V8.out];rfl
   simp at hlast
  simp only[fH,aD,aM] at hmid;obtain⟨rfl,rfl⟩:=hmid;clear WY;have S6:=jj (S4.below (B5.trans (B6.mono B5.size)));have TM6:=jj (TM.below (B5.trans (B6.mono B5.size)));have F6:=jj (Fix.refl d);have ym:=TM6.blk.at_ 0;have hlast:=Lg.out;split at hlast
  ·rename_i hcond
   simp only[aK,aM] at hlast;obtain⟨T9',ht9,⟨rfl,rfl⟩,rfl⟩:=hlast;have HT9:=jj ht9;clear ht9 hcond Lg
   go_upto_region 22 with fail
   refine rD (fun u=>J u gx 1 (U 2)/\J u gx 15 (U E.id)/\J u gx 16 d.nn/\J u gx 17 d.gt/\J u gx 19 d.nH/\J u gx 22 d.gd/\J u gq 0 (U r0)/\J u gq 1 (U r1)/\J u gq 2 (U r2)/\J u gq 3 (U r3)/\J u gq 4 (U r4)/\J u gq 5 (U r5)) 12 (tk 0 10 (.one 10 (.one 11 .done))) (qZ (H6).uD F6 (T6).blk.drew) fun v1 Bv hS0=> ?_
   repeat refine' tT ?_
   refine pO fun KT lS=> ?_;go_simp;have Hv:=jj (H6.below Bv);rw[<-F6.gt];refine(vF Hv).mono ?_;rintro e w9 ⟨rfl,rfl⟩;refine oH lS hS0 ?_
   repeat refine' tT ?_
   refine pO fun KT lS=> ?_;go_simp;rw[<-F6.nH];refine(GX Hv h1 h4 lK (r0,r1,r2,r3,r4,r5) hr0 src ajv _ T9' (HT9)).mono ?_;rintro e w9 ⟨o3,o4,ST9,rfl,hst⟩;have S9:=jj hst;have H9:=jj hst.sys;have T9:=jj ((T6.below Bv).step hst);have F9:Hid (Fix d (d.tabled T9' ST9)):=jj (F6.trans (Fix.Bp _ _ _));have SS:=qZ H9 F9 T9.blk;clear hst;refine oH lS SS ?_;clear hS0;have hS0:=SS
   repeat refine' tT ?_
   refine lM ?_;clear hS0 SS
   go_wp2_with fail
   go_ret;refine⟨by trivial,_,(S6.below Bv).trans S9,F9,?_⟩;rfl
  simp at hlast
 simp only[fH,aD,aM] at hgo;obtain⟨⟨rfl,rfl⟩,rfl⟩:=hgo
 go_wp2_with fail
 go_ret;exact⟨by trivial,d,S4.below B5,Fix.refl d,rfl⟩
theorem nU.k12(h:nU f M)(hk:M.kind=1\/M.kind=2):0<=M.sender/\ ∃r,M.batch= [r]:=by
 cases h with
 |req r q1 q2 q3=>exact⟨by simp only;omega,r,rfl⟩
 |prop s r q1 q2=>exact⟨by unfold qU at q1;simp only[dQ] at q1;exact q1.1,r,rfl⟩
 |_=>simp at hk
theorem nU.ahk(h:nU f M)(hk:M.kind=3\/M.kind=4\/M.kind=5):(0<=M.inst/\M.inst<=f)/\(1<=M.seq/\M.seq<=16):=by
 have key: ∀a b c:Int,qU a b c=true->b<=a/\a<=c:=fun a b c h=>by unfold qU at h;simpa using h
 cases h with
 |pp k q l q1 q2 q3 q4 q5=>exact⟨key _ _ _ q2,key _ _ _ q3⟩
 |v4 s k q l q1 q2 q3 q4 q5=>exact⟨key _ _ _ q2,key _ _ _ q3⟩
 |v5 s k q l q1 q2 q3 q4 q5=>exact⟨key _ _ _ q2,key _ _ _ q3⟩
 |_=>simp at hk
theorem nU.kinds(h:nU f M):M.kind=1\/M.kind=2\/M.kind=3\/M.kind=4\/M.kind=5\/M.kind=9:=by
 cases h<;>simp
theorem Rx(hk:M.kind=1\/M.kind=2)(hr:M.batch= [r]):sP E M z S=JE E M.kind M.sender.toNat r S:=by
 unfold sP;rw[aV hk,hr]
theorem aeL(hk:M.kind=3):sP E M z S=ppV E M M.inst.toNat (M.seq -1).toNat S:=by
 unfold sP;rw[aU (by rw[hk];decide),aV hk]
theorem Ry(hk:M.kind=4\/M.kind=5):sP E M z S=AU E M z M.sender.toNat M.inst.toNat (M.seq -1).toNat S:=by
 unfold sP;rw[aU (by rcases hk with hk|hk<;>rw[hk]<;>decide),aU (by rcases hk with hk|hk<;>rw[hk]<;>decide),aV hk]
theorem aeM{c:Ce}(hk:M.kind=9)(hc:M.vI= [c]):sP E M z S=Cw E c S:=by
 unfold sP;rw[aU (by rw[hk];decide),aU (by rw[hk];decide),aU (by rw[hk];decide),aV hk,hc]
theorem acf{r:KN×Kj}(hk:M.kind=9)(h:sP E M z S=some r): ∃c,M.vI= [c]:=by
 unfold sP at h;rw[aU (by rw[hk];decide),aU (by rw[hk];decide),aU (by rw[hk];decide),aV hk] at h;split at h
 ·rename_i c hc
  exact⟨c,hc⟩
 cases h
theorem adq{cd:CD}(h:Gz x w a n c [cd]):n=1/\ ∃g off,a=some ⟨g,off,none⟩/\J w g off (U cd.view)/\J w g (off+1) (U cd.inst)/\J w g (off+2) (U cd.seq)/\J w g (off+3) (.slice cd.ba cd.bn cd.bc)/\J w g (off+4) (.slice cd.va cd.vn cd.vc):=by
 have hn:n=1:=h.len.symm;subst hn;obtain⟨b,off,rfl,hlt,hc⟩:=h.row.2 lK;have key: ∀j v,(nS cd)[j]?=some v->J w b (off+j) v:=fun j v hv=>hc j v (mR hv);exact⟨rfl,b,off,rfl,key 0 _ rfl,key 1 _ rfl,key 2 _ rfl,key 3 _ rfl,key 4 _ rfl⟩
theorem aef(x:Nat)(w:World)(E:Who)(gx b:Nat)(d:lU)(K:KS)(h:qE x w E.f E.n E.id gx b d K)(hx:x<w.heap.size)(h1:1<=E.f)(h4:E.f<=4)(hn:(E.n:Int)=3*E.f+1)(hid:E.id<E.n)(m:MD)(hM:MF x w m)(hk:m.kind=1)(ff:nU E.f (nA m))(z:Int)(K':KS)(v':ql)(a:Kj)(hv:sP E (nA m) z (K,d.val)=some ((K',v'),a)):
  Y 120 #[gx,.agg (oM m).toArray,U z] w fun e w'=>e= .returned (U a.num)/\Kt x w w' E gx b d K K' v':=by
 obtain⟨kind,sender,view,inst,seq,res,ba,bn,bc,bs,va,vn,vc,vs,ca,cn,cc,cs,pa,pc⟩:=m;simp only at hk;subst hk;obtain⟨H,HX,vB,HM,U3⟩:=j5 h hx hn hM hid;obtain⟨hs0,r,hr⟩:=ff.k12 (by simp[nA]);rw[Rx (by simp[nA]) hr] at hv;replace hs0:0<=sender:=hs0;replace hr:bs= [r]:=hr;have HV:=jj hv;have HR:=jj hr;have HS:Hid (sender=(sender.toNat:Int)):=jj lK;clear hv hr hs0;clear h hx hn hM hid ff;show Y 120 #[gx,.agg #[U 1,U sender,U view,U inst,U seq,U res,.slice ba bn bc,.slice va vn vc,.slice ca cn cc,.slice pa 0 pc],U z] w _;go_enter func120,ntmps120
 go_upto_region 1 with fail
 generalize hw1:w.alloc _=w1;generalize hgm:w.heap.size=gm;replace hw1:=hw1.symm;replace hgm:=hgm.symm;obtain⟨B1,X1⟩:=nw hw1 hgm;clear hw1 hgm;have H1:=jj (H.below B1);have M1:=jj (HM.below B1);have YU:Hid (x<w1.heap.size):=jj (aB HX B1.size);obtain⟨y0,y1,y2,y3,y4,y5,y6,y7,y8,y9⟩:=X1.zA
 go_wp2_with fail
 refine(Ur x w1 E gx b d K H1 YU h1 h4 vB ⟨1,sender,view,inst,seq,res,ba,bn,bc,bs,va,vn,vc,vs,ca,cn,cc,cs,pa,pc⟩ M1 rfl sender.toNat U3 r U3 HR K' v' a HV).mono ?_;rintro e w2 ⟨he,d2,hst,hfx,hval⟩;replace he:e= .returned (U a.num):=by rw[he];cases a<;>rfl
 subst he
 go_wp2_with fail
 go_ret;exact⟨by trivial,d2,(H.step B1).trans hst,hfx,hval⟩
theorem aeg(x:Nat)(w:World)(E:Who)(gx b:Nat)(d:lU)(K:KS)(h:qE x w E.f E.n E.id gx b d K)(hx:x<w.heap.size)(h1:1<=E.f)(h4:E.f<=4)(hn:(E.n:Int)=3*E.f+1)(hid:E.id<E.n)(m:MD)(hM:MF x w m)(hk:m.kind=2)(ff:nU E.f (nA m))(z:Int)(K':KS)(v':ql)(a:Kj)(hv:sP E (nA m) z (K,d.val)=some ((K',v'),a)):
  Y 120 #[gx,.agg (oM m).toArray,U z] w fun e w'=>e= .returned (U a.num)/\Kt x w w' E gx b d K K' v':=by
 obtain⟨kind,sender,view,inst,seq,res,ba,bn,bc,bs,va,vn,vc,vs,ca,cn,cc,cs,pa,pc⟩:=m;simp only at hk;subst hk;obtain⟨H,HX,vB,HM,U3⟩:=j5 h hx hn hM hid;obtain⟨hs0,r,hr⟩:=ff.k12 (by simp[nA]);rw[Rx (by simp[nA]) hr] at hv;replace hs0:0<=sender:=hs0;replace hr:bs= [r]:=hr;have HV:=jj hv;have HR:=jj hr;have HS:Hid (sender=(sender.toNat:Int)):=jj lK;clear hv hr hs0;clear h hx hn hM hid ff;show Y 120 #[gx,.agg #[U 2,U sender,U view,U inst,U seq,U res,.slice ba bn bc,.slice va vn vc,.slice ca cn cc,.slice pa 0 pc],U z] w _;go_enter func120,ntmps120
 go_upto_region 1 with fail
 generalize hw1:w.alloc _=w1;generalize hgm:w.heap.size=gm;replace hw1:=hw1.symm;replace hgm:=hgm.symm;obtain⟨B1,X1⟩:=nw hw1 hgm;clear hw1 hgm;have H1:=jj (H.below B1);have M1:=jj (HM.below B1);have YU:Hid (x<w1.heap.size):=jj (aB HX B1.size);obtain⟨y0,y1,y2,y3,y4,y5,y6,y7,y8,y9⟩:=X1.zA
 go_wp2_with fail
 refine(Us x w1 E gx b d K H1 YU h1 h4 vB ⟨2,sender,view,inst,seq,res,ba,bn,bc,bs,va,vn,vc,vs,ca,cn,cc,cs,pa,pc⟩ M1 rfl sender.toNat HS r U3 HR K' v' a HV).mono ?_;rintro e w2 ⟨he,d2,hst,hfx,hval⟩;replace he:e= .returned (U a.num):=by rw[he];cases a<;>rfl
 subst he
 go_wp2_with fail
 go_ret;exact⟨by trivial,d2,(H.step B1).trans hst,hfx,hval⟩
theorem aeh(x:Nat)(w:World)(E:Who)(gx b:Nat)(d:lU)(K:KS)(h:qE x w E.f E.n E.id gx b d K)(hx:x<w.heap.size)(h1:1<=E.f)(h4:E.f<=4)(hn:(E.n:Int)=3*E.f+1)(hid:E.id<E.n)(m:MD)(hM:MF x w m)(hk:m.kind=3)(ff:nU E.f (nA m))(z:Int)(K':KS)(v':ql)(a:Kj)(hv:sP E (nA m) z (K,d.val)=some ((K',v'),a)):
  Y 120 #[gx,.agg (oM m).toArray,U z] w fun e w'=>e= .returned (U a.num)/\Kt x w w' E gx b d K K' v':=by
 obtain⟨kind,sender,view,inst,seq,res,ba,bn,bc,bs,va,vn,vc,vs,ca,cn,cc,cs,pa,pc⟩:=m;simp only at hk;subst hk;obtain⟨H,HX,vB,HM,U3⟩:=j5 h hx hn hM hid;obtain⟨⟨i0,i1⟩,q0,q1⟩:=ff.ahk (by simp[nA]);replace i0:0<=inst:=i0;replace i1:inst<=E.f:=i1;replace q0:1<=seq:=q0;replace q1:seq<=16:=q1;have xO:inst.toNat<=16:=lK;have xM:(seq -1).toNat<16:=lK;rw[aeL rfl] at hv;have HV:=jj hv;clear hv i0 i1 q0 q1;clear h hx hn hM hid ff;show Y 120 #[gx,.agg #[U 3,U sender,U view,U inst,U seq,U res,.slice ba bn bc,.slice va vn vc,.slice ca cn cc,.slice pa 0 pc],U z] w _;go_enter func120,ntmps120
 go_upto_region 1 with fail
 generalize hw1:w.alloc _=w1;generalize hgm:w.heap.size=gm;replace hw1:=hw1.symm;replace hgm:=hgm.symm;obtain⟨B1,X1⟩:=nw hw1 hgm;clear hw1 hgm;have H1:=jj (H.below B1);have M1:=jj (HM.below B1);have YU:Hid (x<w1.heap.size):=jj (aB HX B1.size);obtain⟨y0,y1,y2,y3,y4,y5,y6,y7,y8,y9⟩:=X1.zA
 go_wp2_with fail
 refine(Yd x w1 E gx b d K H1 YU h1 h4 vB ⟨3,sender,view,inst,seq,res,ba,bn,bc,bs,va,vn,vc,vs,ca,cn,cc,cs,pa,pc⟩ M1 inst.toNat (seq -1).toNat xO xM K' v' a HV).mono ?_;rintro e w2 ⟨rfl,rfl,d2,hst,hfx,hval⟩
 go_wp2_with fail
 go_ret;exact⟨by trivial,d2,(H.step B1).trans hst,hfx,hval⟩
theorem aei(x:Nat)(w:World)(E:Who)(gx b:Nat)(d:lU)(K:KS)(h:qE x w E.f E.n E.id gx b d K)(hx:x<w.heap.size)(h1:1<=E.f)(h4:E.f<=4)(hn:(E.n:Int)=3*E.f+1)(hid:E.id<E.n)(m:MD)(hM:MF x w m)(hk:m.kind=4)(ff:nU E.f (nA m))(z:Int)(K':KS)(v':ql)(a:Kj)(hv:sP E (nA m) z (K,d.val)=some ((K',v'),a)):
  Y 120 #[gx,.agg (oM m).toArray,U z] w fun e w'=>e= .returned (U a.num)/\Kt x w w' E gx b d K K' v':=by
 obtain⟨kind,sender,view,inst,seq,res,ba,bn,bc,bs,va,vn,vc,vs,ca,cn,cc,cs,pa,pc⟩:=m;simp only at hk;subst hk;obtain⟨H,HX,vB,HM,U3⟩:=j5 h hx hn hM hid;obtain⟨⟨i0,i1⟩,q0,q1⟩:=ff.ahk (by simp[nA]);replace i0:0<=inst:=i0;replace i1:inst<=E.f:=i1;have xO:inst.toNat<=16:=lK;rw[Ry (by simp[nA])] at hv;have HV:=jj hv;clear hv i0 i1 q0 q1;clear h hx hn hM hid ff;show Y 120 #[gx,.agg #[U 4,U sender,U view,U inst,U seq,U res,.slice ba bn bc,.slice va vn vc,.slice ca cn cc,.slice pa 0 pc],U z] w _;go_enter func120,ntmps120
 go_upto_region 1 with fail
 generalize hw1:w.alloc _=w1;generalize hgm:w.heap.size=gm;replace hw1:=hw1.symm;replace hgm:=hgm.symm;obtain⟨B1,X1⟩:=nw hw1 hgm;clear hw1 hgm;have H1:=jj (H.below B1);have M1:=jj (HM.below B1);have YU:Hid (x<w1.heap.size):=jj (aB HX B1.size);obtain⟨y0,y1,y2,y3,y4,y5,y6,y7,y8,y9⟩:=X1.zA
 go_wp2_with fail
 refine(QT x w1 E gx b d K H1 YU h1 h4 vB ⟨4,sender,view,inst,seq,res,ba,bn,bc,bs,va,vn,vc,vs,ca,cn,cc,cs,pa,pc⟩ M1 z sender.toNat inst.toNat (seq -1).toNat xO K' v' a HV).mono ?_;rintro e w2 ⟨rfl,rfl,d2,hst,hfx,hval⟩
 go_wp2_with fail
 go_ret;exact⟨by trivial,d2,(H.step B1).trans hst,hfx,hval⟩
theorem aej(x:Nat)(w:World)(E:Who)(gx b:Nat)(d:lU)(K:KS)(h:qE x w E.f E.n E.id gx b d K)(hx:x<w.heap.size)(h1:1<=E.f)(h4:E.f<=4)(hn:(E.n:Int)=3*E.f+1)(hid:E.id<E.n)(m:MD)(hM:MF x w m)(hk:m.kind=5)(ff:nU E.f (nA m))(z:Int)(K':KS)(v':ql)(a:Kj)(hv:sP E (nA m) z (K,d.val)=some ((K',v'),a)):
  Y 120 #[gx,.agg (oM m).toArray,U z] w fun e w'=>e= .returned (U a.num)/\Kt x w w' E gx b d K K' v':=by
 obtain⟨kind,sender,view,inst,seq,res,ba,bn,bc,bs,va,vn,vc,vs,ca,cn,cc,cs,pa,pc⟩:=m;simp only at hk;subst hk;obtain⟨H,HX,vB,HM,U3⟩:=j5 h hx hn hM hid;obtain⟨⟨i0,i1⟩,q0,q1⟩:=ff.ahk (by simp[nA]);replace i0:0<=inst:=i0;replace i1:inst<=E.f:=i1;have xO:inst.toNat<=16:=lK;rw[Ry (by simp[nA])] at hv;have HV:=jj hv;clear hv i0 i1 q0 q1;clear h hx hn hM hid ff;show Y 120 #[gx,.agg #[U 5,U sender,U view,U inst,U seq,U res,.slice ba bn bc,.slice va vn vc,.slice ca cn cc,.slice pa 0 pc],U z] w _;go_enter func120,ntmps120
 go_upto_region 1 with fail
 generalize hw1:w.alloc _=w1;generalize hgm:w.heap.size=gm;replace hw1:=hw1.symm;replace hgm:=hgm.symm;obtain⟨B1,X1⟩:=nw hw1 hgm;clear hw1 hgm;have H1:=jj (H.below B1);have M1:=jj (HM.below B1);have YU:Hid (x<w1.heap.size):=jj (aB HX B1.size);obtain⟨y0,y1,y2,y3,y4,y5,y6,y7,y8,y9⟩:=X1.zA
 go_wp2_with fail
 refine(QT x w1 E gx b d K H1 YU h1 h4 vB ⟨5,sender,view,inst,seq,res,ba,bn,bc,bs,va,vn,vc,vs,ca,cn,cc,cs,pa,pc⟩ M1 z sender.toNat inst.toNat (seq -1).toNat xO K' v' a HV).mono ?_;rintro e w2 ⟨rfl,rfl,d2,hst,hfx,hval⟩
 go_wp2_with fail
 go_ret;exact⟨by trivial,d2,(H.step B1).trans hst,hfx,hval⟩
theorem aek(x:Nat)(w:World)(E:Who)(gx b:Nat)(d:lU)(K:KS)(h:qE x w E.f E.n E.id gx b d K)(hx:x<w.heap.size)(h1:1<=E.f)(h4:E.f<=4)(hn:(E.n:Int)=3*E.f+1)(hid:E.id<E.n)(m:MD)(hM:MF x w m)(hk:m.kind=9)(ff:nU E.f (nA m))(z:Int)(K':KS)(v':ql)(a:Kj)(hv:sP E (nA m) z (K,d.val)=some ((K',v'),a)):
  Y 120 #[gx,.agg (oM m).toArray,U z] w fun e w'=>e= .returned (U a.num)/\Kt x w w' E gx b d K K' v':=by
 obtain⟨kind,sender,view,inst,seq,res,ba,bn,bc,bs,va,vn,vc,vs,ca,cn,cc,cs,pa,pc⟩:=m;simp only at hk;subst hk;obtain⟨H,HX,vB,HM,U3⟩:=j5 h hx hn hM hid;obtain⟨c,hc⟩:=acf (M:=nA _) rfl hv;rw[aeM rfl hc] at hv;obtain⟨cd,hcs,hcd⟩: ∃cd,cs= [cd]/\pz cd=c:=by
  replace hc:cs.map pz= [c]:=hc
  cases cs with
  |nil=>simp at hc
  |cons q l=>cases l with
   |nil=>
    simp only[bV,fu,gT,iY] at hc;exact⟨q,rfl,hc⟩
   |cons q' l=>simp at hc
 rw[<-hcd] at hv;subst hcs;obtain⟨rfl,g0,off,rfl,a0,a1,a2,a3,a4⟩:=adq hM.c;have CF0:Hid (CF x w cd):=jj (hM.c.is cd lT);have HV:=jj hv;have A:=jj (⟨a0,a1,a2,a3,a4⟩:_/\_/\_/\_/\_);clear a0 a1 a2 a3 a4 hcd;clear h hx hn hM hid ff;show Y 120 #[gx,.agg #[U 9,U sender,U view,U inst,U seq,U res,.slice ba bn bc,.slice va vn vc,.slice (some ⟨g0,off,none⟩) 1 cc,.slice pa 0 pc],U z] w _;go_enter func120,ntmps120
 go_upto_region 1 with fail
 generalize hw1:w.alloc _=w1;generalize hgm:w.heap.size=gm;replace hw1:=hw1.symm;replace hgm:=hgm.symm;obtain⟨B1,X1⟩:=nw hw1 hgm;clear hw1 hgm;have H1:=jj (H.below B1);have M1:=jj (HM.below B1);have YU:Hid (x<w1.heap.size):=jj (aB HX B1.size);obtain⟨y0,y1,y2,y3,y4,y5,y6,y7,y8,y9⟩:=X1.zA;have b0:=kept B1 _ _ A.1;have b1:=kept B1 _ _ A.2.1;have b2:=kept B1 _ _ A.2.2.1;have b3:=kept B1 _ _ A.2.2.2.1;have b4:=kept B1 _ _ A.2.2.2.2
 go_wp2_with fail
 refine(abm x w1 E gx b d K H1 YU h1 h4 cd (CF0.below B1) (K',v') a HV).mono ?_;rintro e w2 ⟨rfl,rfl,hS,hb⟩;simp only[aM] at hS;obtain⟨rfl,rfl⟩:=hS
 go_wp2_with fail
 go_ret;exact⟨by trivial,d,(H.step B1).below hb,Fix.refl d,rfl⟩
theorem ael(x:Nat)(w:World)(E:Who)(gx b:Nat)(d:lU)(K:KS)(h:qE x w E.f E.n E.id gx b d K)(hx:x<w.heap.size)(h1:1<=E.f)(h4:E.f<=4)(hn:(E.n:Int)=3*E.f+1)(hid:E.id<E.n)(m:MD)(hM:MF x w m)(ff:nU E.f (nA m))(z:Int)(K':KS)(v':ql)(a:Kj)(hv:sP E (nA m) z (K,d.val)=some ((K',v'),a)):
  Y 120 #[gx,.agg (oM m).toArray,U z] w fun e w'=>e= .returned (U a.num)/\Kt x w w' E gx b d K K' v':=by
 have hk:m.kind=1\/m.kind=2\/m.kind=3\/m.kind=4\/m.kind=5\/m.kind=9:=ff.kinds;rcases hk with hk|hk|hk|hk|hk|hk
 ·exact aef x w E gx b d K h hx h1 h4 hn hid m hM hk ff z K' v' a hv
 ·exact aeg x w E gx b d K h hx h1 h4 hn hid m hM hk ff z K' v' a hv
 ·exact aeh x w E gx b d K h hx h1 h4 hn hid m hM hk ff z K' v' a hv
 ·exact aei x w E gx b d K h hx h1 h4 hn hid m hM hk ff z K' v' a hv
 ·exact aej x w E gx b d K h hx h1 h4 hn hid m hM hk ff z K' v' a hv
 exact aek x w E gx b d K h hx h1 h4 hn hid m hM hk ff z K' v' a hv
theorem Ya{id:Nat}(h:qE x w f n id gx b d K)(hx:x<w.heap.size)(k j:Nat)(i:Ba)(p:uo)(hp:d.val.pl k j=some (i,p))(gi:Nat)(hgi:d.is[k]?.map Prod.fst=some gi)(z:Int)(hz:z=(j:Int)+1):
  Y 230 #[gi,U z] w fun e w'=> ∃a m c,e= .returned (.tuple #[.slice a m c,p.has])/\(p.has=true->sK x w' a m c p.b)/\Be w w':=by
 obtain⟨g,I,P,e1,e2,rfl,rfl⟩:=sQ hp;rw[e1] at hgi;injection hgi with hgi;subst hgi;cases hh:P.sl.has
 ·refine(TY (h.inst e1) j P e2 hh z hz).mono ?_
  rintro e w' ⟨rfl,rfl⟩;exact⟨none,0,0,by simp[qm.val,hh],fun hq=>by simp[qm.val,hh] at hq,aC _ _⟩
 refine(Me (h.inst e1) j P e2 hh z hz hx).mono ?_;rintro e w' ⟨a',c',rfl,hr,_,hb⟩;exact⟨a',_,c',by simp[qm.val,hh],fun _=>hr,hb⟩
theorem Yb{id:Nat}(h:qE x w f n id gx b d K)(hx:x<w.heap.size)(k j:Nat)(i:Ba)(p:uo)(hp:d.val.pl k j=some (i,p))(gi:Nat)(hgi:d.is[k]?.map Prod.fst=some gi)(z:Int)(hz:z=(j:Int)+1):
  Y 174 #[gi,U z] w fun e w'=> ∃c0 c1 c2 ba bn bc va vn vc,e= .returned (.tuple #[.agg #[U c0,U c1,U c2,.slice ba bn bc,.slice va vn vc],p.done.isSome])/\Be w w':=by
 obtain⟨g,I,P,e1,e2,rfl,rfl⟩:=sQ hp;rw[e1] at hgi;injection hgi with hgi;subst hgi;cases hh:P.done
 ·refine(KF (h.inst e1) j P e2 hh z hz hx).mono ?_
  rintro e w' ⟨rfl,hb⟩;exact⟨0,0,0,none,0,0,none,0,0,by simp[qm.val,hh],hb⟩
 refine(Dt (h.inst e1) j P e2 hh z hz hx).mono ?_;rintro e w' ⟨a6,k6,a7,k7,rfl,_,hb⟩;exact⟨_,_,_,_,_,_,_,_,_,by simp[qm.val,hh];rfl,hb⟩
theorem abp(x:Nat)(w:World)(f:Int)(n id gx b:Nat)(d:lU)(K:KS)(h:qE x w f n id gx b d K)(hx:x<w.heap.size)(k:Nat)(xO:k<=16)(i:Ba)(hi:d.val.is[k]?=some i)(hon:i.on=true)(hc:Vq i.ps)(hl:i.ps.length=16):
  Y 172 #[gx,U k] w fun e w'=>e= .returned (.tuple #[])/\Be w w':=by
 obtain⟨gi,I,hI,hIv⟩:=qd hi;have hgi:d.is[k]?.map Prod.fst=some gi:=by rw[hI];rfl
 have k0:(0:Int)<=k:=lK;have k1:(k:Int)<d.is.length:=by have:=zZ hI;omega
 have c18:=h.blk.at_ 18;have Sk:=h.ptr hI;obtain⟨H,HX,HI,HG,PI,HC⟩:=j6 h hx hi hgi hon hc;have HL:=jj hl;clear h hx hi hgi hI hIv hon hc hl;go_enter func172,ntmps172
 go_wp2_with fail
 refine(rV H k i HI gi HG).mono ?_;rintro e w' ⟨rfl,rfl⟩;rw[PI.out]
 go_wp2_with fail
 go_loopw [5] (fun q wr=> ∃s:Nat,1<=s/\s<=17/\q= U s/\Be w wr) (fun q _=>17 -(intOf q).toNat)
 case atStart=>exact⟨1,lK,lK,by first|rfl|simp,aC _ _⟩
 case round=>
  obtain⟨s,hs1,avw,rfl,hb⟩:=hrel;have BW:=jj hb;have HW:=jj (H.below hb);have WZ:Hid (x<wr.heap.size):=jj (aB HX hb.size);clear hb c18 Sk;by_cases hs:s<=16
  ·have s1:(s:Int)<=16:=lK
   have e2:IntKind.i64.wrap ((s:Int)+1)=(s:Int)+1:=aH _ lK;obtain⟨p,hp⟩: ∃p,i.ps[s -1]?=some p:=⟨_,aj (tL HL.out)⟩;have hpl:d.val.pl k (s -1)=some (i,p):=by
    unfold ql.pl;rw[HI.out];simp[hp]
   have HPL:=jj hpl;have calm:Hid (p.has=true->p.done.isSome=true):=jj (HC.out p (ak hp));have SZ:Hid ((s:Int)=((s -1:Nat):Int)+1):=jj lK;clear hpl hp
   go_wp2_with fail
   refine(Ya HW WZ k (s -1) i p HPL gi HG s SZ).mono ?_;rintro e w1 ⟨a,m,c,rfl,_,hb1⟩;have B1:=jj hb1;clear hb1
   go_wp2_with fail
   refine(Yb (HW.below B1) (aB WZ B1.size) k (s -1) i p HPL gi HG s SZ).mono ?_;rintro e w2 ⟨c0,c1,c2,ba,bn,bc,va,vn,vc,rfl,hb2⟩;have B2:=jj (BW.trans ((B1.trans (hb2.mono B1.size)).mono BW.size));clear hb2;have cm:=calm.out;cases hh:p.has
   ·go_upto_region 7 with fail
    generalize hw3:w2.alloc _=w3;replace hw3:=hw3.symm;have B3:=GN B2 hw3;clear hw3
    go_wp2_with fail
    go_roundw
    case rel=>exact⟨s+1,lK,lK,by go_num,B3⟩
    simp[intOf];omega
   rw[cm hh]
   go_upto_region 7 with fail
   generalize hw3:w2.alloc _=w3;replace hw3:=hw3.symm;have B3:=GN B2 hw3;clear hw3
   go_wp2_with fail
   go_roundw
   case rel=>exact⟨s+1,lK,lK,by go_num,B3⟩
   simp[intOf];omega
  have s1: ¬(s:Int)<=16:=lK
  go_wp2_with fail
  go_end0
  exact⟨by trivial,BW⟩
theorem ahs(x:Nat)(w:World)(f:Int)(n id gx b:Nat)(d:lU)(K:KS)(h:qE x w f n id gx b d K)(hl:d.is.length<=16)(hon: ∀i∈d.val.is,i.on=true):
  Y 173 #[gx] w fun e w'=>e= .returned true/\w=w':=by
 have c18:=h.blk.at_ 18;have H:=jj h;have PI:=jj hon;obtain⟨n0,hn0⟩:=ex d.is.length;have HN:=jj hn0;rw[<-hn0] at c18 hl;clear h hon hn0;go_enter func173,ntmps173
 go_wp2_with fail
 go_loopw [10] (fun q wr=> ∃i:Nat,i<=n0/\q= U i/\wr=w) (fun q _=>n0 -(intOf q).toNat)
 case atStart=>exact⟨0,lK,by first|rfl|simp,by trivial⟩
 case round=>
  obtain⟨i,hi,rfl,rfl⟩:=hrel;by_cases hlt:i<n0
  ·have i1:(i:Int)<n0:=lK
   have i0:(0:Int)<=i:=lK;have e2:IntKind.i64.wrap ((i:Int)+1)=(i:Int)+1:=aH _ lK;obtain⟨⟨g,I⟩,hI⟩: ∃p,d.is[i]?=some p:=⟨_,aj (tL HN.out)⟩;have cg:=H.ptr hI;have hiv:d.val.is[i]?=some I.val:=by simp[lU.val,hI]
   have hgi:d.is[i]?.map Prod.fst=some g:=by rw[hI];rfl
   have ON:Hid (I.val.on=true):=jj (PI.out _ (ak hiv));have SA:=jj hiv;have HG:=jj hgi;clear hiv hgi hI
   go_wp2_with fail
   refine(rV H i I.val SA g HG).mono ?_;rintro e w' ⟨rfl,rfl⟩;rw[ON.out]
   go_wp2_with fail
   go_roundw
   case rel=>exact⟨i+1,lK,by go_num,by trivial⟩
   simp[intOf];omega
  obtain rfl:i=n0:=lK;have i1: ¬(i:Int)<i:=lK
  go_wp2_with fail
  go_ret;exact⟨by trivial,by trivial⟩
def zy:List Value:= [U 0,U 0,U 0,U 0,U 0,U 0,U 0,(),(),(),()]
theorem Xq(m i j:Nat)(hi:i<m)(hj:j<11):(List.flatten (List.replicate m zy))[i*11+j]?=zy[j]?:=by
 have key: ∀(m i:Nat),i<m->(List.flatten (List.replicate m zy))[i*11+j]?=zy[j]?:=by
  intro m
  induction m with
  |zero=>intro i hi;omega
  |succ m ih=>
   intro i hi;rw[List.replicate_succ,List.flatten_cons];have hl:zy.length=11:=rfl
   cases i with
   |zero=>rw[bC (by rw[hl];omega)];simp
   |succ i=>
    rw[bN (by rw[hl];omega),hl,show(i+1)*11+j -11=i*11+j by omega];exact ih i lK
 exact key m i hi
theorem Xr(m:Nat):(List.flatten (List.replicate m zy)).length=m*11:=by
 induction m with
 |zero=>rfl
 |succ m ih=>rw[List.replicate_succ,List.flatten_cons,av,ih,show zy.length=11 from rfl];omega
structure Ku(w w':World)(a:OA)(m c:Nat)(l:List Rq):Prop where
 own:w'.ownsRow w.heap.size 49 6 (.slice a m c) m (l.flatMap rA)
 len:l.length=m
theorem Ku.below(h:Ku w w1 a m c l)(hb:Be w1 w2):Ku w w2 a m c l:=⟨own_below h.own hb,h.len⟩
theorem Ku.step{L L':List ni}(h:Ku w w1 a m c l)(hx:x<w.heap.size)(hs:Sys x w1 L)(st:Step x w1 w2 L L'):Ku w w2 a m c l:=⟨abx h.own hx lN hs st,h.len⟩
theorem Ku.row(h:Ku w w1 a m c l):qc w1 a m c l:=⟨l9 h.own,h.len,qB h.own,uO h.own⟩
theorem aeH(now:Int)(h0:0<=now)(h1:now<=1000000)(dn:Nat)(hd:0<dn)(h16:dn<=16):IntKind.i64.wrap (1+(IntKind.i64.wrap (now.tdiv 2)).tmod dn)=((now.toNat/2%dn:Nat):Int)+1:=by
 obtain⟨m,rfl⟩:=bB h0;have e1:((m:Int)).tdiv 2=((m/2:Nat):Int):=Int.ofNat_tdiv m 2;have hlt:m/2%dn<dn:=ji _ hd;have w1:IntKind.i64.wrap ((m/2:Nat):Int)=((m/2:Nat):Int):=aH _ lK;rw[e1,w1];have e2:((m/2:Nat):Int).tmod (dn:Int)=((m/2%dn:Nat):Int):=Int.ofNat_tmod (m/2) dn;rw[e2,aH _ lK,Int.toNat_natCast];omega
theorem aa9(x:Nat)(w:World)(E:Who)(gx b:Nat)(d:lU)(K:KS)(h:qE x w E.f E.n E.id gx b d K)(hx:x<w.heap.size)(h1:1<=E.f)(h4:E.f<=4)(hn:(E.n:Int)=3*E.f+1)(hid:E.id<E.n)(K':KS)(v':ql)(hv:EB E (K,d.val)=some (K',v')):
  Y 125 #[gx] w fun e w'=>e= .returned (.tuple #[])/\Kt x w w' E gx b d K K' v':=by
 unfold EB at hv;simp only[aA] at hv;obtain⟨u,hu,⟨K1,v1⟩,hpf,htl⟩:=hv;have af:=mI hu;obtain⟨n0,hn0⟩:=ex d.is.length;have AZ:=jj hn0;have isl:d.val.is.length=n0:=by rw[hn0];simp[lU.val]
 have n5:n0<=5:=by have:=af.n;rw[isl] at this;omega
 obtain⟨AF,H,HX,vB,U3⟩:=j5 af h hx hn hid;have HPF:Hid (wX E n0 0 (K,d.val)=some (K1,v1)):=jj (by rw[<-isl];exact hpf);have HTL:=jj htl;have hvw:d.view=0:=af.v;have hvo:d.vk≠0:=af.vk;have HVW:=jj hvw;have HVO:=jj hvo;have BCS:Hid (d.vZ=List.flatten (List.replicate n0 zy)):=jj (by have:=af.vZ;rw[isl] at this;exact this);have c18:J w gx 18 (O d.gr n0 d.rX):=by rw[hn0];exact h.blk.cell 18
 clear h hx hn hid hu hpf htl af hvw hvo isl hn0;go_enter func125,ntmps125
 go_wp2_with fail
 go_loopw [18] (fun q wr=> ∃i:Nat,i<=n0/\q= U i/\Be w wr) (fun q _=>n0 -(intOf q).toNat)
 case atStart=>exact⟨0,lK,by first|rfl|simp,aC _ _⟩
 case round=>
  obtain⟨i,hi,rfl,hb⟩:=hrel;have BW:=jj hb;have HW:=jj (H.below hb);have WZ:Hid (x<wr.heap.size):=jj (aB HX hb.size);clear hb c18;by_cases hlt:i<n0
  ·have i1:(i:Int)<n0:=lK
   have e2:IntKind.i64.wrap ((i:Int)+1)=(i:Int)+1:=aH _ lK;obtain⟨iv,hiv⟩: ∃iv,d.val.is[i]?=some iv:=⟨_,aj (by have:=AZ.out;simp[lU.val];omega)⟩;have ON:Hid (iv.on=true/\Vq iv.ps/\iv.ps.length=16):=jj (AF.on iv (ak hiv));have SA:=jj hiv;clear hiv
   go_wp2_with fail
   refine(abp x wr E.f E.n E.id gx b d K HW WZ i lK iv SA ON.1 ON.2.1 ON.2.2).mono ?_;rintro e w2 ⟨rfl,hb2⟩;have B2:=nO BW hb2;clear hb2
   go_wp2_with fail
   go_roundw
   case rel=>exact⟨i+1,lK,by go_num,B2⟩
   simp[intOf];omega
  obtain rfl:i=n0:=lK;have i1: ¬(i:Int)<i:=lK
  go_upto_region 5 with fail
  have KS5:Hid (J wr.drew gx 30 (U d.vk)/\J wr.drew gx 29 (U 0)):=jj ⟨HW.blk.drew.cell 30,by rw[<-HVW.out];exact HW.blk.drew.cell 29⟩;refine rP (fun u=>J u gx 30 (U d.vk)/\J u gx 29 (U 0)) 9 (tk 0 9 .done) KS5 ?_;intro hS0;obtain⟨w1,hw1⟩:=ex wr.drew;have B1:Hid (Be w w1):=jj (by rw[hw1];exact BW.drew);rw[<-hw1] at hS0|-;clear hw1;have nvo:=HVO.out
  repeat refine' tT ?_
  refine lM ?_;clear hS0 KS5;have H1:=jj (H.below B1);have YU:Hid (x<w1.heap.size):=jj (aB HX B1.size)
  go_wp2_with fail
  refine(ahs x w1 E.f E.n E.id gx b d K H1 (tL AZ.out) (fun iv hiv=>(AF.on iv hiv).1)).mono ?_;rintro e w2 ⟨rfl,rfl⟩;have bl:d.vZ.length/11=i:=by rw[BCS.out,Xr];omega
  have c25:J w1 gx 25 (O d.gb i i):=by rw[<-bl];exact H1.blk.cell 25
  clear nvo
  go_wp2_with fail
  go_loopw [71] (fun q wr=> ∃j:Nat,j<=i/\q= U j/\Be w1 wr) (fun q _=>i -(intOf q).toNat)
  case atStart=>exact⟨0,lK,by first|rfl|simp,aC _ _⟩
  case round=>
   obtain⟨j,hj,rfl,hb⟩:=hrel;have BW2:=jj hb;have HW2:=jj (H1.below hb);clear hb c25;by_cases hjl:j<i
   ·have j1:(j:Int)<i:=lK
    have j0:(0:Int)<=j:=lK;have e2:IntKind.i64.wrap ((j:Int)+1)=(j:Int)+1:=aH _ lK;have bc: ∀q,q<11->wr.cell? ⟨d.gb,j*11+q,none⟩=zy[q]?:=fun q hq=>by
     rw[HW2.begun.cell (j*11+q),cZ,BCS.out];exact Xq i j q hjl hq
    have a0:J wr d.gb (j*11) (U 0):=bc 0 lK;have a1:J wr d.gb (j*11+1) (U 0):=bc 1 lK;have a2:J wr d.gb (j*11+2) (U 0):=bc 2 lK;have a3:J wr d.gb (j*11+3) (U 0):=bc 3 lK;have a4:J wr d.gb (j*11+4) (U 0):=bc 4 lK;have a5:J wr d.gb (j*11+5) (U 0):=bc 5 lK;have a6:J wr d.gb (j*11+6) (U 0):=bc 6 lK;have a7:J wr d.gb (j*11+7) ():=bc 7 lK;have a8:J wr d.gb (j*11+8) ():=bc 8 lK;have a9:J wr d.gb (j*11+9) ():=bc 9 lK;have zA:J wr d.gb (j*11+10) ():=bc 10 lK;clear bc
    go_upto_region 13 with fail
    generalize hv1:wr.alloc _=v1;generalize hg1:wr.heap.size=g1;replace hv1:=hv1.symm;replace hg1:=hg1.symm;obtain⟨B2,X1⟩:=nw hv1 hg1;clear hv1 hg1 a0 a1 a2 a3 a4 a5 a6 a7 a8 a9 zA;have YT:=jj (HW2.below B2);have KS6:Hid (J v1.drew g1 0 (U 0)/\J v1.drew gx 29 (U 0)):=jj ⟨X1.drew.cell 0,by rw[<-HVW.out];exact YT.blk.drew.cell 29⟩;refine rP (fun u=>J u g1 0 (U 0)/\J u gx 29 (U 0)) 12 (tk 0 12 .done) KS6 ?_;intro hS0;obtain⟨v2,hv2⟩:=ex v1.drew;have B3:Hid (Be wr v2):=jj (by rw[hv2];exact B2.drew);rw[<-hv2] at hS0|-;clear hv2
    repeat refine' tT ?_
    refine lM ?_;clear hS0 KS6
    go_wp2_with fail
    go_roundw
    case rel=>exact⟨j+1,lK,by go_num,BW2.trans (B3.mono BW2.size)⟩
    simp[intOf];omega
   obtain rfl:j=i:=lK;have j1: ¬(j:Int)<j:=lK;have c18:J wr gx 18 (O d.gr j d.rX):=by rw[AZ.out];exact HW2.blk.cell 18
   have S2:=jj ((H.step B1).below BW2);obtain⟨w2,hw2⟩:=ex wr;rw[<-hw2] at S2 c18|-;clear hw2 HW2 BW2
   go_wp2_with fail
   go_loopw [97] (fun q wr=> ∃(i:Nat) (dW:lU) (KW:KS),i<=j/\q= U i/\mP x w wr E.f E.n E.id gx b d K dW KW/\Fix d dW/\dW.view=0/\dW.T=d.T/\dW.now=d.now/\wX E (j -i) i (KW,dW.val)=some (K1,v1)) (fun q _=>j -(intOf q).toNat)
   case atStart=>exact⟨0,d,K,lK,by first|rfl|simp,S2,Fix.refl d,HVW,rfl,rfl,HPF⟩
   case round=>
    obtain⟨i,dW,KW,hi,rfl,hst,hfx,hvw,hT,Oc,hpf⟩:=hrel;obtain⟨SW,HW,FX,VWW,TW,NW⟩:=j6 hst hst.sys hfx hvw hT Oc;have PF:=jj hpf;clear hst hfx hvw hT Oc hpf c18;by_cases hil:i<j
    ·have i1:(i:Int)<j:=lK
     have i0:(0:Int)<=i:=lK;have e2:IntKind.i64.wrap ((i:Int)+1)=(i:Int)+1:=aH _ lK;have hpf:=PF.out;rw[show j -i=(j -(i+1))+1 by omega,wX] at hpf;simp only[aA] at hpf;obtain⟨iv,hiv,⟨KX,vX⟩,hif,hpf⟩:=hpf;obtain⟨gi,I,hI,hIv⟩:=qd hiv;have hgi:dW.is[i]?.map Prod.fst=some gi:=by rw[hI];rfl
     have Sk:J wr d.gr i gi:=by rw[<-FX.gr];exact HW.ptr hI
     obtain⟨SA,HG,HIF,PF2⟩:=j4 hiv hgi hif hpf;have ag1:oh iv.ps<=16:=by
      have h1:I.ps.length=16:=(HW.inst hI).len;have h2:=Db iv.ps;rw[<-hIv] at h2|-;simp only[tJ.val,aT] at h2|-;omega
     clear hiv hgi hif hpf hI hIv PF
     go_wp2_with fail
     refine(Ov HW i iv SA gi HG).mono ?_;rintro e w3 ⟨rfl,rfl⟩;have hif:=HIF.out;clear HIF Sk;by_cases hd0:oh iv.ps=0
     ·rw[aV hd0] at hif
      injection hif with hif;injection hif with hf1 hf2;rw[hd0];have KXE:=jj hf1;have VXE:=jj hf2;clear hf1 hf2 hd0
      go_wp2_with fail
      go_roundw
      case rel=>exact⟨i+1,dW,KW,lK,by go_num,SW,FX,VWW,TW,NW,by rw[VXE.out,KXE.out];exact PF2.out⟩
      simp[intOf];omega
     have aoh:(0:Int)<(oh iv.ps:Int):=lK;have afp:0<oh iv.ps:=lK;rw[aU hd0] at hif;simp only[aA,aK] at hif;obtain⟨c,hc,⟨⟨KY,vY⟩,zY⟩,hsd,hxy⟩:=hif;obtain⟨HC,HSD,HXY⟩:=j3 hc hsd hxy;clear hc hsd hxy hd0;obtain⟨dn,hdn⟩:=ex (oh iv.ps);have HDN:=jj hdn;rw[<-hdn] at aoh afp ag1|-;clear hdn;have dn0: ¬dn=0:=lK
     go_upto_region 21 with fail
     have ZE:Hid (IntKind.i64.wrap (1+(IntKind.i64.wrap (d.now.tdiv 2)).tmod dn)=((d.now.toNat/2%dn:Nat):Int)+1):=jj (aeH d.now AF.now.1 AF.now.2 dn afp ag1);have HC':Hid (iv.ps[d.now.toNat/2%dn]?.bind uo.done=some c):=jj (by rw[HDN.out,<-NW.out];exact aA.2 HC);have WZ:Hid (x<wr.heap.size):=jj (aB HX SW.size)
     go_cut [9,10] from 105 to 123 (fun q9 q10 wx=>q10= .bool true/\ ∃(cd:CD) (gq:Nat),q9= .pointer (some ⟨gq,0,none⟩)/\pz cd=c/\lQ wx gq 228 #[U cd.view,U cd.inst,U cd.seq,.slice cd.ba cd.bn cd.bc,.slice cd.va cd.vn cd.vc]/\wr.heap.size<=gq/\CF x wx cd/\Be wr wx)
     case first=>
      have KS:Hid (∀u,Be wr u->J u gx 17 dW.gt/\J u gx 13 (U 2)):=jj fun u o=>⟨(HW.below o).blk.cell 17,(HW.below o).blk.cell 13⟩;refine rD (fun u=>J u gx 17 dW.gt/\J u gx 13 (U 2)) 22 (tk 0 5 (tk 6 5 (.take 12 (.two 5 (.take 11 (.take 13 (.take 14 (.two 15 (tk 16 3 (.one 19 (.one 20 (.take 21 .done)))) 19 (.one 15 (tk 16 3 (.one 20 (.take 21 .done)))))))) 19 (.one 5 (.take 11 (.take 13 (.take 14 (.one 15 (tk 16 3 (.one 20 (.take 21 .done)))))))))))) (KS.out _ (aC _ _).drew) fun v2 Bd hS0=> ?_
      repeat refine' tT ?_
      refine qN ?_ ?_
      ·refine pO fun KT lS=> ?_
       go_simp;refine(vF (HW.below Bd)).mono ?_;rintro e v3 ⟨rfl,rfl⟩;rw[NW.out];refine oH lS hS0 ?_
       repeat refine' tT ?_
       refine qN ?_ ?_
       ·refine pO fun KT lS=> ?_
        go_simp;rw[ZE.out];refine(tX (HW.below Bd) (aB WZ Bd.size) i (d.now.toNat/2%dn) iv SA c HC' gi HG _ rfl).mono ?_;rintro e v4 ⟨cd,rfl,hce,hcf,-,-,hb4⟩;have B4:=jj ((Bd).trans (hb4.mono (Bd).size));obtain⟨HB,amC,CE⟩:=j3 hb4 hcf hce;clear hcf hce hb4;have S4:=KS.out _ B4;rw[show(nS cd).toArray=#[U cd.view,U cd.inst,U cd.seq,.slice cd.ba cd.bn cd.bc,.slice cd.va cd.vn cd.vc] from rfl];refine oH lS S4 ?_;clear hS0;have hS0:=S4
        repeat refine' tT ?_
        refine pO fun KT lS=> ?_;go_simp;generalize hva:v4.alloc _=v5;generalize qP:v4.heap.size=gq;replace hva:=hva.symm;replace qP:=qP.symm;have X5:=xNew hva qP;have GQ:Hid (wr.heap.size<=gq):=jj (by rw[qP];exact(B4).size);have B5:Hid (Be wr v5):=jj (by rw[hva];exact(B4).alloc (B4).size _);have HVA:=jj hva;clear hva qP;have S5:=KS.out _ B5;refine oH lS S5 ?_;clear hS0;have hS0:=S5;have Ht:Hid (CF x v5 cd):=jj (amC.below (show Be v4 v5 by rw[HVA.out];exact nC))
        repeat refine' tT ?_
        refine pO fun KT lS=> ?_;have y0:=X5.at_ 0;have z0:=X5.frozen 0;have y1:=X5.at_ 1;have z1:=X5.frozen 1;have y2:=X5.at_ 2;have z2:=X5.frozen 2;have y3:=X5.at_ 3;have z3:=X5.frozen 3;have y4:=X5.at_ 4;have z4:=X5.frozen 4;go_simp;obtain⟨w9,mE⟩:=ex (setW v5 gq 0 [U cd.view,U cd.inst,U cd.seq,.slice cd.ba cd.bn cd.bc,.slice cd.va cd.vn cd.vc]);have K9:=jj (uL mE X5);have O9:=jj (vM mE);simp only[setW,aO,Nat.reduceAdd] at mE;rw[<-mE];clear mE y0 z0 y1 z1 y2 z2 y3 z3 y4 z4;have B9:Hid (Be wr w9):=jj (O9.below B5 B5.size (mR GQ.out));have CF9:Hid (CF x w9 cd):=jj (Ht.out.Aj O9 X5);have S9:=KS.out _ B9;refine oH lS S9 ?_;clear hS0;have hS0:=S9
        repeat refine' tT ?_
        refine lM ?_
        go_wp2_with fail
        go_meet;exact⟨rfl,cd,gq,rfl,CE,K9,GQ,CF9,B9⟩
       refine pO fun KT lS=> ?_;go_simp;generalize hva:v2.alloc _=v4;generalize qP:v2.heap.size=gq;replace hva:=hva.symm;replace qP:=qP.symm;have X4:=xNew hva qP;have GQ:Hid (wr.heap.size<=gq):=jj (by rw[qP];exact(Bd).size);have B4:Hid (Be wr v4):=jj (by rw[hva];exact(Bd).alloc (Bd).size _);have HVA:=jj hva;clear hva qP;have S5:=KS.out _ B4;refine oH lS S5 ?_;clear hS0;have hS0:=S5
       repeat refine' tT ?_
       refine pO fun KT lS=> ?_;go_simp;rw[ZE.out];refine(tX (HW.below B4) (aB WZ B4.size) i (d.now.toNat/2%dn) iv SA c HC' gi HG _ rfl).mono ?_;rintro e v5 ⟨cd,rfl,hce,hcf,-,-,hb4⟩;have B5:=jj ((B4).trans (hb4.mono (B4).size));obtain⟨HB,afX,CE⟩:=j3 hb4 hcf hce;clear hcf hce hb4;have S4:=KS.out _ B5;rw[show(nS cd).toArray=#[U cd.view,U cd.inst,U cd.seq,.slice cd.ba cd.bn cd.bc,.slice cd.va cd.vn cd.vc] from rfl];refine oH lS S4 ?_;clear hS0;have hS0:=S4;have X5:=jj (X4.below HB X4.lt);have Ht:=afX
       repeat refine' tT ?_
       refine pO fun KT lS=> ?_;have y0:=X5.at_ 0;have z0:=X5.frozen 0;have y1:=X5.at_ 1;have z1:=X5.frozen 1;have y2:=X5.at_ 2;have z2:=X5.frozen 2;have y3:=X5.at_ 3;have z3:=X5.frozen 3;have y4:=X5.at_ 4;have z4:=X5.frozen 4;go_simp;obtain⟨w9,mE⟩:=ex (setW v5 gq 0 [U cd.view,U cd.inst,U cd.seq,.slice cd.ba cd.bn cd.bc,.slice cd.va cd.vn cd.vc]);have K9:=jj (uL mE X5);have O9:=jj (vM mE);simp only[setW,aO,Nat.reduceAdd] at mE;rw[<-mE];clear mE y0 z0 y1 z1 y2 z2 y3 z3 y4 z4;have B9:Hid (Be wr w9):=jj (O9.below B5 B5.size (mR GQ.out));have CF9:Hid (CF x w9 cd):=jj (Ht.out.Aj O9 X5);have S9:=KS.out _ B9;refine oH lS S9 ?_;clear hS0;have hS0:=S9
       repeat refine' tT ?_
       refine lM ?_
       go_wp2_with fail
       go_meet;exact⟨rfl,cd,gq,rfl,CE,K9,GQ,CF9,B9⟩
      refine pO fun KT lS=> ?_;go_simp;generalize hva:v2.alloc _=v4;generalize qP:v2.heap.size=gq;replace hva:=hva.symm;replace qP:=qP.symm;have X4:=xNew hva qP;have GQ:Hid (wr.heap.size<=gq):=jj (by rw[qP];exact(Bd).size);have B4:Hid (Be wr v4):=jj (by rw[hva];exact(Bd).alloc (Bd).size _);have HVA:=jj hva;clear hva qP;have S5:=KS.out _ B4;refine oH lS S5 ?_;clear hS0;have hS0:=S5
      repeat refine' tT ?_
      refine pO fun KT lS=> ?_;go_simp;refine(vF (HW.below B4)).mono ?_;rintro e v3 ⟨rfl,rfl⟩;rw[NW.out];refine oH lS hS0 ?_
      repeat refine' tT ?_
      refine pO fun KT lS=> ?_;go_simp;rw[ZE.out];refine(tX (HW.below B4) (aB WZ B4.size) i (d.now.toNat/2%dn) iv SA c HC' gi HG _ rfl).mono ?_;rintro e v5 ⟨cd,rfl,hce,hcf,-,-,hb4⟩;have B5:=jj ((B4).trans (hb4.mono (B4).size));obtain⟨HB,afX,CE⟩:=j3 hb4 hcf hce;clear hcf hce hb4;have S4:=KS.out _ B5;rw[show(nS cd).toArray=#[U cd.view,U cd.inst,U cd.seq,.slice cd.ba cd.bn cd.bc,.slice cd.va cd.vn cd.vc] from rfl];refine oH lS S4 ?_;clear hS0;have hS0:=S4;have X5:=jj (X4.below HB X4.lt);have Ht:=afX
      repeat refine' tT ?_
      refine pO fun KT lS=> ?_;have y0:=X5.at_ 0;have z0:=X5.frozen 0;have y1:=X5.at_ 1;have z1:=X5.frozen 1;have y2:=X5.at_ 2;have z2:=X5.frozen 2;have y3:=X5.at_ 3;have z3:=X5.frozen 3;have y4:=X5.at_ 4;have z4:=X5.frozen 4;go_simp;obtain⟨w9,mE⟩:=ex (setW v5 gq 0 [U cd.view,U cd.inst,U cd.seq,.slice cd.ba cd.bn cd.bc,.slice cd.va cd.vn cd.vc]);have K9:=jj (uL mE X5);have O9:=jj (vM mE);simp only[setW,aO,Nat.reduceAdd] at mE;rw[<-mE];clear mE y0 z0 y1 z1 y2 z2 y3 z3 y4 z4;have B9:Hid (Be wr w9):=jj (O9.below B5 B5.size (mR GQ.out));have CF9:Hid (CF x w9 cd):=jj (Ht.out.Aj O9 X5);have S9:=KS.out _ B9;refine oH lS S9 ?_;clear hS0;have hS0:=S9
      repeat refine' tT ?_
      refine lM ?_
      go_wp2_with fail
      go_meet;exact⟨rfl,cd,gq,rfl,CE,K9,GQ,CF9,B9⟩
     case rest=>
      obtain⟨rfl,cd,gq,rfl,hce,qP,hge,hcf,hb⟩:=hcut;obtain⟨w4,hw4⟩:=ex wc;rw[<-hw4] at qP hcf hb|-;clear hw4;obtain⟨B4,X4,CF4,CE⟩:=j4 hb qP hcf hce;have H4:=jj (HW.below hb);have S4:=jj (SW.below hb);obtain⟨y0,y1,y2,y3,y4⟩:=X4.a5;clear qP hcf hb hce hge;obtain⟨w5,zM⟩:=ex (w4.alloc (.cells #[U cd.view,U cd.inst,U cd.seq,.slice cd.ba cd.bn cd.bc,.slice cd.va cd.vn cd.vc] 228));obtain⟨gs,hgs⟩:=ex w4.heap.size;obtain⟨B5,X5⟩:=nw zM hgs;have GS:Hid (x<gs):=jj (by rw[hgs];exact aB WZ B4.size);have H5:=jj (H4.below B5);have S5:=jj (S4.out.below B5);have Ht:=jj (CF4.below B5);have MF5:Hid (MF x w5 ⟨9,0,0,0,0,0,none,0,0,[],none,0,0,[],some ⟨gs,0,none⟩,1,1,[cd],none,0⟩):=jj ⟨sK.nil _ _,Ez.nil _ _,⟨mo.nR (n:=1) (s:=5) X5 rfl,rfl,aF _,by show 1<=maxLen;unfold maxLen;omega,fun q hq=>by
       simp only[au] at hq;subst hq;exact Ht.out,fun q hq=>by
       simp only[Option.map_some,aD] at hq;subst hq;exact⟨by have:=GS.out;omega,_,X5⟩⟩⟩
      have SEND:Hid (Y 170 #[gx,.agg #[U 9,U 0,U 0,U 0,U 0,U 0,(),(),O gs 1 1,()]] w5 fun e w'=>e= .returned (.tuple #[U zY,true])/\ ∃A' c' L,mP x w5 w' E.f E.n E.id gx b dW KW (dW.outs A' c' L) KY/\(dW.outs A' c' L).val=vY):=jj (GV x w5 E gx b dW KW H5 (aB HX S5.out.size) h1 h4 vB ⟨9,0,0,0,0,0,none,0,0,[],none,0,0,[],some ⟨gs,0,none⟩,1,1,[cd],none,0⟩ MF5 KY vY zY (by
       have e:=HSD.out;rw[<-CE.out] at e;exact e))
      have HW5:=jj zM;have HGS:=jj hgs;clear zM hgs
      go_wp2_with fail
      rw[<-HW5.out,<-HGS.out];refine SEND.mono ?_;rintro e w6 ⟨rfl,A',c',L,BM,Dr⟩;obtain⟨d6,hd6⟩:=ex (dW.outs A' c' L);rw[<-hd6] at BM Dr;have S6:=jj (S5.out.trans BM);have F6:Hid (Fix d d6):=jj (FX.trans (by rw[hd6];exact Fix.Bo _ _ _ _));have Q6:Hid (d6.view=0/\d6.T=d.T/\d6.now=d.now):=jj (by rw[hd6];exact⟨VWW,TW,NW⟩);have V6:=jj Dr;clear BM Dr hd6 y0 y1 y2 y3 y4
      go_wp2_with fail
      go_roundw
      case rel=>
       refine⟨i+1,d6,KY,lK,by go_num,S6,F6,Q6.1,Q6.2.1,Q6.2.2,?_⟩;have e:=HXY.out;injection e with e1 e2;rw[V6.out,e1,e2];exact PF2.out
      case measure=>simp[intOf];omega
    obtain rfl:i=j:=lK;have i1: ¬(i:Int)<i:=lK;have hpf:=PF.out;rw[fJ,wX] at hpf;injection hpf with hpf;injection hpf with hp1 hp2;have KE:=jj hp1;have VE:=jj hp2;have c19:=HW.blk.at_ 19;have T58:Hid (dW.T.length<=58):=jj (by rw[TW.out];exact AF.T);clear hp1 hp2 PF
    go_wp2_with fail
    refine(aeO HW.tab (tL T58.out)).mono ?_;rintro e w3 ⟨⟨a,m,c,rfl,hlen,how⟩,hb3⟩;have OW:=jj how;have HL:=jj hlen;have HM:Hid (m<=58):=jj (by rw[<-hlen,aT];exact T58.out);have S3:=jj (SW.below hb3);have TR3:Hid (Ku wr w3 a m c (dW.T.map oO.r)):=jj ⟨how,hlen⟩;have HXR:Hid (x<wr.heap.size):=jj (aB HX SW.size);have ai5:Hid (Fj E (dW.T.map oO.r) (KW,dW.val)=some (K',v')):=jj (by
     have e:=HTL.out;rw[<-KE.out,<-VE.out] at e;exact e)
    clear how hlen hb3 c19 HTL KE VE;obtain⟨rl,hrl⟩:=ex (dW.T.map oO.r);rw[<-hrl] at ai5 TR3 HL;clear hrl OW
    go_wp2_with fail
    go_loopw [136] (fun q wz=> ∃(i:Nat) (dZ:lU) (KZ:KS),i<=m/\q= U i/\mP x w wz E.f E.n E.id gx b d K dZ KZ/\Fix d dZ/\dZ.T.length<=58/\Fj E (rl.drop i) (KZ,dZ.val)=some (K',v')/\Ku wr wz a m c rl) (fun q _=>m -(intOf q).toNat)
    case atStart=>exact⟨0,dW,KW,lK,by first|rfl|simp,S3,FX,T58,by rw[jf];exact ai5.out,TR3⟩
    case round=>
     obtain⟨i,dZ,KZ,hi,rfl,hst,hfx,hT,htl,htr⟩:=hrel;obtain⟨SZ,HZ,FZ,TZ,TL,TR⟩:=j6 hst hst.sys hfx hT htl htr;clear hst hfx hT htl htr;by_cases hlt:i<m
     ·have i1:(i:Int)<m:=lK
      have i0:(0:Int)<=i:=lK;have e2:IntKind.i64.wrap ((i:Int)+1)=(i:Int)+1:=aH _ (tL HM.out);obtain⟨g,off,rfl,IE,x0,x1,x2,x3,x4,x5,hbx,a0,a1,a2,a3,a4,a5⟩:=TR.row.get (k:=i) hlt;have hdr:rl.drop i=(x0,x1,x2,x3,x4,x5)::rl.drop (i+1):=by
       obtain⟨hl,e⟩:=ah.1 hbx;rw[<-e];exact(dY hl).symm
      have htl:=TL.out;rw[hdr,Fj] at htl;simp only[aA] at htl;obtain⟨hh,hhas,⟨KV,vV⟩,hpv,htl⟩:=htl;obtain⟨amQ,HPV,TL2⟩:=j3 hhas hpv htl;clear htl hhas hpv hdr hbx TL
      go_upto_region 27 with fail
      generalize hu1:wr.alloc _=u1;generalize qP:wr.heap.size=gq;replace hu1:=hu1.symm;replace qP:=qP.symm;obtain⟨UW,X1⟩:=nw hu1 qP;clear hu1 qP a0 a1 a2 a3 a4 a5 IE;have KS:Hid (∀u,Be u1 u->J u gx 19 dZ.nH/\J u gx 15 (U E.id)/\J u gq 0 (U x0)/\J u gq 1 (U x1)/\J u gq 2 (U x2)/\J u gq 3 (U x3)/\J u gq 4 (U x4)/\J u gq 5 (U x5)):=jj fun u o=>by
       have hh:=(HZ.below UW).below o;have xx:=X1.below o X1.lt;exact⟨hh.blk.cell 19,hh.blk.cell 15,xx.cell 0,xx.cell 1,xx.cell 2,xx.cell 3,xx.cell 4,xx.cell 5⟩
      refine rD (fun u=>J u gx 19 dZ.nH/\J u gx 15 (U E.id)/\J u gq 0 (U x0)/\J u gq 1 (U x1)/\J u gq 2 (U x2)/\J u gq 3 (U x3)/\J u gq 4 (U x4)/\J u gq 5 (U x5)) 10 (tk 0 9 (.one 9 .done)) (KS.out _ (aC _ _).drew) fun u2 B2' hS0=> ?_
      repeat refine' tT ?_
      refine pO fun KT lS=> ?_;go_simp;refine(Jr ((HZ.below UW).below B2') (tL TZ.out) (x0,x1,x2,x3,x4,x5) E.id (VZ U3.out vB.out) hh amQ).mono ?_;rintro e u3 ⟨rfl,hb⟩;have B3':=nO B2' hb;clear hb;have S3':=KS.out _ B3';refine oH lS S3' ?_;clear hS0;have hS0:=S3'
      repeat refine' tT ?_
      refine lM ?_;clear hS0 S3';have BZ:=jj (UW.trans (B3'.mono UW.size));have HZ3:=jj (HZ.below BZ);have SZ3:=jj (SZ.below BZ);have ajy:=jj (TR.below BZ);have X3:=jj (X1.below B3' X1.lt);have hpv:=HPV.out;cases hh
      ·simp only[dz,gH,aD,aM] at hpv
       obtain⟨rfl,rfl⟩:=hpv;clear HPV
       go_wp2_with fail
       go_roundw
       case rel=>exact⟨i+1,dZ,KZ,lK,by go_num,SZ3,FZ,TZ,TL2,ajy⟩
       simp[intOf];omega
      simp only[fH] at hpv;have am0:=jj hpv;clear HPV hpv;obtain⟨y0,y1,y2,y3,y4,y5⟩:=X3.a6
      go_wp2_with fail
      refine(yV x u3 E gx b dZ KZ HZ3 (aB HX SZ3.size) h1 h4 vB (x0,x1,x2,x3,x4,x5) KV vV am0).mono ?_;rintro e u4 ⟨rfl,A',c',L,yu,BU⟩;obtain⟨d4,hd4⟩:=ex (dZ.outs A' c' L);rw[<-hd4] at yu BU;have S4:=jj (SZ3.trans yu);have F4:Hid (Fix d d4):=jj (FZ.trans (by rw[hd4];exact Fix.Bo _ _ _ _));have T4:Hid (d4.T.length<=58):=jj (by rw[hd4];exact TZ.out);have V4:=jj BU;have TR4:=jj (ajy.step HXR HZ3 yu);clear yu BU hd4 y0 y1 y2 y3 y4 y5
      go_wp2_with fail
      go_roundw
      case rel=>exact⟨i+1,d4,KV,lK,by go_num,S4.out,F4,T4,by rw[V4.out];exact TL2.out,TR4⟩
      simp[intOf];omega
     obtain rfl:i=m:=lK;have i1: ¬(i:Int)<i:=lK;have htl:=TL.out;rw[eP (tL TR.len),Fj] at htl;simp only[aD,aM] at htl;obtain⟨rfl,rfl⟩:=htl;clear TL
     go_wp2_with fail
     go_end0
     exact⟨by trivial,dZ,SZ,FZ,rfl⟩
theorem Uo(x:Nat)(w:World)(f:Int)(n id gx b:Nat)(d:lU)(K:KS)(h:qE x w f n id gx b d K)(h1:1<=f)(h4:f<=4)(hv:d.view=0)(k:Nat)(hk:(k:Int)<=f)(o:Bool)(ho:decide (k=id)=o):
  Y 165 #[gx,U k] w fun e w'=>e= .returned o/\Be w w':=by
 have H:=jj h;have HV:=jj hv;have ho':((k:Int)==(id:Int))=o:=by
  rw[<-ho,kG];simp only[beq_iff_eq,dQ];omega
 have HO:=jj ho';clear h hv ho ho';go_enter func165,ntmps165
 go_upto_region 1 with fail
 have KS:Hid (∀u,Be w u->J u gx 0 (U f)/\J u gx 29 (U 0)/\J u gx 15 (U id)):=jj fun u o=>⟨(H.below o).blk.cell 0,by rw[<-HV.out];exact(H.below o).blk.cell 29,(H.below o).blk.cell 15⟩;refine rD (fun u=>J u gx 0 (U f)/\J u gx 29 (U 0)/\J u gx 15 (U id)) 17 (tk 0 10 (tk 11 4 (.one 10 (.take 15 (.take 16 .done))))) (KS.out _ (aC _ _).drew) fun w1 B1 hS0=> ?_
 repeat refine' tT ?_
 refine pO fun KT lS=> ?_;go_simp;refine(MP f k w1 h1 h4 ⟨lK,hk⟩).mono ?_;rintro e w2 ⟨rfl,rfl⟩;refine oH lS hS0 ?_
 repeat refine' tT ?_
 refine lM ?_;clear hS0
 go_wp2_with fail
 go_ret;refine⟨?_,B1⟩;show Ending.returned (Value.bool ((k:Int)==(id:Int)))=_;rw[HO.out]
theorem Nj(r:Rq): ∀l:List qm,Ej r (l.map qm.val)=vK r l
 | []=>rfl
 |p::l=>by
  rw[bV,Ej,vK,Nj r l];cases hd:p.done<;>simp[qm.val,hd,pz]
theorem Jq: ∀l:List uo,nP l<=l.length
 | []=>aF _
 |p::l=>by
  have:=Jq l;simp only[nP,List.length_cons];split
  ·split<;>omega
  omega
theorem MH: ∀(l:List uo) (j:Nat) (p:uo),nP l<=j->l[j]?=some p->p.has=false
 | [],j,p,_,h=>by simp at h
 |q::l,j,p,hj,h=>by
  simp only[nP] at hj
  cases j with
  |zero=>
   simp only[List.getElem?_cons_zero,aD] at h;subst h;split at hj
   ·split at hj
    ·omega
    rename_i hh;simpa using hh
   omega
  |succ j=>
   refine MH l j p ?_ (mR h);split at hj
   ·omega
   omega
theorem QM: ∀(l:List uo),nP l=0\/ ∃p,l[nP l -1]?=some p/\p.has=true
 | []=> .inl rfl
 |q::l=>by
  rcases QM l with h|⟨p,hp,hh⟩
  ·simp only[nP,h,fH]
   by_cases hq:q.has=true
   ·exact .inr ⟨q,by simp[hq],hq⟩
   exact .inl (by simp[hq])
  by_cases h0:nP l=0
  ·simp only[nP,h0,fH]
   by_cases hq:q.has=true
   ·exact .inr ⟨q,by simp[hq],hq⟩
   exact .inl (by simp[hq])
  refine .inr ⟨p,?_,hh⟩;simp only[nP,h0,gH];rw[show nP l+1 -1=(nP l -1)+1 by omega];simpa using hp
theorem aed{id:Nat}(h:qE x w f n id gx b d K)(hx:x<w.heap.size)(k:Nat)(i:Ba)(hi:d.val.is[k]?=some i)(gi:Nat)(hgi:d.is[k]?.map Prod.fst=some gi):
  Y 164 #[gi] w fun e w'=>e= .returned (U ((nP i.ps:Int)+1))/\Be w w':=by
 obtain⟨g,I,h1,rfl⟩:=qd hi;rw[h1] at hgi;injection hgi with hgi;subst hgi;have hl:I.ps.length=16:=(h.inst h1).len;refine adS (h.inst h1) _ (by have:=Jq I.val.ps;simp only[tJ.val,aT] at this;simp only[tJ.val];omega) ?_ (fun j p hj hp=> ?_) hx
 ·rcases QM I.val.ps with h0|⟨p,hp,hh⟩
  ·exact .inl h0
  right;have hp':=hp;simp only[tJ.val,aS,aK] at hp';obtain⟨q,hq,rfl⟩:=hp';exact⟨q,hq,hh⟩
 have:=MH I.val.ps j p.val hj (by simp[tJ.val,hp]);exact this
theorem aen{id:Nat}(h:qE x w f n id gx b d K)(hx:x<w.heap.size)(k:Nat)(i:Ba)(hi:d.val.is[k]?=some i)(gi:Nat)(hgi:d.is[k]?.map Prod.fst=some gi)(r:Rq)(o:Bool)(ho:Ej r i.ps=o):
  Y 168 #[gi,.agg (rA r).toArray] w fun e w'=>e= .returned o/\Be w w':=by
 obtain⟨g,I,h1,rfl⟩:=qd hi;rw[h1] at hgi;injection hgi with hgi;subst hgi;exact adT (h.inst h1) r o (by rw[<-ho,tJ.val];exact(Nj r I.ps).symm) hx
end Go.Proofs.YtgnhecmnlddjhaaGreat
