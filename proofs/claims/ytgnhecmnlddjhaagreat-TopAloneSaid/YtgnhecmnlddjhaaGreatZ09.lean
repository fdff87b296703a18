/- TopAlone, part 10 of 24: a proof squeezed by a program. -/
import Derived.Test.YtgnhecmnlddjhaaGreatZ08
import GoSem.Core.Float
import Derived.WalkLawsBesides
import Derived.Laws.ComplexArith
import Derived.Laws.FloatArith
import Derived.Laws.Entries
set_option linter.unusedVariables false
set_option linter.unusedSimpArgs false
set_option linter.defProp false
set_option maxRecDepth 100000
set_option maxHeartbeats 6400000
namespace Go.Proofs.YtgnhecmnlddjhaaGreat
open Go.RowKit Go.Proofs.Tryz
variable{a:OA}{b f:Int}{c cap g g' j k n s x y:Nat}{l:List (Nat×List Int)}{ms':Nat->List (Value×List Int)}{w w':World}{xs:LV}
theorem IW:(prog.info? 51).map (fun i=>(i.zero,i.size,i.bytes))=some (some (.agg #[U 0,U 0,U 0,U 0,U 0,U 0,U 0]),7,56):=by kernel_rfl
theorem Tn{q:Addr}{v:Value}{a0 a1 a2 a3 a4 a5 a6:Value}(h:w.cell? q=some v)(hne:q.block≠g):
  (((((((w.setCell ⟨g,0,none⟩ a0).setCell ⟨g,1,none⟩ a1).setCell ⟨g,2,none⟩ a2).setCell ⟨g,3,none⟩ a3).setCell ⟨g,4,none⟩ a4).setCell ⟨g,5,none⟩ a5).setCell ⟨g,6,none⟩ a6).cell? q=some v:=
 nL (nL (nL (nL (nL (nL (nL h hne) hne) hne) hne) hne) hne) hne
structure PN(w wr:World)(gs gc gl:Nat)(C:Nat)(s:Kr)(a1:OA)(c1:Nat):Prop where
 o:wr.ownsRow w.heap.size 51 7 (.slice a1 s.1.length c1) s.1.length (s.1.flatMap pF)
 sto:Store wr gs s.2.1
 cac:Cache wr gc gl s.2.2
 sm:oQ s.2.1
 len:s.2.2.length=C
 only:Only [gs,gl] w wr
theorem Vn {wb w4 wx:World} {ge gt gd gs gc gl C:Nat} {s:Kr} {a1:OA} {c1:Nat} {st2:List (Bool×Int)} {cs:AV} (A3:PN w wb gs gc gl C s a1 c1) (T3:lQ wb gt 49 cs)
  (h3:J wb gd 3 gc) (Q:Only [gs] wb w4) (R:Only [ge] w4 wx) (Gs:Store w4 gs st2) (hge:wb.heap.size<=ge) (n1:gt≠gs) (n2:gd≠gs) (n3:gc≠gs) (n4:gl≠gs):
  w.heap.size<=ge/\lQ wx gt 49 cs/\J wx gd 3 gc/\
  wx.ownsRow w.heap.size 51 7 (.slice a1 s.1.length c1) s.1.length (s.1.flatMap pF)/\Store wx gs st2/\Cache wx gc gl s.2.2/\Only [gs,gl] w wx:=by
 have zw:=A3.only.size;have tl:=T3.lt;have dl:gd<wb.heap.size:=wV (p:=⟨gd,3,none⟩) h3;have sl:=A3.sto.lt;have cl:=A3.cac.clt;have ll:=A3.cac.llt;refine⟨lK,(T3.only Q (mR n1)).only R (by simp;omega),R.cell_ (Q.cell_ h3 (mR n2)) (by simp;omega),?_,Gs.only R (by simp;omega),(A3.cac.only Q (mR n3) (mR n4)).only R (by simp;omega) (by simp;omega),(A3.only.then Q lT).then R (by simp;omega)⟩;have o4:=mK A3.o Q (fun g hg=>by
  have:=mG A3.o A3.sto.b lN;rw[hg] at this;simpa using fun e=>this (by rw[e]))
 exact mK o4 R (fun g hg=>by
  have:=(A3.o.lt g hg).2;simp;omega)
theorem ala (S:LN) (gd C:Nat) (es:List CY) (st:List (Bool×Int)) (ct:List (Int×Int)) (a:OA) (n c:Nat) (rs:List Rq) (w:World) (h:Er w S gd C es st ct) (hv:mo w a n 6 (rs.flatMap rA)) (hsep:0<n-> ∀p,a=some p->p.block∉S) (hl:rs.length=n) (hn:es.length+n<=4096)
  (hi: ∀r∈rs,RqI r) (out:List CY) (st':List (Bool×Int)) (YW:List (Int×Int)) (hs:qL ([],st,ct) rs=(out,st',YW)) (m:Nat) (hm:out.length=m):
  Y 268 #[gd,.slice a n c] w fun e w'=> ∃S' a' c',e= .returned (.slice a' m c')/\Er w' S' gd C (es++out) st' YW/\
   w'.ownsRow w.heap.size 51 7 (.slice a' m c') m (out.flatMap pF)/\(∀g,(Value.slice a' m c').ownBlock=some g->g∉S')/\Only S w w'/\(∀k∈S',k∈S\/w.heap.size<=k):=by
 obtain⟨i0,hi0,hz0,hz1,hz2⟩:=bq IW;obtain⟨gs,gc,gl,al,cl,hS,k1,k2,k3,k4⟩:=h.ex;have c1':=h.c;obtain⟨K1,K2,K3,K4,LE,HSS⟩:=j6 k1 k2 k3 k4 h.lt hS;obtain⟨SEP,CL,SM⟩:=j3 hsep h.len h.sm;have C4:=c1'.2;have C1:=c1'.1;have e0:=k1.at_ 0;have e2:=k1.at_ 2;have e3:=k1.at_ 3;have n1:gd≠gs:=lQ.nY k1 k3.b lN;have n2:gd≠gl:=by obtain⟨cp,h1,h2⟩:=k4.ex;exact(h2.ne k1 lN).symm
 have n3:gs≠gl:=by obtain⟨cp,h1,h2⟩:=k4.ex;exact(h2.ne k3.b lN).symm
 have n4:gc≠gs:=by obtain⟨cp,h1,h2⟩:=k4.ex;exact lQ.nY h1 k3.b lN
 have n5:gc≠gl:=k4.ne;have NE:=jj (show gd≠gs/\gd≠gl/\gs≠gl/\gc≠gs/\gc≠gl from⟨n1,n2,n3,n4,n5⟩);obtain⟨GD,HV,HI,HS,HM⟩:=j5 k1.lt hv hi hs hm;subst hl;have E0:=jj (show Only [gs,gl] w w from Only.refl _ _);clear k1 k2 k3 k4 h hS hsep c1' n1 n2 n3 n4 n5 hv hi hs hm;go_enter func268,ntmps268
 go_wp2_with fail
 go_loopw [5,11] (fun o i wr=> ∃k:Nat,k<=rs.length/\i= U k/\ ∃s a1 c1,s=qL ([],st,ct) (rs.take k)/\o= .slice a1 s.1.length c1/\PN w wr gs gc gl C s a1 c1) (fun _ i _=>rs.length -(intOf i).toNat)
 case atStart=>
  exact⟨0,lK,rfl,([],st,ct),none,0,rfl,rfl,⟨lT,.inl ⟨rfl,rfl⟩⟩,K3.out,K4.out,SM.out,CL.out,E0.out⟩
 case round=>
  obtain⟨k,hk,rfl,s,a1,c1,hsk,rfl,hA⟩:=hrel;have A:=jj hA;have SK:=jj hsk;have dl:s.1.length<=k:=by
   have:=(abW (s:=([],st,ct)) SM.out (rs.take k)).2.2;rw[<-hsk,cO] at this;simp only[List.length_nil] at this;omega
  have zr:=hA.only.size;have f0:=hA.only.cell_ e0 (by have:=NE.out;simp;omega);have f2:=hA.only.cell_ e2 (by have:=NE.out;simp;omega);have f3:=hA.only.cell_ e3 (by have:=NE.out;simp;omega);by_cases hkl:k<rs.length
  ·obtain⟨b,off,rfl,hbl,hcell⟩:=HV.2 lK
   have hbS:=SEP.out lK _ rfl;rw[HSS.out] at hbS;simp only[ay,not_or] at hbS;have bs:=jj (show b≠gs/\b≠gl from⟨hbS.2.1,hbS.2.2.2.1⟩);have cw: ∀j v,j<6->(rA rs[k])[j]?=some v->J wr b (off+k*6+j) v:=fun j v hj hv=>by
    refine hA.only.cell_ ?_ (by have:=bs.out;simp;omega);rw[dL];exact hcell _ _ (nT rA 6 OJ rs k j hj hkl v hv)
   obtain⟨r,hr⟩:=ex rs[k];have hri:=HI.out _ (bY hkl);have hstep:=Yw ([],st,ct) rs k hkl;rw[<-hr] at cw hri hstep;rw[<-hsk] at hstep;obtain⟨r0,r1,r2,r3,r4,r5⟩:=r;have q0:J wr b (off+k*6) (U r0):=cw 0 _ lK rfl;have q1:J wr b (off+k*6+1) (U r1):=cw 1 _ lK rfl;have q2:J wr b (off+k*6+2) (U r2):=cw 2 _ lK rfl;have q3:J wr b (off+k*6+3) (U r3):=cw 3 _ lK rfl;have q4:J wr b (off+k*6+4) (U r4):=cw 4 _ lK rfl;have q5:J wr b (off+k*6+5) (U r5):=cw 5 _ lK rfl;obtain⟨x0,x1,x2,x3,x4,x5⟩:=hri;simp only at x0 x1 x2 x3 x4 x5;have ST:=jj hstep;have i1:(0:Int)<=k:=lK;have i2:(k:Int)<rs.length:=lK;clear hcell hbS cw hr hstep hsk hA
   go_wp2_with fail
   obtain⟨gt,hgt⟩:=ex wr.heap.size;obtain⟨wa,hwa⟩:=ex (wr.alloc (.cells #[U r0,U r1,U r2,U r3,U r4,U r5] 49));rw[<-hwa,<-hgt];have T:=jj (show lQ wa gt 49 #[U r0,U r1,U r2,U r3,U r4,U r5] by rw[hwa,hgt];exact lQ.new _ _ _);have B2:=jj (show Be wr wa by rw[hwa];exact nC);have A2:=jj (show PN w wa gs gc gl C s a1 c1 from⟨own_below A.o B2.out,A.sto.below B2.out,A.cac.below B2.out,A.sm,A.len,A.only.belows B2.out⟩);have GT:=jj (show w.heap.size<=gt/\gt<wa.heap.size from⟨by rw[hgt];exact zr,T.lt⟩);have g0:J wa gd 0 (U C):=kept B2.out _ _ f0;have g2:J wa gd 2 gs:=kept B2.out _ _ f2;have g3:J wa gd 3 gc:=kept B2.out _ _ f3;clear hwa hgt f0 f2 f3 q0 q1 q2 q3 q4 q5 A;obtain⟨t0,t1⟩:=T.a2;have X0:=fun(x:Later wa)=>x.cell t0;have X1:=fun(x:Later wa)=>x.cell t1;have Y0:=fun(x:Later wa)=>x.cell g0;have Y3:=fun(x:Later wa)=>x.cell g3;obtain⟨lt,hlt'⟩: ∃lt,lastOf s.2.2 r0=lt:=⟨_,rfl⟩;have LT:=jj hlt';have hC:=A2.len;have OKD:=jj (show Yf s.2.2 (r0,r1,r2,r3,r4,r5)=(decide (0<=r0/\r0<(C:Int))&&decide (lt<r1)) by unfold Yf hasB;rw[hC,hlt']);clear hlt' hC;rcases(show r0<0\/(0<=r0/\(C:Int)<=r0)\/(0<=r0/\r0<(C:Int)/\r1<=lt)\/(0<=r0/\r0<(C:Int)/\lt<r1) by omega) with hc|⟨hc,hc2⟩|⟨hc,hc2,hc3⟩|⟨hc,hc2,hc3⟩
   case' inl=>
    have NO:=jj (show qL ([],st,ct) (rs.take (k+1))=s by rw[ST.out];unfold qg;rw[OKD.out,aR lK];rfl);have d0:decide (r0<0)=true:=aZ hc
   case' inr.inl=>
    have NO:=jj (show qL ([],st,ct) (rs.take (k+1))=s by rw[ST.out];unfold qg;rw[OKD.out,aR lK];rfl);have d0:decide (r0<0)=false:=aR lK;have d1:decide ((C:Int)<=r0)=true:=aZ hc2;have d1':decide (r0≥(C:Int))=true:=aZ hc2
   case' inr.inr.inl=>
    have NO:=jj (show qL ([],st,ct) (rs.take (k+1))=s by rw[ST.out];unfold qg;rw[OKD.out,aR (show ¬lt<r1 by omega),kR];rfl);have d0:decide (r0<0)=false:=aR lK;have d1:decide ((C:Int)<=r0)=false:=aR lK;have d1':decide (r0≥(C:Int))=false:=aR lK;have d2:decide (r1<=lt)=true:=aZ hc3
   case' inr.inr.inr=>
    have d0:decide (r0<0)=false:=aR lK;have d1:decide ((C:Int)<=r0)=false:=aR lK;have d1':decide (r0≥(C:Int))=false:=aR lK;have d2:decide (r1<=lt)=false:=aR lK
   case inr.inr.inr=>
    obtain⟨re,hre⟩: ∃re,Pw s.2.1 r2 r3 r4=re:=⟨_,rfl⟩;obtain⟨st2,Gt⟩: ∃st2,yD s.2.1 r2 r3 r4=st2:=⟨_,rfl⟩;obtain⟨ct2,ag0⟩: ∃ct2,Aw s.2.2 r0 r1 re=ct2:=⟨_,rfl⟩;have hok:Yf s.2.2 (r0,r1,r2,r3,r4,r5)=true:=by rw[OKD.out,aZ (show 0<=r0/\r0<(C:Int) from⟨hc,hc2⟩),aZ hc3];rfl
    have NX:=jj (show qL ([],st,ct) (rs.take (k+1))=(s.1++ [((r0,r1,r2,r3,r4,r5),re)],st2,ct2) by
     rw[ST.out];unfold qg;rw[aV hok];unfold uK;simp only[hre,Gt,ag0])
    obtain⟨RE,ST2,CT2⟩:=j3 hre Gt ag0;have PB:=jj (show OE s.2.2 r0 r1=true by
     unfold Yf at hok;unfold OE;simp only[bX,dQ] at hok|-;refine⟨hok.1,?_⟩;have:=hok.2;unfold lastOf at this
     rwa [aV hok.1] at this)
    clear hre Gt ag0 hok;refine pU (by kernel_rfl) (by kernel_rfl) ?_
    repeat(go_big_quiet_step (first
     |(go_at_call 253;exact Later.same (Uk gc gl s.2.2 r0 _ (A2.cac.below (Later.b _)) (by rw[A2.len];exact C4) x0 lt LT.out))))
    refine iW ?_;rintro _ ⟨x,rfl⟩;have A3:=jj (show PN w x.w gs gc gl C s a1 c1 from⟨own_below A2.o x.b,A2.sto.below x.b,A2.cac.below x.b,A2.sm,A2.len,A2.only.belows x.b⟩);have T3:=jj (T.later x);have h2:x.w.cell? ⟨gd,2,none⟩=_:=x.cell g2;have h3:x.w.cell? ⟨gd,3,none⟩=_:=x.cell g3;have zx:=jj x.b.size;clear X0 X1 Y0 Y3 t0 t1 g0 g2 g3;obtain⟨wb,hwb⟩:=ex x.w;rw[<-hwb] at A3 T3 h2 h3 zx|-;clear hwb;obtain⟨t0,t1,t2,t3,t4,t5⟩:=T3.a6;have ngt:=jj (show gt≠gs/\gt≠gl by have:=K3.lt;have:=K4.llt;have:=GT.out;omega)
    go_wp2_with fail
    go_cut [8] (fun s8 wx=> ∃ge,s8= .pointer (some ⟨ge,0,none⟩)/\lQ wx ge 51 #[U r0,U r1,U r2,U r3,U r4,U r5,U re]/\w.heap.size<=ge/\lQ wx gt 49 #[U r0,U r1,U r2,U r3,U r4,U r5]/\J wx gd 3 gc/\
     wx.ownsRow w.heap.size 51 7 (.slice a1 s.1.length c1) s.1.length (s.1.flatMap pF)/\Store wx gs st2/\Cache wx gc gl s.2.2/\Only [gs,gl] w wx)
    case first=>
     clear e0 e2 e3 d0 d1 d1' d2 hc3 x0 x1 x5 zr dl i1 i2 hi0 hz0 hz1 hz2;have ng:gt≠wb.heap.size/\gd≠wb.heap.size:=by have:=T3.lt;have:=GD.out;have:=A3.only.size;omega
     go_region_held3 (fun w'=>J w' gt 0 (U r0)/\J w' gt 1 (U r1)/\J w' gt 2 (U r2)/\J w' gt 3 (U r3)/\J w' gt 4 (U r4)/\J w' gt 5 (U r5)/\J w' gd 2 gs)
      (first|with_reducible exact⟨s0,s1,s2,s3,s4,s5,s6⟩|with_reducible exact⟨Tn s0 ng.1,Tn s1 ng.1,Tn s2 ng.1,Tn s3 ng.1,Tn s4 ng.1,Tn s5 ng.1,Tn s6 ng.2⟩|go_keep)
      (first|(go_at_call 291;refine(adh gs s.2.1 r2 r3 r4 _ (by first|exact A3.sto.drew|exact(A3.sto.alloc _).drew) A3.sm x2 x3 x4 re RE.out st2 ST2.out).mono ?_;rintro e w4 ⟨rfl,Gs,xQ⟩;have s0:=xQ.cell_ (p:=⟨gt,0,none⟩) (by first|exact t0|exact rE _ t0) (by have:=ngt.1;simpa using this);have s1:=xQ.cell_ (p:=⟨gt,1,none⟩) (by first|exact t1|exact rE _ t1) (by have:=ngt.1;simpa using this);have s2:=xQ.cell_ (p:=⟨gt,2,none⟩) (by first|exact t2|exact rE _ t2) (by have:=ngt.1;simpa using this);have s3:=xQ.cell_ (p:=⟨gt,3,none⟩) (by first|exact t3|exact rE _ t3) (by have:=ngt.1;simpa using this);have s4:=xQ.cell_ (p:=⟨gt,4,none⟩) (by first|exact t4|exact rE _ t4) (by have:=ngt.1;simpa using this);have s5:=xQ.cell_ (p:=⟨gt,5,none⟩) (by first|exact t5|exact rE _ t5) (by have:=ngt.1;simpa using this);have s6:=xQ.cell_ (p:=⟨gd,2,none⟩) (by first|exact h2|exact rE _ h2) (by have:=NE.1;simpa using this);try(have be:=lQ.only (show lQ (wb.alloc (.cells #[U 0,U 0,U 0,U 0,U 0,U 0,U 0] 51)).drew wb.heap.size 51 #[U 0,U 0,U 0,U 0,U 0,U 0,U 0] from lQ.new wb 51 #[U 0,U 0,U 0,U 0,U 0,U 0,U 0]) xQ (by have:=A3.sto.lt;simp;omega);have u0:=be.cell 0;have fz0:=be.frozen 0;have u1:=be.cell 1;have fz1:=be.frozen 1;have u2:=be.cell 2;have fz2:=be.frozen 2;have u3:=be.cell 3;have fz3:=be.frozen 3;have u4:=be.cell 4;have fz4:=be.frozen 4;have u5:=be.cell 5;have fz5:=be.frozen 5;have u6:=be.cell 6;have fz6:=be.frozen 6)))
     all_goals
      have AX:=jj A3.out;have NX4:=jj (show gt≠gs/\gd≠gs/\gc≠gs/\gl≠gs from⟨ngt.1,NE.1,NE.2.2.2.1,NE.2.2.1.symm⟩);obtain⟨H3,HO4,HS4⟩:=j3 h3 xQ Gs
      try have BE:=jj be
      clear s0 s1 s2 s3 s4 s5 s6 t0 t1 t2 t3 t4 t5 h2 h3 xQ Gs x2 x3 x4
      try clear be u0 u1 u2 u3 u4 u5 u6 fz0 fz1 fz2 fz3 fz4 fz5 fz6
      go_wp2_with fail
      go_meet
     ·have Q:Only [gs] wb w4:=((Only.refl [gs] wb).drew).trans HO4.out
      have hz:wb.heap.size<=w4.heap.size:=Q.size;have hc:=Vn A3.out T3.out H3.out Q (Only.of_below (S:= [w4.heap.size]) ((aC w4.heap.size w4).alloc (aF _) (.cells #[U r0,U r1,U r2,U r3,U r4,U r5,U re] 51))) HS4.out hz NX4.1 NX4.2.1 NX4.2.2.1 NX4.2.2.2;exact⟨w4.heap.size,rfl,lQ.new _ _ _,hc⟩
     have Q:Only [gs] wb w4:=(((Only.refl [gs] wb).alloc _).drew).trans HO4.out;have R:=((((((((Only.refl [wb.heap.size] w4).setCell (p:=⟨wb.heap.size,0,none⟩) (.inl lT) (U r0)).setCell (p:=⟨wb.heap.size,1,none⟩) (.inl lT) (U r1)).setCell (p:=⟨wb.heap.size,2,none⟩) (.inl lT) (U r2)).setCell (p:=⟨wb.heap.size,3,none⟩) (.inl lT) (U r3)).setCell (p:=⟨wb.heap.size,4,none⟩) (.inl lT) (U r4)).setCell (p:=⟨wb.heap.size,5,none⟩) (.inl lT) (U r5)).setCell (p:=⟨wb.heap.size,6,none⟩) (.inl lT) (U re));have hc:=Vn A3.out T3.out H3.out Q R HS4.out (aF _) NX4.1 NX4.2.1 NX4.2.2.1 NX4.2.2.2;have bb:=((((((BE.mg 0 (U r0)).mg 1 (U r1)).mg 2 (U r2)).mg 3 (U r3)).mg 4 (U r4)).mg 5 (U r5)).mg 6 (U re);exact⟨wb.heap.size,rfl,bb,hc⟩
    case rest=>
     obtain⟨ge,rfl,hge,hgw,hT,hc3,ho,hS,hC,hO⟩:=hcut;obtain⟨GE,OO,SS,CC,ON⟩:=j5 hge ho hS hC hO;have CN:=jj (show s.2.2.length<=4 by rw[A2.len];exact C4);have SML:=jj (Rv A2.sm (r0,r1,r2,r3,r4,r5));obtain⟨t0,t1⟩:=hT.a2;have e6:=hge.at_ 6;clear hge hT ho hS hC hO ngt d0 d1 d1' d2
     go_wp2_with fail
     go_still_tail 10,(by kernel_rfl)
     change wpList _ _ _ _ _ wc.drew
     go_wp2_with fail
     refine(ak8 gc gl s.2.2 r0 r1 re _ CC.drew CN.out x0 true PB.out ct2 CT2.out).mono ?_;rintro e w5 ⟨rfl,hC5,Kg⟩;have glb: ∃cur,lQ wc gl 202 cur:=by
      obtain⟨cp,h1,h2⟩:=CC.ex;obtain⟨cur,h3,_⟩:=h2.parts;exact⟨cur,h3⟩
     obtain⟨cur,hcur⟩:=glb;have Ob:lQ w5 ge 51 _:=GE.drew.only Kg (by have:=lQ.nY GE.out hcur lN;simpa using this);obtain⟨u0,u1,u2,u3,u4,u5⟩:=Ob.a6;have u6:=Ob.at_ 6;have o5:w5.ownsRow w.heap.size 51 7 (.slice a1 s.1.length c1) s.1.length (s.1.flatMap pF):=mK OO.drew Kg (fun g hg=>by
      have:=mG OO.out hcur lN;rw[hg] at this;simpa using fun e=>this (by rw[e]))
     have O5:=jj o5;have S5:=jj (SS.drew.only Kg (by have:=NE.2.2.1;simpa using this));have C5:=jj hC5;have N5:=jj (ON.drew.then Kg lT);have z5:=N5.size;have hll:(s.1.flatMap pF).length=s.1.length*7:=qj pF 7 vP s.1;clear t0 t1 e6 hc3 Kg hcur Ob o5 hC5
     go_wp2_with(at_builtin;refine fU _ rfl (.tmp 59) (.tmp 61) _ rfl w.heap.size 51 i0 _ 7 56 underlying44 hi0 hz0 hz1 hz2 rfl lK (.slice a1 s.1.length c1) s.1.length (s.1.flatMap pF) rfl (dM O5.out _) ⟨w5.heap.size,0,none⟩ 1 1 [U r0,U r1,U r2,U r3,U r4,U r5,U re] rfl rfl (World.news_of_block (cs:=#[U r0,U r1,U r2,U r3,U r4,U r5,U re]) (t:=51) (fr:=(0,0)) (lQ.new _ _ _)) (by simp[Value.oneCell']) lK (by unfold maxLen;omega) lK (by simp;omega) (w5.heap.size+1) lT ?_;intro g5 cap5 w6 hown6 yT aaD akz)
     have Rg:Only (blks a1) (w5.alloc (.cells #[U r0,U r1,U r2,U r3,U r4,U r5,U re] 51)) w6:=(Only.refl (blks a1) _).grown yT (fun k hk=> .inl (yg hk));have nb: ∀g t cs,lQ w5 g t cs->51≠t->g∉blks a1:=fun g t cs hb hne hm=>by
      cases a1 with
      |none=>cases hm
      |some p=>
       simp only[blks,au] at hm;exact Wj O5.out hb hne p rfl hm.symm
     refine⟨⟨k+1,lK,by go_num,(s.1++ [((r0,r1,r2,r3,r4,r5),re)],st2,ct2),some ⟨g5,0,none⟩,cap5,NX.symm,by rw[av];rfl,?_⟩,by simp[intOf];omega⟩;obtain⟨cp5,cb5,cr5⟩:=C5.ex;obtain⟨auX,cu5,_⟩:=cr5.parts;refine⟨?_,(S5.alloc _).only Rg (nb _ _ _ S5.b lN),(C5.below nC).only Rg (nb _ _ _ cb5 lN) (nb _ _ _ cu5 lN),?_,by rw[<-CT2.out,MR];exact A2.len,?_⟩
     ·rw[av,bS]
      exact hown6
     ·have e:=SML.out
      rw[<-ST.out,NX.out] at e;exact e
     exact(N5.alloc _).grown yT (fun g hg=> .inr (O5.lt g hg).1)
   all_goals
    refine pU (by kernel_rfl) (by kernel_rfl) ?_
    repeat(go_big_quiet_step (first
     |(go_at_call 253;exact Later.same (Uk gc gl s.2.2 r0 _ (A2.cac.below (Later.b _)) (by rw[A2.len];exact C4) x0 lt LT.out))))
    refine iW ?_;rintro _ ⟨x,rfl⟩;have A3:=jj (show PN w x.w gs gc gl C s a1 c1 from⟨own_below A2.o x.b,A2.sto.below x.b,A2.cac.below x.b,A2.sm,A2.len,A2.only.belows x.b⟩);clear X0 X1 Y0 Y3 t0 t1 g0 g2 g3
    go_wp2_with fail
    refine⟨⟨k+1,lK,by go_num,s,a1,c1,NO.symm,rfl,A3.out⟩,by simp[intOf];omega⟩
  have hkk:k=rs.length:=lK;subst hkk;rw[dP,HS.out] at hsk;subst hsk;have OUT:=jj hA.o;have RA:=jj hA;have h1:=K1.only hA.only (by have:=NE.out;simp;omega);have H1:=jj h1;have g0:=h1.at_ 1;have fz:=h1.frozen 1;have kl:wr.ownsRow 0 51 7 (.slice al es.length cl) es.length (es.flatMap pF):=mK K2.out hA.only (fun g hg=>by
   have hm:=yg hg;have a1':=mG K2.out K3.b lN;obtain⟨cp,h1',h2'⟩:=K4.ex;obtain⟨cur,h3',_⟩:=h2'.parts;have a2':=mG K2.out h3' lN;rw[hg] at a1' a2';simp only[ay,aI,bK,not_or];exact⟨fun e=>a1' (by rw[e]),fun e=>a2' (by rw[e])⟩)
  have KL:=jj kl;have KB:=jj (show∀g,(Value.slice al es.length cl).ownBlock=some g->g<w.heap.size from fun g hg=>(K2.lt g hg).2);have zo:out.length<=rs.length:=dl;have zes:=qB kl;have ol:es.length<=4096:=lK;have adr:=rF kl;have MM:=HM.out;clear h1 kl hA e0 e2 e3 f0 f2 f3;have Xj:=jj (show gd∈S/\gs∈S/\gl∈S/\ ∀k∈blks al,k∈S by
   rw[HSS.out];exact⟨lT,lT,lT,fun k hk=>by simp[hk]⟩)
  have MO:=jj (RA.only.mono (T:=S) (fun k hk=> .inl (by
   simp only[ay,aI,bK] at hk;rcases hk with rfl|rfl
   ·exact Xj.2.1
   exact Xj.2.2.1)))
  have ade:=jj (show∀g t cs,lQ w g t cs->51≠t->g∉blks al from fun g t cs hb hne hm=>by
   cases al with
   |none=>cases hm
   |some p=>
    simp only[blks,au] at hm;exact Wj K2.out hb hne p rfl hm.symm)
  have SG:=jj (show gd∉blks al/\gs∉blks al/\gc∉blks al/\gl∉blks al by
   obtain⟨cp,cb,cr⟩:=K4.ex;obtain⟨cur,cu,_⟩:=cr.parts;exact⟨ade.out _ _ _ K1.out lN,ade.out _ _ _ K3.b lN,ade.out _ _ _ cb lN,ade.out _ _ _ cu lN⟩)
  have GCD:=jj (show gc≠gd by
   obtain⟨cp,cb,cr⟩:=K4.ex;exact lQ.nY cb K1.out lN)
  have CC4:=c;by_cases h0:out.length=0
  ·obtain rfl:out= []:=jX.1 h0
   obtain rfl:m=0:=MM.symm;clear h0 MM zo
   go_wp2_with(at_builtin;refine rZ rfl (.tmp 68) (.tmp 69) _ rfl 51 i0 underlying44 hi0 al a1 es.length cl c1 adr zes rfl rfl ?_)
   go_ret;have R:=(Only.refl [gd] wr).setCell (p:=⟨gd,1,none⟩) (.inl lT) (.slice al es.length cl);refine⟨S,a1,c1,rfl,⟨⟨gs,gc,gl,al,cl,HSS.out,?_,?_,RA.sto.only R (by have:=NE.1;simp;omega),RA.cac.only R (by have:=GCD.out;simpa using this) (by have:=NE.2.1;simp;omega)⟩,⟨C1,C4⟩,RA.len,RA.sm⟩,?_,?_,MO.setCell (p:=⟨gd,1,none⟩) (.inl Xj.1) _,fun k hk=> .inl hk⟩
   ·have:=H1.mg 1 (.slice al es.length cl)
    exact this
   ·exact gQ KL.out (mG KL.out H1.out lN) _
   ·exact gQ OUT.out (mG OUT.out H1.out lN) _
   intro g hg hm;have h1:=(OUT.lt g hg).1;have h2:=LE.out g hm;omega
  have akd:=rF OUT.out;obtain⟨go,rfl⟩: ∃go,a1=some ⟨go,0,none⟩:=by
   rcases akd with⟨_,h1,_⟩|h1
   ·exact absurd h1 h0
   exact h1
  have agp:=jj (Row.sG OUT.out);have ak5:(out.flatMap pF).length=out.length*7:=qj pF 7 vP out;have ajW:(es.flatMap pF).length=es.length*7:=qj pF 7 vP es;have mpos:0<out.length:=lK;clear akd MM h0
  go_wp2_with(at_builtin;refine fU _ rfl (.tmp 68) (.tmp 69) _ rfl 0 51 i0 _ 7 56 underlying44 hi0 hz0 hz1 hz2 rfl lK (.slice al es.length cl) es.length (es.flatMap pF) rfl KL.out ⟨go,0,none⟩ out.length c1 (out.flatMap pF) rfl ak5 agp.news (LM out) mpos (by unfold maxLen;omega) lK (bF _) wr.heap.size rfl ?_;intro g5 cap5 w6 hown6 yT aaD akz;have H6:=jj (H1.grown yT (aev KL.out H1.out lN));have c6:=H6.cell 1;have fz6:=H6.frozen 1;obtain⟨HAT,HGR,HOW⟩:=j3 aaD yT hown6;clear aaD yT hown6 g0 fz)
  go_ret;have R1:=(Only.refl (blks al) wr).grown HGR.out (fun k hk=> .inl (yg hk));have R2:=(Only.refl [gd] w6).setCell (p:=⟨gd,1,none⟩) (.inl lT) (O g5 (es.length+out.length) cap5);have hm:=HM.out;subst hm;refine⟨gd::gs::gc::gl:: [g5],some ⟨go,0,none⟩,c1,rfl,⟨⟨gs,gc,gl,some ⟨g5,0,none⟩,cap5,rfl,?_,?_,(RA.sto.only R1 SG.2.1).only R2 (by have:=NE.1;simp;omega),(RA.cac.only R1 SG.2.2.1 SG.2.2.2).only R2 (by have:=GCD.out;simpa using this) (by have:=NE.2.1;simp;omega)⟩,⟨C1,C4⟩,RA.len,RA.sm⟩,?_,?_,(MO.grown HGR.out (fun k hk=> .inl (Xj.2.2.2 k (yg hk)))).setCell (p:=⟨gd,1,none⟩) (.inl Xj.1) _,?_⟩
  ·have:=H6.mg 1 (O g5 (es.length+out.length) cap5)
   rw[av];exact this
  ·rw[av,bS]
   exact gQ HOW.out (mG HOW.out H6.out lN) _
  ·have o6:=mK OUT.out R1 (fun g hg hm=>by
    have h1:=(OUT.lt g hg).1;have h2:=LE.out g (Xj.2.2.2 g hm);omega)
   exact gQ o6 (mG o6 H6.out lN) _
  ·intro g hg hm
   have h1:=OUT.lt g hg;have hb: ∀k∈S,k<w.heap.size:=LE.out;have h2:gd<w.heap.size/\gs<w.heap.size/\gl<w.heap.size:=⟨hb _ Xj.1,hb _ Xj.2.1,hb _ Xj.2.2.1⟩;have h3:gc<w.heap.size:=hb _ (by rw[HSS.out];simp);have h4:g5<w.heap.size\/g5=wr.heap.size:=by
    rcases HAT.out with h|h
    ·exact .inl (KB.out _ h)
    exact .inr h
   simp only[ay,aI,bK] at hm;omega
  intro k hk;simp only[ay,aI,bK] at hk;rcases hk with rfl|rfl|rfl|rfl|rfl
  ·exact .inl Xj.1
  ·exact .inl Xj.2.1
  ·exact .inl (by rw[HSS.out];simp)
  ·exact .inl Xj.2.2.1
  rcases HAT.out with h|h
  ·exact .inl (Xj.2.2.2 _ (yg h))
  have:=RA.only.size;exact .inr lK
theorem aaY(S:LN)(gd C:Nat)(es:List CY)(st:List (Bool×Int))(ct:List (Int×Int))(w:World)(h:Er w S gd C es st ct)(n:Nat)(hn:es.length=n)(hm:n<=4096):
  Y 21 #[gd] w fun e w'=> ∃a c,e= .returned (.slice a n c)/\w'.ownsRow w.heap.size 51 7 (.slice a n c) n (es.flatMap pF)/\Be w w':=by
 obtain⟨i0,hi0,hz0,hz1,hz2⟩:=bq IW;obtain⟨gs,gc,gl,al,cl,hS,k1,k2,k3,k4⟩:=h.ex;have g0:=k1.at_ 1;have K2:=jj k2;have adr:=rF k2;subst hn;clear k1 k3 k4 h hS k2;by_cases h0:es.length=0
 ·obtain rfl:es= []:=jX.1 h0
  clear adr h0;go_enter func21,ntmps21
  go_wp2_with(at_builtin;refine rZ rfl (.const ()) (.tmp 6) _ rfl 51 i0 underlying44 hi0 none al 0 0 cl (.inl ⟨rfl,rfl,rfl⟩) (aF _) rfl rfl ?_)
  go_ret;exact⟨none,0,rfl,⟨lT,.inl ⟨rfl,rfl⟩⟩,aC _ _⟩
 obtain⟨go,rfl⟩: ∃go,al=some ⟨go,0,none⟩:=by
  rcases adr with⟨_,h1,_⟩|h1
  ·exact absurd h1 h0
  exact h1
 have agp:=jj (Row.sG K2);have ajW:(es.flatMap pF).length=es.length*7:=qj pF 7 vP es;have mpos:0<es.length:=lK;clear adr h0;go_enter func21,ntmps21
 go_wp2_with(at_builtin;refine fU _ rfl (.const ()) (.tmp 6) _ rfl w.heap.size 51 i0 _ 7 56 underlying44 hi0 hz0 hz1 hz2 rfl lK () 0 [] rfl ⟨lT,.inl ⟨rfl,rfl⟩⟩ ⟨go,0,none⟩ es.length cl (es.flatMap pF) rfl ajW agp.news (LM es) mpos (by unfold maxLen;omega) lK (aF _) w.heap.size rfl ?_;intro g5 cap5 w6 hown6 yT aaD akz)
 simp only[aO,List.nil_append] at hown6;have HOW:=jj hown6;have HB:=jj ((Only.refl [] w).grown yT (fun k hk=>by cases hk)).mY;clear hown6 yT aaD
 go_wp2
 go_ret;exact⟨some ⟨g5,0,none⟩,cap5,rfl,HOW,HB⟩
theorem VQ(S:LN)(gd C:Nat)(es:List CY)(st:List (Bool×Int))(ct:List (Int×Int))(k:Int)(w:World)(h:Er w S gd C es st ct)(hk:qX k)(t:Int)(ht:lastOf ct k=t):
  Y 212 #[gd,U k] w fun e w'=>e= .returned (U t)/\w=w':=by
 obtain⟨gs,gc,gl,al,cl,hS,k1,k2,k3,k4⟩:=h.ex;have g0:=k1.at_ 3;have K4:=jj k4;have C4:=jj (show ct.length<=4 by rw[h.len];exact h.c.2);have HT:=jj ht;clear k1 k3 k4 h hS k2 ht;go_enter func212,ntmps212
 go_wp2_with fail
 refine(Uk gc gl ct k _ K4 C4 hk t HT).mono ?_;rintro e w' ⟨rfl,rfl⟩
 go_wp2
 go_ret;exact⟨rfl,rfl⟩
namespace F
open Ieee
theorem yU(c e:Nat)(hc:c≠0):(c*2^e).log2=c.log2+e:=by
 have h1:=jY hc;have h2:=jZ (n:=c);have hne:c*2^e≠0:=Nat.mul_ne_zero hc lT;have hp:0<2^e:=fQ e;apply Nat.le_antisymm
 ·have:(c*2^e).log2<c.log2+e+1:=by
   rw[kS hne]
   calc c*2^e<2^(c.log2+1)*2^e:=iG h2 hp
    _=2^(c.log2+e+1):=by rw[<-iI];congr 1;omega
  omega
 rw[Nat.le_log2 hne,iI];exact dN _ h1
def UE(c:Nat):Nat:=(c.log2+1022)*2^52+c*2^(52 -c.log2)
theorem Lu(neg:Bool)(x drop:Nat)(hx:2^drop<=x*2^drop):Toward.even.cut neg (x*2^drop) drop=x:=by
 have hx0:x≠0:=by
  rintro rfl;have:=fQ drop;omega
 have hl:drop<=(x*2^drop).log2+2:=by rw[yU x drop hx0];omega
 have hp:0<2^drop:=fQ drop;unfold Toward.cut;rw[fO hl,Nat.one_shiftLeft];simp only[Nat.mul_mod_left,iT _ hp,Nat.mul_zero];have h1: ¬(2^drop<0):=lK;have h2:(2^drop==0)=false:=by simp
 simp[h2]
theorem aux1(l k T:Nat)(hL:l<=52)(hk:k<2^53)(hT:2^53<=2*T):(l+1022)*T+k<=2047*T:=by
 have hA:(l+1022)*T=l*T+1022*T:=iH _ _ _;have hlT:l*T<=52*T:=dN _ hL;generalize 2^53=M at*;omega
theorem Jp(neg:Bool)(c e:Nat)(hc:c≠0)(h53:c<2^53):
  double.nearest neg (c*2^e) (-(e:Int))=double.word neg (UE c):=by
 have hL:c.log2<=52:=by
  have:=(kS hc (k:=53)).2 h53;omega
 have h1:=jY hc;have h2:=jZ (n:=c);have hne:c*2^e≠0:=Nat.mul_ne_zero hc (tL (fQ e));unfold Format.nearest;rw[aU hne,yU c e hc];have hlp:double.leastPlace= -1074:=lN;have hfb:(double.fractionBits:Int)=52:=lN;have hb:double.binade=2^52:=lN;have hir:double.infRung=2047*2^52:=lN;rw[hlp,hfb,hb,hir];have hlast:max (-(e:Int)+((c.log2+e:Nat):Int) -52) (-1074)=(c.log2:Int) -52:=by
  rw[Int.max_def];split<;>omega
 rw[hlast];have hkept:Toward.even.cut neg ((c*2^e)<<<(-(e:Int) -((c.log2:Int) -52)).toNat) (((c.log2:Int) -52) - -(e:Int)).toNat=c*2^(52 -c.log2):=by
  rcases Nat.le_total e (52 -c.log2) with h|h
  ·have e1:(-(e:Int) -((c.log2:Int) -52)).toNat=52 -c.log2 -e:=lK
   have e2:(((c.log2:Int) -52) - -(e:Int)).toNat=0:=lK;rw[e1,e2,iL];have e3:c*2^e*2^(52 -c.log2 -e)=c*2^(52 -c.log2)*2^0:=by
    rw[lg,<-iI];simp only[Nat.pow_zero,fP]
    congr 2
    omega
   rw[e3];apply Lu;have:0<c*2^(52 -c.log2):=lG lK (fQ _);rw[Nat.pow_zero,fP];exact this
  have e1:(-(e:Int) -((c.log2:Int) -52)).toNat=0:=lK;have e2:(((c.log2:Int) -52) - -(e:Int)).toNat=e -(52 -c.log2):=lK;rw[e1,e2,iL,Nat.pow_zero,fP];have e3:c*2^e=c*2^(52 -c.log2)*2^(e -(52 -c.log2)):=by
   rw[lg,<-iI]
   congr 2
   omega
  rw[e3];apply Lu;have:0<c*2^(52 -c.log2):=lG lK (fQ _);exact Nat.le_mul_of_pos_left _ this
 simp only[];rw[hkept];have hk2:c*2^(52 -c.log2)<2^53:=by
  calc c*2^(52 -c.log2)<2^(c.log2+1)*2^(52 -c.log2):=iG h2 (fQ _)
   _=2^53:=by rw[<-iI];congr 1;omega
 have e4:((c.log2:Int) -52 - -1074).toNat=c.log2+1022:=lK;rw[e4,fO]
 ·rfl
 exact aux1 _ _ _ hL hk2 lN
theorem Yr(f:Format)(T:Nat)(hp:0<T)(hsw:f.signWeight=2048*T)(hb:f.binade=T)(hir:f.infRung=2047*T)(hlp:f.leastPlace= -1074)(neg:Bool)(l k:Nat)(hL:l<=52)(hlo:T<=k)(hhi:k<2*T):
  f.read (f.word neg ((l+1022)*T+k))= .number neg k ((l:Int) -52):=by
 unfold Format.read Format.word;rw[hsw,hb,hir,hlp];have hA:(l+1022)*T=l*T+1022*T:=iH _ _ _;have hlT:l*T<=52*T:=dN _ hL;have hr:(l+1022)*T+k<2047*T:=lK;obtain⟨r,hr2⟩:=ex ((l+1022)*T+k);have hn:(if neg then 2048*T+r else r)/(2048*T)%2=(if neg then 1 else 0)/\(if neg then 2048*T+r else r)%(2048*T)=r:=by
  have hd:r<2048*T:=lK;have aj4:0<2048*T:=lK;cases neg
  ·simp only[dz,gH]
   rw[iJ hd,dJ hd];exact⟨rfl,rfl⟩
  simp only[fH];rw[Nat.add_div_left _ aj4,iJ hd,Nat.add_mod_left,dJ hd];exact⟨rfl,rfl⟩
 rw[<-hr2];simp only[hn.1,hn.2];have c1: ¬(r<T):=lK;rw[aU c1,aV lK];obtain⟨j,hj⟩: ∃j,k=T+j:=⟨k -T,lK⟩;have hjT:j<T:=lK;have e5:r=j+(l+1023)*T:=by
  have:(l+1023)*T=l*T+1023*T:=iH _ _ _;omega
 have d1:r/T=l+1023:=by rw[e5,Nat.add_mul_div_right _ _ hp,iJ hjT,aO]
 have d2:r%T=j:=by rw[e5,Nat.add_mul_mod_self_right,dJ hjT]
 rw[d1,d2,<-hj];have a1:(((if neg then 1 else 0:Nat))==1)=neg:=by cases neg<;>rfl
 have a2:(-1074+((l+1023 -1:Nat):Int))=(l:Int) -52:=lK;rw[a1,a2]
theorem KP(neg:Bool)(c:Nat)(hlo:double.binade<=c*2^(52 -c.log2))(hhi:c*2^(52 -c.log2)<2*double.binade)(hL:c.log2<=52):
  double.read (double.word neg ((c.log2+1022)*double.binade+c*2^(52 -c.log2)))= .number neg (c*2^(52 -c.log2)) ((c.log2:Int) -52):=
 Yr double double.binade lN lN rfl lN lN neg _ _ hL hlo hhi
theorem Yq(neg:Bool)(c:Nat)(hc:c≠0)(h53:c<2^53):double.read (double.word neg (UE c))= .number neg (c*2^(52 -c.log2)) ((c.log2:Int) -52):=by
 have hL:c.log2<=52:=by
  have:=(kS hc (k:=53)).2 h53;omega
 have h1:=jY hc;have h2:=jZ (n:=c);have hlo:2^52<=c*2^(52 -c.log2):=by
  calc 2^52=2^c.log2*2^(52 -c.log2):=by rw[<-iI];congr 1;omega
   _<=c*2^(52 -c.log2):=dN _ h1
 have hhi:c*2^(52 -c.log2)<2*2^52:=by
  have e:2^(c.log2+1)*2^(52 -c.log2)=2*2^52:=by
   rw[<-iI,show c.log2+1+(52 -c.log2)=52+1 from by omega,Nat.pow_succ 2 52,gX]
  rw[<-e];exact iG h2 (fQ _)
 exact KP neg c hlo hhi hL
def Rep(d:Datum)(n:Int):Prop:= ∃(m e:Nat),e<=1100/\d= .number (decide (n<0)) m (-(e:Int))/\m=n.natAbs*2^e
def fw(n:Int):Nat:=double.write (.number (n<0) n.natAbs 0)
theorem NQ:fw 0=0:=lN
theorem afq{n:Int}(h0:n≠0)(h:n.natAbs<2^53):fw n=double.word (decide (n<0)) (UE n.natAbs):=by
 have:=Jp (decide (n<0)) n.natAbs 0 lK h;simp only[Nat.pow_zero,fP] at this;exact this
theorem OH{n:Int}(h:n.natAbs<2^53):Rep (double.read (fw n)) n:=by
 by_cases h0:n=0
 ·subst h0
  have hz: ∀e:Nat,(0:Nat)=(0:Int).natAbs*2^e:=fun e=>by rw[Int.natAbs_zero,fI]
  exact⟨0,1074,lK,lN,hz 1074⟩
 rw[afq h0 h,Yq _ _ lK h];have hL:n.natAbs.log2<=52:=by
  have:=(kS (n:=n.natAbs) lK (k:=53)).2 h;omega
 exact⟨_,52 -n.natAbs.log2,lK,by congr 1;omega,rfl⟩
theorem YN{d:Datum}{n:Int}(hd:Rep d n)(h:n.natAbs<2^53):double.write d=fw n:=by
 obtain⟨m,e,he,rfl,rfl⟩:=hd;by_cases h0:n=0
 ·subst h0
  simp[Format.write,Format.nearest,fw]
 rw[afq h0 h];exact Jp _ _ e lK h
theorem JK(n:Int)(e up:Nat):signed (decide (n<0)) (n.natAbs*2^e) up=n*2^(e+up):=by
 have h1:((n.natAbs*2^e)<<<up:Nat)=n.natAbs*2^(e+up):=by rw[iL,lg,<-iI]
 unfold signed;rw[h1];have h2:((n.natAbs*2^(e+up):Nat):Int)=(n.natAbs:Int)*2^(e+up):=by simp
 rw[h2];by_cases hn:n<0
 ·simp only[hn,lI,fH]
  rw[<-Int.neg_mul]
  congr 1
  omega
 simp only[hn,jE,dz,gH]
 congr 1
 omega
theorem aeI{c d:Datum}{a:Int}(hc:Rep c a)(hd:Rep d b): ∃s,c.sum d=some s/\Rep s (a+b):=by
 obtain⟨m,e,he,rfl,rfl⟩:=hc;obtain⟨m',e',he',rfl,rfl⟩:=hd;unfold Datum.sum;simp only[aD,exists_eq_left'];obtain⟨x,hx⟩: ∃x:Nat,x=max e e':=⟨_,rfl⟩;have hmin:min (-(e:Int)) (-(e':Int))= -(x:Int):=lK;rw[hmin,JK,JK];have h1:e+(-(e:Int) - -(x:Int)).toNat=x:=lK;have h2:e'+(-(e':Int) - -(x:Int)).toNat=x:=lK;rw[h1,h2,<-Int.add_mul];have hp:(0:Int)<2^x:=Int.pow_pos lK;refine⟨((a+b)*2^x).natAbs,x,lK,?_,?_⟩
 ·congr 1
  by_cases h0:a+b=0
  ·rw[h0]
   simp only[Int.zero_mul,fH,Int.lt_irrefl,jE];by_cases ha:a<0
   ·have: ¬b<0:=lK
    simp[this]
   simp[ha]
  have hne:(a+b)*2^x≠0:=Int.mul_ne_zero h0 lK;rw[aU hne]
  congr 1
  apply propext;constructor
  ·intro h
   exact Int.lt_of_not_ge fun hge=>by
    have:=Int.mul_nonneg hge (Int.le_of_lt hp);omega
  intro h;exact Int.mul_neg_of_neg_of_pos h hp
 rw[Int.natAbs_mul]
 congr 1
theorem ZJ{a:Int}(ha:a.natAbs<2^53)(hb:b.natAbs<2^53)(hab:(a+b).natAbs<2^53):double.add (fw a) (fw b)=some (fw (a+b)):=by
 obtain⟨s,hs,hr⟩:=aeI (OH ha) (OH hb);unfold Format.add;rw[hs,Option.map_some,YN hr hab]
theorem acr{a:Int}(ha:a.natAbs<2^53):(double.read (fw a)).toInt .zero=some a:=by
 obtain⟨m,e,he,h,rfl⟩:=OH ha;rw[h];unfold Datum.toInt Datum.integral;have h1:(-(e:Int)).toNat=0:=lK;have h2:(- -(e:Int)).toNat=e:=lK;simp only[h1,h2,Nat.shiftLeft_zero];have hcut:Toward.zero.cut (decide (a<0)) (a.natAbs*2^e) e=a.natAbs:=by
  by_cases h0:a.natAbs=0
  ·rw[h0]
   simp[Toward.cut]
  have hl:e<=(a.natAbs*2^e).log2+2:=by rw[yU _ e h0];omega
  unfold Toward.cut;rw[fO hl,Nat.one_shiftLeft];simp[iT _ (fQ e)]
 rw[hcut];unfold signed;simp only[Nat.shiftLeft_zero];by_cases hn:a<0
 ·simp only[hn,lI,fH]
  congr 1
  omega
 simp only[hn,jE,dz,gH]
 congr 1
 omega
end F
section
open Go.RowKit Go.Proofs.Tryz F
def Small(n:Int):Prop:=n.natAbs<2^53
theorem Small.of{n:Int}(h1: -9007199254740991<=n)(h2:n<=9007199254740991):Small n:=by
 unfold Small;have:(2:Nat)^53=9007199254740992:=lN;omega
def Qh(a b:Int):Value:= .complex .f64 (fw a) (fw b)
theorem DZ{P:Program}(w:World)(t:TypeId)(a b c d:Int)(ha:Small a)(hb:Small b)(hc:Small c)(hd:Small d)(hac:Small (a+c))(hbd:Small (b+d)):
  (binOp .add t (.complex .f64 (fw a) (fw b)) (.complex .f64 (fw c) (fw d))).run P w= .ok (.complex .f64 (fw (a+c)) (fw (b+d))) w:=by
 have h1:FloatKind.f64.format.add (fw a) (fw c)=some (fw (a+c)):=ZJ ha hc hac;have h2:FloatKind.f64.format.add (fw b) (fw d)=some (fw (b+d)):=ZJ hb hd hbd;refine run_complex_sum (P:=P) w .add (.inl rfl) t .f64 _ _ _ _ _ _ ?_;have e1:floatBits .add .f64 (fw a) (fw c)=some (fw (a+c)):=h1;have e2:floatBits .add .f64 (fw b) (fw d)=some (fw (b+d)):=h2;simp[cSumBits,e1,e2]
theorem LZ(n:Int)(h:Small n):floatToIntVal .f64 (fw n) .i64=some n:=by
 have h1:(FloatKind.f64.decode (fw n)).toInt .zero=some n:=acr h;unfold floatToIntVal;rw[h1];unfold Small at h;have h2:(2:Nat)^53=9007199254740992:=lN;rw[h2] at h;simp[IntKind.min,IntKind.max,IntKind.signed,IntKind.bits];omega
def Kk(w:World)(a:OA)(n:Nat)(zs:List (Int×Int)):Prop:=mo w a n 1 (zs.map fun z=>Qh z.1 z.2)
def uh(zs:List (Int×Int)):Int:=(zs.map (·.1)).sum
def zK(zs:List (Int×Int)):Int:=(zs.map (·.2)).sum
def Usual(zs:List (Int×Int)):Prop:= ∀z∈zs,0<=z.1/\z.1<=134217728/\0<=z.2/\z.2<=134217728
theorem ace(zs:List (Int×Int))(k:Nat)(hk:k<zs.length):uh (zs.take (k+1))=uh (zs.take k)+zs[k].1/\zK (zs.take (k+1))=zK (zs.take k)+zs[k].2:=by
 rw[bA hk];simp only[uh,zK,bR,List.sum_append,bV,fu,List.sum_cons,List.sum_nil,Int.add_zero,and_self]
theorem UK(zs:List (Int×Int))(h:Usual zs):0<=uh zs/\uh zs<=134217728*zs.length/\0<=zK zs/\zK zs<=134217728*zs.length:=by
 induction zs with
 |nil=>simp[uh,zK]
 |cons z zs ih=>
  have h1:=h z lT;have h2:=ih (fun x hx=>h x (by simp[hx]));simp only[uh,zK,bV,List.sum_cons,List.length_cons] at h2|-;omega
theorem Usual.take{zs:List (Int×Int)}(h:Usual zs)(k:Nat):Usual (zs.take k):=fun z hz=>h z (jv hz)
theorem aom:fw 1=4607182418800017408:=by decide+kernel
end
section
open Go.RowKit Go.Proofs.Tryz F
theorem Hg(a:OA)(n c:Nat)(zs:List (Int×Int))(w:World)(hr:Kk w a n zs)(hu:Usual zs)(hn:n<=4096):
  Y 240 #[.slice a n c] w fun e w'=>e= .returned (.complex .f64 (fw (uh zs)) (fw (zK zs)))/\w=w':=by
 have hlen:zs.length=n:=by have:=hr.1;simpa using this
 go_enter func240,ntmps240
 go_wp2
 go_loop [3,8] (fun z i=> ∃k:Nat,k<=n/\i= U k/\z= .complex .f64 (fw (uh (zs.take k))) (fw (zK (zs.take k)))) (fun _ i=>n -(intOf i).toNat)
 case atStart=>exact⟨0,lK,rfl,by simp[uh,zK,NQ]⟩
 case round=>
  obtain⟨k,hk,rfl,rfl⟩:=hrel;by_cases hlt:k<n
  ·obtain⟨b,off,rfl,_,hc⟩:=hr.2 lK
   have hz:=hu zs[k] (bY lK);have hcell:J w b (off+k) (.complex .f64 (fw zs[k].1) (fw zs[k].2)):=hc k _ (by rw[aS,aj lK];rfl);have hs:=ace zs k lK;have hbd:=UK _ (hu.take k);have hbl:(zs.take k).length<=4096:=by rw[cO];omega
   have hadd:=fun w=>DZ (P:=prog) w 301 (uh (zs.take k)) (zK (zs.take k)) zs[k].1 zs[k].2 (Small.of lK lK) (Small.of lK lK) (Small.of lK lK) (Small.of lK lK) (Small.of lK lK) (Small.of lK lK);have HS:=jj hs;clear hs hc hbd hbl hz hu hr
   go_wp2
   go_round
   case rel=>exact⟨k+1,lK,by go_num,by rw[HS.1,HS.2]⟩
   simp[intOf];omega
  have hkn:k=n:=lK;have ht:zs.take k=zs:=dB lK;rw[ht];clear ht hkn
  go_wp2
  go_ret;exact⟨rfl,rfl⟩
end
section
open Go.RowKit Go.Proofs.Tryz F
theorem xg(P:Program)(w:World)(a:Addr)(m:Mode)(k:FloatKind)(x y:Nat):(store a (.complex k x y) m).run P w=stored P w a (.complex k x y) m:=run_store P w a _ m rfl
attribute [local go_sem] xg
def FJ(z:Int×Int):Value:=Qh z.1 z.2
def Roomy(st:List (Int×Int)):Prop:= ∀z∈st,0<=z.1/\z.1<=1099511627776/\0<=z.2/\z.2<=1099511627776
structure pJ(w:World)(gm gl:Nat)(st:List (Int×Int)):Prop where
 ex: ∃cap,lQ w gm 244 #[O gl st.length cap]/\Row w gl 301 1 st.length cap (st.map FJ)
section
variable{w w':World}{gm gl:Nat}{st:List (Int×Int)}{S:LN}
theorem pJ.mlt(h:pJ w gm gl st):gm<w.heap.size:=by obtain⟨cap,h1,h2⟩:=h.ex;exact h1.lt
theorem pJ.llt(h:pJ w gm gl st):gl<w.heap.size:=by obtain⟨cap,h1,h2⟩:=h.ex;exact h2.lt
theorem pJ.only(h:pJ w gm gl st)(ho:Only S w w')(h1:gm∉S)(h2:gl∉S):pJ w' gm gl st:=by
 obtain⟨cap,k1,k2⟩:=h.ex;exact⟨cap,k1.only ho h1,k2.only ho h2⟩
theorem pJ.drew(h:pJ w gm gl st):pJ w.drew gm gl st:=⟨h.ex⟩
theorem pJ.ne(h:pJ w gm gl st):gm≠gl:=by obtain⟨cap,h1,h2⟩:=h.ex;exact(h2.ne h1 lN).symm
theorem pJ.at_(h:pJ w gm gl st)(k:Nat)(hk:k<st.length):J w gl k (Qh st[k].1 st[k].2):=by
 obtain⟨cap,h1,h2⟩:=h.ex;exact h2.cell (by rw[aS,aj hk];rfl)
theorem pJ.fr(h:pJ w gm gl st)(k:Nat):w.frozen? ⟨gl,k,none⟩=false:=by
 obtain⟨cap,h1,h2⟩:=h.ex;exact h2.frozen k
theorem pJ.head(h:pJ w gm gl st): ∃cap,st.length<=cap/\cap<=maxLen/\J w gm 0 (O gl st.length cap):=by
 obtain⟨cap,h1,h2⟩:=h.ex;exact⟨cap,h2.EI,h2.Vr,h1.cell 0⟩
theorem pJ.set(h:pJ w gm gl st)(hn:n<st.length)(a b:Int):pJ (w.setCell ⟨gl,n,none⟩ (Qh a b)) gm gl (st.set n (a,b)):=by
 obtain⟨cap,h1,h2⟩:=h.ex;refine⟨cap,?_,?_⟩
 ·rw[bG]
  exact h1.far (p:=⟨gl,n,none⟩) h.ne _
 rw[bG,eT];exact h2.mg n (Qh a b)
end
theorem Ot(gm gl:Nat)(st:List (Int×Int))(k:Int)(w:World)(h:pJ w gm gl st)(hn:st.length<=5)(hk:qX k)(b:Bool)(hb:decide (0<=k/\k<st.length)=b):
  Y 290 #[gm,U k] w fun e w'=>e= .returned b/\w=w':=by
 obtain⟨cap,_,_,h1⟩:=h.head;clear h;unfold qX at hk;by_cases hk0:0<=k
 ·by_cases hk1:k<st.length
  ·obtain rfl:b=true:=by rw[<-hb];exact aZ ⟨hk0,hk1⟩
   clear hb;go_enter func290,ntmps290
   go_wp2
   go_ret;exact⟨rfl,rfl⟩
  obtain rfl:b=false:=by rw[<-hb];exact aR fun h=>hk1 h.2
  clear hb;go_enter func290,ntmps290
  go_wp2
  go_ret;exact⟨rfl,rfl⟩
 obtain rfl:b=false:=by rw[<-hb];exact aR fun h=>hk0 h.1
 clear hb;go_enter func290,ntmps290
 go_wp2
 go_ret;exact⟨rfl,rfl⟩
def VU(st:List (Int×Int))(k:Int):Bool:=decide (0<=k/\k<st.length)
def PU(st:List (Int×Int))(k t:Int):Bool:=VU st k&&decide (0<=t/\t<=1048576)
def C8(st:List (Int×Int))(k t:Int):List (Int×Int):=if PU st k t then st.set k.toNat ((st.getD k.toNat (0,0)).1+1,(st.getD k.toNat (0,0)).2+t) else st
theorem ajE(gm gl:Nat)(st:List (Int×Int))(k t:Int)(w:World)(h:pJ w gm gl st)(hn:st.length<=5)(hr:Roomy st)(hk:qX k)(ht:qX t)(b:Bool)(hb:PU st k t=b)(st':List (Int×Int))(hs:C8 st k t=st'):
  Y 267 #[gm,U k,U t] w fun e w'=>e= .returned b/\pJ w' gm gl st'/\Only [gl] w w':=by
 have H:=jj h;obtain⟨cap,_,_,h1⟩:=h.head;by_cases hh:0<=k/\k<st.length
 ·obtain⟨n,rfl⟩:=bB hh.1
  have hlt:n<st.length:=lK;have hB:VU st n=true:=aZ hh;have HB:=jj (show decide (0<=(n:Int)/\(n:Int)<st.length)=true from hB);have i0:(0:Int)<=n:=hh.1;have i1:(n:Int)<st.length:=hh.2;rcases(show t<0\/(¬t<0/\1048576<t)\/(0<=t/\t<=1048576) by omega) with t1|⟨t1,t2⟩|⟨t1,t2⟩
  ·obtain rfl:b=false:=by rw[<-hb];unfold PU;rw[hB,aR lK];rfl
   obtain rfl:st'=st:=by rw[<-hs];unfold C8;rw[hb];rfl
   clear hb hs hB hh h;go_enter func267,ntmps267
   go_wp2_with(go_at_call 290;refine(Ot gm gl st' _ _ H hn hk true HB).mono ?_;rintro e w' ⟨rfl,rfl⟩)
   go_ret;exact⟨rfl,H,Only.refl _ _⟩
  ·obtain rfl:b=false:=by rw[<-hb];unfold PU;rw[hB,aR lK];rfl
   obtain rfl:st'=st:=by rw[<-hs];unfold C8;rw[hb];rfl
   clear hb hs hB hh h;go_enter func267,ntmps267
   go_wp2_with(go_at_call 290;refine(Ot gm gl st' _ _ H hn hk true HB).mono ?_;rintro e w' ⟨rfl,rfl⟩)
   go_ret;exact⟨rfl,H,Only.refl _ _⟩
  obtain rfl:b=true:=by rw[<-hb];unfold PU;rw[hB,aZ ⟨t1,t2⟩];rfl
  have hg:st.getD n (0,0)=st[n]:=by simp[List.getD,hlt]
  have hst:st'=st.set n (st[n].1+1,st[n].2+t):=by rw[<-hs];unfold C8;rw[hb,Int.toNat_natCast,hg];rfl
  have hz:=hr _ (bY hlt);have c0:=h.at_ n hlt;have f0:=h.fr n;obtain⟨z,hze⟩:=ex st[n];rw[<-hze] at hst hz c0;obtain⟨N,T⟩:=z;have c1:J w gl n (.complex .f64 (fw N) (fw T)):=c0;have hsum:=fun w=>DZ (P:=prog) w 301 N T 1 t (Small.of lK lK) (Small.of lK lK) (Small.of lK lK) (Small.of lK lK) (Small.of lK lK) (Small.of lK lK);rw[aom] at hsum;have arA: ∀w,(binOp .add 301 (.complex .f64 (fw N) (fw T)) (.complex .f64 4607182418800017408 (floatOfInt .f64 t))).run prog w= .ok (.complex .f64 (fw (N+1)) (fw (T+t))) w:=hsum;have HST:=jj hst;clear hb hs hB hh h hg hst hz c0 hze hsum hr;go_enter func267,ntmps267
  go_wp2_with(go_at_call 290;refine(Ot gm gl st _ _ H hn hk true HB).mono ?_;rintro e w' ⟨rfl,rfl⟩)
  go_still_tail 17,(by kernel_rfl)
  change wpList _ _ _ _ _ w.drew
  go_wp2_with fail
  go_ret;exact⟨rfl,by rw[HST.out];exact(H.set hlt (N+1) (T+t)).drew,((Only.refl _ _).setCell (.inl lT) _).drew⟩
 have hB:VU st k=false:=aR hh;obtain rfl:b=false:=by rw[<-hb];unfold PU;rw[hB];rfl
 obtain rfl:st'=st:=by rw[<-hs];unfold C8;rw[hb];rfl
 have HB:=jj (show decide (0<=k/\k<st'.length)=false from hB);clear hb hs hh hB h;go_enter func267,ntmps267
 go_wp2_with(go_at_call 290;refine(Ot gm gl st' _ _ H hn hk false HB).mono ?_;rintro e w' ⟨rfl,rfl⟩)
 go_ret;exact⟨rfl,H,Only.refl _ _⟩
theorem Mg:(prog.info? 301).map (fun i=>(i.zero,i.size,i.bytes))=some (some (.complex .f64 0 0),1,16):=by kernel_rfl
theorem Jl(n:Nat):madeCells #[.complex .f64 0 0] (n*1)=((List.replicate n ((0,0):Int×Int)).map FJ).toArray:=by
 have e:FJ (0,0)= .complex .f64 0 0:=by
  show Value.complex .f64 (fw 0) (fw 0)=_;rw[NQ]
 rw[List.map_replicate,e];apply Array.toList_inj.1;rw[fP,kT]
theorem ad8(z:Int)(n:Nat)(hz:z=n)(h1:1<=n)(h5:n<=5)(w:World):
  Y 79 #[U z] w fun e w'=> ∃gm gl,e= .returned (.tuple #[(gm:Nat),U 0])/\pJ w' gm gl (List.replicate n (0,0))/\w.heap.size<=gm/\w.heap.size<=gl/\Be w w':=by
 subst hz;obtain⟨i0,hi0,hz0,hz1,hz2⟩:=bq Mg;have hmk:=fun W=>kQ (P:=prog) W 242 301 i0 _ underlying242 hi0 hz0 .i64 .i64 n n lK lK (by rw[hz2];omega) lK;rw[hz1] at hmk;simp only[Int.toNat_natCast,Value.cells,Jl] at hmk;obtain⟨C,hC⟩:=ex (((List.replicate n ((0,0):Int×Int)).map FJ).toArray);rw[<-hC] at hmk;have HC:=jj hC;clear hi0 hz0 hz1 hz2 hC;go_enter func79,ntmps79
 go_wp2
 go_ret2
 refine⟨w.heap.size+1,w.heap.size,rfl,⟨n,?_,?_⟩,?_,?_,nC.alloc lT _⟩
 ·simp only[fC]
  exact lQ.new' _ _ _ lT
 ·simp only[fC]
  have e:=Row.nR (n:=n) (s:=1) ((lQ.new w 301 C).alloc (.cells #[O w.heap.size n n] 244)) (by rw[HC.out];simp) (by unfold maxLen;omega);rw[HC.out] at e|-;exact e
 ·simp
 simp
end
section
open Go.RowKit Go.Proofs.Tryz F
theorem XY(st:List (Int×Int)): ∀u∈st.map FJ,u.oneCell'=true:=by
 intro u hu;simp only[bM] at hu;obtain⟨p,_,rfl⟩:=hu;rfl
theorem aa4(gm gl:Nat)(st:List (Int×Int))(w:World)(h:pJ w gm gl st)(h1:1<=st.length)(hn:st.length<=5):
  Y 130 #[gm] w fun e w'=> ∃g cap,e= .returned (O g st.length cap)/\Row w' g 301 1 st.length cap (st.map FJ)/\w.heap.size<=g/\Be w w':=by
 obtain⟨i0,hi0,hz0,hz1,hz2⟩:=bq Mg;obtain⟨cap,k1,k2⟩:=h.ex;have hc:=k1.at_ 0;have hlen:=jj k2.len;have hnews:=jj k2.news;have h4:st.length<=5:=hn;clear k1 k2 h;go_enter func130,ntmps130
 go_wp2_with(at_builtin;refine fU _ rfl (.const ()) (.tmp 6) _ rfl 0 301 i0 _ 1 16 underlying242 hi0 hz0 hz1 hz2 rfl lK () 0 [] rfl ⟨lT,.inl ⟨rfl,rfl⟩⟩ ⟨gl,0,none⟩ st.length cap (st.map FJ) rfl hlen hnews (XY st) lK (by unfold maxLen;omega) lK (bF _) w.heap.size rfl ?_;intro g cap' w1 hown1 hgrow1 aaC hlt1)
 have hg:g=w.heap.size:=by
  rcases aaC with h|h
  ·cases h
  exact h
 subst hg;simp only[aO,List.nil_append] at hown1;have ho:Only [] w w1:=(Only.refl [] w).grown hgrow1 (fun k hk=>by cases hk);have HB:=jj ho.mY;have HO:=jj hown1;clear hown1 hgrow1 aaC ho;go_ret;exact⟨w.heap.size,cap',lT,Row.sG HO,aF _,HB⟩
theorem aa5(gm gl:Nat)(st:List (Int×Int))(w:World)(h:pJ w gm gl st)(h1:1<=st.length)(hn:st.length<=5):
  Y 97 #[gm] w fun e w'=> ∃gd gk,e= .returned (gd:Nat)/\pJ w' gd gk st/\w.heap.size<=gd/\w.heap.size<=gk/\Be w w':=by
 have H:=jj h;clear h;go_enter func97,ntmps97
 go_wp2_with fail
 refine(aa4 gm gl st _ H h1 hn).mono ?_;rintro e w1 ⟨g,cap,rfl,hr,hg,hb⟩;have HR:=jj hr;have hz:=hb.size;clear hr
 go_wp2
 go_ret;exact⟨w1.heap.size,g,rfl,⟨cap,lQ.new _ _ _,HR.alloc _⟩,hz,hg,hb.alloc hz _⟩
end
section
open Go.RowKit Go.Proofs.Tryz F
attribute [local go_sem] xg
section
variable{w w':World}{gp cap:Nat}{st:List (Int×Int)}{S:LN}
end
theorem aeE(gm gl:Nat)(st:List (Int×Int))(w:World)(h:pJ w gm gl st)(hn:st.length<=5):
  Y 131 #[gm] w fun e w'=>e= .returned (.tuple #[])/\pJ w' gm gl (List.replicate st.length (0,0))/\Only [gl] w w':=by
 obtain⟨cap,_,_,h1⟩:=h.head;have H:=jj h;obtain⟨n,hnn⟩:=ex st.length;rw[<-hnn] at h1 hn|-;have N:=jj hnn;clear h hnn;go_enter func131,ntmps131
 go_wp2_with fail
 go_loopw [8] (fun i wr=> ∃(k:Nat) (L:List (Int×Int)),k<=n/\i= U k/\pJ wr gm gl L/\L.length=n/\(∀j,j<k->L[j]?=some (0,0))/\Only [gl] w wr) (fun i _=>n -(intOf i).toNat)
 case atStart=>exact⟨0,st,lK,rfl,H,N.symm,lT,Only.refl _ _⟩
 case round=>
  obtain⟨k,L,hk,rfl,hM,hL,hz,ho⟩:=hrel;obtain⟨cap2,_,_,g1⟩:=hM.head;obtain⟨M,LL,ZZ,O0⟩:=j4 hM hL hz ho;rw[hL] at g1;by_cases hlt:k<n
  ·have c0:=hM.at_ k lK
   have f0:=hM.fr k;unfold Qh at c0;obtain⟨z,hz1⟩:=ex (L[k]' lK);rw[<-hz1] at c0;clear hz1;have i0:(0:Int)<=k:=lK;have i1:(k:Int)<n:=lK;clear hM hL hz ho
   go_wp2_with fail
   go_roundw
   case rel=>
    refine⟨k+1,L.set k (0,0),lK,by go_num,?_,by rw[bG];exact LL.out,fun j hj=> ?_,O0.setCell (.inl lT) _⟩
    ·have e:=M.set (n:=k) (tL LL.out) 0 0
     unfold Qh at e;rw[NQ] at e;exact e
    rw[je];split
    ·rename_i e
     subst e;rw[aV (tL LL.out)]
    exact ZZ.out j lK
   case measure=>simp[intOf];omega
  have e:L=List.replicate n (0,0):=by
   apply dD;intro j;rw[dI];by_cases hj:j<n
   ·rw[aV hj];exact ZZ.out j lK
   rw[aU hj,fT (tL LL.out)]
  rw[e] at M;clear hM hL hz ho e
  go_wp2_with fail
  go_end0
  exact⟨rfl,M,O0⟩
end
abbrev Vt:=Bool×Int×Int
def xw(p:Vt):List Value:= [p.1,U p.2.1,U p.2.2]
theorem Nk(p:Vt):(xw p).length=3:=rfl
structure zQ(w:World)(gv gl:Nat)(f:Int)(L:List Vt):Prop where
 ex: ∃cap,lQ w gv 236 #[U f,O gl L.length cap]/\Row w gl 364 3 L.length cap (L.flatMap xw)
section
variable{w w':World}{gv gl:Nat}{f:Int}{L:List Vt}{S:LN}
theorem zQ.vlt(h:zQ w gv gl f L):gv<w.heap.size:=by obtain⟨cap,h1,h2⟩:=h.ex;exact h1.lt
theorem zQ.llt(h:zQ w gv gl f L):gl<w.heap.size:=by obtain⟨cap,h1,h2⟩:=h.ex;exact h2.lt
theorem zQ.only(h:zQ w gv gl f L)(ho:Only S w w')(h1:gv∉S)(h2:gl∉S):zQ w' gv gl f L:=by
 obtain⟨cap,k1,k2⟩:=h.ex;exact⟨cap,k1.only ho h1,k2.only ho h2⟩
end
theorem Mj:(prog.info? 364).map (fun i=>(i.zero,i.size,i.bytes))=some (some (.agg #[false,U 0,U 0]),3,24):=by kernel_rfl
theorem Jm(n:Nat):madeCells #[false,U 0,U 0] (n*3)=((List.replicate n ((false,0,0):Vt)).flatMap xw).toArray:=by
 apply gP;intro i;simp only[cZ];have hd:i=i/3*3+i%3:=lK;rw[show((List.replicate n ((false,0,0):Vt)).flatMap xw)[i]?=((List.replicate n ((false,0,0):Vt)).flatMap xw)[i/3*3+i%3]? by rw[<-hd],flat_get xw 3 Nk _ _ _ (ji _ lK)];by_cases hi:i<n*3
 ·have h2:i/3<n:=lK
  rcases(show i%3=0\/i%3=1\/i%3=2 by omega) with hm|hm|hm
  ·simp[madeCells,hi,h2,hm,xw]
  ·simp[madeCells,hi,h2,hm,xw]
  simp[madeCells,hi,h2,hm,xw]
 have h2: ¬i/3<n:=lK;simp[madeCells,hi,h2]
theorem aeT(f:Int)(n:Nat)(hf:1<=f/\f<=4)(hn:3*f+1=n)(w:World):
  Y 76 #[U f] w fun e w'=> ∃gv gl,e= .returned (.tuple #[(gv:Nat),U 0])/\zQ w' gv gl f (List.replicate n (false,0,0))/\w.heap.size<=gv/\w.heap.size<=gl/\Be w w':=by
 obtain⟨i0,hi0,hz0,hz1,hz2⟩:=bq Mj;have hmk:=fun W=>kQ (P:=prog) W 234 364 i0 _ underlying234 hi0 hz0 .i64 .i64 n n lK lK (by rw[hz2];omega) lK;rw[hz1] at hmk;simp only[Int.toNat_natCast,Value.cells,Jm] at hmk;obtain⟨C,hC⟩:=ex (((List.replicate n ((false,0,0):Vt)).flatMap xw).toArray);rw[<-hC] at hmk;have HC:=jj hC;have HN:=jj hn;have f1:=hf.1;have f4:=hf.2;have n4:n<=13:=lK;clear hi0 hz0 hz1 hz2 hC hn hf;go_enter func76,ntmps76
 go_wp2_with fail
 refine(oC f _ f1 f4).mono ?_;rintro e w' ⟨rfl,rfl⟩;rw[HN.out]
 go_wp2
 go_ret2
 refine⟨w.heap.size+1,w.heap.size,rfl,⟨n,?_,?_⟩,?_,?_,nC.alloc lT _⟩
 ·simp only[fC]
  exact lQ.new' _ _ _ lT
 ·simp only[fC]
  have e:=Row.nR (n:=n) (s:=3) ((lQ.new w 364 C).alloc (.cells #[U f,O w.heap.size n n] 236)) (by rw[HC.out];simp[qj xw 3 Nk]) (by unfold maxLen;omega);rw[HC.out] at e|-;exact e
 ·simp
 simp
theorem Fixed.mv{t:TypeId}(h:Fixed x w t a)(h':Fixed x w' t a)(hy:w.heap.size<=y):Fixed y w' t a:=fun b hb=>by
 obtain⟨_,cs,hc⟩:=h b hb;have:=hc.lt;exact⟨lK,(h' b hb).2⟩
theorem sK.mv{bs:List Rq}(h:sK x w a n c bs)(h':sK x w' a n c bs)(hy:w.heap.size<=y):sK y w' a n c bs:=⟨h'.row,h.fix.mv h'.fix hy⟩
theorem CF.mv{cd:CD}(h:CF x w cd)(h':CF x w' cd)(hy:w.heap.size<=y):CF y w' cd:=⟨h'.is,h.b.mv h'.b hy,h.v.mv h'.v hy⟩
theorem mM.mv{s:CQ}(h:mM x w f n g s)(h':mM x w' f n g s)(hy:w.heap.size<=y):mM y w' f n g s:=
 ⟨h'.blk,h'.bp,h'.bc,h'.np,h'.nc,h'.ne,h.b.mv h'.b hy,fun v hv=>sK.mv (h.ps v hv) (h'.ps v hv) hy,fun v hv=>sK.mv (h.cs v hv) (h'.cs v hv) hy⟩
theorem lY.mv{num ahead:Int}{gi:Nat}{i:tJ}(h:lY x w f n num ahead gi i)(h':lY x w' f n num ahead gi i)(hy:w.heap.size<=y):lY y w' f n num ahead gi i:=
 ⟨h'.blk,h'.row,h'.len,h'.cap,fun p hp=>⟨(h.at_ p hp).slot.mv (h'.at_ p hp).slot hy,(h.at_ p hp).cert.mv (h'.at_ p hp).cert hy,(h.at_ p hp).dw.mv (h'.at_ p hp).dw hy,(h'.at_ p hp).short⟩,h'.sep⟩
theorem nJ.mv{A:OA}{m:Nat}{L:List wN}(h:nJ x w A m c L)(h':nJ x w' A m c L)(hy:w.heap.size<=y):nJ y w' A m c L:=
 ⟨h'.own,h'.len,fun s hs=>⟨(h'.is s hs).row,(h'.is s hs).len,(h.is s hs).fix.mv (h'.is s hs).fix hy,(h'.is s hs).cap⟩⟩
def Plain(w:World)(g:Nat):Prop:= ∀t cs,lQ w g t cs->t∉KH/\t≠228
theorem Plain.of{t:TypeId}{cs:AV}(h:lQ w g t cs)(ht:t∉KH/\t≠228):Plain w g:=fun t' cs' h'=>by
 unfold lQ at h h';rw[h] at h';injection h' with h';injection h' with _ ht';exact ht'▸ht
theorem Plain.own{base:Nat}{t:TypeId}(h:w.ownsRow base t s (.slice a n c) n xs)(ht:t∉KH/\t≠228): ∀g∈(a.map (·.block)).toList,Plain w g:=fun g hg=>by
 obtain⟨_,cs,hc⟩:=lW h g hg;exact Plain.of hc ht
theorem Plain.row{t:TypeId}(h:Row w g t s n cap xs)(ht:t∉KH/\t≠228):Plain w g:=by
 obtain⟨cur,hb,_⟩:=h.parts;exact Plain.of hb ht
structure Pure(F:LN)(P:World->Prop):Prop where
 only: ∀{w w':World} {S:LN},P w->Only S w w'->(∀k∈F,k∉S)->P w'
 lt: ∀{w:World},P w-> ∀k∈F,k<w.heap.size
 plain: ∀{w:World},P w-> ∀k∈F,Plain w k
def nM(F:LN)(P:World->Prop):ni:=⟨F,fun _ w=>P w⟩
theorem Pure.good{F:LN}{P:World->Prop}(h:Pure F P):(nM F P).Good:=
 ⟨fun hp ho _ _ hn=>h.only hp ho hn,fun hp _=>hp,fun _ hp _=>hp,fun hp=>h.lt hp,fun hp k hk=> .inr fun t cs hc=>(h.plain hp k hk t cs hc).1,fun hp k hk cs hc=>(h.plain hp k hk _ cs hc).2 rfl⟩
def mW(g:Nat)(t:TypeId)(cs:AV):ni:=nM [g] fun w=>lQ w g t cs
theorem oF(g:Nat)(t:TypeId)(cs:AV)(ht:t∉KH/\t≠228):(mW g t cs).Good:=
 Pure.good ⟨fun hp ho hn=>hp.only ho (hn _ lT),fun hp k hk=>by
  simp only[au] at hk;subst hk;exact hp.lt,fun hp k hk=>by
  simp only[au] at hk;subst hk;exact Plain.of hp ht⟩
def tZ(nn b:Nat)(K:List (Int×List Int)):ni:=nM [nn,b] fun w=>vC w nn b K
theorem EX(nn b:Nat)(K:List (Int×List Int)):(tZ nn b K).Good:=
 Pure.good ⟨fun hp ho hn=>hp.only ho (hn _ lT) (hn _ lT),fun hp k hk=>by
  simp only[ay,aI,bK] at hk;rcases hk with rfl|rfl
  ·exact hp.obj.lt
  ·exact hp.map.lt,fun hp k hk=>by
  simp only[ay,aI,bK] at hk;rcases hk with rfl|rfl
  ·exact Plain.of hp.obj lN
  exact fun t cs hc=>absurd rfl (hp.far hc)⟩
def Da(gt:Nat)(now:Int):ni:=nM [gt] fun w=>vT w gt now
theorem Lp(gt:Nat)(now:Int):(Da gt now).Good:=oF _ _ _ lN
def abR(g:Nat)(t:TypeId)(s n cap:Nat)(xs:LV):ni:=nM [g] fun w=>Row w g t s n cap xs
theorem Yv(g:Nat)(t:TypeId)(s n cap:Nat)(xs:LV)(ht:t∉KH/\t≠228):(abR g t s n cap xs).Good:=
 Pure.good ⟨fun hp ho hn=>hp.only ho (hn _ lT),fun hp k hk=>by
  simp only[au] at hk;subst hk;exact hp.lt,fun hp k hk=>by
  simp only[au] at hk;subst hk;exact Plain.row hp ht⟩
def Fg(gt:Nat)(f cl:Int)(T:List oO)(S:LN):ni:=nM S fun w=>TabAt w gt f cl T S
theorem Nh(gt:Nat)(f cl:Int)(T:List oO)(S:LN):(Fg gt f cl T S).Good:=
 Pure.good ⟨fun hp ho hn=>hp.only ho hn,fun hp=>hp.lt,fun hp k hk=>by
  obtain⟨a,cap,rfl,hb,hr⟩:=hp.ex;simp only[ay] at hk;rcases hk with rfl|hk
  ·exact Plain.of hb lN
  exact Plain.own hr lN k hk⟩
def Gw(gv gl:Nat)(f:Int)(L:List Vt):ni:=nM [gv,gl] fun w=>zQ w gv gl f L
theorem YH(gv gl:Nat)(f:Int)(L:List Vt):(Gw gv gl f L).Good:=
 Pure.good ⟨fun hp ho hn=>hp.only ho (hn _ lT) (hn _ lT),fun hp k hk=>by
  simp only[ay,aI,bK] at hk;rcases hk with rfl|rfl
  ·exact hp.vlt
  ·exact hp.llt,fun hp k hk=>by
  obtain⟨cap,hb,hr⟩:=hp.ex;simp only[ay,aI,bK] at hk;rcases hk with rfl|rfl
  ·exact Plain.of hb lN
  exact Plain.row hr lN⟩
def Gr(g:Nat)(m t:Int):ni:=nM [g] fun w=>Ld w g m t
theorem XH(g:Nat)(m t:Int):(Gr g m t).Good:=oF _ _ _ lN
theorem PY(a:OA):blks a=(a.map (·.block)).toList:=by cases a<;>rfl
def ET(S:LN)(gd C:Nat)(es:List CY)(st:List (Bool×Int))(ct:List (Int×Int)):ni:=nM S fun w=>Er w S gd C es st ct
theorem Mq(S:LN)(gd C:Nat)(es:List CY)(st:List (Bool×Int))(ct:List (Int×Int)):(ET S gd C es st ct).Good:=
 Pure.good ⟨fun hp ho hn=>hp.only ho hn,fun hp=>hp.lt,fun hp k hk=>by
  obtain⟨gs,gc,gl,a,cap,rfl,hb,hr,hs,hc⟩:=hp.ex;obtain⟨cc,hcb,hcr⟩:=hc.ex;rw[PY] at hk;simp only[ay] at hk;rcases hk with rfl|rfl|rfl|rfl|hk
  ·exact Plain.of hb lN
  ·exact Plain.of hs.b lN
  ·exact Plain.of hcb lN
  ·exact Plain.row hcr lN
  exact Plain.own hr lN k hk⟩
def Dx(gm gl:Nat)(st:List (Int×Int)):ni:=nM [gm,gl] fun w=>pJ w gm gl st
theorem Mx(gm gl:Nat)(st:List (Int×Int)):(Dx gm gl st).Good:=
 Pure.good ⟨fun hp ho hn=>hp.only ho (hn _ lT) (hn _ lT),fun hp k hk=>by
  simp only[ay,aI,bK] at hk;rcases hk with rfl|rfl
  ·exact hp.mlt
  ·exact hp.llt,fun hp k hk=>by
  obtain⟨cap,hb,hr⟩:=hp.ex;simp only[ay,aI,bK] at hk;rcases hk with rfl|rfl
  ·exact Plain.of hb lN
  exact Plain.row hr lN⟩
structure xG(w:World)(g cap:Nat)(l:List (Nat×List Int)):Prop where
 out:Row w g 35 1 l.length cap (l.map fun p=> .slice (some ⟨p.1,0,none⟩) p.2.length p.2.length)
 KI: ∀p∈l,lQ w p.1 3 (ints p.2)
 sep:(l.map Prod.fst).Nodup
def wJ(g cap:Nat)(l:List (Nat×List Int)):ni:=nM (g::l.map Prod.fst) fun w=>xG w g cap l
theorem xG.only{S:LN}(h:xG w g cap l)(ho:Only S w w')(hn: ∀k∈g::l.map Prod.fst,k∉S):xG w' g cap l:=
 ⟨h.out.only ho (hn _ lT),fun p hp=>(h.KI p hp).only ho (hn _ (cK _ (bM.2 ⟨p,hp,rfl⟩))),h.sep⟩
theorem yY(g cap:Nat)(l:List (Nat×List Int)):(wJ g cap l).Good:=
 Pure.good ⟨fun hp ho hn=>hp.only ho hn,fun hp k hk=>by
  simp only[ay,bM] at hk;rcases hk with rfl|⟨p,hk,rfl⟩
  ·exact hp.out.lt
  ·exact(hp.KI p hk).lt,fun hp k hk=>by
  simp only[ay,bM] at hk;rcases hk with rfl|⟨p,hk,rfl⟩
  ·exact Plain.row hp.out lN
  exact Plain.of (hp.KI p hk) lN⟩
theorem xG.set(h:xG w g cap l){p:Nat×List Int}(hj:l[j]?=some p)(i:Nat)(n:Int):xG (w.setCell ⟨p.1,i,none⟩ (U n)) g cap (l.set j (p.1,p.2.set i n)):=by
 have hjl:j<l.length:=(ah.1 hj).1;have hpm:=ak hj;obtain⟨_,e⟩:=ah.1 hj;have gne:g≠p.1:=by
  obtain⟨cur,hb,_⟩:=h.out.parts;exact hb.nY (h.KI p hpm) lN
 have e1:(l.set j (p.1,p.2.set i n)).map Prod.fst=l.map Prod.fst:=by
  rw[eT];refine dD fun k=> ?_;by_cases hk:k=j
  ·subst hk
   rw[aL (mR hjl),aS,hj];rfl
  rw[aX (dR hk)]
 have e2:(l.set j (p.1,p.2.set i n)).map (fun p=>Value.slice (some ⟨p.1,0,none⟩) p.2.length p.2.length)=l.map fun p=>Value.slice (some ⟨p.1,0,none⟩) p.2.length p.2.length:=by
  rw[eT];refine dD fun k=> ?_;by_cases hk:k=j
  ·subst hk
   rw[aL (mR hjl),aS,hj];simp
  rw[aX (dR hk)]
 refine⟨?_,fun q hq=> ?_,by rw[e1];exact h.sep⟩
 ·rw[e2,bG]
  exact h.out.far gne _
 obtain⟨k,hk⟩:=bT.1 hq;by_cases hkj:k=j
 ·subst hkj
  rw[aL hjl] at hk;injection hk with hk;subst hk;have:=(h.KI p hpm).mg i (U n);rw[ints_set] at this;exact this
 rw[aX (dR hkj)] at hk;have hkl:k<l.length:=(ah.1 hk).1;refine(h.KI q (ak hk)).far (fun e'=> ?_) _;have nd:=fun(i j:Nat) (hi:i<(l.map Prod.fst).length) (hj:j<(l.map Prod.fst).length) (hlt:i<j)=>eO.1 h.sep i j hi hj hlt;obtain⟨_,eq⟩:=ah.1 hk;rcases Nat.lt_or_gt_of_ne hkj with hlt|hlt
 ·exact nd k j (mR hkl) (mR hjl) hlt (by simp only[List.getElem_map,e,eq];exact e')
 exact nd j k (mR hjl) (mR hkl) hlt (by simp only[List.getElem_map,e,eq];exact e'.symm)
def Cv(A:OA)(c:Nat)(L:List wN):ni:=⟨(A.map (·.block)).toList,fun x w=>nJ x w A L.length c L⟩
theorem EY(A:OA)(c:Nat)(L:List wN):(Cv A c L).Good:=
 ⟨fun hp ho hS _ hn=>nJ.only hp ho hS fun b hb=>hn b (aJ.2 hb),fun hp hy=>nJ.re hp hy,fun hp h' hy=>nJ.mv hp h' hy,fun hp k hk=>(hp.own.lt k (by rw[lV];exact aJ.1 hk)).2,
  fun hp=>wH hp.own lN,fun hp k hk cs hc=>(Plain.own hp.own lN k hk _ cs hc).2 rfl⟩
def zX(f:Int)(n:Nat)(k:Nat)(gi:Nat)(i:tJ):ni:=⟨i.foot gi,fun x w=>lY x w f n k 4 gi i⟩
theorem Ja(f:Int)(n k gi:Nat)(i:tJ):(zX f n k gi i).Good:=
 ⟨fun hp ho hS _ hn=>lY.only hp ho hS hn,fun hp hy=>lY.re hp hy,fun hp h' hy=>lY.mv hp h' hy,fun hp=>lY.lt hp,fun hp=>lY.soft hp,fun hp q hk cs hc=>by
  replace hk:q∈i.foot gi:=hk;replace hp:lY _ _ f n k 4 gi i:=hp;simp only[tJ.foot,ay,bg] at hk;rcases hk with rfl|rfl|⟨p,hpm,hk⟩
  ·exact hp.blk.nY hc lN rfl
  ·exact hp.row.nY hc lN rfl
  have s:=(hp.at_ p hpm).slot;simp only[qm.foot,CQ.foot,ay,aI,bK] at hk;rcases hk with rfl|rfl|rfl
  ·exact s.blk.nY hc lN rfl
  ·exact s.bp.nY hc lN rfl
  exact s.bc.nY hc lN rfl⟩
def sD(f:Int)(n:Nat):Nat->List (Nat×tJ)->List ni
 |_,[]=> []
 |k,(g,i)::l=>zX f n k g i::sD f n (k+1) l
theorem Jc(f:Int)(n:Nat): ∀(l:List (Nat×tJ)) (k j:Nat),(sD f n k l)[j]?=l[j]?.map fun p=>zX f n (k+j) p.1 p.2
 | [],k,j=>by simp[sD]
 |(g,i)::l,k,0=>by simp[sD]
 |(g,i)::l,k,j+1=>by
  have:=Jc f n l (k+1) j;rw[show k+1+j=k+(j+1) by omega] at this;simpa[sD] using this
theorem Jd(f:Int)(n:Nat)(g:Nat)(i:tJ): ∀(l:List (Nat×tJ)) (k j:Nat),(sD f n k l).set j (zX f n (k+j) g i)=sD f n k (l.set j (g,i))
 | [],k,j=>rfl
 |(g',i')::l,k,0=>rfl
 |(g',i')::l,k,j+1=>by
  have:=Jd f n g i l (k+1) j;rw[show k+1+j=k+(j+1) by omega] at this;simp[sD,this]
structure lU where
 nn:Nat
 gt:Nat
 now:Int
 gr:Nat
 rX:Nat
 is:List (Nat×tJ)
 nH:Nat
 T:List oO
 ST:List Nat
 gv:Nat
 Iz:Nat
 V:List Vt
 gg:Nat
 gd:Nat
 SL:List Nat
 es:List CY
 st:List (Bool×Int)
 ct:List (Int×Int)
 gm:Nat
 Dl:Nat
 ga:List (Int×Int)
 gp:Nat
 xU:List Value
 gb:Nat
 vZ:List Value
 xL:Nat
 Aq:Nat
 nN:List (Nat×List Int)
 xK:Nat
 zR:Nat
 nG:List (Nat×List Int)
 run:Int
 view:Int
 vk:Int
 since:Int
 start:Int
 stopped:Bool
 oa:Option Addr
 oc:Nat
 ol:List wN
 c0:Int
 c1:Int
 c2:Int
 c3:Int
 c4:Int
abbrev lU.outs(d:lU)(A:OA)(c:Nat)(L:List wN):lU:={d with oa:=A,oc:=c,ol:=L}
abbrev lU.runs(d:lU)(z:Int):lU:={d with run:=z}
abbrev lU.GU(d:lU)(t:Int):lU:={d with now:=t}
abbrev lU.tabled(d:lU)(T:List oO)(ST:LN):lU:={d with T:=T,ST:=ST}
abbrev lU.booked(d:lU)(SL:LN)(es:List CY)(st:List (Bool×Int))(ct:List (Int×Int)):lU:={d with SL:=SL,es:=es,st:=st,ct:=ct}
abbrev lU.yS(d:lU)(ga:List (Int×Int)):lU:={d with ga:=ga}
abbrev lU.insts(d:lU)(k g:Nat)(i:tJ):lU:={d with is:=d.is.set k (g,i)}
abbrev lU.XA(d:lU)(j:Nat)(p:Nat×List Int)(i:Nat)(z:Int):lU:={d with nG:=d.nG.set j (p.1,p.2.set i z)}
abbrev lU.pred(d:lU)(j:Nat)(p:Nat×List Int)(i:Nat)(z:Int):lU:={d with nN:=d.nN.set j (p.1,p.2.set i z)}
def yB(f id:Int)(d:lU):Array Value:=#[U f,U 2,U 2,U 4,U 64,U 8,U 8,U 8,U 1,U 2,U 12,U 8,U 6,U 2,U 6,
 U id,.pointer (some ⟨d.nn,0,none⟩),.pointer (some ⟨d.gt,0,none⟩),.slice (some ⟨d.gr,0,none⟩) d.is.length d.rX,.pointer (some ⟨d.nH,0,none⟩),.pointer (some ⟨d.gv,0,none⟩),.pointer (some ⟨d.gg,0,none⟩),.pointer (some ⟨d.gd,0,none⟩),.pointer (some ⟨d.gm,0,none⟩),
 .slice (some ⟨d.gp,0,none⟩) (d.xU.length/5) (d.xU.length/5),.slice (some ⟨d.gb,0,none⟩) (d.vZ.length/11) (d.vZ.length/11),.slice (some ⟨d.xL,0,none⟩) d.nN.length d.Aq,.slice (some ⟨d.xK,0,none⟩) d.nG.length d.zR,
 U d.run,U d.view,U d.vk,U d.since,U d.start,d.stopped,.slice d.oa d.ol.length d.oc,U d.c0,U d.c1,U d.c2,U d.c3,U d.c4]
def sF(f id:Int)(n gx:Nat)(d:lU):List ni:=
 mW gx 131 (yB f id d)::Da d.gt d.now::abR d.gr 164 1 d.is.length d.rX (d.is.map fun p=> .pointer (some ⟨p.1,0,none⟩))::Fg d.nH f 2 d.T d.ST::Gw d.gv d.Iz f d.V::Gr d.gg 8 8::
 ET d.SL d.gd 2 d.es d.st d.ct::Dx d.gm d.Dl d.ga::mW d.gp 290 d.xU.toArray::mW d.gb 292 d.vZ.toArray::wJ d.xL d.Aq d.nN::wJ d.xK d.zR d.nG::Cv d.oa d.oc d.ol::sD f n 0 d.is
structure uU where
 n:Nat
 ps:List Int
 ap:Option Addr
 cp:Nat
 al:Option Addr
 cl:Nat
 ra:Nat->Option Addr
 rc:Nat->Nat
 q:Nat->Nat
 g:Nat->Nat
 lost:Nat->Int
 ms:Nat->List (Value×List Int)
abbrev uU.qs(d:uU)(g:Nat->Nat)(lost:Nat->Int)(ms:Nat->List (Value×List Int)):uU:={d with g:=g,lost:=lost,ms:=ms}
def uU.foot(gn:Nat)(d:uU):List Nat:=gn::((d.ap.map (·.block)).toList++((d.al.map (·.block)).toList++((List.range d.n).flatMap (fun a=>((d.ra a).map (·.block)).toList)++(List.range (d.n*d.n)).flatMap fun k=> [d.q k,d.g k])))
structure oD(w:World)(gn:Nat)(room:Int)(d:uU):Prop where
 blk:lQ w gn 158 #[.slice d.ap d.n d.cp,.slice d.al d.n d.cl]
 pr:w.ownsRow 0 3 1 (.slice d.ap d.n d.cp) d.n (d.ps.map fun(x:Int)=>Value.int .i64 x)
 lr:w.ownsRow 0 159 1 (.slice d.al d.n d.cl) d.n ((List.range d.n).map fun a=>Value.slice (d.ra a) d.n (d.rc a))
 rr: ∀a,a<d.n->w.ownsRow 0 160 1 (.slice (d.ra a) d.n (d.rc a)) d.n ((List.range d.n).map fun b=>Value.pointer (some ⟨d.q (a*d.n+b),0,none⟩))
 DU:Qs w (d.n*d.n) d.q d.g room d.lost d.ms
section
variable{w w':World}{gn:Nat}{room:Int}{d:uU}{S:LN}
theorem oD.nt(h:oD w gn room d):Nt 0 w gn d.n d.ps d.q d.g room d.lost d.ms:=⟨⟨d.ap,d.cp,d.al,d.cl,d.ra,d.rc,h.blk,h.pr,h.lr,h.rr⟩,h.DU⟩
theorem oD.yQ(hk:k<d.n*d.n):d.q k∈d.foot gn/\d.g k∈d.foot gn:=by
 have: ∀z∈ [d.q k,d.g k],z∈d.foot gn:=fun z hz=>cK _ (bH _ (bH _ (bH _ (bg.2 ⟨k,fE.2 hk,hz⟩))));exact⟨this _ lT,this _ lT⟩
theorem oD.aar{a:Nat}(ha:a<d.n): ∀z∈((d.ra a).map (·.block)).toList,z∈d.foot gn:=fun z hz=>cK _ (bH _ (bH _ (bL _ (bg.2 ⟨a,fE.2 ha,hz⟩))))
theorem oD.aaq: ∀z∈(d.ap.map (·.block)).toList,z∈d.foot gn:=fun z hz=>cK _ (bL _ hz)
theorem oD.aap: ∀z∈(d.al.map (·.block)).toList,z∈d.foot gn:=fun z hz=>cK _ (bH _ (bL _ hz))
theorem oD.aao:gn∈d.foot gn:=jL
theorem DJ{base e:Nat}(h:w.ownsRow base e s (.slice a n c) n xs)(ho:Only S w w')(hn: ∀z∈(a.map (·.block)).toList,z∉S):w'.ownsRow base e s (.slice a n c) n xs:=
 mK h ho fun g hg=>hn g (by rw[lV] at hg;exact aJ.2 hg)
theorem oD.kind(h:oD w gn room d): ∀z∈d.foot gn,∃t cs,lQ w z t cs/\t∉KH/\t≠228:=by
 intro z hz;simp only[uU.foot,ay,aQ,bg,fE] at hz;rcases hz with rfl|hz|hz|⟨a,ha,hz⟩|⟨k,hk,hz⟩
 ·exact⟨_,_,h.blk,lN,lN⟩
 ·obtain⟨_,cs,hb⟩:=lW h.pr z hz
  exact⟨_,cs,hb,lN,lN⟩
 ·obtain⟨_,cs,hb⟩:=lW h.lr z hz
  exact⟨_,cs,hb,lN,lN⟩
 ·obtain⟨_,cs,hb⟩:=lW (h.rr a ha) z hz
  exact⟨_,cs,hb,lN,lN⟩
 have Q:=h.DU.DU k hk;obtain⟨a,c,h1,h2,h3⟩:=Q.ex;rcases hz with rfl|rfl|hz
 ·exact⟨_,_,h1,lN,lN⟩
 ·rcases h3 with⟨_,e⟩|e
  ·rw[e]
   exact⟨_,_,h1,lN,lN⟩
  rw[e] at h2;obtain⟨cur,_,h4,_⟩:=h2.blk;exact⟨_,_,h4,lN,lN⟩
 cases hz
theorem oD.only(h:oD w gn room d)(ho:Only S w w')(hS: ∀z∈S,∀cs,¬lQ w z 5 cs)(hn: ∀z∈d.foot gn,z∉S):oD w' gn room d:=
 ⟨h.blk.only ho (hn _ oD.aao),DJ h.pr ho fun z hz=>hn z (oD.aaq z hz),DJ h.lr ho fun z hz=>hn z (oD.aap z hz),fun a ha=>DJ (h.rr a ha) ho fun z hz=>hn z (oD.aar ha z hz),
  ⟨fun k hk=>(h.DU.DU k hk).only ho (hn _ (oD.yQ (gn:=gn) hk).1) (hn _ (oD.yQ (gn:=gn) hk).2) hS,h.DU.apart⟩⟩
theorem nV.byte{z:Nat}(h:nV x w z): ∀cs,¬lQ w z 5 cs:=fun cs hb=>by
 rcases h with⟨_,h⟩|h
 ·exact absurd (h _ _ hb) lN
 exact absurd (h _ _ hb) lN
def xS(gn:Nat)(room:Int)(d:uU):ni:=⟨d.foot gn,fun _ w=>oD w gn room d⟩
theorem ME(gn:Nat)(room:Int)(d:uU):(xS gn room d).Good:=
 ⟨fun hp ho hS _ hn=>oD.only hp ho (fun z hz=>(hS z hz).byte) hn,fun hp _=>hp,fun _ hp _=>hp,fun hp k hk=>by
  obtain⟨t,cs,hb,_⟩:=oD.kind hp k hk;exact hb.lt,fun hp k hk=>by
  obtain⟨t,cs,hb,hi,_⟩:=oD.kind hp k hk;exact nV.of hb hi,fun hp k hk cs hc=>by
  obtain⟨t,cs',hb,_,hi⟩:=oD.kind hp k hk;exact hi (sN hc hb)⟩
theorem oD.turn(h:oD w gn room d)(hk:k<d.n*d.n){uW:Nat->Int}(hN:Nt 0 w' gn d.n d.ps d.q (ru d.g k g') room uW ms')(ho:Only [d.q k,d.g k] w w'):oD w' gn room (d.qs (ru d.g k g') uW ms'):=by
 have T:=(h.DU.DU k hk).types;refine⟨h.blk.only ho fun hm=> ?_,qK h.pr ho T lN lN,qK h.lr ho T lN lN,fun a ha=>qK (h.rr a ha) ho T lN lN,hN.qs⟩;rcases T _ hm _ _ h.blk with e|e
 ·exact absurd e lN
 exact absurd e lN
theorem uU.XF(gn k g':Nat)(uW:Nat->Int)(ms':Nat->List (Value×List Int)){B:Nat}(hg:g'=d.g k\/B<=g')(hk:k<d.n*d.n): ∀z∈(d.qs (ru d.g k g') uW ms').foot gn,z∈d.foot gn\/B<=z:=by
 intro z hz;simp only[uU.foot,ay,aQ,bg,fE] at hz;rcases hz with rfl|hz|hz|⟨a,ha,hz⟩|⟨j,hj,rfl|rfl|hz⟩
 ·exact .inl oD.aao
 ·exact .inl (oD.aaq z hz)
 ·exact .inl (oD.aap z hz)
 ·exact .inl (oD.aar ha z hz)
 ·exact .inl (oD.yQ hj).1
 ·by_cases e:j=k
  ·subst e
   have e2:(ru d.g j g') j=g':=by simp[ru]
   rw[e2];rcases hg with rfl|hg
   ·exact .inl (oD.yQ hj).2
   exact .inr hg
  have e2:(ru d.g k g') j=d.g j:=by simp[ru,e]
  rw[e2];exact .inl (oD.yQ hj).2
 cases hz
theorem Step.net{w0:World}{L L':List ni}(h:Step x w0 w L L')(hj:L'[j]?=some (xS gn room d))(hk:k<d.n*d.n){uW:Nat->Int}(hN:Nt 0 w' gn d.n d.ps d.q (ru d.g k g') room uW ms')(ho:Only [d.q k,d.g k] w w')(hg:g'=d.g k\/w.heap.size<=g'):
  Step x w0 w' L (L'.set j (xS gn room (d.qs (ru d.g k g') uW ms'))):=
 h.turn hj ho (fun z hz=> .inl (by
  simp only[ay,aI,bK] at hz;rcases hz with rfl|rfl
  ·exact(oD.yQ hk).1
  exact(oD.yQ hk).2)) (oD.turn (h.sys.get hj) hk hN ho) (ME _ _ _) (uU.XF gn k g' uW ms' hg hk)
end
end Go.Proofs.YtgnhecmnlddjhaaGreat
