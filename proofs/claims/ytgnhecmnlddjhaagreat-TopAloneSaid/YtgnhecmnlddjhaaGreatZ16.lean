/- TopAlone, part 17 of 24: a proof squeezed by a program. -/
import Derived.Test.YtgnhecmnlddjhaaGreatZ15
set_option linter.unusedVariables false
set_option linter.unusedSimpArgs false
set_option linter.defProp false
set_option maxRecDepth 100000
set_option maxHeartbeats 6400000
namespace Go.Proofs.YtgnhecmnlddjhaaGreat
open Go.RowKit Go.Proofs.Tryz
variable{E:Who}{K:KS}{S S':KN}{b:List Rq}{d:sI}{f z:Int}{g j k n x:Nat}{l:LI}{w:World}
theorem abH{d:lU}(h:d.val.nN[k]?=some l): ∃g,d.nN[k]?=some (g,l):=by
 simp only[lU.val,aS,aK] at h;obtain⟨⟨g,l'⟩,h1,rfl⟩:=h;exact⟨g,h1⟩
theorem OD{id gx b:Nat}{d:lU}(h:qE x w f n id gx b d K){p:Nat×List Int}(hk:d.nN[k]?=some p):J w d.xL k (O p.1 p.2.length p.2.length)/\k<d.nN.length/\ ∀i,w.frozen? ⟨p.1,i,none⟩=false:=by
 refine⟨h.nN.out.cell (by rw[aS,hk];rfl),(ah.1 hk).1,fun i=>(h.nN.KI p (ak hk)).frozen i⟩
theorem abE{d:lU}{s:Nat}(hk:d.nN[k]?=some (g,l))(z:Int):(d.pred k (g,l) s z).val={d.val with nN:=d.val.nN.modify k fun l=>l.set s z}:=by
 have hkl:k<d.nN.length:=(ah.1 hk).1;simp only[lU.val,ql.mk.injEq,lJ,iY];refine dD fun q=> ?_;rw[aS,eY,aS];by_cases hq:k=q
 ·subst hq
  rw[aL hkl,hk];simp
 rw[aX hq];simp[hq]
theorem Uq(x:Nat)(w:World)(E:Who)(gx b:Nat)(d:lU)(K:KS)(h:qE x w E.f E.n E.id gx b d K)(hx:x<w.heap.size)(h1:1<=E.f)(h4:E.f<=4)(hn:(E.n:Int)=3*E.f+1)(k:Nat)(K':KS)(v':ql)(hv:Au E k (K,d.val)=some (K',v')):
  Y 124 #[gx,U k] w fun e w'=>e= .returned (.tuple #[])/\Kt x w w' E gx b d K K' v':=by
 unfold Au at hv;simp only[aA] at hv;obtain⟨i,hi,u,hu,hv⟩:=hv;have pf:=mI hu;obtain⟨gi,I,hI,hIv⟩:=qd hi;have hgi:d.is[k]?.map Prod.fst=some gi:=by rw[hI];rfl
 have PT:Hid (∀u,qE x u E.f E.n E.id gx b d K->J u d.gr k gi):=jj fun u hu=>hu.ptr hI;obtain⟨s,hs⟩: ∃s:Nat,(s:Int)=(nP i.ps:Int)+1:=⟨nP i.ps+1,lK⟩;have hT:d.T.length<=58:=pf.T;have hvw:d.view=0:=pf.v;have hnl:nP i.ps<=16:=by have:=Jq i.ps;rw[pf.len] at this;exact this
 have hdl:oh i.ps<=16:=by have:=Db i.ps;rw[pf.len] at this;exact this
 have k0:(0:Int)<=k:=lK;have k1:(k:Int)<d.is.length:=by have:=zZ hI;omega
 have c18:=h.blk.at_ 18;have Sk:=PT.out w h;obtain⟨H,HX,vB,HI,HG,PF⟩:=j6 h hx hn hi hgi pf;obtain⟨HS,HV,HNL,HVW⟩:=j4 hs hv hnl hvw;clear h hx hn hi hgi pf hu hv hI hIv hs hnl hvw;go_enter func124,ntmps124
 go_wp2_with fail
 refine(aed H HX k i HI gi HG).mono ?_;rintro e w1 ⟨rfl,hb1⟩;rw[<-HS.out];have B1:=jj hb1;clear hb1 c18 Sk;have H1:=jj (H.below B1)
 go_upto_region 2 with fail
 have KS:Hid (∀u,Be w1 u->J u gx 3 (U 4)):=jj fun u o=>(H1.below o).blk.cell 3;refine rD (fun u=>J u gx 3 (U 4)) 25 (.take 0 (.one 1 (tk 2 4 (.one 6 (tk 7 9 (tk 17 5 (.one 16 (tk 22 3 .done)))))))) (KS.out _ (aC _ _).drew) fun w2 B2 hS0=> ?_;have H2:=jj (H1.below B2)
 repeat(first|refine' tT ?_|refine' tS ?_)
 refine pO fun KT lS=> ?_;go_simp;refine(rV H2 k i HI gi HG).mono ?_;rintro e w3 ⟨rfl,rfl⟩;rw[PF.on];refine oH lS hS0 ?_
 repeat(first|refine' tT ?_|refine' tS ?_)
 refine pO fun KT lS=> ?_;go_simp;refine(Uo x w2 E.f E.n E.id gx b d K H2 h1 h4 HVW k PF.kf _ rfl).mono ?_;rintro e w3 ⟨rfl,hb3⟩;have B3:=nO B2 hb3;clear hb3;have S3:=KS.out _ B3;refine oH lS S3 ?_;clear hS0;have hS0:=S3;have hv:=HV.out;by_cases hid:k=E.id
 ·subst hid
  rw[aZ rfl];by_cases aoW:16<(s:Int)
  ·have aaO:16<s:=lK
   rw[aV (.inr (.inl (tL HS.out)))] at hv;injection hv with hv;injection hv with hv1 hv2;subst hv1;subst hv2;clear HV
   repeat(first|refine' tT ?_|refine' tS ?_)
   refine pO fun KT lS=> ?_;go_simp;refine oH lS hS0 ?_
   repeat(first|refine' tT ?_|refine' tS ?_)
   refine lM ?_;clear hS0 S3
   go_wp2_with fail
   ((try simp only[Exit.inBlock,Exit.then]);refine dF (results_none rfl _ _ _) rfl ?_)
   exact⟨by trivial,d,(H.step B1).below B3,Fix.refl d,rfl⟩
  have aaO: ¬16<s:=lK
  repeat(first|refine' tT ?_|refine' tS ?_)
  refine pO fun KT lS=> ?_;go_simp;have e4:IntKind.i64.wrap ((oh i.ps:Int)+4)=(oh i.ps:Int)+4:=aH _ lK;refine(Ov (H1.below B3) E.id i HI gi HG).mono ?_;rintro e w4 ⟨rfl,rfl⟩;refine oH lS hS0 ?_;by_cases hsd:(oh i.ps:Int)+4<(s:Int)
  ·have ag8:oh i.ps+4<s:=lK
   rw[aV (.inr (.inr (tL HS.out)))] at hv;injection hv with hv;injection hv with hv1 hv2;subst hv1;subst hv2;clear HV
   repeat(first|refine' tT ?_|refine' tS ?_)
   refine lM ?_;clear hS0 S3
   go_wp2_with fail
   ((try simp only[Exit.inBlock,Exit.then]);refine dF (results_none rfl _ _ _) rfl ?_)
   exact⟨by trivial,d,(H.step B1).below B3,Fix.refl d,rfl⟩
  have ag8: ¬oh i.ps+4<s:=lK;rw[aU (by rintro(h|h|h)<;>first|exact h rfl|(have:=HS.out;omega))] at hv
  repeat(first|refine' tT ?_|refine' tS ?_)
  refine lM ?_;have SF:=jj hv;have H3:=jj (H1.below B3);have S03:=jj ((H.step B1).below B3);have HSD:=jj ag8;have ai2:=jj aaO;clear hS0 S3 HV hv e4 hsd ag8 aoW aaO H2 KS;obtain⟨wa,hwa⟩:=ex w3;rw[<-hwa] at H3 S03|-;clear hwa B3;have c19:=H3.blk.at_ 19
  go_wp2_with fail
  refine(RJ H3.tab lK).mono ?_;rintro e w4 ⟨⟨a,m,c,rfl,hlen,how⟩,hb4⟩;have OW:=jj how;have HL:Hid ((oZ d.T).length=m):=jj hlen;have HM:Hid (m<=64):=jj (by
   have e:=HL.out;unfold oZ at e;rw[aT] at e;have:=fB oO.ready d.T;omega)
  have B4:=jj hb4;have H4:=jj (H3.below hb4);have S04:=jj (S03.below hb4);have HX4:Hid (x<w4.heap.size):=jj (aB HX S04.size);clear hb4 how hlen c19;obtain⟨j0,hj0,hz0,hz1,hz2⟩:=bq rT;obtain⟨bb,hbb⟩:=ex (FT i.ps (oZ d.T) []);have HV3:Hid ((if bb= [] then some (K,d.val) else(Oz E.id (nP i.ps) bb (K,d.val)).bind fun S1=>(yI E ⟨3,0,d.view,E.id,nP i.ps+1,0,bb,[],[]⟩ (S1.1,{S1.2 with nN:=S1.2.nN.modify E.id fun l=>l.set (nP i.ps+1) (d.view+1)})).bind fun q=>Nu E E.id (nP i.ps) q.1)=some (K',v')):=jj (by rw[hbb];exact SF.out);have WX:=jj hbb;clear hbb SF
  go_wp2_with fail
  go_loopw [6,49] (fun q6 q wr=> ∃(j:Nat) (acc:List Rq) (a6:OA) (c6 al:Nat),j<=m/\q= U j/\q6= .slice a6 al c6/\acc.length=al/\al<=2/\wr.ownsRow w4.heap.size 49 6 (.slice a6 al c6) al (acc.flatMap rA)/\FT i.ps ((oZ d.T).drop j) acc=bb/\Be w4 wr) (fun _ q _=>m -(intOf q).toNat)
  case atStart=>exact⟨0,[],none,0,0,lK,by first|rfl|simp,by first|rfl|simp,rfl,lK,⟨lT,.inl ⟨rfl,rfl⟩⟩,by rw[jf];exact WX.symm,aC _ _⟩
  case round=>
   obtain⟨j,acc,a6,c6,al,hjm,rfl,rfl,hal,akf,hown,hpk,hbw⟩:=hrel;obtain⟨BW,OWN,PK,HAL⟩:=j4 hbw hown hpk hal;have HW:=jj (H4.below hbw);clear hbw hown hpk hal;have c2:=HW.blk.at_ 2;by_cases hlt:j<m
   ·have j1:(j:Int)<m:=lK
    have j0':(0:Int)<=j:=lK;have e2:IntKind.i64.wrap ((j:Int)+1)=(j:Int)+1:=aH _ (tL HM.out);have hrow:qc wr a m c (oZ d.T):=⟨l9 (own_below OW BW),HL,qB OW,uO OW⟩;obtain⟨g,off,rfl,IE,x0,x1,x2,x3,x4,x5,hbx,a0,a1,a2,a3,a4,a5⟩:=hrow.get (k:=j) hlt;have hdr:(oZ d.T).drop j=(x0,x1,x2,x3,x4,x5)::(oZ d.T).drop (j+1):=by
     obtain⟨hl,e⟩:=ah.1 hbx;rw[<-e];exact(dY hl).symm
    have hpk:=PK.out;rw[hdr,FT] at hpk;have PK2:=jj hpk;clear hpk hdr hbx hrow PK
    go_upto_region 7 with fail
    generalize hv1:wr.alloc _=v1;generalize hg1:wr.heap.size=g1;replace hv1:=hv1.symm;replace hg1:=hg1.symm;obtain⟨B5,X1⟩:=nw hv1 hg1;clear hv1 hg1 a0 a1 a2 a3 a4 a5 IE;replace c2:=kept B5 _ _ c2;obtain⟨y0,y1,y2,y3,y4,y5⟩:=X1.a6;have HW1:=jj (HW.below B5);by_cases ha2:al<2
    ·have aow:(al:Int)<2:=lK
     go_wp2_with fail
     refine(aen HW1 (aB HX4 (aG BW.size B5.size)) E.id i HI gi HG (x0,x1,x2,x3,x4,x5) _ rfl).mono ?_;rintro e v2 ⟨rfl,hb2⟩;have BV2:=nO B5 hb2;have X2:=jj (X1.below hb2 X1.lt);have z0:=kept hb2 _ _ y0;have z1:=kept hb2 _ _ y1;have z2:=kept hb2 _ _ y2;have z3:=kept hb2 _ _ y3;have z4:=kept hb2 _ _ y4;have z5:=kept hb2 _ _ y5;clear hb2 c2 y0 y1 y2 y3 y4 y5;have hpk:=PK2.out;cases hus:Ej (x0,x1,x2,x3,x4,x5) i.ps
     ·rw[hus,HAL.out] at hpk
      simp only[ha2,lI,Bool.not_false,jU,fH] at hpk;have PK3:=jj hpk;clear hpk PK2;obtain⟨v3,hv3⟩:=ex (v2.alloc (.cells #[U x0,U x1,U x2,U x3,U x4,U x5] 49));obtain⟨g3,hg3⟩:=ex v2.heap.size;obtain⟨B6,X3⟩:=nw hv3 hg3;have BV3:=jj (BV2.trans (B6.mono BV2.size));have ajj:=jj (own_below OWN BV3);have am8:=jj hv3;have HG3:=jj hg3;clear hv3 hg3
      go_wp2_with(at_builtin;rw[<-am8.out,<-HG3.out];refine lZ rfl _ _ _ rfl w4.heap.size 49 j0 _ 6 48 underlying46 hj0 hz0 hz1 hz2 rfl lK a6 al c6 (acc.flatMap rA) (by rfl) ajj (some ⟨g3,0,none⟩) 1 1 (rA (x0,x1,x2,x3,x4,x5)) (by rfl) (mo.nR (n:=1) (s:=6) X3 rfl) (fun u hu=>Bt [(x0,x1,x2,x3,x4,x5)] u (mR hu)) (by unfold maxLen;omega) lK (aG BW.size BV3.size) ?_;intro a8 c8 v8 h8;refine Hid.out ?_)
      refine jj ?_;have BX:Hid (Be w4 v8):=jj (h8.below ajj (BW.trans (BV3.mono BW.size)) (aF _) (aG BW.size BV3.size));have OX:Hid (v8.ownsRow w4.heap.size 49 6 (.slice a8 (al+1) c8) (al+1) ((acc++ [(x0,x1,x2,x3,x4,x5)]).flatMap rA)):=jj (by rw[bS];simpa using h8.own);clear h8 z0 z1 z2 z3 z4 z5
      go_wp2_with fail
      go_roundw
      case rel=>exact⟨j+1,acc++ [(x0,x1,x2,x3,x4,x5)],a8,c8,al+1,lK,by go_num,by first|rfl|simp,by simp[HAL.out],lK,OX,PK3,BX⟩
      simp[intOf];omega
     rw[hus] at hpk;simp only[lq,kR,dz,gH] at hpk;have PK3:=jj hpk;clear hpk PK2 z0 z1 z2 z3 z4 z5
     go_wp2_with fail
     go_roundw
     case rel=>exact⟨j+1,acc,a6,c6,al,lK,by go_num,by first|rfl|simp,HAL,akf,own_below OWN BV2,PK3,BW.trans (BV2.mono BW.size)⟩
     simp[intOf];omega
    have aow: ¬(al:Int)<2:=lK;have hpk:=PK2.out;rw[HAL.out] at hpk;simp only[ha2,jE,kN,dz,gH] at hpk;have PK3:=jj hpk;clear hpk PK2
    go_wp2_with fail
    go_roundw
    case rel=>exact⟨j+1,acc,a6,c6,al,lK,by go_num,by first|rfl|simp,HAL,akf,own_below OWN B5,PK3,BW.trans (B5.mono BW.size)⟩
    simp[intOf];omega
   obtain rfl:j=m:=lK;have j1: ¬(j:Int)<j:=lK;have hpk:=PK.out;rw[eP (tL HL.out)] at hpk;replace hpk:acc=bb:=hpk;subst hpk;have hv:=HV3.out;clear PK;by_cases hnil:acc= []
   ·rw[aV hnil] at hv
    injection hv with hv;injection hv with hv1 hv2;subst hv1;subst hv2;have agT:al=0:=by have:=HAL.out;rw[hnil] at this;exact this.symm
    subst agT;clear HV3
    go_wp2_with fail
    ((try simp only[Exit.inBlock,Exit.then]);refine dF (results_none rfl _ _ _) rfl ?_)
    exact⟨by trivial,d,S04.below BW,Fix.refl d,rfl⟩
   rw[aU hnil] at hv;simp only[aA] at hv;obtain⟨⟨Kp,vp⟩,hp,⟨⟨K6,v6⟩,z6⟩,hsd,hac⟩:=hv;have agT: ¬al=0:=by
    intro h0;have:=HAL.out;exact hnil (dA lK)
   have ake: ¬(al:Int)=0:=lK;obtain⟨HP,am5,HAC⟩:=j3 hp hsd hac;have HW0:=jj (S04.below BW);obtain⟨l,hcl,hll⟩:=PF.nN;obtain⟨gl,hgl⟩:=abH (d:=d) hcl;have GL:=jj hgl;have HLL:=jj hll;clear hp hsd hac HV3 hnil c2 hcl hgl hll
   go_wp2_with fail
   refine(abk HW (aB HX4 BW.size) E.id (nP i.ps) s HS a6 al c6 acc (sK.own OWN HX4 HAL) lK Kp vp HP gi HG).mono ?_;rintro e w5 ⟨rfl,Ke,d5,IJ,Oa,Dq,aoy,akK,akV⟩;have S5:=jj (HW0.trans IJ);obtain⟨H5,F5,V5,KK⟩:=j4 IJ.sys Oa Dq Ke;have R5:=jj ((sK.own (x:=x) OWN HX4 HAL).step HW IJ);have GL5:Hid (d5.nN[E.id]?=some (gl,l)):=jj (by rw[akK];exact GL.out);have VW5:Hid (d5.view=d.view):=jj akV;clear IJ Oa Dq Ke aoy akK akV;have p1:(E.id:Int)<d5.nN.length:=by have:=(OD H5 GL5).2.1;omega
   have s0:(0:Int)<=s:=lK;have s1:(s:Int)<l.length:=by have:=ai2.out;have:=HLL.out;omega
   have vw9:IntKind.i64.wrap (d5.view+1)=d5.view+1:=aH _ (by rw[VW5.out,HVW.out];omega);clear k1
   go_upto_region 11 with fail
   have SC:Hid (J w5.drew gx 26 (O d5.xL d5.nN.length d5.Aq)/\J w5.drew d5.xL E.id (O gl l.length l.length)/\J w5.drew gx 29 (U d5.view)):=jj ⟨H5.blk.drew.cell 26,(OD H5 GL5).1,H5.blk.drew.cell 29⟩;refine rD (fun u=>J u gx 26 (O d5.xL d5.nN.length d5.Aq)/\J u d5.xL E.id (O gl l.length l.length)/\J u gx 29 (U d5.view)) 14 (tk 0 14 (.one 14 .done)) SC fun w6 B6 hS0=> ?_;have S6:=jj (S5.below B6);have H6:=jj S6.sys;have R6:=jj (R5.below B6);have fr:=(OD H6 GL5).2.2 s;have there:J w6 gl s (U (l.getD s 0)):=by
    have e:=(H6.nN.KI _ (ak GL5)).cell s;exact e.trans (Du l s (tL s1))
   repeat refine' tT ?_
   refine pL fun KT lS=> ?_;go_simp;refine oL lS ?_;refine lM ?_;clear hS0 fr there SC;obtain⟨w7,hw7⟩:=ex (w6.setCell ⟨gl,s,none⟩ (U (d5.view+1)));rw[<-hw7];obtain⟨d7,hd7⟩:=ex (d5.pred E.id (gl,l) s (d5.view+1));have ST7:Hid (mP x w6 w7 E.f E.n E.id gx b d5 K d7 K):=jj (by rw[hw7,hd7];exact(Step.refl H6).pre GL5 (d5.view+1));have F7:Hid (Fix d5 d7):=jj (by rw[hd7];exact Fix.aer GL5 _ _);have anP:Hid (d7.val={d5.val with nN:=d5.val.nN.modify E.id fun l=>l.set (nP i.ps+1) (d.view+1)}):=jj (by rw[hd7,abE GL5,show s=nP i.ps+1 by have:=HS.out;omega,VW5.out]);have VW7:Hid (d7.view=d.view):=jj (by rw[hd7];exact VW5.out);clear hw7 hd7;have S7:=jj (S6.trans ST7);have H7:=jj ST7.sys;have R7:=jj (R6.step H6 ST7);have c29:J w7 gx 29 (U d.view):=by rw[<-VW7.out];exact H7.blk.cell 29
   have hs2:yI E (nA ⟨3,0,d.view,E.id,s,0,a6,al,c6,acc,none,0,0,[],none,0,0,[],none,0⟩) (K,d7.val)=some ((K6,v6),z6):=by
    rw[anP.out,V5.out,HS.out];have e:=am5.out;rw[KK.out] at e;exact e
   clear p1 s0 s1 vw9 agT ake;have HS2:=jj hs2;clear hs2;have SEND:Hid (Y 170 #[gx,.agg #[U 3,U 0,U d.view,U E.id,U s,U 0,.slice a6 al c6,(),(),()]] w7 fun e w'=>e= .returned (.tuple #[U z6,true])/\ ∃A' c' L,mP x w7 w' E.f E.n E.id gx b d7 K (d7.outs A' c' L) K6/\(d7.outs A' c' L).val=v6):=jj (GV x w7 E gx b d7 K H7 (aB HX S7.size) h1 h4 vB ⟨3,0,d.view,E.id,s,0,a6,al,c6,acc,none,0,0,[],none,0,0,[],none,0⟩ ⟨R7,Ez.nil _ _,Gz.nil _ _⟩ K6 v6 z6 HS2)
   go_wp2_with fail
   refine SEND.mono ?_;rintro e w8 ⟨rfl,A',c',L,Qx,IK⟩;obtain⟨d8,XI⟩:=ex (d7.outs A' c' L);rw[<-XI] at Qx IK;have S8:=jj (S7.trans Qx);have H8:=jj Qx.sys;have F8:Hid (Fix d d8):=jj ((F5.trans F7).trans (by rw[XI];exact Fix.Bo _ _ _ _));have V8:=jj IK;clear Qx IK XI c29
   go_wp2_with fail
   refine(FK x w8 E gx b d8 K6 H8 (aB HX S8.size) h1 h4 vB E.id (nP i.ps) (tL PF.kf) (VZ ai2.out HS.out) s HS K' v' (by rw[V8.out];exact HAC.out)).mono ?_;rintro e w9 ⟨rfl,d9,aoZ,aoD,akT⟩
   go_wp2_with fail
   go_end0
   exact⟨by trivial,d9,S8.trans aoZ,F8.trans aoD,akT⟩
 rw[aR hid];rw[aV (.inl hid)] at hv;injection hv with hv;injection hv with hv1 hv2;subst hv1;subst hv2;clear HV
 repeat(first|refine' tT ?_|refine' tS ?_)
 refine pO fun KT lS=> ?_;go_simp;refine oH lS hS0 ?_
 repeat(first|refine' tT ?_|refine' tS ?_)
 refine lM ?_;clear hS0 S3
 go_wp2_with fail
 ((try simp only[Exit.inBlock,Exit.then]);refine dF (results_none rfl _ _ _) rfl ?_)
 exact⟨by trivial,d,(H.step B1).below B3,Fix.refl d,rfl⟩
abbrev lU.starts(d:lU)(z:Int):lU:={d with start:=z}
theorem adF{cap:Nat}{m:Int×Int}{l:List (Int×Int)}(h:Row w g 301 1 (n+1) cap ((m::l).map FJ))(hl:l.length=n)(h5:n+1<=5)(hf:Hy (m::l)):Half w g 0 cap n m.1 m.2 l:=
 ⟨hl,lK,hf,l9 h,h.EI⟩
theorem aeb(x:Nat)(w:World)(E:Who)(gx b:Nat)(d:lU)(K:KS)(h:qE x w E.f E.n E.id gx b d K)(hx:x<w.heap.size)(h1:1<=E.f)(h4:E.f<=4)(hn:(E.n:Int)=3*E.f+1)(hid:E.id<E.n)(K':KS)(v':ql)(hv:Ni E (K,d.val)=some (K',v')):
  Y 90 #[gx] w fun e w'=>e= .returned (.tuple #[])/\Kt x w w' E gx b d K K' v':=by
 unfold Ni at hv;simp only[aA,aK] at hv;obtain⟨u,hu,⟨K1,v1⟩,hps,u3,hu3,⟨K2,v2⟩,hag,u2,hu2,hv⟩:=hv;have nw1:=jj (mI hu3);have tf:=mI hu;have lf:=mI hu2;obtain⟨n0,hn0⟩:=ex d.is.length;have isl:d.val.is.length=n0:=by rw[hn0];simp[lU.val]
 have n5:n0<=5/\1<=n0:=by have:=tf.n;rw[isl] at this;omega
 have hstop:d.stopped=false:=tf.stop;have Oc:0<=d.now/\d.now<1000000:=tf.now;obtain⟨H,HX,vB,U3,AZ⟩:=j5 h hx hn hid hn0;have HPS:Hid (tN E n0 0 (K,(d.GU (d.now+1)).val)=some (K1,v1)):=jj (by rw[<-isl];exact hps);obtain⟨HAG,LF,HV⟩:=j3 hag lf hv;have c33:J w gx 33 false:=by rw[<-hstop];exact h.blk.cell 33
 have c17:=h.blk.at_ 17;have CLK:=jj h.Bc;clear h hx hn hid hu hu2 hu3 hps hag lf hv tf isl hn0;go_enter func90,ntmps90
 go_wp2_with fail
 refine(Vy w d.gt d.now CLK Oc.1 lK).mono ?_;rintro e w1 ⟨rfl,hc1,ho1⟩;have S1:=jj ((Step.refl H).Bc hc1 ho1);have H1:=jj S1.sys;clear hc1 ho1 c33 c17 CLK;obtain⟨d1,hd1⟩:=ex (d.GU (d.now+1));rw[<-hd1] at S1 H1 HPS;have F1:Hid (Fix d d1):=jj (by rw[hd1];exact Fix.Uu _ _);clear hd1;have c18:J w1 gx 18 (O d.gr n0 d.rX):=by rw[AZ.out];exact(H1.blk.cell 18).trans (F1.cell _ _ 18 lN)
 go_wp2_with fail
 go_loopw [21] (fun q wr=> ∃(i:Nat) (dW:lU) (KW:KS),i<=n0/\q= U i/\mP x w wr E.f E.n E.id gx b d K dW KW/\Fix d dW/\tN E (n0 -i) i (KW,dW.val)=some (K1,v1)) (fun q _=>n0 -(intOf q).toNat)
 case atStart=>exact⟨0,d1,K,lK,by first|rfl|simp,S1,F1,HPS⟩
 case round=>
  obtain⟨i,dW,KW,hi,rfl,hst,hfx,hps⟩:=hrel;obtain⟨SW,HW,FW,PS⟩:=j4 hst hst.sys hfx hps;have WZ:Hid (x<wr.heap.size):=jj (aB HX hst.size);clear hst hfx hps c18;by_cases hlt:i<n0
  ·have i1:(i:Int)<n0:=lK
   have e2:IntKind.i64.wrap ((i:Int)+1)=(i:Int)+1:=aH _ lK;have hps:=PS.out;rw[show n0 -i=(n0 -(i+1))+1 by omega,tN] at hps;simp only[aA] at hps;obtain⟨⟨KX,vX⟩,hp,hps⟩:=hps;have HP:=jj hp;have PS2:=jj hps;clear hp hps PS
   go_wp2_with fail
   refine(Uq x wr E gx b dW KW HW WZ h1 h4 vB i KX vX HP).mono ?_;rintro e w2 ⟨rfl,d2,hst,hfx,hval⟩;have S2:=jj (SW.trans hst);have F2:=jj (FW.trans hfx);have V2:=jj hval;clear hst hfx hval
   go_wp2_with fail
   go_roundw
   case rel=>exact⟨i+1,d2,KX,lK,by go_num,S2,F2,by rw[V2.out];exact PS2.out⟩
   simp[intOf];omega
  obtain rfl:i=n0:=lK;have i1: ¬(i:Int)<i:=lK;have hps:=PS.out;rw[fJ,tN] at hps;simp only[aD,aM] at hps;obtain⟨rfl,rfl⟩:=hps;clear PS;obtain⟨wa,hwa⟩:=ex wr;rw[<-hwa] at SW HW WZ|-;clear hwa
  go_upto_region 8 with fail
  refine rD (fun u=>J u gx 17 dW.gt/\J u gx 13 (U 2)) 12 (tk 0 4 (tk 5 5 (.one 4 (.take 10 (.take 11 .done))))) ⟨HW.blk.drew.cell 17,HW.blk.drew.cell 13⟩ fun w2 B2 hS0=> ?_;have H2:=jj (HW.below B2);have S2:=jj (SW.below B2)
  repeat refine' tT ?_
  refine pO fun KT lS=> ?_;go_simp;refine(vF H2).mono ?_;rintro e w3 ⟨rfl,rfl⟩;refine oH lS hS0 ?_
  repeat refine' tT ?_
  refine lM ?_;clear hS0;obtain⟨tb,htb⟩:=ex ((dW.now.tmod 2==0));have TB:Hid (tb=decide (dW.now%2=0)):=jj (by
   have n0:0<=dW.now:=nw1.1;rw[htb,gN n0];rfl)
  rw[<-htb];clear htb
  go_upto_if 39 with fail
  go_cut [] from 40 to 41 (fun wx=> ∃d2,mP x w wx E.f E.n E.id gx b d K d2 K2/\Fix d d2/\d2.val=v2)
  case first=>
   have hag:=HAG.out;cases tb
   ·have hne: ¬dW.val.now%2=0:=by
     have e:=TB.out;intro hc;have hc':dW.now%2=0:=hc;simp[hc'] at e
    rw[aU hne] at hag;simp only[aD,aM] at hag;obtain⟨rfl,rfl⟩:=hag
    go_wp2_with fail
    go_meet;exact⟨dW,S2,FW,rfl⟩
   have hne:dW.val.now%2=0:=by
    have e:=TB.out;exact eU e.symm
   rw[aV hne] at hag;have amI:=jj hag;clear hag hne
   go_wp2_with fail
   refine(aa9 x w2 E gx b dW KW H2 (aB WZ B2.size) h1 h4 vB U3 K2 v2 amI).mono ?_;rintro e w3 ⟨rfl,d3,hst,hfx,hval⟩
   go_wp2_with fail
   go_meet;exact⟨d3,S2.trans hst,FW.trans hfx,hval⟩
  case rest=>
   obtain⟨d2,hst,hfx,hval⟩:=hcut;obtain⟨w3,hw3⟩:=ex wc;rw[<-hw3] at hst|-;clear hw3;obtain⟨S3,H3,F3,V3⟩:=j4 hst hst.sys hfx hval;have HX3:Hid (x<w3.heap.size):=jj (aB HX hst.size);have Vb:Hid (GJ d2.val):=jj (by rw[hval];exact LF.out);clear hst hfx hval;obtain⟨iv,hiv,hon⟩:=Vb.on;obtain⟨g0,I0,hI0,hIv⟩:=qd hiv;have hg0:d2.is[0]?.map Prod.fst=some g0:=by rw[hI0];rfl
   obtain⟨HG0,SA,PI⟩:=j3 hg0 hiv hon;have P0:Hid (∀u,qE x u E.f E.n E.id gx b d2 K2->J u d2.gr 0 g0):=jj fun u hu=>hu.ptr hI0;have i1:(0:Int)<d2.is.length:=by have:=zZ hI0;omega
   have i1n:0<d2.is.length:=zZ hI0;clear hg0 hiv hon hI0 hIv;have KS:Hid (∀u,Be w3 u->J u gx 18 (O d2.gr d2.is.length d2.rX)/\J u d2.gr 0 g0/\J u gx 17 d2.gt/\J u gx 31 (U d2.since)/\J u gx 12 (U 6)/\J u gx 32 (U d2.start)/\J u gx 7 (U 8)):=jj fun u o=>by
    have hh:=H3.below o;exact⟨hh.blk.cell 18,P0.out _ hh,hh.blk.cell 17,hh.blk.cell 31,hh.blk.cell 12,hh.blk.cell 32,hh.blk.cell 7⟩
   go_upto_region 10 with fail
   refine rD (fun u=>J u gx 18 (O d2.gr d2.is.length d2.rX)/\J u d2.gr 0 g0/\J u gx 17 d2.gt/\J u gx 31 (U d2.since)/\J u gx 12 (U 6)/\J u gx 32 (U d2.start)/\J u gx 7 (U 8)) 26 (tk 0 6 (.one 6 (tk 7 6 (tk 14 10 (.one 13 (.take 24 (.take 25 .done))))))) (KS.out _ (aC _ _).drew) fun w4 B4 hS0=> ?_;have H4:=jj (H3.below B4)
   repeat(first|refine' tT ?_|refine' tS ?_)
   refine pO fun KT lS=> ?_;go_simp;refine(rV H4 0 iv SA g0 HG0).mono ?_;rintro e w5 ⟨rfl,rfl⟩;rw[PI.out];refine oH lS hS0 ?_
   repeat(first|refine' tT ?_|refine' tS ?_)
   refine pO fun KT lS=> ?_;go_simp;refine oH lS hS0 ?_
   repeat(first|refine' tT ?_|refine' tS ?_)
   refine lM ?_;clear hS0;have c18:=H4.blk.at_ 18;have c0:=P0.out _ H4
   go_wp2_with fail
   refine(rV H4 0 iv SA g0 HG0).mono ?_;rintro e w5 ⟨rfl,rfl⟩;rw[PI.out];clear c18 c0
   go_wp2_with fail
   refine(ahy x w4 E.f E.n E.id gx b d2 K2 H4 (by have:=Vb.T;have e:d2.T.length<=58:=this;omega) Vb.now Vb.since Vb.rdy false Vb.old).mono ?_;rintro e w5 ⟨rfl,hb5⟩;have B5:=nO B4 hb5;clear hb5;have e8:IntKind.i64.wrap (d2.start+8)=d2.start+8:=aH _ (by have:=Vb.start;have e:0<=d2.start/\d2.start<=1000000:=this;omega)
   go_upto_region 14 with fail
   refine rP (fun u=>J u gx 18 (O d2.gr d2.is.length d2.rX)/\J u d2.gr 0 g0/\J u gx 17 d2.gt/\J u gx 31 (U d2.since)/\J u gx 12 (U 6)/\J u gx 32 (U d2.start)/\J u gx 7 (U 8)) 16 (tk 0 4 (tk 5 10 (.one 4 (.take 15 .done)))) (KS.out _ B5.drew) ?_;intro hS0;obtain⟨w6,zN⟩:=ex w5.drew;have B6:Hid (Be w3 w6):=jj (by rw[zN];exact B5.drew);rw[<-zN] at hS0|-;clear zN;have H6:=jj (H3.below B6)
   repeat(first|refine' tT ?_|refine' tS ?_)
   refine pO fun KT lS=> ?_;go_simp;refine(vF H6).mono ?_;rintro e w7 ⟨rfl,rfl⟩;refine oH lS hS0 ?_
   repeat(first|refine' tT ?_|refine' tS ?_)
   refine lM ?_;clear hS0 e8;have hv:=HV.out;by_cases hst:d2.start+8<=d2.now
   ·have hst':v2.start+8<=v2.now:=by rw[<-V3.out];exact hst
    rw[aV hst'] at hv;simp only[aM] at hv;obtain⟨rfl,hv⟩:=hv;have SF:=jj hv;clear hv hst' HV;obtain⟨m,l,hml⟩: ∃m l,d2.ga=m::l:=by
     have e:1<=d2.ga.length:=Vb.ga.1
     cases hq:d2.ga with
     |nil=>rw[hq] at e;simp at e
     |cons m l=>exact⟨m,l,rfl⟩
    have VB:Hid (rH 1 2 8 m.1 m.2 l=false):=jj (Vb.fair hst m l hml);have HML:=jj hml;have g5:l.length+1<=5:=by have e:d2.ga.length<=5:=Vb.ga.2.1;rw[hml] at e;exact e
    have FIN:Hid (Hy (m::l)):=jj (by rw[<-hml];exact Vb.ga.2.2);clear hml
    go_upto_region 15 with fail
    have KS2:Hid (∀u,Be w3 u->(J u gx 18 (O d2.gr d2.is.length d2.rX)/\J u d2.gr 0 g0/\J u gx 17 d2.gt/\J u gx 31 (U d2.since)/\J u gx 12 (U 6)/\J u gx 32 (U d2.start)/\J u gx 7 (U 8))/\J u gx 0 (U E.f)/\J u gx 1 (U 2)/\J u gx 2 (U 2)/\J u gx 3 (U 4)/\J u gx 4 (U 64)/\J u gx 5 (U 8)/\J u gx 6 (U 8)/\J u gx 8 (U 1)/\J u gx 9 (U 2)/\J u gx 10 (U 12)/\J u gx 11 (U 8)/\J u gx 13 (U 2)/\J u gx 14 (U 6)/\J u gx 23 d2.gm):=jj fun u o=>by
     have hh:=H3.below o;exact⟨KS.out u o,hh.blk.cell 0,hh.blk.cell 1,hh.blk.cell 2,hh.blk.cell 3,hh.blk.cell 4,hh.blk.cell 5,hh.blk.cell 6,hh.blk.cell 8,hh.blk.cell 9,hh.blk.cell 10,hh.blk.cell 11,hh.blk.cell 13,hh.blk.cell 14,hh.blk.cell 23⟩
    refine rP (fun u=>(J u gx 18 (O d2.gr d2.is.length d2.rX)/\J u d2.gr 0 g0/\J u gx 17 d2.gt/\J u gx 31 (U d2.since)/\J u gx 12 (U 6)/\J u gx 32 (U d2.start)/\J u gx 7 (U 8))/\J u gx 0 (U E.f)/\J u gx 1 (U 2)/\J u gx 2 (U 2)/\J u gx 3 (U 4)/\J u gx 4 (U 64)/\J u gx 5 (U 8)/\J u gx 6 (U 8)/\J u gx 8 (U 1)/\J u gx 9 (U 2)/\J u gx 10 (U 12)/\J u gx 11 (U 8)/\J u gx 13 (U 2)/\J u gx 14 (U 6)/\J u gx 23 d2.gm) 19 (tk 0 6 (.one 6 (tk 7 9 (.one 16 (.one 17 (.take 18 .done)))))) (KS2.out _ B6.drew) ?_;intro hS0;obtain⟨w7,hw7⟩:=ex w6.drew;have B7:Hid (Be w3 w7):=jj (by rw[hw7];exact B6.drew);rw[<-hw7] at hS0|-;clear hw7;have H7:=jj (H3.below B7)
    repeat(first|refine' tT ?_|refine' tS ?_)
    refine pO fun KT lS=> ?_;go_simp;refine(rV H7 0 iv SA g0 HG0).mono ?_;rintro e w8 ⟨rfl,rfl⟩;rw[PI.out];refine oH lS hS0 ?_
    repeat(first|refine' tT ?_|refine' tS ?_)
    refine pO fun KT lS=> ?_;go_simp;refine(aa4 d2.gm d2.Dl d2.ga w7 H7.met Vb.ga.1 Vb.ga.2.1).mono ?_;rintro e w8 ⟨g,cap,rfl,hrow,hge,hb8⟩;have HF:Hid (Half w8 g 0 cap l.length m.1 m.2 l):=jj (adF (by rw[HML.out] at hrow;exact hrow) rfl g5 FIN);rw[show d2.ga.length=l.length+1 by rw[HML.out];rfl];have B8:=nO B7 hb8;clear hb8 hrow hge;have S8:=KS2.out _ B8;refine oH lS S8 ?_;clear hS0;have hS0:=S8
    repeat(first|refine' tT ?_|refine' tS ?_)
    refine pO fun KT lS=> ?_;go_simp;refine(YG E.f 2 4 64 8 8 8 2 12 6 2 6 1 2 8 w8 HF lK lK lK).mono ?_;rintro e w9 ⟨rfl,hb9⟩;rw[VB.out];have B9:=nO B8 hb9;clear hb9;have S9:=KS2.out _ B9;refine oH lS S9 ?_;clear hS0;have hS0:=S9
    repeat(first|refine' tT ?_|refine' tS ?_)
    refine lM ?_;clear hS0 S8 S9;have H9:=jj (H3.below B9);have S9':=jj (S3.below B9);have c23:=H9.blk.at_ 23
    go_wp2_with fail
    refine(aeE d2.gm d2.Dl d2.ga w9 H9.met Vb.ga.2.1).mono ?_;rintro e wx ⟨rfl,hmx,hox⟩;have SX:=jj (S9'.met hmx hox);have HXX:=jj SX.sys;clear hmx hox c23;have c17:=HXX.blk.at_ 17
    go_wp2_with fail
    refine(vF HXX).mono ?_;rintro e wy ⟨rfl,rfl⟩;have c32:=HXX.blk.at_ 32;have f32:=HXX.blk.frozen 32
    go_wp2_with fail
    go_end0
    refine⟨by trivial,_,SX.aeu (d'':=(d2.yS (List.replicate d2.ga.length (0,0))).starts d2.now) rfl (by rfl),F3.trans (by constructor<;>rfl),?_⟩;rw[<-SF.out,<-V3.out];rfl
   have hst': ¬v2.start+8<=v2.now:=by rw[<-V3.out];exact hst
   rw[aU hst'] at hv;simp only[aM] at hv;obtain⟨rfl,hv⟩:=hv;have SF:=jj hv;clear hv hst' HV
   go_wp2_with fail
   go_end0
   exact⟨by trivial,d2,S3.below B6,F3,V3.trans SF⟩
abbrev lU.agL(d:lU):lU:={d with c0:=d.c0+1}
abbrev lU.agM(d:lU):lU:={d with c2:=d.c2+1}
theorem MF.Wd{w':World}{d:MD}{cs:AV}(h:MF x w d)(ho:Only [g] w w')(hb:lQ w g 82 cs):MF x w' d:=h.only ho (fun k hk=>by
 simp only[au] at hk;subst hk;exact nV.of hb lN) (Nr.of hb lN)
theorem MX{m:Ms}(h:yI E m S=some (S',z)):S'.2.c0=S.2.c0/\S'.2.c2=S.2.c2:=by
 unfold yI at h;simp only[aK,aM] at h;obtain⟨u,_,h,_⟩:=h;rw[<-h];exact⟨rfl,rfl⟩
theorem Fy{kind:Int}(h:vL E kind k j b S=some S'):S'.2.c0=S.2.c0/\S'.2.c2=S.2.c2:=by
 unfold vL at h;simp only[aA] at h;obtain⟨⟨r,z⟩,hs,ip,_,h⟩:=h;have:=MX hs;split at h<;>simp only[aK] at h<;>obtain⟨u,_,h⟩:=h<;>rw[<-h]<;>exact this
theorem UC{c t r:Int}(h:Cz E c t r S=some S'):S'.2.c0=S.2.c0/\S'.2.c2=S.2.c2:=by
 unfold Cz at h;simp only[aK] at h;obtain⟨u,_,h⟩:=h;rw[<-h];exact⟨rfl,rfl⟩
theorem DW: ∀{l:List CY} {S S':KN},rG E l S=some S'->S'.2.c0=S.2.c0/\S'.2.c2=S.2.c2
 | [],S,S',h=>by
  rw[rG] at h;injection h with h;rw[h];exact⟨rfl,rfl⟩
 |e::l,S,S',h=>by
  rw[rG] at h;simp only[aA] at h;obtain⟨S1,h1,h2⟩:=h;have a:=UC h1;have b:=DW h2;exact⟨b.1.trans a.1,b.2.trans a.2⟩
theorem LU: ∀{fuel:Nat} {S S':KN},wS E fuel S=some S'->S'.2.c0=S.2.c0/\S'.2.c2=S.2.c2
 |0,S,S',h=>by
  rw[wS] at h;simp only[aA,aK] at h;obtain⟨_,_,_,_,h⟩:=h;rw[h];exact⟨rfl,rfl⟩
 |fuel+1,S,S',h=>by
  rw[wS] at h;simp only[aA] at h;obtain⟨i,_,h⟩:=h;split at h
  ·injection h with h
   rw[h];exact⟨rfl,rfl⟩
  simp only[aA] at h;obtain⟨c,_,S1,h1,h2⟩:=h;have b:=LU h2;unfold Yx at h1;simp only[aA] at h1;obtain⟨_,_,h1⟩:=h1;have a:=DW h1;exact⟨b.1.trans a.1,b.2.trans a.2⟩
theorem aaf(h:NC E k b S=some S'):S'.2.c0=S.2.c0/\S'.2.c2=S.2.c2:=by
 unfold NC at h;simp only[aA] at h;obtain⟨_,_,g,_,h⟩:=h;split at h
 ·simp only[aA,aK] at h
  obtain⟨S1,h1,_,_,h⟩:=h;rw[<-h];have q:=LU h1;exact q
 injection h with h;rw[<-h];exact⟨rfl,rfl⟩
theorem Mv(h:Ca E k j S=some S'):S'.2.c0=S.2.c0/\S'.2.c2=S.2.c2:=by
 unfold Ca at h;simp only[aA] at h;obtain⟨S1,h1,h2⟩:=h;have a:S1.2.c0=S.2.c0/\S1.2.c2=S.2.c2:=by
  unfold QY at h1;simp only[aA] at h1;obtain⟨ip,_,_,_,h1⟩:=h1;split at h1
  ·injection h1 with h1
   rw[h1];exact⟨rfl,rfl⟩
  split at h1
  ·injection h1 with h1
   rw[h1];exact⟨rfl,rfl⟩
  have q:=Fy h1;exact q
 have b:S'.2.c0=S1.2.c0/\S'.2.c2=S1.2.c2:=by
  unfold Fz at h2;simp only[aA] at h2;obtain⟨ip,_,_,_,h2⟩:=h2;split at h2
  ·injection h2 with h2
   rw[h2];exact⟨rfl,rfl⟩
  split at h2
  ·injection h2 with h2
   rw[h2];exact⟨rfl,rfl⟩
  have q:=aaf h2;exact q
 exact⟨b.1.trans a.1,b.2.trans a.2⟩
theorem ZI(h:Nu E k j S=some S'):S'.2.c0=S.2.c0/\S'.2.c2=S.2.c2:=by
 unfold Nu at h;simp only[aA] at h;obtain⟨_,_,_,_,S1,h1,h2⟩:=h;have a:=Fy h1;have b:=Mv h2;exact⟨b.1.trans a.1,b.2.trans a.2⟩
theorem YC{M:Ms}{a:Kj}(h:sP E M z S=some (S',a)):S'.2.c0=S.2.c0/\S'.2.c2=S.2.c2:=by
 unfold sP at h;split at h
 ·split at h
  ·unfold JE at h
   simp only[aA] at h;obtain⟨_,_,hh,_,h⟩:=h;split at h
   ·simp only[aD,aM] at h
    rw[<-h.1];exact⟨rfl,rfl⟩
   simp only[aA] at h;obtain⟨hi,_,S1,h1,h⟩:=h;have b:S1.2.c0=S.2.c0/\S1.2.c2=S.2.c2:=by
    split at h1
    ·injection h1 with h1
     rw[h1];exact⟨rfl,rfl⟩
    simp only[aA] at h1;obtain⟨T,_,h1⟩:=h1;unfold Jy at h1;simp only[aK] at h1;obtain⟨⟨q,z⟩,h1,rfl⟩:=h1;have q:=MX h1;exact q
   split at h
   ·simp only[aK,aM] at h
    obtain⟨_,_,h,_⟩:=h;rw[<-h];exact b
   split at h
   ·simp only[aD,aM] at h
    rw[<-h.1];exact b
   cases h
  cases h
 split at h
 ·unfold ppV at h
  simp only[aA,aK,aM] at h;obtain⟨_,_,S1,h1,S2,h2,rfl,_⟩:=h;have b:=ZI h2;unfold Oz at h1;simp only[aA,aK] at h1;obtain⟨_,_,_,_,rfl⟩:=h1;exact b
 split at h
 ·unfold AU at h
  simp only[aA] at h;obtain⟨_,_,ip,_,h⟩:=h;split at h<;>simp only[aA,aK,aM] at h<;>obtain⟨_,_,S2,h2,rfl,_⟩:=h<;>have q:=Mv h2<;>exact q
 split at h
 ·split at h
  ·unfold Cw at h
   simp only[aK,aM] at h;obtain⟨_,_,rfl,_⟩:=h;exact⟨rfl,rfl⟩
  cases h
 cases h
theorem aea(x:Nat)(w:World)(E:Who)(gx b:Nat)(d:lU)(K:KS)(h:qE x w E.f E.n E.id gx b d K)(hx:x<w.heap.size)(h1:1<=E.f)(h4:E.f<=4)(hn:(E.n:Int)=3*E.f+1)(hid:E.id<E.n)(src:Int)(A:OA)(m c:Nat)(hmc:m<=c)(bts:LI)(hv:mo w A m 1 (mZ bts))(hbl:bts.length=m)(M:Ms)(z:Int)(K':KS)(v':ql)(hr:JD E M z bts (K,d.val)=some (K',v')):
  Y 87 #[gx,U src,.slice A m c] w fun e w'=>e= .returned (.tuple #[])/\Kt x w w' E gx b d K K' v':=by
 unfold JD at hr;simp only[aA,aK,aM] at hr;obtain⟨u,hu,⟨⟨K1,v1⟩,an⟩,htk,rfl,hv1⟩:=hr;have rf:=mI hu;have hstop:d.stopped=false:=rf.stop;have OPEN:Hid (∀u,Be w u->Y 119 #[.slice A m c,U E.f,U 2,d.nn] u fun e w'=> ∃d:MD,e= .returned (.tuple #[.agg (oM d).toArray,U z,U 0])/\nA d=M/\MF x w' d/\Be u w'):=jj fun u hb=>abt u d.nn b K (h.below hb).Pt E.f 2 A m c bts M z rf.z40 rf.ab2 rf.bytes hbl (tL rf.len) hmc (hv.below hb) x (aB hx hb.size) fun w' dd e hi=>aas h1 h4 rf.form w' dd e hi;obtain⟨H,HX,vB,U3,RF,HTK⟩:=j6 h hx hn hid rf htk;have YT:=jj hv1;clear h hx hn hid rf htk hv1 hv hbl hu;have KS:Hid (∀u,Be w u->J u gx 33 false/\J u gx 21 d.gg/\J u gx 17 d.gt/\J u gx 0 (U E.f)/\J u gx 1 (U 2)/\J u gx 16 d.nn):=jj fun u o=>by
  have hh:=H.below o;exact⟨by rw[<-hstop];exact hh.blk.cell 33,hh.blk.cell 21,hh.blk.cell 17,hh.blk.cell 0,hh.blk.cell 1,hh.blk.cell 16⟩
 go_enter func87,ntmps87
 go_upto_region 0 with fail
 refine rD (fun u=>J u gx 33 false/\J u gx 21 d.gg/\J u gx 17 d.gt/\J u gx 0 (U E.f)/\J u gx 1 (U 2)/\J u gx 16 d.nn) 17 (tk 0 14 (.one 14 (.one 15 (.take 16 .done)))) (KS.out _ (aC _ _).drew) fun w1 B1 hS0=> ?_
 repeat refine' tT ?_
 refine pO fun KT lS=> ?_;go_simp;refine(vF (H.below B1)).mono ?_;rintro e w2 ⟨rfl,rfl⟩;refine oH lS hS0 ?_
 repeat refine' tT ?_
 refine pO fun KT lS=> ?_;go_simp;refine(adB w1 d.gg 8 8 src d.now (H.below B1).grd).mono ?_;rintro e w2 ⟨rfl,hb⟩;have B2:=nO B1 hb;have S2:=KS.out _ B2;refine oH lS S2 ?_;clear hS0 hb;have hS0:=S2
 repeat refine' tT ?_
 refine lM ?_;clear hS0 S2
 go_upto_region 3 with fail
 go_cut [7,8,9] from 36 to 55 (fun q7 q8 q9 wx=>q8= U z/\q9= U 0/\ ∃(g5:Nat) (md:MD),q7= .pointer (some ⟨g5,0,none⟩)/\nA md=M/\lQ wx g5 82 (oM md).toArray/\w.heap.size<=g5/\MF x wx md/\Be w wx)
 case first=>
  refine rP (fun u=>J u gx 33 false/\J u gx 21 d.gg/\J u gx 17 d.gt/\J u gx 0 (U E.f)/\J u gx 1 (U 2)/\J u gx 16 d.nn) 24 (tk 0 15 (.two 15 (tk 16 4 (.one 20 (.one 21 (.take 22 (.take 23 .done))))) 20 (.one 15 (tk 16 4 (.one 21 (.take 22 (.take 23 .done))))))) (KS.out _ B2.drew) ?_;intro hS0;obtain⟨v3,hv3⟩:=ex w2.drew;have B3:Hid (Be w v3):=jj (by rw[hv3];exact B2.drew);rw[<-hv3] at hS0|-;clear hv3
  repeat refine' tT ?_
  refine qN ?_ ?_
  ·refine pO fun KT lS=> ?_
   go_simp;refine(OPEN.out v3 B3).mono ?_;rintro e v4 ⟨⟨kind,sender,view,inst,seq,res,ba,bn,bc,bs,va,vn,vc,vs,ca,cn,cc,cs,pa,pc⟩,rfl,hmd,TF,hb4⟩;rw[show(oM ⟨kind,sender,view,inst,seq,res,ba,bn,bc,bs,va,vn,vc,vs,ca,cn,cc,cs,pa,pc⟩).toArray=#[U kind,U sender,U view,U inst,U seq,U res,.slice ba bn bc,.slice va vn vc,.slice ca cn cc,.slice pa 0 pc] from rfl];have B4:=nO B3 hb4;have HMD:=jj hmd;have MF4:=jj TF;clear hb4 hmd TF;have S4:=KS.out _ B4;refine oH lS S4 ?_;clear hS0;have hS0:=S4
   repeat refine' tT ?_
   refine pO fun KT lS=> ?_;go_simp;generalize hv5:v4.alloc _=v5;generalize hg5:v4.heap.size=g5;replace hv5:=hv5.symm;replace hg5:=hg5.symm;have X5:=xNew hv5 hg5;have YQ:Hid (w.heap.size<=g5):=jj (by rw[hg5];exact B4.size);have B5:=GN B4 hv5;have MF5:=jj (MF4.below (show Be v4 v5 by rw[hv5];exact nC));clear hv5 hg5;have S5:=KS.out _ B5;refine oH lS S5 ?_;clear hS0 S4;have hS0:=S5
   repeat refine' tT ?_
   refine pO fun KT lS=> ?_;have y0:=X5.at_ 0;have z0:=X5.frozen 0;have y1:=X5.at_ 1;have z1:=X5.frozen 1;have y2:=X5.at_ 2;have z2:=X5.frozen 2;have y3:=X5.at_ 3;have z3:=X5.frozen 3;have y4:=X5.at_ 4;have z4:=X5.frozen 4;have y5:=X5.at_ 5;have z5:=X5.frozen 5;have y6:=X5.at_ 6;have z6:=X5.frozen 6;have y7:=X5.at_ 7;have z7:=X5.frozen 7;have y8:=X5.at_ 8;have z8:=X5.frozen 8;have y9:=X5.at_ 9;have z9:=X5.frozen 9;go_simp;obtain⟨w9,mE⟩:=ex (setW v5 g5 0 [U kind,U sender,U view,U inst,U seq,U res,.slice ba bn bc,.slice va vn vc,.slice ca cn cc,.slice pa 0 pc]);have K9:=jj (uL mE X5);have O9:=jj (vM mE);simp only[setW,aO,Nat.reduceAdd] at mE;rw[<-mE];clear mE y0 z0 y1 z1 y2 z2 y3 z3 y4 z4 y5 z5 y6 z6 y7 z7 y8 z8 y9 z9;have B9:Be w w9:=O9.below B5 B5.size (mR YQ.out);have MF9:=MF5.Wd O9 X5;have S9:=KS.out _ B9;refine oH lS S9 ?_;clear hS0;have hS0:=S9
   repeat refine' tT ?_
   refine lM ?_
   go_wp2_with fail
   go_meet;exact⟨rfl,rfl,g5,⟨kind,sender,view,inst,seq,res,ba,bn,bc,bs,va,vn,vc,vs,ca,cn,cc,cs,pa,pc⟩,rfl,HMD,K9,YQ,MF9,B9⟩
  refine pO fun KT lS=> ?_;go_simp;generalize hv5:v3.alloc _=v4;generalize hg5:v3.heap.size=g5;replace hv5:=hv5.symm;replace hg5:=hg5.symm;have X4:=xNew hv5 hg5;have YQ:Hid (w.heap.size<=g5):=jj (by rw[hg5];exact B3.size);have B4:=GN B3 hv5;clear hv5 hg5;have S4:=KS.out _ B4;refine oH lS S4 ?_;clear hS0;have hS0:=S4
  repeat refine' tT ?_
  refine pO fun KT lS=> ?_;go_simp;refine(OPEN.out v4 B4).mono ?_;rintro e v5 ⟨⟨kind,sender,view,inst,seq,res,ba,bn,bc,bs,va,vn,vc,vs,ca,cn,cc,cs,pa,pc⟩,rfl,hmd,TF,hb4⟩;rw[show(oM ⟨kind,sender,view,inst,seq,res,ba,bn,bc,bs,va,vn,vc,vs,ca,cn,cc,cs,pa,pc⟩).toArray=#[U kind,U sender,U view,U inst,U seq,U res,.slice ba bn bc,.slice va vn vc,.slice ca cn cc,.slice pa 0 pc] from rfl];have B5:=nO B4 hb4;have X5:=jj (X4.below hb4 X4.lt);have HMD:=jj hmd;have MF5:=jj TF;clear hb4 hmd TF;have S5:=KS.out _ B5;refine oH lS S5 ?_;clear hS0 S4;have hS0:=S5
  repeat refine' tT ?_
  refine pO fun KT lS=> ?_;have y0:=X5.at_ 0;have z0:=X5.frozen 0;have y1:=X5.at_ 1;have z1:=X5.frozen 1;have y2:=X5.at_ 2;have z2:=X5.frozen 2;have y3:=X5.at_ 3;have z3:=X5.frozen 3;have y4:=X5.at_ 4;have z4:=X5.frozen 4;have y5:=X5.at_ 5;have z5:=X5.frozen 5;have y6:=X5.at_ 6;have z6:=X5.frozen 6;have y7:=X5.at_ 7;have z7:=X5.frozen 7;have y8:=X5.at_ 8;have z8:=X5.frozen 8;have y9:=X5.at_ 9;have z9:=X5.frozen 9;go_simp;obtain⟨w9,mE⟩:=ex (setW v5 g5 0 [U kind,U sender,U view,U inst,U seq,U res,.slice ba bn bc,.slice va vn vc,.slice ca cn cc,.slice pa 0 pc]);have K9:=jj (uL mE X5);have O9:=jj (vM mE);simp only[setW,aO,Nat.reduceAdd] at mE;rw[<-mE];clear mE y0 z0 y1 z1 y2 z2 y3 z3 y4 z4 y5 z5 y6 z6 y7 z7 y8 z8 y9 z9;have B9:Be w w9:=O9.below B5 B5.size (mR YQ.out);have MF9:=MF5.Wd O9 X5;have S9:=KS.out _ B9;refine oH lS S9 ?_;clear hS0;have hS0:=S9
  repeat refine' tT ?_
  refine lM ?_
  go_wp2_with fail
  go_meet;exact⟨rfl,rfl,g5,⟨kind,sender,view,inst,seq,res,ba,bn,bc,bs,va,vn,vc,vs,ca,cn,cc,cs,pa,pc⟩,rfl,HMD,K9,YQ,MF9,B9⟩
 case rest=>
  obtain⟨rfl,rfl,g5,md,rfl,hmd,hg5,hge,TF,hb3⟩:=hcut;obtain⟨w3,hw3⟩:=ex wc;rw[<-hw3] at hg5 TF hb3|-;clear hw3;obtain⟨B3,M3,X3,HMD⟩:=j4 hb3 TF hg5 hmd;have H3:=jj (H.below hb3);clear hg5 TF hb3 hmd hge;have TAKE:Hid (Y 120 #[gx,.agg (oM md).toArray,U z] w3 fun e w'=>e= .returned (U an.num)/\Kt x w3 w' E gx b d K K1 v1):=jj (ael x w3 E gx b d K H3 (aB HX B3.size) h1 h4 vB U3 md M3 (by rw[HMD.out];exact RF.form) z K1 v1 an (by rw[HMD.out];exact HTK.out));obtain⟨kind,sender,view,inst,seq,res,ba,bn,bc,bs,va,vn,vc,vs,ca,cn,cc,cs,pa,pc⟩:=md;replace TAKE:Hid (Y 120 #[gx,.agg #[U kind,U sender,U view,U inst,U seq,U res,.slice ba bn bc,.slice va vn vc,.slice ca cn cc,.slice pa 0 pc],U z] w3 fun e w'=>e= .returned (U an.num)/\Kt x w3 w' E gx b d K K1 v1):=TAKE;replace X3:Hid (lQ w3 g5 82 #[U kind,U sender,U view,U inst,U seq,U res,.slice ba bn bc,.slice va vn vc,.slice ca cn cc,.slice pa 0 pc]):=X3;obtain⟨y0,y1,y2,y3,y4,y5,y6,y7,y8,y9⟩:=X3.zA
  go_wp2_with fail
  refine TAKE.mono ?_;rintro e w5 ⟨rfl,d5,hst,hfx,hval⟩;have S5:=jj ((H.step B3).trans hst);obtain⟨H5,F5,V5⟩:=j3 hst.sys hfx hval;have CC:0<=d5.c0/\d5.c0<=1000000/\0<=d5.c2/\d5.c2<=1000000:=by
   have e:=RF.cnt;obtain⟨k0,k2⟩:=YC HTK;rw[<-V5.out] at k0 k2;have k0':d5.c0=d.c0:=k0;have k2':d5.c2=d.c2:=k2;rw[k0',k2'];exact e
  have C0I:Hid (0<=d5.c0/\d5.c0<=1000000):=jj ⟨CC.1,CC.2.1⟩;have C2I:Hid (0<=d5.c2/\d5.c2<=1000000):=jj CC.2.2;clear hst hfx hval CC y0 y1 y2 y3 y4 y5 y6 y7 y8 y9;cases an
  ·have c9:=H5.blk.at_ 35
   have f9:=H5.blk.frozen 35;have e9:IntKind.i64.wrap (d5.c0+1)=d5.c0+1:=aH _ (tL C0I.out)
   go_wp2_with fail
   go_end0
   refine⟨by trivial,_,S5.out.aeu (d'':=d5.agL) rfl (by rfl),F5.trans (by constructor<;>rfl),?_⟩;rw[<-YT.out,<-V5.out];rfl
  have c9:=H5.blk.at_ 37;have f9:=H5.blk.frozen 37;have e9:IntKind.i64.wrap (d5.c2+1)=d5.c2+1:=aH _ (tL C2I.out)
  go_wp2_with fail
  go_end0
  refine⟨by trivial,_,S5.out.aeu (d'':=d5.agM) rfl (by rfl),F5.trans (by constructor<;>rfl),?_⟩;rw[<-YT.out,<-V5.out];rfl
theorem Aa(w:World)(gk:Nat)(cs:AV)(hk:lQ w gk 120 cs)(A:OA)(m c:Nat)(l:List (Rq×Int))(h22:cs[22]?=some (.slice A m c))(hl:mo w A m 7 (l.flatMap EO))(hm:m<=4096):
  Y 15 #[gk] w fun e w'=>(∃a' c',e= .returned (.slice a' m c')/\w'.ownsRow w.heap.size 51 7 (.slice a' m c') m (l.flatMap EO))/\Be w w':=by
 obtain⟨i0,hi0,hz0,hz1,hz2⟩:=bq Mh;have c22:=(hk.cell 22).trans h22;have HL:=jj hl;clear hk h22 hl;go_enter func15,ntmps15
 go_wp2_with(first|(at_builtin;refine lZ rfl _ _ _ rfl w.heap.size 51 i0 _ 7 56 underlying44 hi0 hz0 hz1 hz2 rfl lK none 0 0 [] rfl ⟨lT,.inl ⟨rfl,rfl⟩⟩ A m c (l.flatMap EO) rfl HL (Ql l) (by unfold maxLen;omega) lK (aF _) ?_;intro a5 c5 w5 h5;have H5:=jj h5;clear h5;rw[aO]))
 go_ret;exact⟨⟨a5,c5,by trivial,by have:=H5.own;rwa [aO,List.nil_append] at this⟩,H5.only.mY⟩
theorem Ml(w:World)(gk:Nat)(cs:AV)(hk:lQ w gk 120 cs)(A:OA)(m c:Nat)(l:List Rq)(h19:cs[19]?=some (.slice A m c))(hl:mo w A m 6 (l.flatMap rA))(hm:m<=4096):
  Y 16 #[gk] w fun e w'=>(∃a' c',e= .returned (.slice a' m c')/\w'.ownsRow w.heap.size 49 6 (.slice a' m c') m (l.flatMap rA))/\Be w w':=by
 obtain⟨i0,hi0,hz0,hz1,hz2⟩:=bq rT;have c19:=(hk.cell 19).trans h19;have HL:=jj hl;clear hk h19 hl;go_enter func16,ntmps16
 go_wp2_with(first|(at_builtin;refine lZ rfl _ _ _ rfl w.heap.size 49 i0 _ 6 48 underlying46 hi0 hz0 hz1 hz2 rfl lK none 0 0 [] rfl ⟨lT,.inl ⟨rfl,rfl⟩⟩ A m c (l.flatMap rA) rfl HL (Bt l) (by unfold maxLen;omega) lK (aF _) ?_;intro a5 c5 w5 h5;have H5:=jj h5;clear h5;rw[aO]))
 go_ret;exact⟨⟨a5,c5,by trivial,by have:=H5.own;rwa [aO,List.nil_append] at this⟩,H5.only.mY⟩
theorem VN(w:World)(x gk:Nat)(f id:Int)(d:sI)(h:qF x w f id gk d)(hw:d.waits=false\/(d.now+1 -d.at_)%6≠0)(h0:0<=d.at_/\d.at_<=d.now/\d.now<1048000):
  Y 91 #[gk] w fun e w'=>e= .returned (.tuple #[])/\qF x w' f id gk {d with now:=d.now+1}/\Only (d.foot gk) w w':=by
 have HH:=jj h;have soft:=nV.of (x:=x) h.Bc lN;have done: ∀w',vT w' d.gt (d.now+1)->Only [d.gt] w w'->qF x w' f id gk {d with now:=d.now+1}/\Only (d.foot gk) w w':=fun w' hc ho=>
  ⟨⟨h.blk.only ho (mR (h.blk.nY h.Bc lN)),hc,mh h.yK ho h.Bc lN,h.isx,mh h.ans ho h.Bc lN,mh h.acc ho h.Bc lN,h.out.only ho (mR soft) (fun g hg hm=>by simp only[au] at hm;subst hm;exact mG h.out.own h.Bc lN (by rw[lV,hg]))⟩,ho.mono (by simp[sI.foot])⟩
 have DONE:=jj done;obtain⟨nn,gt,waits,ia,ic,il,at_,aa,ac,al,ea,ec,el,oa,oc,ol,now⟩:=d;simp only at hw h0;have hb:=h.blk;have HC:=jj h.Bc;have HB:=jj hb;have c17:=hb.at_ 17;have ne:gk≠gt:=hb.nY h.Bc lN;clear h hb soft done;go_enter func91,ntmps91
 go_wp2_with fail
 refine(Vy _ gt now HC lK lK).mono ?_;rintro e w1 ⟨rfl,hc1,ho1⟩;have B1:=jj (HB.only ho1 (mR ne));have c18:=B1.at_ 18;have C1:=jj hc1;have O1:=jj ho1;clear hc1 ho1 c17
 cases waits with
 |false=>
  go_wp2_with fail
  ((try simp only[Exit.inBlock,Exit.then]);refine dF (results_none rfl _ _ _) rfl ?_)
  exact⟨by trivial,DONE.out _ C1 O1⟩
 |true=>
  rcases hw with hw|hw
  ·cases hw
  go_upto_region 1 with fail
  have e1:IntKind.i64.wrap (now+1 -at_)=now+1 -at_:=aH _ lK;have e2:(now+1 -at_).tmod 6=(now+1 -at_)%6:=gN lK;have e3:IntKind.i64.wrap ((now+1 -at_)%6)=(now+1 -at_)%6:=aH _ lK;refine qI (fun w'=>J w' gk 17 gt/\J w' gk 20 (U at_)/\J w' gk 14 (U 6)/\vT w' gt (now+1)) 17 (tk 0 17 .done) (by kernel_rfl) (by kernel_rfl) (by kernel_rfl) ⟨B1.drew.cell 17,B1.drew.cell 20,B1.drew.cell 14,lQ.drew C1⟩ ?_;intro hS0
  repeat(first|refine' uT ?_|refine' uS ?_)
  refine pR _ _ rfl (by rfl) (by assumption) (fun w=>by go_simp;try exact⟨rfl,rfl⟩) (fun w hSw=>(Tj w gt (now+1) hSw.2.2.2).mono (fun e w' h=>h)) ?_;try simp only[Nw]
  repeat(first|refine' uT ?_|refine' uS ?_)
  refine qO ?_;clear hS0
  go_wp2_with fail
  go_end0
  have:=DONE.out _ (lQ.drew C1) O1.drew;exact⟨by trivial,this⟩
abbrev qb.node(D:qb)(i:Nat)(p:Ka):qb:={D with C:=D.C.node i p}
abbrev qb.net(D:qb)(nd:uU):qb:={D with C:=D.C.net nd}
abbrev qb.k0(D:qb)(d:sI):qb:={D with d0:=d,C:={D.C with ks:= [Gp D.C.cd.f 0 D.g0 d,uM []]}}
abbrev qb.k1(D:qb)(d:sI):qb:={D with d1:=d}
theorem ahi(D:qb)(K:KS)(d:sI):(D.k0 d).val K={D.val K with t0:=d.now}:=rfl
theorem ahj(D:qb)(K:KS)(d:sI):(D.k1 d).val K={D.val K with ck:=d.val}:=rfl
theorem afM(D:qb)(d:sI):rO D (D.k1 d):=⟨rfl,rfl,rfl,rfl,rfl,rfl,rfl,rfl⟩
section
variable{x y:Nat}{w w':World}{D:qb}{K K':KS}{i:Nat}{p:Ka}{d':lU}{nd:uU}
theorem Nn.node(h:Nn D)(hp:D.C.nodes[i]?=some (some p))(hnn:d'.nn=p.d.nn):Nn (D.node i ⟨p.gx,d'⟩):=by
 have hi:=(ah.1 hp).1;exact{h with
  len:=by show(D.C.nodes.set i _).length=_;rw[bG];exact h.len
  bad:=fun j hj=>by
   show(D.C.nodes.set i _)[j]?=some none↔_;by_cases e:i=j
   ·subst e
    rw[aL hi];have:=h.bad i hj;rw[hp] at this;simpa using this
   rw[aX e];exact h.bad j hj
  nn:=fun j q hq=>by
   replace hq:(D.C.nodes.set i _)[j]?=some (some q):=hq;by_cases e:i=j
   ·subst e
    rw[aL hi] at hq;injection hq with hq;injection hq with hq;rw[<-hq];exact hnn.trans (h.nn i p hp)
   rw[aX e] at hq;exact h.nn j q hq}
theorem rO.node(D:qb)(hp:D.C.nodes[i]?=some (some p))(d':lU):rO D (D.node i ⟨p.gx,d'⟩):=
 ⟨rfl,rfl,rfl,rfl,rfl,rfl,rfl,Dw tY _ _ _ _ hp rfl⟩
theorem mJ.below(h:mJ x w D K)(hb:Be w w'):mJ x w' D K:=⟨h.BJ.below hb,h.fx,aB h.xlt hb.size⟩
theorem mJ.nat(h:mJ x w D K)(hp:D.C.nodes[i]?=some (some p)):qE x w D.C.cd.f D.C.n i p.gx D.C.b p.d K:=Eu.nat h.BJ.sys hp (h.fx.nn i p hp)
theorem Hf{D':qb}(hs:rO D D')(s:Step x w w' (D.C.cs K) (D'.C.cs K'))(hd:D'.d1=D.d1):pW w w' D K D' K':=by
 refine⟨hs,s.only.mono fun k hk=> .inl (bL _ hk),fun k hk=> ?_⟩;unfold qb.nE at hk|-;rw[aQ] at hk;rcases hk with hk|hk
 ·exact(s.new k hk).imp (fun h=>bL _ h) id
 rw[hd,hs.g1] at hk;exact .inl (bH _ hk)
theorem mJ.lt(h:mJ x w D K): ∀k∈D.nE K,k<w.heap.size:=fun k hk=>(aQ.1 hk).elim (h.BJ.sys.lt k) (h.BJ.ck.lt k)
theorem mJ.go(h:mJ x w D K)(hp:D.C.nodes[i]?=some (some p))(hnn:d'.nn=p.d.nn)(hst:mP x w w' D.C.cd.f D.C.n i p.gx D.C.b p.d K d' K'):mJ x w' (D.node i ⟨p.gx,d'⟩) K'/\pW w w' D K (D.node i ⟨p.gx,d'⟩) K':=by
 have s:=Eu.YB h.BJ.sys hp (h.fx.nn i p hp) hnn hst;exact⟨⟨h.BJ.step s,h.fx.node hp hnn,aB h.xlt s.only.size⟩,Hf (rO.node D hp d') s rfl⟩
theorem mJ.blk(h:mJ x w D K):lQ w D.C.gc 99 (Gq D.C.cd):=h.BJ.sys.get (j:=1) rfl
theorem mJ.yG(h:mJ x w D K):w.ownsRow 0 52 1 (.slice D.C.cd.na D.C.cd.nl D.C.cd.nc) D.C.cd.nl (D.C.nodes.map tY):=h.BJ.sys.get (j:=3) (c:=wG 52 1 D.C.cd.na D.C.cd.nl D.C.cd.nc (D.C.nodes.map tY)) rfl
theorem mJ.wO(h:mJ x w D K):w.ownsRow 0 41 1 (.slice D.C.cd.ka D.C.cd.kl D.C.cd.kc) D.C.cd.kl D.C.kp:=h.BJ.sys.get (j:=4) (c:=wG 41 1 D.C.cd.ka D.C.cd.kl D.C.cd.kc D.C.kp) rfl
theorem mJ.OI(h:mJ x w D K):w.ownsRow 0 3 1 (.slice D.C.cd.fa D.C.cd.fm D.C.cd.fc) D.C.cd.fm (D.C.fl.map fun y:Int=>Value.int .i64 y):=h.BJ.sys.get (j:=5) (c:=wG 3 1 D.C.cd.fa D.C.cd.fm D.C.cd.fc (D.C.fl.map fun y:Int=>Value.int .i64 y)) rfl
theorem mJ.afH(h:mJ x w D K):oD w D.C.cd.gn 64 D.C.nd:=h.BJ.sys.get (j:=2) (c:=xS D.C.cd.gn 64 D.C.nd) rfl
theorem mJ.Pt(h:mJ x w D K):vC w D.C.cd.nn D.C.b K:=h.BJ.sys.get (j:=0) (c:=tZ D.C.cd.nn D.C.b K) rfl
theorem mJ.abe(h:mJ x w D K){g':Nat->Nat}{uW:Nat->Int}{ms':Nat->List (Value×List Int)}(hs:Step x w w' (D.C.cs K) ((D.C.net (D.C.nd.qs g' uW ms')).cs K)):mJ x w' (D.net (D.C.nd.qs g' uW ms')) K:=
 ⟨h.BJ.step hs,{h.fx with},aB h.xlt hs.only.size⟩
theorem abj(D:qb)(K:KS)(i:Nat)(p:Ka):(D.node i p).val K={D.val K with nodes:=(D.val K).nodes.set i (some p.d.val)}:=by
 unfold qb.val;simp only[eT];rfl
theorem Vw(h:mJ x w D K)(hp:D.C.nodes[i]?=some (some p)):
  Y 88 #[p.gx] w fun e w'=>e= .returned (.slice p.d.oa p.d.ol.length p.d.oc)/\mJ x w' (D.node i ⟨p.gx,p.d.outs none 0 []⟩) K/\pW w w' D K (D.node i ⟨p.gx,p.d.outs none 0 []⟩) K/\nJ x w' p.d.oa p.d.ol.length p.d.oc p.d.ol:=by
 refine(ahz x w _ _ _ _ _ _ _ (h.nat hp)).mono ?_;rintro e w' ⟨rfl,hst,ho,hs⟩;have g:=h.go (d':=p.d.outs none 0 []) hp rfl hst;exact⟨rfl,g.1,g.2,hs.at_ (Cv p.d.oa p.d.oc p.d.ol) lT⟩
theorem wh(h:mJ x w D K)(src:Int)(A:OA)(m c:Nat)(SL:List wN)(hO:nJ x w A m c SL)(hm:m<=4096)(M:Nat->List LI)(hM:zD (pE D.C.n) src (uy SL) (D.val K).M=some M):
  Y 48 #[D.C.gc,U src,.slice A m c] w fun e w'=>e= .returned (.tuple #[])/\ ∃D',mJ x w' D' K/\pW w w' D K D' K/\D'.val K={D.val K with M:=M}:=by
 have n4:=h.fx.n;have f4:=h.fx.f4;have np:=h.fx.np;refine(Xx x w D.C K h.BJ.sys (by rw[h.fx.ps,h.fx.np];simp[pE]) lK src A m c SL hO hm M (by rw[h.fx.ps];exact hM)).mono ?_;rintro e w' ⟨rfl,g',ms',hst,hv⟩;refine⟨rfl,D.net (D.C.nd.qs g' D.C.nd.lost ms'),h.abe hst,Hf ⟨rfl,rfl,rfl,rfl,rfl,rfl,rfl,rfl⟩ hst rfl,?_⟩;rw[<-hv];rfl
theorem mJ.afP(h:mJ x w D K)(hd:qF x w' D.C.cd.f 0 D.g0 d)(hia:d.ia=none)(ho:Only (D.d0.foot D.g0) w w')(hn: ∀k∈d.foot D.g0,k∈D.d0.foot D.g0\/w.heap.size<=k)(hnn:d.nn=D.d0.nn)(hw:d.waits=false)(ha:d.at_=0)(hq:d.quiet):mJ x w' (D.k0 d) K/\pW w w' D K (D.k0 d) K:=by
 have l:=h.fx.len;have hj:(D.C.cs K)[6+D.C.n]?=some (Gp D.C.cd.f 0 D.g0 D.d0):=by
  rw[show 6+D.C.n=D.C.n+6 by omega];show(nW D.C.cd.f D.C.n 0 D.C.nodes++D.C.ks)[D.C.n]?=_;rw[bN (by rw[qy,l];exact aF _),qy,l,fJ,h.fx.ks];rfl
 have s:=h.BJ.sys.turn hj ho (fun k hk=> .inl hk) (c':=Gp D.C.cd.f 0 D.g0 d) ⟨hd,hia⟩ (Qd _ _ _ _) hn;have e:(D.C.cs K).set (6+D.C.n) (Gp D.C.cd.f 0 D.g0 d)=(D.k0 d).C.cs K:=by
  unfold Eu.cs;rw[show 6+D.C.n=D.C.n+6 by omega];simp only[List.set_cons_succ];rw[iD _ _ (by rw[qy,l];exact aF _),qy,l,fJ,h.fx.ks];rfl
 rw[e] at s;exact⟨⟨h.BJ.step s,{h.fx with ks:=rfl,n0:=hnn.trans h.fx.n0,w0:=hw,a0:=ha,q0:=hq},aB h.xlt s.only.size⟩,Hf ⟨rfl,rfl,rfl,rfl,rfl,rfl,rfl,rfl⟩ s rfl⟩
theorem mJ.EC(h:mJ x w D K):qF x w D.C.cd.f 0 D.g0 D.d0/\D.d0.ia=none:=by
 have l:=h.fx.len;have hj:(D.C.cs K)[6+D.C.n]?=some (Gp D.C.cd.f 0 D.g0 D.d0):=by
  rw[show 6+D.C.n=D.C.n+6 by omega];show(nW D.C.cd.f D.C.n 0 D.C.nodes++D.C.ks)[D.C.n]?=_;rw[bN (by rw[qy,l];exact aF _),qy,l,fJ,h.fx.ks];rfl
 exact h.BJ.sys.get hj
theorem mJ.acv(h:mJ x w D K)(hd:qF x w' D.C.cd.f 1 D.g1 d)(ho:Only (D.d1.foot D.g1) w w')(hn: ∀k∈d.foot D.g1,k∈D.d1.foot D.g1\/w.heap.size<=k)(hnn:d.nn=D.d1.nn)(hq:d.quiet):mJ x w' (D.k1 d) K/\pW w w' D K (D.k1 d) K:=
 ⟨⟨h.BJ.own hd ho hn,{h.fx with n1:=hnn.trans h.fx.n1,q1:=hq},aB h.xlt ho.size⟩,⟨afM D d,ho.mono fun k hk=> .inl (bH _ hk),fun k hk=>by
  rcases aQ.1 hk with hk|hk
  ·exact .inl (bL _ hk)
  exact(hn k hk).imp (fun h=>bH _ h) id⟩⟩
theorem qF.abv{id:Int}{gk:Nat}(h:qF x w f id gk d)(hb:lQ w' gk 120 ((Nz f id d).setIfInBounds 23 ()))(ho:Only [gk] w w'):qF x w' f id gk {d with oa:=none,oc:=0,ol:= []}:=by
 have ne: ∀{t' s n c:Nat} {a:OA} {xs:LV},w.ownsRow 0 t' s (.slice a n c) n xs->t'≠120->w'.ownsRow 0 t' s (.slice a n c) n xs:=fun hr ht=>mh hr ho h.blk ht;exact⟨hb,lQ.only h.Bc ho (by simpa using(h.blk.nY h.Bc lN).symm),ne h.yK lN,h.isx,ne h.ans lN,ne h.acc lN,nJ.nil _ _⟩
theorem adW(h:mJ x w D K):
  Y 49 #[D.g0] w fun e w'=> ∃A c,e= .returned (.slice A 0 c)/\nJ x w' A 0 c []/\ ∃D',mJ x w' D' K/\pW w w' D K D' K/\D'.val K=D.val K:=by
 have q:=h.fx.q0;have hO:=h.EC.1.out;rw[q] at hO;refine(Ui w D.g0 _ h.EC.1.blk D.d0.oa 0 D.d0.oc (by simp only[Nz,q];rfl)).mono ?_;rintro e w' ⟨rfl,hb,ho⟩;have hc:=h.EC.1.abv hb ho;have:=h.afP hc h.EC.2 (ho.mono (by simp[sI.foot])) (fun k hk=> .inl (by
  simp only[sI.foot,ay,aQ,Option.map_none,Option.toList_none,aI,bK] at hk|-;rcases hk with hk|hk|hk|hk|hk
  ·exact .inl hk
  ·exact .inr (.inl hk)
  ·exact .inr (.inr (.inl hk))
  ·exact .inr (.inr (.inr (.inl hk)))
  exact .inr (.inr (.inr (.inr (.inl hk)))))) rfl h.fx.w0 h.fx.a0 rfl
 exact⟨_,_,rfl,hO.Ak ho h.EC.1.blk lN lN,_,this.1,this.2,rfl⟩
theorem Oj(h:mJ x w D K):
  Y 49 #[D.g1] w fun e w'=> ∃A c,e= .returned (.slice A 0 c)/\nJ x w' A 0 c []/\ ∃D',mJ x w' D' K/\pW w w' D K D' K/\D'.val K=D.val K:=by
 have q:=h.fx.q1;have hO:=h.BJ.ck.out;rw[q] at hO;refine(Ui w D.g1 _ h.BJ.ck.blk D.d1.oa 0 D.d1.oc (by simp only[Nz,q];rfl)).mono ?_;rintro e w' ⟨rfl,hb,ho⟩;have hc:=h.BJ.ck.abv hb ho;have:=h.acv hc (ho.mono (by simp[sI.foot])) (fun k hk=> .inl (by
  simp only[sI.foot,ay,aQ,Option.map_none,Option.toList_none,aI,bK] at hk|-;rcases hk with hk|hk|hk|hk|hk
  ·exact .inl hk
  ·exact .inr (.inl hk)
  ·exact .inr (.inr (.inl hk))
  ·exact .inr (.inr (.inr (.inl hk)))
  exact .inr (.inr (.inr (.inr (.inl hk)))))) rfl rfl
 exact⟨_,_,rfl,hO.Ak ho h.BJ.ck.blk lN lN,_,this.1,this.2,rfl⟩
end
theorem RL{D:qb}{K':KS}{i:Nat}{p:Ka}{d':lU}{v':ql}{X1:CV}(hp:D.C.nodes[i]?=some (some p))(hv:d'.val=v')(ho:DF D.C.n i (K',v') (D.val K)=some X1):
  ∃M,zD (pE D.C.n) i (uy d'.ol) ((D.node i ⟨p.gx,d'.outs none 0 []⟩).val K').M=some M/\{(D.node i ⟨p.gx,d'.outs none 0 []⟩).val K' with M:=M}=X1:=by
 subst hv;unfold DF at ho;simp only[aK] at ho;obtain⟨M,hM,rfl⟩:=ho;refine⟨M,hM,?_⟩;rw[abj];rfl
theorem adn(x:Nat)(w:World)(D:qb)(K:KS)(h:mJ x w D K)(X':CV)(hv:Ei D.C.cd.f D.C.n (D.val K)=some X'):
  Y 52 #[D.C.gc] w fun e w'=>e= .returned (.tuple #[])/\ ∃D',mJ x w' D' X'.K/\pW w w' D K D' X'.K/\D'.val X'.K=X':=by
 unfold Ei at hv;simp only[aA] at hv;obtain⟨X1,hv1,hv2⟩:=hv;obtain⟨YT,SF,H⟩:=j3 hv1 hv2 h;have c18:=h.blk.at_ 18;have ak1:Hid (D.C.cd.nl=D.C.n/\D.C.nodes.length=D.C.n):=jj ⟨h.fx.nl,h.fx.len⟩;obtain⟨gc,hgc⟩:=ex D.C.gc;obtain⟨na,hna⟩:=ex D.C.cd.na;obtain⟨nl,hnl⟩:=ex D.C.cd.nl;obtain⟨nc,hnc⟩:=ex D.C.cd.nc;have small:nl<=13:=by have:=h.fx.n;have:=h.fx.f4;have:=h.fx.nl;omega
 rw[<-hgc,<-hna,<-hnl,<-hnc] at c18;rw[<-hgc];have GC:=jj hgc;have NA:=jj (dH hna (dH hnl hnc));clear h hv1 hv2 hgc hna hnl hnc;go_enter func52,ntmps52
 go_wp2_with fail
 go_loopw [11] (fun z wr=> ∃i:Nat,i<=nl/\z= U i/\ ∃D' K',mJ x wr D' K'/\pW w wr D K D' K'/\zm D.C.cd.f D.C.n (nl -i) i (D'.val K')=some X1) (fun z _=>nl -(intOf z).toNat)
 case atStart=>exact⟨0,lK,by first|rfl|simp,D,K,H,pW.refl _ D K,by
  rw[Nat.sub_zero,NA.2.1,ak1.1];exact YT.out⟩
 case round=>
  obtain⟨i,hi,rfl,D1,K1,hA,hS,hT⟩:=hrel;obtain⟨AT,SM,TV⟩:=j3 hA hS hT;clear hA hS hT;by_cases hlt:i<nl
  ·have i1:(i:Int)<nl:=lK
   have i2:(0:Int)<=i:=lK;have L1:Hid (i<D1.C.nodes.length):=jj (by rw[AT.fx.len,SM.same.n,<-ak1.1,<-NA.2.1];exact hlt);obtain⟨o,ho⟩: ∃o,D1.C.nodes[i]?=some o:=⟨_,aj L1⟩;have HO:=jj ho;have RW:Hid (wr.ownsRow 0 52 1 (.slice na nl nc) nl (D1.C.nodes.map tY)):=jj (by
    have:=AT.yG;rw[SM.same.f,<-NA.1,<-NA.2.1,<-NA.2.2] at this;exact this)
   obtain⟨b0,hb0,d0⟩:=tu RW hlt (v:=tY o) (by rw[aS,HO.out];rfl);subst hb0;have TV':=TV.out;rw[show nl -i=(nl -(i+1))+1 by omega,zm,show(D1.val K1).nodes[i]?=some (o.map fun p=>p.d.val) by show(D1.C.nodes.map _)[i]?=_;rw[aS,HO.out];rfl] at TV';have TW:=jj TV';clear ho TV' RW
   cases o with
   |none=>
    have d1:J wr b0 i (.pointer none):=d0;clear d0
    go_wp2_with fail
    go_roundw
    case rel=>exact⟨i+1,lK,by go_num,D1,K1,AT,SM,TW⟩
    simp[intOf];omega
   |some p=>
    have d1:J wr b0 i p.gx:=d0;clear d0;have TX:=TW.out;simp only[Option.map_some,aA] at TX;obtain⟨⟨K2,v2⟩,ht,_,hm,X2,hx2,ht2⟩:=TX;have OL:=mI hm;obtain⟨TT,HX2,HT2,OL⟩:=j4 ht hx2 ht2 OL;clear ht hx2 ht2 hm TW;have eF:D1.C.cd.f=D.C.cd.f:=by rw[SM.same.f]
    have ao0:Hid (i<D1.C.n):=jj (by rw[<-AT.fx.len];exact L1.out)
    go_wp2_with fail
    refine(aeb x _ ⟨D1.C.cd.f,D1.C.n,i⟩ p.gx D1.C.b p.d K1 (AT.nat HO) AT.xlt AT.fx.f1 AT.fx.f4 AT.fx.n ao0 K2 v2 (by rw[eF,SM.same.n];exact TT.out)).mono ?_;rintro e w2 ⟨rfl,hgo⟩;have GO:=jj hgo;clear hgo;obtain⟨d',hst,hfx,hval⟩:=GO.out;have A2:=jj (AT.go HO hfx.nn hst).1;have T2:=jj (AT.go HO hfx.nn hst).2;have hp2:(D1.node i ⟨p.gx,d'⟩).C.nodes[i]?=some (some ⟨p.gx,d'⟩):=aL L1;have HP2:=jj hp2;have Ko:=jj hval;clear hst hfx hval GO d1 hp2
    go_wp2_with fail
    refine(Vw A2 HP2).mono ?_;rintro e w3 ⟨rfl,hA3,hT3,hO3⟩;have e3:(D1.node i ⟨p.gx,d'⟩).node i ⟨p.gx,d'.outs none 0 []⟩=D1.node i ⟨p.gx,d'.outs none 0 []⟩:=by simp[qb.node,Eu.node]
    simp only[] at hA3 hO3;rw[e3] at hA3 hT3;obtain⟨T3,A3,O3⟩:=j3 hT3 hA3 hO3;clear hA3 hO3 e3 hT3;obtain⟨M,hM,hMX⟩:=RL (D:=D1) HO Ko (by rw[SM.same.n];exact HX2.out);have HM:=jj hM;have HMX:=jj hMX;clear hM hMX
    go_wp2_with fail
    have LO:Hid (d'.ol.length<=4096):=jj (by
     have:=OL.out;rw[<-Ko.out] at this;simpa[lU.val,uy] using this)
    have GC2:D1.C.gc=gc:=by rw[SM.same.gc,GC.out]
    rw[<-GC2];refine(wh A3 i d'.oa d'.ol.length d'.oc d'.ol O3 LO M HM).mono ?_;rintro e w4 ⟨rfl,D4,FD,Gs,Qq⟩;have A4:=jj FD;have S4:=jj Gs;have V4:=jj (Qq.trans HMX);clear FD Gs Qq;rw[GC2]
    go_wp2_with fail
    go_roundw
    case rel=>exact⟨i+1,lK,by go_num,D4,K2,A4,((SM.trans T2).trans T3).trans S4,by rw[V4.out];exact HT2.out⟩
    simp[intOf];omega
  obtain rfl:i=nl:=lK;rw[fJ] at TV;have e1:D1.val K1=X1:=by
   have:=TV.out;rw[zm] at this;exact dh this
  have E1:=jj e1;clear e1 TV c18;have c19:J wr gc 19 (.slice D.C.cd.ka D.C.cd.kl D.C.cd.kc):=by
   have:=AT.blk.cell 19;rw[SM.same.gc,<-GC.out,SM.same.f] at this;exact this
  have kl2:D.C.cd.kl=2:=H.fx.kl;rw[kl2] at c19;obtain⟨ka,hka⟩:=ex D.C.cd.ka;obtain⟨kc,hkc⟩:=ex D.C.cd.kc;rw[<-hka,<-hkc] at c19;have KA:=jj (dH hka hkc);clear hka hkc kl2;have CT:=SF.out;unfold NJ at CT;simp only[aK] at CT;obtain⟨_,hmu,hX'⟩:=CT;have MU:=jj (mI hmu);have HX':=jj hX';clear hmu hX' SF;obtain⟨wm,hwm⟩:=ex wr;rw[<-hwm] at AT SM c19|-;clear hwm
  go_wp2_with fail
  go_loopw [31] (fun z wr=> ∃j:Nat,j<=2/\z= U j/\ ∃D',mJ x wr D' K1/\pW w wr D K D' K1/\D'.val K1=(if j=0 then X1 else if j=1 then{X1 with t0:=X1.t0+1} else{X1 with t0:=X1.t0+1,ck:={X1.ck with now:=X1.ck.now+1}})) (fun z _=>2 -(intOf z).toNat)
  case atStart=>exact⟨0,lK,by first|rfl|simp,D1,AT,SM,by rw[aV rfl];exact E1.out⟩
  case round=>
   obtain⟨j,hj,rfl,D2,hA,hS,akb⟩:=hrel;obtain⟨A2,S2,V2⟩:=j3 hA hS akb;clear hA hS akb;have RW:Hid (wr.ownsRow 0 41 1 (.slice ka 2 kc) 2 D2.C.kp):=jj (by
    have:=A2.wO;rw[S2.same.f,<-KA.1,<-KA.2,H.fx.kl] at this;exact this)
   have GC2:Hid (D2.C.gc=gc):=jj (by rw[S2.same.gc,GC.out]);rcases(by omega:j=0\/j=1\/j=2) with rfl|rfl|rfl
   ·obtain⟨b0,hb0,d0⟩:=tu RW (k:=0) lK (v:= .pointer (some ⟨D2.g0,0,none⟩)) (by rw[A2.fx.kp];rfl)
    subst hb0;clear RW;have V3:=V2.out;rw[aV rfl] at V3;have V4:=jj V3;clear V3 V2;have t0:D2.d0.now=X1.t0:=by rw[<-V4.out];rfl
    have T0:=jj t0;clear t0
    go_wp2_with fail
    refine(VN _ x D2.g0 D2.C.cd.f 0 D2.d0 A2.EC.1 (.inl A2.fx.w0) ⟨by rw[A2.fx.a0];exact Int.le_refl _,by rw[A2.fx.a0,T0.out];exact MU.1,by rw[T0.out];exact MU.2.1⟩).mono ?_;rintro e w3 ⟨rfl,hk3,ho3⟩;have TT3:=A2.afP hk3 A2.EC.2 ho3 (fun k hk=> .inl hk) rfl A2.fx.w0 A2.fx.a0 A2.fx.q0;have A3:=jj TT3.1;have T3:=jj TT3.2;clear TT3;clear hk3 ho3;clear d0
    go_wp2_with fail
    refine(adW A3).mono ?_;rintro e w4 ⟨Ao,co,rfl,hO4,D4,FD,Gs,Qq⟩;obtain⟨A4,S4,V4b,O4⟩:=j4 FD Gs Qq hO4;clear FD Gs Qq hO4;have GC4:Hid (D4.C.gc=gc):=jj (S4.same.gc.trans GC2.out)
    go_wp2_with fail
    rw[<-GC4.out];refine(wh A4 100 Ao 0 co [] O4 lK _ rfl).mono ?_;rintro e w5 ⟨rfl,D5,Qp,hS5,Qr⟩;obtain⟨A5,S5,V5⟩:=j3 Qp hS5 Qr;clear Qp hS5 Qr;rw[GC4.out]
    go_wp2_with fail
    go_roundw
    case rel=>exact⟨1,lK,by go_num,D5,A5,((S2.trans T3).trans S4).trans S5,by
     rw[V5.out,V4b.out,ahi,V4.out,aU lK,aV rfl,T0.out]⟩
    simp[intOf]
   ·obtain⟨b0,hb0,d0⟩:=tu RW (k:=1) lK (v:= .pointer (some ⟨D2.g1,0,none⟩)) (by rw[A2.fx.kp];rfl)
    subst hb0;clear RW;have V3:=V2.out;rw[aU lK,aV rfl] at V3;have V4:=jj V3;clear V3 V2;have ck:D2.d1.val=X1.ck:=congrArg CV.ck V4;have CK:=jj ck;clear ck
    go_wp2_with fail
    refine(VN _ x D2.g1 D2.C.cd.f 1 D2.d1 A2.BJ.ck (by have:=MU.2.2.1;rw[<-CK.out] at this;exact this) (by have:=MU.2.2.2;rw[<-CK.out] at this;exact this)).mono ?_;rintro e w3 ⟨rfl,hk3,ho3⟩;have TT3:=A2.acv hk3 ho3 (fun k hk=> .inl hk) rfl A2.fx.q1;have A3:=jj TT3.1;have T3:=jj TT3.2;clear TT3;clear hk3 ho3;clear d0
    go_wp2_with fail
    refine(Oj A3).mono ?_;rintro e w4 ⟨Ao,co,rfl,hO4,D4,FD,Gs,Qq⟩;obtain⟨A4,S4,V4b,O4⟩:=j4 FD Gs Qq hO4;clear FD Gs Qq hO4;have GC4:Hid (D4.C.gc=gc):=jj (S4.same.gc.trans GC2.out)
    go_wp2_with fail
    rw[<-GC4.out];refine(wh A4 101 Ao 0 co [] O4 lK _ rfl).mono ?_;rintro e w5 ⟨rfl,D5,Qp,hS5,Qr⟩;obtain⟨A5,S5,V5⟩:=j3 Qp hS5 Qr;clear Qp hS5 Qr;rw[GC4.out]
    go_wp2_with fail
    go_roundw
    case rel=>exact⟨2,lK,by go_num,D5,A5,((S2.trans T3).trans S4).trans S5,by
     rw[V5.out,V4b.out,ahj,V4.out,aU lK,aU lK,<-CK.out];rfl⟩
    simp[intOf]
   go_wp2_with fail
   go_end0
   have KK:X1.K=K1:=by rw[<-E1.out];rfl
   have e2:=V2.out;rw[aU lK,aU lK,HX'.out] at e2;have K2:X'.K=K1:=by rw[<-e2];rfl
   rw[K2];exact⟨by trivial,D2,A2,S2,e2⟩
end Go.Proofs.YtgnhecmnlddjhaaGreat
