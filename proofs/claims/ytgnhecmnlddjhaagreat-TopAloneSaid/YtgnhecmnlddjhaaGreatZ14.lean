/- TopAlone, part 15 of 24: a proof squeezed by a program. -/
import Derived.Test.YtgnhecmnlddjhaaGreatZ13
set_option linter.unusedVariables false
set_option linter.unusedSimpArgs false
set_option linter.defProp false
set_option maxRecDepth 100000
set_option maxHeartbeats 6400000
namespace Go.Proofs.YtgnhecmnlddjhaaGreat
open Go.RowKit Go.Proofs.Tryz
variable{K:KS}{c:CD}{f:Int}{k n x:Nat}{l:LI}{w:World}
def abX(gx:Nat)(w:World):Nat:=match w.cell? ⟨gx,28,none⟩ with
 |some (.int _ z)=>z.toNat
 |_=>0
theorem Rm{id gx b:Nat}{d:lU}(h:qE x w f n id gx b d K):abX gx w=d.run.toNat:=by
 unfold abX;rw[h.blk.cell 28];rfl
theorem aal{base c:Nat}{a:OA}{es:List CY}(h:w.ownsRow base 51 7 (.slice a n c) n (es.flatMap pF))(hl:es.length=n)(hk:k<n): ∃(e:CY) (g:Nat),es[k]?=some e/\a=some ⟨g,0,none⟩/\ ∀j v,j<7->(pF e)[j]?=some v->J w g (k*7+j) v:=by
 have hk':k<es.length:=lK;rcases h.2 with⟨_,rfl⟩|⟨g,cap,cur,hv,_⟩
 ·omega
 injection hv with ha _ _;subst ha;obtain⟨b,off,e,_,hc⟩:=(l9 h).2 lK;injection e with e;injection e with e1 e2;subst e1;subst e2;refine⟨es[k],g,aj hk',rfl,fun j v hj hv=> ?_⟩;have:=hc _ _ (nT pF 7 vP es k j hj hk' v hv)
 rwa [aO] at this
theorem Db: ∀l:List uo,oh l<=l.length
 | []=>aF _
 |p::l=>by
  have:=Db l;simp only[oh,List.length_cons];split<;>omega
theorem CF.step{w':World}{L L':List ni}(hM:CF x w c)(h:Sys x w L)(st:Step x w w' L L'):CF x w' c:=hM.only st.only h.soft
theorem Rl(st:List (Bool×Int))(ct:List (Int×Int))(rs:List Rq):(qL ([],st,ct) rs).1.length<=rs.length:=by
 have key: ∀(rs:List Rq) (s:Kr),(qL s rs).1.length<=s.1.length+rs.length:=by
  intro rs
  induction rs with
  |nil=>intro s;simp[qL]
  |cons r rs ih=>
   intro s;have h1:=ih (qg s r);have h2:=Nf s r;simp only[qL,List.foldl_cons,List.length_cons] at h1|-;omega
 have:=key rs ([],st,ct);simpa using this
theorem XD{E:Who}{fuel:Nat}{K1 K':KS}{v1 v':ql}(h:wS E fuel (K1,v1)=some (K',v')): ∃i,v1.is[0]?=some i/\(((oh i.ps:Int)<=v1.run/\K1=K'/\v1=v')\/(v1.run<(oh i.ps:Int)/\ ∃(fuel':Nat) (c:Ce) (S1:KN),i.ps[v1.run.toNat]?.bind uo.done=some c/\Yx E c.batch (K1,{v1 with run:=v1.run+1})=some S1/\wS E fuel' S1=some (K',v'))):=by
 cases fuel with
 |zero=>
  simp only[wS,aA,aK,aM] at h;obtain⟨i,hi,u,hu,e1,e2⟩:=h;exact⟨i,hi,.inl ⟨mI hu,e1,e2⟩⟩
 |succ fuel=>
  rw[wS] at h;simp only[aA] at h;obtain⟨i,hi,h⟩:=h;refine⟨i,hi,?_⟩;split at h
  ·rename_i hle
   simp only[aD,aM] at h;exact .inl ⟨hle,h.1,h.2⟩
  rename_i hle;simp only[aA] at h;obtain⟨c,hc,S1,h1,h2⟩:=h;exact .inr ⟨lK,fuel,c,S1,aA.2 hc,h1,h2⟩
theorem VW(x:Nat)(w:World)(E:Who)(gx b:Nat)(d:lU)(K:KS)(h:qE x w E.f E.n E.id gx b d K)(hx:x<w.heap.size)(h1:1<=E.f)(h4:E.f<=4)(k:Nat)(xO:k<=16)(z:Int)(hz:z=k)(A:OA)(m c:Nat)(bs:List Rq)(hr:sK x w A m c bs)(K':KS)(v':ql)(hv:NC E k bs (K,d.val)=some (K',v')):
  Y 224 #[gx,U z,.slice A m c] w fun e w'=>e= .returned (.tuple #[])/\Kt x w w' E gx b d K K' v':=by
 unfold NC at hv;simp only[aA] at hv;obtain⟨u,hu,ga,hg,hv⟩:=hv;have ft:=mI hu;have hmb:bs.length=m:=hr.row.len;have hm4:m<=4:=by have:=ft.b;omega
 have hT:d.T.length<=64:=ft.T;have Oc:0<=d.now/\d.now<=1000000:=ft.now;have hrun:0<=d.run/\d.run<=16:=ft.run;have zi:qX z:=by rw[hz];exact⟨lK,lK⟩
 replace hg:wu z d.now d.T bs d.ga=some ga:=by rw[hz];exact hg
 obtain⟨H,HX,HR,HV,HG,HMB⟩:=j6 h hx hr hv hg hmb;have HZ:=jj hz;have am2:=jj hrun;clear h hx hr hv hg ft hu hmb hz hrun;go_enter func224,ntmps224
 go_wp2_with fail
 go_loopw [16] (fun q wr=> ∃(i:Nat) (gi:List (Int×Int)),i<=m/\q= U i/\mP x w wr E.f E.n E.id gx b d K (d.yS gi) K/\wu z d.now d.T (bs.drop i) gi=some ga) (fun q _=>m -(intOf q).toNat)
 case atStart=>exact⟨0,d.ga,lK,by first|rfl|simp,Step.refl H,by rw[jf];exact HG.out⟩
 case round=>
  obtain⟨i,gi,hi,rfl,hst,hgi⟩:=hrel;obtain⟨SW,HW,GI⟩:=j3 hst hst.sys hgi;clear hst hgi;by_cases hlt:i<m
  ·have i1:(i:Int)<m:=lK
   have i0:(0:Int)<=i:=lK;have e2:IntKind.i64.wrap ((i:Int)+1)=(i:Int)+1:=aH _ lK;obtain⟨g,off,rfl,IE,x0,x1,x2,x3,x4,x5,hbx,a0,a1,a2,a3,a4,a5⟩:=(HR.step H SW).row.get (k:=i) hlt;have hdr:bs.drop i=(x0,x1,x2,x3,x4,x5)::bs.drop (i+1):=by
    obtain⟨hl,e⟩:=ah.1 hbx;rw[<-e];exact(dY hl).symm
   have hgo:=GI.out;rw[hdr,wu] at hgo;simp only[aA] at hgo;obtain⟨os,hos,hgo⟩:=hgo;have HOS:=jj hos;have Zo:=jj hgo;clear hos hgo hdr hbx
   go_upto_region 3 with fail
   generalize hv1:wr.alloc _=v1;generalize hg1:wr.heap.size=g1;replace hv1:=hv1.symm;replace hg1:=hg1.symm;obtain⟨B1,X1⟩:=nw hv1 hg1;clear hv1 hg1 a0 a1 a2 a3 a4 a5 IE;have KS:Hid (∀u,Be v1 u->J u gx 19 d.nH/\J u g1 0 (U x0)/\J u g1 1 (U x1)/\J u g1 2 (U x2)/\J u g1 3 (U x3)/\J u g1 4 (U x4)/\J u g1 5 (U x5)):=jj fun u o=>⟨((HW.below B1).below o).blk.cell 19,(X1.below o X1.lt).cell 0,(X1.below o X1.lt).cell 1,(X1.below o X1.lt).cell 2,(X1.below o X1.lt).cell 3,(X1.below o X1.lt).cell 4,(X1.below o X1.lt).cell 5⟩;refine rD (fun u=>J u gx 19 d.nH/\J u g1 0 (U x0)/\J u g1 1 (U x1)/\J u g1 2 (U x2)/\J u g1 3 (U x3)/\J u g1 4 (U x4)/\J u g1 5 (U x5)) 11 (tk 0 5 (.one 5 (tk 6 5 .done))) (KS.out _ (aC _ _).drew) fun v2 B2 hS0=> ?_
   repeat refine' tT ?_
   refine pO fun KT lS=> ?_;go_simp;refine(QO (d:=d.yS gi) (K:=K) ((HW.below B1).below B2) hT (x0,x1,x2,x3,x4,x5) os HOS).mono ?_;rintro e v3 ⟨rfl,hb3⟩;have B3:=nO B2 hb3;clear hb3;have S3:=KS.out _ B3;refine oH lS S3 ?_;clear hS0;have hS0:=S3
   repeat refine' tT ?_
   refine lM ?_;clear hS0 S3;have BW:Hid (Be wr v3):=jj (B1.trans (B3.mono B1.size));have HW3:=jj (HW.below BW);have SW3:=jj (SW.below BW)
   cases os with
   |none=>
    go_wp2_with fail
    go_roundw
    case rel=>exact⟨i+1,gi,lK,by go_num,SW3,Zo⟩
    simp[intOf];omega
   |some t=>
    have hgo:=Zo.out;simp only[aA] at hgo;obtain⟨u,hu,hgo⟩:=hgo;obtain⟨it,hro,hl5,ik⟩:=mI hu;obtain⟨amP,IT,RO⟩:=j3 hgo it hro;have e3:IntKind.i64.wrap (d.now -t)=d.now -t:=aH _ it;clear hgo hu it hro Zo
    go_upto_region 5 with fail
    refine rD (fun u=>J u gx 23 d.gm/\J u gx 17 d.gt) 13 (tk 0 9 (.take 10 (.one 9 (.take 11 (.one 12 .done))))) ⟨HW3.blk.drew.cell 23,HW3.blk.drew.cell 17⟩ fun v4 B4 hS0=> ?_;have HW4:=jj (HW3.below B4)
    repeat refine' tT ?_
    refine pO fun KT lS=> ?_;go_simp;refine(vF HW4).mono ?_;rintro e v5 ⟨rfl,rfl⟩;refine oH lS hS0 ?_
    repeat refine' tT ?_
    refine pO fun KT lS=> ?_;go_simp;refine(ahr (d:=d.yS gi) HW4 hl5 RO z (d.now -t) zi IT).mono ?_;rintro e v6 ⟨o6,rfl,st6⟩;have ST6:=jj st6;clear st6;have S6:J v6 gx 23 d.gm/\J v6 gx 17 d.gt:=⟨ST6.sys.blk.cell 23,ST6.sys.blk.cell 17⟩;refine oH lS S6 ?_;clear hS0;have hS0:=S6
    repeat refine' tT ?_
    refine lM ?_;clear hS0 S6
    go_wp2_with fail
    go_roundw
    case rel=>exact⟨i+1,_,lK,by go_num,(SW3.below B4).trans ST6,amP⟩
    simp[intOf];omega
  obtain rfl:i=m:=lK;have i1: ¬(i:Int)<i:=lK;have hgo:=GI.out;rw[eP (tL HMB.out),wu] at hgo;injection hgo with hgo;subst hgo;clear GI;have hv:=HV.out;clear HV;by_cases hz0:z=0
  ·subst hz0
   have hk0:k=0:=by have:=HZ.out;omega
   rw[aV hk0] at hv;simp only[aA,aK] at hv;obtain⟨S2,hex,u,hu,he⟩:=hv;subst he;have hrn:=mI hu;have HEX:=jj hex;have HRN:=jj hrn;obtain⟨dg,hdg⟩:=ex (d.yS gi);have ajA:Hid (({d.val with ga:=gi}:ql)=dg.val):=jj (by rw[hdg];rfl);have HWG:Hid (qE x wr E.f E.n E.id gx b dg K):=jj (by rw[hdg];exact HW.out);have SWG:Hid (mP x w wr E.f E.n E.id gx b d K dg K):=jj (by rw[hdg];exact SW.out);have FXG:Hid (Fix d dg):=jj (by rw[hdg];exact Fix.MN d gi);have ajt:Hid (0<=dg.run/\dg.run<=16):=jj (by rw[hdg];exact am2.out);rw[ajA.out] at HEX;clear hex hrn hu hdg ajA SW HW HG hk0;obtain⟨wg,hwg⟩:=ex wr;rw[<-hwg] at HWG SWG|-;clear hwg
   go_wp2_with fail
   go_loopw [] (fun wr=> ∃(fuel:Nat) (d1:lU) (K1:KS),mP x w wr E.f E.n E.id gx b d K d1 K1/\Fix d d1/\0<=d1.run/\d1.run<=16/\wS E fuel (K1,d1.val)=some (K',v')) (fun wr=>17 -abX gx wr)
   case atStart=>exact⟨16,dg,K,SWG,FXG,ajt.1,ajt.2,HEX⟩
   case round=>
    obtain⟨fuel,d1,K1,hst,hfx,hr0,avv,hex⟩:=hrel;obtain⟨wo,hwo⟩:=ex wr;rw[<-hwo] at hst|-;clear hwo;obtain⟨S1,H1,F1,EX1⟩:=j4 hst hst.sys hfx hex;clear hst hfx hex;obtain⟨iv,hiv,hstep⟩:=XD EX1;obtain⟨g0,I0,hg0,hI0⟩:=qd hiv;have G0:Hid (d1.is[0]?.map Prod.fst=some g0):=jj (by rw[hg0];rfl);have P0:Hid (∀u,qE x u E.f E.n E.id gx b d1 K1->J u d1.gr 0 g0):=jj fun u hu=>hu.ptr hg0;have i1:(0:Int)<d1.is.length:=by have:=zZ hg0;omega
    have i1n:0<d1.is.length:=zZ hg0;have dle:oh iv.ps<=16:=by
     have hl:I0.ps.length=16:=(H1.inst hg0).len;have:=Db iv.ps;rw[<-hI0] at this|-;simp only[tJ.val,aT] at this|-;omega
    have SA:=jj hiv;have HST:=jj hstep;clear hiv hstep hg0 hI0 EX1
    go_upto_region 8 with fail
    have KS1:Hid (∀u,Be wo u->J u gx 28 (U d1.run)/\J u gx 18 (O d1.gr d1.is.length d1.rX)/\J u d1.gr 0 g0):=jj fun u o=>⟨(H1.below o).blk.cell 28,(H1.below o).blk.cell 18,P0.out _ (H1.below o)⟩;refine rD (fun u=>J u gx 28 (U d1.run)/\J u gx 18 (O d1.gr d1.is.length d1.rX)/\J u d1.gr 0 g0) 12 (tk 0 10 (.one 10 (.take 11 .done))) (KS1.out _ (aC _ _).drew) fun v1 B1 hS0=> ?_
    repeat refine' tT ?_
    refine pO fun KT lS=> ?_;go_simp;refine(Ov (H1.below B1) 0 iv SA g0 G0).mono ?_;rintro e v2 ⟨rfl,rfl⟩;refine oH lS hS0 ?_
    repeat refine' tT ?_
    refine lM ?_;clear hS0;have HS1:=jj (H1.below B1);have SS1:=jj (S1.below B1);have hst:=HST.out;clear HST;rcases hst with⟨hle,Ke,Za⟩|⟨hlt,fuel',cq,SQ,hcq,Po,hex'⟩
    ·replace hle:(oh iv.ps:Int)<=d1.run:=hle
     have i2: ¬d1.run<(oh iv.ps:Int):=lK;have c28:=HS1.blk.at_ 28;have Po:d1.run<16:=by have:=HRN.out;rw[<-Za] at this;exact this
     have i3: ¬(16:Int)<=d1.run:=lK;have VV:=jj Za;have KK:=jj Ke;clear Za Ke
     go_wp2_with fail
     go_end0
     refine⟨by trivial,d1,?_,F1,VV⟩;rw[<-KK.out];exact SS1.out
    replace hlt:d1.run<(oh iv.ps:Int):=hlt;have i2:d1.run<(oh iv.ps:Int):=hlt;have e4:IntKind.i64.wrap (d1.run+1)=d1.run+1:=aH _ lK;have c28:=HS1.blk.at_ 28;have f28:=HS1.blk.frozen 28;obtain⟨HCQ,HRV,amM⟩:=j3 hcq Po hex';clear hcq Po hex' hlt;have P3:Hid (∀u,qE x u E.f E.n E.id gx b (d1.runs (d1.run+1)) K1->J u d1.gr 0 g0):=jj fun u hu=>by
     have e:=G0.out;rw[aK] at e;obtain⟨q,hq,rfl⟩:=e;exact hu.ptr (d:=d1.runs (d1.run+1)) (k:=0) hq
    go_upto_region 10 with fail
    obtain⟨v3,hv3⟩:=ex (v1.setCell ⟨gx,28,none⟩ (U (d1.run+1)));rw[<-hv3];have S3:Hid (mP x w v3 E.f E.n E.id gx b d K (d1.runs (d1.run+1)) K1):=jj (by rw[hv3];exact SS1.aeu (d'':=d1.runs (d1.run+1)) rfl (by simp[yB]));have H3:=jj S3.out.sys;have HX3:Hid (x<v3.heap.size):=jj (aB HX S3.out.size);clear hv3 c28 f28 SS1 HS1;have HI2:=jj i2;clear i2;generalize decide (d1.run<(oh iv.ps:Int))=tb
    go_cut [10,11] from 65 to 78 (fun q10 q11 wx=>q11= .bool true/\ ∃(cd:CD) (gq:Nat),q10= .pointer (some ⟨gq,0,none⟩)/\pz cd=cq/\cd.bn<=4096/\lQ wx gq 228 #[U cd.view,U cd.inst,U cd.seq,.slice cd.ba cd.bn cd.bc,.slice cd.va cd.vn cd.vc]/\v3.heap.size<=gq/\CF x wx cd/\Be v3 wx)
    case first=>
     have hi3:(d1.runs (d1.run+1)).val.is[0]?=some iv:=SA.out;have hcq:iv.ps[d1.run.toNat]?.bind uo.done=some cq:=HCQ.out;have KS3:Hid (∀u,Be v3 u->J u gx 28 (U (d1.run+1))/\J u gx 18 (O d1.gr d1.is.length d1.rX)/\J u d1.gr 0 g0):=jj fun u o=>⟨(H3.below o).blk.cell 28,(H3.below o).blk.cell 18,P3.out _ (H3.below o)⟩;refine rD (fun u=>J u gx 28 (U (d1.run+1))/\J u gx 18 (O d1.gr d1.is.length d1.rX)/\J u d1.gr 0 g0) 17 (tk 0 10 (.two 10 (tk 11 3 (.one 14 (.one 15 (.take 16 .done)))) 14 (.one 10 (tk 11 3 (.one 15 (.take 16 .done)))))) (KS3.out _ (aC _ _).drew) fun v2 Bd hS0=> ?_;have Hd:=jj (H3.below Bd);have HXd:Hid (x<v2.heap.size):=jj (aB HX3 Bd.size);have KSd:Hid (∀u,Be v2 u->J u gx 28 (U (d1.run+1))/\J u gx 18 (O d1.gr d1.is.length d1.rX)/\J u d1.gr 0 g0):=jj fun u o=>KS3.out u (Bd.trans (o.mono Bd.size))
     repeat refine' tT ?_
     refine qN ?_ ?_
     ·refine pO fun KT lS=> ?_
      go_simp;refine(tX Hd HXd 0 d1.run.toNat _ hi3 cq hcq g0 G0 (d1.run+1) lK).mono ?_;rintro e v4 ⟨cd,rfl,hce,hcf,hbn,hvn,hb4⟩;have B4:Hid (Be v2 v4):=jj hb4;have S4:=KSd.out _ B4;rw[show(nS cd).toArray=#[U cd.view,U cd.inst,U cd.seq,.slice cd.ba cd.bn cd.bc,.slice cd.va cd.vn cd.vc] from rfl];refine oH lS S4 ?_;clear hS0;have hS0:=S4
      repeat refine' tT ?_
      refine pO fun KT lS=> ?_;go_simp;generalize hv5:v4.alloc _=v5;generalize qP:v4.heap.size=gq;replace hv5:=hv5.symm;replace qP:=qP.symm;have XQ:=xNew hv5 qP;have GQ:Hid (v2.heap.size<=gq):=jj (by rw[qP];exact B4.size);have B5:=GN B4 hv5;have Ht:Hid (CF x v5 cd):=jj (by rw[hv5];exact hcf.below nC);have CE:Hid (pz cd=cq):=jj hce;clear hv5 qP hcf hce hb4;have S5:=KSd.out _ B5;refine oH lS S5 ?_;clear hS0 S4;have hS0:=S5
      repeat refine' tT ?_
      refine pO fun KT lS=> ?_;have y0:=XQ.at_ 0;have z0:=XQ.frozen 0;have y1:=XQ.at_ 1;have z1:=XQ.frozen 1;have y2:=XQ.at_ 2;have z2:=XQ.frozen 2;have y3:=XQ.at_ 3;have z3:=XQ.frozen 3;have y4:=XQ.at_ 4;have z4:=XQ.frozen 4;go_simp;obtain⟨w9,mE⟩:=ex (setW v5 gq 0 [U cd.view,U cd.inst,U cd.seq,.slice cd.ba cd.bn cd.bc,.slice cd.va cd.vn cd.vc]);have K9:=jj (uL mE XQ);have O9:=jj (vM mE);simp only[setW,aO,Nat.reduceAdd] at mE;rw[<-mE];clear mE y0 z0 y1 z1 y2 z2 y3 z3 y4 z4;have B9:Hid (Be v2 w9):=jj (O9.below B5 B5.size (mR GQ.out));have CF9:Hid (CF x w9 cd):=jj (Ht.Aj O9 XQ);clear O9 Ht;have S9:=KSd.out _ B9;refine oH lS S9 ?_;clear hS0 S5;have hS0:=S9
      repeat refine' tT ?_
      refine lM ?_
      go_wp2_with fail
      go_meet;exact⟨rfl,cd,gq,rfl,CE,hbn,K9,aG Bd.size GQ,CF9,Bd.trans (B9.mono Bd.size)⟩
     refine pO fun KT lS=> ?_;go_simp;generalize hv4:v2.alloc _=v4;generalize qP:v2.heap.size=gq;replace hv4:=hv4.symm;replace qP:=qP.symm;have X4:=xNew hv4 qP;have GQ:Hid (v2.heap.size<=gq):=jj lK;have B4:=tQ hv4;clear hv4 qP;have S4:=KSd.out _ B4;refine oH lS S4 ?_;clear hS0;have hS0:=S4
     repeat refine' tT ?_
     refine pO fun KT lS=> ?_;go_simp;refine(tX (Hd.below B4) (aB HXd B4.size) 0 d1.run.toNat _ hi3 cq hcq g0 G0 (d1.run+1) lK).mono ?_;rintro e v5 ⟨cd,rfl,hce,hcf,hbn,hvn,hb5⟩;have B5:=nO B4 hb5;have XQ:=jj (X4.below hb5 X4.lt);have Ht:Hid (CF x v5 cd):=jj hcf;have CE:Hid (pz cd=cq):=jj hce;clear hcf hce hb5;have S5:=KSd.out _ B5;rw[show(nS cd).toArray=#[U cd.view,U cd.inst,U cd.seq,.slice cd.ba cd.bn cd.bc,.slice cd.va cd.vn cd.vc] from rfl];refine oH lS S5 ?_;clear hS0 S4;have hS0:=S5
     repeat refine' tT ?_
     refine pO fun KT lS=> ?_;have y0:=XQ.at_ 0;have z0:=XQ.frozen 0;have y1:=XQ.at_ 1;have z1:=XQ.frozen 1;have y2:=XQ.at_ 2;have z2:=XQ.frozen 2;have y3:=XQ.at_ 3;have z3:=XQ.frozen 3;have y4:=XQ.at_ 4;have z4:=XQ.frozen 4;go_simp;obtain⟨w9,mE⟩:=ex (setW v5 gq 0 [U cd.view,U cd.inst,U cd.seq,.slice cd.ba cd.bn cd.bc,.slice cd.va cd.vn cd.vc]);have K9:=jj (uL mE XQ);have O9:=jj (vM mE);simp only[setW,aO,Nat.reduceAdd] at mE;rw[<-mE];clear mE y0 z0 y1 z1 y2 z2 y3 z3 y4 z4;have B9:Hid (Be v2 w9):=jj (O9.below B5 B5.size (mR GQ.out));have CF9:Hid (CF x w9 cd):=jj (Ht.Aj O9 XQ);clear O9 Ht;have S9:=KSd.out _ B9;refine oH lS S9 ?_;clear hS0 S5;have hS0:=S9
     repeat refine' tT ?_
     refine lM ?_
     go_wp2_with fail
     go_meet;exact⟨rfl,cd,gq,rfl,CE,hbn,K9,aG Bd.size GQ,CF9,Bd.trans (B9.mono Bd.size)⟩
    case rest=>
     obtain⟨rfl,cd,gq,rfl,hce,hbn,qP,hge,hcf,hb⟩:=hcut;obtain⟨w4,hw4⟩:=ex wc;rw[<-hw4] at qP hcf hb|-;clear hw4;have S4:=jj (S3.out.below hb);have H4:=jj (H3.below hb);have T4:Hid (sV (nu E.f E.n E.id gx b (d1.runs (d1.run+1)) K1) w4 gq 228 #[U cd.view,U cd.inst,U cd.seq,.slice cd.ba cd.bn cd.bc,.slice cd.va cd.vn cd.vc]):=jj (sV.new H3 qP hge);have CF4:=jj hcf;have CE:=jj hce;clear qP hcf hb hge hce;have Po:=HRV.out;unfold Yx at Po;simp only[aA] at Po;obtain⟨u,hu,Po⟩:=Po;have rft:=mI hu;obtain⟨⟨out,st',YW⟩,hrl⟩: ∃r,qL ([],d1.st,d1.ct) cq.batch=r:=⟨_,rfl⟩;replace Po:rG E out (K1,{(d1.runs (d1.run+1)).val with es:=d1.es++out,st:=st',ct:=YW})=some SQ:=by
      have e:(qL ([],d1.st,d1.ct) cq.batch)=(out,st',YW):=hrl;rw[show({d1.val with run:=d1.val.run+1}:ql).st=d1.st from rfl] at Po;rw[show({d1.val with run:=d1.val.run+1}:ql).ct=d1.ct from rfl] at Po;rw[e] at Po;exact Po
     obtain⟨HRP,HRL,RFT⟩:=j3 Po hrl rft;have RB:Hid (cd.bs=cq.batch):=jj (by rw[<-CE.out];rfl);clear Po hrl hu rft HRV;have c22:=H4.blk.at_ 22;have c3:=T4.blk.at_ 3
     go_upto_region 11 with fail
     refine rD (fun u=>J u gx 22 d1.gd/\J u gq 3 (.slice cd.ba cd.bn cd.bc)) 9 (tk 0 6 (.take 8 (.one 6 (.take 7 .done)))) ⟨H4.blk.drew.cell 22,T4.blk.drew.cell 3⟩ fun v5 B5 hS0=> ?_;clear c22 c3;have H5:=jj (H4.below B5);have S5:=jj (S4.out.below B5);have T5:=jj (T4.below B5);have Ht:=jj (CF4.below B5)
     repeat refine' tT ?_
     refine pO fun KT lS=> ?_;go_simp;refine(ahA H5 (aB HX S5.out.size) cd.ba cd.bn cd.bc cq.batch (by rw[<-RB.out];exact⟨Ht.is.b,Ht.b⟩) (by
      have h1:=RFT.es;have h2:cq.batch.length=cd.bn:=by rw[<-RB.out];exact Ht.is.b.len
      have h3:d1.es.length+cq.batch.length<=1000:=h1;show d1.es.length+cd.bn<=4096;omega) RFT.i out st' YW HRL).mono ?_
     rintro e v6 ⟨SL',a6,c6,rfl,BM,htr⟩;obtain⟨ST6,H6,TR6⟩:=j3 BM BM.sys htr;have T6:=jj (T5.step BM);clear BM htr;have S6':J v6 gx 22 d1.gd/\J v6 gq 3 (.slice cd.ba cd.bn cd.bc):=⟨H6.blk.cell 22,T6.blk.cell 3⟩;refine oH lS S6' ?_;clear hS0;have hS0:=S6'
     repeat refine' tT ?_
     refine lM ?_;clear hS0 S6';have OL:Hid (out.length<=4):=jj (by
      have h1:=Rl d1.st d1.ct cq.batch;have h2:=RFT.n;have h3:=HRL.out;rw[h3] at h1;simp only at h1;omega)
     obtain⟨ol,hol⟩:=ex out.length;have HOL:=jj hol;rw[<-hol] at TR6|-;clear hol
     go_wp2_with fail
     go_loopw [87] (fun q wr=> ∃(i:Nat) (d3:lU) (K3:KS),i<=ol/\q= U i/\mP x w wr E.f E.n E.id gx b d K d3 K3/\Fix d d3/\d3.run=d1.run+1/\d3.T.length<=64/\rG E (out.drop i) (K3,d3.val)=some SQ/\PO (nu E.f E.n E.id gx b d3 K3) wr v5.heap.size 51 7 ol (.slice a6 ol c6) (out.flatMap pF)) (fun q _=>ol -(intOf q).toNat)
     case atStart=>exact⟨0,_,K1,lK,by first|rfl|simp,S5.out.trans ST6,F1.trans (by constructor<;>rfl),rfl,RFT.T,by rw[jf];exact HRP.out,TR6⟩
     case round=>
      obtain⟨i,d3,K3,hi,rfl,hst,hfx,akN,hT3,hrp,htr⟩:=hrel;obtain⟨SW,HW,FX,RN3,ai0,TRW⟩:=j6 hst hst.sys hfx akN hrp htr;clear hst hfx akN hrp htr;by_cases hlt:i<ol
      ·have j1:(i:Int)<ol:=lK
       have j0:(0:Int)<=i:=lK;have e2:IntKind.i64.wrap ((i:Int)+1)=(i:Int)+1:=aH _ (VZ HOL.out OL.out);obtain⟨e,g,hbe,rfl,hec⟩:=aal TRW.own HOL.symm hlt;have y0:J wr g (i*7) (U e.1.1):=hec 0 _ lK rfl;have y1:J wr g (i*7+1) (U e.1.2.1):=hec 1 _ lK rfl;have y2:J wr g (i*7+2) (U e.1.2.2.1):=hec 2 _ lK rfl;have y3:J wr g (i*7+3) (U e.1.2.2.2.1):=hec 3 _ lK rfl;have y4:J wr g (i*7+4) (U e.1.2.2.2.2.1):=hec 4 _ lK rfl;have y5:J wr g (i*7+5) (U e.1.2.2.2.2.2):=hec 5 _ lK rfl;have y6:J wr g (i*7+6) (U e.2):=hec 6 _ lK rfl;have hdr:out.drop i=e::out.drop (i+1):=by
        obtain⟨hl,ee⟩:=ah.1 hbe;rw[<-ee];exact(dY hl).symm
       have hgo:=ai0.out;rw[hdr,rG] at hgo;simp only[aA] at hgo;obtain⟨⟨K4,v4⟩,hry,hgo⟩:=hgo;have HRY:=jj hry;have Zo:=jj hgo;clear hry hgo hdr hbe hec
       go_upto_region 14 with fail
       generalize hu1:wr.alloc _=u1;generalize hge:wr.heap.size=ge;replace hu1:=hu1.symm;replace hge:=hge.symm;have UW:=tQ hu1;have X1':Hid (sV (nu E.f E.n E.id gx b d3 K3) u1 ge 51 #[U e.1.1,U e.1.2.1,U e.1.2.2.1,U e.1.2.2.2.1,U e.1.2.2.2.2.1,U e.1.2.2.2.2.2,U e.2]):=jj (sV.new HW (by rw[hu1,hge];exact lQ.new _ _ _) lK);clear hu1 hge y0 y1 y2 y3 y4 y5 y6;have q0:=X1'.blk.at_ 0;have q1:=X1'.blk.at_ 1;have q6:=X1'.blk.at_ 6;have HU1:=jj (HW.below UW);have SU1:=jj (SW.below UW)
       go_wp2_with fail
       refine(abo x u1 E gx b d3 K3 HU1 (aB HX SU1.size) e.1.1 e.1.2.1 e.2 K4 v4 HRY).mono ?_;rintro ee u2 ⟨rfl,A2,cc2,L2,Gt,Qy⟩;have ST2:=jj Gt;have HU2:=jj Gt.sys;have X2':=jj (X1'.step Gt);have TR2:=jj ((TRW.below UW).step Gt);have VL2:=jj Qy;clear Gt Qy q0 q1 q6
       go_upto_region 15 with fail
       have PT:Hid (J u2 gx 19 d3.nH/\J u2 ge 0 (U e.1.1)/\J u2 ge 1 (U e.1.2.1)):=jj ⟨HU2.blk.cell 19,X2'.blk.cell 0,X2'.blk.cell 1⟩;refine rD (fun u=>J u gx 19 d3.nH/\J u ge 0 (U e.1.1)/\J u ge 1 (U e.1.2.1)) 11 (tk 0 10 (.one 10 .done)) PT fun u3 B3' hS0=> ?_;have HU3:=jj (HU2.below B3')
       repeat refine' tT ?_
       refine pO fun KT lS=> ?_;go_simp;refine(aec HU3 hT3 e.1.1 e.1.2.1).mono ?_;rintro ee u4 ⟨mm,ST',rfl,yu⟩;have ZC:=jj yu;have HU4:=jj yu.sys;have X4':=jj ((X2'.below B3').step yu);have TR4:=jj ((TR2.below B3').step yu);clear yu;have S4':J u4 gx 19 d3.nH/\J u4 ge 0 (U e.1.1)/\J u4 ge 1 (U e.1.2.1):=⟨HU4.blk.cell 19,X4'.blk.cell 0,X4'.blk.cell 1⟩;refine oH lS S4' ?_;clear hS0;have hS0:=S4'
       repeat refine' tT ?_
       refine lM ?_;clear hS0 S4'
       go_wp2_with fail
       go_roundw
       case rel=>
        refine⟨i+1,_,K4,lK,by go_num,((SU1.trans ST2).below B3').trans ZC,FX.trans (by constructor<;>rfl),RN3,aG (fB _ _) hT3,?_,TR4⟩;rw[<-Zo.out,<-VL2.out];rfl
       case measure=>simp[intOf];omega
      obtain rfl:i=ol:=lK;have j1: ¬(i:Int)<i:=lK;have hgo:=ai0.out;rw[eP (tL HOL.out),rG] at hgo;injection hgo with hgo;subst hgo
      go_wp2_with fail
      go_roundw
      case rel=>exact⟨fuel',d3,K3,SW,FX,by have:=RN3.out;omega,by have:=RN3.out;have:=HI2.out;omega,amM⟩
      case measure=>
       rw[Rm HW,Rm H1,RN3.out];omega
  rw[aU (by intro hk0;have:=HZ.out;omega)] at hv;injection hv with hv;injection hv with hv1 hv2;subst hv1;subst hv2
  go_wp2_with fail
  ((try simp only[Exit.inBlock,Exit.then]);refine dF (results_none rfl _ _ _) rfl ?_)
  exact⟨by trivial,d.yS gi,SW,Fix.MN _ _,rfl⟩
section
variable{x:Nat}{w:World}{f:Int}{n id gx b:Nat}{d:lU}{K:KS}
theorem abl(h:qE x w f n id gx b d K)(hx:x<w.heap.size)(h1:1<=f)(h4:f<=4)(hn:n<=13)(k j:Nat)(i:Ba)(p:uo)(hp:d.val.pl k j=some (i,p))(hon:i.on=true)(hw:(p.told||!p.has)=true\/(p.told=false/\p.has=true/\qx (2*f+1).toNat p.pr p.b=none))(gi:Nat)(hgi:d.is[k]?.map Prod.fst=some gi)(z:Int)(hz:z=(j:Int)+1):
  Y 259 #[gi,U z] w fun e w'=>e= .returned (.tuple #[.agg #[U 0,U 0,U 0,(),()],false])/\Be w w':=by
 obtain⟨g,I,P,e1,e2,rfl,rfl⟩:=sQ hp;rw[e1] at hgi;injection hgi with hgi;subst hgi;have hI:lY x w f n k 4 g I:=h.inst e1;rcases hw with hw|⟨ht,hs,he⟩
 ·cases ht:P.told
  ·have hs:P.sl.has=false:=by
    simp only[qm.val,ht,jV,Bool.not_eq_true'] at hw;exact hw
   exact Gu hI j P e2 hon ht hs z hz hx
  exact Jf hI j P e2 hon ht z hz hx
 exact KJ hI j P e2 hon ht hs h1 h4 hn _ lK he z hz hx
theorem Yc(h:qE x w f n id gx b d K)(hx:x<w.heap.size)(h1:1<=f)(h4:f<=4)(hn:n<=13)(k j:Nat)(hk:k<=16)(i:Ba)(p:uo)(hp:d.val.pl k j=some (i,p))(hon:i.on=true)(hvw:qX i.vw)(ht:p.told=false)(hs:p.has=true)(vs:List Vo)(he:qx (2*f+1).toNat p.pr p.b=some vs)(gi:Nat)(hgi:d.is[k]?.map Prod.fst=some gi)(z:Int)(hz:z=(j:Int)+1):
  Y 259 #[gi,U z] w fun e w'=> ∃(cd:CD) (d':lU),e= .returned (.tuple #[.agg (nS cd).toArray,true])/\cd.bs=p.b/\CF x w' cd/\mP x w w' f n id gx b d K d' K/\Fix d d'/\d'.val=d.val.put k j {p with told:=true,cert:=some ⟨i.vw,k,j+1,p.b,vs⟩}/\d'.nG=d.nG/\d'.view=d.view:=by
 obtain⟨g,I,P,e1,e2,rfl,rfl⟩:=sQ hp;rw[e1] at hgi;injection hgi with hgi;subst hgi;have hI:lY x w f n k 4 g I:=h.inst e1;have hvl:vs.length<=4096:=by
  unfold qx at he;split at he
  ·rename_i hl
   injection he with he;subst he;omega
  cases he
 refine(QI hI j P e2 hon ht hs h1 h4 hn _ lK vs he hvl z hz ⟨hvw,lK,lK⟩ hx).mono ?_;rintro e w' ⟨cd,cq,rfl,hce,hbn,hcf,hI',hcq,ho⟩;refine⟨cd,d.insts k g _,rfl,congrArg Ce.batch hce,hcf,(Step.refl h).inst e1 hI' ho (fun q hq=>by simp only[au] at hq;subst hq;simp[tJ.foot]) (fun q hq=> .inl (yx (P':={P with told:=true,has:=true,cert:=cq}) e2 rfl q hq)),Fix.Ai e1,?_,rfl,rfl⟩;rw[DT e1 e2]
 congr 1
 simp only[qm.val,tJ.val,hcq,fH,hz]
theorem FL(h:qE x w f n id gx b d K)(hx:x<w.heap.size)(h1:1<=f)(h4:f<=4)(hn:n<=13)(k j:Nat)(i:Ba)(p:uo)(hp:d.val.pl k j=some (i,p))(hw:p.done.isSome=true\/(p.done.isSome=false/\mQ (2*f+1).toNat p.co p.co=none))(gi:Nat)(hgi:d.is[k]?.map Prod.fst=some gi)(z:Int)(hz:z=(j:Int)+1):
  Y 260 #[gi,U z] w fun e w'=>e= .returned (.tuple #[.agg #[U 0,U 0,U 0,(),()],false])/\Be w w':=by
 obtain⟨g,I,P,e1,e2,rfl,rfl⟩:=sQ hp;rw[e1] at hgi;injection hgi with hgi;subst hgi;have hI:lY x w f n k 4 g I:=h.inst e1;cases hd:P.done
 ·rcases hw with hw|⟨_,hc⟩
  ·simp[qm.val,hd] at hw
  exact Oe hI j P e2 hd h1 h4 hn _ lK hc z hz hx
 exact KD hI j P e2 hd z hz hx
theorem Dy(h:qE x w f n id gx b d K)(hx:x<w.heap.size)(h1:1<=f)(h4:f<=4)(hn:n<=13)(k j:Nat)(hk:k<=16)(i:Ba)(p:uo)(hp:d.val.pl k j=some (i,p))(hvw:qX i.vw)(hd:p.done.isSome=false)(bs:List Rq)(vs:List Vo)(he:mQ (2*f+1).toNat p.co p.co=some (bs,vs))(gi:Nat)(hgi:d.is[k]?.map Prod.fst=some gi)(z:Int)(hz:z=(j:Int)+1):
  Y 260 #[gi,U z] w fun e w'=> ∃(cd:CD) (d':lU),e= .returned (.tuple #[.agg (nS cd).toArray,true])/\cd.bs=bs/\CF x w' cd/\mP x w w' f n id gx b d K d' K/\Fix d d'/\d'.val=d.val.put k j {p with done:=some ⟨i.vw,k,j+1,bs,vs⟩}:=by
 obtain⟨g,I,P,e1,e2,rfl,rfl⟩:=sQ hp;rw[e1] at hgi;injection hgi with hgi;subst hgi;have hI:lY x w f n k 4 g I:=h.inst e1;have hd':P.done=false:=by
  cases hq:P.done
  ·rfl
  simp[qm.val,hq] at hd
 have hvl:vs.length<=4096:=by
  have key: ∀(q:Nat) (l r:List Xk),mQ q l r=some (bs,vs)->vs.length=q:=by
   intro q l r
   induction r with
   |nil=>intro hh;cases hh
   |cons v r ih=>
    intro hh
    cases v with
    |none=>exact ih hh
    |some v=>
     obtain⟨sg,bb⟩:=v;rw[mQ] at hh;unfold qx at hh;split at hh
     ·rename_i vv hvv
      split at hvv
      ·rename_i hl
       injection hvv with hvv;injection hh with hh;injection hh with _ hh;rw[<-hh,<-hvv];exact hl
      cases hvv
     exact ih hh
  have:=key _ _ _ he;omega
 refine(Ua hI j P e2 hd' h1 h4 hn _ lK bs vs he hvl z hz ⟨hvw,lK,lK⟩ hx).mono ?_;rintro e w' ⟨cd,cq,rfl,hce,hbn,hcf,hI',hcq,ho⟩;refine⟨cd,d.insts k g _,rfl,congrArg Ce.batch hce,hcf,(Step.refl h).inst e1 hI' ho (fun q hq=>by simp only[au] at hq;subst hq;simp[tJ.foot]) (fun q hq=> .inl (yx (P':={P with done:=true,dw:=cq}) e2 rfl q hq)),Fix.Ai e1,?_⟩;rw[DT e1 e2]
 congr 1
 simp only[qm.val,tJ.val,hcq,fH,hz]
theorem Jw{j:Nat}{i:Ba}{p:uo}(hp:d.val.pl k j=some (i,p)): ∃gi,d.is[k]?.map Prod.fst=some gi/\k<d.is.length/\ ∀(x:Nat) (u:World) (f:Int) (n id gx b:Nat) (K:KS),qE x u f n id gx b d K->J u d.gr k (gi:Nat):=by
 obtain⟨g,I,P,e1,_⟩:=sQ hp;exact⟨g,by rw[e1];rfl,zZ e1,fun x u f n id gx b K hu=>hu.ptr e1⟩
theorem NH(h:qE x w f n id gx b d K){p:Nat×List Int}(hk:d.nG[k]?=some p):J w d.xK k (O p.1 p.2.length p.2.length)/\k<d.nG.length/\ ∀i,w.frozen? ⟨p.1,i,none⟩=false:=by
 refine⟨h.nG.out.cell (by rw[aS,hk];rfl),(ah.1 hk).1,fun i=>(h.nG.KI p (ak hk)).frozen i⟩
theorem aag{s:Nat}{g:Nat}(hk:d.nG[k]?=some (g,l))(z:Int):(d.XA k (g,l) s z).val={d.val with nG:=d.val.nG.modify k fun l=>l.set s z}:=by
 have hkl:k<d.nG.length:=(ah.1 hk).1;simp only[lU.val,ql.mk.injEq,lJ,iY];refine dD fun q=> ?_;rw[aS,eY,aS];by_cases hq:k=q
 ·subst hq
  rw[aL hkl,hk];simp
 rw[aX hq];simp[hq]
theorem aai(h:d.val.nG[k]?=some l): ∃g,d.nG[k]?=some (g,l):=by
 simp only[lU.val,aS,aK] at h;obtain⟨⟨g,l'⟩,h1,rfl⟩:=h;exact⟨g,h1⟩
end
theorem MI(x:Nat)(w:World)(E:Who)(gx b:Nat)(d:lU)(K:KS)(h:qE x w E.f E.n E.id gx b d K)(hx:x<w.heap.size)(h1:1<=E.f)(h4:E.f<=4)(hn:(E.n:Int)=3*E.f+1)(k j:Nat)(xO:k<=16)(s:Nat)(hs:(s:Int)=(j:Int)+1)(K':KS)(v':ql)(hv:Ca E k j (K,d.val)=some (K',v')):
  Y 218 #[gx,U k,U s] w fun e w'=>e= .returned (.tuple #[])/\Kt x w w' E gx b d K K' v':=by
 obtain⟨f,n,id⟩:=E;simp only at h h1 h4 hn;have NM:Hid (n<=13):=jj lK;unfold Ca at hv;simp only[aA] at hv;obtain⟨⟨K5,v5⟩,hpv,hcv⟩:=hv;unfold QY at hpv;simp only[aA] at hpv;obtain⟨⟨i,p⟩,hp,u,hu,hpv⟩:=hpv;have lf:=mI hu;obtain⟨gi,hgi,hkl,Dn⟩:=Jw hp;have way:(((p.told||!p.has)=true\/(p.told=false/\p.has=true/\qx (2*f+1).toNat p.pr p.b=none))/\K=K5/\d.val=v5)\/(p.told=false/\p.has=true/\ ∃vs,qx (2*f+1).toNat p.pr p.b=some vs/\vL ⟨f,n,id⟩ 5 k j p.b (K,{d.val.put k j {p with told:=true,cert:=some ⟨i.vw,k,j+1,p.b,vs⟩} with nG:=d.val.nG.modify k fun l=>l.set (j+1) (d.val.view+1)})=some (K5,v5)):=by
  by_cases hth:(p.told||!p.has)=true
  ·simp only at hpv
   rw[aV hth] at hpv;simp only[aD,aM] at hpv;exact .inl ⟨.inl hth,hpv.1,hpv.2⟩
  simp only at hpv;rw[aU hth] at hpv;simp only[Bool.not_eq_true,kU,Bool.not_eq_false'] at hth;split at hpv
  ·rename_i he
   simp only[aD,aM] at hpv;exact .inl ⟨.inr ⟨hth.1,hth.2,he⟩,hpv.1,hpv.2⟩
  rename_i vs he;exact .inr ⟨hth.1,hth.2,vs,he,hpv⟩
 have k0:(0:Int)<=k:=lK;have k1:(k:Int)<d.is.length:=lK;have c18:=h.blk.at_ 18;have Sk:J w d.gr k gi:=Dn _ _ _ _ _ _ _ _ h;obtain⟨LF,H,HX,HS,HP,HG⟩:=j6 lf h hx hs hp hgi;have HCV:=jj hcv;have vB:=jj hn;clear hpv hu lf h hx hs hp hgi Dn hcv hn;go_enter func218,ntmps218
 go_wp2_with fail
 rcases way with⟨hno,Ke,Za⟩|⟨ht,hh,vs,he,hbv⟩
 ·have CV:Hid (Fz ⟨f,n,id⟩ k j (K,d.val)=some (K',v')):=jj (by rw[Ke,Za];exact HCV.out)
  clear Ke Za HCV;refine(abl H HX h1 h4 NM k j i p HP LF.on hno gi HG s HS).mono ?_;rintro e w1 ⟨rfl,hb1⟩;have SB:=jj (H.step hb1);clear hb1 c18 Sk k0 k1
  go_upto_region 4 with fail
  generalize zM:w1.alloc _=w5;replace zM:=zM.symm;have S5:Hid (mP x w w5 f n id gx b d K d K):=jj (by rw[zM];exact SB.below nC);clear zM SB;have H5:=jj S5.sys;have F5:=jj (Fix.refl d);have cv:=CV.out;unfold Fz at cv;simp only[aA] at cv;obtain⟨⟨i5,p5⟩,hp5,u5,TG,hcv⟩:=cv;have VW5:=jj (mI TG);obtain⟨g5,hg5,hk5,Qw⟩:=Jw hp5;have k0:(0:Int)<=k:=lK;have k1:(k:Int)<d.is.length:=lK;have c18:=H5.blk.at_ 18;have Sk:J w5 d.gr k g5:=Qw _ _ _ _ _ _ _ _ H5;have HP5:=jj hp5;have HG5:=jj hg5;clear hp5 hg5 Qw CV TG
  go_wp2_with fail
  have way:((p5.done.isSome=true\/(p5.done.isSome=false/\mQ (2*f+1).toNat p5.co p5.co=none))/\K=K'/\d.val=v')\/(p5.done.isSome=false/\ ∃bs vs,mQ (2*f+1).toNat p5.co p5.co=some (bs,vs)/\NC ⟨f,n,id⟩ k bs (K,d.val.put k j {p5 with done:=some ⟨i5.vw,k,j+1,bs,vs⟩})=some (K',v')):=by
   cases hd:p5.done.isSome
   ·rw[hd] at hcv
    simp only[dz,gH] at hcv;split at hcv
    ·rename_i hc
     simp only[aD,aM] at hcv;exact .inl ⟨.inr ⟨rfl,hc⟩,hcv.1,hcv.2⟩
    rename_i bs vs hc;exact .inr ⟨rfl,bs,vs,hc,hcv⟩
   rw[hd] at hcv;simp only[fH,aD,aM] at hcv;exact .inl ⟨.inl rfl,hcv.1,hcv.2⟩
  clear hcv;rcases way with⟨hno,Ke,Za⟩|⟨hnd,bs5,vs5,hcm,hcom⟩
  ·have KK:=jj Ke
   have VV:=jj Za;clear Ke Za;refine(FL H5 (aB HX S5.size) h1 h4 NM k j i5 p5 HP5 hno g5 HG5 s HS).mono ?_;rintro e w6 ⟨rfl,hb6⟩;have S6:=jj (S5.below hb6);clear hb6 c18 Sk
   go_wp2_with fail
   go_end0
   refine⟨by trivial,d,?_,F5,VV⟩;rw[<-KK.out];exact S6.below nC
  refine(Dy H5 (aB HX S5.size) h1 h4 NM k j xO i5 p5 HP5 VW5 hnd bs5 vs5 hcm g5 HG5 s HS).mono ?_;rintro e w6 ⟨cd,d6,rfl,hbs,hcf,BM,aaF,Dr⟩;obtain⟨S6,H6,F6,CF6,af7,agz⟩:=j6 BM BM.sys aaF hcf hcom Dr;have BS:=jj hbs;rw[show(nS cd).toArray=#[U cd.view,U cd.inst,U cd.seq,.slice cd.ba cd.bn cd.bc,.slice cd.va cd.vn cd.vc] from rfl];clear BM aaF hcf hcom Dr hbs hcm hnd c18 Sk
  go_upto_region 5 with fail
  generalize hw7:w6.alloc _=w7;generalize qP:w6.heap.size=gq;replace hw7:=hw7.symm;replace qP:=qP.symm;obtain⟨B7,X7⟩:=nw hw7 qP;clear hw7 qP;have c3:=X7.at_ 3
  go_wp2_with fail
  refine(VW x w7 ⟨f,n,id⟩ gx b d6 K (H6.below B7) (aB HX (aG S5.size (aG S6.size B7.size))) h1 h4 k xO k rfl cd.ba cd.bn cd.bc bs5 (by rw[<-BS.out];exact⟨(CF6.below B7).is.b,(CF6.below B7).b⟩) K' v' (by rw[agz.out];exact af7.out)).mono ?_;rintro e w8 ⟨rfl,d8,Qx,ag2,IK⟩
  go_wp2_with fail
  go_end0
  exact⟨by trivial,d8,((S5.trans S6).below B7).trans Qx,(F5.trans F6).trans ag2,IK⟩
 obtain⟨l,hcl,hjl⟩:=LF.nG;refine(Yc H HX h1 h4 NM k j xO i p HP LF.on LF.i ht hh vs he gi HG s HS).mono ?_;rintro e w1 ⟨cd,d1,rfl,hbs,hcf,ag9,ako,afB,hcm1,akU⟩;obtain⟨S1,H1,F1,CF1,anN,BS⟩:=j6 ag9 ag9.sys ako hcf afB hbs;have HBV:=jj hbv;have VW1:=jj akU;rw[show(nS cd).toArray=#[U cd.view,U cd.inst,U cd.seq,.slice cd.ba cd.bn cd.bc,.slice cd.va cd.vn cd.vc] from rfl];rw[<-show d1.val.nG=d.val.nG by simp only[lU.val,hcm1]] at hcl;obtain⟨gl,hgl⟩:=aai hcl;have CM1:=jj hcm1;have GL:=jj hgl;clear ag9 ako hcf afB hbs hbv akU hcm1 hcl c18 Sk k0 k1 ht hh he
 go_upto_region 2 with fail
 generalize hw2:w1.alloc _=w2;generalize qP:w1.heap.size=gq;replace hw2:=hw2.symm;replace qP:=qP.symm;have B2:=tQ hw2;have T2:Hid (sV (nu f n id gx b d1 K) w2 gq 228 #[U cd.view,U cd.inst,U cd.seq,.slice cd.ba cd.bn cd.bc,.slice cd.va cd.vn cd.vc]):=jj (sV.new H1 (by rw[hw2,qP];exact lQ.new _ _ _) lK);clear hw2 qP;have H2:=jj (H1.below B2);have S2:=jj (S1.below B2);have CF2:=jj (CF1.below B2);have k0:(0:Int)<=k:=lK;have k1:(k:Int)<d1.nG.length:=by have:=(NH H1 hgl).2.1;omega
 have s0:(0:Int)<=s:=lK;have s1:(s:Int)<l.length:=by have:=HS.out;omega
 have vw9:IntKind.i64.wrap (d1.view+1)=d1.view+1:=aH _ (by rw[VW1.out];have:=LF.v;have e:d.val.view=d.view:=rfl;omega);clear hgl;have SC:Hid (J w2.drew gx 27 (O d1.xK d1.nG.length d1.zR)/\J w2.drew d1.xK k (O gl l.length l.length)/\J w2.drew gx 29 (U d1.view)):=jj ⟨H2.blk.drew.cell 27,(NH H2 GL).1,H2.blk.drew.cell 29⟩;refine rD (fun u=>J u gx 27 (O d1.xK d1.nG.length d1.zR)/\J u d1.xK k (O gl l.length l.length)/\J u gx 29 (U d1.view)) 14 (tk 0 14 (.one 14 .done)) SC fun w3 B3 hS0=> ?_;have S3:=jj (S2.below B3);have H3:=jj S3.sys;have T3:=jj (T2.below B3);have fr:=(NH H3 GL).2.2 s;have there:J w3 gl s (U (l.getD s 0)):=by
  have e:=(H3.nG.KI _ (ak GL)).cell s;exact e.trans (Du l s lK)
 repeat refine' tT ?_
 refine pL fun KT lS=> ?_;go_simp;refine oL lS ?_;refine lM ?_;clear hS0 fr there SC;obtain⟨w4,hw4⟩:=ex (w3.setCell ⟨gl,s,none⟩ (U (d1.view+1)));rw[<-hw4];obtain⟨d4,hd4⟩:=ex (d1.XA k (gl,l) s (d1.view+1));have ZC:Hid (mP x w3 w4 f n id gx b d1 K d4 K):=jj (by rw[hw4,hd4];exact(Step.refl H3).com GL (d1.view+1));have F4:Hid (Fix d1 d4):=jj (by rw[hd4];exact Fix.aep GL _ _);have anO:Hid (d4.val={d1.val with nG:=d1.val.nG.modify k fun l=>l.set (j+1) (d1.val.view+1)}):=jj (by rw[hd4,aag GL,show s=j+1 by have:=HS.out;omega];rfl);clear hw4 hd4;have H4:=jj ZC.sys;have T4:=jj (T3.step ZC);have CF4:=jj ((CF2.below B3).step H3 ZC);have c3:=T4.blk.at_ 3
 go_wp2_with fail
 refine(MC x w4 ⟨f,n,id⟩ gx b d4 K H4 (aB HX (aG S3.size ZC.size)) h1 h4 vB 5 k j xO LF.jl s HS cd.ba cd.bn cd.bc p.b (by rw[<-BS.out];exact⟨CF4.is.b,CF4.b⟩) K5 v5 (by
  rw[anO.out,anN.out];exact HBV.out)).mono ?_
 rintro e w5 ⟨rfl,d5,IJ,Oa,Dq⟩;have S5:Hid (mP x w w5 f n id gx b d K d5 K5):=jj ((S3.trans ZC).trans IJ);have H5:=jj S5.sys;have F5:=jj ((F1.trans F4).trans Oa);have CV:Hid (Fz ⟨f,n,id⟩ k j (K5,d5.val)=some (K',v')):=jj (by rw[Dq];exact HCV.out);clear IJ Oa Dq c3 HCV k0 k1 s0 s1 vw9;have cv:=CV.out;unfold Fz at cv;simp only[aA] at cv;obtain⟨⟨i5,p5⟩,hp5,u5,TG,hcv⟩:=cv;have VW5:=jj (mI TG);obtain⟨g5,hg5,hk5,Qw⟩:=Jw hp5;have k0:(0:Int)<=k:=lK;have k1:(k:Int)<d5.is.length:=lK;have c18:=H5.blk.at_ 18;have Sk:J w5 d5.gr k g5:=Qw _ _ _ _ _ _ _ _ H5;have HP5:=jj hp5;have HG5:=jj hg5;clear hp5 hg5 Qw CV TG
 go_wp2_with fail
 have way:((p5.done.isSome=true\/(p5.done.isSome=false/\mQ (2*f+1).toNat p5.co p5.co=none))/\K5=K'/\d5.val=v')\/(p5.done.isSome=false/\ ∃bs vs,mQ (2*f+1).toNat p5.co p5.co=some (bs,vs)/\NC ⟨f,n,id⟩ k bs (K5,d5.val.put k j {p5 with done:=some ⟨i5.vw,k,j+1,bs,vs⟩})=some (K',v')):=by
  cases hd:p5.done.isSome
  ·rw[hd] at hcv
   simp only[dz,gH] at hcv;split at hcv
   ·rename_i hc
    simp only[aD,aM] at hcv;exact .inl ⟨.inr ⟨rfl,hc⟩,hcv.1,hcv.2⟩
   rename_i bs vs hc;exact .inr ⟨rfl,bs,vs,hc,hcv⟩
  rw[hd] at hcv;simp only[fH,aD,aM] at hcv;exact .inl ⟨.inl rfl,hcv.1,hcv.2⟩
 clear hcv;rcases way with⟨hno,Ke,Za⟩|⟨hnd,bs5,vs5,hcm,hcom⟩
 ·have KK:=jj Ke
  have VV:=jj Za;clear Ke Za;refine(FL H5 (aB HX S5.size) h1 h4 NM k j i5 p5 HP5 hno g5 HG5 s HS).mono ?_;rintro e w6 ⟨rfl,hb6⟩;have S6:=jj (S5.below hb6);clear hb6 c18 Sk
  go_wp2_with fail
  go_end0
  refine⟨by trivial,d5,?_,F5,VV⟩;rw[<-KK.out];exact S6.below nC
 refine(Dy H5 (aB HX S5.size) h1 h4 NM k j xO i5 p5 HP5 VW5 hnd bs5 vs5 hcm g5 HG5 s HS).mono ?_;rintro e w6 ⟨cd,d6,rfl,hbs,hcf,BM,aaF,Dr⟩;obtain⟨S6,H6,F6,CF6,af7,agz⟩:=j6 BM BM.sys aaF hcf hcom Dr;have BS:=jj hbs;rw[show(nS cd).toArray=#[U cd.view,U cd.inst,U cd.seq,.slice cd.ba cd.bn cd.bc,.slice cd.va cd.vn cd.vc] from rfl];clear BM aaF hcf hcom Dr hbs hcm hnd c18 Sk
 go_upto_region 5 with fail
 generalize hw7:w6.alloc _=w7;generalize qP:w6.heap.size=gq;replace hw7:=hw7.symm;replace qP:=qP.symm;obtain⟨B7,X7⟩:=nw hw7 qP;clear hw7 qP;have c3:=X7.at_ 3
 go_wp2_with fail
 refine(VW x w7 ⟨f,n,id⟩ gx b d6 K5 (H6.below B7) (aB HX (aG S5.size (aG S6.size B7.size))) h1 h4 k xO k rfl cd.ba cd.bn cd.bc bs5 (by rw[<-BS.out];exact⟨(CF6.below B7).is.b,(CF6.below B7).b⟩) K' v' (by rw[agz.out];exact af7.out)).mono ?_;rintro e w8 ⟨rfl,d8,Qx,ag2,IK⟩
 go_wp2_with fail
 go_end0
 exact⟨by trivial,d8,((S5.trans S6).below B7).trans Qx,(F5.trans F6).trans ag2,IK⟩
theorem FK(x:Nat)(w:World)(E:Who)(gx b:Nat)(d:lU)(K:KS)(h:qE x w E.f E.n E.id gx b d K)(hx:x<w.heap.size)(h1:1<=E.f)(h4:E.f<=4)(hn:(E.n:Int)=3*E.f+1)(k j:Nat)(xO:k<=16)(xM:j<16)(s:Nat)(hs:(s:Int)=(j:Int)+1)(K':KS)(v':ql)(hv:Nu E k j (K,d.val)=some (K',v')):
  Y 171 #[gx,U k,U s] w fun e w'=>e= .returned (.tuple #[])/\Kt x w w' E gx b d K K' v':=by
 unfold Nu at hv;simp only[aA] at hv;obtain⟨⟨i,p⟩,hp,u,hu,⟨K1,v1⟩,hb,hl⟩:=hv;have hhas:=mI hu;obtain⟨gi,hgi,hkl,Dn⟩:=Jw hp;have k0:(0:Int)<=k:=lK;have k1:(k:Int)<d.is.length:=lK;have c18:=h.blk.at_ 18;have Sk:J w d.gr k gi:=Dn _ _ _ _ _ _ _ _ h;have CH:Hid (Y 230 #[gi,U s] w fun e w'=> ∃a' c' m',e= .returned (.tuple #[.slice a' m' c',true])/\sK x w' a' m' c' p.b/\Be w w'):=jj (by
  obtain⟨g,I,P,e1,e2,rfl,rfl⟩:=sQ hp;rw[e1] at hgi;injection hgi with hgi;subst hgi;refine(Me (h.inst e1) j P e2 hhas s hs hx).mono ?_;rintro e w' ⟨a',c',rfl,hr,_,hb⟩;exact⟨a',c',_,rfl,hr,hb⟩)
 obtain⟨H,HX,HS,HB,HL,vB⟩:=j6 h hx hs hb hl hn;clear h hx hs hb hl hn hu hhas Dn hgi hp;go_enter func171,ntmps171
 go_wp2_with fail
 refine CH.mono ?_;rintro e w1 ⟨a',c',m',rfl,hr,hb1⟩;have R1:=jj hr;have B1:=jj hb1;clear hr hb1 c18 Sk
 go_wp2_with fail
 refine(MC x w1 E gx b d K (H.below B1) (aB HX B1.size) h1 h4 vB 4 k j xO xM s HS a' m' c' p.b R1 K1 v1 HB).mono ?_;rintro e w2 ⟨rfl,d2,Gt,akp,Qy⟩;have S2:=jj ((H.step B1).trans Gt);have F2:=jj akp;have V2:=jj Qy;clear Gt akp Qy
 go_wp2_with fail
 refine(MI x w2 E gx b d2 K1 S2.sys (aB HX S2.size) h1 h4 vB k j xO s HS K' v' (by rw[V2.out];exact HL.out)).mono ?_;rintro e w3 ⟨rfl,d3,aoY,aoC,akS⟩
 go_wp2_with fail
 go_end0
 exact⟨by trivial,d3,S2.trans aoY,F2.trans aoC,akS⟩
section
variable{x:Nat}{w:World}{f:Int}{n id gx b:Nat}{d:lU}{K:KS}
theorem abk(h:qE x w f n id gx b d K)(hx:x<w.heap.size)(k j:Nat)(s:Nat)(hs:(s:Int)=(j:Int)+1)(A:OA)(m c:Nat)(bs:List Rq)(hr:sK x w A m c bs)(hm:m<=4096)(K':KS)(v':ql)(hv:Oz k j bs (K,d.val)=some (K',v'))(gi:Nat)(hgi:d.is[k]?.map Prod.fst=some gi):
  Y 169 #[gi,U s,.slice A m c] w fun e w'=>e= .returned true/\K'=K/\ ∃d',mP x w w' f n id gx b d K d' K/\Fix d d'/\d'.val=v'/\d'.nG=d.nG/\d'.nN=d.nN/\d'.view=d.view:=by
 unfold Oz at hv;simp only[aA,aK,aM] at hv;obtain⟨⟨i,p⟩,hp,u,hu,rfl,rfl⟩:=hv;obtain⟨a1,a2,a3,a4⟩:=mI hu;obtain⟨g,I,P,e1,e2,rfl,rfl⟩:=sQ hp;rw[e1] at hgi;injection hgi with hgi;subst hgi;have hI:lY x w f n k 4 g I:=h.inst e1;have hd:oh I.val.ps=yt I.ps:=by simp only[tJ.val];rw[EL]
 refine(ahf hI a1 j P e2 a2 s hs ⟨lK,lK⟩ (by rw[hd] at a4;omega) A m c bs hr hm hx).mono ?_;rintro e w' ⟨a',c',rfl,hI',ho⟩;refine⟨rfl,rfl,d.insts k g _,(Step.refl h).inst e1 hI' ho (fun q hq=>Fe e2 (by simp only[au] at hq;subst hq;simp[qm.foot,CQ.foot])) (fun q hq=> .inl (yx (P':={P with sl:={P.sl with has:=true,ba:=a',bn:=m,bc:=c',bs:=bs}}) e2 rfl q hq)),Fix.Ai e1,?_,rfl,rfl,rfl⟩;rw[DT e1 e2];rfl
end
theorem Yd(x:Nat)(w:World)(E:Who)(gx b:Nat)(d:lU)(K:KS)(h:qE x w E.f E.n E.id gx b d K)(hx:x<w.heap.size)(h1:1<=E.f)(h4:E.f<=4)(hn:(E.n:Int)=3*E.f+1)(m:MD)(hM:MF x w m)(k j:Nat)(xO:k<=16)(xM:j<16)(K':KS)(v':ql)(a:Kj)(hv:ppV E (nA m) k j (K,d.val)=some ((K',v'),a)):
  Y 158 #[gx,.agg (oM m).toArray] w fun e w'=>e= .returned (U 0)/\a= .used/\Kt x w w' E gx b d K K' v':=by
 unfold ppV at hv;simp only[aA,aK,aM] at hv;obtain⟨u,hu,⟨Kp,vp⟩,hp,⟨K2,v2⟩,hv,⟨rfl,rfl⟩,rfl⟩:=hv;obtain⟨kind,sender,view,inst,seq,res,ba,bn,bc,bs,va,vn,vc,vs,ca,cn,cc,cs,pa,pc⟩:=m;simp only[nA] at hu hv;obtain⟨bf,IQ,hinst,hseq⟩:=mI hu;replace IQ:view=d.view:=IQ;obtain⟨s,hs⟩: ∃s:Nat,(s:Int)=(j:Int)+1:=⟨j+1,lK⟩;rw[<-hs] at hseq;subst IQ;subst hinst;subst hseq;have bl:bs.length=bn:=hM.b.row.len;have bn2:bn<=2:=by have:=bf.n;omega
 obtain⟨HS,H,HX,vB,HM,BF⟩:=j6 hs h hx hn hM bf;have HPV:=jj hp;have HV:=jj hv;obtain⟨gi,hgi,hkl,Dn⟩: ∃gi,d.is[k]?.map Prod.fst=some gi/\k<d.is.length/\ ∀(x:Nat) (u:World) (f:Int) (n id gx b:Nat) (K:KS),qE x u f n id gx b d K->J u d.gr k (gi:Nat):=by
  unfold Oz at hp;simp only[aA] at hp;obtain⟨⟨i,p⟩,hpl,_⟩:=hp;exact Jw hpl
 have k0:(0:Int)<=k:=lK;have k1:(k:Int)<d.is.length:=lK;have HG:=jj hgi;have PT:Hid (∀u,qE x u E.f E.n E.id gx b d K->J u d.gr k (gi:Nat)):=jj fun u hu=>Dn _ _ _ _ _ _ _ _ hu;clear h hx hn hM hu hs hp hv bf hgi Dn;show Y 158 #[gx,.agg #[U kind,U sender,U d.view,U k,U s,U res,.slice ba bn bc,.slice va vn vc,.slice ca cn cc,.slice pa 0 pc]] w _;go_enter func158,ntmps158
 go_upto_region 1 with fail
 generalize hw1:w.alloc _=w1;generalize hgm:w.heap.size=gm;replace hw1:=hw1.symm;replace hgm:=hgm.symm;have B1:=tQ hw1;have X1:Hid (sV (nu E.f E.n E.id gx b d K) w1 gm 82 #[U kind,U sender,U d.view,U k,U s,U res,.slice ba bn bc,.slice va vn vc,.slice ca cn cc,.slice pa 0 pc]):=jj (sV.new H (by rw[hw1,hgm];exact lQ.new _ _ _) lK);clear hw1 hgm;have KS:Hid (∀u,Be w1 u->J u gm 6 (.slice ba bn bc)/\J u gx 2 (U 2)/\J u gx 1 (U 2)/\J u gx 16 d.nn):=jj fun u o=>⟨(X1.below o).blk.cell 6,((H.below B1).below o).blk.cell 2,((H.below B1).below o).blk.cell 1,((H.below B1).below o).blk.cell 16⟩;refine rD (fun u=>J u gm 6 (.slice ba bn bc)/\J u gx 2 (U 2)/\J u gx 1 (U 2)/\J u gx 16 d.nn) 18 (tk 0 16 (.one 16 (.take 17 .done))) (KS.out _ (aC _ _).drew) fun v1 Bv hS0=> ?_
 repeat refine' tT ?_
 refine pO fun KT lS=> ?_;go_simp;refine(JC v1 d.nn b K ((H.below B1).below Bv).Pt 2 2 ba bn bc bs ((HM.below B1).below Bv).b.row BF.s BF.up lK lK).mono ?_;rintro e w2 ⟨rfl,hb2⟩;have Bw:=nO Bv hb2;have S2:=KS.out _ Bw;refine oH lS S2 ?_;clear hS0 hb2;have hS0:=S2
 repeat refine' tT ?_
 refine lM ?_;clear hS0 S2;have B2:Hid (Be w w2):=jj (B1.trans (Bw.mono B1.size));have H2:=jj (H.below B2);have M2:=jj (HM.below B2);have T2:=jj (X1.below Bw);have HX2:Hid (x<w2.heap.size):=jj (aB HX B2.size)
 go_upto_region 3 with fail
 refine rD (fun u=>J u gm 2 (U d.view)/\J u gx 29 (U d.view)/\J u gx 18 (O d.gr d.is.length d.rX)/\J u gm 3 (U k)/\J u d.gr k (gi:Nat)/\J u gm 4 (U s)/\J u gm 6 (.slice ba bn bc)) 23 (tk 0 20 (.one 20 (.take 21 (.take 22 .done)))) ⟨T2.drew.blk.cell 2,H2.uD.blk.cell 29,H2.uD.blk.cell 18,T2.drew.blk.cell 3,PT.out _ H2.uD,T2.drew.blk.cell 4,T2.drew.blk.cell 6⟩ fun w3 B3 hS0=> ?_
 repeat refine' tT ?_
 refine pO fun KT lS=> ?_;go_simp;refine(abk (H2.below B3) (aB HX2 B3.size) k j s HS ba bn bc bs (M2.below B3).b lK Kp vp HPV gi HG).mono ?_;rintro e w4 ⟨rfl,Ke,d4,yu,aaE,BU,-,-,aaQ⟩;obtain⟨S4,H4,F4,V4⟩:=j4 yu yu.sys aaE BU;have T4:=jj ((T2.below B3).step yu);have KK:=jj Ke;have S4c:J w4 gm 2 (U d.view)/\J w4 gx 29 (U d.view)/\J w4 gx 18 (O d.gr d.is.length d.rX)/\J w4 gm 3 (U k)/\J w4 d.gr k (gi:Nat)/\J w4 gm 4 (U s)/\J w4 gm 6 (.slice ba bn bc):=⟨T4.blk.cell 2,by rw[<-aaQ];exact H4.blk.cell 29,(H4.blk.cell 18).trans (F4.cell _ _ 18 lN),T4.blk.cell 3,F4.gr▸Qn H4 F4 HG,T4.blk.cell 4,T4.blk.cell 6⟩;clear yu aaE BU Ke aaQ;refine oH lS S4c ?_;clear hS0;have hS0:=S4c
 repeat refine' tT ?_
 refine lM ?_;clear hS0 S4c;have y3:=T4.blk.at_ 3;have y4:=T4.blk.at_ 4;clear k0 k1
 go_wp2_with fail
 refine(FK x w4 E gx b d4 K H4 (aB HX2 (aG B3.size S4.size)) h1 h4 vB k j xO xM s HS K' v' (by rw[<-KK.out,V4.out];exact HV.out)).mono ?_;rintro e w5 ⟨rfl,d5,IJ,Oa,Dq⟩
 go_wp2_with fail
 go_ret;exact⟨by trivial,by trivial,d5,(((H.step B2).below B3).trans S4).trans IJ,F4.trans Oa,Dq⟩
theorem QT(x:Nat)(w:World)(E:Who)(gx b:Nat)(d:lU)(K:KS)(h:qE x w E.f E.n E.id gx b d K)(hx:x<w.heap.size)(h1:1<=E.f)(h4:E.f<=4)(hn:(E.n:Int)=3*E.f+1)(m:MD)(hM:MF x w m)(z:Int)(src k j:Nat)(xO:k<=16)(K':KS)(v':ql)(a:Kj)(hv:AU E (nA m) z src k j (K,d.val)=some ((K',v'),a)):
  Y 159 #[gx,.agg (oM m).toArray,U z] w fun e w'=>e= .returned (U 0)/\a= .used/\Kt x w w' E gx b d K K' v':=by
 unfold AU at hv;simp only[aA] at hv;obtain⟨u,hu,⟨iv,pv⟩,hpl,hv⟩:=hv;have hq: ∃p',iv.on=true/\((m.kind=4/\pv.pr[src]?=some none/\p'={pv with pr:=pv.pr.set src (some (z,m.bs))})\/(m.kind=5/\pv.co[src]?=some none/\p'={pv with co:=pv.co.set src (some (z,m.bs))}))/\Ca E k j (K,d.val.put k j p')=some (K',v')/\a= .used:=by
  split at hv
  ·rename_i hk
   simp only[aA,aK,aM] at hv;obtain⟨u,hu,⟨a1,a2⟩,hl,⟨rfl,rfl⟩,rfl⟩:=hv;obtain⟨b1,b2⟩:=mI hu;exact⟨_,b1,.inl ⟨hk,b2,rfl⟩,hl,rfl⟩
  simp only[aA,aK,aM] at hv;obtain⟨u,hu,⟨a1,a2⟩,hl,⟨rfl,rfl⟩,rfl⟩:=hv;obtain⟨b0,b1,b2⟩:=mI hu;exact⟨_,b1,.inr ⟨b0,b2,rfl⟩,hl,rfl⟩
 clear hv;obtain⟨p',hon,hkind,hv,rfl⟩:=hq;obtain⟨kind,sender,view,inst,seq,res,ba,bn,bc,bs,va,vn,vc,vs,ca,cn,cc,cs,pa,pc⟩:=m;simp only[nA] at hu hv;obtain⟨bf,IQ,hinst,hseq,aoX,xM⟩:=mI hu;subst aoX;replace IQ:view=d.view:=IQ;obtain⟨s,hs⟩: ∃s:Nat,(s:Int)=(j:Int)+1:=⟨j+1,lK⟩;rw[<-hs] at hseq;subst IQ;subst hinst;subst hseq;have bl:bs.length=bn:=hM.b.row.len;have bn2:bn<=2:=by have:=bf.n;omega
 obtain⟨HS,H,HX,vB,HM,BF⟩:=j6 hs h hx hn hM bf;have HV:=jj hv;have HPL:=jj hpl;have NM:Hid (E.n<=13):=jj lK;have HK:=jj hkind;obtain⟨gi,hgi,hkl,Dn⟩:=Jw hpl;have HGI:Hid (∃I,d.is[k]?=some (gi,I)):=jj (by
  rw[aK] at hgi;obtain⟨⟨g,I⟩,e1,e2⟩:=hgi;exact⟨I,by rw[e1,<-e2]⟩)
 have k0:(0:Int)<=k:=lK;have k1:(k:Int)<d.is.length:=lK;have HG:=jj hgi;have PT:Hid (∀u,qE x u E.f E.n E.id gx b d K->J u d.gr k gi):=jj fun u hu=>Dn _ _ _ _ _ _ _ _ hu;clear h hx hn hM hu hs hv bf hgi Dn hpl hkind;show Y 159 #[gx,.agg #[U kind,U src,U d.view,U k,U s,U res,.slice ba bn bc,.slice va vn vc,.slice ca cn cc,.slice pa 0 pc],U z] w _;go_enter func159,ntmps159
 go_upto_region 1 with fail
 generalize hw1:w.alloc _=w1;generalize hgm:w.heap.size=gm;replace hw1:=hw1.symm;replace hgm:=hgm.symm;have B1:=tQ hw1;have X1:Hid (sV (nu E.f E.n E.id gx b d K) w1 gm 82 #[U kind,U src,U d.view,U k,U s,U res,.slice ba bn bc,.slice va vn vc,.slice ca cn cc,.slice pa 0 pc]):=jj (sV.new H (by rw[hw1,hgm];exact lQ.new _ _ _) lK);clear hw1 hgm;have KS:Hid (∀u,Be w1 u->J u gm 6 (.slice ba bn bc)/\J u gx 2 (U 2)/\J u gx 1 (U 2)/\J u gx 16 d.nn):=jj fun u o=>⟨(X1.below o).blk.cell 6,((H.below B1).below o).blk.cell 2,((H.below B1).below o).blk.cell 1,((H.below B1).below o).blk.cell 16⟩;refine rD (fun u=>J u gm 6 (.slice ba bn bc)/\J u gx 2 (U 2)/\J u gx 1 (U 2)/\J u gx 16 d.nn) 18 (tk 0 16 (.one 16 (.take 17 .done))) (KS.out _ (aC _ _).drew) fun v1 Bv hS0=> ?_
 repeat refine' tT ?_
 refine pO fun KT lS=> ?_;go_simp;refine(JC v1 d.nn b K ((H.below B1).below Bv).Pt 2 2 ba bn bc bs ((HM.below B1).below Bv).b.row BF.s BF.up lK lK).mono ?_;rintro e w2 ⟨rfl,hb2⟩;have Bw:=nO Bv hb2;have S2:=KS.out _ Bw;refine oH lS S2 ?_;clear hS0 hb2;have hS0:=S2
 repeat refine' tT ?_
 refine lM ?_;clear hS0 S2;have B2:Hid (Be w w2):=jj (B1.trans (Bw.mono B1.size));have H2:=jj (H.below B2);have M2:=jj (HM.below B2);have T2:=jj (X1.below Bw);have HX2:Hid (x<w2.heap.size):=jj (aB HX B2.size)
 go_upto_region 3 with fail
 refine rD (fun u=>J u gm 2 (U d.view)/\J u gx 29 (U d.view)/\J u gx 18 (O d.gr d.is.length d.rX)/\J u gm 3 (U k)/\J u d.gr k gi/\J u gm 0 (U kind)/\J u gm 4 (U s)/\J u gm 1 (U src)/\J u gm 6 (.slice ba bn bc)) 28 (tk 0 25 (.one 25 (.take 26 (.take 27 .done)))) ⟨T2.drew.blk.cell 2,H2.uD.blk.cell 29,H2.uD.blk.cell 18,T2.drew.blk.cell 3,PT.out _ H2.uD,T2.drew.blk.cell 0,T2.drew.blk.cell 4,T2.drew.blk.cell 1,T2.drew.blk.cell 6⟩ fun w3 B3 hS0=> ?_
 repeat refine' tT ?_
 refine pO fun KT lS=> ?_;go_simp;refine(VY (H2.below B3) (aB HX2 B3.size) NM kind k j src iv pv HPL hon z ba bn bc bs (M2.below B3).b lK p' HK s HS gi HGI).mono ?_;rintro e w4 ⟨rfl,d4,yu,aaE,BU⟩;obtain⟨S4,H4,F4,V4⟩:=j4 yu yu.sys aaE BU;have T4:=jj ((T2.below B3).step yu);have aaQ:d4.view=d.view:=congrArg ql.view BU;have S4c:J w4 gm 2 (U d.view)/\J w4 gx 29 (U d.view)/\J w4 gx 18 (O d.gr d.is.length d.rX)/\J w4 gm 3 (U k)/\J w4 d.gr k gi/\J w4 gm 0 (U kind)/\J w4 gm 4 (U s)/\J w4 gm 1 (U src)/\J w4 gm 6 (.slice ba bn bc):=⟨T4.blk.cell 2,by rw[<-aaQ];exact H4.blk.cell 29,(H4.blk.cell 18).trans (F4.cell _ _ 18 lN),T4.blk.cell 3,F4.gr▸Qn H4 F4 HG,T4.blk.cell 0,T4.blk.cell 4,T4.blk.cell 1,T4.blk.cell 6⟩;clear yu aaE BU aaQ;refine oH lS S4c ?_;clear hS0;have hS0:=S4c
 repeat refine' tT ?_
 refine lM ?_;clear hS0 S4c;have y3:=T4.blk.at_ 3;have y4:=T4.blk.at_ 4;clear k0 k1
 go_wp2_with fail
 refine(MI x w4 E gx b d4 K H4 (aB HX2 (aG B3.size S4.size)) h1 h4 vB k j xO s HS K' v' (by rw[V4.out];exact HV.out)).mono ?_;rintro e w5 ⟨rfl,d5,IJ,Oa,Dq⟩
 go_wp2_with fail
 go_ret;exact⟨by trivial,by trivial,d5,(((H.step B2).below B3).trans S4).trans IJ,F4.trans Oa,Dq⟩
theorem U1.cert(h:U1 K f (pz c))(hc:c.Is w):ae8 K 5 f 2 c:=by
 have e:c.bs.length=c.bn:=hc.b.len;have nb:=h.nb;simp only[pz] at nb;exact⟨h.p1,h.p2,h.p3,h.b,h.up,lK,⟨h.r,lK,h.s⟩⟩
theorem abm(x:Nat)(w:World)(E:Who)(gx b:Nat)(d:lU)(K:KS)(h:qE x w E.f E.n E.id gx b d K)(hx:x<w.heap.size)(h1:1<=E.f)(h4:E.f<=4)(c:CD)(hM:CF x w c)(S:KN)(a:Kj)(hv:Cw E (pz c) (K,d.val)=some (S,a)):
  Y 163 #[gx,.agg (nS c).toArray] w fun e w'=>e= .returned (U 1)/\a= .stale/\S=(K,d.val)/\Be w w':=by
 unfold Cw at hv;simp only[aK,aM] at hv;obtain⟨u,hu,rfl,rfl⟩:=hv;obtain⟨cf,k,j,iv,pv,hck,hcs,hpl,hdn⟩:=mI hu;have afW:Hid (∀u,Be w u->Y 222 #[U 5,.agg (nS c).toArray,U E.f,U 2,d.nn] u fun e w'=>e= .returned true/\Be u w'):=jj fun u hb=>Oq u d.nn b K (h.below hb).Pt 5 E.f 2 h1 h4 c (hM.below hb).is (cf.cert hM.is);obtain⟨gi,hgi,hkl,Dn⟩:=Jw hpl;have PT:Hid (∀u,qE x u E.f E.n E.id gx b d K->J u d.gr k gi):=jj fun u hu=>Dn _ _ _ _ _ _ _ _ hu;have Zc:Hid (∀u,qE x u E.f E.n E.id gx b d K->Y 223 #[gi,.agg (nS c).toArray] u fun e w'=>e= .returned false/\Be u w'):=jj fun u hu=>by
  obtain⟨g,I,Q,e1,e2,rfl,rfl⟩:=sQ hpl;rw[e1] at hgi;injection hgi with hgi;subst hgi;have hd:Q.done=true:=by
   cases hq:Q.done
   ·simp[qm.val,hq] at hdn
   rfl
  exact Qz (hu.inst e1) j Q e2 hd c hcs
 have k0:(0:Int)<=k:=lK;have k1:(k:Int)<d.is.length:=lK;obtain⟨cv,ci,cq,ba,bn,bc,bs,va,vn,vc,vs⟩:=c;simp only[pz] at hck;subst hck;have H:=jj h;have HX:=jj hx;clear h hx hM hu cf hcs hpl hdn hgi Dn hkl;show Y 163 #[gx,.agg #[U cv,U k,U cq,.slice ba bn bc,.slice va vn vc]] w _;replace afW:Hid (∀u,Be w u->Y 222 #[U 5,.agg #[U cv,U k,U cq,.slice ba bn bc,.slice va vn vc],U E.f,U 2,d.nn] u fun e w'=>e= .returned true/\Be u w'):=afW;replace Zc:Hid (∀u,qE x u E.f E.n E.id gx b d K->Y 223 #[gi,.agg #[U cv,U k,U cq,.slice ba bn bc,.slice va vn vc]] u fun e w'=>e= .returned false/\Be u w'):=Zc;go_enter func163,ntmps163
 go_upto_region 1 with fail
 generalize hw1:w.alloc _=w1;generalize qP:w.heap.size=gq;replace hw1:=hw1.symm;replace qP:=qP.symm;obtain⟨B1,X1⟩:=nw hw1 qP;clear hw1 qP;have KS:Hid (∀u,Be w1 u->J u gx 0 (U E.f)/\J u gx 1 (U 2)/\J u gx 16 d.nn/\J u gx 18 (O d.gr d.is.length d.rX)/\J u d.gr k gi/\J u gq 0 (U cv)/\J u gq 1 (U k)/\J u gq 2 (U cq)/\J u gq 3 (.slice ba bn bc)/\J u gq 4 (.slice va vn vc)):=jj fun u o=>by
  have hh:=(H.below B1).below o;have xx:=X1.below o X1.lt;exact⟨hh.blk.cell 0,hh.blk.cell 1,hh.blk.cell 16,hh.blk.cell 18,PT.out _ hh,xx.cell 0,xx.cell 1,xx.cell 2,xx.cell 3,xx.cell 4⟩
 refine rD (fun u=>J u gx 0 (U E.f)/\J u gx 1 (U 2)/\J u gx 16 d.nn/\J u gx 18 (O d.gr d.is.length d.rX)/\J u d.gr k gi/\J u gq 0 (U cv)/\J u gq 1 (U k)/\J u gq 2 (U cq)/\J u gq 3 (.slice ba bn bc)/\J u gq 4 (.slice va vn vc)) 17 (tk 0 15 (.one 15 (.take 16 .done))) (KS.out _ (aC _ _).drew) fun v1 Bv hS0=> ?_
 repeat refine' tT ?_
 refine pO fun KT lS=> ?_;go_simp;refine(afW.out v1 (B1.trans (Bv.mono B1.size))).mono ?_;rintro e w2 ⟨rfl,hb2⟩;have Bw:=nO Bv hb2;have S2:=KS.out _ Bw;refine oH lS S2 ?_;clear hS0 hb2;have hS0:=S2
 repeat refine' tT ?_
 refine lM ?_;clear hS0 S2
 go_upto_region 3 with fail
 refine rP (fun u=>J u gx 0 (U E.f)/\J u gx 1 (U 2)/\J u gx 16 d.nn/\J u gx 18 (O d.gr d.is.length d.rX)/\J u d.gr k gi/\J u gq 0 (U cv)/\J u gq 1 (U k)/\J u gq 2 (U cq)/\J u gq 3 (.slice ba bn bc)/\J u gq 4 (.slice va vn vc)) 11 (tk 0 9 (.one 9 (.take 10 .done))) (KS.out _ Bw.drew) ?_;intro hS0;obtain⟨w3,hw3⟩:=ex w2.drew;have B3:Hid (Be w1 w3):=jj (by rw[hw3];exact Bw.drew);rw[<-hw3] at hS0|-;clear hw3
 repeat refine' tT ?_
 refine pO fun KT lS=> ?_;go_simp;refine(Zc.out w3 ((H.below B1).below B3)).mono ?_;rintro e w4 ⟨rfl,hb4⟩;have B4:=nO B3 hb4;have S4:=KS.out _ B4;refine oH lS S4 ?_;clear hS0 hb4;have hS0:=S4
 repeat refine' tT ?_
 refine lM ?_;clear hS0 S4
 go_wp2_with fail
 go_ret;exact⟨by trivial,by trivial,by trivial,B1.trans (B4.mono B1.size)⟩
end Go.Proofs.YtgnhecmnlddjhaaGreat
