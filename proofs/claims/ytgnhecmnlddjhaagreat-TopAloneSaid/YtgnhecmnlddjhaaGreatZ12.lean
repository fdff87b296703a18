/- TopAlone, part 13 of 24: a proof squeezed by a program. -/
import Derived.Test.YtgnhecmnlddjhaaGreatZ11
set_option linter.unusedVariables false
set_option linter.unusedSimpArgs false
set_option linter.defProp false
set_option maxRecDepth 100000
set_option maxHeartbeats 6400000
namespace Go.Proofs.YtgnhecmnlddjhaaGreat
open Go.RowKit Go.Proofs.Tryz
variable{I:tJ}{L':List ni}{M:Ms}{P P':qm}{d:lU}{f:Int}{g j k n x:Nat}{p:Nat×tJ}{w w':World}
structure CeL(f:Int)(c:Ce):Prop where
 p1:qU c.view 0 12=true
 p2:qU c.inst 0 f=true
 p3:qU c.seq 1 16=true
 b: ∀r∈c.batch,mq 2 r=true
 nb:qU c.batch.length 0 4=true
 r:Ih f c.sw
 v: ∀v∈c.sw,qU v.2 0 1099511627775=true
inductive nU(f:Int):Ms->Prop where
 |req (r:Rq):mq 2 r=true->0<=r.1->r.1<2->nU f ⟨1,100+r.1,0,0,0,0,[r],[],[]⟩
 |prop (s:Int) (r:Rq):qU s 0 (3*f)=true->mq 2 r=true->nU f ⟨2,s,0,0,0,0,[r],[],[]⟩
 |pp (k q:Int) (bs:List Rq):qU k 0 (3*f)=true->qU k 0 f=true->qU q 1 16=true->(∀r∈bs,mq 2 r=true)->qU bs.length 1 4=true->nU f ⟨3,k,0,k,q,0,bs,[],[]⟩
 |v4 (s k q:Int) (bs:List Rq):qU s 0 (3*f)=true->qU k 0 f=true->qU q 1 16=true->(∀r∈bs,mq 2 r=true)->qU bs.length 0 4=true->nU f ⟨4,s,0,k,q,0,bs,[],[]⟩
 |v5 (s k q:Int) (bs:List Rq):qU s 0 (3*f)=true->qU k 0 f=true->qU q 1 16=true->(∀r∈bs,mq 2 r=true)->qU bs.length 0 4=true->nU f ⟨5,s,0,k,q,0,bs,[],[]⟩
 |proof (s:Int) (c:Ce):qU s 0 (3*f)=true->CeL f c->nU f ⟨9,s,0,0,0,0,[],[],[c]⟩
theorem aas(h1:1<=f)(h4:f<=4)(h:nU f M)(w:World)(d:MD)(hd:nA d=M)(hi:d.Is w):
  Y 155 #[.agg (oM d).toArray,U f,U 2] w fun e w''=>e= .returned true/\Be w w'':=by
 obtain⟨kind,sender,view,inst,seq,res,ba,bn,bc,bs,va,vn,vc,vs,ca,cn,cc,cs,pa,pc⟩:=d;have e1:bs.length=bn:=hi.b.len;have e2:vs.length=vn:=hi.v.len;have e3:cs.length=cn:=hi.c.len;have hb:=hi.b;simp only at hb
 cases h with
 |req r hv h0 h2=>
  simp only[nA,Ms.mk.injEq,gI] at hd;obtain⟨rfl,rfl,rfl,rfl,rfl,rfl,rfl,rfl,rfl⟩:=hd;subst e1;subst e2;subst e3;obtain⟨r0,r1,r2,r3,r4,r5⟩:=r;exact aau w f 2 h1 h4 ba va ca pa bc vc cc pc _ r0 r1 r2 r3 r4 r5 hb hv rfl ⟨h0,by simp only at h2;omega⟩
 |prop s r hs hv=>
  simp only[nA,Ms.mk.injEq,gI] at hd;obtain⟨rfl,rfl,rfl,rfl,rfl,rfl,rfl,rfl,rfl⟩:=hd;subst e1;subst e2;subst e3;exact XG w f 2 h1 h4 ba va ca pa bc vc cc pc _ hs [r] hb (mR hv)
 |pp k q l hs hk hq hv hl=>
  simp only[nA,Ms.mk.injEq,gI] at hd;obtain⟨rfl,rfl,rfl,rfl,rfl,rfl,rfl,rfl,rfl⟩:=hd;subst e1;subst e2;subst e3;exact adz w f 2 h1 h4 ba va ca pa bc vc cc pc _ _ _ _ hs hk hq rfl _ hb hv hl
 |v4 s k q l hs hk hq hv hl=>
  simp only[nA,Ms.mk.injEq,gI] at hd;obtain⟨rfl,rfl,rfl,rfl,rfl,rfl,rfl,rfl,rfl⟩:=hd;subst e1;subst e2;subst e3;exact Tt w f 2 h1 h4 ba va ca pa bc vc cc pc _ _ _ _ hs hk hq _ hb hv hl
 |v5 s k q l hs hk hq hv hl=>
  simp only[nA,Ms.mk.injEq,gI] at hd;obtain⟨rfl,rfl,rfl,rfl,rfl,rfl,rfl,rfl,rfl⟩:=hd;subst e1;subst e2;subst e3;exact Tv w f 2 h1 h4 ba va ca pa bc vc cc pc _ _ _ _ hs hk hq _ hb hv hl
 |proof s c hs hc=>
  simp only[nA,Ms.mk.injEq] at hd;obtain⟨rfl,rfl,rfl,rfl,rfl,rfl,rfl,rfl,hcs⟩:=hd;obtain⟨cd,rfl⟩: ∃cd,cs= [cd]:=by
   cases cs with
   |nil=>simp at hcs
   |cons a l=>cases l with
    |nil=>exact⟨a,rfl⟩
    |cons b l=>simp at hcs
  simp only[bV,fu,gT,iY] at hcs;subst hcs;subst e1;subst e2;subst e3;have hcd:=hi.c.is cd lT;have en:cd.bs.length=cd.bn:=hcd.b.len;have nb:=hc.nb;simp only[pz,en] at nb;exact Tq w f 2 h1 h4 ba va ca pa bc vc cc pc _ hs cd (mR hi.c.row) hcd ⟨hc.p1,hc.p2,hc.p3,hc.b,nb,hc.r,hc.v⟩
open Classical in
noncomputable def sP(E:Who)(m:Ms)(z:Int)(S:KN):Option (KN×Kj):=
 if m.kind=1\/m.kind=2 then match m.batch with
  | [r]=>JE E m.kind m.sender.toNat r S
  |_=>none
 else if m.kind=3 then ppV E m m.inst.toNat (m.seq -1).toNat S
 else if m.kind=4\/m.kind=5 then AU E m z m.sender.toNat m.inst.toNat (m.seq -1).toNat S
 else if m.kind=9 then match m.vI with
  | [c]=>Cw E c S
  |_=>none
 else none
def Kj.num:Kj->Int
 | .used=>0
 | .stale=>1
structure Vh(K:KS)(s:ql)(f:Int)(M:Ms)(z:Int)(bs:LI):Prop where
 z40:qh z
 ab2:xE K M z
 bytes:bs=mD z.toNat++lX M
 len:bs.length<=65536
 form:nU f M
 stop:s.stopped=false
 cnt:0<=s.c0/\s.c0<=1000000/\0<=s.c2/\s.c2<=1000000
open Classical in
noncomputable def JD(E:Who)(M:Ms)(z:Int)(bs:LI)(S:KN):Option KN:=
 (must (Vh S.1 S.2 E.f M z bs)).bind fun _=>(sP E M z S).map fun r=>(r.1.1,match r.2 with
  | .used=>{r.1.2 with c0:=r.1.2.c0+1}
  | .stale=>{r.1.2 with c2:=r.1.2.c2+1})
theorem MF.step{L:List ni}{m:MD}(hM:MF x w m)(h:Sys x w L)(st:Step x w w' L L'):MF x w' m:=hM.only st.only h.soft h.noC
theorem UH(K:KS)(q:Int×List Int):q∈sealed K q:=by
 unfold sealed;split
 ·assumption
 simp
theorem OM(K:KS)(q:Int×List Int):sealed (sealed K q) q=sealed K q:=aV (UH K q)
theorem ahB(ok:Ev M)(hl:(lX M).length<=65536):Ns (M.sender,lX M):=
 ⟨by have:=ok.sender;obtain⟨h1,h2⟩:=this;exact⟨by simp only;omega,by simp only;omega⟩,EG ok,by show(lX M).length<=maxLen;unfold maxLen;omega⟩
theorem FQ(k id:Nat):others (k+1) id=others k id++if k=id then [] else [k]:=by
 unfold others;rw[gV,fV];by_cases h:k=id<;>simp[h]
def MD.from_(m:MD)(id:Int):MD:={m with sender:=id}
theorem MF.from_{m:MD}(h:MF x w m)(id:Int):MF x w (m.from_ id):=⟨h.b,h.v,h.c⟩
theorem aee(x:Nat)(w:World)(f:Int)(n id gx b:Nat)(d:lU)(K:KS)(h:qE x w f n id gx b d K)(m:MD)(hM:MF x w m)(hs:m.sender=id)(ok:Ev (nA m))(hl:(lX (nA m)).length<=65000)(hK:K.length<1048576)(q:Int×List Int)(hq:q=((id:Int),lX (nA m)))(z:Int)(hz:num (sealed K q) q=z):
  Y 229 #[gx,.agg (oM m).toArray] w fun e w'=>e= .returned (U z)/\mP x w w' f n id gx b d K d (sealed K q):=by
 have BODY:Hid (∀u,Be w u->Y 102 #[.agg (oM m).toArray] u fun e w'=> ∃a' c',e= .returned (.tuple #[.slice a' (lX (nA m)).length c',true])/\w'.ownsRow u.heap.size 5 1 (.slice a' (lX (nA m)).length c') (lX (nA m)).length (mZ (lX (nA m)))/\Be u w'):=jj fun u hu=>Ta u m (hM.below hu).md ok lK;obtain⟨bs0,agZ⟩:=ex (lX (nA m));obtain⟨k0,hk0⟩:=ex ((lX (nA m)).length);obtain⟨HB0,HK0,OKM,ang⟩:=j4 agZ hk0 ok hl;rw[<-hk0,<-agZ] at BODY;obtain⟨kind,sender,view,inst,seq,res,ba,bn,bc,bs,va,vn,vc,vs,ca,cn,cc,cs,pa,pc⟩:=m;simp only at hs;subst hs;obtain⟨H,HQ,HZ⟩:=j3 h hq hz;clear h hM ok hl hq hz agZ hk0;replace BODY:Hid (∀u,Be w u->Y 102 #[.agg #[U kind,U id,U view,U inst,U seq,U res,.slice ba bn bc,.slice va vn vc,.slice ca cn cc,.slice pa 0 pc]] u fun e w'=> ∃a' c',e= .returned (.tuple #[.slice a' k0 c',true])/\w'.ownsRow u.heap.size 5 1 (.slice a' k0 c') k0 (mZ bs0)/\Be u w'):=BODY;show Y 229 #[gx,.agg #[U kind,U id,U view,U inst,U seq,U res,.slice ba bn bc,.slice va vn vc,.slice ca cn cc,.slice pa 0 pc]] w fun e w'=>e= .returned (U z)/\mP x w w' f n id gx b d K d (sealed K q);go_enter func229,ntmps229
 go_upto_region 1 with fail
 generalize hv1:w.alloc _=v1;generalize hgm:w.heap.size=gm;replace hv1:=hv1.symm;replace hgm:=hgm.symm;obtain⟨B1,X1⟩:=nw hv1 hgm;clear hv1 hgm;obtain⟨y0,y1,y2,y3,y4,y5,y6,y7,y8,y9⟩:=X1.zA
 go_wp2_with fail
 refine(BODY.out v1 B1).mono ?_;rintro e v2 ⟨a2,c2,rfl,ow2,hb2⟩;have B2:=nO B1 hb2;have W2:=jj ow2;clear ow2 hb2 y0 y1 y2 y3 y4 y5 y6 y7 y8 y9
 go_upto_region 2 with fail
 have KS:Hid (∀u,Be w u->J u gx 15 (U id)/\J u gx 16 d.nn):=jj fun u o=>⟨(H.below o).blk.cell 15,(H.below o).blk.cell 16⟩;refine rP (fun u=>J u gx 15 (U id)/\J u gx 16 d.nn) 11 (tk 0 9 (.one 9 (.take 10 .done))) (KS.out _ B2.drew) ?_;intro hS0;obtain⟨v3,hv3⟩:=ex v2.drew;have B3:Hid (Be w v3):=jj (by rw[hv3];exact B2.drew);have W3:Hid (v3.ownsRow v1.heap.size 5 1 (.slice a2 k0 c2) k0 (mZ bs0)):=jj (by rw[hv3];exact W2.out);rw[<-hv3] at hS0|-;clear hv3
 repeat refine' tT ?_
 refine pO fun KT lS=> ?_;go_simp;have ZB:=jj (H.step B3);refine(Ox d.nn b K id a2 k0 c2 bs0 v3 ZB.sys.Pt (l9 W3) (by rw[HB0.out];exact ahB OKM (tL ang.out)) hK z (by rw[<-HZ.out,HQ.out,HB0.out]) (sealed K q) (by rw[HQ.out,HB0.out])).mono ?_;rintro e v4 ⟨rfl,hN,ho⟩;have ZC:=jj (ZB.Pt hN ho);clear hN ho;have S4:J v4 gx 15 (U id)/\J v4 gx 16 d.nn:=⟨ZC.sys.blk.cell 15,ZC.sys.blk.cell 16⟩;refine oH lS S4 ?_;clear hS0;have hS0:=S4
 repeat refine' tT ?_
 refine lM ?_
 go_wp2_with fail
 go_ret;exact⟨by trivial,ZC⟩
theorem GV(x:Nat)(w:World)(E:Who)(gx b:Nat)(d:lU)(K:KS)(h:qE x w E.f E.n E.id gx b d K)(hx:x<w.heap.size)(h1:1<=E.f)(h4:E.f<=4)(hn:(E.n:Int)=3*E.f+1)(m:MD)(hM:MF x w m)(K':KS)(v':ql)(z:Int)(hv:yI E (nA m) (K,d.val)=some ((K',v'),z)):
  Y 170 #[gx,.agg (oM m).toArray] w fun e w'=>e= .returned (.tuple #[U z,true])/\ ∃A c L,mP x w w' E.f E.n E.id gx b d K (d.outs A c L) K'/\(d.outs A c L).val=v':=by
 obtain⟨f,n,id⟩:=E;simp only at h h1 h4 hn|-;unfold yI at hv;simp only[aK] at hv;obtain⟨u,hu,hv⟩:=hv;have ft:=mI hu;obtain⟨q,hq⟩: ∃q:Int×List Int,q=((id:Int),lX (nA (m.from_ id))):=⟨_,rfl⟩;have hsb:FY (sealed K q) (nA (m.from_ id))=mD (num (sealed K q) q).toNat++lX (nA (m.from_ id)):=by rw[hq];rfl
 obtain⟨bs',hbs⟩:=ex (mD (num (sealed K q) q).toNat++lX (nA (m.from_ id)));have hv2:K'=sealed K q/\v'={d.val with out:=d.val.out++(others n id).map fun k:Nat=>((k:Int),bs')}/\z=num (sealed K q) q:=by
  rw[hbs,<-hsb,hq];simp only[aM] at hv;exact⟨hv.1.1.symm,hv.1.2.symm,hv.2.symm⟩
 obtain⟨rfl,rfl,rfl⟩:=hv2;have hok:Ev (nA (m.from_ id)):=ft.ok;have hlen:(lX (nA (m.from_ id))).length<=65000:=ft.len;have hK:K.length<1000000:=ft.room;have hol:d.ol.length<=3000:=by have:=ft.out;simpa[lU.val,uy] using this
 have hMi:MF x w (m.from_ id):=hM.from_ id;clear hv hu ft hM hsb;obtain⟨kind,sender,view,inst,seq,res,ba,bn,bc,bs,va,vn,vc,vs,ca,cn,cc,cs,pa,pc⟩:=m;simp only[MD.from_] at hq hbs hok hlen hMi;obtain⟨H,HQ,Lf,vB,HX,Nq⟩:=j6 h hq hbs hn hx hok;have HM:=jj hMi;clear h hq hbs hn hx hok hMi;obtain⟨iu,hiu,hu0,hu1,hu2⟩:=bq wU;obtain⟨is,his,hs0,hs1,hs2⟩:=bq wD;show Y 170 #[gx,.agg #[U kind,U sender,U view,U inst,U seq,U res,.slice ba bn bc,.slice va vn vc,.slice ca cn cc,.slice pa 0 pc]] w _;have c15:=H.blk.at_ 15;go_enter func170,ntmps170
 go_upto_region 1 with fail
 generalize hv0:w.alloc _=v0;generalize hgm:w.heap.size=gm;replace hv0:=hv0.symm;replace hgm:=hgm.symm;obtain⟨B0,X0⟩:=nw hv0 hgm;have GM:Hid (w.heap.size<=gm):=jj lK;have aob:J v0 gx 15 (U id):=kept B0.out _ _ c15;have f1:=X0.frozen 1;have y1:=X0.at_ 1;clear hv0 hgm c15
 go_upto_region 2 with fail
 obtain⟨v1,hv1⟩:=ex (v0.setCell ⟨gm,1,none⟩ (U id));rw[<-hv1];have B1:Hid (Be w v1):=jj (by rw[hv1];exact B0.setCell (p:=⟨gm,1,none⟩) GM.out _);have X1:Hid (lQ v1 gm 82 #[U kind,U id,U view,U inst,U seq,U res,.slice ba bn bc,.slice va vn vc,.slice ca cn cc,.slice pa 0 pc]):=jj (by rw[hv1];exact X0.mg 1 _);clear hv1 y1 f1 aob;have KS:Hid (∀u,Be w u->lQ u gm 82 #[U kind,U id,U view,U inst,U seq,U res,.slice ba bn bc,.slice va vn vc,.slice ca cn cc,.slice pa 0 pc]->J u gx 16 d.nn/\J u gm 0 (U kind)/\J u gm 1 (U id)/\J u gm 2 (U view)/\J u gm 3 (U inst)/\J u gm 4 (U seq)/\J u gm 5 (U res)/\J u gm 6 (.slice ba bn bc)/\J u gm 7 (.slice va vn vc)/\J u gm 8 (.slice ca cn cc)/\J u gm 9 (.slice pa 0 pc)):=jj fun u o t=>⟨(H.below o).blk.cell 16,t.cell 0,t.cell 1,t.cell 2,t.cell 3,t.cell 4,t.cell 5,t.cell 6,t.cell 7,t.cell 8,t.cell 9⟩;refine rP (fun u=>J u gx 16 d.nn/\J u gm 0 (U kind)/\J u gm 1 (U id)/\J u gm 2 (U view)/\J u gm 3 (U inst)/\J u gm 4 (U seq)/\J u gm 5 (U res)/\J u gm 6 (.slice ba bn bc)/\J u gm 7 (.slice va vn vc)/\J u gm 8 (.slice ca cn cc)/\J u gm 9 (.slice pa 0 pc)) 11 (tk 0 5 (.one 5 (tk 6 5 .done))) (KS.out _ B1.drew X1.drew) ?_;intro hS0;obtain⟨v2,hv2⟩:=ex v1.drew;have B2:Hid (Be w v2):=jj (by rw[hv2];exact B1.drew);have X2:Hid (lQ v2 gm 82 #[U kind,U id,U view,U inst,U seq,U res,.slice ba bn bc,.slice va vn vc,.slice ca cn cc,.slice pa 0 pc]):=jj (by rw[hv2];exact X1.drew);rw[<-hv2] at hS0|-;clear hv2
 repeat refine' tT ?_
 refine pO fun KT lS=> ?_;go_simp;have H2:=jj (H.below B2.out);have T2:Hid (sV (nu f n id gx b d K) v2 gm 82 #[U kind,U id,U view,U inst,U seq,U res,.slice ba bn bc,.slice va vn vc,.slice ca cn cc,.slice pa 0 pc]):=jj (sV.new H.out X2.out GM.out);have M2:=jj (HM.below B2.out);refine(UG _ d.nn b K H2.Pt ⟨kind,id,view,inst,seq,res,ba,bn,bc,bs,va,vn,vc,vs,ca,cn,cc,cs,pa,pc⟩ M2.md Nq.out hlen lK).mono ?_;rintro e v3 ⟨a3,c3,l3,rfl,hl3,Yh,Tw,o3⟩;replace Yh:v3.ownsRow v2.heap.size 5 1 (.slice a3 l3 c3) l3 (mZ bs'):=by rw[Lf.out,HQ.out];exact Yh
 replace hl3:bs'.length=l3:=by rw[Lf.out,HQ.out];exact hl3
 replace Tw:vC v3 d.nn b (sealed K q):=by rw[HQ.out];exact Tw
 have ZB:Hid (mP x v2 v3 f n id gx b d K d (sealed K q)):=jj ((Step.refl H2.out).Pt Tw o3);have W3:=jj Yh;have L3:=jj hl3;have T3:=jj (T2.step ZB.out);have M3:=jj (M2.step H2.out ZB.out);have H3:=jj ZB.sys;clear Yh hl3 Tw o3;have S3:J v3 gx 16 d.nn/\J v3 gm 0 (U kind)/\J v3 gm 1 (U id)/\J v3 gm 2 (U view)/\J v3 gm 3 (U inst)/\J v3 gm 4 (U seq)/\J v3 gm 5 (U res)/\J v3 gm 6 (.slice ba bn bc)/\J v3 gm 7 (.slice va vn vc)/\J v3 gm 8 (.slice ca cn cc)/\J v3 gm 9 (.slice pa 0 pc):=⟨H3.blk.cell 16,T3.blk.cell 0,T3.blk.cell 1,T3.blk.cell 2,T3.blk.cell 3,T3.blk.cell 4,T3.blk.cell 5,T3.blk.cell 6,T3.blk.cell 7,T3.blk.cell 8,T3.blk.cell 9⟩;refine oH lS S3 ?_;clear hS0;have hS0:=S3
 repeat refine' tT ?_
 refine lM ?_;clear hS0 S3
 go_wp2_with fail
 have LB:Hid (l3<=65010):=jj (by have:=(qz (num (sealed K q) q).toNat).2;rw[<-L3.out,Lf.out,av];omega)
 go_loopw [8] (fun q' wr=> ∃k:Nat,q'= U k/\k<=n/\(∃A' c' L',mP x v3 wr f n id gx b d (sealed K q) (d.outs A' c' L') (sealed K q)/\uy L'=uy d.ol++(others k id).map (fun k:Nat=>((k:Int),bs'))/\L'.length<=d.ol.length+k)/\wr.ownsRow v2.heap.size 5 1 (.slice a3 l3 c3) l3 (mZ bs')) (fun q' _=>n -(intOf q').toNat)
 case atStart=>exact⟨0,by first|rfl|simp,lK,⟨d.oa,d.oc,d.ol,Step.refl H3.out,by simp[others],lK⟩,W3.out⟩
 case round=>
  obtain⟨k,rfl,hk,⟨A',c',L',hst,hv,hlen'⟩,hw⟩:=hrel;obtain⟨SW,HW,VV,RW,LL⟩:=j5 hst hst.sys hv hw hlen';have hcz:=hst.sys.blk.at_ 0;have hc1:=hst.sys.blk.at_ 15;clear hst hv hw hlen';by_cases hlt:k<n
  ·have i1:(k:Int)<3*f+1:=by have:=vB.out;omega
   have e2:IntKind.i64.wrap ((k:Int)+1)=(k:Int)+1:=aH _ (tL vB.out);by_cases hne:k=id
   ·have hne':(k:Int)=id:=lK
    subst hne
    go_wp2_with fail
    refine(oC f _ h1 h4).mono ?_;rintro e w' ⟨rfl,rfl⟩
    go_wp2_with fail
    go_roundw
    case rel=>exact⟨k+1,by go_num,lK,⟨A',c',L',SW.out,by rw[FQ,aV rfl,eG];exact VV.out,by have:=LL.out;omega⟩,RW.out⟩
    simp[intOf];omega
   have hne': ¬(k:Int)=id:=lK
   go_wp2_with fail
   refine(oC f _ h1 h4).mono ?_;rintro e w' ⟨rfl,rfl⟩
   go_upto_region 9 with fail
   clear hcz hc1;refine rD (fun u=>J u gx 34 (.slice A' L'.length c')) 13 (tk 0 7 (.one 7 (.take 8 (.one 9 (.one 10 (.one 11 (.take 12 (.one 13 .done)))))))) (HW.blk.drew.cell 34) fun v5 E5 hS0=> ?_
   repeat refine' tT ?_
   refine pO fun KT lS=> ?_;refine oo (by rfl) _ _ _ (by rfl) wr.heap.size 5 iu _ 1 1 underlying140 hiu hu0 hu1 hu2 rfl lK none 0 0 [] (by rfl) ⟨lT,.inl ⟨rfl,rfl⟩⟩ a3 l3 c3 (mZ bs') (by rfl) (l9 (own_below RW.out E5.out)) (yh bs') (by have:=LB.out;unfold maxLen;omega) (tL LB.out) E5.size ?_;intro a6 c6 v6 h6;have O6:=h6.own;rw[aO,List.nil_append] at O6;rw[aO];have E6:Hid (Be wr v6):=jj (E5.trans (h6.only.mY.mono E5.size));have R6:=jj O6;clear h6 O6;have S6:J v6 gx 34 (.slice A' L'.length c'):=(HW.below E6.out).blk.cell 34;refine oH lS S6 ?_;clear hS0;have hS0:=S6
   repeat refine' tT ?_
   refine pO fun KT lS=> ?_;go_simp;generalize hv7:v6.alloc _=v7;generalize sM:v6.heap.size=g7;replace hv7:=hv7.symm;replace sM:=sM.symm;have E67:=(tQ hv7).out;have E7:=nO E6 E67;have X7:=xNew hv7 sM;have R7:=jj (own_below R6.out E67);clear hv7 sM E67;have S7:J v7 gx 34 (.slice A' L'.length c'):=(HW.below E7.out).blk.cell 34;refine oH lS S7 ?_;clear hS0 S6;have hS0:=S7
   repeat refine' tT ?_
   refine pO fun KT lS=> ?_;refine oo (by rfl) _ _ _ (by rfl) 0 179 is _ 2 32 underlying109 his hs0 hs1 hs2 rfl lK A' L'.length c' (L'.flatMap WB) (by rfl) (own_below HW.out.out.own E7.out) (some ⟨g7,0,none⟩) 1 1 (WB (⟨(k:Int),a6,l3,c6,bs'⟩:wN)) (by rfl) (mo.nR (n:=1) (s:=2) X7.out rfl) (fun u hu=>Ec [(⟨(k:Int),a6,l3,c6,bs'⟩:wN)] u (mR hu)) (by have:=LL.out;unfold maxLen;omega) (tL LL.out) (bF _) ?_;intro a8 c8 v8 h8;have H7:=jj (HW.below E7.out);have SI:Hid ((⟨(k:Int),a6,l3,c6,bs'⟩:wN).Is x v7):=jj ⟨l9 R7.out,L3.out,Fixed.own R7.out (aB HX.out (aG B2.size (aG ZB.size SW.size))),qB R7.out⟩;have O8:=jj (H7.out.out.more SI.out h8);have P8:Hid (Only (A'.map (·.block)).toList wr v8):=jj ((Only.of_below E7.out).trans h8.only);have WQ:Hid (∀k,a8.map (·.block)=some k->A'.map (·.block)=some k\/wr.heap.size<=k):=jj fun k hk=>by
    rcases h8.at_ k hk with h|h
    ·exact .inl h
    exact .inr (aG E7.size h)
   have K8:=jj (HW.blk.only P8.out (fun hm=>oJ HW.out.out.own HW.blk lN _ hm rfl));have R8:=jj (mK RW.out P8.out (fun g hg hm=>by
    obtain⟨_,cs',hc⟩:=lW HW.out.out.own g hm;exact mG RW.out hc lN hg))
   clear h8 SI;have S8:=K8.at_ 34;refine oH lS S8 ?_;clear hS0 S7;have hS0:=S8;have f8:=K8.frozen 34
   repeat refine' tT ?_
   refine pO fun KT lS=> ?_;go_simp;refine oH lS S8 ?_
   repeat refine' tT ?_
   refine pL fun KT lS=> ?_;go_simp;refine oL lS ?_;refine lM ?_;clear hS0;obtain⟨w9,mE⟩:=ex (v8.setCell ⟨gx,34,none⟩ (.slice a8 (L'.length+1) c8));rw[<-mE];have o9:Only [gx] v8 w9:=by rw[mE];exact(Only.refl [gx] _).setCell (.inl lT) _
   have K9:lQ w9 gx 131 (yB f id (d.outs a8 c8 (L'++ [(⟨(k:Int),a6,l3,c6,bs'⟩:wN)]))):=by
    rw[mE,show yB f id ((d.outs a8 c8 (L'++ [(⟨(k:Int),a6,l3,c6,bs'⟩:wN)])):lU)=(yB f id ((d.outs A' c' L'):lU)).setIfInBounds 34 (.slice a8 (L'.length+1) c8) by simp[yB]];exact K8.mg 34 _
   have O9:nJ x w9 a8 (L'++ [(⟨(k:Int),a6,l3,c6,bs'⟩:wN)]).length c8 (L'++ [(⟨(k:Int),a6,l3,c6,bs'⟩:wN)]):=by
    rw[av,List.length_singleton];exact O8.Ak o9 K8.out lN lN
   have P9:Only (gx::(A'.map (·.block)).toList) wr w9:=(P8.mono (fun k hk=> .inl (by simp only[ay];exact .inr hk))).then o9 lT;have S9:Hid (mP x wr w9 f n id gx b ((d.outs A' c' L'):lU) (sealed K q) (d.outs a8 c8 (L'++ [(⟨(k:Int),a6,l3,c6,bs'⟩:wN)])) (sealed K q)):=jj ((Step.refl HW.out).sent K9 O9 P9 WQ.out);have R9:=jj (mh R8.out o9 K8.out lN);clear mE o9 K9 O9 P9 f8 S8
   go_wp2_with fail
   go_roundw
   case rel=>exact⟨k+1,by go_num,lK,⟨a8,c8,L'++ [⟨(k:Int),a6,l3,c6,bs'⟩],SW.trans S9.out,by rw[EZ,VV.out,FQ,aU hne];simp,by have:=LL.out;simp;omega⟩,R9.out⟩
   simp[intOf];omega
  have i1: ¬(k:Int)<3*f+1:=by have:=vB.out;omega
  obtain rfl:k=n:=lK
  go_wp2_with fail
  refine(oC f _ h1 h4).mono ?_;rintro e w' ⟨rfl,rfl⟩;have T9:=jj (T3.step SW.out);have M9:=jj (M3.step H3.out SW.out);obtain⟨y0,y1,y2,y3,y4,y5,y6,y7,y8,y9⟩:=T9.blk.zA;clear hcz hc1
  go_wp2_with fail
  refine(aee x wr f k id gx b _ (sealed K q) HW.out ⟨kind,id,view,inst,seq,res,ba,bn,bc,bs,va,vn,vc,vs,ca,cn,cc,cs,pa,pc⟩ M9.out rfl Nq.out hlen (tL (JG K q)) q HQ.out _ rfl).mono ?_;rintro e w9 ⟨rfl,hst⟩;rw[OM] at hst|-;have S9:=jj hst;clear hst y0 y1 y2 y3 y4 y5 y6 y7 y8 y9
  go_wp2_with fail
  go_ret2
  refine⟨by trivial,A',c',L',((((H.step B2.out).trans ZB.out).trans SW.out).trans S9.out),?_⟩;simp only[lU.val,VV.out]
theorem abo(x:Nat)(w:World)(E:Who)(gx b:Nat)(d:lU)(K:KS)(h:qE x w E.f E.n E.id gx b d K)(hx:x<w.heap.size)(c t r:Int)(K':KS)(v':ql)(hv:Cz E c t r (K,d.val)=some (K',v')):
  Y 214 #[gx,U c,U t,U r] w fun e w'=>e= .returned (.tuple #[])/\ ∃A c L,mP x w w' E.f E.n E.id gx b d K (d.outs A c L) K'/\(d.outs A c L).val=v':=by
 obtain⟨f,n,id⟩:=E;simp only at h|-;unfold Cz at hv;simp only[aK] at hv;obtain⟨u,hu,hv⟩:=hv;obtain⟨ft,hc0,hc4⟩:=mI hu;obtain⟨M,hM⟩: ∃M:Ms,M=⟨10,id,0,c,t,r,[],[],[]⟩:=⟨_,rfl⟩;simp only[<-hM] at ft hv;obtain⟨q,hq⟩: ∃q:Int×List Int,q=((id:Int),lX M):=⟨_,rfl⟩;obtain⟨bs',hbs⟩:=ex (mD (num (sealed K q) q).toNat++lX M);have hqs:(M.sender,lX M)=q:=by rw[hq,hM]
 have hv2:K'=sealed K q/\v'={d.val with out:=d.val.out++ [(100+c,bs')]}:=by
  rw[show((id:Int),lX M)=q from hq.symm,show FY (sealed K q) M=bs' by rw[hbs];unfold FY;rw[hqs]] at hv;simp only[aM] at hv;exact⟨hv.1.symm,hv.2.symm⟩
 obtain⟨rfl,rfl⟩:=hv2;have hok:Ev M:=ft.ok;have hlen:(lX M).length<=65000:=ft.len;have hK:K.length<1000000:=ft.room;have hol:d.ol.length<=3000:=by have:=ft.out;simpa[lU.val,uy] using this
 have ajf:Hid (∀u,vC u d.nn b K->Y 64 #[.agg #[U 10,U id,U 0,U c,U t,U r,(),(),(),()],d.nn] u fun e w'=> ∃a' c' l,e= .returned (.tuple #[.slice a' l c',true])/\bs'.length=l/\w'.ownsRow u.heap.size 5 1 (.slice a' l c') l (mZ bs')/\vC w' d.nn b (sealed K q)/\Only [b] u w'):=jj fun u hN=>by
  have e0:nA ⟨10,id,0,c,t,r,none,0,0,[],none,0,0,[],none,0,0,[],none,0⟩=M:=by rw[hM];rfl
  have:=UG u d.nn b K hN ⟨10,id,0,c,t,r,none,0,0,[],none,0,0,[],none,0,0,[],none,0⟩ ⟨qc.nil _ _ (show 0<=maxLen by unfold maxLen;omega),uz.nil _ _ (show 0<=maxLen by unfold maxLen;omega),(Gz.nil 0 _).vI⟩ (by rw[e0];exact hok) (by rw[e0];exact hlen) lK;rw[e0] at this;simp only[show((id:Int),lX M)=q from hq.symm] at this;rw[<-hbs] at this;exact this
 clear hv hu ft hqs;obtain⟨H,HX,Lf⟩:=j3 h hx hbs;have e3:IntKind.i64.wrap (100+c)=100+c:=aH _ lK;clear h hbs hx hok hM hq;obtain⟨is,his,hs0,hs1,hs2⟩:=bq wD;have LBB:Hid (bs'.length<=65010):=jj (by have:=(qz (num (sealed K q) q).toNat).2;rw[Lf.out,av];omega);go_enter func214,ntmps214
 go_upto_region 0 with fail
 have KS:Hid (∀u,Be w u->J u gx 15 (U id)/\J u gx 16 d.nn):=jj fun u o=>⟨(H.below o).blk.cell 15,(H.below o).blk.cell 16⟩;refine rD (fun u=>J u gx 15 (U id)/\J u gx 16 d.nn) 18 (tk 0 12 (.one 12 (tk 13 5 .done))) (KS.out _ (aC _ _).drew) fun v2 B2 hS0=> ?_
 repeat refine' tT ?_
 refine pO fun KT lS=> ?_;go_simp;have H2:=jj (H.below B2);refine(ajf.out v2 H2.Pt).mono ?_;rintro e v3 ⟨a3,c3,l3,rfl,hl3,Yh,Tw,o3⟩;have ZB:Hid (mP x v2 v3 f n id gx b d K d (sealed K q)):=jj ((Step.refl H2).Pt Tw o3);obtain⟨RW,L3,HW⟩:=j3 Yh hl3 ZB.sys;have LB:Hid (l3<=65010):=jj (VZ LBB.out L3.out);clear Yh hl3 Tw o3;have S3:J v3 gx 15 (U id)/\J v3 gx 16 d.nn:=⟨HW.blk.cell 15,HW.blk.cell 16⟩;refine oH lS S3 ?_;clear hS0;have hS0:=S3
 repeat refine' tT ?_
 refine lM ?_;clear hS0 S3
 go_upto_region 2 with fail
 have c34:=HW.blk.at_ 34;obtain⟨v7,hv7⟩:=ex (v3.alloc (.cells #[U (100+c),.slice a3 l3 c3] 179));obtain⟨g7,sM⟩:=ex v3.heap.size;obtain⟨E7,X7⟩:=nw hv7 sM;have R7:=jj (own_below RW E7);have HV7:=jj hv7;have HG7:=jj sM;clear hv7 sM
 go_wp2_with(at_builtin;rw[<-HV7.out,<-HG7.out];refine lZ rfl _ _ _ rfl 0 179 is _ 2 32 underlying109 his hs0 hs1 hs2 rfl lK d.oa d.ol.length d.oc (d.ol.flatMap WB) (by rfl) (own_below HW.out.out.own E7) (some ⟨g7,0,none⟩) 1 1 (WB ⟨(100+c),a3,l3,c3,bs'⟩) (by rfl) (mo.nR (n:=1) (s:=2) X7 rfl) (fun u hu=>Ec [⟨(100+c),a3,l3,c3,bs'⟩] u (mR hu)) (by unfold maxLen;omega) lK (bF _) ?_;intro a8 c8 v8 h8;refine Hid.out ?_)
 refine jj ?_;clear c34;have H7:=jj (HW.below E7);have SI:Hid ((⟨(100+c),a3,l3,c3,bs'⟩:wN).Is x v7):=jj ⟨l9 R7,L3,Fixed.own R7 (aB HX B2.size),qB R7⟩;have O8:=jj (H7.out.out.more SI h8);have P8:Hid (Only (d.oa.map (·.block)).toList v3 v8):=jj ((Only.of_below E7).trans h8.only);have WQ:Hid (∀k,a8.map (·.block)=some k->d.oa.map (·.block)=some k\/v3.heap.size<=k):=jj fun k hk=>by
  rcases h8.at_ k hk with h|h
  ·exact .inl h
  exact .inr (aG E7.size h)
 have K8:=jj (HW.blk.only P8 (fun hm=>oJ HW.out.out.own HW.blk lN _ hm rfl));clear h8 SI;have c8':=K8.at_ 34;have f8:=K8.frozen 34
 go_wp2_with fail
 obtain⟨w9,mE⟩:=ex (v8.setCell ⟨gx,34,none⟩ (.slice a8 (d.ol.length+1) c8));rw[<-mE];have o9:Only [gx] v8 w9:=by rw[mE];exact(Only.refl [gx] _).setCell (.inl lT) _
 have K9:lQ w9 gx 131 (yB f id (d.outs a8 c8 (d.ol++ [(⟨(100+c),a3,l3,c3,bs'⟩:wN)]))):=by
  rw[mE,show yB f id (d.outs a8 c8 (d.ol++ [(⟨(100+c),a3,l3,c3,bs'⟩:wN)]))=(yB f id d).setIfInBounds 34 (.slice a8 (d.ol.length+1) c8) by simp[yB]];exact K8.mg 34 _
 have O9:nJ x w9 a8 (d.ol++ [(⟨(100+c),a3,l3,c3,bs'⟩:wN)]).length c8 (d.ol++ [(⟨(100+c),a3,l3,c3,bs'⟩:wN)]):=by
  rw[av,List.length_singleton];exact O8.Ak o9 K8 lN lN
 have P9:Only (gx::(d.oa.map (·.block)).toList) v3 w9:=(P8.mono (fun k hk=> .inl (by simp only[ay];exact .inr hk))).then o9 lT;have S9:Hid (mP x v3 w9 f n id gx b d (sealed K q) (d.outs a8 c8 (d.ol++ [(⟨(100+c),a3,l3,c3,bs'⟩:wN)])) (sealed K q)):=jj ((Step.refl HW).sent K9 O9 P9 WQ);clear mE o9 K9 O9 P9 f8 c8'
 go_end0
 refine⟨by trivial,a8,c8,_,((H.step B2).trans ZB).trans S9,?_⟩;simp only[lU.val,EZ]
theorem yV(x:Nat)(w:World)(E:Who)(gx b:Nat)(d:lU)(K:KS)(h:qE x w E.f E.n E.id gx b d K)(hx:x<w.heap.size)(h1:1<=E.f)(h4:E.f<=4)(hn:(E.n:Int)=3*E.f+1)(r:Rq)(K':KS)(v':ql)(hv:Jy E r (K,d.val)=some (K',v')):
  Y 177 #[gx,.agg (rA r).toArray] w fun e w'=>e= .returned (.tuple #[])/\ ∃A c L,mP x w w' E.f E.n E.id gx b d K (d.outs A c L) K'/\(d.outs A c L).val=v':=by
 unfold Jy at hv;simp only[aK] at hv;obtain⟨⟨⟨K1,v1⟩,z⟩,hs,hv⟩:=hv;simp only[aM] at hv;obtain⟨rfl,rfl⟩:=hv;have H:=jj h;have HX:=jj hx;have SEND:Hid (∀u g,qE x u E.f E.n E.id gx b d K->x<u.heap.size->MF x u ⟨2,0,0,0,0,0,some ⟨g,0,none⟩,1,1,[r],none,0,0,[],none,0,0,[],none,0⟩->Y 170 #[gx,.agg #[U 2,U 0,U 0,U 0,U 0,U 0,O g 1 1,(),(),()]] u fun e w'=>e= .returned (.tuple #[U z,true])/\ ∃A c L,mP x u w' E.f E.n E.id gx b d K (d.outs A c L) K1/\(d.outs A c L).val=v1):=jj fun u g hu hxu hm=>GV x u E gx b d K hu hxu h1 h4 hn _ hm K1 v1 z hs;clear h hs hx;obtain⟨r0,r1,r2,r3,r4,r5⟩:=r;show Y 177 #[gx,.agg #[U r0,U r1,U r2,U r3,U r4,U r5]] w _;go_enter func177,ntmps177
 go_upto_region 1 with fail
 generalize hv1:w.alloc _=v1;generalize hg1:w.heap.size=g1;replace hv1:=hv1.symm;replace hg1:=hg1.symm;obtain⟨B1,X1⟩:=nw hv1 hg1;clear hv1 hg1;obtain⟨y0,y1,y2,y3,y4,y5⟩:=X1.a6
 go_wp2_with fail
 generalize hv2:v1.alloc _=v2;generalize hg2:v1.heap.size=g2;replace hv2:=hv2.symm;replace hg2:=hg2.symm;have B2:=GN B1 hv2;have X2:=xNew hv2 hg2;have GE:Hid (x<g2):=jj (by rw[hg2];exact aB HX B1.size);clear hv2 hg2 y0 y1 y2 y3 y4 y5;refine(SEND.out v2 g2 (H.below B2) (aB HX B2.size) ⟨⟨⟨mo.nR (n:=1) (s:=6) X2 rfl,rfl,aF _,show 1<=maxLen by unfold maxLen;omega⟩,fun k hk=> ?_⟩,Ez.nil _ _,Gz.nil _ _⟩).mono ?_
 ·simp only[Option.map_some,aD] at hk
  subst hk;exact⟨by have:=GE.out;omega,_,X2⟩
 rintro e w9 ⟨rfl,A,c,L,hst,hval⟩
 go_wp2_with fail
 go_end0
 exact⟨by trivial,A,c,L,(H.step B2).trans hst,hval⟩
def Kt(x:Nat)(w w':World)(E:Who)(gx b:Nat)(d:lU)(K K':KS)(v':ql):Prop:= ∃d':lU,mP x w w' E.f E.n E.id gx b d K d' K'/\Fix d d'/\d'.val=v'
theorem sQ{i:Ba}{p:uo}(h:d.val.pl k j=some (i,p)): ∃g I P,d.is[k]?=some (g,I)/\I.ps[j]?=some P/\I.val=i/\P.val=p:=by
 unfold ql.pl at h;simp only[lU.val,aS,aA,aK] at h;obtain⟨i',⟨⟨g,I⟩,h1,rfl⟩,p',h2,h3⟩:=h;simp only[tJ.val,aS,aK] at h2;obtain⟨P,h2,rfl⟩:=h2;injection h3 with h3 h4;exact⟨g,I,P,h1,h2,h3,h4⟩
theorem DT(hk:d.is[k]?=some (g,I))(hj:I.ps[j]?=some P):(d.insts k g {I with ps:=I.ps.set j P'}).val=d.val.put k j P'.val:=by
 have hkl:k<d.is.length:=(ah.1 hk).1;unfold ql.put;simp only[lU.val,ql.mk.injEq,lJ,iY];refine dD fun q=> ?_;rw[aS,eY,aS];by_cases hq:k=q
 ·subst hq
  rw[aL hkl,hk];simp[tJ.val,eT]
 rw[aX hq];simp[hq]
theorem zZ(hk:d.is[k]?=some p):k<d.is.length:=(ah.1 hk).1
theorem WM{l:List rC}(h:(l.map rC.val)[j]?=some none): ∃v,l[j]?=some v/\v.has=false:=by
 rw[aS,aK] at h;obtain⟨v,hv,he⟩:=h;refine⟨v,hv,?_⟩;unfold rC.val at he;cases hh:v.has
 ·rfl
 rw[hh] at he;simp at he
theorem aeX(P:qm)(j:Nat)(sg:Int)(a:OA)(m c:Nat)(bs:List Rq):({P with sl:={P.sl with pr:=P.sl.pr.set j ⟨true,sg,a,m,c,bs⟩}}:qm).val={P.val with pr:=P.val.pr.set j (some (sg,bs))}:=by
 simp only[qm.val,eT];rfl
theorem aeY(P:qm)(j:Nat)(sg:Int)(a:OA)(m c:Nat)(bs:List Rq):({P with sl:={P.sl with co:=P.sl.co.set j ⟨true,sg,a,m,c,bs⟩}}:qm).val={P.val with co:=P.val.co.set j (some (sg,bs))}:=by
 simp only[qm.val,eT];rfl
theorem Fe(hj:I.ps[j]?=some P){q:Nat}(hq:q∈P.foot):q∈I.foot g:=Qo (ak hj) hq
theorem yx(hj:I.ps[j]?=some P)(he:P'.foot=P.foot): ∀q∈({I with ps:=I.ps.set j P'}:tJ).foot g,q∈I.foot g:=by
 intro q hq;simp only[tJ.foot,ay,bg] at hq|-;rcases hq with rfl|rfl|⟨R,hR,hq⟩
 ·exact .inl rfl
 ·exact .inr (.inl rfl)
 rcases cB hR with hR|rfl
 ·exact .inr (.inr ⟨R,hR,hq⟩)
 exact .inr (.inr ⟨P,ak hj,he▸hq⟩)
section
variable{x:Nat}{w w':World}{f:Int}{n id gx b:Nat}{d:lU}{K:KS}
theorem VY (h:qE x w f n id gx b d K) (hx:x<w.heap.size) (hn:n<=13) (kind:Int) (k j src:Nat) (i:Ba) (p:uo) (hp:d.val.pl k j=some (i,p)) (hon:i.on=true) (sg:Int) (A:OA) (m c:Nat) (bs:List Rq) (hr:sK x w A m c bs) (hm:m<=4096) (p':uo)
  (hk:(kind=4/\p.pr[src]?=some none/\p'={p with pr:=p.pr.set src (some (sg,bs))})\/(kind=5/\p.co[src]?=some none/\p'={p with co:=p.co.set src (some (sg,bs))})) (z:Int) (hz:z=(j:Int)+1) (gi:Nat) (hgi: ∃I,d.is[k]?=some (gi,I)):
  Y 217 #[gi,U kind,U z,U src,U sg,.slice A m c] w fun e w'=>e= .returned true/\ ∃d',mP x w w' f n id gx b d K d' K/\Fix d d'/\d'.val=d.val.put k j p':=by
 obtain⟨g,I,P,h1,h2,rfl,rfl⟩:=sQ hp;obtain⟨I',hgi⟩:=hgi;rw[h1] at hgi;injection hgi with hgi;injection hgi with hgi _;subst hgi;have hI:lY x w f n k 4 g I:=h.inst h1;have ark: ∀(pr co:List rC),({P with sl:={P.sl with pr:=pr,co:=co}}:qm).foot=P.foot:=fun _ _=>rfl;rcases hk with⟨rfl,hv,rfl⟩|⟨rfl,hv,rfl⟩
 ·obtain⟨v,hv1,hv2⟩:=WM hv
  refine(ahg hI hon j P h2 src v hv1 hv2 hn z hz sg A m c bs hr hm hx).mono ?_;rintro e w' ⟨a',c',rfl,hI',ho⟩;refine⟨rfl,d.insts k g _,(Step.refl h).inst h1 hI' ho (fun q hq=>Fe h2 (by simp only[au] at hq;subst hq;simp[qm.foot,CQ.foot])) (fun q hq=> .inl (yx (P':={P with sl:={P.sl with pr:=P.sl.pr.set src ⟨true,sg,a',m,c',bs⟩}}) h2 rfl q hq)),Fix.Ai h1,?_⟩;rw[DT h1 h2,aeX]
 obtain⟨v,hv1,hv2⟩:=WM hv;refine(ahh hI hon j P h2 src v hv1 hv2 hn z hz sg A m c bs hr hm hx).mono ?_;rintro e w' ⟨a',c',rfl,hI',ho⟩;refine⟨rfl,d.insts k g _,(Step.refl h).inst h1 hI' ho (fun q hq=>Fe h2 (by simp only[au] at hq;subst hq;simp[qm.foot,CQ.foot])) (fun q hq=> .inl (yx (P':={P with sl:={P.sl with co:=P.sl.co.set src ⟨true,sg,a',m,c',bs⟩}}) h2 rfl q hq)),Fix.Ai h1,?_⟩;rw[DT h1 h2,aeY]
end
theorem adx{id gx b:Nat}{d':lU}{K:KS}(h:qE x w f n id gx b d' K)(hf:Fix d d')(hk:d.is[k]?=some p):J w d'.gr k p.1:=by
 have:=hf.ptr (k:=k) (gi:=p.1) (by rw[hk];rfl);rw[aK] at this;obtain⟨q,hq,he⟩:=this;rw[<-he];exact h.ptr hq
theorem sK.step{L:List ni}{a:OA}{c:Nat}{bs:List Rq}(hM:sK x w a n c bs)(h:Sys x w L)(st:Step x w w' L L'):sK x w' a n c bs:=hM.only st.only h.soft
theorem MC(x:Nat)(w:World)(E:Who)(gx b:Nat)(d:lU)(K:KS)(h:qE x w E.f E.n E.id gx b d K)(hx:x<w.heap.size)(h1:1<=E.f)(h4:E.f<=4)(hn:(E.n:Int)=3*E.f+1)(kind:Int)(k j:Nat)(hk5:k<=16)(xM:j<16)(z:Int)(hz:z=(j:Int)+1)(A:OA)(m c:Nat)(bs:List Rq)(hr:sK x w A m c bs)(K':KS)(v':ql)(hv:vL E kind k j bs (K,d.val)=some (K',v')):
  Y 231 #[gx,U kind,U k,U z,.slice A m c] w fun e w'=>e= .returned (.tuple #[])/\Kt x w w' E gx b d K K' v':=by
 unfold vL at hv;simp only[aA] at hv;obtain⟨⟨⟨K1,v1⟩,sg⟩,hs,⟨i,p⟩,hp,hv⟩:=hv;have hm:m=bs.length:=hr.row.len.symm;have hq: ∃p',i.on=true/\bs.length<=4096/\((kind=4/\p.pr[E.id]?=some none/\p'={p with pr:=p.pr.set E.id (some (sg,bs))})\/(kind=5/\p.co[E.id]?=some none/\p'={p with co:=p.co.set E.id (some (sg,bs))}))/\K'=K1/\v'=v1.put k j p':=by
  split at hv
  ·rename_i hk
   simp only[aK,aM] at hv;obtain⟨u,hu,hv1,hv2⟩:=hv;obtain⟨a1,a2,a3⟩:=mI hu;exact⟨_,a1,a3,.inl ⟨hk,a2,rfl⟩,hv1.symm,hv2.symm⟩
  simp only[aK,aM] at hv;obtain⟨u,hu,hv1,hv2⟩:=hv;obtain⟨a0,a1,a2,a3⟩:=mI hu;exact⟨_,a1,a3,.inr ⟨a0,a2,rfl⟩,hv1.symm,hv2.symm⟩
 obtain⟨p',hon,hb4,hk,rfl,rfl⟩:=hq;have hs2:yI E (nA ⟨kind,0,d.view,k,z,0,A,m,c,bs,none,0,0,[],none,0,0,[],none,0⟩) (K,d.val)=some ((K',v1),sg):=by
  subst hz;exact hs
 clear hs;have SEND:Hid (∀u,qE x u E.f E.n E.id gx b d K->x<u.heap.size->sK x u A m c bs->Y 170 #[gx,.agg #[U kind,U 0,U d.view,U k,U z,U 0,.slice A m c,(),(),()]] u fun e w'=>e= .returned (.tuple #[U sg,true])/\ ∃A' c' L,mP x u w' E.f E.n E.id gx b d K (d.outs A' c' L) K'/\(d.outs A' c' L).val=v1):=jj fun u hu hxu hm=>GV x u E gx b d K hu hxu h1 h4 hn ⟨kind,0,d.view,k,z,0,A,m,c,bs,none,0,0,[],none,0,0,[],none,0⟩ ⟨hm,Ez.nil _ _,Gz.nil _ _⟩ K' v1 sg hs2;obtain⟨HP,HK,HZ⟩:=j3 hp hk hz;clear hz xM;obtain⟨H,HX,HR,HB,HM⟩:=j5 h hx hr hb4 hm;have NM:Hid (E.n<=13):=jj lK;have cv:=h.blk.at_ 29;clear h hx hr hp hk hs2 hv hb4 hm hn;go_enter func231,ntmps231
 go_wp2_with fail
 refine(SEND.out w H HX HR).mono ?_;rintro e w1 ⟨rfl,A',c',L,hst,hval⟩;obtain⟨ST,H1,VAL⟩:=j3 hst hst.sys hval;obtain⟨d1,hd1⟩:=ex (d.outs A' c' L);rw[<-hd1] at ST H1 VAL;have NN:Hid (Fix d d1):=jj (by rw[hd1];exact Fix.Bo d _ _ _);clear hst hval cv hd1;obtain⟨gi,I,P,hi1,hi2,-,-⟩:=sQ (d:=d1) (by rw[VAL.out];exact HP.out);have HI:=jj hi1;have i0:(0:Int)<=k:=lK;have i1:(k:Int)<d1.is.length:=by have:=zZ hi1;omega
 clear hi1 hi2
 go_upto_region 1 with fail
 refine rD (fun u=>J u gx 18 (O d1.gr d1.is.length d1.rX)/\J u d1.gr k gi/\J u gx 15 (U E.id)) 16 (tk 0 15 (.one 15 .done)) ⟨H1.blk.drew.cell 18,H1.ptr HI,H1.blk.drew.cell 15⟩ fun v2 B2 hS0=> ?_
 repeat refine' tT ?_
 refine pO fun KT lS=> ?_;go_simp;have H2:=jj (H1.below B2);have R2:=jj ((HR.step H ST).below B2);refine(VY H2 (aB HX (aG ST.size B2.size)) NM kind k j E.id i p (by rw[VAL.out];exact HP.out) hon sg A m c bs R2 (VZ HM.out HB.out) p' HK z HZ gi ⟨I,HI⟩).mono ?_;rintro e w3 ⟨rfl,d3,st3,nn3,apj⟩;have S3:J w3 gx 18 (O d1.gr d1.is.length d1.rX)/\J w3 d1.gr k gi/\J w3 gx 15 (U E.id):=by
  refine⟨(st3.sys.blk.cell 18).trans (nn3.cell _ _ 18 lN),?_,st3.sys.blk.cell 15⟩;rw[<-nn3.gr];exact adx st3.sys nn3 HI
 refine oH lS S3 ?_;clear hS0;have hS0:=S3
 repeat refine' tT ?_
 refine lM ?_
 go_wp2_with fail
 go_end0
 exact⟨by trivial,d3,(ST.below B2).trans st3,NN.trans nn3,by rw[apj,VAL.out]⟩
section
variable{x:Nat}{w w':World}{f:Int}{n:Nat}{num ahead:Int}{gi:Nat}{i:tJ}
theorem lY.Aj(h:lY x w f n num ahead gi i){cs:AV}(ho:Only [g] w w')(hb:lQ w g 228 cs):lY x w' f n num ahead gi i:=
 h.only ho (mR (nV.of hb lN)) fun k hk hm=>by
  simp only[au] at hm;subst hm;simp only[tJ.foot,ay,bg] at hk;rcases hk with rfl|rfl|⟨p,hp,hk⟩
  ·exact h.blk.nY hb lN rfl
  ·exact h.row.nY hb lN rfl
  have s:=(h.at_ p hp).slot;simp only[qm.foot,CQ.foot,ay,aI,bK] at hk;rcases hk with rfl|rfl|rfl
  ·exact s.blk.nY hb lN rfl
  ·exact s.bp.nY hb lN rfl
  exact s.bc.nY hb lN rfl
theorem CF.Aj{c:CD}(h:CF x w c){cs:AV}(ho:Only [g] w w')(hb:lQ w g 228 cs):CF x w' c:=h.only ho (mR (nV.of hb lN))
theorem QI(h:lY x w f n num ahead gi i)(k:Nat)(p:qm)(hp:i.ps[k]?=some p)(hon:i.on=true)(ht:p.told=false)(hs:p.sl.has=true)(h1:1<=f)(h4:f<=4)(xP:n<=13)(q:Nat)(hq:(q:Int)=2*f+1)(vs:List Vo)(hr:qx q (p.sl.pr.map rC.val) p.sl.bs=some vs)(aaP:vs.length<=4096)(z:Int)(hz:z=(k:Int)+1)(hi:qX i.vw/\qX num)(hx:x<w.heap.size):
  Y 259 #[gi,U z] w fun e w'=> ∃d cd:CD,e= .returned (.tuple #[.agg (nS d).toArray,true])/\pz d=⟨i.vw,num,z,p.sl.bs,vs⟩/\d.bn<=4096/\CF x w' d/\lY x w' f n num ahead gi {i with ps:=i.ps.set k {p with told:=true,has:=true,cert:=cd}}/\pz cd=⟨i.vw,num,z,p.sl.bs,vs⟩/\Only [i.gl] w w':=by
 have hk:k<16:=by have:=(ah.1 hp).1;rw[h.len] at this;exact this
 obtain⟨H,HP,HX,HZ,HT,PI⟩:=j6 h hp hx hz ht hon;obtain⟨HS,HR,HQ,HI,HV9⟩:=j5 hs hr hq hi aaP;clear h hp hx hz ht hon hs hr hq hi aaP;go_enter func259,ntmps259
 go_upto_region 1 with fail
 generalize hv1:w.alloc _=v1;generalize hg4:w.heap.size=g4;replace hv1:=hv1.symm;replace hg4:=hg4.symm;have X1:=xNew hv1 hg4;have B1:=tQ hv1;have GE:Hid (w.heap.size<=g4):=jj lK;have H1:=jj (H.below B1);clear hv1 hg4
 go_wp2_with fail
 refine(wC H1 k hk z HZ).mono ?_;rintro e w' ⟨rfl,rfl⟩;have c0:J v1 i.gl (k*14) p.g:=H1.cell HP 0 lK _ rfl;have c1:J v1 i.gl (k*14+1) false:=by rw[<-HT.out];exact H1.cell HP 1 lK _ rfl
 have c4:J v1 gi 4 true:=(H1.blk.cell 4).trans (by rw[<-PI.out];rfl);have PL:=jj (H1.at_ p (ak HP))
 go_wp2_with fail
 refine(Ga PL.slot HS h1 h4 xP PL.short.b PL.short.ps q HQ (some vs) HR).mono ?_;rintro e w2 ⟨(⟨vs',a2,k2,c2,hvs,hk2,rfl,ho⟩|⟨hno,rfl⟩),hb⟩
 rotate_left
 ·cases hno
 obtain rfl:vs=vs':=dh hvs;have HK2:=jj hk2;have F2:=jj (Ez.own (x:=x) ho (aB HX B1.size) hk2);have X2:=jj (X1.below hb X1.lt);have B2:=nO B1 hb;have H2:=jj (H1.below hb);clear hb ho hvs hk2 c0 c1 c4 PL;have c0:J w2 i.gl (k*14) p.g:=H2.cell HP 0 lK _ rfl;have PL:=jj (H2.at_ p (ak HP))
 go_wp2_with fail
 refine(Bz PL.slot HS PL.short.b (aB HX B2.size)).mono ?_;rintro e w3 ⟨a3,c3,rfl,hr3,-,hb⟩;have R3:=jj hr3;have X3:=jj (X2.below hb X2.lt);have B3:=nO B2 hb;have H3:=jj (H2.below hb);have F3:=jj (F2.below hb);clear hb hr3 c0 PL
 go_wp2_with fail
 refine(VI H3 z a3 p.sl.bn c3 a2 k2 c2).mono ?_;rintro e w4 ⟨rfl,hb⟩;have X4:=jj (X3.below hb X3.lt);have B4:=nO B3 hb;have H4:=jj (H3.below hb);have F4:=jj (F3.below hb);have R4:=jj (R3.below hb);clear hb;have q0:J w4 i.gl (k*14+1) p.told:=H4.cell HP 1 lK _ rfl;have r0:w4.frozen? ⟨i.gl,k*14+1,none⟩=false:=H4.row.frozen _;have q1:J w4 i.gl (k*14+2) p.has:=H4.cell HP 2 lK _ rfl;have r1:w4.frozen? ⟨i.gl,k*14+2,none⟩=false:=H4.row.frozen _;have q2:J w4 i.gl (k*14+3) (U p.cert.view):=H4.cell HP 3 lK _ rfl;have r2:w4.frozen? ⟨i.gl,k*14+3,none⟩=false:=H4.row.frozen _;have q3:J w4 i.gl (k*14+3+1) (U p.cert.inst):=H4.cell HP 4 lK _ rfl;have r3:w4.frozen? ⟨i.gl,k*14+3+1,none⟩=false:=H4.row.frozen _;have q4:J w4 i.gl (k*14+3+1+1) (U p.cert.seq):=H4.cell HP 5 lK _ rfl;have r4:w4.frozen? ⟨i.gl,k*14+3+1+1,none⟩=false:=H4.row.frozen _;have q5:J w4 i.gl (k*14+3+1+1+1) (.slice p.cert.ba p.cert.bn p.cert.bc):=H4.cell HP 6 lK _ rfl;have r5:w4.frozen? ⟨i.gl,k*14+3+1+1+1,none⟩=false:=H4.row.frozen _;have q6:J w4 i.gl (k*14+3+1+1+1+1) (.slice p.cert.va p.cert.vn p.cert.vc):=H4.cell HP 7 lK _ rfl;have r6:w4.frozen? ⟨i.gl,k*14+3+1+1+1+1,none⟩=false:=H4.row.frozen _
 go_upto_region 9 with fail
 obtain⟨w5,zM⟩:=ex ((((((((w4.setCell ⟨i.gl,k*14+1,none⟩ true).setCell ⟨i.gl,k*14+2,none⟩ true).setCell ⟨i.gl,k*14+3,none⟩ (U i.vw)).setCell ⟨i.gl,k*14+3+1,none⟩ (U num)).setCell ⟨i.gl,k*14+3+1+1,none⟩ (U z)).setCell ⟨i.gl,k*14+3+1+1+1,none⟩ (.slice a3 p.sl.bn c3)).setCell ⟨i.gl,k*14+3+1+1+1+1,none⟩ (.slice a2 k2 c2)));rw[<-zM];have RW:Hid (lQ w5 i.gl 230 ((i.ps.set k {p with told:=true,has:=true,cert:=⟨i.vw,num,z,a3,p.sl.bn,c3,p.sl.bs,a2,k2,c2,vs⟩}).flatMap mH++i.rest).toArray):=jj (by
  obtain⟨A,C,hA,hr,hrec⟩:=H4.open_row HP;rw[<-hrec,zM];have t0:=rR hr hA (j:=1) (q:=k*14+1) (by simp[mH]) rfl true;have t1:=rR t0 hA (j:=2) (q:=k*14+2) (by simp[mH]) rfl true;have t2:=rR t1 hA (j:=3) (q:=k*14+3) (by simp[mH]) rfl (U i.vw);have t3:=rR t2 hA (j:=4) (q:=k*14+3+1) (by simp[mH]) rfl (U num);have t4:=rR t3 hA (j:=5) (q:=k*14+3+1+1) (by simp[mH]) rfl (U z);have t5:=rR t4 hA (j:=6) (q:=k*14+3+1+1+1) (by simp[mH]) rfl (.slice a3 p.sl.bn c3);have t6:=rR t5 hA (j:=7) (q:=k*14+3+1+1+1+1) (by simp[mH]) rfl (.slice a2 k2 c2);exact t6)
 have OW:Hid (Only [i.gl] w4 w5):=jj (by rw[zM];exact((((((((Only.refl [i.gl] _).setCell (p:=⟨i.gl,k*14+1,none⟩) (.inl lT) _).setCell (p:=⟨i.gl,k*14+2,none⟩) (.inl lT) _).setCell (p:=⟨i.gl,k*14+3,none⟩) (.inl lT) _).setCell (p:=⟨i.gl,k*14+3+1,none⟩) (.inl lT) _).setCell (p:=⟨i.gl,k*14+3+1+1,none⟩) (.inl lT) _).setCell (p:=⟨i.gl,k*14+3+1+1+1,none⟩) (.inl lT) _).setCell (p:=⟨i.gl,k*14+3+1+1+1+1,none⟩) (.inl lT) _));clear zM q0 r0 q1 r1 q2 r2 q3 r3 q4 r4 q5 r5 q6 r6;have PL:=jj (H4.at_ p (ak HP));have hsf: ∀b∈ [i.gl],nV x w4 b:=by simpa using nV.of H4.row lN
 have R5:=jj (R4.only OW hsf);have F5:=jj (F4.only OW hsf);have Ht:Hid (CF x w5 ⟨i.vw,num,z,a3,p.sl.bn,c3,p.sl.bs,a2,k2,c2,vs⟩):=jj ⟨⟨R5.row,F5.row,HI.1,HI.2,(show qX z from⟨by have:=HZ.out;omega,by have:=HZ.out;omega⟩)⟩,R5.fix,F5.fix⟩;have H5:Hid (lY x w5 f n num ahead gi {i with ps:=i.ps.set k {p with told:=true,has:=true,cert:=⟨i.vw,num,z,a3,p.sl.bn,c3,p.sl.bs,a2,k2,c2,vs⟩}}):=jj (H4.put (p':={p with told:=true,has:=true,cert:=⟨i.vw,num,z,a3,p.sl.bn,c3,p.sl.bs,a2,k2,c2,vs⟩}) HP rfl OW (fun b hb=> .inl (mR hb)) RW
  ⟨PL.slot.only OW hsf (fun b hb hm=>by simp only[au] at hm;subst hm;exact(H4.far (ak HP)).2 hb),Ht,PL.dw.only OW hsf,⟨PL.short.b,PL.short.ps,PL.short.cs,⟨PL.short.b,by show k2<=4096;have:=HK2.out;have:=HV9.out;omega⟩,PL.short.d⟩⟩)
 have X5:=jj (X4.only OW (by simpa using(H4.row.nY X4 lN).symm));have ON5:Hid (Only [i.gl] w w5):=jj ((Only.of_below B4).trans OW);have hps:(i.ps.set k {p with told:=true,has:=true,cert:=⟨i.vw,num,z,a3,p.sl.bn,c3,p.sl.bs,a2,k2,c2,vs⟩})[k]?=some {p with told:=true,has:=true,cert:=⟨i.vw,num,z,a3,p.sl.bn,c3,p.sl.bs,a2,k2,c2,vs⟩}:=aL (ah.1 HP).1;have c3_:J w5 i.gl (k*14+3) (U i.vw):=H5.cell hps 3 lK _ rfl;have c4_:J w5 i.gl (k*14+3+1) (U num):=H5.cell hps 4 lK _ rfl;have c5_:J w5 i.gl (k*14+3+2) (U z):=H5.cell hps 5 lK _ rfl;have c6_:J w5 i.gl (k*14+3+3) (.slice a3 p.sl.bn c3):=H5.cell hps 6 lK _ rfl;have c7_:J w5 i.gl (k*14+3+4) (.slice a2 k2 c2):=H5.cell hps 7 lK _ rfl;clear hps hsf
 go_wp2_with fail
 refine(IU _ ⟨i.vw,num,z,a3,p.sl.bn,c3,p.sl.bs,a2,k2,c2,vs⟩ Ht.is PL.short.b (by show k2<=4096;have:=HK2.out;have:=HV9.out;omega) x (aB HX ON5.size)).mono ?_;rintro e w6 ⟨a6,k6,a7,k7,rfl,hc6,hb⟩;have C6:=jj hc6;have Y0:=jj (X5.below hb X5.lt);have H6:=jj (H5.below hb);have ON6:=jj (ON5.belows hb);clear hb hc6 c3_ c4_ c5_ c6_ c7_;rw[show(nS (CD.moved ⟨i.vw,num,z,a3,p.sl.bn,c3,p.sl.bs,a2,k2,c2,vs⟩ a6 k6 a7 k7)).toArray=#[U i.vw,U num,U z,.slice a6 p.sl.bn k6,.slice a7 k2 k7] from rfl];have y0:=Y0.at_ 0;have z0:=Y0.frozen 0;have y1:=Y0.at_ 1;have z1:=Y0.frozen 1;have y2:=Y0.at_ 2;have z2:=Y0.frozen 2;have y3:=Y0.at_ 3;have z3:=Y0.frozen 3;have y4:=Y0.at_ 4;have z4:=Y0.frozen 4
 go_wp2_with fail
 obtain⟨w9,mE⟩:=ex (setW w6 g4 0 [U i.vw,U num,U z,.slice a6 p.sl.bn k6,.slice a7 k2 k7]);have K9:=uL mE Y0;have o9:=vM mE;simp only[setW,aO,Nat.reduceAdd] at mE;rw[<-mE];clear mE y0 y1 y2 y3 y4 z0 z1 z2 z3 z4;refine dF (v:= .tuple #[.agg #[U i.vw,U num,U z,.slice a6 p.sl.bn k6,.slice a7 k2 k7],true]) ?_ rfl ⟨CD.moved ⟨i.vw,num,z,a3,p.sl.bn,c3,p.sl.bs,a2,k2,c2,vs⟩ a6 k6 a7 k7,⟨i.vw,num,z,a3,p.sl.bn,c3,p.sl.bs,a2,k2,c2,vs⟩,rfl,rfl,by show p.sl.bn<=4096;exact PL.short.b,C6.Aj o9 Y0,H6.Aj o9 Y0,rfl,ON6.then o9 (fun b hb=> .inr (by simp only[au] at hb;rw[hb];exact GE.out))⟩;exact(mV Tryz.results259 _ w9 g4 _ _ _ _ (by rfl) K9 underlying228 rfl (by kernel_rfl)).trans rfl
theorem Ua(h:lY x w f n num ahead gi i)(k:Nat)(p:qm)(hp:i.ps[k]?=some p)(ht:p.done=false)(h1:1<=f)(h4:f<=4)(xP:n<=13)(q:Nat)(hq:(q:Int)=2*f+1)(b:List Rq)(vs:List Vo)(hr:mQ q (p.sl.co.map rC.val) (p.sl.co.map rC.val)=some (b,vs))(aaP:vs.length<=4096)(z:Int)(hz:z=(k:Int)+1)(hi:qX i.vw/\qX num)(hx:x<w.heap.size):
  Y 260 #[gi,U z] w fun e w'=> ∃d cd:CD,e= .returned (.tuple #[.agg (nS d).toArray,true])/\pz d=⟨i.vw,num,z,b,vs⟩/\d.bn<=4096/\CF x w' d/\lY x w' f n num ahead gi {i with ps:=i.ps.set k {p with done:=true,dw:=cd}}/\pz cd=⟨i.vw,num,z,b,vs⟩/\Only [i.gl] w w':=by
 have hk:k<16:=by have:=(ah.1 hp).1;rw[h.len] at this;exact this
 obtain⟨H,HP,HX,HZ,HT,HR⟩:=j6 h hp hx hz ht hr;obtain⟨HQ,HI,HV9⟩:=j3 hq hi aaP;clear h hp hx hz ht hr hq hi aaP;go_enter func260,ntmps260
 go_upto_region 1 with fail
 generalize hv1:w.alloc _=v1;generalize hg4:w.heap.size=g4;replace hv1:=hv1.symm;replace hg4:=hg4.symm;have X1:=xNew hv1 hg4;have B1:=tQ hv1;have GE:Hid (w.heap.size<=g4):=jj lK;have H1:=jj (H.below B1);clear hv1 hg4
 go_wp2_with fail
 refine(wC H1 k hk z HZ).mono ?_;rintro e w' ⟨rfl,rfl⟩;have c0:J v1 i.gl (k*14) p.g:=H1.cell HP 0 lK _ rfl;have c1:J v1 i.gl (k*14+8) false:=by rw[<-HT.out];exact H1.cell HP 8 lK _ rfl
 have PL:=jj (H1.at_ p (ak HP))
 go_wp2_with fail
 refine(Eb PL.slot h1 h4 xP PL.short.cs (aB HX B1.size) q HQ (some (b,vs)) HR).mono ?_;rintro e w3 ⟨(⟨b',vs',a3,m3,c3,a2,k2,c2,hvs,hm3,hm4,hk2,rfl,hr3,hf3⟩|⟨hno,rfl⟩),hb⟩
 rotate_left
 ·cases hno
 obtain⟨rfl,rfl⟩:b=b'/\vs=vs':=by injection hvs with hvs;injection hvs with h1 h2;exact⟨h1,h2⟩
 obtain⟨HK2,HM4,R3,F3⟩:=j4 hk2 hm4 hr3 hf3;have X3:=jj (X1.below hb X1.lt);have B3:=nO B1 hb;have H3:=jj (H1.below hb);clear hb hr3 hf3 hvs hk2 hm3 hm4 c0 c1 PL
 go_wp2_with fail
 refine(VI H3 z a3 m3 c3 a2 k2 c2).mono ?_;rintro e w4 ⟨rfl,hb⟩;have X4:=jj (X3.below hb X3.lt);have B4:=nO B3 hb;have H4:=jj (H3.below hb);have F4:=jj (F3.below hb);have R4:=jj (R3.below hb);clear hb;have q0:J w4 i.gl (k*14+8) p.done:=H4.cell HP 8 lK _ rfl;have r0:w4.frozen? ⟨i.gl,k*14+8,none⟩=false:=H4.row.frozen _;have q1:J w4 i.gl (k*14+9) (U p.dw.view):=H4.cell HP 9 lK _ rfl;have r1:w4.frozen? ⟨i.gl,k*14+9,none⟩=false:=H4.row.frozen _;have q2:J w4 i.gl (k*14+9+1) (U p.dw.inst):=H4.cell HP 10 lK _ rfl;have r2:w4.frozen? ⟨i.gl,k*14+9+1,none⟩=false:=H4.row.frozen _;have q3:J w4 i.gl (k*14+9+1+1) (U p.dw.seq):=H4.cell HP 11 lK _ rfl;have r3:w4.frozen? ⟨i.gl,k*14+9+1+1,none⟩=false:=H4.row.frozen _;have q4:J w4 i.gl (k*14+9+1+1+1) (.slice p.dw.ba p.dw.bn p.dw.bc):=H4.cell HP 12 lK _ rfl;have r4:w4.frozen? ⟨i.gl,k*14+9+1+1+1,none⟩=false:=H4.row.frozen _;have q5:J w4 i.gl (k*14+9+1+1+1+1) (.slice p.dw.va p.dw.vn p.dw.vc):=H4.cell HP 13 lK _ rfl;have r5:w4.frozen? ⟨i.gl,k*14+9+1+1+1+1,none⟩=false:=H4.row.frozen _
 go_upto_region 8 with fail
 obtain⟨w5,zM⟩:=ex (((((((w4.setCell ⟨i.gl,k*14+8,none⟩ true).setCell ⟨i.gl,k*14+9,none⟩ (U i.vw)).setCell ⟨i.gl,k*14+9+1,none⟩ (U num)).setCell ⟨i.gl,k*14+9+1+1,none⟩ (U z)).setCell ⟨i.gl,k*14+9+1+1+1,none⟩ (.slice a3 m3 c3)).setCell ⟨i.gl,k*14+9+1+1+1+1,none⟩ (.slice a2 k2 c2)));rw[<-zM];have RW:Hid (lQ w5 i.gl 230 ((i.ps.set k {p with done:=true,dw:=⟨i.vw,num,z,a3,m3,c3,b,a2,k2,c2,vs⟩}).flatMap mH++i.rest).toArray):=jj (by
  obtain⟨A,C,hA,hr,hrec⟩:=H4.open_row HP;rw[<-hrec,zM];have t0:=rR hr hA (j:=8) (q:=k*14+8) (by simp[mH]) rfl true;have t1:=rR t0 hA (j:=9) (q:=k*14+9) (by simp[mH]) rfl (U i.vw);have t2:=rR t1 hA (j:=10) (q:=k*14+9+1) (by simp[mH]) rfl (U num);have t3:=rR t2 hA (j:=11) (q:=k*14+9+1+1) (by simp[mH]) rfl (U z);have t4:=rR t3 hA (j:=12) (q:=k*14+9+1+1+1) (by simp[mH]) rfl (.slice a3 m3 c3);have t5:=rR t4 hA (j:=13) (q:=k*14+9+1+1+1+1) (by simp[mH]) rfl (.slice a2 k2 c2);exact t5)
 have OW:Hid (Only [i.gl] w4 w5):=jj (by rw[zM];exact(((((((Only.refl [i.gl] _).setCell (p:=⟨i.gl,k*14+8,none⟩) (.inl lT) _).setCell (p:=⟨i.gl,k*14+9,none⟩) (.inl lT) _).setCell (p:=⟨i.gl,k*14+9+1,none⟩) (.inl lT) _).setCell (p:=⟨i.gl,k*14+9+1+1,none⟩) (.inl lT) _).setCell (p:=⟨i.gl,k*14+9+1+1+1,none⟩) (.inl lT) _).setCell (p:=⟨i.gl,k*14+9+1+1+1+1,none⟩) (.inl lT) _));clear zM q0 r0 q1 r1 q2 r2 q3 r3 q4 r4 q5 r5;have PL:=jj (H4.at_ p (ak HP));have hsf: ∀b∈ [i.gl],nV x w4 b:=by simpa using nV.of H4.row lN
 have R5:=jj (R4.only OW hsf);have F5:=jj (F4.only OW hsf);have Ht:Hid (CF x w5 ⟨i.vw,num,z,a3,m3,c3,b,a2,k2,c2,vs⟩):=jj ⟨⟨R5.row,F5.row,HI.1,HI.2,(show qX z from⟨by have:=HZ.out;omega,by have:=HZ.out;omega⟩)⟩,R5.fix,F5.fix⟩;have H5:Hid (lY x w5 f n num ahead gi {i with ps:=i.ps.set k {p with done:=true,dw:=⟨i.vw,num,z,a3,m3,c3,b,a2,k2,c2,vs⟩}}):=jj (H4.put (p':={p with done:=true,dw:=⟨i.vw,num,z,a3,m3,c3,b,a2,k2,c2,vs⟩}) HP rfl OW (fun b hb=> .inl (mR hb)) RW
  ⟨PL.slot.only OW hsf (fun b hb hm=>by simp only[au] at hm;subst hm;exact(H4.far (ak HP)).2 hb),PL.cert.only OW hsf,Ht,⟨PL.short.b,PL.short.ps,PL.short.cs,PL.short.c,⟨HM4,by show k2<=4096;have:=HK2.out;have:=HV9.out;omega⟩⟩⟩)
 have X5:=jj (X4.only OW (by simpa using(H4.row.nY X4 lN).symm));have ON5:Hid (Only [i.gl] w w5):=jj ((Only.of_below B4).trans OW);have hps:(i.ps.set k {p with done:=true,dw:=⟨i.vw,num,z,a3,m3,c3,b,a2,k2,c2,vs⟩})[k]?=some {p with done:=true,dw:=⟨i.vw,num,z,a3,m3,c3,b,a2,k2,c2,vs⟩}:=aL (ah.1 HP).1;have c3_:J w5 i.gl (k*14+9) (U i.vw):=H5.cell hps 9 lK _ rfl;have c4_:J w5 i.gl (k*14+9+1) (U num):=H5.cell hps 10 lK _ rfl;have c5_:J w5 i.gl (k*14+9+2) (U z):=H5.cell hps 11 lK _ rfl;have c6_:J w5 i.gl (k*14+9+3) (.slice a3 m3 c3):=H5.cell hps 12 lK _ rfl;have c7_:J w5 i.gl (k*14+9+4) (.slice a2 k2 c2):=H5.cell hps 13 lK _ rfl;clear hps hsf
 go_wp2_with fail
 refine(IU _ ⟨i.vw,num,z,a3,m3,c3,b,a2,k2,c2,vs⟩ Ht.is HM4 (by show k2<=4096;have:=HK2.out;have:=HV9.out;omega) x (aB HX ON5.size)).mono ?_;rintro e w6 ⟨a6,k6,a7,k7,rfl,hc6,hb⟩;have C6:=jj hc6;have Y0:=jj (X5.below hb X5.lt);have H6:=jj (H5.below hb);have ON6:=jj (ON5.belows hb);clear hb hc6 c3_ c4_ c5_ c6_ c7_;rw[show(nS (CD.moved ⟨i.vw,num,z,a3,m3,c3,b,a2,k2,c2,vs⟩ a6 k6 a7 k7)).toArray=#[U i.vw,U num,U z,.slice a6 m3 k6,.slice a7 k2 k7] from rfl];have y0:=Y0.at_ 0;have z0:=Y0.frozen 0;have y1:=Y0.at_ 1;have z1:=Y0.frozen 1;have y2:=Y0.at_ 2;have z2:=Y0.frozen 2;have y3:=Y0.at_ 3;have z3:=Y0.frozen 3;have y4:=Y0.at_ 4;have z4:=Y0.frozen 4
 go_wp2_with fail
 obtain⟨w9,mE⟩:=ex (setW w6 g4 0 [U i.vw,U num,U z,.slice a6 m3 k6,.slice a7 k2 k7]);have K9:=uL mE Y0;have o9:=vM mE;simp only[setW,aO,Nat.reduceAdd] at mE;rw[<-mE];clear mE y0 y1 y2 y3 y4 z0 z1 z2 z3 z4;refine dF (v:= .tuple #[.agg #[U i.vw,U num,U z,.slice a6 m3 k6,.slice a7 k2 k7],true]) ?_ rfl ⟨CD.moved ⟨i.vw,num,z,a3,m3,c3,b,a2,k2,c2,vs⟩ a6 k6 a7 k7,⟨i.vw,num,z,a3,m3,c3,b,a2,k2,c2,vs⟩,rfl,rfl,by show m3<=4096;exact HM4.out,C6.Aj o9 Y0,H6.Aj o9 Y0,rfl,ON6.then o9 (fun b hb=> .inr (by simp only[au] at hb;rw[hb];exact GE.out))⟩;exact(mV Tryz.results260 _ w9 g4 _ _ _ _ (by rfl) K9 underlying228 rfl (by kernel_rfl)).trans rfl
theorem Dt(h:lY x w f n num ahead gi i)(k:Nat)(p:qm)(hp:i.ps[k]?=some p)(ht:p.done=true)(z:Int)(hz:z=(k:Int)+1)(hx:x<w.heap.size):
  Y 174 #[gi,U z] w fun e w'=> ∃a6 k6 a7 k7,e= .returned (.tuple #[.agg (nS (p.dw.moved a6 k6 a7 k7)).toArray,true])/\CF x w' (p.dw.moved a6 k6 a7 k7)/\Be w w':=by
 have hk:k<16:=by have:=(ah.1 hp).1;rw[h.len] at this;exact this
 obtain⟨H,HP,HX,HZ,HT⟩:=j5 h hp hx hz ht;clear h hp hx hz ht;go_enter func174,ntmps174
 go_upto_region 1 with fail
 generalize hv1:w.alloc _=v1;generalize hg4:w.heap.size=g4;replace hv1:=hv1.symm;replace hg4:=hg4.symm;have X1:=xNew hv1 hg4;have B1:=tQ hv1;have GE:Hid (w.heap.size<=g4):=jj lK;have H1:=jj (H.below B1);clear hv1 hg4
 go_wp2_with fail
 refine(wC H1 k hk z HZ).mono ?_;rintro e w' ⟨rfl,rfl⟩;have c1:J v1 i.gl (k*14+8) true:=by rw[<-HT.out];exact H1.cell HP 8 lK _ rfl
 have c3_:J v1 i.gl (k*14+9) (U p.dw.view):=H1.cell HP 9 lK _ rfl;have c4_:J v1 i.gl (k*14+9+1) (U p.dw.inst):=H1.cell HP 10 lK _ rfl;have c5_:J v1 i.gl (k*14+9+2) (U p.dw.seq):=H1.cell HP 11 lK _ rfl;have c6_:J v1 i.gl (k*14+9+3) (.slice p.dw.ba p.dw.bn p.dw.bc):=H1.cell HP 12 lK _ rfl;have c7_:J v1 i.gl (k*14+9+4) (.slice p.dw.va p.dw.vn p.dw.vc):=H1.cell HP 13 lK _ rfl;have PL:=jj (H1.at_ p (ak HP))
 go_wp2_with fail
 refine(IU _ p.dw PL.dw.is PL.short.d.1 PL.short.d.2 x (aB HX B1.size)).mono ?_;rintro e w6 ⟨a6,k6,a7,k7,rfl,hc6,hb⟩;have C6:=jj hc6;have Y0:=jj (X1.below hb X1.lt);have B6:=nO B1 hb;clear hb hc6 c1 c3_ c4_ c5_ c6_ c7_;rw[show(nS (p.dw.moved a6 k6 a7 k7)).toArray=#[U p.dw.view,U p.dw.inst,U p.dw.seq,.slice a6 p.dw.bn k6,.slice a7 p.dw.vn k7] from rfl];have y0:=Y0.at_ 0;have z0:=Y0.frozen 0;have y1:=Y0.at_ 1;have z1:=Y0.frozen 1;have y2:=Y0.at_ 2;have z2:=Y0.frozen 2;have y3:=Y0.at_ 3;have z3:=Y0.frozen 3;have y4:=Y0.at_ 4;have z4:=Y0.frozen 4
 go_wp2_with fail
 obtain⟨w9,mE⟩:=ex (setW w6 g4 0 [U p.dw.view,U p.dw.inst,U p.dw.seq,.slice a6 p.dw.bn k6,.slice a7 p.dw.vn k7]);have K9:=uL mE Y0;have o9:=vM mE;simp only[setW,aO,Nat.reduceAdd] at mE;rw[<-mE];clear mE y0 y1 y2 y3 y4 z0 z1 z2 z3 z4;refine dF (v:= .tuple #[.agg #[U p.dw.view,U p.dw.inst,U p.dw.seq,.slice a6 p.dw.bn k6,.slice a7 p.dw.vn k7],true]) ?_ rfl ⟨a6,k6,a7,k7,rfl,C6.Aj o9 Y0,o9.below B6 B6.size (mR GE.out)⟩;exact(mV Tryz.results174 _ w9 g4 _ _ _ _ (by rfl) K9 underlying228 rfl (by kernel_rfl)).trans rfl
theorem Qz(h:lY x w f n num ahead gi i)(k:Nat)(p:qm)(hp:i.ps[k]?=some p)(ht:p.done=true)(c:CD)(hz:c.seq=(k:Int)+1):
  Y 223 #[gi,.agg (nS c).toArray] w fun e w'=>e= .returned false/\Be w w':=by
 have hk:k<16:=by have:=(ah.1 hp).1;rw[h.len] at this;exact this
 obtain⟨c0,c1,c2,ba,bn,bc,bs,va,vn,vc,vs⟩:=c;have H:=jj h;have HP:=jj hp;have HZ:Hid (c2=(k:Int)+1):=jj hz;have HT:=jj ht;clear h hp hz ht;show Y 223 #[gi,.agg #[U c0,U c1,U c2,.slice ba bn bc,.slice va vn vc]] w _;go_enter func223,ntmps223
 go_upto_region 1 with fail
 generalize hv1:w.alloc _=v1;generalize hg3:w.heap.size=g3;replace hv1:=hv1.symm;replace hg3:=hg3.symm;have X1:=xNew hv1 hg3;have B1:=tQ hv1;have H1:=jj (H.below B1);clear hv1 hg3;have d2:=X1.at_ 2
 go_wp2_with fail
 refine(wC H1 k hk c2 HZ).mono ?_;rintro e w' ⟨rfl,rfl⟩;clear d2
 go_upto_region 2 with fail
 have q1:J v1.drew i.gl (k*14+8) true:=by rw[<-HT.out];exact(H1.below (aC _ _).drew).cell HP 8 lK _ rfl
 refine rP (fun w'=>J w' i.gl (k*14+8) true) 17 (tk 0 17 .done) q1 ?_;intro hS0
 repeat(first|refine' tT ?_|refine' tS ?_)
 refine lM ?_;clear hS0 q1
 go_wp2_with fail
 go_ret;exact⟨by trivial,B1.drew⟩
end
theorem UD(w:World)(a:OA)(n c:Nat)(l:List Rq)(r:Rq)(h:qc w a n c l)(hn:n<=4096)(bb:Bool)(hb:decide (r∈l)=bb):
  Y 226 #[.slice a n c,.agg (rA r).toArray] w fun e w'=>e= .returned bb/\Be w w':=by
 obtain⟨y0,y1,y2,y3,y4,y5⟩:=r;have H:=jj h;have WX:=jj hb;clear h hb;show Y 226 #[.slice a n c,.agg #[U y0,U y1,U y2,U y3,U y4,U y5]] w _;go_enter func226,ntmps226
 go_upto_region 1 with fail
 generalize hw1:w.alloc _=w1;generalize hgb:w.heap.size=gb;replace hw1:=hw1.symm;replace hgb:=hgb.symm;obtain⟨B1,BX⟩:=nw hw1 hgb;clear hw1 hgb
 go_wp2_with fail
 go_loopw [9] (fun i wr=> ∃k:Nat,k<=n/\i= U k/\(∀j,j<k->l[j]?≠some (y0,y1,y2,y3,y4,y5))/\Be w1 wr) (fun i _=>n -(intOf i).toNat)
 case atStart=>exact⟨0,lK,rfl,fun j hj=>absurd hj lK,aC _ _⟩
 case round=>
  obtain⟨k,hkn,rfl,hs,hb⟩:=hrel;have HB:=jj hb;have HS:=jj hs;have B2:=nO B1 hb;clear hs hb;by_cases hlt:k<n
  ·obtain⟨b1,o1,rfl,hb1,x0,x1,x2,x3,x4,x5,hx,p0,p1,p2,p3,p4,p5⟩:=(H.below B2).get hlt
   have q0: ∀o,J (wr.alloc o) gb 0 (U y0):=fun o=>((BX.below HB BX.lt).alloc o).cell 0;have q1: ∀o,J (wr.alloc o) gb 1 (U y1):=fun o=>((BX.below HB BX.lt).alloc o).cell 1;have q2: ∀o,J (wr.alloc o) gb 2 (U y2):=fun o=>((BX.below HB BX.lt).alloc o).cell 2;have q3: ∀o,J (wr.alloc o) gb 3 (U y3):=fun o=>((BX.below HB BX.lt).alloc o).cell 3;have q4: ∀o,J (wr.alloc o) gb 4 (U y4):=fun o=>((BX.below HB BX.lt).alloc o).cell 4;have q5: ∀o,J (wr.alloc o) gb 5 (U y5):=fun o=>((BX.below HB BX.lt).alloc o).cell 5;have i0:(0:Int)<=k:=lK;have i1:(k:Int)<n:=lK;have u0:IntKind.i64.wrap ((k:Int)+1)=(k:Int)+1:=aH _ lK;have GOOD:=jj (show(((x0,x1,x2,x3,x4,x5):Rq)=(y0,y1,y2,y3,y4,y5))->bb=true from fun he=>by
    rw[<-WX.out];refine aZ ?_;rw[<-he];exact ak hx)
   have BAD:=jj (show(((x0,x1,x2,x3,x4,x5):Rq)≠(y0,y1,y2,y3,y4,y5))-> ∀j,j<k+1->l[j]?≠some (y0,y1,y2,y3,y4,y5) from fun hh j hj=>by
    rcases iZ j k with h|h
    ·exact HS.out j h
    obtain rfl:j=k:=lK;rw[hx];exact fun e=>hh (dh e))
   clear hx hlt hkn;have sJ:Hid (k+1<=n):=jj lK;by_cases e0:x0=y0
   ·subst e0
    by_cases e1:x1=y1
    ·subst e1
     by_cases e2:x2=y2
     ·subst e2
      by_cases e3:x3=y3
      ·subst e3
       by_cases e4:x4=y4
       ·subst e4
        by_cases e5:x5=y5
        ·subst e5
         have hbf:=GOOD.out rfl;subst hbf;clear GOOD BAD
         go_wp2_with fail
         go_ret;exact⟨by trivial,B2.alloc B2.size _⟩
        have hbf:=BAD.out (fun h=>e5 (congrArg (fun(z:Rq)=>z.2.2.2.2.2) h));have HG:=jj hbf;have ne:(x5==y5)=false:=bJ.2 e5;clear hbf e5 GOOD BAD
        go_wp2_with fail
        go_roundw
        case rel=>exact⟨k+1,sJ,by go_num,HG,HB.alloc HB.size _⟩
        have:=sJ.out;simp[intOf];omega
       have hbf:=BAD.out (fun h=>e4 (congrArg (fun(z:Rq)=>z.2.2.2.2.1) h));have HG:=jj hbf;have ne:(x4==y4)=false:=bJ.2 e4;clear hbf e4 GOOD BAD
       go_wp2_with fail
       go_roundw
       case rel=>exact⟨k+1,sJ,by go_num,HG,HB.alloc HB.size _⟩
       have:=sJ.out;simp[intOf];omega
      have hbf:=BAD.out (fun h=>e3 (congrArg (fun(z:Rq)=>z.2.2.2.1) h));have HG:=jj hbf;have ne:(x3==y3)=false:=bJ.2 e3;clear hbf e3 GOOD BAD
      go_wp2_with fail
      go_roundw
      case rel=>exact⟨k+1,sJ,by go_num,HG,HB.alloc HB.size _⟩
      have:=sJ.out;simp[intOf];omega
     have hbf:=BAD.out (fun h=>e2 (congrArg (fun(z:Rq)=>z.2.2.1) h));have HG:=jj hbf;have ne:(x2==y2)=false:=bJ.2 e2;clear hbf e2 GOOD BAD
     go_wp2_with fail
     go_roundw
     case rel=>exact⟨k+1,sJ,by go_num,HG,HB.alloc HB.size _⟩
     have:=sJ.out;simp[intOf];omega
    have hbf:=BAD.out (fun h=>e1 (congrArg (fun(z:Rq)=>z.2.1) h));have HG:=jj hbf;have ne:(x1==y1)=false:=bJ.2 e1;clear hbf e1 GOOD BAD
    go_wp2_with fail
    go_roundw
    case rel=>exact⟨k+1,sJ,by go_num,HG,HB.alloc HB.size _⟩
    have:=sJ.out;simp[intOf];omega
   have hbf:=BAD.out (fun h=>e0 (congrArg (fun(z:Rq)=>z.1) h));have HG:=jj hbf;have ne:(x0==y0)=false:=bJ.2 e0;clear hbf e0 GOOD BAD
   go_wp2_with fail
   go_roundw
   case rel=>exact⟨k+1,sJ,by go_num,HG,HB.alloc HB.size _⟩
   have:=sJ.out;simp[intOf];omega
  have i1: ¬(k:Int)<n:=lK;obtain rfl:bb=false:=by
   rw[<-WX.out];refine aR fun he=> ?_;obtain⟨j,hj⟩:=bT.1 he;have hl:=(ah.1 hj).1;exact HS.out j (tL H.len) hj
  go_wp2_with fail
  go_ret;exact⟨by trivial,B2⟩
section
variable{x:Nat}{w w':World}{f:Int}{n:Nat}{num ahead:Int}{gi:Nat}{i:tJ}
theorem adS(h:lY x w f n num ahead gi i)(t:Nat)(ht:t<=16)(hin:t=0\/ ∃p,i.ps[t -1]?=some p/\p.sl.has=true)(hout: ∀j p,t<=j->i.ps[j]?=some p->p.sl.has=false)(hx:x<w.heap.size):
  Y 164 #[gi] w fun e w'=>e= .returned (U ((t:Int)+1))/\Be w w':=by
 have c5:=h.blk.at_ 5;obtain⟨H,HI,HO,HX⟩:=j4 h hin hout hx;clear h hin hout hx;go_enter func164,ntmps164
 go_wp2_with fail
 go_loopw [3] (fun j wr=> ∃m:Nat,t<=m/\m<=16/\j= U m/\wr=w) (fun j _=>(intOf j).toNat)
 case atStart=>exact⟨16,lK,lK,rfl,rfl⟩
 case round=>
  obtain⟨m,hm,avt,rfl,rfl⟩:=hrel;by_cases h0:m=0
  ·have i1: ¬(0:Int)<m:=lK
   have e1:IntKind.i64.wrap ((m:Int)+1)=(m:Int)+1:=aH _ lK;have T0:Hid ((t:Int)=0):=jj lK
   go_wp2_with fail
   go_ret;exact⟨by rw[T0.out];first|rfl|trivial,aC _ _⟩
  have i1:(0:Int)<m:=lK;obtain⟨j,hj⟩: ∃j,m=j+1:=⟨m -1,lK⟩;have e1:IntKind.i64.wrap ((m:Int) -1)=(j:Int):=by rw[aH _ lK];omega
  have i2:(0:Int)<=j:=lK;have i3:(j:Int)<16:=lK;have hjl:j<i.ps.length:=by rw[H.len];omega
  have c0:J wr i.gl (j*14) (i.ps[j].g):=H.cell (aj hjl) 0 lK _ rfl;have PL:=jj (H.at_ _ (bY hjl));by_cases hmt:m=t
  ·have HS:Hid (i.ps[j].sl.has=true):=jj (by
    rcases HI.out with h|⟨p,h1,h2⟩
    ·omega
    have:t -1=j:=lK;rw[this,aj hjl] at h1;injection h1 with h1;rw[h1];exact h2)
   have e2:IntKind.i64.wrap ((m:Int)+1)=(m:Int)+1:=aH _ lK;have T0:Hid ((t:Int)=m):=jj lK;clear h0 hj hmt
   go_wp2_with fail
   refine(Bz PL.slot HS PL.short.b HX).mono ?_;rintro e w2 ⟨a',c',rfl,-,-,hb⟩;have B2:=jj hb;clear hb
   go_wp2_with fail
   go_ret;exact⟨by rw[T0.out];first|rfl|trivial,B2⟩
  have HS:Hid (i.ps[j].sl.has=false):=jj (HO.out j _ lK (aj hjl));have HJ:Hid (t<=j/\j<m/\m<=16):=jj lK;clear h0 hj hmt
  go_wp2_with fail
  refine(CG PL.slot HS).mono ?_;rintro e w2 ⟨rfl,rfl⟩
  go_wp2_with fail
  go_roundw
  case rel=>exact⟨j,HJ.1,by have:=HJ.out;omega,by go_num,by trivial⟩
  have:=HJ.out;simp[intOf];omega
def vK(r:Rq):List qm->Bool
 | []=>false
 |p::l=>(p.sl.has&&decide (r∈p.sl.bs))||(p.done&&decide (r∈p.dw.bs))||vK r l
theorem adT(h:lY x w f n num ahead gi i)(r:Rq)(b:Bool)(hb:vK r i.ps=b)(hx:x<w.heap.size):
  Y 168 #[gi,.agg (rA r).toArray] w fun e w'=>e= .returned b/\Be w w':=by
 obtain⟨y0,y1,y2,y3,y4,y5⟩:=r;obtain⟨H,HB,HX⟩:=j3 h hb hx;clear h hb hx;show Y 168 #[gi,.agg #[U y0,U y1,U y2,U y3,U y4,U y5]] w _;go_enter func168,ntmps168
 go_upto_region 1 with fail
 generalize hw1:w.alloc _=w1;generalize hgb:w.heap.size=gb;replace hw1:=hw1.symm;replace hgb:=hgb.symm;obtain⟨B1,BX⟩:=nw hw1 hgb;clear hw1 hgb;have c5:J w1 gi 5 (O i.gl 16 i.cap):=(H.below B1).blk.cell 5
 go_wp2_with fail
 clear c5
 go_loopw [14] (fun j wr=> ∃k:Nat,k<=16/\j= U k/\vK (y0,y1,y2,y3,y4,y5) (i.ps.drop k)=b/\Be w1 wr) (fun j _=>16 -(intOf j).toNat)
 case atStart=>exact⟨0,lK,rfl,by simpa using HB.out,aC _ _⟩
 case round=>
  obtain⟨k,hk,rfl,hu,hb⟩:=hrel;have BL:=jj hb;have BW:=nO B1 hb;have HU:=jj hu;clear hb hu;by_cases hlt:k<16
  ·have hkl:k<i.ps.length:=by rw[H.len];exact hlt
   have VL:(0:Int)<=k:=lK;have i1:(k:Int)<16:=lK;have e0:IntKind.i64.wrap ((k:Int)+1)=(k:Int)+1:=aH _ lK;have HW:=jj (H.below BW);obtain⟨p,hp⟩: ∃p,i.ps[k]?=some p:=⟨_,aj hkl⟩;have DR:Hid (i.ps.drop k=p::i.ps.drop (k+1)):=jj (by rw[<-dY hkl];have:=(ah.1 hp).2;rw[this]);have PW:=jj (HW.at_ p (ak hp));have sJ:Hid (k+1<=16):=jj hlt;have q0:J wr i.gl (k*14) p.g:=HW.cell hp 0 lK _ rfl;have q1:J wr i.gl (k*14+1) p.told:=HW.cell hp 1 lK _ rfl;have q2:J wr i.gl (k*14+2) p.has:=HW.cell hp 2 lK _ rfl;have q3:J wr i.gl (k*14+3) (U p.cert.view):=HW.cell hp 3 lK _ rfl;have q4:J wr i.gl (k*14+4) (U p.cert.inst):=HW.cell hp 4 lK _ rfl;have q5:J wr i.gl (k*14+5) (U p.cert.seq):=HW.cell hp 5 lK _ rfl;have q6:J wr i.gl (k*14+6) (.slice p.cert.ba p.cert.bn p.cert.bc):=HW.cell hp 6 lK _ rfl;have q7:J wr i.gl (k*14+7) (.slice p.cert.va p.cert.vn p.cert.vc):=HW.cell hp 7 lK _ rfl;have q8:J wr i.gl (k*14+8) p.done:=HW.cell hp 8 lK _ rfl;have q9:J wr i.gl (k*14+9) (U p.dw.view):=HW.cell hp 9 lK _ rfl;have q10:J wr i.gl (k*14+10) (U p.dw.inst):=HW.cell hp 10 lK _ rfl;have q11:J wr i.gl (k*14+11) (U p.dw.seq):=HW.cell hp 11 lK _ rfl;have q12:J wr i.gl (k*14+12) (.slice p.dw.ba p.dw.bn p.dw.bc):=HW.cell hp 12 lK _ rfl;have q13:J wr i.gl (k*14+13) (.slice p.dw.va p.dw.vn p.dw.vc):=HW.cell hp 13 lK _ rfl;clear hp hkl hlt hk
   go_upto_region 4 with fail
   generalize mE:wr.alloc _=w9;generalize vE:wr.heap.size=g9;replace mE:=mE.symm;replace vE:=vE.symm;have WR:=(tQ mE).out;have X9:=xNew mE vE;have BL9:=nO BL WR;have Gy:=nO BW WR;have P9:=jj (PW.below WR);have R9:=jj (BX.below BL9 BX.lt);clear mE vE WR q0 q1 q2 q3 q4 q5 q6 q7 q8 q9 q10 q11 q12 q13;have d0:=X9.at_ 0;obtain⟨sh,hsh⟩:=ex p.sl.has;obtain⟨dn,hdn⟩:=ex p.done;have HSH:=jj hsh;have HDN:=jj hdn;clear hsh hdn;have US:Hid (((sh&&decide ((y0,y1,y2,y3,y4,y5)∈p.sl.bs))||(dn&&decide ((y0,y1,y2,y3,y4,y5)∈p.dw.bs))||vK (y0,y1,y2,y3,y4,y5) (i.ps.drop (k+1)))=b):=jj (by rw[<-HU.out,DR.out,vK,HSH.out,HDN.out])
   cases sh with
   |false=>
    have US2:Hid (((dn&&decide ((y0,y1,y2,y3,y4,y5)∈p.dw.bs))||vK (y0,y1,y2,y3,y4,y5) (i.ps.drop (k+1)))=b):=jj (mR US.out)
    go_wp2_with fail
    refine(CG P9.slot HSH.symm).mono ?_;rintro e w2 ⟨rfl,rfl⟩;clear d0;have d8:J w9 g9 8 dn:=by rw[HDN.out];exact X9.cell 8
    have d12:J w9 g9 (9+3) (.slice p.dw.ba p.dw.bn p.dw.bc):=X9.cell 12;have agN:=X9.at_ 12;obtain⟨r0,r1,r2,r3,r4,r5⟩:=R9.a6
    cases dn with
    |false=>
     have G:Hid (vK (y0,y1,y2,y3,y4,y5) (i.ps.drop (k+1))=b):=jj (mR US2.out)
     go_wp2_with fail
     go_roundw
     case rel=>exact⟨k+1,sJ,by go_num,G,BL9⟩
     have:=sJ.out;simp[intOf];omega
    |true=>
     obtain⟨b2,hb2⟩: ∃b2,decide ((y0,y1,y2,y3,y4,y5)∈p.dw.bs)=b2:=⟨_,rfl⟩;have HB2:=jj hb2;have G:Hid ((b2||vK (y0,y1,y2,y3,y4,y5) (i.ps.drop (k+1)))=b):=jj (by rw[<-hb2];simpa using US2.out);clear hb2
     go_wp2_with fail
     refine(UD _ p.dw.ba p.dw.bn p.dw.bc p.dw.bs (y0,y1,y2,y3,y4,y5) P9.dw.is.b PW.short.d.1 b2 HB2).mono ?_;rintro e w7 ⟨rfl,hb⟩;have BL7:=nO BL9 hb;have BW7:=nO Gy hb;clear hb d8 d12 agN r0 r1 r2 r3 r4 r5
     cases b2 with
     |true=>
      have G2:Hid (b=true):=jj (by rw[<-G.out];rfl)
      go_wp2_with fail
      go_ret;exact⟨by rw[G2.out];first|rfl|trivial,BW7⟩
     |false=>
      have G2:Hid (vK (y0,y1,y2,y3,y4,y5) (i.ps.drop (k+1))=b):=jj (mR G.out)
      go_wp2_with fail
      go_roundw
      case rel=>exact⟨k+1,sJ,by go_num,G2,BL7⟩
      have:=sJ.out;simp[intOf];omega
   |true=>
    go_wp2_with fail
    refine(Bz P9.slot HSH.symm P9.short.b (aB HX Gy.size)).mono ?_;rintro e w3 ⟨a3,c3,rfl,hr3,-,hb⟩;have RQ3:=jj hr3;have X3:=jj (X9.below hb X9.lt);have R3:=jj (R9.below hb R9.lt);have P3:=jj (P9.below hb);have BL3:=nO BL9 hb;have BW3:=nO Gy hb;clear hr3 hb d0;obtain⟨r0,r1,r2,r3,r4,r5⟩:=R3.a6;obtain⟨b1,hb1⟩: ∃b1,decide ((y0,y1,y2,y3,y4,y5)∈p.sl.bs)=b1:=⟨_,rfl⟩;have HB1:=jj hb1;have G0:Hid ((b1||(dn&&decide ((y0,y1,y2,y3,y4,y5)∈p.dw.bs))||vK (y0,y1,y2,y3,y4,y5) (i.ps.drop (k+1)))=b):=jj (by rw[<-hb1];simpa using US.out);clear hb1
    go_wp2_with fail
    refine(UD _ a3 p.sl.bn c3 p.sl.bs (y0,y1,y2,y3,y4,y5) RQ3.row PW.short.b b1 HB1).mono ?_;rintro e w4 ⟨rfl,hb⟩;have X4:=jj (X3.below hb X3.lt);have R4:=jj (R3.below hb R3.lt);have P4:=jj (P3.below hb);have BL4:=nO BL3 hb;have BW4:=nO BW3 hb;clear hb r0 r1 r2 r3 r4 r5
    cases b1 with
    |true=>
     have G2:Hid (b=true):=jj (by rw[<-G0.out];rfl)
     go_wp2_with fail
     go_ret;exact⟨by rw[G2.out];first|rfl|trivial,BW4⟩
    |false=>
     have US2:Hid (((dn&&decide ((y0,y1,y2,y3,y4,y5)∈p.dw.bs))||vK (y0,y1,y2,y3,y4,y5) (i.ps.drop (k+1)))=b):=jj (mR G0.out);have d8:J w4 g9 8 dn:=by rw[HDN.out];exact X4.cell 8
     have d12:J w4 g9 (9+3) (.slice p.dw.ba p.dw.bn p.dw.bc):=X4.cell 12;have agN:=X4.at_ 12;obtain⟨r0,r1,r2,r3,r4,r5⟩:=R4.a6
     cases dn with
     |false=>
      have G:Hid (vK (y0,y1,y2,y3,y4,y5) (i.ps.drop (k+1))=b):=jj (mR US2.out)
      go_wp2_with fail
      go_roundw
      case rel=>exact⟨k+1,sJ,by go_num,G,BL4⟩
      have:=sJ.out;simp[intOf];omega
     |true=>
      obtain⟨b2,hb2⟩: ∃b2,decide ((y0,y1,y2,y3,y4,y5)∈p.dw.bs)=b2:=⟨_,rfl⟩;have HB2:=jj hb2;have G:Hid ((b2||vK (y0,y1,y2,y3,y4,y5) (i.ps.drop (k+1)))=b):=jj (by rw[<-hb2];simpa using US2.out);clear hb2
      go_wp2_with fail
      refine(UD _ p.dw.ba p.dw.bn p.dw.bc p.dw.bs (y0,y1,y2,y3,y4,y5) P4.dw.is.b PW.short.d.1 b2 HB2).mono ?_;rintro e w7 ⟨rfl,hb⟩;have BL7:=nO BL4 hb;have BW7:=nO BW4 hb;clear hb d8 d12 agN r0 r1 r2 r3 r4 r5
      cases b2 with
      |true=>
       have G2:Hid (b=true):=jj (by rw[<-G.out];rfl)
       go_wp2_with fail
       go_ret;exact⟨by rw[G2.out];first|rfl|trivial,BW7⟩
      |false=>
       have G2:Hid (vK (y0,y1,y2,y3,y4,y5) (i.ps.drop (k+1))=b):=jj (mR G.out)
       go_wp2_with fail
       go_roundw
       case rel=>exact⟨k+1,sJ,by go_num,G2,BL7⟩
       have:=sJ.out;simp[intOf];omega
  have i1: ¬(k:Int)<16:=lK;have G:Hid (b=false):=jj (by rw[<-HU.out,iB (by rw[H.len];omega)];rfl)
  go_wp2_with fail
  go_ret;exact⟨by rw[G.out];first|rfl|trivial,BW⟩
end
end Go.Proofs.YtgnhecmnlddjhaaGreat
