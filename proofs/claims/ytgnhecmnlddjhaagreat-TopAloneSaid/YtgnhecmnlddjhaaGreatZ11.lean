/- TopAlone, part 12 of 24: a proof squeezed by a program. -/
import Derived.Test.YtgnhecmnlddjhaaGreatZ10
import Derived.IntWalk
set_option linter.unusedVariables false
set_option linter.unusedSimpArgs false
set_option linter.defProp false
set_option maxRecDepth 100000
set_option maxHeartbeats 6400000
namespace Go.Proofs.YtgnhecmnlddjhaaGreat
open Go.RowKit Go.Proofs.Tryz
variable{K:KS}{L':List ni}{P:Program}{a:ni}{b c g gi i j k n s x:Nat}{d d' d'':lU}{es:List CY}{i':tJ}{p:Nat×List Int}{w:World}
def nu(f:Int)(n id gx b:Nat)(d:lU)(K:KS):List ni:=tZ d.nn b K::sF f id n gx d
abbrev qE(x:Nat)(w:World)(f:Int)(n id gx b:Nat)(d:lU)(K:KS):Prop:=Sys x w (nu f n id gx b d K)
abbrev mP(x:Nat)(w w':World)(f:Int)(n id gx b:Nat)(d:lU)(K:KS)(d':lU)(K':KS):Prop:=Step x w w' (nu f n id gx b d K) (nu f n id gx b d' K')
section
variable{x:Nat}{w w' w'':World}{f:Int}{n id gx b:Nat}{d d':lU}{K K':KS}{S:LN}
theorem Sys.Pt(h:qE x w f n id gx b d K):vC w d.nn b K:=h.get (j:=0) rfl
theorem Sys.blk(h:qE x w f n id gx b d K):lQ w gx 131 (yB f id d):=h.get (j:=1) rfl
theorem Sys.Bc(h:qE x w f n id gx b d K):vT w d.gt d.now:=h.get (j:=2) rfl
theorem Sys.row(h:qE x w f n id gx b d K):Row w d.gr 164 1 d.is.length d.rX (d.is.map fun p=> .pointer (some ⟨p.1,0,none⟩)):=h.get (j:=3) rfl
theorem Sys.tab(h:qE x w f n id gx b d K):TabAt w d.nH f 2 d.T d.ST:=h.get (j:=4) rfl
theorem Sys.vot(h:qE x w f n id gx b d K):zQ w d.gv d.Iz f d.V:=h.get (j:=5) rfl
theorem Sys.grd(h:qE x w f n id gx b d K):Ld w d.gg 8 8:=h.get (j:=6) rfl
theorem Sys.led(h:qE x w f n id gx b d K):Er w d.SL d.gd 2 d.es d.st d.ct:=h.get (j:=7) rfl
theorem Sys.met(h:qE x w f n id gx b d K):pJ w d.gm d.Dl d.ga:=h.get (j:=8) rfl
theorem Sys.parts(h:qE x w f n id gx b d K):lQ w d.gp 290 d.xU.toArray:=h.get (j:=9) rfl
theorem Sys.begun(h:qE x w f n id gx b d K):lQ w d.gb 292 d.vZ.toArray:=h.get (j:=10) rfl
theorem Sys.nN(h:qE x w f n id gx b d K):xG w d.xL d.Aq d.nN:=h.get (j:=11) rfl
theorem Sys.nG(h:qE x w f n id gx b d K):xG w d.xK d.zR d.nG:=h.get (j:=12) rfl
theorem Sys.out(h:qE x w f n id gx b d K):nJ x w d.oa d.ol.length d.oc d.ol:=h.get (j:=13) rfl
theorem VK(k:Nat){p:Nat×tJ}(hk:d.is[k]?=some p):(nu f n id gx b d K)[14+k]?=some (zX f n k p.1 p.2):=by
 have:=Jc f n d.is 0 k;rw[hk,aO] at this;rw[show 14+k=k+14 by omega];exact this
theorem Sys.inst(h:qE x w f n id gx b d K){p:Nat×tJ}(hk:d.is[k]?=some p):lY x w f n k 4 p.1 p.2:=h.get (VK k hk)
theorem Sys.ptr(h:qE x w f n id gx b d K){p:Nat×tJ}(hk:d.is[k]?=some p):J w d.gr k p.1:=h.row.cell (by rw[aS,hk];rfl)
theorem Step.Pt(h:mP x w w' f n id gx b d K d' K'){K'':KS}(hN:vC w'' d'.nn b K'')(ho:Only [b] w' w''):mP x w w'' f n id gx b d K d' K'':=
 h.turn (j:=0) (c':=tZ d'.nn b K'') rfl ho (fun k hk=> .inl (by simp only[au] at hk;subst hk;simp[tZ,nM])) hN (EX _ _ _) fun k hk=> .inl hk
theorem Step.blk(h:mP x w w' f n id gx b d K d' K'){cs:AV}(hB:lQ w'' gx 131 cs)(ho:Only [gx] w' w''):Step x w w'' (nu f n id gx b d K) ((nu f n id gx b d' K').set 1 (mW gx 131 cs)):=
 h.turn (j:=1) (c':=mW gx 131 cs) rfl ho (fun k hk=> .inl hk) hB (oF _ _ _ lN) fun k hk=> .inl hk
theorem Step.Bc(h:mP x w w' f n id gx b d K d' K'){t:Int}(hB:vT w'' d'.gt t)(ho:Only [d'.gt] w' w''):mP x w w'' f n id gx b d K (d'.GU t) K':=
 h.turn (j:=2) (c':=Da d'.gt t) rfl ho (fun k hk=> .inl hk) hB (Lp _ _) fun k hk=> .inl hk
theorem Step.tab(h:mP x w w' f n id gx b d K d' K'){T:List oO}{ST:LN}(hB:TabAt w'' d'.nH f 2 T ST)(ho:Only S w' w'')(hS: ∀k∈S,k∈d'.ST)(hn: ∀k∈ST,k∈d'.ST\/w'.heap.size<=k):mP x w w'' f n id gx b d K (d'.tabled T ST) K':=
 h.turn (j:=4) (c':=Fg d'.nH f 2 T ST) rfl ho (fun k hk=> .inl (hS k hk)) hB (Nh _ _ _ _ _) hn
theorem Step.led(h:mP x w w' f n id gx b d K d' K'){SL:LN}{st:List (Bool×Int)}{ct:List (Int×Int)}(hB:Er w'' SL d'.gd 2 es st ct)(ho:Only d'.SL w' w'')(hn: ∀k∈SL,k∈d'.SL\/w'.heap.size<=k):mP x w w'' f n id gx b d K (d'.booked SL es st ct) K':=
 h.turn (j:=7) (c':=ET SL d'.gd 2 es st ct) rfl ho (fun k hk=> .inl hk) hB (Mq _ _ _ _ _ _) hn
theorem Step.met(h:mP x w w' f n id gx b d K d' K'){ga:List (Int×Int)}(hB:pJ w'' d'.gm d'.Dl ga)(ho:Only [d'.Dl] w' w''):mP x w w'' f n id gx b d K (d'.yS ga) K':=
 h.turn (j:=8) (c':=Dx d'.gm d'.Dl ga) rfl ho (fun k hk=> .inl (by simp only[au] at hk;subst hk;simp[Dx,nM])) hB (Mx _ _ _) fun k hk=> .inl hk
theorem Rk{l:List (Nat×List Int)}(hj:l[j]?=some p)(q:LI):(l.set j (p.1,q)).map Prod.fst=l.map Prod.fst:=by
 have hjl:j<l.length:=(ah.1 hj).1;rw[eT];refine dD fun k=> ?_;by_cases hk:k=j
 ·subst hk
  rw[aL (mR hjl),aS,hj];rfl
 rw[aX (dR hk)]
theorem Step.aeu(h:mP x w w' f n id gx b d K d' K')(he:nu f n id gx b d'' K'=(nu f n id gx b d' K').set 1 (mW gx 131 (yB f id d''))){v:Value}(hi:(yB f id d').setIfInBounds i v=yB f id d''):mP x w (w'.setCell ⟨gx,i,none⟩ v) f n id gx b d K d'' K':=by
 have:=h.blk (cs:=yB f id d'') (w'':=w'.setCell ⟨gx,i,none⟩ v) (by rw[<-hi];exact h.sys.blk.mg i v) ((Only.refl [gx] w').setCell (.inl lT) _);rw[mP,he];exact this
theorem Step.com(h:mP x w w' f n id gx b d K d' K')(hj:d'.nG[j]?=some p)(z:Int):mP x w (w'.setCell ⟨p.1,i,none⟩ (U z)) f n id gx b d K (d'.XA j p i z) K':=by
 have e:=Rk hj (p.2.set i z);have:=h.turn (j:=12) (c':=wJ d'.xK d'.zR (d'.nG.set j (p.1,p.2.set i z))) rfl ((Only.refl [p.1] w').setCell (.inl lT) _) (fun k hk=> .inl (by
  simp only[au] at hk;subst hk;exact cK _ (bM.2 ⟨p,ak hj,rfl⟩))) (h.sys.nG.set hj i z) (yY _ _ _) fun k hk=> .inl (by
  simp only[wJ,nM] at hk|-
  rwa [e] at hk)
 have e2:yB f id (d'.XA j p i z)=yB f id d':=by simp[yB]
 have e3:nu f n id gx b (d'.XA j p i z) K'=(nu f n id gx b d' K').set 12 (wJ d'.xK d'.zR (d'.nG.set j (p.1,p.2.set i z))):=by
  simp only[nu,sF,e2];rfl
 rw[mP,e3];exact this
theorem Step.pre(h:mP x w w' f n id gx b d K d' K')(hj:d'.nN[j]?=some p)(z:Int):mP x w (w'.setCell ⟨p.1,i,none⟩ (U z)) f n id gx b d K (d'.pred j p i z) K':=by
 have e:=Rk hj (p.2.set i z);have:=h.turn (j:=11) (c':=wJ d'.xL d'.Aq (d'.nN.set j (p.1,p.2.set i z))) rfl ((Only.refl [p.1] w').setCell (.inl lT) _) (fun k hk=> .inl (by
  simp only[au] at hk;subst hk;exact cK _ (bM.2 ⟨p,ak hj,rfl⟩))) (h.sys.nN.set hj i z) (yY _ _ _) fun k hk=> .inl (by
  simp only[wJ,nM] at hk|-
  rwa [e] at hk)
 have e2:yB f id (d'.pred j p i z)=yB f id d':=by simp[yB]
 have e3:nu f n id gx b (d'.pred j p i z) K'=(nu f n id gx b d' K').set 11 (wJ d'.xL d'.Aq (d'.nN.set j (p.1,p.2.set i z))):=by
  simp only[nu,sF,e2];rfl
 rw[mP,e3];exact this
theorem Step.sent (h:mP x w w' f n id gx b d K d' K') {A:OA}  {L:List wN} (hB:lQ w'' gx 131 (yB f id (d'.outs A c L))) (hO:nJ x w'' A L.length c L) (ho:Only (gx::(d'.oa.map (·.block)).toList) w' w'')
  (hn: ∀k,A.map (·.block)=some k->d'.oa.map (·.block)=some k\/w'.heap.size<=k):mP x w w'' f n id gx b d K (d'.outs A c L) K':=by
 have s2:Step x w' w'' [mW gx 131 (yB f id d'),Cv d'.oa d'.oc d'.ol] [mW gx 131 (yB f id (d'.outs A c L)),Cv A c L]:=by
  refine⟨⟨fun c hc=> ?_,fun c hc=> ?_,?_⟩,by simpa[nE,mW,nM,Cv] using ho,fun k hk=> ?_⟩
  ·simp only[ay,aI,bK] at hc
   rcases hc with rfl|rfl
   ·exact oF _ _ _ lN
   exact EY _ _ _
  ·simp only[ay,aI,bK] at hc
   rcases hc with rfl|rfl
   ·exact hB
   exact hO
  ·simp only[eu,au,forall_eq,aI,kY,lF,iE,iY]
   intro k hk hm;simp only[mW,nM,au] at hk;subst hk;exact oJ hO.own hB lN _ hm rfl
  simp only[nE,mW,nM,Cv,bQ,iM,aQ,au,eG,aJ] at hk|-;rcases hk with hk|hk
  ·exact .inl (.inl hk)
  exact(hn k hk).imp (fun h=> .inr h) fun h=>h
 exact h.trans (h.sys.aav (i:=1) (j:=13) rfl rfl lN s2)
theorem Step.inst(h:mP x w w' f n id gx b d K d' K'){i:tJ}(hk:d'.is[k]?=some (g,i))(hI:lY x w'' f n k 4 g i')(ho:Only S w' w'')(hS: ∀q∈S,q∈i.foot g)(hf: ∀q∈i'.foot g,q∈i.foot g\/w'.heap.size<=q):mP x w w'' f n id gx b d K (d'.insts k g i') K':=by
 have hkl:k<d'.is.length:=(ah.1 hk).1;have t:=h.turn (j:=14+k) (c':=zX f n k g i') (VK k hk) ho (fun q hq=> .inl (hS q hq)) hI (Ja _ _ _ _ _) hf;have e1:(d'.is.set k (g,i')).map (fun p=>Value.pointer (some ⟨p.1,0,none⟩))=d'.is.map fun p=>Value.pointer (some ⟨p.1,0,none⟩):=by
  rw[eT];refine dD fun j=> ?_;by_cases hj:j=k
  ·subst hj
   rw[aL (mR hkl),aS,hk];rfl
  rw[aX (dR hj)]
 have e2:yB f id (d'.insts k g i')=yB f id d':=by simp[yB]
 have e3:nu f n id gx b (d'.insts k g i') K'=(nu f n id gx b d' K').set (14+k) (zX f n k g i'):=by
  simp only[nu,sF,e2,e1,bG];have:=Jd f n g i' d'.is 0 k;rw[aO] at this;rw[<-this,show 14+k=k+14 by omega];rfl
 rw[mP,e3];exact t
end
structure Fix(d d':lU):Prop where
 nn:d'.nn=d.nn
 gt:d'.gt=d.gt
 gr:d'.gr=d.gr
 rX:d'.rX=d.rX
 nH:d'.nH=d.nH
 gv:d'.gv=d.gv
 Iz:d'.Iz=d.Iz
 gg:d'.gg=d.gg
 gd:d'.gd=d.gd
 gm:d'.gm=d.gm
 Dl:d'.Dl=d.Dl
 gp:d'.gp=d.gp
 gb:d'.gb=d.gb
 xL:d'.xL=d.xL
 Aq:d'.Aq=d.Aq
 xK:d'.xK=d.xK
 zR:d'.zR=d.zR
 is:(d'.is.map Prod.fst)=d.is.map Prod.fst
 nN:(d'.nN.map fun p=>(p.1,p.2.length))=d.nN.map fun p=>(p.1,p.2.length)
 nG:(d'.nG.map fun p=>(p.1,p.2.length))=d.nG.map fun p=>(p.1,p.2.length)
 xU:(d'.xU.length)=d.xU.length
 vZ:(d'.vZ.length)=d.vZ.length
theorem Fix.refl(d:lU):Fix d d:=⟨rfl,rfl,rfl,rfl,rfl,rfl,rfl,rfl,rfl,rfl,rfl,rfl,rfl,rfl,rfl,rfl,rfl,rfl,rfl,rfl,rfl,rfl⟩
theorem Fix.Bo(d:lU)(A:OA)(c:Nat)(L:List wN):Fix d (d.outs A c L):=by constructor<;>rfl
theorem Fix.Bp(d:lU)(T:List oO)(ST:LN):Fix d (d.tabled T ST):=by constructor<;>rfl
theorem Fix.MN(d:lU)(ga:List (Int×Int)):Fix d (d.yS ga):=by constructor<;>rfl
theorem Fix.Uu(d:lU)(t:Int):Fix d (d.GU t):=by constructor<;>rfl
theorem Fix.trans(h:Fix d d')(k:Fix d' d''):Fix d d'':=⟨k.nn.trans h.nn,k.gt.trans h.gt,k.gr.trans h.gr,k.rX.trans h.rX,k.nH.trans h.nH,k.gv.trans h.gv,k.Iz.trans h.Iz,k.gg.trans h.gg,k.gd.trans h.gd,k.gm.trans h.gm,k.Dl.trans h.Dl,k.gp.trans h.gp,k.gb.trans h.gb,k.xL.trans h.xL,k.Aq.trans h.Aq,k.xK.trans h.xK,k.zR.trans h.zR,k.is.trans h.is,k.nN.trans h.nN,k.nG.trans h.nG,k.xU.trans h.xU,k.vZ.trans h.vZ⟩
theorem Fix.akW(h:Fix d d'):d'.is.length=d.is.length:=by have:=congrArg List.length h.is;simpa using this
theorem Fix.aez(h:Fix d d'):d'.nN.length=d.nN.length:=by have:=congrArg List.length h.nN;simpa using this
theorem Fix.adu(h:Fix d d'):d'.nG.length=d.nG.length:=by have:=congrArg List.length h.nG;simpa using this
def ndl(f id:Int)(d:lU):List Value:= [U f,U 2,U 2,U 4,U 64,U 8,U 8,U 8,U 1,U 2,U 12,U 8,U 6,U 2,U 6,U id,d.nn,d.gt,O d.gr d.is.length d.rX,d.nH,d.gv,d.gg,d.gd,d.gm,
 .slice (some ⟨d.gp,0,none⟩) (d.xU.length/5) (d.xU.length/5),O d.gb (d.vZ.length/11) (d.vZ.length/11),O d.xL d.nN.length d.Aq,O d.xK d.nG.length d.zR]
def ndr(d:lU):List Value:= [U d.run,U d.view,U d.vk,U d.since,U d.start,d.stopped,.slice d.oa d.ol.length d.oc,U d.c0,U d.c1,U d.c2,U d.c3,U d.c4]
theorem abd(f id:Int)(d:lU):yB f id d=(ndl f id d++ndr d).toArray:=rfl
theorem Fix.ndl(h:Fix d d')(f id:Int):ndl f id d'=ndl f id d:=by
 unfold Go.Proofs.YtgnhecmnlddjhaaGreat.ndl;rw[h.nn,h.gt,h.gr,h.rX,h.akW,h.nH,h.gv,h.gg,h.gd,h.gm,h.gp,h.xU,h.gb,h.vZ,h.xL,h.aez,h.Aq,h.xK,h.adu,h.zR]
theorem Fix.cell(h:Fix d d')(f id:Int)(i:Nat)(hi:i<28):(yB f id d')[i]?=(yB f id d)[i]?:=by
 have e: ∀d,(Go.Proofs.YtgnhecmnlddjhaaGreat.ndl f id d).length=28:=fun _=>rfl;rw[abd,abd,cZ,cZ,bC (by rw[e];exact hi),bC (by rw[e];exact hi),h.ndl]
theorem Fix.ptr(h:Fix d d')(hk:d.is[k]?.map Prod.fst=some gi):d'.is[k]?.map Prod.fst=some gi:=by
 rw[<-aS,h.is,aS];exact hk
theorem Fix.Ai{i:tJ}(hk:d.is[k]?=some (g,i)):Fix d (d.insts k g i'):=by
 refine⟨rfl,rfl,rfl,rfl,rfl,rfl,rfl,rfl,rfl,rfl,rfl,rfl,rfl,rfl,rfl,rfl,rfl,?_,rfl,rfl,rfl,rfl⟩;have hkl:k<d.is.length:=(ah.1 hk).1;show(d.is.set k (g,i')).map Prod.fst=_;rw[eT];refine dD fun j=> ?_;by_cases hj:j=k
 ·subst hj
  rw[aL (mR hkl),aS,hk];rfl
 rw[aX (dR hj)]
theorem Fix.aep(hj:d.nG[j]?=some p)(i:Nat)(z:Int):Fix d (d.XA j p i z):=by
 refine⟨rfl,rfl,rfl,rfl,rfl,rfl,rfl,rfl,rfl,rfl,rfl,rfl,rfl,rfl,rfl,rfl,rfl,rfl,rfl,?_,rfl,rfl⟩;have hjl:j<d.nG.length:=(ah.1 hj).1;show(d.nG.set j (p.1,p.2.set i z)).map (fun p=>(p.1,p.2.length))=_;rw[eT];refine dD fun k=> ?_;by_cases hk:k=j
 ·subst hk
  rw[aL (mR hjl),aS,hj];simp
 rw[aX (dR hk)]
theorem Fix.aer(hj:d.nN[j]?=some p)(i:Nat)(z:Int):Fix d (d.pred j p i z):=by
 refine⟨rfl,rfl,rfl,rfl,rfl,rfl,rfl,rfl,rfl,rfl,rfl,rfl,rfl,rfl,rfl,rfl,rfl,rfl,?_,rfl,rfl,rfl⟩;have hjl:j<d.nN.length:=(ah.1 hj).1;show(d.nN.set j (p.1,p.2.set i z)).map (fun p=>(p.1,p.2.length))=_;rw[eT];refine dD fun k=> ?_;by_cases hk:k=j
 ·subst hk
  rw[aL (mR hjl),aS,hj];simp
 rw[aX (dR hk)]
theorem Sys.uD{L:List ni}(h:Sys x w L):Sys x w.drew L:=h.below (aC _ _).drew
theorem Qn{f:Int}{id gx:Nat}(h:qE x w f n id gx b d' K)(hf:Fix d d')(hk:d.is[k]?.map Prod.fst=some gi):J w d'.gr k gi:=by
 have:=hf.ptr hk;rw[aK] at this;obtain⟨q,hq,he⟩:=this;rw[<-he];exact h.ptr hq
section
variable{x y:Nat}{w w':World}{f id:Int}{gk:Nat}{d:sI}{S:LN}{L:List ni}{c:ni}
theorem qF.noC(h:qF x w f id gk d):Nr w (d.foot gk):=by
 intro g hg cs hc;simp only[sI.foot,ay,aQ] at hg;rcases hg with rfl|rfl|hg|hg|hg|hg
 ·exact absurd (sN hc h.blk) lN
 ·exact absurd (sN hc h.Bc) lN
 ·obtain⟨_,cs',hc'⟩:=lW h.yK g hg
  exact absurd (sN hc hc') lN
 ·obtain⟨_,cs',hc'⟩:=lW h.ans g hg
  exact absurd (sN hc hc') lN
 ·obtain⟨_,cs',hc'⟩:=lW h.acc g hg
  exact absurd (sN hc hc') lN
 obtain⟨_,cs',hc'⟩:=lW h.out.own g hg;exact absurd (sN hc hc') lN
def Gp(f id:Int)(gk:Nat)(d:sI):ni:=⟨d.foot gk,fun x w=>qF x w f id gk d/\d.ia=none⟩
theorem Qd(f id:Int)(gk:Nat)(d:sI):(Gp f id gk d).Good:=
 ⟨fun hp ho hS _ hn=>⟨hp.1.only ho hS hn,hp.2⟩,fun hp hy=>⟨⟨hp.1.blk,hp.1.Bc,hp.1.yK,fun g hg=>by rw[hp.2] at hg;simp at hg,hp.1.ans,hp.1.acc,hp.1.out.re hy⟩,hp.2⟩,fun h hp hy=>⟨⟨hp.1.blk,hp.1.Bc,hp.1.yK,fun g hg=>by rw[hp.2] at hg;simp at hg,hp.1.ans,hp.1.acc,h.1.out.mv hp.1.out hy⟩,hp.2⟩,fun hp=>hp.1.lt,fun hp=>hp.1.soft,fun hp=>hp.1.noC⟩
theorem Sys.pack(h:Sys x w (c::L)):Sys x w [c,uM L]:=by
 obtain⟨h1,h2⟩:=eu.1 h.sep;have hL:Sys x w L:=⟨fun b hb=>h.good b (cK _ hb),fun b hb=>h.at_ b (cK _ hb),h2⟩;refine⟨fun b hb=> ?_,fun b hb=> ?_,?_⟩
 ·simp only[ay,aI,bK] at hb
  rcases hb with rfl|rfl
  ·exact h.good _ lT
  exact BD hL.good
 ·simp only[ay,aI,bK] at hb
  rcases hb with rfl|rfl
  ·exact h.at_ _ lT
  exact hL
 simp only[eu,au,forall_eq,aI,kY,lF,iE,iY];intro k hk hm;obtain⟨b,hb,hkb⟩:=bg.1 hm;exact h1 b hb k hk hkb
theorem Sys.unpack(h:Sys x w [c,uM L]):Sys x w (c::L):=by
 have hc:c.P x w:=h.at_ c lT;have hL:Sys x w L:=h.at_ (uM L) lT;have hs:=eu.1 h.sep;refine⟨fun b hb=> ?_,fun b hb=> ?_,eu.2 ⟨fun b hb k hk hm=>hs.1 (uM L) lT k hk (bg.2 ⟨b,hb,hm⟩),hL.sep⟩⟩
 ·rcases ay.1 hb with rfl|hb
  ·exact h.good _ lT
  exact hL.good b hb
 rcases ay.1 hb with rfl|hb
 ·exact hc
 exact hL.at_ b hb
theorem EP(c:ni)(L:List ni):nE [c,uM L]=nE (c::L):=by simp[nE,uM]
theorem Step.pack{c':ni}(h:Step x w w' (c::L) (c'::L')):Step x w w' [c,uM L] [c',uM L']:=
 ⟨h.sys.pack,by rw[EP];exact h.only,by rw[EP,EP];exact h.new⟩
theorem Sys.node{LN LN':List ni}{a':ni}(h:Sys x w L)(h0:L[0]?=some a)(hj:L[j]?=some (uM LN))(hne:j≠0)(hst:Step x w w' (a::LN) (a'::LN')):Step x w w' L ((L.set 0 a').set j (uM LN')):=
 h.aav (i:=0) (j:=j) h0 hj (dR hne) hst.pack
theorem Sys.adE{LN:List ni}(h:Sys x w L)(h0:L[0]?=some a)(hj:L[j]?=some (uM LN))(hne:j≠0):Sys x w (a::LN):=(h.two h0 hj (dR hne)).unpack
structure UY(x:Nat)(w:World)(L:List ni)(f id:Int)(gk:Nat)(d:sI):Prop where
 sys:Sys x w L
 ck:qF x w f id gk d
 far: ∀k∈d.foot gk,k∉nE L
theorem UY.step(h:UY x w L f id gk d)(s:Step x w w' L L'):UY x w' L' f id gk d:=
 ⟨s.sys,h.ck.only s.only h.sys.soft h.far,fun k hk hm=>by
  rcases s.new k hm with e|e
  ·exact h.far k hk e
  have:=h.ck.lt k hk;omega⟩
theorem UY.below(h:UY x w L f id gk d)(hb:Be w w'):UY x w' L f id gk d:=h.step ((Step.refl h.sys).below hb)
theorem UY.own{d':sI}(h:UY x w L f id gk d)(hc:qF x w' f id gk d')(ho:Only (d.foot gk) w w')(hn: ∀k∈d'.foot gk,k∈d.foot gk\/w.heap.size<=k):UY x w' L f id gk d':=
 ⟨h.sys.only ho h.ck.soft h.ck.noC fun k hk hm=>h.far k hm hk,hc,fun k hk hm=>by
  rcases hn k hk with e|e
  ·exact h.far k e hm
  have:=h.sys.lt k hm;omega⟩
theorem UY.issue{x' nn:Nat}{K':KS}{d':sI}(h:UY x w L f id gk d)(h0:L[0]?=some (tZ nn b K))(hN:vC w' nn b K')(hc:qF x' w' f id gk d')(ho:Only (b::d.foot gk) w w')(hn: ∀k∈d'.foot gk,k∈d.foot gk\/w.heap.size<=k)(hx:x'=x\/w.heap.size<=x'):
  UY x' w' (L.set 0 (tZ nn b K')) f id gk d':=by
 have hb:b∈(tZ nn b K).foot:=by simp[tZ,nM]
 have g0:=h.sys.good _ (ak h0);have p0:=h.sys.get h0;have l0:0<L.length:=(ah.1 h0).1;have hS: ∀g∈b::d.foot gk,nV x w g:=fun g hg=>by
  rcases ay.1 hg with rfl|hg
  ·exact g0.soft p0 _ hb
  exact h.ck.soft g hg
 have hC:Nr w (b::d.foot gk):=fun g hg=>by
  rcases ay.1 hg with rfl|hg
  ·exact g0.noC p0 _ hb
  exact h.ck.noC g hg
 have key: ∀j c,j≠0->L[j]?=some c->c.P x' w':=fun j c hj hc'=>by
  have gc:=h.sys.good c (ak hc');have pc:=h.sys.get hc';have p1:=gc.only pc ho hS hC fun k hk hm=>by
   rcases ay.1 hm with rfl|hm
   ·exact h.sys.apart hc' h0 hj k hk hb
   exact h.far k hm (pY hc' hk)
  rcases hx with rfl|hx
  ·exact p1
  exact gc.mv pc p1 hx
 have e: ∀j c,(L.set 0 (tZ nn b K'))[j]?=some c->(j=0/\c=tZ nn b K')\/(j≠0/\L[j]?=some c):=fun j c hj=>by
  by_cases hj0:j=0
  ·subst hj0
   rw[aL l0] at hj;injection hj with hj;exact .inl ⟨rfl,hj.symm⟩
  rw[aX (dR hj0)] at hj;exact .inr ⟨hj0,hj⟩
 have hf: ∀k,k∈nE (L.set 0 (tZ nn b K'))->k∈nE L:=fun k hk=>by
  obtain⟨c,hc,hkc⟩:=bg.1 hk;obtain⟨j,hj⟩:=bT.1 hc;rcases e j c hj with⟨rfl,rfl⟩|⟨_,hj⟩
  ·exact pY h0 hkc
  exact pY hj hkc
 refine⟨⟨fun c hc=> ?_,fun c hc=> ?_,zO fun p q c1 c2 hpq h1 h2=> ?_⟩,hc,fun k hk hm=> ?_⟩
 ·obtain⟨j,hj⟩:=bT.1 hc
  rcases e j c hj with⟨rfl,rfl⟩|⟨_,hj⟩
  ·exact EX _ _ _
  exact h.sys.good c (ak hj)
 ·obtain⟨j,hj⟩:=bT.1 hc
  rcases e j c hj with⟨rfl,rfl⟩|⟨hj0,hj⟩
  ·exact hN
  exact key j c hj0 hj
 ·rcases e p c1 h1 with⟨rfl,rfl⟩|⟨hp0,hp⟩
  ·rcases e q c2 h2 with⟨rfl,_⟩|⟨hq0,hq⟩
   ·exact absurd rfl hpq
   exact fun k hk=>h.sys.apart h0 hq (dR hq0) k hk
  rcases e q c2 h2 with⟨rfl,rfl⟩|⟨hq0,hq⟩
  ·exact fun k hk=>h.sys.apart hp h0 hp0 k hk
  exact h.sys.apart hp hq hpq
 have hm:=hf k hm;rcases hn k hk with e|e
 ·exact h.far k e hm
 have:=h.sys.lt k hm;omega
end
theorem Vu(w:World)(a:OA)(m c:Nat)(l:LI)(hr:mo w a m 1 (l.map fun y:Int=>Value.int .i64 y))(hm:m<=4096)(z:Int)(r:Bool)(hz:r=decide (z∈l)):
  Y 41 #[.slice a m c,U z] w fun e w'=>e= .returned r/\w=w':=by
 have hl:l.length=m:=by have:=hr.1;simpa using this
 obtain⟨HZ,HR,HL⟩:=j3 hz hr hl;clear hz hr hl;go_enter func41,ntmps41
 go_wp2_with fail
 go_loopw [9] (fun q wr=> ∃k:Nat,k<=m/\q= U k/\wr=w/\ ∀j,j<k->l[j]?≠some z) (fun q _=>m -(intOf q).toNat)
 case atStart=>exact⟨0,lK,by first|rfl|simp,rfl,fun j hj=>absurd hj lK⟩
 case round=>
  obtain⟨k,hk,rfl,rfl,hno⟩:=hrel;have NO:=jj hno;clear hno;by_cases hlt:k<m
  ·have i1:(k:Int)<m:=lK
   have i2:(0:Int)<=k:=lK;obtain⟨b,off,rfl,hb,hcell⟩:=HR.2 lK;obtain⟨y,hy⟩: ∃y,l[k]?=some y:=⟨_,aj (by rw[HL.out];exact hlt)⟩;have c0:J wr b (off+k) (U y):=hcell k _ (by rw[aS,hy];rfl);have HY:=jj hy;clear hcell hy;by_cases e:y=z
   ·have e1:(y=z)=True:=by simp[e]
    have fin:r=true:=by rw[HZ.out];exact aZ (e▸ak HY)
    subst fin
    go_wp2_with fail
    go_ret;exact⟨by trivial,by trivial⟩
   go_wp2_with fail
   go_roundw
   case rel=>exact⟨k+1,lK,by go_num,trivial,fun j hj=>by
    by_cases h:j=k
    ·rw[h,HY.out]
     exact fun h=>e (dh h)
    exact NO.out j lK⟩
   simp[intOf];omega
  obtain rfl:k=m:=lK;have fin:r=false:=by
   rw[HZ.out];refine aR fun hm=> ?_;obtain⟨j,hj⟩:=bT.1 hm;exact NO.out j (by have:=(ah.1 hj).1;rw[HL.out] at this;exact this) hj
  subst fin
  go_wp2_with fail
  go_ret;exact⟨by trivial,by trivial⟩
namespace qM
def yw(n a b:Int):Bool:=decide (a<=n)&&decide (n<=b)
theorem pG(n a b:Int)(w:World):Y 70 #[U n,U a,U b] w fun e w'=>e= .returned (yw n a b)/\w=w':=by
 unfold yw;by_cases h1:a<=n
 all_goals
  go_enter func70,ntmps70
  go_wp2
  go_ret;exact⟨by first|(simp[h1];done)|(simp;omega),rfl⟩
def qY(c0 c1 c2 c3 c4 c5 c6 c7 c8 c9 c10 c11 c12 c13 c14:Int):Bool:=
 yw c0 1 4&&yw c1 1 4&&yw c2 1 4&&yw c3 1 16&&yw c4 1 256&&yw c5 1 64&&yw c6 1 64&&yw c7 2 64&&yw c8 0 8&&yw c9 1 8&&yw c10 2 64&&yw c11 0 64&&yw c12 2 64&&yw c13 1 16&&yw c14 1 64
theorem FV(f:Int)(w:World):Y 8 #[U f] w
  fun e w'=>e= .returned (.agg #[U f,U 2,U 2,U 4,U 64,U 8,U 8,U 8,U 1,U 2,U 12,U 8,U 6,U 2,U 6])/\Be w w':=by
 go_enter func8,ntmps8
 go_wp2
 refine dF (v:= .agg #[U f,U 2,U 2,U 4,U 64,U 8,U 8,U 8,U 1,U 2,U 12,U 8,U 6,U 2,U 6]) (by simp[results,Tryz.results8,go_sem]) rfl ⟨rfl,nC⟩
end qM
namespace qM

end qM
namespace qM
def wI(f c p:Int):Bool:=(decide (0<=p)&&decide (p<=3*f))||(decide (100<=p)&&decide (p<=99+c))
theorem Fa(f c p:Int)(b:Bool)(h:b=true↔(0<=p/\p<=3*f)\/(100<=p/\p<=99+c)):wI f c p=b:=by
 rw[kG,h];unfold wI;simp only[eZ,bX,dQ]
theorem Wm(c0 c1 c2 c3 c4 c5 c6 c7 c8 c9 c10 c11 c12 c13 c14 p:Int)(w:World)(h1:1<=c0)(h4:c0<=4)(hc1:1<=c1)(hc4:c1<=4):
  Y 40 #[.agg #[U c0,U c1,U c2,U c3,U c4,U c5,U c6,U c7,U c8,U c9,U c10,U c11,U c12,U c13,U c14],U p] w fun e w'=>e= .returned (wI c0 c1 p)/\Be w w':=by
 by_cases hx:0<=p/\p<=3*c0
 ·have e1:yw p 0 (3*c0)=true:=by simp[yw,hx.1,hx.2]
  have e2:wI c0 c1 p=true:=by simp[wI,hx.1,hx.2]
  rw[e2];clear e2 hx;go_enter func40,ntmps40
  go_wp2_with(first
   |(go_at_call 44;refine(oC _ _ h1 h4).mono ?_;rintro e w' ⟨rfl,rfl⟩)
   |(go_at_call 70;refine(pG _ _ _ _).mono ?_;rintro e w' ⟨rfl,rfl⟩))
  go_ret;exact⟨rfl,nC⟩
 have e1:yw p 0 (3*c0)=false:=by unfold yw;simp;omega
 have e2:wI c0 c1 p=yw p 100 (99+c1):=by
  unfold wI yw;rw[show(decide (0<=p)&&decide (p<=3*c0))=false by simp;omega,jV]
 have e3:yw p 100 (99+c1)=yw p 100 (100+c1 -1):=by rw[show 99+c1=100+c1 -1 by omega]
 rw[e2,e3];clear e2 e3 hx;go_enter func40,ntmps40
 go_wp2_with(first
  |(go_at_call 44;refine(oC _ _ h1 h4).mono ?_;rintro e w' ⟨rfl,rfl⟩)
  |(go_at_call 70;refine(pG _ _ _ _).mono ?_;rintro e w' ⟨rfl,rfl⟩))
 go_ret;exact⟨rfl,nC⟩
end qM
structure ClD where
 f:Int
 fa:Option Addr
 fm:Nat
 fc:Nat
 nn:Nat
 gn:Nat
 na:Option Addr
 nl:Nat
 nc:Nat
 ka:Option Addr
 kl:Nat
 kc:Nat
def Gq(d:ClD):Array Value:=#[U d.f,U 2,U 2,U 4,U 64,U 8,U 8,U 8,U 1,U 2,U 12,U 8,U 6,U 2,U 6,
 .slice d.fa d.fm d.fc,d.nn,d.gn,.slice d.na d.nl d.nc,.slice d.ka d.kl d.kc]
theorem Te(w:World)(gc:Nat)(d:ClD)(h:lQ w gc 99 (Gq d))(h1:1<=d.f)(h4:d.f<=4)(l:LI)(hr:mo w d.fa d.fm 1 (l.map fun y:Int=>Value.int .i64 y))(hm:d.fm<=4096)(p:Int)(r:Bool)(hz:r=(qM.wI d.f 2 p&&!decide (p∈l))):
  Y 86 #[gc,U p] w fun e w'=>e= .returned r/\Be w w':=by
 have HB:=jj h;have HR:=jj hr;obtain⟨tb,htb⟩:=ex (decide (p∈l));rw[<-htb] at hz;have HTB:=jj htb;clear htb;obtain⟨pb,hpb⟩:=ex (qM.wI d.f 2 p);rw[<-hpb] at hz;have HPB:=jj hpb;obtain⟨q0,q1,q2,q3,q4,q5,q6,q7,q8,q9⟩:=h.zA;have q10:=h.at_ 10;have q11:=h.at_ 11;have q12:=h.at_ 12;have q13:=h.at_ 13;have q14:=h.at_ 14;clear h hr;go_enter func86,ntmps86
 go_wp2_with fail
 refine(qM.Wm d.f 2 2 4 64 8 8 8 1 2 12 8 6 2 6 p _ h1 h4 lN lN).mono ?_;rintro e w1 ⟨rfl,hb1⟩;have B1:=jj hb1;have q15:J w1 gc 15 (.slice d.fa d.fm d.fc):=(HB.below hb1 HB.lt).cell 15;rw[<-HPB.out];clear hb1 q0 q1 q2 q3 q4 q5 q6 q7 q8 q9 q10 q11 q12 q13 q14 hpb;cases pb
 ·have fin:r=false:=by rw[hz];rfl
  clear hz HPB;subst fin
  go_wp2_with fail
  go_ret;exact⟨by trivial,B1⟩
 go_wp2_with fail
 refine(Vu w1 d.fa d.fm d.fc l (HR.below B1) hm p tb HTB).mono ?_;rintro e w2 ⟨rfl,rfl⟩;have fin:r=!tb:=by rw[hz];simp
 clear hz HPB HTB;subst fin
 go_wp2_with fail
 go_ret;exact⟨by first|rfl|trivial|simp,B1⟩
def wG(t:TypeId)(s:Nat)(a:OA)(m c:Nat)(xs:LV):ni:=nM (a.map (·.block)).toList fun w=>w.ownsRow 0 t s (.slice a m c) m xs
theorem uJ(t:TypeId)(s:Nat)(a:OA)(m c:Nat)(xs:LV)(ht:t∉KH/\t≠228):(wG t s a m c xs).Good:=
 Pure.good ⟨fun hp ho hn=>DJ hp ho hn,fun hp k hk=>by
  obtain⟨_,cs,hb⟩:=lW hp k hk;exact hb.lt,fun hp k hk=>Plain.own hp ht k hk⟩
structure Ka where
 gx:Nat
 d:lU
def xR(f:Int)(n id:Nat):Option Ka->ni
 |none=>uM []
 |some p=>uM (sF f id n p.gx p.d)
def tY:Option Ka->Value
 |none=> .pointer none
 |some p=> .pointer (some ⟨p.gx,0,none⟩)
structure Eu where
 n:Nat
 gc:Nat
 b:Nat
 cd:ClD
 fl:List Int
 nd:uU
 nodes:List (Option Ka)
 ks:List ni
 kp:List Value
def nW(f:Int)(n:Nat):Nat->List (Option Ka)->List ni
 |_,[]=> []
 |i,p::l=>xR f n i p::nW f n (i+1) l
theorem FN(f:Int)(n:Nat): ∀(l:List (Option Ka)) (i k:Nat),(nW f n i l)[k]?=l[k]?.map (xR f n (i+k))
 | [],i,k=>by simp[nW]
 |p::l,i,0=>by simp[nW]
 |p::l,i,k+1=>by
  rw[nW,List.getElem?_cons_succ,List.getElem?_cons_succ,FN f n l (i+1) k,show i+1+k=i+(k+1) by omega]
theorem FP(f:Int)(n:Nat)(q:Option Ka): ∀(l:List (Option Ka)) (i k:Nat),nW f n i (l.set k q)=(nW f n i l).set k (xR f n (i+k) q)
 | [],i,k=>by simp[nW]
 |p::l,i,0=>by simp[nW]
 |p::l,i,k+1=>by
  rw[List.set_cons_succ,nW,nW,List.set_cons_succ,FP f n q l (i+1) k,show i+1+k=i+(k+1) by omega]
theorem qy(f:Int)(n:Nat): ∀(l:List (Option Ka)) (i:Nat),(nW f n i l).length=l.length
 | [],i=>rfl
 |p::l,i=>by simp[nW,qy f n l (i+1)]
def Eu.cs(C:Eu)(K:KS):List ni:=
 tZ C.cd.nn C.b K::mW C.gc 99 (Gq C.cd)::xS C.cd.gn 64 C.nd::wG 52 1 C.cd.na C.cd.nl C.cd.nc (C.nodes.map tY)::wG 41 1 C.cd.ka C.cd.kl C.cd.kc C.kp::wG 3 1 C.cd.fa C.cd.fm C.cd.fc (C.fl.map fun y:Int=>Value.int .i64 y)::(nW C.cd.f C.n 0 C.nodes++C.ks)
abbrev Eu.net(C:Eu)(nd:uU):Eu:={C with nd:=nd}
abbrev Eu.node(C:Eu)(i:Nat)(p:Ka):Eu:={C with nodes:=C.nodes.set i (some p)}
theorem Eu.Vm(C:Eu)(K:KS){p:Option Ka}(h:C.nodes[i]?=some p):(C.cs K)[6+i]?=some (xR C.cd.f C.n i p):=by
 have hi:i<(nW C.cd.f C.n 0 C.nodes).length:=by rw[qy];exact(ah.1 h).1
 rw[show 6+i=i+6 by omega];show(nW C.cd.f C.n 0 C.nodes++C.ks)[i]?=_;rw[bC hi,FN,h,aO];rfl
theorem Dw{α β:Type}(g:α->β)(l:List α)(i:Nat)(a p:α)(h:l[i]?=some p)(e:g a=g p):(l.set i a).map g=l.map g:=by
 rw[eT,e];refine dD fun j=> ?_;by_cases hj:j=i
 ·subst hj
  have hl:=(ah.1 h).1;rw[aL (mR hl),aS,h];rfl
 rw[aX (dR hj)]
section
variable{x:Nat}{w w':World}{C:Eu}{K K':KS}{i:Nat}{p:Ka}{d':lU}
theorem Eu.adw(h:C.nodes[i]?=some (some p))(K':KS)(d':lU):((C.cs K).set 0 (tZ C.cd.nn C.b K')).set (6+i) (uM (sF C.cd.f i C.n p.gx d'))=(C.node i ⟨p.gx,d'⟩).cs K':=by
 have hi:i<(nW C.cd.f C.n 0 C.nodes).length:=by rw[qy];exact(ah.1 h).1
 have e:(C.nodes.set i (some ⟨p.gx,d'⟩)).map tY=C.nodes.map tY:=Dw tY _ _ _ _ h rfl;unfold Eu.cs;rw[show 6+i=i+6 by omega];simp only[e,List.set_cons_zero,List.set_cons_succ,FP,aO];rw[jw _ _ hi];rfl
theorem Eu.nat(h:Sys x w (C.cs K))(hp:C.nodes[i]?=some (some p))(hnn:p.d.nn=C.cd.nn):qE x w C.cd.f C.n i p.gx C.b p.d K:=by
 have:=h.adE (a:=tZ C.cd.nn C.b K) (LN:=sF C.cd.f i C.n p.gx p.d) rfl (C.Vm K hp) lK;rw[<-hnn] at this;exact this
theorem Eu.YB(h:Sys x w (C.cs K))(hp:C.nodes[i]?=some (some p))(hnn:p.d.nn=C.cd.nn)(aoP:d'.nn=p.d.nn)(hst:mP x w w' C.cd.f C.n i p.gx C.b p.d K d' K'):Step x w w' (C.cs K) ((C.node i ⟨p.gx,d'⟩).cs K'):=by
 rw[<-Eu.adw (K:=K) hp K' d'];refine h.node (a:=tZ C.cd.nn C.b K) (LN:=sF C.cd.f i C.n p.gx p.d) rfl (C.Vm K hp) lK ?_;have e:=hst;unfold mP nu at e;rw[aoP,hnn] at e;exact e
end
theorem EN{a:OA}(h:mo w a n 7 (es.flatMap pF))(hn:es.length=n)(k:Nat)(hk:k<n): ∃b off,a=some ⟨b,off,none⟩/\b<w.heap.size/\
  ∃e,es[k]?=some e/\J w b (off+k*7) (U e.1.1)/\J w b (off+k*7+1) (U e.1.2.1)/\J w b (off+k*7+2) (U e.1.2.2.1)/\J w b (off+k*7+3) (U e.1.2.2.2.1)/\
   J w b (off+k*7+4) (U e.1.2.2.2.2.1)/\J w b (off+k*7+5) (U e.1.2.2.2.2.2)/\J w b (off+k*7+6) (U e.2):=by
 obtain⟨b,off,rfl,hlt,hc⟩:=h.2 lK;have hk':k<es.length:=lK;have key: ∀j v,j<7->(pF es[k])[j]?=some v->J w b (off+k*7+j) v:=fun j v hj hv=>by
  rw[dL];exact hc _ _ (nT pF 7 vP es k j hj hk' v hv)
 exact⟨b,off,rfl,hlt,es[k],aj hk',key 0 _ lK rfl,key 1 _ lK rfl,key 2 _ lK rfl,key 3 _ lK rfl,key 4 _ lK rfl,key 5 _ lK rfl,key 6 _ lK rfl⟩


theorem ahD{base:Nat}{e:TypeId}{a:OA}{xs:LV}(h:w.ownsRow base e s (.slice a n c) n xs): ∀p,a=some p->base<=p.block:=by
 rintro p rfl;exact(h.lt p.block (by simp[Value.ownBlock])).1
theorem UF(a1:OA)(n1 c1:Nat)(a2:OA)(n2 c2:Nat)(E:List CY)(w:World)(h1:mo w a1 n1 7 (E.flatMap pF))(h2:mo w a2 n2 7 (E.flatMap pF))(l1:E.length=n1)(l2:E.length=n2)(hn:n1<=4096):
  Y 19 #[.slice a1 n1 c1,.slice a2 n2 c2] w fun e w'=>e= .returned true/\Be w w':=by
 have hnn:n1=n2:=lK;subst hnn;obtain⟨H1,H2,LE⟩:=j3 h1 h2 l1;clear h1 h2 l1 l2;go_enter func19,ntmps19
 go_wp2_with fail
 go_loopw [5] (fun i wr=> ∃k:Nat,k<=n1/\i= U k/\Be w wr) (fun i _=>n1 -(intOf i).toNat)
 case atStart=>exact⟨0,lK,rfl,aC _ _⟩
 case round=>
  obtain⟨k,hk,rfl,hb⟩:=hrel;have B:=jj hb;by_cases hlt:k<n1
  ·obtain⟨b1,o1,rfl,hb1,⟨⟨x0,x1,x2,x3,x4,x5⟩,x6⟩,he1,p0,p1,p2,p3,p4,p5,p6⟩:=EN (H1.below B) LE k hlt
   obtain⟨b2,o2,rfl,hb2,e2,he2,q0,q1,q2,q3,q4,q5,q6⟩:=EN (H2.below B) LE k hlt;rw[he1] at he2;cases he2;simp only at p0 p1 p2 p3 p4 p5 p6 q0 q1 q2 q3 q4 q5 q6;have i0:(0:Int)<=k:=lK;have i1:(k:Int)<n1:=lK;clear he1 hb1 hb2 hb
   go_wp2_with fail
   go_quiet(fail)
   go_wp2_with fail
   refine⟨⟨k+1,lK,by go_num,below_drewN B nq⟩,by simp[intOf];omega⟩
  clear hb
  go_wp2_with fail
  go_ret;exact⟨rfl,B⟩
theorem QJ(S:LN)(gd C:Nat)(es:List CY)(st:List (Bool×Int))(ct:List (Int×Int))(w:World)(h:Er w S gd C es st ct)(hm:es.length<=4096):
  Y 56 #[gd] w fun e w'=> ∃S' Md,e= .returned (Md:Nat)/\Er w' S' Md C es st ct/\(∀k∈S',w.heap.size<=k)/\Be w w':=by
 obtain⟨gs,gc,gl,al,cl,hS,k1,k2,k3,k4⟩:=h.ex;have L:=jj h;have C4:=jj (show 1<=ct.length/\ct.length<=4 by rw[h.len];exact h.c);have a0:=k1.at_ 0;have a2:=k1.at_ 2;have a3:=k1.at_ 3;have K3:=jj k3;have K4:=jj k4;obtain⟨n,hn⟩:=ex es.length;rw[<-hn] at hm;have N:=jj hn;clear h k1 k2 k3 k4 hS hn;go_enter func56,ntmps56
 go_upto_region 1 with fail
 have KS: ∀w',Be w w'->J w' gd 0 (U C)/\J w' gd 2 gs/\J w' gd 3 gc/\Be w w':=
  fun w' o=>⟨kept o _ _ a0,kept o _ _ a2,kept o _ _ a3,o⟩
 refine rP (fun w'=>J w' gd 0 (U C)/\J w' gd 2 gs/\J w' gd 3 gc/\Be w w') 19 (tk 0 5 (tk 6 4 (tk 11 4 (.one 5 (.one 10 (.one 15 (.take 16 (.one 17 (.take 18 .done))))))))) (KS _ (aC _ _).drew) ?_;intro hS0;have E1:Be w w.drew:=(aC _ _).drew
 repeat refine' tT ?_
 refine pO fun KT lS=> ?_;go_simp;refine(aaY S gd C es st ct _ (L.below E1) n N.symm hm).mono ?_;rintro e w2 ⟨a5,c5,rfl,h5,hb2⟩;have E2:Be w w2:=E1.trans (hb2.mono E1.size);refine oI lS (KS _ E2) fun _=> ?_
 repeat refine' tT ?_
 refine pO fun KT lS=> ?_;go_simp;refine(ab0 gs st _ (K3.below E2)).mono ?_;rintro e w3 ⟨gt,rfl,h6,hgt,hb3⟩;have E3:Be w w3:=E2.trans (hb3.mono E2.size);refine oI lS (KS _ E3) fun _=> ?_
 repeat refine' tT ?_
 refine pO fun KT lS=> ?_;go_simp;refine(Z5 gc gl ct _ (K4.below E3) C4.1 C4.2).mono ?_;rintro e w4 ⟨gd4,gk4,rfl,h7,hd4,hk4,hb4⟩;have E4:Be w w4:=E3.trans (hb4.mono E3.size);refine oI lS (KS _ E4) fun _=> ?_
 repeat refine' tT ?_
 refine pO fun KT lS=> ?_;go_simp;have E5:=E4.alloc E4.size (.cells #[U C,.slice a5 n c5,gt,gd4] 135);refine oI lS (KS _ E5) fun _=> ?_
 repeat refine' tT ?_
 refine lM ?_;have b5:Be w4 (w4.alloc (.cells #[U C,.slice a5 n c5,gt,gd4] 135)):=nC;have o5:=own_below (own_below (own_below h5 hb3) hb4) b5;have FIN:Hid (∃S',Er (w4.alloc (.cells #[U C,.slice a5 n c5,gt,gd4] 135)) S' w4.heap.size C es st ct/\(∀k∈S',w.heap.size<=k)):=by
  refine jj ⟨_,⟨⟨gt,gd4,gk4,a5,c5,rfl,by rw[<-N.out];exact lQ.new _ _ _,by rw[<-N.out];exact mO o5 (bF _),(h6.below hb4).below b5,h7.below b5⟩,L.c,L.len,L.sm⟩,fun k hk=> ?_⟩;simp only[ay] at hk;rcases hk with rfl|rfl|rfl|rfl|hk
  ·exact E4.size
  ·exact aG E2.size hgt
  ·exact aG E3.size hd4
  ·exact aG E3.size hk4
  cases a5 with
  |none=>cases hk
  |some p=>
   simp only[blks,au] at hk;subst hk;exact ahD h5 p rfl
 clear o5 b5 h5 h6 h7
 go_wp2_with fail
 go_ret;obtain⟨S',h8,h9⟩:=FIN.out;exact⟨S',_,rfl,h8,h9,E5⟩
theorem ahz(x:Nat)(w:World)(f:Int)(n id gx b:Nat)(d:lU)(K:KS)(h:qE x w f n id gx b d K):
  Y 88 #[gx] w fun e w'=>e= .returned (.slice d.oa d.ol.length d.oc)/\mP x w w' f n id gx b d K (d.outs none 0 []) K/\Only [gx] w w'/\Sys x w' (nu f n id gx b (d.outs none 0 []) K++ [Cv d.oa d.oc d.ol]):=by
 have H:=jj h;have c34:=h.blk.at_ 34;have f34:=h.blk.frozen 34;clear h;go_enter func88,ntmps88
 go_wp2_with fail
 go_ret;have hB:=H.blk.mg 34 ();have ho:Only [gx] w (w.setCell ⟨gx,34,none⟩ ()):=(Only.refl [gx] w).setCell (.inl lT) _;have st:=(Step.refl H).sent (A:=none) (c:=0) (L:= []) hB (nJ.nil _ _) (ho.mono fun k hk=> .inl (ay.2 (.inl (mR hk)))) (fun k hk=>by simp at hk);refine⟨by trivial,st,ho,st.sys.add (H.out.out.only ho (fun g hg=>by simp only[au] at hg;subst hg;exact nV.of H.blk lN) fun g hg hm=> ?_) (EY _ _ _) fun k hk hm=> ?_⟩
 ·simp only[au] at hm
  subst hm;exact mG H.out.out.own H.blk lN (by rw[lV,hg])
 obtain⟨c,hc,hkc⟩:=bg.1 hm;have e:nu f n id gx b (d.outs none 0 []) K=((nu f n id gx b d K).set 1 (mW gx 131 (yB f id (d.outs none 0 [])))).set 13 (Cv none 0 []):=rfl;rw[e] at hc;obtain⟨j,hj⟩:=bT.1 hc;have ao4:13<(nu f n id gx b d K).length:=by simp[nu,sF]
 by_cases h13:j=13
 ·subst h13
  rw[aL (mR ao4)] at hj;injection hj with hj;subst hj;simp[Cv] at hkc
 rw[aX (dR h13)] at hj;by_cases h1:j=1
 ·subst h1
  rw[aL lK] at hj;injection hj with hj;subst hj;simp only[mW,nM,au] at hkc;subst hkc;exact H.apart (i:=1) (j:=13) rfl rfl lN k (by simp[mW,nM]) hk
 rw[aX (dR h1)] at hj;exact H.apart (j:=13) hj rfl h13 k hkc hk
theorem Xx(x:Nat)(w:World)(C:Eu)(K:KS)(h:Sys x w (C.cs K))(hn:C.nd.ps.length=C.nd.n)(h64:C.nd.n<=64)(src:Int)(A:OA)(m c:Nat)(SL:List wN)(hO:nJ x w A m c SL)(hm:m<=4096)(M:Nat->List LI)(hM:zD C.nd.ps src (uy SL) C.nd.val=some M):
  Y 48 #[C.gc,U src,.slice A m c] w fun e w'=>e= .returned (.tuple #[])/\ ∃g' ms',Step x w w' (C.cs K) ((C.net (C.nd.qs g' C.nd.lost ms')).cs K)/\(C.nd.qs g' C.nd.lost ms').val=M:=by
 refine(adv x w (C.cs K) h 2 1 C.gc C.cd.gn (Gq C.cd) C.nd rfl rfl lN rfl hn h64 src A m c SL hO hm M hM).mono ?_;rintro e w' ⟨rfl,g',ms',hst,hv⟩;exact⟨rfl,g',ms',hst,hv⟩
theorem aau(w:World)(f cl:Int)(h1:1<=f)(h4:f<=4)(ba va ca pa:OA)(bc vc cc pc:Nat)(s r0 r1 r2 r3 r4 r5:Int)(hr:qc w ba 1 bc [(r0,r1,r2,r3,r4,r5)])(hv:mq cl (r0,r1,r2,r3,r4,r5)=true)(hs:s=100+r0)(h0:0<=r0/\r0<4):
  Y 155 #[.agg #[U 1,U s,U 0,U 0,U 0,U 0,.slice ba 1 bc,.slice va 0 vc,.slice ca 0 cc,.slice pa 0 pc],U f,U cl] w fun e w'=>e= .returned true/\Be w w':=by
 have HV:Hid (∀r∈ [((r0,r1,r2,r3,r4,r5):Rq)],mq cl r=true):=jj (mR hv);have HR:=jj hr;obtain⟨gb,off,rfl,hlt2,x0,x1,x2,x3,x4,x5,hx,z0,-,-,-,-,-⟩:=hr.get (k:=0) lK;obtain rfl:x0=r0:=by simp at hx;exact hx.1.symm
 have e5:IntKind.i64.wrap (s -100)=x0:=by rw[aH _ lK];omega
 have i5:(100:Int)<=s:=lK;have Z0:=jj z0;clear hr hv hx hlt2 z0 hs;go_enter func155,ntmps155
 go_upto_region 2 with fail
 generalize hv1:w.alloc _=v1;generalize hg3:w.heap.size=g3;replace hv1:=hv1.symm;replace hg3:=hg3.symm;obtain⟨v2,hv2⟩:=ex (v1.alloc (.cells #[U f,U cl] 331));obtain⟨g7,sM⟩:=ex v1.heap.size;have eg:g3+1=g7:=by rw[sM,hv1,hg3];simp
 try rw[eg]
 try rw[<-sM]
 rw[<-hv2];have X7:=xNew hv2 sM;have X3:Hid (lQ v2 g3 82 #[U 1,U s,U 0,U 0,U 0,U 0,.slice (some ⟨gb,off,none⟩) 1 bc,.slice va 0 vc,.slice ca 0 cc,.slice pa 0 pc]):=jj (by rw[hv2];refine lQ.alloc ?_ _;rw[hv1,hg3];exact lQ.new _ _ _);have B2:Hid (Be w v2):=jj (by rw[hv2,hv1];exact(nC.alloc lT _));clear hv1 hv2 sM hg3 eg;obtain⟨d0,d1,d2,d3,d4,d5,d6,d7,d8,d9⟩:=X3.zA;obtain⟨l0,l1⟩:=X7.a2;have q1: ¬3*f+1=0:=lK
 go_wp2_with fail
 refine(oC f _ h1 h4).mono ?_;rintro e w' ⟨rfl,rfl⟩
 go_upto_region 5 with fail
 clear d0 d1 d2 d3 d4 d5 d6 d7 d8 d9 l0 l1;have KS: ∀w',Be v2 w'->J w' g3 0 (U 1)/\J w' g3 1 (U s)/\J w' g3 2 (U 0)/\J w' g3 3 (U 0)/\J w' g3 4 (U 0)/\J w' g3 5 (U 0)/\J w' g3 6 (.slice (some ⟨gb,off,none⟩) 1 bc)/\J w' g3 7 (.slice va 0 vc)/\J w' g3 8 (.slice ca 0 cc)/\J w' g3 9 (.slice pa 0 pc)/\J w' g7 0 (U f)/\J w' g7 1 (U cl)/\J w' gb off (U x0):=fun w' o=>
  have u:=X3.below o X3.lt;have v:=X7.below o X7.lt
  ⟨u.cell 0,u.cell 1,u.cell 2,u.cell 3,u.cell 4,u.cell 5,u.cell 6,u.cell 7,u.cell 8,u.cell 9,v.cell 0,v.cell 1,kept o _ _ (kept B2 _ _ Z0)⟩
 refine rD (fun w'=>J w' g3 0 (U 1)/\J w' g3 1 (U s)/\J w' g3 2 (U 0)/\J w' g3 3 (U 0)/\J w' g3 4 (U 0)/\J w' g3 5 (U 0)/\J w' g3 6 (.slice (some ⟨gb,off,none⟩) 1 bc)/\J w' g3 7 (.slice va 0 vc)/\J w' g3 8 (.slice ca 0 cc)/\J w' g3 9 (.slice pa 0 pc)/\J w' g7 0 (U f)/\J w' g7 1 (U cl)/\J w' gb off (U x0)) 37 (tk 0 8 (.one 8 (.one 9 (.take 10 (.take 11 (.one 12 (tk 13 5 (.one 18 (tk 19 18 .done))))))))) (KS _ (aC _ _).drew) fun u0 D0 hS0=> ?_
 repeat(first|refine' tT ?_|refine' tS ?_)
 refine pO fun KT lS=> ?_;go_simp;generalize hu:u0.alloc _=u1;generalize hgn:u0.heap.size=gn;replace hu:=hu.symm;replace hgn:=hgn.symm;have D1:=jj (D0.trans (show Below v2.heap.size u0 u1 by rw[hu];exact(aC _ _).alloc (by exact D0.size) _));have XN:=xNew hu hgn;clear hu hgn;have S1:=KS _ D1;refine oH lS S1 ?_;clear hS0;have hS0:=S1;clear S1
 repeat(first|refine' tT ?_|refine' tS ?_)
 refine pO fun KT lS=> ?_;go_simp;refine(EW _ gn 4 4 [0,0,0,0] XN rfl lT lK).mono ?_;rintro e u2 ⟨rfl,hb⟩;have D2:Hid (Be v2 u2):=jj (by rw[<-hb];exact D1.out);clear hb;have S2:=KS _ D2;refine oH lS S2 ?_;clear hS0;have hS0:=S2;clear S2
 repeat(first|refine' tT ?_|refine' tS ?_)
 refine pO fun KT lS=> ?_;go_simp;refine(Im _ 1 s 0 0 0 0 (some ⟨gb,off,none⟩) va ca pa 1 bc vc 0 cc pc).mono ?_;rintro e u3 ⟨rfl,hb⟩;have D3:=nO D2 hb;clear hb;have S3:=KS _ D3;refine oH lS S3 ?_;clear hS0;have hS0:=S3;clear S3
 repeat(first|refine' tT ?_|refine' tS ?_)
 refine pO fun KT lS=> ?_;go_simp;refine(yA f cl 1 1 _ (some ⟨gb,off,none⟩) 1 bc _ (HR.below (B2.trans (D3.mono B2.size))) HV lK lN).mono ?_;rintro e u4 ⟨rfl,hb⟩;have D4:=nO D3 hb;clear hb;have S4:=KS _ D4;refine oH lS S4 ?_;clear hS0;have hS0:=S4;clear S4
 repeat(first|refine' tT ?_|refine' tS ?_)
 refine lM ?_;clear hS0 KS
 go_wp2_with fail
 go_ret;exact⟨by trivial,B2.trans (D4.mono B2.size)⟩
theorem XG(w:World)(f cl:Int)(h1:1<=f)(h4:f<=4)(ba va ca pa:OA)(bc vc cc pc:Nat)(s:Int)(hs:qU s 0 (3*f)=true)(bs:List Rq)(hr:qc w ba 1 bc bs)(hv: ∀r∈bs,mq cl r=true):
  Y 155 #[.agg #[U 2,U s,U 0,U 0,U 0,U 0,.slice ba 1 bc,.slice va 0 vc,.slice ca 0 cc,.slice pa 0 pc],U f,U cl] w fun e w'=>e= .returned true/\Be w w':=by
 obtain⟨HS,HR,HV⟩:=j3 hs hr hv;clear hs hr hv;go_enter func155,ntmps155
 go_upto_region 2 with fail
 generalize hv1:w.alloc _=v1;generalize hg3:w.heap.size=g3;replace hv1:=hv1.symm;replace hg3:=hg3.symm;obtain⟨v2,hv2⟩:=ex (v1.alloc (.cells #[U f,U cl] 331));obtain⟨g7,sM⟩:=ex v1.heap.size;have eg:g3+1=g7:=by rw[sM,hv1,hg3];simp
 try rw[eg]
 try rw[<-sM]
 rw[<-hv2];have X7:=xNew hv2 sM;have X3:Hid (lQ v2 g3 82 #[U 2,U s,U 0,U 0,U 0,U 0,.slice ba 1 bc,.slice va 0 vc,.slice ca 0 cc,.slice pa 0 pc]):=jj (by rw[hv2];refine lQ.alloc ?_ _;rw[hv1,hg3];exact lQ.new _ _ _);have B2:Hid (Be w v2):=jj (by rw[hv2,hv1];exact(nC.alloc lT _));clear hv1 hv2 sM hg3 eg;obtain⟨d0,d1,d2,d3,d4,d5,d6,d7,d8,d9⟩:=X3.zA;obtain⟨l0,l1⟩:=X7.a2;have q1: ¬3*f+1=0:=lK
 go_wp2_with fail
 refine(oC f _ h1 h4).mono ?_;rintro e w' ⟨rfl,rfl⟩
 go_wp2_with fail
 refine(Bj f cl s _ h1 h4 true HS).mono ?_;rintro e w3 ⟨rfl,hb⟩;have B3:=nO B2 hb;have Ij:=jj (X3.below hb X3.lt);have Ik:=jj (X7.below hb X7.lt);clear hb;clear d0 d1 d2 d3 d4 d5 d6 d7 d8 d9 l0 l1;obtain⟨d0,d1,d2,d3,d4,d5,d6,d7,d8,d9⟩:=Ij.zA;obtain⟨l0,l1⟩:=Ik.a2;have XN:Hid (lQ (w3.alloc (.cells #[U 0,U 0,U 0,U 0] 3)) w3.heap.size 3 (ints [0,0,0,0])):=jj (lQ.new _ _ _)
 go_wp2_with fail
 refine(EW _ w3.heap.size 4 4 [0,0,0,0] XN rfl lT lK).mono ?_;rintro e w' ⟨rfl,rfl⟩;obtain⟨w4,hw4⟩:=ex (w3.alloc (.cells #[U 0,U 0,U 0,U 0] 3));have hb:=(tQ hw4).out;rw[<-hw4];have B4:=nO B3 hb;have Xl:=jj (Ij.below hb Ij.lt);have Xm:=jj (Ik.below hb Ik.lt);clear hb hw4 XN;clear d0 d1 d2 d3 d4 d5 d6 d7 d8 d9 l0 l1;obtain⟨d0,d1,d2,d3,d4,d5,d6,d7,d8,d9⟩:=Xl.zA;obtain⟨l0,l1⟩:=Xm.a2
 go_wp2_with fail
 refine(Im _ 2 s 0 0 0 0 ba va ca pa 1 bc vc 0 cc pc).mono ?_;rintro e w5 ⟨rfl,hb⟩;have B5:=nO B4 hb;have ZG:=jj (Xl.below hb Xl.lt);have ZH:=jj (Xm.below hb Xm.lt);clear hb;clear d0 d1 d2 d3 d4 d5 d6 d7 d8 d9 l0 l1;obtain⟨d0,d1,d2,d3,d4,d5,d6,d7,d8,d9⟩:=ZG.zA;obtain⟨l0,l1⟩:=ZH.a2
 go_wp2_with fail
 refine(yA f cl 1 1 _ ba 1 bc bs (HR.below B5) HV lK lN).mono ?_;rintro e w6 ⟨rfl,hb⟩;have B6:=nO B5 hb;have X36:=jj (ZG.below hb ZG.lt);have X76:=jj (ZH.below hb ZH.lt);clear hb;clear d0 d1 d2 d3 d4 d5 d6 d7 d8 d9 l0 l1;obtain⟨d0,d1,d2,d3,d4,d5,d6,d7,d8,d9⟩:=X36.zA;obtain⟨l0,l1⟩:=X76.a2;clear d0 d1 d2 d3 d4 d5 d6 d7 d8 d9 l0 l1
 go_wp2_with fail
 go_ret;exact⟨by trivial,B6⟩
theorem adz(w:World)(f cl:Int)(h1:1<=f)(h4:f<=4)(ba va ca pa:OA)(bc vc cc pc:Nat)(s k q:Int)(bn:Nat)(hs:qU s 0 (3*f)=true)(hk:qU k 0 f=true)(hq:qU q 1 16=true)(hsk:s=k)(bs:List Rq)(hr:qc w ba bn bc bs)(hv: ∀r∈bs,mq cl r=true)(hb4:qU bn 1 4=true):
  Y 155 #[.agg #[U 3,U s,U 0,U k,U q,U 0,.slice ba bn bc,.slice va 0 vc,.slice ca 0 cc,.slice pa 0 pc],U f,U cl] w fun e w'=>e= .returned true/\Be w w':=by
 obtain⟨HS,HK,HQ,HR,HV,HB4⟩:=j6 hs hk hq hr hv hb4;have hbn:bn<=4096:=by simp[qU] at hb4;omega
 have hkk:0<=k/\k<=f:=by simp[qU] at hk;omega
 clear hs hk hq hr hv hb4;subst hsk;go_enter func155,ntmps155
 go_upto_region 2 with fail
 generalize hv1:w.alloc _=v1;generalize hg3:w.heap.size=g3;replace hv1:=hv1.symm;replace hg3:=hg3.symm;obtain⟨v2,hv2⟩:=ex (v1.alloc (.cells #[U f,U cl] 331));obtain⟨g7,sM⟩:=ex v1.heap.size;have eg:g3+1=g7:=by rw[sM,hv1,hg3];simp
 try rw[eg]
 try rw[<-sM]
 rw[<-hv2];have X7:=xNew hv2 sM;have X3:Hid (lQ v2 g3 82 #[U 3,U s,U 0,U s,U q,U 0,.slice ba bn bc,.slice va 0 vc,.slice ca 0 cc,.slice pa 0 pc]):=jj (by rw[hv2];refine lQ.alloc ?_ _;rw[hv1,hg3];exact lQ.new _ _ _);have B2:Hid (Be w v2):=jj (by rw[hv2,hv1];exact(nC.alloc lT _));clear hv1 hv2 sM hg3 eg;obtain⟨d0,d1,d2,d3,d4,d5,d6,d7,d8,d9⟩:=X3.zA;obtain⟨l0,l1⟩:=X7.a2;have q1: ¬3*f+1=0:=lK
 go_wp2_with fail
 refine(oC f _ h1 h4).mono ?_;rintro e w' ⟨rfl,rfl⟩
 go_wp2_with fail
 refine(Bj f cl s _ h1 h4 true HS).mono ?_;rintro e w3 ⟨rfl,hb⟩;have B3:=nO B2 hb;have Ij:=jj (X3.below hb X3.lt);have Ik:=jj (X7.below hb X7.lt);clear hb;clear d0 d1 d2 d3 d4 d5 d6 d7 d8 d9 l0 l1;obtain⟨d0,d1,d2,d3,d4,d5,d6,d7,d8,d9⟩:=Ij.zA;obtain⟨l0,l1⟩:=Ik.a2
 go_upto_region 12 with fail
 clear d0 d1 d2 d3 d4 d5 d6 d7 d8 d9 l0 l1;have KS: ∀w',Be w3 w'->J w' g3 0 (U 3)/\J w' g3 1 (U s)/\J w' g3 2 (U 0)/\J w' g3 3 (U s)/\J w' g3 4 (U q)/\J w' g3 5 (U 0)/\J w' g3 6 (.slice ba bn bc)/\J w' g3 7 (.slice va 0 vc)/\J w' g3 8 (.slice ca 0 cc)/\J w' g3 9 (.slice pa 0 pc)/\J w' g7 0 (U f)/\J w' g7 1 (U cl):=fun w' o=>
  have u:=Ij.below o Ij.lt;have v:=Ik.below o Ik.lt
  ⟨u.cell 0,u.cell 1,u.cell 2,u.cell 3,u.cell 4,u.cell 5,u.cell 6,u.cell 7,u.cell 8,u.cell 9,v.cell 0,v.cell 1⟩
 refine rD (fun w'=>J w' g3 0 (U 3)/\J w' g3 1 (U s)/\J w' g3 2 (U 0)/\J w' g3 3 (U s)/\J w' g3 4 (U q)/\J w' g3 5 (U 0)/\J w' g3 6 (.slice ba bn bc)/\J w' g3 7 (.slice va 0 vc)/\J w' g3 8 (.slice ca 0 cc)/\J w' g3 9 (.slice pa 0 pc)/\J w' g7 0 (U f)/\J w' g7 1 (U cl)) 35 (tk 0 5 (.one 5 (tk 6 9 (.one 15 (tk 16 5 (.one 21 (tk 22 9 (.one 31 (tk 32 3 .done))))))))) (KS _ (aC _ _).drew) fun u0 D0 hS0=> ?_
 repeat(first|refine' tT ?_|refine' tS ?_)
 refine pO fun KT lS=> ?_;go_simp;refine(Im _ 3 s 0 s q 0 ba va ca pa bn bc vc 0 cc pc).mono ?_;rintro e u1 ⟨rfl,hb⟩;have D1:=nO D0 hb;clear hb;have S1:=KS _ D1;refine oH lS S1 ?_;clear hS0;have hS0:=S1;clear S1
 repeat(first|refine' tT ?_|refine' tS ?_)
 refine pO fun KT lS=> ?_;go_simp;refine(Af f cl 0 s q _ lN HK HQ).mono ?_;rintro e u2 ⟨rfl,hb⟩;have D2:=nO D1 hb;clear hb;have S2:=KS _ D2;refine oH lS S2 ?_;clear hS0;have hS0:=S2;clear S2
 repeat(first|refine' tT ?_|refine' tS ?_)
 refine pO fun KT lS=> ?_;go_simp;refine(yA f cl 1 4 _ ba bn bc bs (HR.below (B3.trans (D2.mono B3.size))) HV hbn HB4).mono ?_;rintro e u3 ⟨rfl,hb⟩;have D3:=nO D2 hb;clear hb;have S3:=KS _ D3;refine oH lS S3 ?_;clear hS0;have hS0:=S3;clear S3
 repeat(first|refine' tT ?_|refine' tS ?_)
 refine pO fun KT lS=> ?_;go_simp;refine(MP f s _ h1 h4 hkk).mono ?_;rintro e u4 ⟨rfl,hb⟩;have D4:Hid (Be w3 u4):=jj (by rw[<-hb];exact D3.out);clear hb;have S4:=KS _ D4;refine oH lS S4 ?_;clear hS0;have hS0:=S4;clear S4
 repeat(first|refine' tT ?_|refine' tS ?_)
 refine lM ?_;clear hS0 KS
 go_wp2_with fail
 go_ret;exact⟨by trivial,B3.trans (D4.mono B3.size)⟩
theorem Tt(w:World)(f cl:Int)(h1:1<=f)(h4:f<=4)(ba va ca pa:OA)(bc vc cc pc:Nat)(s k q:Int)(bn:Nat)(hs:qU s 0 (3*f)=true)(hk:qU k 0 f=true)(hq:qU q 1 16=true)(bs:List Rq)(hr:qc w ba bn bc bs)(hv: ∀r∈bs,mq cl r=true)(hb4:qU bn 0 4=true):
  Y 155 #[.agg #[U 4,U s,U 0,U k,U q,U 0,.slice ba bn bc,.slice va 0 vc,.slice ca 0 cc,.slice pa 0 pc],U f,U cl] w fun e w'=>e= .returned true/\Be w w':=by
 obtain⟨HS,HK,HQ,HR,HV,HB4⟩:=j6 hs hk hq hr hv hb4;have hbn:bn<=4096:=by simp[qU] at hb4;omega
 clear hs hk hq hr hv hb4;go_enter func155,ntmps155
 go_upto_region 2 with fail
 generalize hv1:w.alloc _=v1;generalize hg3:w.heap.size=g3;replace hv1:=hv1.symm;replace hg3:=hg3.symm;obtain⟨v2,hv2⟩:=ex (v1.alloc (.cells #[U f,U cl] 331));obtain⟨g7,sM⟩:=ex v1.heap.size;have eg:g3+1=g7:=by rw[sM,hv1,hg3];simp
 try rw[eg]
 try rw[<-sM]
 rw[<-hv2];have X7:=xNew hv2 sM;have X3:Hid (lQ v2 g3 82 #[U 4,U s,U 0,U k,U q,U 0,.slice ba bn bc,.slice va 0 vc,.slice ca 0 cc,.slice pa 0 pc]):=jj (by rw[hv2];refine lQ.alloc ?_ _;rw[hv1,hg3];exact lQ.new _ _ _);have B2:Hid (Be w v2):=jj (by rw[hv2,hv1];exact(nC.alloc lT _));clear hv1 hv2 sM hg3 eg;obtain⟨d0,d1,d2,d3,d4,d5,d6,d7,d8,d9⟩:=X3.zA;obtain⟨l0,l1⟩:=X7.a2;have q1: ¬3*f+1=0:=lK
 go_wp2_with fail
 refine(oC f _ h1 h4).mono ?_;rintro e w' ⟨rfl,rfl⟩
 go_wp2_with fail
 refine(Bj f cl s _ h1 h4 true HS).mono ?_;rintro e w3 ⟨rfl,hb⟩;have B3:=nO B2 hb;have Ij:=jj (X3.below hb X3.lt);have Ik:=jj (X7.below hb X7.lt);clear hb;clear d0 d1 d2 d3 d4 d5 d6 d7 d8 d9 l0 l1;obtain⟨d0,d1,d2,d3,d4,d5,d6,d7,d8,d9⟩:=Ij.zA;obtain⟨l0,l1⟩:=Ik.a2
 go_wp2_with fail
 refine(Im _ 4 s 0 k q 0 ba va ca pa bn bc vc 0 cc pc).mono ?_;rintro e w4 ⟨rfl,hb⟩;have B4:=nO B3 hb;have Xl:=jj (Ij.below hb Ij.lt);have Xm:=jj (Ik.below hb Ik.lt);clear hb;clear d0 d1 d2 d3 d4 d5 d6 d7 d8 d9 l0 l1;obtain⟨d0,d1,d2,d3,d4,d5,d6,d7,d8,d9⟩:=Xl.zA;obtain⟨l0,l1⟩:=Xm.a2
 go_wp2_with fail
 refine(Af f cl 0 k q _ lN HK HQ).mono ?_;rintro e w5 ⟨rfl,hb⟩;have B5:=nO B4 hb;have ZG:=jj (Xl.below hb Xl.lt);have ZH:=jj (Xm.below hb Xm.lt);clear hb;clear d0 d1 d2 d3 d4 d5 d6 d7 d8 d9 l0 l1;obtain⟨d0,d1,d2,d3,d4,d5,d6,d7,d8,d9⟩:=ZG.zA;obtain⟨l0,l1⟩:=ZH.a2
 go_wp2_with fail
 refine(yA f cl 0 4 _ ba bn bc bs (HR.below B5) HV hbn HB4).mono ?_;rintro e w6 ⟨rfl,hb⟩;have B6:=nO B5 hb;have X36:=jj (ZG.below hb ZG.lt);have X76:=jj (ZH.below hb ZH.lt);clear hb;clear d0 d1 d2 d3 d4 d5 d6 d7 d8 d9 l0 l1;obtain⟨d0,d1,d2,d3,d4,d5,d6,d7,d8,d9⟩:=X36.zA;obtain⟨l0,l1⟩:=X76.a2;clear d0 d1 d2 d3 d4 d5 d6 d7 d8 d9 l0 l1
 go_wp2_with fail
 go_ret;exact⟨by trivial,B6⟩
theorem Tv(w:World)(f cl:Int)(h1:1<=f)(h4:f<=4)(ba va ca pa:OA)(bc vc cc pc:Nat)(s k q:Int)(bn:Nat)(hs:qU s 0 (3*f)=true)(hk:qU k 0 f=true)(hq:qU q 1 16=true)(bs:List Rq)(hr:qc w ba bn bc bs)(hv: ∀r∈bs,mq cl r=true)(hb4:qU bn 0 4=true):
  Y 155 #[.agg #[U 5,U s,U 0,U k,U q,U 0,.slice ba bn bc,.slice va 0 vc,.slice ca 0 cc,.slice pa 0 pc],U f,U cl] w fun e w'=>e= .returned true/\Be w w':=by
 obtain⟨HS,HK,HQ,HR,HV,HB4⟩:=j6 hs hk hq hr hv hb4;have hbn:bn<=4096:=by simp[qU] at hb4;omega
 clear hs hk hq hr hv hb4;go_enter func155,ntmps155
 go_upto_region 2 with fail
 generalize hv1:w.alloc _=v1;generalize hg3:w.heap.size=g3;replace hv1:=hv1.symm;replace hg3:=hg3.symm;obtain⟨v2,hv2⟩:=ex (v1.alloc (.cells #[U f,U cl] 331));obtain⟨g7,sM⟩:=ex v1.heap.size;have eg:g3+1=g7:=by rw[sM,hv1,hg3];simp
 try rw[eg]
 try rw[<-sM]
 rw[<-hv2];have X7:=xNew hv2 sM;have X3:Hid (lQ v2 g3 82 #[U 5,U s,U 0,U k,U q,U 0,.slice ba bn bc,.slice va 0 vc,.slice ca 0 cc,.slice pa 0 pc]):=jj (by rw[hv2];refine lQ.alloc ?_ _;rw[hv1,hg3];exact lQ.new _ _ _);have B2:Hid (Be w v2):=jj (by rw[hv2,hv1];exact(nC.alloc lT _));clear hv1 hv2 sM hg3 eg;obtain⟨d0,d1,d2,d3,d4,d5,d6,d7,d8,d9⟩:=X3.zA;obtain⟨l0,l1⟩:=X7.a2;have q1: ¬3*f+1=0:=lK
 go_wp2_with fail
 refine(oC f _ h1 h4).mono ?_;rintro e w' ⟨rfl,rfl⟩
 go_wp2_with fail
 refine(Bj f cl s _ h1 h4 true HS).mono ?_;rintro e w3 ⟨rfl,hb⟩;have B3:=nO B2 hb;have Ij:=jj (X3.below hb X3.lt);have Ik:=jj (X7.below hb X7.lt);clear hb;clear d0 d1 d2 d3 d4 d5 d6 d7 d8 d9 l0 l1;obtain⟨d0,d1,d2,d3,d4,d5,d6,d7,d8,d9⟩:=Ij.zA;obtain⟨l0,l1⟩:=Ik.a2
 go_wp2_with fail
 refine(Im _ 5 s 0 k q 0 ba va ca pa bn bc vc 0 cc pc).mono ?_;rintro e w4 ⟨rfl,hb⟩;have B4:=nO B3 hb;have Xl:=jj (Ij.below hb Ij.lt);have Xm:=jj (Ik.below hb Ik.lt);clear hb;clear d0 d1 d2 d3 d4 d5 d6 d7 d8 d9 l0 l1;obtain⟨d0,d1,d2,d3,d4,d5,d6,d7,d8,d9⟩:=Xl.zA;obtain⟨l0,l1⟩:=Xm.a2
 go_wp2_with fail
 refine(Af f cl 0 k q _ lN HK HQ).mono ?_;rintro e w5 ⟨rfl,hb⟩;have B5:=nO B4 hb;have ZG:=jj (Xl.below hb Xl.lt);have ZH:=jj (Xm.below hb Xm.lt);clear hb;clear d0 d1 d2 d3 d4 d5 d6 d7 d8 d9 l0 l1;obtain⟨d0,d1,d2,d3,d4,d5,d6,d7,d8,d9⟩:=ZG.zA;obtain⟨l0,l1⟩:=ZH.a2
 go_wp2_with fail
 refine(yA f cl 0 4 _ ba bn bc bs (HR.below B5) HV hbn HB4).mono ?_;rintro e w6 ⟨rfl,hb⟩;have B6:=nO B5 hb;have X36:=jj (ZG.below hb ZG.lt);have X76:=jj (ZH.below hb ZH.lt);clear hb;clear d0 d1 d2 d3 d4 d5 d6 d7 d8 d9 l0 l1;obtain⟨d0,d1,d2,d3,d4,d5,d6,d7,d8,d9⟩:=X36.zA;obtain⟨l0,l1⟩:=X76.a2;clear d0 d1 d2 d3 d4 d5 d6 d7 d8 d9 l0 l1
 go_wp2_with fail
 go_ret;exact⟨by trivial,B6⟩
theorem Tq(w:World)(f cl:Int)(h1:1<=f)(h4:f<=4)(ba va ca pa:OA)(bc vc cc pc:Nat)(s:Int)(hs:qU s 0 (3*f)=true)(cd:CD)(hr:mo w ca 1 5 (nS cd))(hi:cd.Is w)(hl:ae9 f cl cd):
  Y 155 #[.agg #[U 9,U s,U 0,U 0,U 0,U 0,.slice ba 0 bc,.slice va 0 vc,.slice ca 1 cc,.slice pa 0 pc],U f,U cl] w fun e w'=>e= .returned true/\Be w w':=by
 obtain⟨HS,HI,HL⟩:=j3 hs hi hl;obtain⟨gb,off,rfl,hlt2,hz⟩:=hr.2 lK;obtain⟨c0,c1,c2,xa,xn,xc,xs,ya,yn,yc,ys⟩:=cd;have z0:J w gb off (U c0):=hz 0 _ rfl;have z1:=hz 1 _ rfl;have z2:=hz 2 _ rfl;have z3:=hz 3 _ rfl;have z4:=hz 4 _ rfl;obtain⟨Z0,Z1,Z2,Z3,Z4⟩:=j5 z0 z1 z2 z3 z4;clear hs hr hi hl hlt2 hz z0 z1 z2 z3 z4;go_enter func155,ntmps155
 go_upto_region 2 with fail
 generalize hv1:w.alloc _=v1;generalize hg3:w.heap.size=g3;replace hv1:=hv1.symm;replace hg3:=hg3.symm;obtain⟨v2,hv2⟩:=ex (v1.alloc (.cells #[U f,U cl] 331));obtain⟨g7,sM⟩:=ex v1.heap.size;have eg:g3+1=g7:=by rw[sM,hv1,hg3];simp
 try rw[eg]
 try rw[<-sM]
 rw[<-hv2];have X7:=xNew hv2 sM;have X3:Hid (lQ v2 g3 82 #[U 9,U s,U 0,U 0,U 0,U 0,.slice ba 0 bc,.slice va 0 vc,.slice (some ⟨gb,off,none⟩) 1 cc,.slice pa 0 pc]):=jj (by rw[hv2];refine lQ.alloc ?_ _;rw[hv1,hg3];exact lQ.new _ _ _);have B2:Hid (Be w v2):=jj (by rw[hv2,hv1];exact(nC.alloc lT _));clear hv1 hv2 sM hg3 eg;obtain⟨d0,d1,d2,d3,d4,d5,d6,d7,d8,d9⟩:=X3.zA;obtain⟨l0,l1⟩:=X7.a2;have q1: ¬3*f+1=0:=lK
 go_wp2_with fail
 refine(oC f _ h1 h4).mono ?_;rintro e w' ⟨rfl,rfl⟩
 go_wp2_with fail
 refine(Bj f cl s _ h1 h4 true HS).mono ?_;rintro e w3 ⟨rfl,hb⟩;have B3:=nO B2 hb;have Ij:=jj (X3.below hb X3.lt);have Ik:=jj (X7.below hb X7.lt);clear hb;clear d0 d1 d2 d3 d4 d5 d6 d7 d8 d9 l0 l1;obtain⟨d0,d1,d2,d3,d4,d5,d6,d7,d8,d9⟩:=Ij.zA;obtain⟨l0,l1⟩:=Ik.a2
 go_upto_region 23 with fail
 clear d0 d1 d2 d3 d4 d5 d6 d7 d8 d9 l0 l1;have KS: ∀w',Be w3 w'->J w' g3 0 (U 9)/\J w' g3 1 (U s)/\J w' g3 2 (U 0)/\J w' g3 3 (U 0)/\J w' g3 4 (U 0)/\J w' g3 5 (U 0)/\J w' g3 6 (.slice ba 0 bc)/\J w' g3 7 (.slice va 0 vc)/\J w' g3 8 (.slice (some ⟨gb,off,none⟩) 1 cc)/\J w' g3 9 (.slice pa 0 pc)/\J w' g7 0 (U f)/\J w' g7 1 (U cl)/\J w' gb off (U c0)/\J w' gb (off+1) (U c1)/\J w' gb (off+2) (U c2)/\J w' gb (off+3) (.slice xa xn xc)/\J w' gb (off+4) (.slice ya yn yc):=fun w' o=>
  have u:=Ij.below o Ij.lt;have v:=Ik.below o Ik.lt
  ⟨u.cell 0,u.cell 1,u.cell 2,u.cell 3,u.cell 4,u.cell 5,u.cell 6,u.cell 7,u.cell 8,u.cell 9,v.cell 0,v.cell 1,kept o _ _ (kept B3 _ _ Z0),kept o _ _ (kept B3 _ _ Z1),kept o _ _ (kept B3 _ _ Z2),kept o _ _ (kept B3 _ _ Z3),kept o _ _ (kept B3 _ _ Z4)⟩
 refine rD (fun w'=>J w' g3 0 (U 9)/\J w' g3 1 (U s)/\J w' g3 2 (U 0)/\J w' g3 3 (U 0)/\J w' g3 4 (U 0)/\J w' g3 5 (U 0)/\J w' g3 6 (.slice ba 0 bc)/\J w' g3 7 (.slice va 0 vc)/\J w' g3 8 (.slice (some ⟨gb,off,none⟩) 1 cc)/\J w' g3 9 (.slice pa 0 pc)/\J w' g7 0 (U f)/\J w' g7 1 (U cl)/\J w' gb off (U c0)/\J w' gb (off+1) (U c1)/\J w' gb (off+2) (U c2)/\J w' gb (off+3) (.slice xa xn xc)/\J w' gb (off+4) (.slice ya yn yc)) 29 (tk 0 8 (.one 8 (.one 9 (.take 10 (.take 11 (.one 12 (tk 13 13 (.one 26 (.take 27 (.take 28 .done)))))))))) (KS _ (aC _ _).drew) fun u0 D0 hS0=> ?_
 repeat(first|refine' tT ?_|refine' tS ?_)
 refine pO fun KT lS=> ?_;go_simp;generalize hu:u0.alloc _=u1;generalize hgn:u0.heap.size=gn;replace hu:=hu.symm;replace hgn:=hgn.symm;have D1:=jj (D0.trans (show Below w3.heap.size u0 u1 by rw[hu];exact(aC _ _).alloc (by exact D0.size) _));have XN:=xNew hu hgn;clear hu hgn;have S1:=KS _ D1;refine oH lS S1 ?_;clear hS0;have hS0:=S1;clear S1
 repeat(first|refine' tT ?_|refine' tS ?_)
 refine pO fun KT lS=> ?_;go_simp;refine(EW _ gn 4 4 [0,0,0,0] XN rfl lT lK).mono ?_;rintro e u2 ⟨rfl,hb⟩;have D2:Hid (Be w3 u2):=jj (by rw[<-hb];exact D1.out);clear hb;have S2:=KS _ D2;refine oH lS S2 ?_;clear hS0;have hS0:=S2;clear S2
 repeat(first|refine' tT ?_|refine' tS ?_)
 refine pO fun KT lS=> ?_;go_simp;refine(agG _ 9 s 0 0 0 0 ba va (some ⟨gb,off,none⟩) pa 0 bc vc 1 cc pc).mono ?_;rintro e u3 ⟨rfl,hb⟩;have D3:=nO D2 hb;clear hb;have S3:=KS _ D3;refine oH lS S3 ?_;clear hS0;have hS0:=S3;clear S3
 repeat(first|refine' tT ?_|refine' tS ?_)
 refine pO fun KT lS=> ?_;go_simp;refine(ad7 f cl _ h1 h4 ⟨c0,c1,c2,xa,xn,xc,xs,ya,yn,yc,ys⟩ (HI.below (B3.trans (D3.mono B3.size))) HL).mono ?_;rintro e u4 ⟨rfl,hb⟩;have D4:=nO D3 hb;clear hb;have S4:=KS _ D4;refine oH lS S4 ?_;clear hS0;have hS0:=S4;clear S4
 repeat(first|refine' tT ?_|refine' tS ?_)
 refine lM ?_;clear hS0 KS
 go_wp2_with fail
 go_ret;exact⟨by trivial,B3.trans (D4.mono B3.size)⟩
theorem aat(w:World)(f cl:Int)(h1:1<=f)(h4:f<=4)(ba va ca pa:OA)(bc vc cc pc:Nat)(s k q r:Int)(hs:qU s 0 (3*f)=true)(hc:1<=cl/\cl<=4)(hk:qU k 0 (cl -1)=true)(hq:qU q 1 1048576=true)(hr:qU r (-549755813887) 549755813887=true):
  Y 155 #[.agg #[U 10,U s,U 0,U k,U q,U r,.slice ba 0 bc,.slice va 0 vc,.slice ca 0 cc,.slice pa 0 pc],U f,U cl] w fun e w'=>e= .returned true/\Be w w':=by
 obtain⟨HS,HK,HQ,HR⟩:=j4 hs hk hq hr;have e5:IntKind.i64.wrap (cl -1)=cl -1:=aH _ lK;clear hs hk hq hr;go_enter func155,ntmps155
 go_upto_region 2 with fail
 generalize hv1:w.alloc _=v1;generalize hg3:w.heap.size=g3;replace hv1:=hv1.symm;replace hg3:=hg3.symm;obtain⟨v2,hv2⟩:=ex (v1.alloc (.cells #[U f,U cl] 331));obtain⟨g7,sM⟩:=ex v1.heap.size;have eg:g3+1=g7:=by rw[sM,hv1,hg3];simp
 try rw[eg]
 try rw[<-sM]
 rw[<-hv2];have X7:=xNew hv2 sM;have X3:Hid (lQ v2 g3 82 #[U 10,U s,U 0,U k,U q,U r,.slice ba 0 bc,.slice va 0 vc,.slice ca 0 cc,.slice pa 0 pc]):=jj (by rw[hv2];refine lQ.alloc ?_ _;rw[hv1,hg3];exact lQ.new _ _ _);have B2:Hid (Be w v2):=jj (by rw[hv2,hv1];exact(nC.alloc lT _));clear hv1 hv2 sM hg3 eg;obtain⟨d0,d1,d2,d3,d4,d5,d6,d7,d8,d9⟩:=X3.zA;obtain⟨l0,l1⟩:=X7.a2;have q1: ¬3*f+1=0:=lK
 go_wp2_with fail
 refine(oC f _ h1 h4).mono ?_;rintro e w' ⟨rfl,rfl⟩
 go_wp2_with fail
 refine(Bj f cl s _ h1 h4 true HS).mono ?_;rintro e w3 ⟨rfl,hb⟩;have B3:=nO B2 hb;have Ij:=jj (X3.below hb X3.lt);have Ik:=jj (X7.below hb X7.lt);clear hb;clear d0 d1 d2 d3 d4 d5 d6 d7 d8 d9 l0 l1;obtain⟨d0,d1,d2,d3,d4,d5,d6,d7,d8,d9⟩:=Ij.zA;obtain⟨l0,l1⟩:=Ik.a2
 go_wp2_with fail
 refine(agH _ 10 s 0 k q r ba va ca pa 0 bc vc 0 cc pc).mono ?_;rintro e w4 ⟨rfl,hb⟩;have B4:=nO B3 hb;have Xl:=jj (Ij.below hb Ij.lt);have Xm:=jj (Ik.below hb Ik.lt);clear hb;clear d0 d1 d2 d3 d4 d5 d6 d7 d8 d9 l0 l1;obtain⟨d0,d1,d2,d3,d4,d5,d6,d7,d8,d9⟩:=Xl.zA;obtain⟨l0,l1⟩:=Xm.a2
 go_wp2_with fail
 refine(rU k 0 (cl -1) _ true HK).mono ?_;rintro e w' ⟨rfl,rfl⟩
 go_wp2_with fail
 refine(rU q 1 1048576 _ true HQ).mono ?_;rintro e w' ⟨rfl,rfl⟩
 go_wp2_with fail
 refine(rU r (-549755813887) 549755813887 _ true HR).mono ?_;rintro e w' ⟨rfl,rfl⟩;clear d0 d1 d2 d3 d4 d5 d6 d7 d8 d9 l0 l1
 go_wp2_with fail
 go_ret;exact⟨by trivial,B4⟩
theorem Fb  {fn:Func} {p u v:Tmp} {ty:TypeId} (h:fn.results=#[.cell p ty,.tmp u,.tmp v]) (tmps:AV) (w:World) (g:Nat) (t:TypeId) (cs:AV) (fr:Nat×Nat) (d:TypeDesc)
  (hp:tmps.getD p undef= .pointer (some ⟨g,0,none⟩)) (hg:w.heap[g]?=some (.cells cs t fr))
  (hu:P.underlying ty=some d) (hd:(match d with| .struct _| .array _ _=>true|_=>false)=true) (hi:(P.info? ty).map (·.size)=some cs.size):
  (results fn tmps).run P w= .ok (.tuple #[.agg cs,tmps.getD u undef,tmps.getD v undef]) w:=by
 have hp':tmps[p]?.getD undef= .pointer (some ⟨g,0,none⟩):=by simpa using hp
 simp[results,h,hp',asAddr,run_loadVar_row w g t ty cs fr d hg hu hd hi]
theorem adA{T E o:Nat}(hT:P.underlying T=some (.slice E))(hE:P.elem T=E)(hs: ∀w:World,(sizeOf E).run P w= .ok s w)(k:Nat)(hk:k<n)(hc:n<=c)(w:World):
  (Instr.slice T (.slice (some ⟨b,o,none⟩) n c) (some (U k)) none none).run P w= .ok (.slice (some ⟨b,o+k*s,none⟩) (n -k) (c -k)) w:=by
 have h:=lH (P:=P) (w:=w) T (some ⟨b,o,none⟩) n c (by rw[hE];exact hT) .i64 k lK lK;rw[h,hE,hs w];show Result.ok (sliced (some ⟨b,o,none⟩) ((k:Int).toNat) n c s) w=_;rw[Int.toNat_natCast];simp only[sliced];rw[aU lK];simp[addr_add]
theorem ab7(w:World):(sizeOf 5).run prog w= .ok 1 w:=by
 obtain⟨i,hi,_,hs,_⟩:=bq wU;simp[sizeOf,typeInfo,hi,hs]
theorem ZU(M:Ms):0<(lX M).length:=by
 have:=(qz M.kind.toNat).1;simp only[lX,av];omega
theorem abt (w:World) (nn b:Nat) (K:List (Int×List Int)) (hN:vC w nn b K) (f cl:Int) (A:OA) (m c:Nat) (bs:LI) (M:Ms) (z:Int) (hz:qh z) (hs:xE K M z) (hbs:bs=mD z.toNat++lX M) (hm:bs.length=m) (hm2:m<=65536) (hc:m<=c)
  (hv:mo w A m 1 (mZ bs)) (x:Nat) (hx:x<w.heap.size)
  (hf: ∀(w':World) (d:MD),nA d=M->d.Is w'->Y 155 #[.agg (oM d).toArray,U f,U cl] w' fun e w''=>e= .returned true/\Be w' w''):
  Y 119 #[.slice A m c,U f,U cl,nn] w fun e w'=> ∃d:MD,e= .returned (.tuple #[.agg (oM d).toArray,U z,U 0])/\nA d=M/\MF x w' d/\Be w w':=by
 obtain⟨zn,rfl⟩:=bB hz.1;rw[Int.toNat_natCast] at hbs;have zl:zn<1099511627776:=by have:=hz.2;omega
 obtain⟨k,hk⟩:=ex ((mD zn).length);have kl:=(qz zn).1;have bp:=ZU M;have hlen:m=k+(lX M).length:=by rw[<-hm,hbs,av,hk]
 obtain⟨bb,off,rfl,hlt,hcell⟩:=hv.2 lK;have SL: ∀w,(Instr.slice 140 (.slice (some ⟨bb,off,none⟩) m c) (some (U k)) none none).run prog w= .ok (.slice (some ⟨bb,off+k*1,none⟩) (m -k) (c -k)) w:=adA underlying140 (by kernel_rfl) ab7 k lK hc;obtain⟨m2,ag7⟩:=ex (m -k);obtain⟨o2,ho2⟩:=ex (off+k*1);obtain⟨c2,hc2⟩:=ex (c -k);rw[<-ag7,<-ho2,<-hc2] at SL;have V2:Hid (mo w (some ⟨bb,o2,none⟩) m2 1 (mZ (lX M))):=jj (by
  obtain⟨b',o',e,h⟩:=hv.from_ (k:=k) lK;injection e with e;injection e with e1 e2;subst e1 e2;have e3:(mZ bs).drop (k*1)=mZ (lX M):=by rw[hbs,wR,hk,fP];simp[mZ]
  rw[e3] at h;rw[ho2,ag7];exact h)
 have HL2:Hid ((lX M).length=m2):=jj lK;have aoL:m2<=65536:=lK;have TK:=jj (fun w' (h:Be w w')=>AL (some ⟨bb,off,none⟩) m c bs 0 zn zl hm lK w' (hv.below h) ⟨lX M,by rw[hbs];simp⟩);obtain⟨HN,HS,HX,HF⟩:=j4 hN hs hx hf;have HK:Hid ((0+(mD zn).length:Nat)=k):=jj lK;have i0: ¬(65536:Int)<m:=lK;clear hN hs hx hf hv hm hbs hlen hlt hcell kl bp hk hz zl ag7 ho2 hc2;go_enter func119,ntmps119
 go_upto_region 1 with fail
 generalize hw1:w.alloc _=w1;generalize hg8:w.heap.size=g8;replace hw1:=hw1.symm;replace hg8:=hg8.symm;obtain⟨B1,K1⟩:=nw hw1 hg8;have GE:Hid (w.heap.size<=g8):=jj lK;clear hw1 hg8
 go_wp2_with fail
 refine(TK.out _ B1).mono ?_;rintro e w' ⟨rfl,rfl⟩;rw[HK.out]
 go_wp2_with fail
 refine(aew _ (some ⟨bb,o2,none⟩) m2 c2 (lX M) M HS.ok rfl HL2 aoL (V2.below B1) x (aB HX B1.size)).mono ?_;rintro e w3 ⟨d,rfl,hd,TF,hb3⟩;have B3:=nO B1 hb3;have K3:=jj (K1.below hb3 K1.lt);have MF3:=jj TF;have HD:=jj hd;clear hb3 TF hd;obtain⟨m0,m1,m2_,m3,m4,m5,ba,bn,bc,br,va,vn,vc,vs,ca,cn,cc,cs,pa,pc⟩:=d;rw[show(oM ⟨m0,m1,m2_,m3,m4,m5,ba,bn,bc,br,va,vn,vc,vs,ca,cn,cc,cs,pa,pc⟩).toArray=#[U m0,U m1,U m2_,U m3,U m4,U m5,.slice ba bn bc,.slice va vn vc,.slice ca cn cc,.slice pa 0 pc] from rfl];have e0:=K3.at_ 0;have z0:=K3.frozen 0;have e1:=K3.at_ 1;have z1:=K3.frozen 1;have e2:=K3.at_ 2;have z2:=K3.frozen 2;have e3:=K3.at_ 3;have z3:=K3.frozen 3;have e4:=K3.at_ 4;have z4:=K3.frozen 4;have e5:=K3.at_ 5;have z5:=K3.frozen 5;have e6:=K3.at_ 6;have z6:=K3.frozen 6;have e7:=K3.at_ 7;have z7:=K3.frozen 7;have e8:=K3.at_ 8;have z8:=K3.frozen 8;have e9:=K3.at_ 9;have z9:=K3.frozen 9
 go_upto_region 7 with fail
 obtain⟨w4,hw4⟩:=ex (setW w3 g8 0 [U m0,U m1,U m2_,U m3,U m4,U m5,.slice ba bn bc,.slice va vn vc,.slice ca cn cc,.slice pa 0 pc]);have K4:=jj (uL hw4 K3);have O4:=jj (vM hw4);simp only[setW,aO,Nat.reduceAdd] at hw4;rw[<-hw4];clear hw4;clear e0 z0 e1 z1 e2 z2 e3 z3 e4 z4 e5 z5 e6 z6 e7 z7 e8 z8 e9 z9;have B4:Hid (Be w w4):=jj (O4.below B3 B3.size (mR GE.out));have MF4:=jj (MF3.only O4 (mR (nV.of K3 lN)) (Nr.of K3 lN));have SN:Hid (M.sender=m1):=jj (by rw[<-HD.out];rfl);have KS: ∀w',Be w4 w'->J w' g8 0 (U m0)/\J w' g8 1 (U m1)/\J w' g8 2 (U m2_)/\J w' g8 3 (U m3)/\J w' g8 4 (U m4)/\J w' g8 5 (U m5)/\J w' g8 6 (.slice ba bn bc)/\J w' g8 7 (.slice va vn vc)/\J w' g8 8 (.slice ca cn cc)/\J w' g8 9 (.slice pa 0 pc):=fun w' o=>
  have u:=K4.below o K4.lt
  ⟨u.cell 0,u.cell 1,u.cell 2,u.cell 3,u.cell 4,u.cell 5,u.cell 6,u.cell 7,u.cell 8,u.cell 9⟩
 refine rP (fun w'=>J w' g8 0 (U m0)/\J w' g8 1 (U m1)/\J w' g8 2 (U m2_)/\J w' g8 3 (U m3)/\J w' g8 4 (U m4)/\J w' g8 5 (U m5)/\J w' g8 6 (.slice ba bn bc)/\J w' g8 7 (.slice va vn vc)/\J w' g8 8 (.slice ca cn cc)/\J w' g8 9 (.slice pa 0 pc)) 20 (tk 0 6 (.one 6 (tk 7 10 (.one 17 (.take 18 (.take 19 .done)))))) (KS _ (aC _ _).drew) ?_;intro hS0
 repeat refine' tT ?_
 refine pO fun KT lS=> ?_;go_simp;refine(HF.out _ ⟨m0,m1,m2_,m3,m4,m5,ba,bn,bc,br,va,vn,vc,vs,ca,cn,cc,cs,pa,pc⟩ HD (MF4.below (aC _ _).drew).md).mono ?_;rintro e w5 ⟨rfl,hb5⟩;have BB:=jj ((aC w4.heap.size w4).drew.trans hb5);have B5:=jj (B4.trans (BB.mono B4.size));clear hb5;have S5:=KS _ BB;refine oH lS S5 ?_;clear hS0;have hS0:=S5
 repeat refine' tT ?_
 refine pO fun KT lS=> ?_;go_simp;refine(Jo nn b K m1 (some ⟨bb,o2,none⟩) m2 c2 (lX M) zn _ (HN.below B5) (V2.below B5) (by rw[<-SN.out];exact HS.key) true (by rw[<-SN.out];simp only[aZ HS.mem,aZ HS.num,kZ])).mono ?_;rintro e w6' ⟨rfl,j,rfl⟩;obtain⟨w6,zN⟩:=ex (w5.drewN j);rw[<-zN];have BB6:Hid (Be w4 w6):=jj (by rw[zN];exact below_drewN BB j);have B6:Hid (Be w w6):=jj (by rw[zN];exact below_drewN B5 j);clear zN;have S6:=KS _ BB6;refine oH lS S6 ?_;clear hS0 S5;have hS0:=S6
 repeat refine' tT ?_
 refine lM ?_;clear hS0 S6 KS;have K6:=jj (K4.below BB6 K4.lt);have e0:=K6.at_ 0;have z0:=K6.frozen 0;have e1:=K6.at_ 1;have z1:=K6.frozen 1;have e2:=K6.at_ 2;have z2:=K6.frozen 2;have e3:=K6.at_ 3;have z3:=K6.frozen 3;have e4:=K6.at_ 4;have z4:=K6.frozen 4;have e5:=K6.at_ 5;have z5:=K6.frozen 5;have e6:=K6.at_ 6;have z6:=K6.frozen 6;have e7:=K6.at_ 7;have z7:=K6.frozen 7;have e8:=K6.at_ 8;have z8:=K6.frozen 8;have e9:=K6.at_ 9;have z9:=K6.frozen 9
 go_wp2_with fail
 obtain⟨w7,hw7⟩:=ex (setW w6 g8 0 [U m0,U m1,U m2_,U m3,U m4,U m5,.slice ba bn bc,.slice va vn vc,.slice ca cn cc,.slice pa 0 pc]);have K7:=uL hw7 K6;have O7:=vM hw7;simp only[setW,aO,Nat.reduceAdd] at hw7;rw[<-hw7];clear hw7;clear e0 z0 e1 z1 e2 z2 e3 z3 e4 z4 e5 z5 e6 z6 e7 z7 e8 z8 e9 z9;refine dF (v:= .tuple #[.agg #[U m0,U m1,U m2_,U m3,U m4,U m5,.slice ba bn bc,.slice va vn vc,.slice ca cn cc,.slice pa 0 pc],U (zn:Int),U 0]) ?_ rfl ⟨⟨m0,m1,m2_,m3,m4,m5,ba,bn,bc,br,va,vn,vc,vs,ca,cn,cc,cs,pa,pc⟩,rfl,HD,(MF4.below BB6).only O7 (mR (nV.of K6 lN)) (Nr.of K6 lN),O7.below B6 B6.size (mR GE.out)⟩;exact(Fb Tryz.results119 _ w7 g8 _ _ _ _ (by rfl) K7 underlying82 rfl (by kernel_rfl)).trans rfl
end Go.Proofs.YtgnhecmnlddjhaaGreat
