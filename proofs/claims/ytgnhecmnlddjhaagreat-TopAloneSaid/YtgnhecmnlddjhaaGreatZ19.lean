/- TopAlone, part 20 of 24: a proof squeezed by a program. -/
import Derived.Test.YtgnhecmnlddjhaaGreatZ18
set_option linter.unusedVariables false
set_option linter.unusedSimpArgs false
set_option linter.defProp false
set_option maxRecDepth 100000
set_option maxHeartbeats 6400000
namespace Go.Proofs.YtgnhecmnlddjhaaGreat
open Go.RowKit Go.Proofs.Tryz
variable{A A' al' ap ar:OA}{L' cap cl' cp cr d g gc m n s x y:Nat}{S:LN}{f l:Int}{w w1 w5 w8:World}{xs:LV}
structure Vf(v:ql):Prop where
 n5:v.is.length<=5
 np:v.nN.length=v.is.length
 nc:v.nG.length=v.is.length
 pl: ∀l∈v.nN,l.length<=64
 cl: ∀l∈v.nG,l.length<=64
 T:v.T.length<=64
 V:v.V.length<=13
 es:v.es.length<=4096
 ga:1<=v.ga.length/\v.ga.length<=5
 out:v.out.length<=4096
 xU: ∃np,v.xU.length=np*5/\np<=64
 vZ: ∃nb,v.vZ.length=nb*11/\nb<=64
 Yj: ∀x∈v.xU,x.oneCell'=true
 an9: ∀x∈v.vZ,x.oneCell'=true
section
variable{x:Nat}{w:World}{D:qb}{K:KS}
theorem adl(h:mJ x w D K)(i:Nat)(v:ql)(hi:(D.val K).nodes[i]?=some (some v))(F:Vf v):
  Y 18 #[D.C.gc,U i] w fun e w'=> ∃q,e= .returned (.tuple #[(q:Nat),true])/\(∃c S' Md,lQ w' q 131 c/\c[22]?=some (.pointer (some ⟨Md,0,none⟩))/\Er w' S' Md 2 v.es v.st v.ct)/\Be w w':=by
 obtain⟨p,hp,rfl⟩: ∃p,D.C.nodes[i]?=some (some p)/\p.d.val=v:=by
  have VH:(D.C.nodes.map fun o=>o.map fun p=>p.d.val)[i]?=some (some v):=hi;rw[aS] at VH
  cases e:D.C.nodes[i]? with
  |none=>rw[e] at VH;cases VH
  |some o=>cases o with
   |none=>rw[e] at VH;simp at VH
   |some p=>rw[e] at VH;simp only[Option.map_some,aD] at VH;exact⟨p,rfl,VH⟩
 have n4:=h.fx.n;have f4:=h.fx.f4;have hil:i<D.C.n:=by rw[<-h.fx.len];exact(ah.1 hp).1
 obtain⟨nl,hnl⟩:=ex D.C.n;have c18:J w D.C.gc 18 (.slice D.C.cd.na nl D.C.cd.nc):=by have:=h.blk.cell 18;have e:=h.fx.nl;rw[hnl,<-e];exact this
 have c16:=h.blk.at_ 16;have RW:w.ownsRow 0 52 1 (.slice D.C.cd.na nl D.C.cd.nc) nl (D.C.nodes.map tY):=by have:=h.yG;rw[h.fx.nl,<-hnl] at this;exact this
 obtain⟨b0,hb0,d1⟩:=tu RW (k:=i) lK (v:= .pointer (some ⟨p.gx,0,none⟩)) (by rw[aS,hp];rfl);rw[hb0] at c18;obtain⟨gc,hgc⟩:=ex D.C.gc;obtain⟨nc,hnc⟩:=ex D.C.cd.nc;obtain⟨nn,hnn⟩:=ex D.C.cd.nn;rw[<-hgc] at c18 c16|-;rw[<-hnc] at c18;rw[<-hnn] at c16;have KEEP:Hid (∀u,Be w u->J u gc 18 (O b0 nl nc)/\J u gc 16 nn/\J u b0 i p.gx):=jj fun u hu=>⟨kept hu _ _ c18,kept hu _ _ c16,kept hu _ _ d1⟩;obtain⟨H,HP,FF,vB⟩:=j4 h hp F hnn;have i0:(0:Int)<=i:=lK;have i1:(i:Int)<nl:=lK;have i2: ¬(i:Int)<0:=lK;have i3: ¬(nl:Int)<=i:=lK;clear h hi RW hb0 hgc hnc hnn hnl F n4 f4 hil hp;go_enter func18,ntmps18
 go_upto_region 3 with fail
 have KS:=KEEP.out w.drew ((aC _ _).drew);refine rD (fun u=>J u gc 18 (O b0 nl nc)/\J u gc 16 nn/\J u b0 i p.gx) 15 (tk 0 11 (.one 11 (.one 12 (.take 13 (.take 14 .done))))) KS fun w2 B2 hS0=> ?_;clear KS c18 c16 d1
 repeat refine' tT ?_
 refine pO fun KT lS=> ?_;go_simp;rw[vB.out];refine(QL D.C.cd.nn D.C.b K w2 (H.below B2).Pt).mono ?_;rintro e w3 ⟨m,bm,rfl,hm,hm1,hm2,hb3⟩;rw[<-vB.out];have B3:=nO B2 hb3;clear hm hm1 hm2 hb3;have S3:=KEEP.out _ B3;refine oH lS S3 ?_;clear hS0;have hS0:=S3
 repeat refine' tT ?_
 refine pO fun KT lS=> ?_;go_simp;have f:=FF.out;obtain⟨np,akF,akG⟩:=f.xU;obtain⟨nb,akB,akC⟩:=f.vZ;have N3:=(H.below B3).nat HP;have nB:D.C.n<=13:=by have:=H.fx.n;have:=H.fx.f4;omega
 refine(abb x w3 _ _ _ _ _ p.d K N3 nB (by simpa[lU.val] using f.n5) (by simpa[lU.val] using f.np) (by simpa[lU.val] using f.nc) (fun q hq=>f.pl _ (bM.2 ⟨q,hq,rfl⟩)) (fun q hq=>f.cl _ (bM.2 ⟨q,hq,rfl⟩)) f.T f.V f.es f.ga (by simpa[lU.val,uy] using f.out) np nb akF akB akG akC f.Yj f.an9 m).mono ?_;rintro e w4 ⟨q,rfl,hq,hb4⟩;have B4:=nO B3 hb4;have HQ:=jj hq;clear hq hb4 f akF akG akB akC N3 nB;have S4:=KEEP.out _ B4;refine oH lS S4 ?_;clear hS0 S3;have hS0:=S4
 repeat refine' tT ?_
 refine lM ?_
 go_wp2_with fail
 go_ret2
 obtain⟨cc,S',Md,k1,k2,k3⟩:=HQ.out;exact⟨q,by trivial,⟨cc,k1,S',Md,k2,k3⟩,B4⟩
theorem Xt(h:mJ x w D K)(hl:(D.val K).ck.il.length<=4096/\(D.val K).ck.al.length<=4096/\(D.val K).ck.el.length<=4096):
  Y 14 #[D.C.gc,U 1] w fun e w'=> ∃q,e= .returned (.tuple #[(q:Nat),true])/\(∃cs ia ic ea ec,lQ w' q 120 cs/\cs[19]?=some (.slice ia (D.val K).ck.il.length ic)/\mo w' ia (D.val K).ck.il.length 6 ((D.val K).ck.il.flatMap rA)/\cs[22]?=some (.slice ea (D.val K).ck.el.length ec)/\mo w' ea (D.val K).ck.el.length 7 ((D.val K).ck.el.flatMap EO))/\Be w w':=by
 have c19:J w D.C.gc 19 (.slice D.C.cd.ka 2 D.C.cd.kc):=by have:=h.blk.cell 19;have e:=h.fx.kl;rw[<-e];exact this
 have c16:=h.blk.at_ 16;have RW:w.ownsRow 0 41 1 (.slice D.C.cd.ka 2 D.C.cd.kc) 2 D.C.kp:=by have:=h.wO;rw[h.fx.kl] at this;exact this
 obtain⟨b0,hb0,d1⟩:=tu RW (k:=1) lK (v:= .pointer (some ⟨D.g1,0,none⟩)) (by rw[h.fx.kp];rfl);rw[hb0] at c19;obtain⟨gc,hgc⟩:=ex D.C.gc;obtain⟨kc,hkc⟩:=ex D.C.cd.kc;obtain⟨nn,hnn⟩:=ex D.C.cd.nn;obtain⟨g1,hg1⟩:=ex D.g1;rw[<-hgc] at c19 c16|-;rw[<-hkc] at c19;rw[<-hnn] at c16;rw[<-hg1] at d1;have KEEP:Hid (∀u,Be w u->J u gc 19 (O b0 2 kc)/\J u gc 16 nn/\J u b0 1 g1):=jj fun u hu=>⟨kept hu _ _ c19,kept hu _ _ c16,kept hu _ _ d1⟩;obtain⟨H,HL,vB,HG⟩:=j4 h hl hnn hg1;clear h hl RW hb0 hgc hkc hnn hg1;go_enter func14,ntmps14
 go_upto_region 3 with fail
 have KS:=KEEP.out w.drew ((aC _ _).drew);refine rD (fun u=>J u gc 19 (O b0 2 kc)/\J u gc 16 nn/\J u b0 1 g1) 15 (tk 0 11 (.one 11 (.one 12 (.take 13 (.take 14 .done))))) KS fun w2 B2 hS0=> ?_;clear KS c19 c16 d1
 repeat refine' tT ?_
 refine pO fun KT lS=> ?_;go_simp;rw[vB.out];refine(QL D.C.cd.nn D.C.b K w2 (H.below B2).Pt).mono ?_;rintro e w3 ⟨m,bm,rfl,hm,hm1,hm2,hb3⟩;rw[<-vB.out];have B3:=nO B2 hb3;clear hm hm1 hm2 hb3;have S3:=KEEP.out _ B3;refine oH lS S3 ?_;clear hS0;have hS0:=S3
 repeat refine' tT ?_
 refine pO fun KT lS=> ?_;go_simp;rw[HG.out];refine(aaV x w3 D.C.cd.f 1 D.g1 D.d1 (H.below B3).BJ.ck HL.1 HL.2.1 HL.2.2 (by have:=H.fx.q1;rw[this];simp) m).mono ?_;rintro e w4 ⟨q,rfl,hq,hb4⟩;have B4:=nO B3 hb4;have HQ:=jj hq;clear hq hb4;rw[<-HG.out];have S4:=KEEP.out _ B4;refine oH lS S4 ?_;clear hS0 S3;have hS0:=S4
 repeat refine' tT ?_
 refine lM ?_
 go_wp2_with fail
 go_ret2
 exact⟨q,by trivial,HQ,B4⟩
end
theorem Un(w:World)(q gd:Nat)(c:AV)(S:LN)(es:List CY)(st:List (Bool×Int))(ct:List (Int×Int))(hb:lQ w q 131 c)(hc:c[22]?=some (.pointer (some ⟨gd,0,none⟩)))(hL:Er w S gd 2 es st ct)(hm:es.length<=4096):
  Y 20 #[q] w fun e w'=> ∃S' Md,e= .returned (Md:Nat)/\Er w' S' Md 2 es st ct/\(∀k∈S',w.heap.size<=k)/\Be w w':=by
 have c22:J w q 22 gd:=(hb.cell 22).trans hc;have L:=jj hL;clear hb hc hL;go_enter func20,ntmps20
 go_wp2_with fail
 refine(QJ S gd 2 es st ct _ L hm).mono ?_;rintro e w1 ⟨S',Md,rfl,hL,hge,hb⟩;obtain⟨L1,G1,B1⟩:=j3 hL hge hb;clear hL hge hb
 go_wp2_with fail
 go_ret;exact⟨S',Md,by trivial,L1,G1,B1⟩
abbrev Jv(ps:LI):List Value:=ps.map fun(x:Int)=>Value.int .i64 x
abbrev ptrs(q:Nat->Nat)(o n:Nat):List Value:=(List.range n).map fun b=>Value.pointer (some ⟨q (o+b),0,none⟩)
theorem Jz{q q':Nat->Nat}{o:Nat}(h: ∀k,k<o+n->q' k=q k):ptrs q' o n=ptrs q o n:=by
 unfold ptrs;refine dX fun b hb=> ?_;rw[h (o+b) (tL (fE.1 hb))]
section
variable{w w':World}{N:Nat}{q g:Nat->Nat}{room:Int}{lost:Nat->Int}{ms:Nat->List (Value×List Int)}
theorem Qs.add2(h:Qs w N q g room lost ms)(hb:Be w w'){m:List (Value×List Int)}(hx:xX w' x y room l m)(hge:w.heap.size<=x)(akq:w.heap.size<=y):Qs w' (N+1) (ru q N x) (ru g N y) room (ru lost N l) (ru ms N m):=by
 refine⟨fun k hk=> ?_,fun i j hi hj hne=> ?_⟩
 ·by_cases e:k=N
  ·subst e;rw[ou,ou,ou,ou];exact hx
  rw[oP _ _ e,oP _ _ e,oP _ _ e,oP _ _ e];exact(h.DU k lK).below hb
 by_cases ei:i=N
 ·subst ei
  have ej:j≠i:=fun e=>hne e.symm;rw[ou,ou,oP _ _ ej,oP _ _ ej];have l1:=(h.DU j lK).lt;have l2:=(h.DU j lK).glt;exact⟨lK,lK,lK,lK⟩
 by_cases ej:j=N
 ·subst ej
  rw[ou,ou,oP _ _ ei,oP _ _ ei];have l1:=(h.DU i lK).lt;have l2:=(h.DU i lK).glt;exact⟨lK,lK,lK,lK⟩
 rw[oP _ _ ei,oP _ _ ei,oP _ _ ej,oP _ _ ej];exact h.apart i j lK lK hne
theorem Qs.kinds(h:Qs w N q g room lost ms){t:TypeId}(ho:Only S w w')(hS: ∀k∈S,∃cs,lQ w k t cs)(h1:t≠217)(h2:t≠140)(h3:t≠5):Qs w' N q g room lost ms:=by
 refine⟨fun k hk=> ?_,h.apart⟩;have T:=(h.DU k hk).types;have no: ∀x∈ [q k,g k],x∉S:=fun x hx hm=>by
  obtain⟨cs,hcs⟩:=hS x hm;rcases T x hx _ _ hcs with e|e
  ·exact h1 e
  exact h2 e
 refine(h.DU k hk).only ho (no _ lT) (no _ lT) fun x hx cs hb=> ?_;obtain⟨cs',hcs'⟩:=hS x hx;unfold lQ at hb hcs';rw[hb] at hcs';injection hcs' with hcs';injection hcs' with _ e;exact h3 e.symm
end
structure NX(B:Nat)(w:World)(gn n a N L:Nat)(ps:LI)(q g:Nat->Nat)(room:Int)(lost:Nat->Int)(ms:Nat->List (Value×List Int))(ap:OA)(cp:Nat)(al:OA)(cl:Nat)(ra:Nat->Option Addr)(rc:Nat->Nat):Prop where
 blk:lQ w gn 158 #[.slice ap n cp,.slice al a cl]
 par:w.ownsRow B 3 1 (.slice ap n cp) n (Jv ps)
 rows:w.ownsRow B 159 1 (.slice al a cl) a ((List.range a).map fun a=>Value.slice (ra a) n (rc a))
 row: ∀x,x<a->w.ownsRow B 160 1 (.slice (ra x) n (rc x)) n (ptrs q (x*n) n)/\ ∀k,(ra x).map (·.block)=some k->k<L
 qs:Qs w N q g room lost ms
 ge:B<=gn/\ ∀k,k<N->B<=q k/\B<=g k
 aN:a*n<=N
def NM(B:Nat)(w:World)(gn n a N L:Nat)(ps:LI)(q g:Nat->Nat)(room:Int)(lost:Nat->Int)(ms:Nat->List (Value×List Int)):Prop:=
 ∃ap cp al cl ra rc,NX B w gn n a N L ps q g room lost ms ap cp al cl ra rc
section
variable{B:Nat}{w w':World}{gn n a N L:Nat}{ps:LI}{q g:Nat->Nat}{room:Int}{lost:Nat->Int}{ms:Nat->List (Value×List Int)}
theorem NM.below(h:NM B w gn n a N L ps q g room lost ms)(hb:Be w w'):NM B w' gn n a N L ps q g room lost ms:=by
 obtain⟨ap,cp,al,cl,ra,rc,h1,h2,h3,h4,hq,hge,haN⟩:=h;exact⟨ap,cp,al,cl,ra,rc,h1.below hb h1.lt,own_below h2 hb,own_below h3 hb,fun a ha=>⟨own_below (h4 a ha).1 hb,(h4 a ha).2⟩,hq.below hb,hge,haN⟩
theorem NM.up(h:NM B w gn n a N L ps q g room lost ms)(hL:L<=L'):NM B w gn n a N L' ps q g room lost ms:=by
 obtain⟨ap,cp,al,cl,ra,rc,h1,h2,h3,h4,hq,hge,haN⟩:=h;exact⟨ap,cp,al,cl,ra,rc,h1,h2,h3,fun a ha=>⟨(h4 a ha).1,fun k hk=>aB ((h4 a ha).2 k hk) hL⟩,hq,hge,haN⟩
theorem NM.nt(h:NM B w gn n n (n*n) L ps q g room lost ms):Nt B w gn n ps q g room lost ms:=by
 obtain⟨ap,cp,al,cl,ra,rc,h1,h2,h3,h4,hq,hge,haN⟩:=h;exact⟨⟨ap,cp,al,cl,ra,rc,h1,h2,h3,fun a ha=>(h4 a ha).1⟩,hq⟩
theorem NM.add(h:NM B w gn n a N L ps q g room lost ms)(hb:Be w w')(hB:B<=w.heap.size){m:List (Value×List Int)}(hx:xX w' x y room l m)(aoE:w.heap.size<=x)(akq:w.heap.size<=y):
  NM B w' gn n a (N+1) L ps (ru q N x) (ru g N y) room (ru lost N l) (ru ms N m):=by
 obtain⟨ap,cp,al,cl,ra,rc,h1,h2,h3,h4,hq,hge,haN⟩:=h;refine⟨ap,cp,al,cl,ra,rc,h1.below hb h1.lt,own_below h2 hb,own_below h3 hb,fun z hz=>⟨?_,(h4 z hz).2⟩,hq.add2 hb hx aoE akq,⟨hge.1,fun k hk=> ?_⟩,lK⟩
 ·rw[Jz (q:=q) (fun k hk=>oP _ _ ?_)]
  ·exact own_below (h4 z hz).1 hb
  have e1:=dN n (show z+1<=a by omega);rw[gY] at e1;omega
 by_cases e:k=N
 ·subst e;rw[ou,ou];exact⟨lK,lK⟩
 rw[oP _ _ e,oP _ _ e];exact hge.2 k lK
theorem NM.grow(h:NM B w gn n a N L ps q g room lost ms)(ho:Only S w w')(hS: ∀k∈S,L<=k/\ ∃cs,lQ w k 160 cs):NM B w' gn n a N L ps q g room lost ms:=by
 obtain⟨ap,cp,al,cl,ra,rc,h1,h2,h3,h4,hq,hge,haN⟩:=h;have T: ∀k∈S,∀cs t,lQ w k t cs->t=160\/t=160:=fun k hk cs t hb=>by
  obtain⟨_,cs',hb'⟩:=hS k hk;unfold lQ at hb hb';rw[hb] at hb';injection hb' with hb';injection hb' with _ e;exact .inl e
 refine⟨ap,cp,al,cl,ra,rc,h1.only ho fun hm=> ?_,qK h2 ho T lN lN,qK h3 ho T lN lN,fun x hx=>⟨mK (h4 x hx).1 ho fun k hk hm=> ?_,(h4 x hx).2⟩,hq.kinds ho (fun k hk=>(hS k hk).2) lN lN lN,hge,haN⟩
 ·rcases T _ hm _ _ h1 with e|e
  ·exact absurd e lN
  exact absurd e lN
 have e1:=(h4 x hx).2 k (by rw[<-lV];exact hk);have e2:=(hS k hm).1;omega
end
section
variable{B:Nat}{w w5 w8:World}{gn n a N L:Nat}{ps:LI}{q g:Nat->Nat}{room:Int}{lost:Nat->Int}{ms:Nat->List (Value×List Int)}
variable{ap:OA}{cp:Nat}{al:OA}{cl:Nat}{ra:Nat->Option Addr}{rc:Nat->Nat}
theorem NX.nm(h:NX B w gn n a N L ps q g room lost ms ap cp al cl ra rc):NM B w gn n a N L ps q g room lost ms:=⟨_,_,_,_,_,_,h⟩
theorem NX.apf (h:NX B w gn n a N L ps q g room lost ms ap cp al cl ra rc)
  (hN:N=a*n+n)   (hr:w.ownsRow L 160 1 (.slice ar n cr) n (ptrs q (a*n) n)) (hBL:B<=L) (hb:Be w w5)  
  (h8:qQ w5 w8 B 159 1 al al' (a+1) cl' (((List.range a).map fun a=>Value.slice (ra a) n (rc a))++ [.slice ar n cr])) (o9:Only [gn] w8 (w8.setCell ⟨gn,1,none⟩ (.slice al' (a+1) cl'))):
  NX B (w8.setCell ⟨gn,1,none⟩ (.slice al' (a+1) cl')) gn n (a+1) N w.heap.size ps q g room lost ms ap cp al' cl' (ru ra a ar) (ru rc a cr):=by
 obtain⟨h1,h2,h3,h4,hq,hge,haN⟩:=h;have S8:=lW (own_below h3 hb);have k8:lQ w8 gn 158 #[.slice ap n cp,.slice al a cl]:=(h1.below hb h1.lt).only h8.only fun hm=>by
  obtain⟨_,cs,hcs⟩:=S8 _ hm;exact(h1.below hb h1.lt).nY hcs lN rfl
 have T8: ∀k∈(al.map (·.block)).toList,∀cs t,lQ w5 k t cs->t=159\/t=159:=fun k hk cs t hb=>by
  obtain⟨_,cs',hb'⟩:=S8 k hk;unfold lQ at hb hb';rw[hb] at hb';injection hb' with hb';injection hb' with _ e;exact .inl e
 have T9: ∀k∈ [gn],∀cs t,lQ w8 k t cs->t=158\/t=158:=fun k hk cs t hb=>by
  obtain rfl:k=gn:=by simpa using hk
  unfold lQ at hb k8;rw[hb] at k8;injection k8 with k8;injection k8 with _ e;exact .inl e
 have keep: ∀{base:Nat} {e:TypeId} {v:Value} {m:Nat} {xs:LV},w.ownsRow base e 1 v m xs->e≠159->e≠158->(w8.setCell ⟨gn,1,none⟩ (.slice al' (a+1) cl')).ownsRow base e 1 v m xs:=fun ho e1 e2=>
  qK (qK (own_below ho hb) h8.only T8 e1 e1) o9 T9 e2 e2
 have vals:((List.range a).map fun a=>Value.slice (ra a) n (rc a))++ [.slice ar n cr]=(List.range (a+1)).map fun x=>Value.slice (ru ra a ar x) n (ru rc a cr x):=by
  rw[gV,bR]
  congr 1
  ·refine dX fun x hx=> ?_
   have e:=fE.1 hx;rw[oP _ _ lK,oP _ _ lK]
  simp[ou]
 refine⟨k8.mg 1 _,keep h2 lN lN,?_,fun x hx=> ?_,?_,hge,by rw[hN,gY];exact aF _⟩
 ·rw[<-vals]
  exact qK h8.own o9 T9 lN lN
 ·by_cases e:x=a
  ·subst e
   rw[ou,ou];exact⟨mO (keep hr lN lN) hBL,fun k hk=>(dG hr k (by rw[lV];exact hk)).2⟩
  rw[oP _ _ e,oP _ _ e];refine⟨keep (h4 x lK).1 lN lN,fun k hk=>(dG (h4 x lK).1 k (by rw[lV];exact hk)).2⟩
 have vE: ∀k∈ [gn],∃cs,lQ w8 k 158 cs:=fun k hk=>by
  have e:k=gn:=by simpa using hk
  rw[e];exact⟨_,k8⟩
 exact((hq.below hb).kinds (t:=159) h8.only (fun k hk=>(S8 k hk).2) lN lN lN).kinds (t:=158) o9 vE lN lN lN
end
namespace qM
theorem Hr(c0 c1 c2 c3 c4 c5 c6 c7 c8 c9 c10 c11 c12 c13 c14:Int)(w:World):
  Y 39 #[.agg #[U c0,U c1,U c2,U c3,U c4,U c5,U c6,U c7,U c8,U c9,U c10,U c11,U c12,U c13,U c14]] w
   fun e w'=>e= .returned (qY c0 c1 c2 c3 c4 c5 c6 c7 c8 c9 c10 c11 c12 c13 c14)/\Be w w':=by
 go_enter func39,ntmps39
 go_wp2_with fail
 refine(pG _ _ _ _).mono ?_;rintro e w' ⟨rfl,rfl⟩;cases h0:yw c0 1 4
 ·go_wp2
  go_ret;exact⟨by simp[qY,h0],nC⟩
 go_wp2_with fail
 refine(pG _ _ _ _).mono ?_;rintro e w' ⟨rfl,rfl⟩;cases h1:yw c1 1 4
 ·go_wp2
  go_ret;exact⟨by simp[qY,h0,h1],nC⟩
 go_wp2_with fail
 refine(pG _ _ _ _).mono ?_;rintro e w' ⟨rfl,rfl⟩;cases h2:yw c2 1 4
 ·go_wp2
  go_ret;exact⟨by simp[qY,h0,h1,h2],nC⟩
 go_wp2_with fail
 refine(pG _ _ _ _).mono ?_;rintro e w' ⟨rfl,rfl⟩;cases h3:yw c3 1 16
 ·go_wp2
  go_ret;exact⟨by simp[qY,h0,h1,h2,h3],nC⟩
 go_wp2_with fail
 refine(pG _ _ _ _).mono ?_;rintro e w' ⟨rfl,rfl⟩;cases h4:yw c4 1 256
 ·go_wp2
  go_ret;exact⟨by simp[qY,h0,h1,h2,h3,h4],nC⟩
 go_wp2_with fail
 refine(pG _ _ _ _).mono ?_;rintro e w' ⟨rfl,rfl⟩;cases h5:yw c5 1 64
 ·go_wp2
  go_ret;exact⟨by simp[qY,h0,h1,h2,h3,h4,h5],nC⟩
 go_wp2_with fail
 refine(pG _ _ _ _).mono ?_;rintro e w' ⟨rfl,rfl⟩;cases h6:yw c6 1 64
 ·go_wp2
  go_ret;exact⟨by simp[qY,h0,h1,h2,h3,h4,h5,h6],nC⟩
 go_wp2_with fail
 refine(pG _ _ _ _).mono ?_;rintro e w' ⟨rfl,rfl⟩;cases h7:yw c7 2 64
 ·go_wp2
  go_ret;exact⟨by simp[qY,h0,h1,h2,h3,h4,h5,h6,h7],nC⟩
 go_wp2_with fail
 refine(pG _ _ _ _).mono ?_;rintro e w' ⟨rfl,rfl⟩;cases h8:yw c8 0 8
 ·go_wp2
  go_ret;exact⟨by simp[qY,h0,h1,h2,h3,h4,h5,h6,h7,h8],nC⟩
 go_wp2_with fail
 refine(pG _ _ _ _).mono ?_;rintro e w' ⟨rfl,rfl⟩;cases h9:yw c9 1 8
 ·go_wp2
  go_ret;exact⟨by simp[qY,h0,h1,h2,h3,h4,h5,h6,h7,h8,h9],nC⟩
 go_wp2_with fail
 refine(pG _ _ _ _).mono ?_;rintro e w' ⟨rfl,rfl⟩;cases h10:yw c10 2 64
 ·go_wp2
  go_ret;exact⟨by simp[qY,h0,h1,h2,h3,h4,h5,h6,h7,h8,h9,h10],nC⟩
 go_wp2_with fail
 refine(pG _ _ _ _).mono ?_;rintro e w' ⟨rfl,rfl⟩;cases h11:yw c11 0 64
 ·go_wp2
  go_ret;exact⟨by simp[qY,h0,h1,h2,h3,h4,h5,h6,h7,h8,h9,h10,h11],nC⟩
 go_wp2_with fail
 refine(pG _ _ _ _).mono ?_;rintro e w' ⟨rfl,rfl⟩;cases h12:yw c12 2 64
 ·go_wp2
  go_ret;exact⟨by simp[qY,h0,h1,h2,h3,h4,h5,h6,h7,h8,h9,h10,h11,h12],nC⟩
 go_wp2_with fail
 refine(pG _ _ _ _).mono ?_;rintro e w' ⟨rfl,rfl⟩;cases h13:yw c13 1 16
 ·go_wp2
  go_ret;exact⟨by simp[qY,h0,h1,h2,h3,h4,h5,h6,h7,h8,h9,h10,h11,h12,h13],nC⟩
 go_wp2_with fail
 refine(pG _ _ _ _).mono ?_;rintro e w' ⟨rfl,rfl⟩;cases h14:yw c14 1 64
 all_goals
  go_wp2
  go_ret;exact⟨by simp[qY,h0,h1,h2,h3,h4,h5,h6,h7,h8,h9,h10,h11,h12,h13,h14],nC⟩
end qM
theorem XK:(prog.info? 3).map (fun i=>(i.zero,i.size,i.bytes))=some (some (U 0),1,8):=by kernel_rfl
theorem XM:(prog.info? 159).map (fun i=>(i.zero,i.size,i.bytes))=some (some (.slice none 0 0),1,24):=by kernel_rfl
theorem XL:(prog.info? 160).map (fun i=>(i.zero,i.size,i.bytes))=some (some (.pointer none),1,8):=by kernel_rfl
def pk(k:Nat):List Int:=(List.range k).map fun(x:Nat)=>(x:Int)
theorem abA(k:Nat):(pk k).length=k:=by simp[pk]
theorem aex(k:Nat):pk (k+1)=pk k++ [(k:Int)]:=by simp[pk,gV]
section
variable{w0 w w':World}{gc gn:Nat}{room:Int}{a N L:Nat}{q g:Nat->Nat}
end
namespace NG
abbrev Tf(f room:Int):Array Value:=#[U f,U 2,U 2,U 4,U room,U 8,U 8,U 8,U 1,U 2,U 12,U 8,U 6,U 2,U 6]
structure NP(w0 w:World)(gc gn:Nat)(f room:Int)(ps:LI):Prop where
 ex: ∃ap cp,lQ w gn 158 #[.slice ap ps.length cp,()]/\w.ownsRow w0.heap.size 3 1 (.slice ap ps.length cp) ps.length (Jv ps)
 cfg:lQ w gc 24 (Tf f room)
 below:Be w0 w
 ge:w0.heap.size<=gn/\w0.heap.size<=gc
theorem NP.push {w0:World} {gn:Nat} {room:Int} {ps:LI} (h:NP w0 w gc gn f room ps) {a8:OA} {c8:Nat} {x:Int} (hn:ps.length=n) (hk:lQ w gn 158 #[.slice ap n cp,()]) (ho:w.ownsRow w0.heap.size 3 1 (.slice ap n cp) n (Jv ps))
  (hb:Be w w5) (h8:qQ w5 w8 w0.heap.size 3 1 ap a8 (n+1) c8 (Jv ps++ [U x])):
  (lQ w8 gn 158 #[.slice ap n cp,()])/\NP w0 (w8.setCell ⟨gn,0,none⟩ (.slice a8 (n+1) c8)) gc gn f room (ps++ [x]):=by
 have S8:=lW (own_below ho hb);have k8:lQ w8 gn 158 #[.slice ap n cp,()]:=(hk.below hb hk.lt).only h8.only fun hm=>by
  obtain⟨_,cs,hcs⟩:=S8 _ hm;exact(hk.below hb hk.lt).nY hcs lN rfl
 have f8:lQ w8 gc 24 (Tf f room):=(h.cfg.below hb h.cfg.lt).only h8.only fun hm=>by
  obtain⟨_,cs,hcs⟩:=S8 _ hm;exact(h.cfg.below hb h.cfg.lt).nY hcs lN rfl
 have o9:Only [gn] w8 (w8.setCell ⟨gn,0,none⟩ (.slice a8 (n+1) c8)):=(Only.refl _ _).setCell (.inl lT) _;have b5:Be w0 w5:=h.below.trans (hb.mono h.below.size);have b8:=h8.below (own_below ho hb) b5 (aF _) b5.size;refine⟨k8,⟨⟨a8,c8,?_,?_⟩,f8.far (fun e=>k8.nY f8 lN e.symm) _,o9.below b8 b8.size (mR h.ge.1),h.ge⟩⟩
 ·have:=k8.mg 0 (.slice a8 (n+1) c8)
  simpa[hn] using this
 have:=mK h8.own o9 (fun g hg=>by rw[lV] at hg;simpa using fun e:g=gn=>mG h8.own k8 lN (by rw[lV,hg,e]));simpa[Jv,hn] using this
def Wo(n k:Nat):List Int:=pk n++(List.range k).map fun(x:Nat)=>100+(x:Int)
theorem GZ(n k:Nat):(Wo n k).length=n+k:=by simp[Wo,pk]
theorem abB(n k:Nat):Wo n (k+1)=Wo n k++ [100+(k:Int)]:=by simp[Wo,gV]
theorem abC(n:Nat):Wo n 0=pk n:=by simp[Wo]
structure NS(w0 w:World)(gc gn:Nat)(f room:Int)(n m a N L:Nat)(q g:Nat->Nat):Prop where
 nm:NM w0.heap.size w gn m a N L (Wo n 2) q g room (fun _=>0) (fun _=> [])
 cfg:lQ w gc 24 (Tf f room)
 below:Be w0 w
 ge:w0.heap.size<=gc
section
variable{w0 w w':World}{gc gn:Nat}{f room:Int}{n m a N L:Nat}{q g:Nat->Nat}
theorem NP.ns(hm:m=n+2)(h:NP w0 w gc gn f room (Wo n 2))(q g:Nat->Nat):NS w0 w gc gn f room n m 0 0 w.heap.size q g:=by
 obtain⟨ap,cp,h1,h2⟩:=h.ex;rw[GZ,<-hm] at h1 h2;exact⟨⟨ap,cp,none,0,fun _=>none,fun _=>0,h1,h2,by exact⟨rfl,.inl ⟨rfl,rfl⟩⟩,fun x hx=>absurd hx lK,Qs.nil _ _ _ _ _ _,⟨h.ge.1,fun k hk=>absurd hk lK⟩,by rw[fI];exact aF _⟩,h.cfg,h.below,h.ge.2⟩
theorem NS.add(h:NS w0 w gc gn f room n m a N L q g)(hb:Be w w')(hx:xX w' x x room 0 [])(hge:w.heap.size<=x):NS w0 w' gc gn f room n m a (N+1) L (ru q N x) (ru g N x):=by
 have e1:ru (fun _:Nat=>(0:Int)) N 0=fun _=>0:=by funext j;unfold ru;split<;>rfl
 have e2:ru (fun _:Nat=>([]:List (Value×List Int))) N []=fun _=> []:=by funext j;unfold ru;split<;>rfl
 have n:=h.nm.add hb h.below.size hx hge hge;rw[e1,e2] at n;exact⟨n,h.cfg.below hb h.cfg.lt,h.below.trans (hb.mono h.below.size),h.ge⟩
theorem NS.keep(h:NS w0 w gc gn f room n m a N L q g)(hb:Be w w'):NS w0 w' gc gn f room n m a N L q g:=
 ⟨h.nm.below hb,h.cfg.below hb h.cfg.lt,h.below.trans (hb.mono h.below.size),h.ge⟩
theorem NS.grow(h:NS w0 w gc gn f room n m a N L q g){ar':OA}{cr' b n':Nat}{xs':LV}(hr:w.ownsRow L 160 1 (.slice ar b cr) b xs)(hL:w0.heap.size<=L)(h8:qQ w w' L 160 1 ar ar' n' cr' xs'):NS w0 w' gc gn f room n m a N L q g:=by
 have S:=lW hr;refine⟨h.nm.grow h8.only S,h.cfg.only h8.only fun hm=> ?_,h8.below hr h.below hL h.below.size,h.ge⟩;obtain⟨_,cs,hcs⟩:=S _ hm;exact h.cfg.nY hcs lN rfl
theorem NS.up(h:NS w0 w gc gn f room n m a N L q g)(hL:L<=L'):NS w0 w gc gn f room n m a N L' q g:=⟨h.nm.up hL,h.cfg,h.below,h.ge⟩
theorem NS.row (h:NS w0 w gc gn f room n m a N L q g) (hN:N=a*m+m) {al:OA} {cl:Nat} {ra:Nat->Option Addr} {rc:Nat->Nat} (hx:NX w0.heap.size w gn m a N L (Wo n 2) q g room (fun _=>0) (fun _=> []) ap cp al cl ra rc)
    (hr:w.ownsRow L 160 1 (.slice ar m cr) m (ptrs q (a*m) m)) (hL:w0.heap.size<=L)  (hb:Be w w5)  
  (h8:qQ w5 w8 w0.heap.size 159 1 al al' (a+1) cl' (((List.range a).map fun a=>Value.slice (ra a) m (rc a))++ [.slice ar m cr])):
  (lQ w8 gn 158 #[.slice ap m cp,.slice al a cl])/\NS w0 (w8.setCell ⟨gn,1,none⟩ (.slice al' (a+1) cl')) gc gn f room n m (a+1) N w.heap.size q g:=by
 have S8:=lW (own_below hx.rows hb);have k8:lQ w8 gn 158 #[.slice ap m cp,.slice al a cl]:=(hx.blk.below hb hx.blk.lt).only h8.only fun hm=>by
  obtain⟨_,cs,hcs⟩:=S8 _ hm;exact(hx.blk.below hb hx.blk.lt).nY hcs lN rfl
 have f8:lQ w8 gc 24 (Tf f room):=(h.cfg.below hb h.cfg.lt).only h8.only fun hm=>by
  obtain⟨_,cs,hcs⟩:=S8 _ hm;exact(h.cfg.below hb h.cfg.lt).nY hcs lN rfl
 have o9:Only [gn] w8 (w8.setCell ⟨gn,1,none⟩ (.slice al' (a+1) cl')):=(Only.refl _ _).setCell (.inl lT) _;have b5:Be w0 w5:=h.below.trans (hb.mono h.below.size);have b8:=h8.below (own_below hx.rows hb) b5 (aF _) b5.size;exact⟨k8,(hx.apf hN hr hL hb h8 o9).nm,f8.far (fun e=>k8.nY f8 lN e.symm) _,o9.below b8 b8.size (mR hx.ge.1),h.ge⟩
end
theorem xu(f room:Int)(h1:1<=f)(h4:f<=4)(hr:1<=room/\room<=256):qM.qY f 2 2 4 room 8 8 8 1 2 12 8 6 2 6=true:=by
 simp[qM.qY,qM.yw,hr,h1,h4]
theorem ahw(f room:Int)(h1:1<=f)(h4:f<=4)(n:Nat)(hn:(n:Int)=3*f+1)(m:Nat)(hm:m=n+2)(hr:1<=room/\room<=256)(w:World):
  Y 43 #[.agg (Tf f room)] w fun e w'=> ∃gn q g,e= .returned (.tuple #[.pointer (some ⟨gn,0,none⟩),U 0])/\Nt w.heap.size w' gn m (Wo n 2) q g room (fun _=>0) (fun _=> [])/\Be w w'/\w.heap.size<=gn/\ ∀k,k<m*m->w.heap.size<=q k/\w.heap.size<=g k:=by
 have n13:n<=13:=lK;have HM:=jj hm;have HN:=jj hn;have m15:m<=15:=lK;clear hm hn;obtain⟨ti,hi0,hz0,hz1,hz2⟩:=bq XK;obtain⟨pi,pi0,pz0,pz1,pz2⟩:=bq XL;obtain⟨ri,ri0,rz0,rz1,rz2⟩:=bq XM;go_enter func43,ntmps43
 go_upto_region 1 with fail
 obtain⟨w1,hw1⟩:=ex (w.alloc (.cells (Tf f room) 24));obtain⟨gc,hgc⟩:=ex w.heap.size;rw[<-hw1,<-hgc];have K1:=xNew hw1 hgc;have B1:=tQ hw1;have GC:Hid (w.heap.size<=gc):=jj lK;clear hw1 hgc;obtain⟨c0,c1,c2,c3,c4,c5,c6,c7,c8,c9⟩:=K1.zA;have c10:=K1.at_ 10;have c11:=K1.at_ 11;have c12:=K1.at_ 12;have c13:=K1.at_ 13;have c14:=K1.at_ 14
 go_wp2_with fail
 refine(qM.Hr _ _ _ _ _ _ _ _ _ _ _ _ _ _ _ _).mono ?_;rintro e w2 ⟨rfl,hb2⟩;rw[xu f room h1 h4 hr];have K2:=jj (K1.below hb2 K1.lt);have B2:=nO B1 hb2;clear hb2 c0 c1 c2 c3 c4 c5 c6 c7 c8 c9 c10 c11 c12 c13 c14 K1 B1
 go_upto_region 4 with fail
 generalize hw3:w2.alloc _=w3;generalize hgn:w2.heap.size=gn;replace hw3:=hw3.symm;replace hgn:=hgn.symm;have N3:Hid (NP w w3 gc gn f room (pk 0)):=by
  have b3:=(tQ hw3).out;exact jj ⟨⟨none,0,by rw[hw3,hgn];exact lQ.new _ _ _,by simp[pk];exact⟨rfl,.inl ⟨rfl,rfl⟩⟩⟩,K2.below b3 K2.lt,B2.trans (b3.mono B2.size),by rw[hgn];exact B2.size,GC⟩
 clear hw3 hgn K2 B2 GC
 go_upto_block 0 with fail
 go_cut [5] (fun s wx=>s= U n/\NP w wx gc gn f room (pk n))
 case first=>
  go_wp2_with fail
  go_loopw [5] (fun s wr=> ∃k:Nat,k<=n/\s= U k/\NP w wr gc gn f room (pk k)) (fun s _=>n -(intOf s).toNat)
  case atStart=>exact⟨0,lK,rfl,N3⟩
  case round=>
   obtain⟨k,hk,rfl,hp⟩:=hrel;have HP:=jj hp;have d0:=hp.cfg.at_ 0;clear hp
   go_wp2_with fail
   refine(oC f _ lK lK).mono ?_;rintro e w' ⟨rfl,rfl⟩;rw[<-HN.out];by_cases hlt:k<n
   ·have i1:(k:Int)<n:=lK
    obtain⟨ap,cp,kk,ko⟩:=HP.ex;rw[abA] at kk ko;have KK:=jj kk;have KO:=jj ko;clear kk ko d0;have KB:=jj HP.below.size;have kc:=KK.at_ 0
    go_wp2_with(at_builtin;refine lZ rfl (.tmp 26) (.tmp 28) _ rfl w.heap.size 3 ti _ 1 8 underlying35 hi0 hz0 hz1 hz2 rfl lK ap k cp (Jv (pk k)) rfl (dM KO _) (some ⟨wr.heap.size,0,none⟩) 1 1 [U k] rfl (qC _ _ _) (by simp[Value.oneCell']) (by unfold maxLen;omega) lK (by have:=KB.out;simp;omega) ?_;intro a8 c8 w8 h8;obtain⟨k8,p8⟩:=HP.push (abA k) KK KO nC h8;have P8:=jj p8;have d8:=k8.cell 0;have f8:=k8.frozen 0;clear k8 p8 h8)
    go_roundw
    case rel=>exact⟨k+1,lK,by go_num,by rw[aex];exact P8.out⟩
    simp[intOf];omega
   obtain rfl:k=n:=lK;clear d0
   go_wp2_with fail
   go_meet;exact⟨rfl,HP⟩
 case rest=>
  obtain⟨rfl,h4⟩:=hcut;have N4:=jj h4;clear h4 N3
  go_upto_block 2 with fail
  go_cut [6] (fun s wx=>s= U 2/\NP w wx gc gn f room (Wo n 2))
  case first=>
   go_wp2_with fail
   go_loopw [6] (fun s wr=> ∃k:Nat,k<=2/\s= U k/\NP w wr gc gn f room (Wo n k)) (fun s _=>2 -(intOf s).toNat)
   case atStart=>exact⟨0,lK,rfl,by rw[abC];exact N4.out⟩
   case round=>
    obtain⟨k,hk,rfl,hp⟩:=hrel;have HP:=jj hp;have d0:=hp.cfg.at_ 1;clear hp;by_cases hlt:k<2
    ·have i1:(k:Int)<2:=lK
     have e1:IntKind.i64.wrap (100+(k:Int))=100+k:=aH _ lK;obtain⟨ap,cp,kk,ko⟩:=HP.ex;obtain⟨nk,hnk⟩:=ex (n+k);rw[GZ,<-hnk] at kk ko;obtain⟨KK,KO,KB⟩:=j3 kk ko HP.below.size;have LN:=jj ((GZ n k).trans hnk.symm);have hn6:nk<=15:=lK;have kc:=KK.at_ 0;clear kk ko hnk
     go_wp2_with(at_builtin;refine lZ rfl (.tmp 42) (.tmp 45) _ rfl w.heap.size 3 ti _ 1 8 underlying35 hi0 hz0 hz1 hz2 rfl lK ap nk cp (Jv (Wo n k)) rfl (dM KO _) (some ⟨wr.heap.size,0,none⟩) 1 1 [U (100+k)] rfl (qC _ _ _) (by simp[Value.oneCell']) (by unfold maxLen;omega) lK (by have:=KB.out;simp;omega) ?_;intro a8 c8 w8 h8;obtain⟨k8,p8⟩:=HP.push LN KK KO nC h8;have P8:=jj p8;have d8:=k8.cell 0;have f8:=k8.frozen 0;clear k8 p8 h8)
     go_roundw
     case rel=>exact⟨k+1,lK,by go_num,by rw[abB];exact P8.out⟩
     simp[intOf];omega
    have hk4:k=2:=lK;subst hk4
    go_wp2_with fail
    go_meet;exact⟨rfl,HP⟩
  case rest=>
   obtain⟨rfl,h5⟩:=hcut;have N5:=jj h5;obtain⟨ap,cp,kk,ko⟩:=h5.ex;rw[GZ,<-HM.out] at kk ko;have kc:=kk.at_ 0;have M5:=jj (h5.ns HM (fun _=>0) (fun _=>0));clear h5 N4 kk ko
   go_wp2_with fail
   clear kc
   go_loopw [54] (fun s wr=> ∃(a:Nat) (q g:Nat->Nat),a<=m/\s= U a/\NS w wr gc gn f room n m a (a*m) wr.heap.size q g) (fun s _=>m -(intOf s).toNat)
   case atStart=>exact⟨0,_,_,lK,rfl,by rw[fI];exact M5.out⟩
   case round=>
    obtain⟨a,q,g,ha,rfl,hm⟩:=hrel;have HM:=jj hm;clear hm;by_cases hlt:a<m
    ·have i1:(a:Int)<m:=lK
     obtain⟨wo,rfl⟩:=ex wr;obtain⟨ap,cp,al,cl,ra,rc,hx⟩:=HM.nm;have kc:=hx.blk.at_ 0;clear hx
     go_wp2_with fail
     clear kc
     go_loopw [61,7] (fun s t wr=> ∃(b:Nat) (q' g':Nat->Nat) (ar:OA) (cr:Nat),b<=m/\s= U b/\t= .slice ar b cr/\NS w wr gc gn f room n m a (a*m+b) wo.heap.size q' g'/\wo.heap.size<=wr.heap.size/\wr.ownsRow wo.heap.size 160 1 (.slice ar b cr) b (ptrs q' (a*m) b)) (fun s _ _=>m -(intOf s).toNat)
     case atStart=>exact⟨0,q,g,none,0,lK,rfl,rfl,HM,aF _,rfl,.inl ⟨rfl,rfl⟩⟩
     case round=>
      obtain⟨b,q',g',ar,cr,hb6,rfl,rfl,hm,hle,hrow⟩:=hrel;have PG:=jj hm;have HR:=jj hrow;clear hm hrow;by_cases hblt:b<m
      ·have i2:(b:Int)<m:=lK
       have k4:=PG.cfg.at_ 4
       go_wp2_with fail
       refine(XU room _ hr.1 hr.2).mono ?_;rintro e w5 ⟨x,rfl,hq5,Ob,hb5⟩;have ma:a*m<=15*15:=jK lK m15;have N6:=jj (PG.add hb5 hq5 Ob);obtain⟨k,hk⟩:=ex (a*m+b);have R6:Hid (w5.ownsRow wo.heap.size 160 1 (.slice ar b cr) b (ptrs (ru q' k x) (a*m) b)):=jj (by
        rw[Jz (q:=q') (fun k' hk'=>oP _ _ lK)];exact own_below HR hb5)
       rw[<-hk] at N6;have X6:Hid (ptrs (ru q' k x) (a*m) (b+1)=ptrs (ru q' k x) (a*m) b++ [.pointer (some ⟨x,0,none⟩)]):=jj (by
        unfold ptrs;rw[gV,bR];simp only[bV,fu];rw[<-hk,ou])
       have HK:=jj hk;have LE:Hid (wo.heap.size<=w5.heap.size):=jj (aG hle hb5.size);clear hq5 Ob hb5 k4 hk HR PG
       go_wp2_with(at_builtin;refine lZ rfl (.tmp 69) (.tmp 71) _ rfl wo.heap.size 160 pi _ 1 8 underlying159 pi0 pz0 pz1 pz2 rfl lK ar b cr (ptrs (ru q' k x) (a*m) b) rfl (dM R6 _) (some ⟨w5.heap.size,0,none⟩) 1 1 [.pointer (some ⟨x,0,none⟩)] rfl (qC _ _ _) (by simp[Value.oneCell']) (by unfold maxLen;omega) lK (by have:=LE.out;simp;omega) ?_;intro a8 c8 w8 h8;have P8:=jj ((N6.keep nC).grow (own_below R6 nC) HM.below.size h8);have Q8:=jj h8.own;have z8:Hid (w5.heap.size<=w8.heap.size):=jj (aG lT h8.only.size);clear h8)
       go_roundw
       case rel=>exact⟨b+1,_,_,a8,c8,lK,by go_num,by go_num,by rw[<-dL,<-HK.out];exact P8.out,aG LE z8,by rw[X6.out];exact Q8.out⟩
       simp[intOf];omega
      obtain rfl:b=m:=lK;obtain⟨ap,cp,al,cl,ra,rc,hx⟩:=PG.nm;have HX:=jj hx;have k1:=hx.blk.at_ 1;have LE:Hid (w.heap.size<=wr.heap.size):=jj PG.below.size;clear hx
      go_wp2_with(at_builtin;refine lZ rfl (.tmp 78) (.tmp 80) _ rfl w.heap.size 159 ri _ 1 24 underlying156 ri0 rz0 rz1 rz2 rfl lK al a cl ((List.range a).map fun a=>Value.slice (ra a) b (rc a)) rfl (dM HX.rows _) (some ⟨wr.heap.size,0,none⟩) 1 1 [.slice ar b cr] rfl (qC _ _ _) (by simp[Value.oneCell']) (by unfold maxLen;omega) lK (by have:=LE.out;simp;omega) ?_;intro a8 c8 w8 h8;obtain⟨k8,p8⟩:=PG.row rfl HX HR HM.below.size nC h8;have P8:=jj p8;have d8:=k8.cell 1;have f8:=k8.frozen 1;have z8:Hid (wr.heap.size<=w8.heap.size):=jj (aG lT h8.only.size);clear k8 p8 h8)
      go_roundw
      case rel=>exact⟨a+1,_,_,lK,by go_num,by rw[gY];exact P8.up (mR z8.out)⟩
      simp[intOf];omega
    obtain rfl:a=m:=lK
    go_wp2_with fail
    go_ret2
    refine⟨gn,q,g,rfl,HM.nm.nt,HM.below,?_,?_⟩
    ·obtain⟨_,_,_,_,_,_,hx⟩:=HM.nm;exact hx.ge.1
    obtain⟨_,_,_,_,_,_,hx⟩:=HM.nm;exact hx.ge.2
end NG
abbrev sW(f:Int):Array Value:=NG.Tf f 64
def uR(u:World)(gc:Nat)(f:Int):Prop:=u.cell? ⟨gc,0,none⟩=some (U f)/\J u gc 1 (U 2)/\J u gc 2 (U 2)/\J u gc 3 (U 4)/\J u gc 4 (U 64)/\J u gc 5 (U 8)/\J u gc 6 (U 8)/\J u gc 7 (U 8)/\
 J u gc 8 (U 1)/\J u gc 9 (U 2)/\J u gc 10 (U 12)/\J u gc 11 (U 8)/\J u gc 12 (U 6)/\J u gc 13 (U 2)/\J u gc 14 (U 6)
theorem sZ{u:World}(h:lQ u gc 24 (sW f)):uR u gc f:=⟨h.cell 0,h.cell 1,h.cell 2,h.cell 3,h.cell 4,h.cell 5,h.cell 6,h.cell 7,h.cell 8,h.cell 9,h.cell 10,h.cell 11,h.cell 12,h.cell 13,h.cell 14⟩
def Ip(nn gt:Nat):sI:=⟨nn,gt,false,none,0,[],0,none,0,[],none,0,[],none,0,[],0⟩
theorem ahl(x:Nat)(f:Int)(h1:1<=f)(h4:f<=4)(id:Int)(hid:0<=id/\id<2)(nn:Nat)(w:World):
  Y 46 #[.agg (sW f),U id,nn] w fun e w'=> ∃gk gt,e= .returned (.tuple #[(gk:Nat),U 0])/\qF x w' f id gk (Ip nn gt)/\w.heap.size<=gk/\w.heap.size<=gt/\Be w w':=by
 obtain⟨i1,i2⟩:=hid;go_enter func46,ntmps46
 go_upto_region 1 with fail
 obtain⟨w1,hw1⟩:=ex (w.alloc (.cells (sW f) 24));obtain⟨gc,hgc⟩:=ex w.heap.size;rw[<-hw1,<-hgc];have K1:=xNew hw1 hgc;have B1:=tQ hw1;clear hw1 hgc;obtain⟨c0,c1,c2,c3,c4,c5,c6,c7,c8,c9,c10,c11,c12,c13,c14⟩:=sZ K1
 go_wp2_with fail
 refine(qM.Hr _ _ _ _ _ _ _ _ _ _ _ _ _ _ _ _).mono ?_;rintro e w2 ⟨rfl,hb2⟩;rw[NG.xu f 64 h1 h4 lN];have K2:=jj (K1.below hb2 K1.lt);have B2:=nO B1 hb2;clear hb2 c0 c1 c2 c3 c4 c5 c6 c7 c8 c9 c10 c11 c12 c13 c14 K1 B1;have c1:=K2.at_ 1;have q1: ¬id<0:=lK;have q2: ¬2<=id:=lK
 go_upto_region 3 with fail
 clear c1;have KEEP:Hid (∀u,Be w2 u->uR u gc f):=jj fun u hu=>sZ (K2.below hu K2.lt);have KS:=KEEP.out w2.drew ((aC _ _).drew);unfold uR at KS;refine um (fun u=>J u gc 0 (U f)/\J u gc 1 (U 2)/\J u gc 2 (U 2)/\J u gc 3 (U 4)/\J u gc 4 (U 64)/\J u gc 5 (U 8)/\J u gc 6 (U 8)/\J u gc 7 (U 8)/\
  J u gc 8 (U 1)/\J u gc 9 (U 2)/\J u gc 10 (U 12)/\J u gc 11 (U 8)/\J u gc 12 (U 6)/\J u gc 13 (U 2)/\J u gc 14 (U 6)) 8 (tk 0 3 (.one 3 (.take 4 (.one 5 (.take 6 (.take 7 .done)))))) (by kernel_rfl) (by kernel_rfl) (by kernel_rfl) KS ?_
 intro hS0;obtain⟨w3,hw3⟩:=ex w2.drew;have B3:=bDr hw3;rw[<-hw3] at hS0|-;clear hw3 KS
 repeat refine' tT ?_
 refine pO fun KT lS=> ?_;go_simp;refine(aad w3).mono ?_;rintro e w4 ⟨rfl,Tx,hb4⟩;have B4:=nO B3 hb4;obtain⟨gt,hgt⟩:=ex w3.heap.size;rw[<-hgt] at Tx|-;have CLK:=jj Tx;have GT:Hid (w2.heap.size<=gt):=jj (by rw[hgt];exact B3.size);clear Tx hb4 hgt;have S4:=KEEP.out _ B4;unfold uR at S4;refine oH lS S4 ?_;clear hS0;have hS0:=S4
 repeat refine' tT ?_
 refine pO fun KT lS=> ?_;go_simp;obtain⟨w5,zM⟩:=ex (w4.alloc (.cells (Nz f id (Ip nn gt)) 120));obtain⟨gk,hgk⟩:=ex w4.heap.size;have TU:=zM;simp only[Nz,Ip,List.length_nil] at TU;rw[<-TU,<-hgk];have X5:=xNew zM hgk;have GK:Hid (w2.heap.size<=gk):=jj (by rw[hgk];exact B4.size);have L5:=tQ zM;have WV:Hid (vT w5 gt 0):=jj (lQ.below CLK L5 (lQ.lt CLK));have B5:Hid (Be w2 w5):=jj (B4.trans (L5.mono B4.size));clear zM TU hgk;have S5:=KEEP.out _ B5;unfold uR at S5;refine oH lS S5 ?_;clear hS0 S4;have hS0:=S5
 repeat refine' tT ?_
 refine lM ?_;clear hS0 S5
 go_wp2_with fail
 go_ret2
 refine⟨gk,gt,by trivial,?_,aG B2.size GK,aG B2.size GT,B2.trans (B5.mono B2.size)⟩;exact⟨X5,WV,⟨rfl,.inl ⟨rfl,rfl⟩⟩,fun g hg=>by simp[Ip] at hg,⟨rfl,.inl ⟨rfl,rfl⟩⟩,⟨rfl,.inl ⟨rfl,rfl⟩⟩,nJ.nil _ _⟩
theorem Sys.perm{L L':List ni}(h:Sys x w L)(p:L.Perm L'):Sys x w L':=
 ⟨fun c hc=>h.good c (p.mem_iff.2 hc),fun c hc=>h.at_ c (p.mem_iff.2 hc),(p.pairwise_iff fun h=>Apart.symm h).1 h.sep⟩
abbrev z17:Array Value:=ints (List.replicate 17 0)
structure Xi(w:World)(A:OA)(d:Nat)(l:LN):Prop where
 out:w.ownsRow 0 35 1 (.slice A l.length d) l.length (l.map fun g=>Value.slice (some ⟨g,0,none⟩) 17 17)
 KI: ∀g∈l,lQ w g 3 z17
 nd:l.Nodup
def Ay(A:OA)(d:Nat)(l:LN):ni:=nM ((A.map (·.block)).toList++l) fun w=>Xi w A d l
theorem Ea(A:OA)(d:Nat)(l:LN):(Ay A d l).Good:=
 Pure.good ⟨fun hp ho hn=>⟨DJ hp.out ho fun z hz=>hn z (bL _ hz),fun g hg=>(hp.KI g hg).only ho (hn g (bH _ hg)),hp.nd⟩,fun hp k hk=>by
  rcases aQ.1 hk with hk|hk
  ·obtain⟨_,cs,hb⟩:=lW hp.out k hk
   exact hb.lt
  ·exact(hp.KI k hk).lt,fun hp k hk=>by
  rcases aQ.1 hk with hk|hk
  ·exact Plain.own hp.out lN k hk
  exact Plain.of (hp.KI k hk) lN⟩
theorem Jb(f:Int)(n:Nat)(g:Nat)(i:tJ): ∀(l:List (Nat×tJ)) (k:Nat),sD f n k (l++ [(g,i)])=sD f n k l++ [zX f n (k+l.length) g i]
 | [],k=>by simp[sD]
 |(g',i')::l,k=>by
  have:=Jb f n g i l (k+1);rw[show k+1+l.length=k+(l.length+1) by omega] at this;simp[sD,this]
def nmc(f id:Int)(nn gt:Nat)(v18 v19 v20 v21 v22 v23 v24 v25 v26 v27:Value):Array Value:=#[U f,U 2,U 2,U 4,U 64,U 8,U 8,U 8,U 1,U 2,U 12,U 8,U 6,U 2,U 6,
 U id,nn,gt,v18,v19,v20,v21,v22,v23,v24,v25,v26,v27,
 U 0,U 0,U (-1),U 0,U 0,false,(),U 0,U 0,U 0,U 0,U 0]
structure xD where
 gc:Nat
 q:Nat
 nn:Nat
 gt:Nat
 gs:List Nat
 a1:Option Addr
 d1:Nat
 ps:List Nat
 a2:Option Addr
 d2:Nat
 cs:List Nat
 a3:Option Addr
 d3:Nat
 is:List (Nat×tJ)
def xD.cells(f id:Int)(D:xD)(v19 v20 v21 v22 v23 v24 v25:Value):Array Value:=nmc f id D.nn D.gt (.slice D.a1 D.gs.length D.d1) v19 v20 v21 v22 v23 v24 v25 (.slice D.a2 D.ps.length D.d2) (.slice D.a3 D.cs.length D.d3)
def xD.zJ(D:xD):ni:=wG 164 1 D.a1 D.gs.length D.d1 (D.gs.map fun g=> .pointer (some ⟨g,0,none⟩))
def xD.L(f:Int)(n:Nat)(D:xD)(c:AV)(R:List ni):List ni:=
 mW D.q 131 c::Da D.gt 0::D.zJ::Ay D.a2 D.d2 D.ps::Ay D.a3 D.d3 D.cs::mW D.gc 24 (sW f)::(sD f n 0 D.is++R)
structure pX(x:Nat)(w wr:World)(f id:Int)(n:Nat)(D:xD)(v19 v20 v21 v22 v23 v24 v25:Value)(R:List ni):Prop where
 sys:Sys x wr (D.L f n (D.cells f id v19 v20 v21 v22 v23 v24 v25) R)
 below:Be w wr
 ge: ∀k∈nE (D.L f n (D.cells f id v19 v20 v21 v22 v23 v24 v25) R),w.heap.size<=k
section
variable{x n:Nat}{w wr w':World}{f id:Int}{D:xD}{v19 v20 v21 v22 v23 v24 v25:Value}{R:List ni}
theorem pX.step{L L':List ni}(s:Step x wr w' L L')(hb:Be w wr)(hge: ∀k∈nE L,w.heap.size<=k):Be w w'/\ ∀k∈nE L',w.heap.size<=k:=
 ⟨s.only.below hb hb.size hge,fun k hk=>by
  rcases s.new k hk with h|h
  ·exact hge k h
  exact aG hb.size h⟩
theorem pX.keep(h:pX x w wr f id n D v19 v20 v21 v22 v23 v24 v25 R)(hb:Be wr w'):pX x w w' f id n D v19 v20 v21 v22 v23 v24 v25 R:=
 ⟨h.sys.below hb,h.below.trans (hb.mono h.below.size),h.ge⟩
theorem pX.blk(h:pX x w wr f id n D v19 v20 v21 v22 v23 v24 v25 R):lQ wr D.q 131 (D.cells f id v19 v20 v21 v22 v23 v24 v25):=h.sys.get (j:=0) (c:=mW D.q 131 (D.cells f id v19 v20 v21 v22 v23 v24 v25)) rfl
theorem pX.cfg(h:pX x w wr f id n D v19 v20 v21 v22 v23 v24 v25 R):lQ wr D.gc 24 (sW f):=h.sys.get (j:=5) (c:=mW D.gc 24 (sW f)) rfl
theorem pX.o1(h:pX x w wr f id n D v19 v20 v21 v22 v23 v24 v25 R):wr.ownsRow 0 164 1 (.slice D.a1 D.gs.length D.d1) D.gs.length (D.gs.map fun g=> .pointer (some ⟨g,0,none⟩)):=h.sys.get (j:=2) (c:=D.zJ) rfl
theorem pX.o2(h:pX x w wr f id n D v19 v20 v21 v22 v23 v24 v25 R):Xi wr D.a2 D.d2 D.ps:=h.sys.get (j:=3) (c:=Ay D.a2 D.d2 D.ps) rfl
theorem pX.o3(h:pX x w wr f id n D v19 v20 v21 v22 v23 v24 v25 R):Xi wr D.a3 D.d3 D.cs:=h.sys.get (j:=4) (c:=Ay D.a3 D.d3 D.cs) rfl
theorem Ap{base base':Nat}{t:TypeId}(h:wr.ownsRow base t s (.slice A m d) m xs)(hge: ∀k∈(A.map (·.block)).toList,base'<=k):wr.ownsRow base' t s (.slice A m d) m xs:=
 DI h fun g hg=>hge g (aJ.2 (by rw[lV] at hg;exact hg))
theorem pX.p1(h:pX x w wr f id n D v19 v20 v21 v22 v23 v24 v25 R):wr.ownsRow w.heap.size 164 1 (.slice D.a1 D.gs.length D.d1) D.gs.length (D.gs.map fun g=> .pointer (some ⟨g,0,none⟩)):=Ap h.o1 fun k hk=>h.ge k (pY (j:=2) (c:=D.zJ) rfl hk)
theorem pX.p2(h:pX x w wr f id n D v19 v20 v21 v22 v23 v24 v25 R):wr.ownsRow w.heap.size 35 1 (.slice D.a2 D.ps.length D.d2) D.ps.length (D.ps.map fun g=>Value.slice (some ⟨g,0,none⟩) 17 17):=Ap h.o2.out fun k hk=>h.ge k (pY (j:=3) (c:=Ay D.a2 D.d2 D.ps) rfl (bL _ hk))
theorem pX.p3(h:pX x w wr f id n D v19 v20 v21 v22 v23 v24 v25 R):wr.ownsRow w.heap.size 35 1 (.slice D.a3 D.cs.length D.d3) D.cs.length (D.cs.map fun g=>Value.slice (some ⟨g,0,none⟩) 17 17):=Ap h.o3.out fun k hk=>h.ge k (pY (j:=4) (c:=Ay D.a3 D.d3 D.cs) rfl (bL _ hk))
theorem pX.q8(h:pX x w wr f id n D v19 v20 v21 v22 v23 v24 v25 R){t:TypeId}{m':Nat}{ys:LV}(ho:wr.ownsRow w.heap.size t 1 (.slice A m d) m xs)(ht:t≠131)(hA:qQ wr w' w.heap.size t 1 A A' m' cap ys):lQ w' D.q 131 (D.cells f id v19 v20 v21 v22 v23 v24 v25):=
 h.blk.only hA.only fun hm=>by
  obtain⟨_,cs,hc⟩:=lW ho _ hm;exact h.blk.nY hc (dR ht) rfl
theorem pX.inst(h:pX x w wr f id n D v19 v20 v21 v22 v23 v24 v25 []){gi:Nat}{i:tJ}(hb:Be wr w')(hi:lY x w' f n D.is.length 4 gi i)(hge: ∀b∈i.foot gi,wr.heap.size<=b):
  pX x w w' f id n {D with is:=D.is++ [(gi,i)]} v19 v20 v21 v22 v23 v24 v25 []:=by
 have s:=(h.sys.below hb).add (c:=zX f n D.is.length gi i) hi (Ja _ _ _ _ _) fun k hk hm=>by
  have:=h.sys.lt k hm;have:=hge k hk;omega
 have e:D.L f n (D.cells f id v19 v20 v21 v22 v23 v24 v25) []++ [zX f n D.is.length gi i]=({D with is:=D.is++ [(gi,i)]}:xD).L f n (({D with is:=D.is++ [(gi,i)]}:xD).cells f id v19 v20 v21 v22 v23 v24 v25) []:=by
  simp only[xD.L,Jb,aO,eG,List.cons_append];rfl
 rw[e] at s;refine⟨s,h.below.trans (hb.mono h.below.size),fun k hk=> ?_⟩;rw[<-e,zU,aQ] at hk;rcases hk with hk|hk
 ·exact h.ge k hk
 refine aG h.below.size (hge k ?_);simpa[nE,zX] using hk
theorem pX.app1(h:pX x w wr f id n D v19 v20 v21 v22 v23 v24 v25 R)(hA:qQ wr w' w.heap.size 164 1 D.a1 A' (D.gs.length+1) cap ((D.gs.map fun g=>Value.pointer (some ⟨g,0,none⟩))++ [.pointer (some ⟨g,0,none⟩)])):
  pX x w (w'.setCell ⟨D.q,18,none⟩ (.slice A' (D.gs.length+1) cap)) f id n {D with gs:=D.gs++ [g],a1:=A',d1:=cap} v19 v20 v21 v22 v23 v24 v25 R:=by
 have s1:=h.sys.turn (j:=2) (c:=D.zJ) (c':=({D with gs:=D.gs++ [g],a1:=A',d1:=cap}:xD).zJ) rfl hA.only (fun k hk=> .inl hk) (by
  show w'.ownsRow 0 _ _ _ _ _;simp only[av,List.length_cons,List.length_nil,bR,bV,fu];exact mO hA.own (bF _)) (uJ _ _ _ _ _ _ lN) (fun k hk=>(hA.at_ k (aJ.1 hk)).imp (fun e=>aJ.2 e) fun e=>e)
 have b1:lQ w' D.q 131 (D.cells f id v19 v20 v21 v22 v23 v24 v25):=s1.sys.get (j:=0) (c:=mW D.q 131 (D.cells f id v19 v20 v21 v22 v23 v24 v25)) rfl;have s2:=s1.turn (j:=0) (c:=mW D.q 131 (D.cells f id v19 v20 v21 v22 v23 v24 v25)) (c':=mW D.q 131 (({D with gs:=D.gs++ [g],a1:=A',d1:=cap}:xD).cells f id v19 v20 v21 v22 v23 v24 v25)) rfl ((Only.refl [D.q] w').setCell (p:=⟨D.q,18,none⟩) (.inl lT) (.slice A' (D.gs.length+1) cap)) (fun k hk=> .inl hk) (by
  have:=b1.mg 18 (.slice A' (D.gs.length+1) cap);show lQ _ _ _ (({D with gs:=D.gs++ [g],a1:=A',d1:=cap}:xD).cells f id v19 v20 v21 v22 v23 v24 v25);simp only[xD.cells,av,List.length_cons,List.length_nil];exact this) (oF _ _ _ lN) (fun k hk=> .inl hk)
 have:=pX.step s2 h.below h.ge;exact⟨s2.sys,this.1,this.2⟩
theorem abY{w':World}{B:Nat}{l:LN}(h:Xi w1 A d l)(hg:lQ w1 g 3 z17)(hn:g∉l)(hA:qQ w1 w' B 35 1 A A' (l.length+1) cap ((l.map fun g=>Value.slice (some ⟨g,0,none⟩) 17 17)++ [.slice (some ⟨g,0,none⟩) 17 17])):Xi w' A' cap (l++ [g]):=by
 have far: ∀g,lQ w1 g 3 z17->g∉(A.map (·.block)).toList:=fun g hg hm=>by
  obtain⟨_,cs,hc⟩:=lW h.out g hm;exact hg.nY hc lN rfl
 refine⟨?_,fun b hb=> ?_,?_⟩
 ·simp only[av,List.length_cons,List.length_nil,bR,bV,fu]
  exact mO hA.own (bF _)
 ·rcases aQ.1 hb with hb|hb
  ·exact(h.KI b hb).only hA.only (far b (h.KI b hb))
  rw[au] at hb;subst hb;exact hg.only hA.only (far b hg)
 rw[ig];refine⟨h.nd,lT,fun a ha b hb e=>hn ?_⟩;rw[au] at hb;rw[<-hb,<-e];exact ha
theorem pX.an2(h:pX x w wr f id n D v19 v20 v21 v22 v23 v24 v25 R)(hb:Be wr w1)(hg:lQ w1 g 3 z17)(hgn:wr.heap.size<=g)(hA:qQ w1 w' w.heap.size 35 1 D.a2 A' (D.ps.length+1) cap ((D.ps.map fun g=>Value.slice (some ⟨g,0,none⟩) 17 17)++ [.slice (some ⟨g,0,none⟩) 17 17])):
  pX x w (w'.setCell ⟨D.q,26,none⟩ (.slice A' (D.ps.length+1) cap)) f id n {D with ps:=D.ps++ [g],a2:=A',d2:=cap} v19 v20 v21 v22 v23 v24 v25 R:=by
 have hlt: ∀b∈D.ps,b<wr.heap.size:=fun b hb=>(h.o2.KI b hb).lt;have s1:=h.sys.turn (j:=3) (c:=Ay D.a2 D.d2 D.ps) (c':=Ay A' cap (D.ps++ [g])) (S:=(D.a2.map (·.block)).toList) rfl ((Only.of_below hb).trans hA.only) (fun k hk=> .inl (bL _ hk)) (abY (h.keep hb).o2 hg (fun hm=>by have:=hlt g hm;omega) hA) (Ea _ _ _) (fun k hk=>by
  rcases aQ.1 hk with hk|hk
  ·exact(hA.at_ k (aJ.1 hk)).imp (fun e=>bL _ (aJ.2 e)) fun e=>aG hb.size e
  rcases aQ.1 hk with hk|hk
  ·exact .inl (bH _ hk)
  rw[au] at hk;exact .inr (by rw[hk];exact hgn))
 have b1:lQ w' D.q 131 (D.cells f id v19 v20 v21 v22 v23 v24 v25):=s1.sys.get (j:=0) (c:=mW D.q 131 (D.cells f id v19 v20 v21 v22 v23 v24 v25)) rfl;have s2:=s1.turn (j:=0) (c:=mW D.q 131 (D.cells f id v19 v20 v21 v22 v23 v24 v25)) (c':=mW D.q 131 (({D with ps:=D.ps++ [g],a2:=A',d2:=cap}:xD).cells f id v19 v20 v21 v22 v23 v24 v25)) rfl ((Only.refl [D.q] w').setCell (p:=⟨D.q,26,none⟩) (.inl lT) (.slice A' (D.ps.length+1) cap)) (fun k hk=> .inl hk) (by
  have:=b1.mg 26 (.slice A' (D.ps.length+1) cap);show lQ _ _ _ (({D with ps:=D.ps++ [g],a2:=A',d2:=cap}:xD).cells f id v19 v20 v21 v22 v23 v24 v25);simp only[xD.cells,av,List.length_cons,List.length_nil];exact this) (oF _ _ _ lN) (fun k hk=> .inl hk)
 have:=pX.step s2 h.below h.ge;exact⟨s2.sys,this.1,this.2⟩
theorem pX.an3(h:pX x w wr f id n D v19 v20 v21 v22 v23 v24 v25 R)(hb:Be wr w1)(hg:lQ w1 g 3 z17)(hgn:wr.heap.size<=g)(hA:qQ w1 w' w.heap.size 35 1 D.a3 A' (D.cs.length+1) cap ((D.cs.map fun g=>Value.slice (some ⟨g,0,none⟩) 17 17)++ [.slice (some ⟨g,0,none⟩) 17 17])):
  pX x w (w'.setCell ⟨D.q,27,none⟩ (.slice A' (D.cs.length+1) cap)) f id n {D with cs:=D.cs++ [g],a3:=A',d3:=cap} v19 v20 v21 v22 v23 v24 v25 R:=by
 have hlt: ∀b∈D.cs,b<wr.heap.size:=fun b hb=>(h.o3.KI b hb).lt;have s1:=h.sys.turn (j:=4) (c:=Ay D.a3 D.d3 D.cs) (c':=Ay A' cap (D.cs++ [g])) (S:=(D.a3.map (·.block)).toList) rfl ((Only.of_below hb).trans hA.only) (fun k hk=> .inl (bL _ hk)) (abY (h.keep hb).o3 hg (fun hm=>by have:=hlt g hm;omega) hA) (Ea _ _ _) (fun k hk=>by
  rcases aQ.1 hk with hk|hk
  ·exact(hA.at_ k (aJ.1 hk)).imp (fun e=>bL _ (aJ.2 e)) fun e=>aG hb.size e
  rcases aQ.1 hk with hk|hk
  ·exact .inl (bH _ hk)
  rw[au] at hk;exact .inr (by rw[hk];exact hgn))
 have b1:lQ w' D.q 131 (D.cells f id v19 v20 v21 v22 v23 v24 v25):=s1.sys.get (j:=0) (c:=mW D.q 131 (D.cells f id v19 v20 v21 v22 v23 v24 v25)) rfl;have s2:=s1.turn (j:=0) (c:=mW D.q 131 (D.cells f id v19 v20 v21 v22 v23 v24 v25)) (c':=mW D.q 131 (({D with cs:=D.cs++ [g],a3:=A',d3:=cap}:xD).cells f id v19 v20 v21 v22 v23 v24 v25)) rfl ((Only.refl [D.q] w').setCell (p:=⟨D.q,27,none⟩) (.inl lT) (.slice A' (D.cs.length+1) cap)) (fun k hk=> .inl hk) (by
  have:=b1.mg 27 (.slice A' (D.cs.length+1) cap);show lQ _ _ _ (({D with cs:=D.cs++ [g],a3:=A',d3:=cap}:xD).cells f id v19 v20 v21 v22 v23 v24 v25);simp only[xD.cells,av,List.length_cons,List.length_nil];exact this) (oF _ _ _ lN) (fun k hk=> .inl hk)
 have:=pX.step s2 h.below h.ge;exact⟨s2.sys,this.1,this.2⟩
theorem pX.more(h:pX x w wr f id n D v19 v20 v21 v22 v23 v24 v25 R)(hb:Be wr w'){c:ni}(hg:c.Good)(hP:c.P x w')(hn: ∀k∈c.foot,wr.heap.size<=k):pX x w w' f id n D v19 v20 v21 v22 v23 v24 v25 (R++ [c]):=by
 have s:=(h.sys.below hb).add hP hg fun k hk hm=>by
  have:=h.sys.lt k hm;have:=hn k hk;omega
 have e:D.L f n (D.cells f id v19 v20 v21 v22 v23 v24 v25) R++ [c]=D.L f n (D.cells f id v19 v20 v21 v22 v23 v24 v25) (R++ [c]):=by
  simp only[xD.L,List.cons_append,bW]
 rw[e] at s;refine⟨s,h.below.trans (hb.mono h.below.size),fun k hk=> ?_⟩;rw[<-e,zU,aQ] at hk;rcases hk with hk|hk
 ·exact h.ge k hk
 refine aG h.below.size (hn k ?_);simpa[nE] using hk
theorem pX.mg(h:pX x w wr f id n D v19 v20 v21 v22 v23 v24 v25 R){i:Nat}{v yL u20 u21 u22 u23 u24 u25:Value}(he:(D.cells f id v19 v20 v21 v22 v23 v24 v25).setIfInBounds i v=D.cells f id yL u20 u21 u22 u23 u24 u25):pX x w (wr.setCell ⟨D.q,i,none⟩ v) f id n D yL u20 u21 u22 u23 u24 u25 R:=by
 have s2:=h.sys.turn (j:=0) (c:=mW D.q 131 (D.cells f id v19 v20 v21 v22 v23 v24 v25)) (c':=mW D.q 131 (D.cells f id yL u20 u21 u22 u23 u24 u25)) rfl ((Only.refl [D.q] wr).setCell (p:=⟨D.q,i,none⟩) (.inl lT) v) (fun k hk=> .inl hk) (by
  show lQ _ _ _ (D.cells f id yL u20 u21 u22 u23 u24 u25);rw[<-he];exact h.blk.mg i v) (oF _ _ _ lN) (fun k hk=> .inl hk)
 have:=pX.step s2 h.below h.ge;exact⟨s2.sys,this.1,this.2⟩
end
def QW(n:Nat):uo:=⟨false,[],List.replicate n none,List.replicate n none,false,none,none⟩
structure vU(f:Int)(n:Nat)(v:ql):Prop where
 now:v.now=0
 il:(v.is.length:Int)=f+1
 is: ∀i∈v.is,i.vw=0/\i.on=true/\i.ps=List.replicate 16 (QW n)
 T:v.T= []
 V:v.V.length=n
 es:v.es= []
 st:v.st=st0
 ct:v.ct=List.replicate 2 (0,0)
 ga:v.ga=List.replicate v.is.length (0,0)
 xU:v.xU.length=n*5
 Yj: ∀x∈v.xU,x.oneCell'=true
 vZ:v.vZ=List.flatten (List.replicate v.is.length [U 0,U 0,U 0,U 0,U 0,U 0,U 0,(),(),(),()])
 nN:v.nN=List.replicate v.is.length (List.replicate 17 0)
 nG:v.nG=List.replicate v.is.length (List.replicate 17 0)
 run:v.run=0
 view:v.view=0
 vk:v.vk= -1
 since:v.since=0
 start:v.start=0
 stop:v.stopped=false
 out:v.out= []
 c0:v.c0=0
 c2:v.c2=0
section
variable{x:Nat}{w:World}{L L':List ni}{c c':ni}
theorem Sys.tl(h:Sys x w (c::L)):Sys x w L:=⟨fun b hb=>h.good b (cK _ hb),fun b hb=>h.at_ b (cK _ hb),(eu.1 h.sep).2⟩
theorem Sys.as_(h:Sys x w L){j:Nat}(hj:L[j]?=some c)(hP:c'.P x w)(hg:c'.Good)(hf: ∀k∈c'.foot,k∈c.foot):Sys x w (L.set j c'):=
 (h.turn hj (Only.refl [] w) (fun k hk=>by simp at hk) hP hg fun k hk=> .inl (hf k hk)).sys
theorem LW(p:L.Perm L'){k:Nat}:k∈nE L↔k∈nE L':=by
 unfold nE;simp only[bg];exact⟨fun⟨c,hc,h⟩=>⟨c,p.mem_iff.1 hc,h⟩,fun⟨c,hc,h⟩=>⟨c,p.mem_iff.2 hc,h⟩⟩
theorem Wi{t:TypeId}(h:w.ownsRow 0 t s (.slice A m d) m xs)(hm:0<m): ∃g,A=some ⟨g,0,none⟩/\Row w g t s m d xs:=by
 rcases rF h with⟨_,h0,_⟩|⟨g,rfl⟩
 ·omega
 exact⟨g,rfl,Row.sG h⟩
theorem Wz{l:LN}(h:Xi w A d l)(hl:0<l.length): ∃g,A=some ⟨g,0,none⟩/\xG w g d (l.map fun k=>(k,List.replicate 17 0)):=by
 obtain⟨g,rfl,hr⟩:=Wi h.out hl;refine⟨g,rfl,?_,fun p hp=> ?_,?_⟩
 ·simp only[aT,gu]
  exact hr
 ·obtain⟨k,hk,rfl⟩:=bM.1 hp
  exact h.KI k hk
 simpa[gu,Function.comp_def] using h.nd
end
structure Ig where
 nH:Nat
 gv:Nat
 Iz:Nat
 V:List Vt
 gg:Nat
 gd:Nat
 SL:List Nat
 gm:Nat
 Dl:Nat
 ga:List (Int×Int)
 gp:Nat
 xU:List Value
 gb:Nat
 vZ:List Value
def Ig.R(f:Int)(r:Ig):List ni:= [Fg r.nH f 2 [] [r.nH],Gw r.gv r.Iz f r.V,Gr r.gg 8 8,ET r.SL r.gd 2 [] st0 (List.replicate 2 (0,0)),Dx r.gm r.Dl r.ga,mW r.gp 290 r.xU.toArray,mW r.gb 292 r.vZ.toArray]
def Ae(D:xD)(gr xL xK:Nat)(r:Ig):lU:=
 ⟨D.nn,D.gt,0,gr,D.d1,D.is,r.nH,[],[r.nH],r.gv,r.Iz,r.V,r.gg,r.gd,r.SL,[],st0,List.replicate 2 (0,0),r.gm,r.Dl,r.ga,r.gp,r.xU,r.gb,r.vZ,xL,D.d2,D.ps.map fun k=>(k,List.replicate 17 0),xK,D.d3,D.cs.map fun k=>(k,List.replicate 17 0),0,0,-1,0,0,false,none,0,[],0,0,0,0,0⟩
theorem pX.done  {wr:World} {id:Int} {D:xD} {r:Ig} {np nb:Nat} (h:pX x w wr f id n D r.nH r.gv r.gg r.gd r.gm (O r.gp np np) (O r.gb nb nb) (r.R f))
  (hgs:D.gs=D.is.map Prod.fst) (hl:0<D.is.length) (h2:D.ps.length=D.is.length) (h3:D.cs.length=D.is.length) (hnp:r.xU.length=np*5) (hnb:r.vZ.length=nb*11):
  ∃gr xL xK,Sys x wr (sF f id n D.q (Ae D gr xL xK r))/\ ∀k∈nE (sF f id n D.q (Ae D gr xL xK r)),w.heap.size<=k:=by
 have hgl:D.gs.length=D.is.length:=by rw[hgs,aT]
 obtain⟨gr,e1,hr1⟩:=Wi h.o1 lK;obtain⟨xL,e2,hr2⟩:=Wz h.o2 lK;obtain⟨xK,e3,hr3⟩:=Wz h.o3 lK;refine⟨gr,xL,xK,?_⟩;have hcells:D.cells f id r.nH r.gv r.gg r.gd r.gm (O r.gp np np) (O r.gb nb nb)=yB f id (Ae D gr xL xK r):=by
  simp only[xD.cells,nmc,yB,Ae,e1,e2,e3,hgl,h2,h3,hnp,hnb,aT];rw[iT np lN,iT nb lN];rfl
 have hs:=h.sys;have hge:=h.ge;unfold xD.L Ig.R at hs hge;rw[hcells] at hs hge;generalize hI:sD f n 0 D.is=I at hs hge;have p:List.Perm (mW D.q 131 (yB f id (Ae D gr xL xK r))::Da D.gt 0::D.zJ::Ay D.a2 D.d2 D.ps::Ay D.a3 D.d3 D.cs::mW D.gc 24 (sW f)::(I++ [Fg r.nH f 2 [] [r.nH],Gw r.gv r.Iz f r.V,Gr r.gg 8 8,ET r.SL r.gd 2 [] st0 (List.replicate 2 (0,0)),Dx r.gm r.Dl r.ga,mW r.gp 290 r.xU.toArray,mW r.gb 292 r.vZ.toArray]))
   (mW D.gc 24 (sW f)::(mW D.q 131 (yB f id (Ae D gr xL xK r))::Da D.gt 0::D.zJ::Fg r.nH f 2 [] [r.nH]::Gw r.gv r.Iz f r.V::Gr r.gg 8 8::ET r.SL r.gd 2 [] st0 (List.replicate 2 (0,0))::Dx r.gm r.Dl r.ga::mW r.gp 290 r.xU.toArray::mW r.gb 292 r.vZ.toArray::Ay D.a2 D.d2 D.ps::Ay D.a3 D.d3 D.cs::I)):=by
  generalize mW D.q 131 (yB f id (Ae D gr xL xK r))=a0;generalize Da D.gt 0=a1;generalize D.zJ=a2;generalize Ay D.a2 D.d2 D.ps=d0;generalize Ay D.a3 D.d3 D.cs=d1;generalize mW D.gc 24 (sW f)=g;generalize hR: [Fg r.nH f 2 [] [r.nH],Gw r.gv r.Iz f r.V,Gr r.gg 8 8,ET r.SL r.gd 2 [] st0 (List.replicate 2 (0,0)),Dx r.gm r.Dl r.ga,mW r.gp 290 r.xU.toArray,mW r.gb 292 r.vZ.toArray]=R;have e: ∀Z:List ni,Fg r.nH f 2 [] [r.nH]::Gw r.gv r.Iz f r.V::Gr r.gg 8 8::ET r.SL r.gd 2 [] st0 (List.replicate 2 (0,0))::Dx r.gm r.Dl r.ga::mW r.gp 290 r.xU.toArray::mW r.gb 292 r.vZ.toArray::Z=R++Z:=fun Z=>by rw[<-hR];rfl
  rw[e];have p1:([d0,d1]++(I++R)).Perm (R++([d0,d1]++I)):=by
   rw[<-bW];exact List.perm_append_comm
  have p2:([a0,a1,a2,d0,d1]++g::(I++R)).Perm (g::([a0,a1,a2,d0,d1]++(I++R))):=List.perm_middle;exact p2.trans (kV g (((p1.cons a2).cons a1).cons a0))
 have s1:=(hs.perm p).tl;have s2:=s1.add (c:=Cv none 0 []) (nJ.nil _ _) (EY _ _ _) (fun k hk=>by simp[Cv] at hk);have p3:List.Perm ((mW D.q 131 (yB f id (Ae D gr xL xK r))::Da D.gt 0::D.zJ::Fg r.nH f 2 [] [r.nH]::Gw r.gv r.Iz f r.V::Gr r.gg 8 8::ET r.SL r.gd 2 [] st0 (List.replicate 2 (0,0))::Dx r.gm r.Dl r.ga::mW r.gp 290 r.xU.toArray::mW r.gb 292 r.vZ.toArray::Ay D.a2 D.d2 D.ps::Ay D.a3 D.d3 D.cs::I)++ [Cv none 0 []])
   (mW D.q 131 (yB f id (Ae D gr xL xK r))::Da D.gt 0::D.zJ::Fg r.nH f 2 [] [r.nH]::Gw r.gv r.Iz f r.V::Gr r.gg 8 8::ET r.SL r.gd 2 [] st0 (List.replicate 2 (0,0))::Dx r.gm r.Dl r.ga::mW r.gp 290 r.xU.toArray::mW r.gb 292 r.vZ.toArray::Ay D.a2 D.d2 D.ps::Ay D.a3 D.d3 D.cs::Cv none 0 []::I):=by
  simp only[List.cons_append]
  repeat refine kV _ ?_
  exact jM _ _
 have s3:=s2.perm p3;have s4:=s3.as_ (j:=2) (c:=D.zJ) (c':=abR gr 164 1 D.is.length D.d1 (D.is.map fun p=> .pointer (some ⟨p.1,0,none⟩))) rfl (by
  show Row _ _ _ _ _ _ _;rw[hgs,aT,gu] at hr1;exact hr1) (Yv _ _ _ _ _ _ lN) (fun k hk=>by
  simp only[abR,nM,au] at hk;simp only[xD.zJ,wG,nM,e1,hk];simp)
 have s5:=s4.as_ (j:=10) (c:=Ay D.a2 D.d2 D.ps) (c':=wJ xL D.d2 (D.ps.map fun k=>(k,List.replicate 17 0))) rfl hr2 (yY _ _ _) (fun k hk=>by
  simp only[wJ,nM,gu,Function.comp_def,kE,ay] at hk;simp only[Ay,nM,e2];rcases hk with rfl|hk
  ·simp
  exact bH _ hk)
 have s6:=s5.as_ (j:=11) (c:=Ay D.a3 D.d3 D.cs) (c':=wJ xK D.d3 (D.cs.map fun k=>(k,List.replicate 17 0))) rfl hr3 (yY _ _ _) (fun k hk=>by
  simp only[wJ,nM,gu,Function.comp_def,kE,ay] at hk;simp only[Ay,nM,e3];rcases hk with rfl|hk
  ·simp
  exact bH _ hk)
 refine⟨?_,fun k hk=> ?_⟩
 ·rw[<-hI] at s6
  exact s6
 have old:k∈nE (mW D.q 131 (yB f id (Ae D gr xL xK r))::Da D.gt 0::D.zJ::Fg r.nH f 2 [] [r.nH]::Gw r.gv r.Iz f r.V::Gr r.gg 8 8::ET r.SL r.gd 2 [] st0 (List.replicate 2 (0,0))::Dx r.gm r.Dl r.ga::mW r.gp 290 r.xU.toArray::mW r.gb 292 r.vZ.toArray::Ay D.a2 D.d2 D.ps::Ay D.a3 D.d3 D.cs::I):=by
  rw[<-hI];simp only[nE,sF,Ae,bQ,aQ] at hk|-;rcases hk with hk|hk|hk|hk|hk|hk|hk|hk|hk|hk|hk|hk|hk|hk
  ·exact .inl hk
  ·exact .inr (.inl hk)
  ·refine .inr (.inr (.inl ?_))
   simp only[abR,nM,au] at hk;simp only[xD.zJ,wG,nM,e1,hk];simp
  ·exact .inr (.inr (.inr (.inl hk)))
  ·exact .inr (.inr (.inr (.inr (.inl hk))))
  ·exact .inr (.inr (.inr (.inr (.inr (.inl hk)))))
  ·exact .inr (.inr (.inr (.inr (.inr (.inr (.inl hk))))))
  ·exact .inr (.inr (.inr (.inr (.inr (.inr (.inr (.inl hk)))))))
  ·exact .inr (.inr (.inr (.inr (.inr (.inr (.inr (.inr (.inl hk))))))))
  ·exact .inr (.inr (.inr (.inr (.inr (.inr (.inr (.inr (.inr (.inl hk)))))))))
  ·refine .inr (.inr (.inr (.inr (.inr (.inr (.inr (.inr (.inr (.inr (.inl ?_))))))))))
   simp only[wJ,nM,gu,Function.comp_def,kE,ay] at hk;simp only[Ay,nM,e2];rcases hk with rfl|hk
   ·simp
   exact bH _ hk
  ·refine .inr (.inr (.inr (.inr (.inr (.inr (.inr (.inr (.inr (.inr (.inr (.inl ?_)))))))))))
   simp only[wJ,nM,gu,Function.comp_def,kE,ay] at hk;simp only[Ay,nM,e3];rcases hk with rfl|hk
   ·simp
   exact bH _ hk
  ·simp[Cv] at hk
  exact .inr (.inr (.inr (.inr (.inr (.inr (.inr (.inr (.inr (.inr (.inr (.inr hk)))))))))))
 refine hge k ((LW p).2 ?_);simp only[nE,bQ,aQ] at old|-;exact .inr old
theorem XZ   {D:xD} {gr xL xK:Nat} {r:Ig} (hl:(D.is.length:Int)=f+1) (h2:D.ps.length=D.is.length) (h3:D.cs.length=D.is.length) (hi: ∀p∈D.is,p.2.vw=0/\p.2.on=true/\p.2.ps.map qm.val=List.replicate 16 (QW n)) (hV:r.V.length=n) (hga:r.ga=List.replicate D.is.length (0,0)) (hp:r.xU.length=n*5) (hone: ∀x∈r.xU,x.oneCell'=true)
  (hb:r.vZ=List.flatten (List.replicate D.is.length [U 0,U 0,U 0,U 0,U 0,U 0,U 0,(),(),(),()])):vU f n (Ae D gr xL xK r).val:=by
 have il:(Ae D gr xL xK r).val.is.length=D.is.length:=by simp[lU.val,Ae]
 refine⟨rfl,by rw[il];exact hl,fun i h=> ?_,rfl,hV,rfl,rfl,rfl,by rw[il];exact hga,hp,hone,by rw[il];exact hb,?_,?_,rfl,rfl,rfl,rfl,rfl,rfl,rfl,rfl,rfl⟩
 ·obtain⟨p,hp,rfl⟩:=bM.1 h
  exact hi p hp
 ·rw[il,<-h2]
  simp[lU.val,Ae,gu,Function.comp_def,kH]
 rw[il,<-h3];simp[lU.val,Ae,gu,Function.comp_def,kH]
end Go.Proofs.YtgnhecmnlddjhaaGreat
