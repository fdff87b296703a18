/- TopAlone, part 11 of 24: a proof squeezed by a program. -/
import Derived.Test.YtgnhecmnlddjhaaGreatZ09
set_option linter.unusedVariables false
set_option linter.unusedSimpArgs false
set_option linter.defProp false
set_option maxRecDepth 100000
set_option maxHeartbeats 6400000
namespace Go.Proofs.YtgnhecmnlddjhaaGreat
open Go.RowKit Go.Proofs.Tryz
variable{P:Prop}{a:OA}{c g k n s t t':Nat}{xs:LV}
def QX(x:Int):List Int->Option Nat
 | []=>none
 |p::l=>if p=x then some 0 else(QX x l).map (· +1)
theorem Oy(x:Int): ∀(l:LI) (i:Nat),QX x l=some i->l[i]?=some x/\ ∀j,j<i->l[j]?≠some x
 | [],i,h=>by cases h
 |p::l,i,h=>by
  rw[QX] at h;by_cases hp:p=x
  ·rw[aV hp] at h
   injection h with h;subst h;exact⟨by simp[hp],fun j hj=>absurd hj lK⟩
  rw[aU hp] at h;simp only[aK] at h;obtain⟨i,h,rfl⟩:=h;obtain⟨h1,h2⟩:=Oy x l i h;refine⟨by simpa using h1,fun j hj=> ?_⟩
  cases j with
  |zero=>simpa using hp
  |succ j=>simpa using h2 j lK
def XT(ps:LI)(x y:Int):Option Nat:=(QX x ps).bind fun a=>(QX y ps).bind fun b=>if a=b then none else some (a*ps.length+b)
def zD(ps:LI)(x:Int):List (Int×List Int)->(Nat->List LI)->Option (Nat->List LI)
 | [],M=>some M
 |(y,bs)::r,M=>(XT ps x y).bind fun k=>if(M k).length<64/\bs.length<=65536 then zD ps x r (ru M k (M k++ [bs])) else none
def uU.val(d:uU):Nat->List LI:=fun k=>(d.ms k).map Prod.snd
theorem Iu{α:Type}(f:α->List Value)(s:Nat)(hs: ∀p,(f p).length=s): ∀(L:List α) (k:Nat) (p:α) (j:Nat),L[k]?=some p->j<s->(L.flatMap f)[k*s+j]?=(f p)[j]?
 | [],k,p,j,hk,hj=>by simp at hk
 |a::L,0,p,j,hk,hj=>by
  simp only[List.getElem?_cons_zero,aD] at hk;subst hk;rw[bQ,fI,aO,bC (by rw[hs];exact hj)]
 |a::L,k+1,p,j,hk,hj=>by
  rw[List.getElem?_cons_succ] at hk;rw[bQ,bN (by rw[hs,gY];omega),hs,show(k+1)*s+j -s=k*s+j by rw[gY];omega];exact Iu f s hs L k p j hk hj
theorem ad5{ps:LI}{x y:Int}(h:XT ps x y=some k):Lnk ps.length ps x y k:=by
 unfold XT at h;simp only[aA] at h;obtain⟨a,ha,b,hb,h⟩:=h;split at h
 ·cases h
 rename_i hne;injection h with h;obtain⟨a1,a2⟩:=Oy x ps a ha;obtain⟨b1,b2⟩:=Oy y ps b hb;exact⟨a,b,⟨(ah.1 a1).1,a1,a2⟩,⟨(ah.1 b1).1,b1,b2⟩,hne,h⟩
theorem RU{α:Type}(f:Nat->α)(k:Nat):ru f k (f k)=f:=by
 funext j
 unfold ru;split
 ·rename_i e
  rw[e]
 rfl
theorem acB(d:uU)(g:Nat->Nat)(lost:Nat->Int)(ms:Nat->List (Value×List Int))(k:Nat)(z:Value)(bs:LI):(d.qs g lost (ru ms k (ms k++ [(z,bs)]))).val=ru (d.qs g lost ms).val k ((d.qs g lost ms).val k++ [bs]):=by
 funext j
 simp only[uU.val,ru];split
 ·rename_i e
  simp
 rfl
theorem adv (x:Nat) (w:World) (L:List ni) (h:Sys x w L) (j i gc gn:Nat) (cc:AV) (d:uU) (hj:L[j]?=some (xS gn 64 d)) (hi:L[i]?=some (mW gc 99 cc)) (hij:i≠j) (hcn:cc[17]?=some (.pointer (some ⟨gn,0,none⟩)))
  (hn:d.ps.length=d.n) (h64:d.n<=64) (src:Int) (A:OA) (m c:Nat) (SL:List wN) (hO:nJ x w A m c SL) (hm:m<=4096) (M:Nat->List LI) (hM:zD d.ps src (uy SL) d.val=some M):
  Y 48 #[gc,U src,.slice A m c] w fun e w'=>e= .returned (.tuple #[])/\ ∃g' ms',Step x w w' L (L.set j (xS gn 64 (d.qs g' d.lost ms')))/\(d.qs g' d.lost ms').val=M:=by
 obtain⟨H,HJ,HI,HCN,OO,HM⟩:=j6 h hj hi hcn hO hM;have HN:=jj hn;have jl:Hid (j<L.length):=jj (ah.1 hj).1;have ol:Hid (SL.length=m):=jj hO.len;clear h hj hi hcn hO hM hn;go_enter func48,ntmps48
 go_wp2_with fail
 go_loopw [10] (fun z wr=> ∃p:Nat,p<=m/\z= U p/\ ∃g' ms',Step x w wr L (L.set j (xS gn 64 (d.qs g' d.lost ms')))/\zD d.ps src ((uy SL).drop p) (d.qs g' d.lost ms').val=some M/\nJ x wr A m c SL) (fun z _=>m -(intOf z).toNat)
 case atStart=>exact⟨0,lK,by first|rfl|simp,d.g,d.ms,by
  have e:L.set j (xS gn 64 (d.qs d.g d.lost d.ms))=L:=dD fun k=>by
   by_cases hk:k=j
   ·subst hk
    rw[aL jl,HJ.out]
   rw[aX (dR hk)]
  rw[e];exact Step.refl H,HM,OO⟩
 case round=>
  obtain⟨p,hp,rfl,g',ms',hst,hpv,hO⟩:=hrel;obtain⟨ST,PV,OW⟩:=j3 hst hpv hO;clear hst hpv hO;by_cases hlt:p<m
  ·have i1:(p:Int)<m:=lK
   have i2:(0:Int)<=p:=lK;obtain⟨s,hs⟩: ∃s,SL[p]?=some s:=⟨_,aj (by rw[ol.out];exact hlt)⟩;have SI:=jj (OW.is s (ak hs));have e0:=Iu WB 2 WC SL p s 0 hs lN;have e1:=Iu WB 2 WC SL p s 1 hs lN;rw[Nat.add_zero] at e0;obtain⟨ga,rfl⟩: ∃ga,A=some ⟨ga,0,none⟩:=by
    rcases rF OW.own with h|h
    ·omega
    exact h
   have RW:=jj (Row.sG OW.own);have d0:J wr ga (p*2) (U s.dst):=RW.cell (by rw[e0];rfl);have d1:J wr ga (p*2+1) (.slice s.a s.n s.c):=RW.cell (by rw[e1];rfl);have PV':Hid ((XT d.ps src s.dst).bind (fun k=>if((d.qs g' d.lost ms').val k).length<64/\s.bs.length<=65536 then zD d.ps src ((uy SL).drop (p+1)) (ru (d.qs g' d.lost ms').val k ((d.qs g' d.lost ms').val k++ [s.bs])) else none)=some M):=jj (by
    have e:=PV.out;have hov:(uy SL)[p]?=some (s.dst,s.bs):=by simp[uy,hs]
    rw[List.drop_eq_getElem?_toList_append] at e;rw[hov] at e;exact e)
   clear e0 e1 hs RW PV
   go_upto_region 3 with fail
   generalize hw1:wr.alloc _=w1;generalize qP:wr.heap.size=gq;replace hw1:=hw1.symm;replace qP:=qP.symm;have kq:=xNew hw1 qP;have B1:=tQ hw1;clear hw1 qP d0 d1;have S1:=jj (ST.below B1);have O1:=jj (OW.below B1);have I1:=jj (SI.below B1);clear ST OW SI B1;obtain⟨k,hk,hpv⟩:=aA.1 PV';have LK:Hid (Lnk d.n d.ps src s.dst k):=jj (by rw[<-HN.out];exact ad5 hk);split at hpv
   case isFalse=>cases hpv
   rename_i hroom;have RM:=jj hroom;have PV2:=jj hpv;clear hpv hroom hk PV';have hjj:(L.set j (xS gn 64 (d.qs g' d.lost ms')))[j]?=some (xS gn 64 (d.qs g' d.lost ms')):=aL jl;have hii:(L.set j (xS gn 64 (d.qs g' d.lost ms')))[i]?=some (mW gc 99 cc):=by rw[aX (dR hij)];exact HI.out
   have NT:Hid (oD w1 gn 64 (d.qs g' d.lost ms')):=jj (S1.sys.get hjj);have CB:Hid (lQ w1 gc 99 cc):=jj (S1.sys.get hii);have JJ:=jj hjj;clear hjj hii;have KS:J w1.drew gc 17 gn/\J w1.drew gq 0 (U s.dst)/\J w1.drew gq 1 (.slice s.a s.n s.c):=⟨(CB.drew.cell 17).trans HCN,kq.drew.cell 0,kq.drew.cell 1⟩;refine rD (fun u=>J u gc 17 gn/\J u gq 0 (U s.dst)/\J u gq 1 (.slice s.a s.n s.c)) 6 (.take 4 (.take 5 (.one 0 (.one 1 (.one 2 (.take 3 (.one 6 .done))))))) KS fun w2 B2 hS0=> ?_;clear KS
   repeat refine' tT ?_
   refine pO fun KT lS=> ?_;go_simp;refine oH lS hS0 ?_;refine pO fun KT lS=> ?_;go_simp;refine oH lS hS0 ?_;refine pO fun KT lS=> ?_;go_simp;refine oH lS hS0 ?_
   repeat refine' tT ?_
   refine pL fun KT lS=> ?_;go_simp;refine(abn src s.dst s.a s.n s.c s.bs w2 ((NT.only (Only.of_below (S:= []) B2) lT lT).nt) (by show d.n<=4096;omega) ⟨lN,lN⟩ k LK (I1.row.below B2) (VZ RM.2 I1.len) (by have:=RM.1;simp only[uU.val,aT] at this;show((ms' k).length:Int)<64;omega)).mono ?_;rintro e w3 ⟨g3,z3,rfl,Tw,ho3,hg3⟩;refine oL lS ?_;refine lM ?_;clear hS0;have LL:Hid (k<d.n*d.n):=jj LK.lt;have S2:=jj (S1.below B2);have O2:=jj (O1.below B2);have hN4:Nt 0 w3 gn d.n d.ps d.q (ru g' k g3) 64 d.lost (ru ms' k (ms' k++ [(z3,s.bs)])):=by
    have e:=Tw;rw[RU] at e;exact e
   have S3:Hid (Step x w w3 L (L.set j (xS gn 64 (d.qs (ru g' k g3) d.lost (ru ms' k (ms' k++ [(z3,s.bs)])))))):=jj (by
    have e:=S2.net JJ LL hN4 ho3 hg3;rw[List.set_set] at e;exact e)
   have N2:=jj (NT.only (Only.of_below (S:= []) B2) lT lT);have O3:Hid (nJ x w3 (some ⟨ga,0,none⟩) m c SL):=jj (O2.only ho3 (fun z hz=>by
    obtain⟨t,cs,hb,hi,_⟩:=N2.kind z (by
     simp only[ay,aI,bK] at hz;rcases hz with rfl|rfl
     ·exact(oD.yQ (d:=d.qs g' d.lost ms') LL).1
     exact(oD.yQ (d:=d.qs g' d.lost ms') LL).2)
    exact nV.of hb hi) (fun b hb hm=>by
    have T:=(N2.DU.DU k LL).types;obtain⟨_,cs,hc⟩:=lW O2.own b (aJ.2 hb);rcases T b hm _ _ hc with e|e
    ·exact absurd e lN
    exact absurd e lN))
   clear Tw ho3 hg3 hN4 S1 O1 S2 O2 N2 NT CB JJ B2 I1
   go_wp2_with fail
   go_roundw
   case rel=>exact⟨p+1,lK,by go_num,_,_,S3,by rw[acB];exact PV2.out,O3⟩
   simp[intOf];omega
  obtain rfl:p=m:=lK
  go_wp2_with fail
  go_end0
  have e:=PV.out;rw[eP (by simp only[uy,aT,ol.out];exact aF _)] at e;injection e with e;exact⟨by trivial,g',ms',ST,e⟩
theorem Oi(w:World)(gk:Nat)(cs:AV)(hk:lQ w gk 120 cs)(A:OA)(m c:Nat)(l:List Rq)(h19:cs[19]?=some (.slice A m c))(hl:qc w A m c l)(j:Nat)(hj:m=j+1)(hm:m<=4096)(r:Rq)(hr:l[j]?=some r):
  Y 57 #[gk] w fun e w'=>e= .returned (.agg (rA r).toArray)/\Be w w':=by
 obtain⟨g,off,rfl,hlt2,x0,x1,x2,x3,x4,x5,hx,z0,z1,z2,z3,z4,z5⟩:=hl.get (k:=j) lK;obtain rfl:r=(x0,x1,x2,x3,x4,x5):=by rw[hr] at hx;exact dh hx
 have c19:=(hk.cell 19).trans h19;have e1:IntKind.i64.wrap ((m:Int) -1)=(j:Int):=by rw[aH _ lK];omega
 have i0:(0:Int)<=j:=lK;have i1:(j:Int)<m:=lK;have KS0: ∀w',Be w w'->J w' gk 19 (.slice (some ⟨g,off,none⟩) m c)/\J w' g (off+j*6) (U x0)/\J w' g (off+j*6+1) (U x1)/\J w' g (off+j*6+2) (U x2)/\J w' g (off+j*6+3) (U x3)/\J w' g (off+j*6+4) (U x4)/\J w' g (off+j*6+5) (U x5):=fun w' o=>⟨kept o _ _ c19,kept o _ _ z0,kept o _ _ z1,kept o _ _ z2,kept o _ _ z3,kept o _ _ z4,kept o _ _ z5⟩;have KS:=jj KS0;clear hk h19 hl hr hx z0 z1 z2 z3 z4 z5 hlt2 c19 KS0 hj;show Y 57 #[gk] w fun e w'=>e= .returned (.agg #[U x0,U x1,U x2,U x3,U x4,U x5])/\Be w w';go_enter func57,ntmps57
 go_upto_region 1 with fail
 generalize hv2:w.alloc _=v2;generalize hg2:w.heap.size=g2;replace hv2:=hv2.symm;replace hg2:=hg2.symm;have X2:=xNew hv2 hg2;have B2:=tQ hv2;have GE:Hid (w.heap.size<=g2):=jj lK;clear hv2 hg2;refine rP (fun w'=>J w' gk 19 (.slice (some ⟨g,off,none⟩) m c)/\J w' g (off+j*6) (U x0)/\J w' g (off+j*6+1) (U x1)/\J w' g (off+j*6+2) (U x2)/\J w' g (off+j*6+3) (U x3)/\J w' g (off+j*6+4) (U x4)/\J w' g (off+j*6+5) (U x5)) 12 (tk 0 12 (.one 12 .done)) (KS.out _ B2.drew) ?_;intro hS0;obtain⟨v3,hv3⟩:=ex v2.drew;have Y0:Hid (lQ v3 g2 49 #[U 0,U 0,U 0,U 0,U 0,U 0]):=jj (by rw[hv3];exact X2.drew);have B3:Hid (Be w v3):=jj (by rw[hv3];exact B2.drew);rw[<-hv3] at hS0|-;clear hv3
 repeat refine' tT ?_
 refine pL fun KT lS=> ?_;have y0:=Y0.cell 0;have z0:=Y0.frozen 0;have y1:=Y0.cell 1;have z1:=Y0.frozen 1;have y2:=Y0.cell 2;have z2:=Y0.frozen 2;have y3:=Y0.cell 3;have z3:=Y0.frozen 3;have y4:=Y0.cell 4;have z4:=Y0.frozen 4;have y5:=Y0.cell 5;have z5:=Y0.frozen 5;go_simp;refine oL lS ?_;refine lM ?_;clear hS0 y0 y1 y2 y3 y4 y5 z0 z1 z2 z3 z4 z5;obtain⟨w9,mE⟩:=ex (setW v3 g2 0 [U x0,U x1,U x2,U x3,U x4,U x5]);have K9:=uL mE Y0;simp only[setW,aO,Nat.reduceAdd] at mE;rw[<-mE];have B9:Be w w9:=by rw[mE];exact((((((B3.setCell (p:=⟨g2,0,none⟩) GE _).setCell (p:=⟨g2,1,none⟩) GE _).setCell (p:=⟨g2,2,none⟩) GE _).setCell (p:=⟨g2,3,none⟩) GE _).setCell (p:=⟨g2,4,none⟩) GE _).setCell (p:=⟨g2,5,none⟩) GE _)
 clear mE
 go_wp2_with fail
 refine dF (v:= .agg #[U x0,U x1,U x2,U x3,U x4,U x5]) ?_ rfl ⟨rfl,B9⟩;exact gM Tryz.results57 _ w9 g2 _ _ _ _ (by rfl) K9 underlying49 rfl (by kernel_rfl)
theorem Ui(w:World)(gk:Nat)(cs:AV)(hk:lQ w gk 120 cs)(A:OA)(m c:Nat)(h23:cs[23]?=some (.slice A m c)):
  Y 49 #[gk] w fun e w'=>e= .returned (.slice A m c)/\lQ w' gk 120 (cs.setIfInBounds 23 ())/\Only [gk] w w':=by
 have c23:=(hk.cell 23).trans h23;have f23:=hk.frozen 23;have HK:=jj hk;clear hk h23;go_enter func49,ntmps49
 go_wp2_with fail
 go_ret;exact⟨by trivial,HK.mg 23 _,(Only.refl [gk] _).setCell (.inl lT) _⟩
theorem WG(z:Int):(vg z).length<=6:=(qz _).2
theorem VD{α:Type}{f:α->List Int}: ∀(l:List α),(∀a∈l,(f a).length<=k)->(l.flatMap f).length<=k*l.length
 | [],_=>by simp
 |a::l,h=>by
  have h1:=h a lT;have h2:=VD l fun b hb=>h b (by simp[hb]);simp only[bQ,av,List.length_cons];rw[Nat.mul_add];omega
theorem G6(r:Rq):(oK r).length<=36:=by
 have a:=fun n=>(qz n).2;have s:=fun z=>WG z;simp only[oK,av];have:=a r.1.toNat;have:=a r.2.1.toNat;have:=a r.2.2.1.toNat;have:=s r.2.2.2.1;have:=s r.2.2.2.2.1;have:=a r.2.2.2.2.2.toNat;omega
theorem acD(v:Vo):(uQ v).length<=12:=by
 have a:=fun n=>(qz n).2;simp only[uQ,av];have:=a v.1.toNat;have:=a v.2.toNat;omega
theorem Jk{α:Type}(f:α->List Int)(l:List α)(k:Nat)(h: ∀a∈l,(f a).length<=k):(nI f l).length<=6+k*l.length:=Oo f l k (VD l h)
theorem agK(c:Ce)(hb:c.batch.length<=40)(hv:c.sw.length<=40):(uG c).length<=2000:=by
 have a:=fun n=>(qz n).2;have h1:=Jk oK c.batch 36 fun r _=>G6 r;have h2:=Jk uQ c.sw 12 fun r _=>acD r;simp only[uG,av];have:=a c.view.toNat;have:=a c.inst.toNat;have:=a c.seq.toNat;omega
theorem wQ{m:Ms}(hb:m.batch.length<=40)(hv:m.sw.length<=40)(hc:m.vI.length<=20)(hcs: ∀c∈m.vI,c.batch.length<=40/\c.sw.length<=40):(lX m).length<=65000:=by
 have a:=fun n=>(qz n).2;have s:=fun z=>WG z;have h1:=Jk oK m.batch 36 fun r _=>G6 r;have h2:=Jk uQ m.sw 12 fun r _=>acD r;have h3:=Jk uG m.vI 2000 fun c hc=>agK c (hcs c hc).1 (hcs c hc).2;simp only[lX,av];have:=a m.kind.toNat;have:=a m.sender.toNat;have:=a m.view.toNat;have:=a m.inst.toNat;have:=a m.seq.toNat;have:=s m.res;have:=a 0;omega
def mU(id:Int)(r:Rq):Ms:=⟨1,100+id,0,0,0,0,[r],[],[]⟩
theorem abO{id:Int}{r:Rq}(h:xH r)(h0:0<=id)(h4:id<4):Ev (mU id r):=
 ⟨⟨by simp[mU],by simp[mU]⟩,⟨by simp only[mU];omega,by simp only[mU];omega⟩,⟨by simp[mU],by simp[mU]⟩,⟨by simp[mU],by simp[mU]⟩,⟨by simp[mU],by simp[mU]⟩,⟨by simp[mU],by simp[mU]⟩,fun q hq=>by simp only[mU,au] at hq;rw[hq];exact h,fun v hv=>by simp[mU] at hv,fun v hv=>by simp[mU] at hv,by simp[mU],by simp[mU],by simp[mU]⟩
theorem MV(id:Int)(r:Rq):(lX (mU id r)).length<=65000:=wQ (by simp[mU]) (by simp[mU]) (by simp[mU]) (by simp[mU])
theorem adX (w:World) (gk nn b:Nat) (K:List (Int×List Int)) (hN:vC w nn b K) (cs:AV) (hk:lQ w gk 120 cs) (f id:Int) (h1:1<=f) (h4:f<=4) (hid:0<=id/\id<4)
  (h0:cs[0]?=some (U f)) (h15:cs[15]?=some (U id)) (h16:cs[16]?=some (.pointer (some ⟨nn,0,none⟩))) (IA:OA) (im ic:Nat) (l:List Rq) (h19:cs[19]?=some (.slice IA im ic)) (hl:qc w IA im ic l) (j:Nat) (hj:im=j+1) (him:im<=4096) (r:Rq) (hr:l[j]?=some r) (akO:xH r)
  (A:OA) (m c:Nat) (h23:cs[23]?=some (.slice A m c)) (L:List wN) (x:Nat) (hL:nJ x w A m c L) (hm:m<=4096) (hx:x<w.heap.size) (hlen:K.length<1048576)
  (q:Int×List Int) (hq:q=(100+id,lX (mU id r))) (bs:LI) (hbs:bs=mD (num (sealed K q) q).toNat++lX (mU id r)) (n:Nat) (hn:(n:Int)=3*f+1):
  Y 82 #[gk] w fun e w'=>e= .returned (.tuple #[])/\ ∃A' c' L',lQ w' gk 120 (cs.setIfInBounds 23 (.slice A' (m+n) c'))/\nJ x w' A' (m+n) c' L'/\uy L'=uy L++(List.range n).map (fun i:Nat=>((i:Int),bs))/\
   vC w' nn b (sealed K q)/\Only (b::gk::(A.map (·.block)).toList) w w'/\(∀k,A'.map (·.block)=some k->A.map (·.block)=some k\/w.heap.size<=k):=by
 obtain⟨HN,HK,HL,HQ,Lf,vB⟩:=j6 hN hk hL hq hbs hn;have HX:=jj hx;have am1:=jj akO;have LAST:=jj (fun(w':World) (o:Be w w')=>Oi w' gk cs (hk.below o hk.lt) IA im ic l h19 (hl.below o) j hj him r hr);obtain⟨C0,C23,C15,C16⟩:=j4 h0 h23 h15 h16;have KS0: ∀w',Be w w'->J w' gk 15 (U id)/\J w' gk 16 nn:=fun w' o=>⟨kept o _ _ ((hk.cell 15).trans h15),kept o _ _ ((hk.cell 16).trans h16)⟩;have KS:=jj KS0;have e1:IntKind.i64.wrap (100+id)=100+id:=aH _ lK;obtain⟨r0,r1,r2,r3,r4,r5⟩:=r;clear hN hk hL hq hbs hn hx akO h0 h15 h16 h19 hl hr h23 KS0 hj him;obtain⟨iu,hiu,hu0,hu1,hu2⟩:=bq wU;obtain⟨is,his,hs0,hs1,hs2⟩:=bq wD;have SZ:Hid (23<cs.size):=jj (eX.1 C23).1;have NM:Hid (n<=13):=jj (tL vB.out);go_enter func82,ntmps82
 go_upto_region 0 with fail
 refine rD (fun w'=>J w' gk 15 (U id)/\J w' gk 16 nn) 19 (tk 0 6 (tk 9 4 (.one 6 (.one 7 (.take 8 (.one 13 (tk 14 5 .done))))))) (KS.out _ (aC _ _).drew) fun v0 B0 hS0=> ?_
 repeat refine' tT ?_
 refine pO fun KT lS=> ?_;go_simp;refine(LAST.out _ B0).mono ?_;rintro e v1 ⟨rfl,hb⟩;have B1:=nO B0 hb;clear hb;rw[show(rA (r0,r1,r2,r3,r4,r5)).toArray=#[U r0,U r1,U r2,U r3,U r4,U r5] from rfl];have S1:=KS.out _ B1;refine oH lS S1 ?_;clear hS0;have hS0:=S1;refine pO fun KT lS=> ?_;go_simp;generalize hv2:v1.alloc _=v2;generalize hgm:v1.heap.size=gm;replace hv2:=hv2.symm;replace hgm:=hgm.symm;have B2:=GN B1 hv2;have X2:=xNew hv2 hgm;clear hv2 hgm;have S2:=KS.out _ B2;refine oH lS S2 ?_;clear hS0 S1;have hS0:=S2
 repeat refine' tT ?_
 refine pO fun KT lS=> ?_;go_simp;refine(UG _ nn b K (HN.below B2) ⟨1,100+id,0,0,0,0,some ⟨gm,0,none⟩,1,1,[(r0,r1,r2,r3,r4,r5)],none,0,0,[],none,0,0,[],none,0⟩ ⟨⟨mo.nR (n:=1) (s:=6) X2 rfl,rfl,aF _,show 1<=maxLen by unfold maxLen;omega⟩,uz.nil _ _ (show 0<=maxLen by unfold maxLen;omega),(Gz.nil 0 _).vI⟩ (abO am1 hid.1 hid.2) (MV id _) hlen).mono ?_;rintro e v3 ⟨a3,c3,l3,rfl,hl3,Yh,Tw,o3⟩;simp only[show nA ⟨1,100+id,0,0,0,0,some ⟨gm,0,none⟩,1,1,[(r0,r1,r2,r3,r4,r5)],none,0,0,[],none,0,0,[],none,0⟩=mU id (r0,r1,r2,r3,r4,r5) from rfl] at hl3 Yh Tw;rw[<-HQ.out] at hl3 Yh Tw;rw[<-Lf.out] at hl3 Yh;have N3:=jj Tw;have hq1:Only [b] w v3:=(Only.of_below B2).then o3 lT;obtain⟨O3,W3,L3⟩:=j3 hq1 Yh hl3;have K3:Hid (lQ v3 gk 120 cs):=jj (HK.only hq1 (by
  simp only[au];intro e;exact HN.far HK e.symm))
 clear hl3 Yh Tw o3 hq1;have S3:J v3 gk 15 (U id)/\J v3 gk 16 nn:=⟨(K3.cell 15).trans C15,(K3.cell 16).trans C16⟩;refine oH lS S3 ?_;clear hS0 S2;have hS0:=S3
 repeat refine' tT ?_
 refine lM ?_;clear hS0 S3
 go_wp2_with fail
 have LB:Hid (l3<=65010):=jj (by have:=(qz (num (sealed K q) q).toNat).2;have:=MV id (r0,r1,r2,r3,r4,r5);rw[<-L3.out,Lf.out,av];omega);have AB:Hid (∀k∈(A.map (·.block)).toList,k<w.heap.size):=jj fun k hk=>(HL.own.lt k (by rw[lV];exact aJ.1 hk)).2;have AN:Hid (∀k∈(A.map (·.block)).toList,k≠b):=jj fun k hk e=>by
  obtain⟨_,cs',hc⟩:=lW HL.own k hk;exact HN.far hc e.symm
 go_loopw [4] (fun q' wr=> ∃k:Nat,q'= U k/\k<=n/\(∃A' c' L',lQ wr gk 120 (cs.setIfInBounds 23 (.slice A' (m+k) c'))/\nJ x wr A' (m+k) c' L'/\uy L'=uy L++(List.range k).map (fun i:Nat=>((i:Int),bs))/\
   (∀k,A'.map (·.block)=some k->A.map (·.block)=some k\/w.heap.size<=k))/\Only (b::gk::(A.map (·.block)).toList) w wr/\vC wr nn b (sealed K q)/\wr.ownsRow v2.heap.size 5 1 (.slice a3 l3 c3) l3 (mZ bs)) (fun q' _=>n -(intOf q').toNat)
 case atStart=>
  refine⟨0,by first|rfl|simp,lK,⟨A,c,L,?_,?_,lT,fun k hk=> .inl hk⟩,O3.mono lT,N3,W3⟩
  ·rw[Nat.add_zero,ab6 C23.out];exact K3.out
  rw[Nat.add_zero];exact HL.only O3 (fun g hg=>by
   simp only[au] at hg;subst hg;exact .inr fun t cs hc=>absurd rfl (HN.far hc)) (fun g hg hm=>by
   simp only[au] at hm;exact AN.out g (aJ.2 hg) hm)
 case round=>
  obtain⟨k,rfl,hk,⟨A',c',L',hkk,hoo,hv,hat⟩,ho,hn,hw⟩:=hrel;obtain⟨KK,OO,VV,AT,OW,NN⟩:=j6 hkk hoo hv hat ho hn;have RW:=jj hw;have hcz:J wr gk 0 (U f):=(hkk.cell 0).trans (by rw[aW lN];exact C0.out);clear hkk hoo hv hat ho hn hw;by_cases hlt:k<n
  ·have i1:(k:Int)<3*f+1:=by have:=vB.out;omega
   have e2:IntKind.i64.wrap ((k:Int)+1)=(k:Int)+1:=aH _ (tL vB.out)
   go_wp2_with fail
   refine(oC f _ h1 h4).mono ?_;rintro e w' ⟨rfl,rfl⟩
   go_upto_region 5 with fail
   refine rD (fun w'=>J w' gk 23 (.slice A' (m+k) c')) 13 (tk 0 7 (.one 7 (.take 8 (.one 9 (.one 10 (.one 11 (.take 12 (.one 13 .done)))))))) ((KK.drew.cell 23).trans (Dk SZ)) fun v5 E5 hS0=> ?_
   repeat refine' tT ?_
   refine pO fun KT lS=> ?_;refine oo (by rfl) _ _ _ (by rfl) wr.heap.size 5 iu _ 1 1 underlying140 hiu hu0 hu1 hu2 rfl lK none 0 0 [] (by rfl) ⟨lT,.inl ⟨rfl,rfl⟩⟩ a3 l3 c3 (mZ bs) (by rfl) (l9 (own_below RW E5)) (yh bs) (by have:=LB.out;unfold maxLen;omega) (tL LB.out) E5.size ?_;intro a6 c6 v6 h6;have O6:=h6.own;rw[aO,List.nil_append] at O6;rw[aO];have E6:Hid (Be wr v6):=jj (E5.trans (h6.only.mY.mono E5.size));have R6:=jj O6;clear h6 O6;have S6:J v6 gk 23 (.slice A' (m+k) c'):=kept E6 _ _ ((KK.cell 23).trans (Dk SZ));refine oH lS S6 ?_;clear hS0;have hS0:=S6
   repeat refine' tT ?_
   refine pO fun KT lS=> ?_;go_simp;generalize hv7:v6.alloc _=v7;generalize sM:v6.heap.size=g7;replace hv7:=hv7.symm;replace sM:=sM.symm;have E67:=(tQ hv7).out;have E7:=nO E6 E67;have X7:=xNew hv7 sM;have R7:=jj (own_below R6 E67);clear hv7 sM E67;have S7:J v7 gk 23 (.slice A' (m+k) c'):=kept E7 _ _ ((KK.cell 23).trans (Dk SZ));refine oH lS S7 ?_;clear hS0 S6;have hS0:=S7
   repeat refine' tT ?_
   refine pO fun KT lS=> ?_;refine oo (by rfl) _ _ _ (by rfl) 0 179 is _ 2 32 underlying109 his hs0 hs1 hs2 rfl lK A' (m+k) c' (L'.flatMap WB) (by rfl) (own_below OO.own E7) (some ⟨g7,0,none⟩) 1 1 (WB ⟨(k:Int),a6,l3,c6,bs⟩) (by rfl) (mo.nR (n:=1) (s:=2) X7 rfl) (fun u hu=>Ec [⟨(k:Int),a6,l3,c6,bs⟩] u (mR hu)) (by unfold maxLen;omega) lK (bF _) ?_;intro a8 c8 v8 h8;have OA:Hid (nJ x v7 A' (m+k) c' L'):=jj (OO.below E7);have SI:Hid ((⟨(k:Int),a6,l3,c6,bs⟩:wN).Is x v7):=jj ⟨l9 R7,L3,Fixed.own R7 (aB HX OW.size),qB R7⟩;have O8:=jj (OA.more SI h8);have P8:Hid (Only (A'.map (·.block)).toList wr v8):=jj ((Only.of_below E7).trans h8.only);have WQ:Hid (∀k,a8.map (·.block)=some k->A'.map (·.block)=some k\/wr.heap.size<=k):=jj fun k hk=>by
    rcases h8.at_ k hk with h|h
    ·exact .inl h
    exact .inr (aG E7.size h)
   have NG: ∀k∈(A'.map (·.block)).toList,k≠gk:=fun k hk e=>mG OO.own KK lN (by rw[lV,aJ.1 hk,e]);have K8:=jj (KK.only P8 (fun hm=>NG _ hm rfl));have R8:=jj (mK RW P8 (fun g hg hm=>by
    obtain⟨_,cs',hc⟩:=lW OO.own g hm;exact mG RW hc lN hg))
   clear h8 OA SI;have S8:J v8 gk 23 (.slice A' (m+k) c'):=(K8.cell 23).trans (Dk SZ);refine oH lS S8 ?_;clear hS0 S7;have hS0:=S8;have f8:=K8.frozen 23
   repeat refine' tT ?_
   refine pO fun KT lS=> ?_;go_simp;refine oH lS S8 ?_
   repeat refine' tT ?_
   refine pL fun KT lS=> ?_;go_simp;refine oL lS ?_;refine lM ?_;clear hS0;obtain⟨w9,mE⟩:=ex (v8.setCell ⟨gk,23,none⟩ (.slice a8 (m+k+1) c8));rw[<-mE];have o9:Only [gk] v8 w9:=by rw[mE];exact(Only.refl [gk] _).setCell (.inl lT) _
   have K9:Hid (lQ w9 gk 120 (cs.setIfInBounds 23 (.slice a8 (m+k+1) c8))):=jj (by rw[mE,<-Yy];exact K8.mg 23 _);have O9:Hid (nJ x w9 a8 (m+k+1) c8 (L'++ [⟨(k:Int),a6,l3,c6,bs⟩])):=jj (O8.only o9 (fun g hg=>by simp only[au] at hg;subst hg;exact nV.of K8 lN) (fun g hg hm=>by simp only[au] at hm;subst hm;exact mG O8.own K8 lN (by rw[lV,hg])));have P9:Hid (Only (gk::(A'.map (·.block)).toList) wr w9):=jj ((P8.mono (fun k hk=> .inl (by simp only[ay];exact .inr hk))).then o9 lT);have R9:=jj (mh R8 o9 K8 lN);clear mE o9 f8 S8 NG
   go_wp2_with fail
   go_roundw
   case rel=>
    refine⟨k+1,by go_num,lK,⟨a8,c8,_,K9,O9,?_,?_⟩,?_,?_,R9⟩
    ·rw[EZ,VV.out,gV];simp
    ·intro g hg
     rcases WQ.out g hg with h|h
     ·exact AT.out g h
     exact .inr (aG OW.size h)
    ·refine OW.then P9 fun g hg=> ?_
     simp only[ay] at hg;rcases hg with rfl|hg
     ·exact .inl lT
     rcases AT.out g (aJ.1 hg) with h|h
     ·exact .inl (by simp only[ay];exact .inr (.inr (aJ.2 h)))
     exact .inr h
    refine NN.only P9 (fun hm=> ?_) (fun hm=> ?_)
    ·simp only[ay] at hm
     rcases hm with rfl|hm
     ·exact NN.obj.nY KK lN rfl
     obtain⟨_,cs',hc⟩:=lW OO.own _ hm;exact NN.obj.nY hc lN rfl
    simp only[ay] at hm;rcases hm with rfl|hm
    ·exact NN.far KK rfl
    obtain⟨_,cs',hc⟩:=lW OO.own _ hm;exact NN.far hc rfl
   case measure=>simp[intOf];omega
  have i1: ¬(k:Int)<3*f+1:=by have:=vB.out;omega
  obtain rfl:k=n:=lK
  go_wp2_with fail
  refine(oC f _ h1 h4).mono ?_;rintro e w' ⟨rfl,rfl⟩
  go_wp2_with fail
  go_end0
  exact⟨by trivial,A',c',L',KK,OO,VV,NN,OW,AT⟩
theorem aem(K:List (Int×List Int))(q:Int×List Int)(h:K.length+1<1048576):0<=num (sealed K q) q/\num (sealed K q) q<=1048576:=by
 rw[Cu];split
 ·rename_i h'
  have h1:K.idxOf q<K.length:=jF h';unfold num;rw[aV h'];omega
 omega
theorem JG(K:List (Int×List Int))(q:Int×List Int):(sealed K q).length<=K.length+1:=by
 unfold sealed;split<;>simp
def Kw(p:Int×Int):List Value:= [U p.1,U p.2]
def EO(p:Rq×Int):List Value:= [U p.1.1,U p.1.2.1,U p.1.2.2.1,U p.1.2.2.2.1,U p.1.2.2.2.2.1,U p.1.2.2.2.2.2,U p.2]
theorem PX(l:List (Int×Int)): ∀v∈l.flatMap Kw,v.oneCell'=true:=by
 intro v hv;obtain⟨p,_,hp⟩:=bg.1 hv;simp only[Kw,ay,aI,bK] at hp;rcases hp with rfl|rfl<;>rfl
theorem Ql(l:List (Rq×Int)): ∀v∈l.flatMap EO,v.oneCell'=true:=by
 intro v hv;obtain⟨p,_,hp⟩:=bg.1 hv;simp only[EO,ay,aI,bK] at hp;rcases hp with rfl|rfl|rfl|rfl|rfl|rfl|rfl<;>rfl
theorem Mf:(prog.info? 253).map (fun i=>(i.zero,i.size,i.bytes))=some (some (.agg #[U 0,U 0]),2,16):=by kernel_rfl
theorem Mh:(prog.info? 51).map (fun i=>(i.zero,i.size,i.bytes))=some (some (.agg #[U 0,U 0,U 0,U 0,U 0,U 0,U 0]),7,56):=by kernel_rfl
theorem nJ.Ak{x:Nat}{w w':World}{A:OA}{m:Nat}{L:List wN}{cs:AV}(h:nJ x w A m c L)(ho:Only [g] w w')(hg:lQ w g t cs)(h1:t≠5)(h2:t≠179):nJ x w' A m c L:=by
 have far: ∀s∈L,∀b,s.a.map (·.block)=some b->b∉ [g]:=fun s hs b hb hm=>by
  obtain⟨_,cs',hc⟩:=(h.is s hs).fix b hb;simp only[au] at hm;subst hm;exact hc.nY hg h1.symm rfl
 exact⟨mh h.own ho hg h2.symm,h.len,fun s hs=>⟨(h.is s hs).row.only ho (far s hs),(h.is s hs).len,fun b hb=>⟨((h.is s hs).fix b hb).1,by obtain⟨_,cs',hc⟩:=(h.is s hs).fix b hb;exact⟨cs',hc.only ho (far s hs b hb)⟩⟩,(h.is s hs).cap⟩⟩
structure sI where
 nn:Nat
 gt:Nat
 waits:Bool
 ia:Option Addr
 ic:Nat
 il:List Rq
 at_:Int
 aa:Option Addr
 ac:Nat
 al:List (Int×Int)
 ea:Option Addr
 ec:Nat
 el:List (Rq×Int)
 oa:Option Addr
 oc:Nat
 ol:List wN
 now:Int
def Nz(f id:Int)(d:sI):Array Value:=#[U f,U 2,U 2,U 4,U 64,U 8,U 8,U 8,U 1,U 2,U 12,U 8,U 6,U 2,U 6,
 U id,d.nn,d.gt,d.waits,.slice d.ia d.il.length d.ic,U d.at_,.slice d.aa d.al.length d.ac,.slice d.ea d.el.length d.ec,.slice d.oa d.ol.length d.oc]
def sI.foot(gk:Nat)(d:sI):List Nat:=gk::d.gt::((d.ia.map (·.block)).toList++((d.aa.map (·.block)).toList++((d.ea.map (·.block)).toList++(d.oa.map (·.block)).toList)))
structure qF(x:Nat)(w:World)(f id:Int)(gk:Nat)(d:sI):Prop where
 blk:lQ w gk 120 (Nz f id d)
 Bc:vT w d.gt d.now
 yK:w.ownsRow 0 49 6 (.slice d.ia d.il.length d.ic) d.il.length (d.il.flatMap rA)
 isx: ∀g,d.ia.map (·.block)=some g->g=x
 ans:w.ownsRow 0 253 2 (.slice d.aa d.al.length d.ac) d.al.length (d.al.flatMap Kw)
 acc:w.ownsRow 0 51 7 (.slice d.ea d.el.length d.ec) d.el.length (d.el.flatMap EO)
 out:nJ x w d.oa d.ol.length d.oc d.ol
section
variable{x y:Nat}{w w':World}{f id:Int}{gk:Nat}{d:sI}{S:LN}
theorem wF{base:Nat}(h:w.ownsRow base t s (.slice a n c) n xs)(ho:Only S w w')(hn: ∀g∈(a.map (·.block)).toList,g∉S):w'.ownsRow base t s (.slice a n c) n xs:=
 mK h ho fun g hg=>hn g (by rw[lV] at hg;exact aJ.2 hg)
theorem qF.only(h:qF x w f id gk d)(ho:Only S w w')(hS: ∀g∈S,nV x w g)(hn: ∀g∈d.foot gk,g∉S):qF x w' f id gk d:=by
 simp only[sI.foot,ay,aQ] at hn;exact⟨h.blk.only ho (hn _ (.inl rfl)),lQ.only h.Bc ho (hn _ (.inr (.inl rfl))),wF h.yK ho fun g hg=>hn g (.inr (.inr (.inl hg))),h.isx,wF h.ans ho fun g hg=>hn g (.inr (.inr (.inr (.inl hg)))),wF h.acc ho fun g hg=>hn g (.inr (.inr (.inr (.inr (.inl hg))))),h.out.only ho hS fun b hb=>hn b (.inr (.inr (.inr (.inr (.inr (aJ.2 hb))))))⟩
theorem qF.below(h:qF x w f id gk d)(hb:Be w w'):qF x w' f id gk d:=
 ⟨h.blk.below hb h.blk.lt,lQ.below h.Bc hb (lQ.lt h.Bc),own_below h.yK hb,h.isx,own_below h.ans hb,own_below h.acc hb,h.out.below hb⟩
theorem qF.lt(h:qF x w f id gk d): ∀g∈d.foot gk,g<w.heap.size:=by
 have o: ∀{base t s n c:Nat} {a:OA} {xs:LV},w.ownsRow base t s (.slice a n c) n xs-> ∀g∈(a.map (·.block)).toList,g<w.heap.size:=fun h g hg=>(h.lt g (by rw[lV];exact aJ.1 hg)).2;intro g hg;simp only[sI.foot,ay,aQ] at hg;rcases hg with rfl|rfl|hg|hg|hg|hg
 ·exact h.blk.lt
 ·exact lQ.lt h.Bc
 ·exact o h.yK g hg
 ·exact o h.ans g hg
 ·exact o h.acc g hg
 exact o h.out.own g hg
theorem qF.soft(h:qF x w f id gk d): ∀g∈d.foot gk,nV x w g:=by
 intro g hg;simp only[sI.foot,ay,aQ] at hg;rcases hg with rfl|rfl|hg|hg|hg|hg
 ·exact nV.of h.blk lN
 ·exact nV.of h.Bc lN
 ·exact .inl ⟨h.isx g (aJ.1 hg),fun t cs hc=>by
   obtain⟨_,cs',hc'⟩:=lW h.yK g hg;exact sN hc' hc⟩
 ·exact wH h.ans lN g hg
 ·exact wH h.acc lN g hg
 exact wH h.out.own lN g hg
theorem uP{base base' s' n' c':Nat}{a':OA}{xs':LV}(h:w.ownsRow base t s (.slice a n c) n xs)(h':w.ownsRow base' t' s' (.slice a' n' c') n' xs')(hne:t≠t'): ∀g∈(a.map (·.block)).toList,g∉(a'.map (·.block)).toList:=fun g hg hg'=>by
 obtain⟨_,cs,hc⟩:=lW h g hg;obtain⟨_,cs',hc'⟩:=lW h' g hg';exact hc.nY hc' hne rfl
theorem oJ{base:Nat}{cs:AV}(h:w.ownsRow base t s (.slice a n c) n xs)(h':lQ w g t' cs)(hne:t≠t'): ∀k∈(a.map (·.block)).toList,k≠g:=fun k hk e=>by
 obtain⟨_,cs,hc⟩:=lW h k hk;exact hc.nY h' hne e
end
def qU(n a b:Int):Bool:=decide (a<=n/\n<=b)
theorem rU(n a b:Int)(w:World)(r:Bool)(hr:qU n a b=r):Y 207 #[U n,U a,U b] w fun e w'=>e= .returned r/\w=w':=by
 subst hr;unfold qU;by_cases h1:a<=n
 all_goals
  go_enter func207,ntmps207
  go_wp2
  go_ret;exact⟨by first|(simp[h1];done)|(simp;omega),by trivial⟩
theorem Bj(f cl n:Int)(w:World)(h1:1<=f)(h4:f<=4)(r:Bool)(hr:qU n 0 (3*f)=r):Y 204 #[.agg #[U f,U cl],U n] w fun e w'=>e= .returned r/\Be w w':=by
 have HR:=jj hr;clear hr;go_enter func204,ntmps204
 go_wp2_with fail
 refine(oC f _ h1 h4).mono ?_;rintro e w' ⟨rfl,rfl⟩;have e1:IntKind.i64.wrap (3*f+1 -1)=3*f:=by rw[aH _ lK];omega
 have e2:3*f+1 -1=3*f:=lK
 go_wp2_with fail
 refine(rU n 0 (3*f) _ r HR).mono ?_;rintro e w' ⟨rfl,rfl⟩
 go_wp2_with fail
 go_ret;exact⟨by trivial,nC⟩
theorem Af(f cl v k q:Int)(w:World)(h1:qU v 0 12=true)(h2:qU k 0 f=true)(h3:qU q 1 16=true):Y 205 #[.agg #[U f,U cl],U v,U k,U q] w fun e w'=>e= .returned true/\Be w w':=by
 obtain⟨H1,H2,H3⟩:=j3 h1 h2 h3;clear h1 h2 h3;go_enter func205,ntmps205
 go_wp2_with fail
 refine(rU v 0 12 _ true H1).mono ?_;rintro e w' ⟨rfl,rfl⟩
 go_wp2_with fail
 refine(rU k 0 f _ true H2).mono ?_;rintro e w' ⟨rfl,rfl⟩
 go_wp2_with fail
 refine(rU q 1 16 _ true H3).mono ?_;rintro e w' ⟨rfl,rfl⟩
 go_wp2_with fail
 go_ret;exact⟨by trivial,nC⟩
theorem EW(w:World)(ga n c:Nat)(l:LI)(hA:lQ w ga 3 (ints l))(hn:l.length=n)(h0: ∀z∈l,z=0)(hm:n<=4096):
  Y 201 #[O ga n c] w fun e w'=>e= .returned true/\w=w':=by
 have CE:Hid (∀k,k<n->J w ga k (U 0)):=jj fun k hk=>by
  have hkl:k<l.length:=lK;rw[hA.cell,Du l k hkl];have:=h0 l[k] (bY hkl);simp[List.getD,aj hkl,this]
 clear hA hn h0;go_enter func201,ntmps201
 go_wp2_with fail
 go_loopw [7] (fun i wr=> ∃k:Nat,k<=n/\i= U k/\wr=w) (fun i _=>n -(intOf i).toNat)
 case atStart=>exact⟨0,lK,rfl,rfl⟩
 case round=>
  obtain⟨k,hk,rfl,rfl⟩:=hrel;by_cases hlt:k<n
  ·have c0:=CE.out k hlt
   have i0:(0:Int)<=k:=lK;have i1:(k:Int)<n:=lK;have e0:IntKind.i64.wrap ((k:Int)+1)=(k:Int)+1:=aH _ lK
   go_wp2_with fail
   go_roundw
   case rel=>exact⟨k+1,lK,by go_num,by trivial⟩
   simp[intOf];omega
  have i1: ¬(k:Int)<n:=lK
  go_wp2_with fail
  go_ret;exact⟨by trivial,by trivial⟩
theorem Im(w:World)(m0 m1 m2 m3 m4 m5:Int)(ba va ca pa:OA)(bn bc vc cn cc pc:Nat):
  Y 202 #[.agg #[U m0,U m1,U m2,U m3,U m4,U m5,.slice ba bn bc,.slice va 0 vc,.slice ca 0 cc,.slice pa 0 pc],true,false,false,false] w fun e w'=>e= .returned true/\Be w w':=by
 go_enter func202,ntmps202
 go_wp2_with fail
 go_ret;exact⟨by trivial,nC⟩
theorem agG(w:World)(m0 m1 m2 m3 m4 m5:Int)(ba va ca pa:OA)(bn bc vc cn cc pc:Nat):
  Y 202 #[.agg #[U m0,U m1,U m2,U m3,U m4,U m5,.slice ba 0 bc,.slice va 0 vc,.slice ca cn cc,.slice pa 0 pc],false,false,true,false] w fun e w'=>e= .returned true/\Be w w':=by
 go_enter func202,ntmps202
 go_wp2_with fail
 go_ret;exact⟨by trivial,nC⟩
theorem agH(w:World)(m0 m1 m2 m3 m4 m5:Int)(ba va ca pa:OA)(bn bc vc cn cc pc:Nat):
  Y 202 #[.agg #[U m0,U m1,U m2,U m3,U m4,U m5,.slice ba 0 bc,.slice va 0 vc,.slice ca 0 cc,.slice pa 0 pc],false,false,false,false] w fun e w'=>e= .returned true/\Be w w':=by
 go_enter func202,ntmps202
 go_wp2_with fail
 go_ret;exact⟨by trivial,nC⟩
theorem yA(f cl a b:Int)(w:World)(A:OA)(n c:Nat)(bs:List Rq)(h:qc w A n c bs)(hv: ∀r∈bs,mq cl r=true)(hm:n<=4096)(hr:qU n a b=true):
  Y 203 #[.agg #[U f,U cl],.slice A n c,U a,U b] w fun e w'=>e= .returned true/\Be w w':=by
 obtain⟨H,HV,HR⟩:=j3 h hv hr;clear h hv hr;go_enter func203,ntmps203
 go_upto_region 1 with fail
 obtain⟨w1,hw1⟩:=ex (w.alloc (.cells #[U f,U cl] 331));obtain⟨gb,hgb⟩:=ex w.heap.size;rw[<-hw1,<-hgb];obtain⟨B1,BX⟩:=nw hw1 hgb;clear hw1 hgb
 go_wp2_with fail
 go_loopw [13] (fun i wr=> ∃k:Nat,k<=n/\i= U k/\Be w1 wr) (fun i _=>n -(intOf i).toNat)
 case atStart=>exact⟨0,lK,rfl,aC _ _⟩
 case round=>
  obtain⟨k,hk,rfl,hb⟩:=hrel;have HB:=jj hb;by_cases hlt:k<n
  ·have i0:(0:Int)<=k:=lK
   have i1:(k:Int)<n:=lK;have B2:=nO B1 hb;obtain⟨g,off,rfl,hlt2,x0,x1,x2,x3,x4,x5,hr,z0,z1,z2,z3,z4,z5⟩:=(H.below B2).get hlt;have V:=jj (HV.out _ (ak hr));have d1: ∀o,J (wr.alloc o) gb 1 (U cl):=fun o=>((BX.below HB BX.lt).alloc o).cell 1;have e0:IntKind.i64.wrap ((k:Int)+1)=(k:Int)+1:=aH _ lK;clear hb hr hlt2
   go_wp2_with fail
   refine(D8 _ cl (x0,x1,x2,x3,x4,x5) true V).mono ?_;rintro e w3 ⟨rfl,hb3⟩;have B3:=jj ((HB.alloc HB.size _).trans (hb3.mono (aG HB.size lT)));clear hb3 d1 z0 z1 z2 z3 z4 z5
   go_wp2_with fail
   go_roundw
   case rel=>exact⟨k+1,lK,by go_num,B3⟩
   simp[intOf];omega
  have i1: ¬(k:Int)<n:=lK;clear hb
  go_wp2_with fail
  refine(rU n a b _ true HR).mono ?_;rintro e w' ⟨rfl,rfl⟩
  go_wp2_with fail
  go_ret;exact⟨by trivial,B1.trans (HB.mono B1.size)⟩
structure Ih(f:Int)(vs:List Vo):Prop where
 len:(vs.length:Int)=2*f+1
 up: ∀i,i+1<vs.length->(vs.getD i (0,0)).1<(vs.getD (i+1) (0,0)).1
 low: ∀v∈vs,0<=v.1/\v.1<3*f+1
theorem Rj(w:World)(f:Int)(h1:1<=f)(h4:f<=4)(A:OA)(n c:Nat)(vs:List Vo)(h:uz w A n c vs)(hr:Ih f vs):
  Y 279 #[.slice A n c,U f] w fun e w'=>e= .returned true/\Be w w':=by
 have H:=jj h;have HR:=jj hr;have j1:(n:Int)=2*f+1:=by rw[<-h.len];exact hr.len
 have xP:n<=9:=lK;have J1:=jj j1;clear h hr;go_enter func279,ntmps279
 go_wp2_with fail
 refine(afE f _ h1 h4).mono ?_;rintro e w' ⟨rfl,rfl⟩
 go_wp2_with fail
 refine(JB f _ h1 h4).mono ?_;rintro e w' ⟨rfl,rfl⟩;rw[<-J1.out];clear j1
 go_wp2_with fail
 go_loopw [5,20] (fun l i wr=> ∃k:Nat,k<=n/\i= U k/\(∃z:Int,l= U z/\ -1<=z/\ ∀v,vs[k]?=some v->z<v.1)/\Be w wr) (fun _ i _=>n -(intOf i).toNat)
 case atStart=>exact⟨0,lK,rfl,⟨-1,rfl,lK,fun v hv=>by have:=HR.low v (ak hv);omega⟩,aC _ _⟩
 case round=>
  obtain⟨k,hk,rfl,⟨z,rfl,hz,hzz⟩,hb⟩:=hrel;have HB:=jj hb;by_cases hlt:k<n
  ·have i0:(0:Int)<=k:=lK
   have i1:(k:Int)<n:=lK;obtain⟨g,off,rfl,hlt2,x0,x1,hx,z0,z1⟩:=(H.below HB).get hlt;have lo:=HR.low _ (ak hx);have up:=hzz _ hx;simp only at lo up;have i2: ¬x0<=z:=lK;have i3: ¬3*f+1<=x0:=lK;have e0:IntKind.i64.wrap ((k:Int)+1)=(k:Int)+1:=aH _ lK;have NX:Hid (∀v,vs[k+1]?=some v->x0<v.1):=jj fun v hv=>by
    have hl:=(ah.1 hv).1;have:=HR.up k hl;rw[bE,bE,hx,hv] at this;exact this
   have LO:Hid (-1<=x0):=jj lK;clear hb hx hzz lo up
   go_upto_region 7 with fail
   obtain⟨w9,mE⟩:=ex (wr.alloc (.cells #[U x0,U x1] 311));obtain⟨g9,vE⟩:=ex wr.heap.size;rw[<-mE,<-vE];have X9:=xNew mE vE;have B9:=GN HB mE;clear mE vE;refine qI (fun w'=>J w' g9 0 (U x0)) 11 (tk 0 11 .done) (by kernel_rfl) (by kernel_rfl) (by kernel_rfl) (X9.drew.cell 0) ?_;intro hS0
   repeat(first|refine' uT ?_|refine' uS ?_)
   refine pR _ _ rfl (by rfl) (by assumption) (fun w=>by go_simp;try exact⟨rfl,rfl⟩) (fun w hSw=>(oC f w h1 h4).mono (fun e w' h=>h)) ?_;try simp only[Nw]
   repeat(first|refine' uT ?_|refine' uS ?_)
   refine qO ?_;clear hS0;have y0:=X9.drew.at_ 0
   go_wp2_with fail
   go_roundw
   case rel=>exact⟨k+1,lK,by go_num,⟨x0,by trivial,LO,NX⟩,B9.drew⟩
   simp[intOf];omega
  have i1: ¬(k:Int)<n:=lK;clear hb
  go_wp2_with fail
  go_ret;exact⟨by trivial,HB⟩
theorem aa8(f cl:Int)(w:World)(h1:1<=f)(h4:f<=4)(A:OA)(n c:Nat)(vs:List Vo)(h:uz w A n c vs)(hr:Ih f vs)(hv: ∀v∈vs,qU v.2 0 1099511627775=true):
  Y 252 #[.agg #[U f,U cl],.slice A n c] w fun e w'=>e= .returned true/\Be w w':=by
 obtain⟨H,HR,HV⟩:=j3 h hr hv;have xP:n<=9:=by have:=h.len;have:=hr.len;omega
 clear h hr hv;go_enter func252,ntmps252
 go_upto_region 1 with fail
 obtain⟨w1,hw1⟩:=ex (w.alloc (.cells #[U f,U cl] 331));obtain⟨gb,hgb⟩:=ex w.heap.size;rw[<-hw1,<-hgb];obtain⟨B1,BX⟩:=nw hw1 hgb;clear hw1 hgb
 go_wp2_with fail
 go_loopw [9] (fun i wr=> ∃k:Nat,k<=n/\i= U k/\Be w1 wr) (fun i _=>n -(intOf i).toNat)
 case atStart=>exact⟨0,lK,rfl,aC _ _⟩
 case round=>
  obtain⟨k,hk,rfl,hb⟩:=hrel;have HB:=jj hb;have B2:=nO B1 hb;by_cases hlt:k<n
  ·have i0:(0:Int)<=k:=lK
   have i1:(k:Int)<n:=lK;obtain⟨g,off,rfl,hlt2,x0,x1,hx,z0,z1⟩:=(H.below B2).get hlt;have V:=jj (HV.out _ (ak hx));have e0:IntKind.i64.wrap ((k:Int)+1)=(k:Int)+1:=aH _ lK;clear hb hx hlt2
   go_wp2_with fail
   refine(rU x1 0 1099511627775 _ true V).mono ?_;rintro e w3 ⟨rfl,rfl⟩
   go_wp2_with fail
   go_roundw
   case rel=>exact⟨k+1,lK,by go_num,HB.alloc HB.size _⟩
   simp[intOf];omega
  have i1: ¬(k:Int)<n:=lK;have d0:J wr gb 0 (U f):=(BX.below HB BX.lt).cell 0;clear hb
  go_wp2_with fail
  refine(Rj _ f h1 h4 A n c vs (H.below B2) HR).mono ?_;rintro e w4 ⟨rfl,hb4⟩;have B4:=nO B2 hb4;clear hb4 d0
  go_wp2_with fail
  go_ret;exact⟨by trivial,B4⟩
structure ae9(f cl:Int)(c:CD):Prop where
 p1:qU c.view 0 12=true
 p2:qU c.inst 0 f=true
 p3:qU c.seq 1 16=true
 b: ∀r∈c.bs,mq cl r=true
 nb:qU c.bn 0 4=true
 r:Ih f c.vs
 v: ∀v∈c.vs,qU v.2 0 1099511627775=true
theorem ad7(f cl:Int)(w:World)(h1:1<=f)(h4:f<=4)(c:CD)(h:c.Is w)(hl:ae9 f cl c):
  Y 210 #[.agg #[U f,U cl],.agg (nS c).toArray] w fun e w'=>e= .returned true/\Be w w':=by
 obtain⟨c0,c1,c2,ba,bn,bc,bs,va,vn,vc,vs⟩:=c;have H:=jj h;have HL:=jj hl;have hbn:bn<=4096:=by have:=hl.nb;simp[qU] at this;omega
 clear h hl;show Y 210 #[.agg #[U f,U cl],.agg #[U c0,U c1,U c2,.slice ba bn bc,.slice va vn vc]] w _;go_enter func210,ntmps210
 go_upto_region 1 with fail
 obtain⟨v1,hv1⟩:=ex (w.alloc (.cells #[U f,U cl] 331));obtain⟨g2,hg2⟩:=ex w.heap.size;rw[<-hv1,<-hg2];obtain⟨v2,hv2⟩:=ex (v1.alloc (.cells #[U c0,U c1,U c2,.slice ba bn bc,.slice va vn vc] 228));obtain⟨g3,hg3⟩:=ex v1.heap.size;have eg:g2+1=g3:=by rw[hg3,hv1,hg2];simp
 try rw[eg]
 rw[<-hv2];have X2:Hid (lQ v2 g2 331 #[U f,U cl]):=jj (by rw[hv2];refine lQ.alloc ?_ _;rw[hv1,hg2];exact lQ.new _ _ _);have X3:=xNew hv2 hg3;have B2:Hid (Be w v2):=jj (by rw[hv2,hv1];exact(nC.alloc lT _));clear hv1 hv2 hg2 hg3 eg;obtain⟨d0,d1⟩:=X2.a2;obtain⟨e0,e1,e2⟩:=X3.a3
 go_wp2_with fail
 refine(Af f cl c0 c1 c2 _ HL.p1 HL.p2 HL.p3).mono ?_;rintro e w3 ⟨rfl,hb3⟩;have B3:=nO B2 hb3;have Y2:=jj (X2.below hb3 X2.lt);have Y3:=jj (X3.below hb3 X3.lt);clear hb3 d0 d1 e0 e1 e2;obtain⟨d0,d1⟩:=Y2.a2;have e3:=Y3.at_ 3
 go_wp2_with fail
 refine(yA f cl 0 4 _ ba bn bc bs (H.b.below B3) HL.b hbn HL.nb).mono ?_;rintro e w4 ⟨rfl,hb4⟩;have B4:=nO B3 hb4;have Z2:=jj (Y2.below hb4 Y2.lt);have Z3:=jj (Y3.below hb4 Y3.lt);clear hb4 d0 d1 e3;obtain⟨d0,d1⟩:=Z2.a2;have e4:=Z3.at_ 4
 go_wp2_with fail
 refine(aa8 f cl _ h1 h4 va vn vc vs (H.v.below B4) HL.r HL.v).mono ?_;rintro e w5 ⟨rfl,hb5⟩;have B5:=nO B4 hb5;clear hb5 d0 d1 e4
 go_wp2_with fail
 go_ret;exact⟨by trivial,B5⟩
theorem JC (w:World) (nn b:Nat) (K:List (Int×List Int)) (hN:vC w nn b K) (cl most:Int) (A:OA) (n c:Nat) (l:List Rq) (h:qc w A n c l) (hs: ∀r∈l,sU K cl r)
  (hup: ∀i r s,l[i]?=some r->l[i+1]?=some s->zT r s= -1) (hm:(n:Int)<=most) (hn:n<=4096):
  Y 216 #[.slice A n c,U most,U cl,nn] w fun e w'=>e= .returned true/\Be w w':=by
 obtain⟨HN,H,HS,HU⟩:=j4 hN h hs hup;have i9: ¬most<(n:Int):=lK;clear hN h hs hup;go_enter func216,ntmps216
 go_wp2_with fail
 go_loopw [9,17] (fun q i wr=> ∃k:Nat,k<=n/\i= U k/\Be w wr) (fun _ i _=>n -(intOf i).toNat)
 case atStart=>exact⟨0,lK,rfl,aC _ _⟩
 case round=>
  obtain⟨k,hk,rfl,hb⟩:=hrel;have HB:=jj hb;clear hb;by_cases hlt:k<n
  ·have i0:(0:Int)<=k:=lK
   have i1:(k:Int)<n:=lK;obtain⟨g,off,rfl,hlt2,x0,x1,x2,x3,x4,x5,hx,z0,z1,z2,z3,z4,z5⟩:=(H.below HB).get hlt;have HX:=jj hx;have SX:=jj (HS.out _ (ak hx));have e0:IntKind.i64.wrap ((k:Int)+1)=(k:Int)+1:=aH _ lK;have sJ:=jj hlt;clear hx hlt2
   go_upto_region 6 with fail
   generalize mE:wr.alloc _=w9;generalize vE:wr.heap.size=g9;replace mE:=mE.symm;replace vE:=vE.symm;obtain⟨B9',X9⟩:=nw mE vE;have B9:Hid (Be w w9):=jj (HB.trans (B9'.mono HB.size));clear mE vE z0 z1 z2 z3 z4 z5;by_cases hk0:k=0
   ·have i2: ¬(0:Int)<(k:Int):=lK
    have i5: ¬0<k:=lK;have d2:decide ((0:Int)<(k:Int))=false:=aR i2;have d5:decide (0<k)=false:=aR i5;clear hk0;have KS: ∀w',Be w9 w'->J w' g9 0 (U x0)/\J w' g9 1 (U x1)/\J w' g9 2 (U x2)/\J w' g9 3 (U x3)/\J w' g9 4 (U x4)/\J w' g9 5 (U x5):=fun w' o=>
     have u:=X9.below o X9.lt
     ⟨u.cell 0,u.cell 1,u.cell 2,u.cell 3,u.cell 4,u.cell 5⟩
    refine rP (fun w'=>J w' g9 0 (U x0)/\J w' g9 1 (U x1)/\J w' g9 2 (U x2)/\J w' g9 3 (U x3)/\J w' g9 4 (U x4)/\J w' g9 5 (U x5)) 19 (tk 0 3 (.one 3 (tk 4 11 (.one 15 (tk 16 3 .done))))) (KS _ (aC _ _).drew) ?_;intro hS0
    repeat(first|refine' tT ?_|refine' tS ?_)
    refine pO fun KT lS=> ?_;go_simp;refine(Bu _ nn b K (HN.below B9.drew) cl (x0,x1,x2,x3,x4,x5) SX).mono ?_;rintro e w3 ⟨rfl,hb3⟩;have BB:=jj ((aC w9.heap.size w9).drew.trans hb3);have B3:=jj (B9.trans (BB.mono B9.size));clear hb3;have S3:=KS _ BB;refine oH lS S3 ?_;clear hS0;have hS0:=S3
    repeat(first|refine' tT ?_|refine' tS ?_)
    refine pO fun KT lS=> ?_;go_simp;refine oH lS hS0 ?_
    repeat(first|refine' tT ?_|refine' tS ?_)
    refine lM ?_;clear hS0 S3 KS
    go_wp2_with fail
    go_roundw
    case rel=>exact⟨k+1,by have:=sJ.out;omega,by go_num,B3⟩
    have:=sJ.out;simp[intOf];omega
   obtain⟨j,hj⟩: ∃j,k=j+1:=⟨k -1,lK⟩;have hjn:j<n:=lK;obtain⟨g',off',he,hlt2,y0,y1,y2,y3,y4,y5,hy,p0,p1,p2,p3,p4,p5⟩:=(H.below HB).get hjn;obtain⟨rfl,rfl⟩:g=g'/\off=off':=by injection he with he;injection he with h1 h2;exact⟨h1,h2⟩
   have LT:Hid (zT (y0,y1,y2,y3,y4,y5) (x0,x1,x2,x3,x4,x5)= -1):=jj (HU.out j _ _ hy (by rw[<-hj];exact HX.out));have e3:IntKind.i64.wrap ((k:Int) -1)=(j:Int):=by rw[aH _ lK];omega
   have i2:(0:Int)<k:=lK;have i3:(0:Int)<=j:=lK;have i4:(j:Int)<n:=lK;have i5:0<k:=lK;have d2:decide ((0:Int)<(k:Int))=true:=aZ i2;have d5:decide (0<k)=true:=aZ i5;have KS: ∀w',Be w9 w'->J w' g9 0 (U x0)/\J w' g9 1 (U x1)/\J w' g9 2 (U x2)/\J w' g9 3 (U x3)/\J w' g9 4 (U x4)/\J w' g9 5 (U x5)/\J w' g (off+j*6) (U y0)/\J w' g (off+j*6+1) (U y1)/\J w' g (off+j*6+2) (U y2)/\J w' g (off+j*6+3) (U y3)/\J w' g (off+j*6+4) (U y4)/\J w' g (off+j*6+5) (U y5):=fun w' o=>
    have u:=X9.below o X9.lt;have v:=fun(p:Addr) (q:Value) (hp:wr.cell? p=some q)=>kept o _ _ (kept B9' _ _ hp)
    ⟨u.cell 0,u.cell 1,u.cell 2,u.cell 3,u.cell 4,u.cell 5,v _ _ p0,v _ _ p1,v _ _ p2,v _ _ p3,v _ _ p4,v _ _ p5⟩
   clear he hlt2 hy hj hk0 hjn;refine rP (fun w'=>J w' g9 0 (U x0)/\J w' g9 1 (U x1)/\J w' g9 2 (U x2)/\J w' g9 3 (U x3)/\J w' g9 4 (U x4)/\J w' g9 5 (U x5)/\J w' g (off+j*6) (U y0)/\J w' g (off+j*6+1) (U y1)/\J w' g (off+j*6+2) (U y2)/\J w' g (off+j*6+3) (U y3)/\J w' g (off+j*6+4) (U y4)/\J w' g (off+j*6+5) (U y5)) 19 (tk 0 3 (.one 3 (tk 4 11 (.one 15 (tk 16 3 .done))))) (KS _ (aC _ _).drew) ?_;intro hS0
   repeat(first|refine' tT ?_|refine' tS ?_)
   refine pO fun KT lS=> ?_;go_simp;refine(Bu _ nn b K (HN.below B9.drew) cl (x0,x1,x2,x3,x4,x5) SX).mono ?_;rintro e w3 ⟨rfl,hb3⟩;have BB:=jj ((aC w9.heap.size w9).drew.trans hb3);have B3:=jj (B9.trans (BB.mono B9.size));clear hb3;have S3:=KS _ BB;refine oH lS S3 ?_;clear hS0;have hS0:=S3
   repeat(first|refine' tT ?_|refine' tS ?_)
   refine pO fun KT lS=> ?_;go_simp;refine(Cy _ (y0,y1,y2,y3,y4,y5) (x0,x1,x2,x3,x4,x5) (-1) LT).mono ?_;rintro e w4 ⟨rfl,hb4⟩;have BB4:=nO BB hb4;have B4:=nO B3 hb4;clear hb4;have S4:=KS _ BB4;refine oH lS S4 ?_;clear hS0 S3;have hS0:=S4
   repeat(first|refine' tT ?_|refine' tS ?_)
   refine lM ?_;clear hS0 S4 KS
   go_wp2_with fail
   go_roundw
   case rel=>exact⟨k+1,by have:=sJ.out;omega,by go_num,B4⟩
   have:=sJ.out;simp[intOf];omega
  have i1: ¬(k:Int)<n:=lK
  go_wp2_with fail
  go_ret;exact⟨by trivial,HB⟩
def ale(kd nd:Int)(c:CD)(a:OA)(k:Nat):MD:=⟨kd,nd,c.view,c.inst,c.seq,0,a,c.bn,k,c.bs,none,0,0,[],none,0,0,[],none,0⟩
theorem XV(w:World)(kd nd:Int)(c:CD)(h:c.Is w)(hn:c.bn<=4096):
  Y 143 #[U kd,U nd,.agg (nS c).toArray] w fun e w'=> ∃a' k',e= .returned (.agg (oM (ale kd nd c a' k')).toArray)/\qc w' a' c.bn k' c.bs/\Be w w':=by
 obtain⟨i0,hi0,hz0,hz1,hz2⟩:=bq rT;obtain⟨c0,c1,c2,ba,bn,bc,bs,va,vn,vc,vs⟩:=c;have H:=jj h;simp only at hn;clear h;show Y 143 #[U kd,U nd,.agg #[U c0,U c1,U c2,.slice ba bn bc,.slice va vn vc]] w _;go_enter func143,ntmps143
 go_upto_region 1 with fail
 generalize hv1:w.alloc _=v1;generalize hg5:w.heap.size=g5;replace hv1:=hv1.symm;replace hg5:=hg5.symm;obtain⟨v2,hv2⟩:=ex (v1.alloc (.cells #[U 0,U 0,U 0,U 0,U 0,U 0,(),(),(),()] 82));obtain⟨g6,BR⟩:=ex v1.heap.size;have eg:g5+1=g6:=by rw[BR,hv1,hg5];simp
 try rw[eg]
 rw[<-hv2];have X5:Hid (lQ v2 g5 228 #[U c0,U c1,U c2,.slice ba bn bc,.slice va vn vc]):=jj (by rw[hv2];refine lQ.alloc ?_ _;rw[hv1,hg5];exact lQ.new _ _ _);have X6:=xNew hv2 BR;have B2:Hid (Be w v2):=jj (by rw[hv2,hv1];exact(nC.alloc lT _));have GE:Hid (w.heap.size<=g6):=jj (by rw[BR,hv1];simp);clear hv1 hv2 hg5 BR eg;have KS: ∀w',Be v2 w'->J w' g5 0 (U c0)/\J w' g5 1 (U c1)/\J w' g5 2 (U c2)/\J w' g5 3 (.slice ba bn bc):=fun w' o=>have u:=X5.below o X5.lt;⟨u.cell 0,u.cell 1,u.cell 2,u.cell 3⟩;refine rD (fun w'=>J w' g5 0 (U c0)/\J w' g5 1 (U c1)/\J w' g5 2 (U c2)/\J w' g5 3 (.slice ba bn bc)) 12 (tk 0 10 (.one 10 (.take 11 (.one 12 .done)))) (KS _ (aC _ _).drew) fun v3 B23 hS0=> ?_;have B3:Hid (Be w v3):=jj (B2.trans (B23.mono B2.size))
 repeat refine' tT ?_
 refine pO fun KT lS=> ?_;refine oo (by rfl) _ _ _ (by rfl) w.heap.size 49 i0 _ 6 48 underlying46 hi0 hz0 hz1 hz2 rfl lK none 0 0 [] (by rfl) ⟨lT,.inl ⟨rfl,rfl⟩⟩ ba bn bc (bs.flatMap rA) (by rfl) (H.b.row.below B3) (Bt bs) (by unfold maxLen;omega) lK B3.size ?_;intro a5 c5 w5 h5;have O5:=h5.own;rw[aO,List.nil_append] at O5;rw[aO];have B35:Be v3 w5:=h5.only.mY;have B25:=nO B23 B35;have B5:=jj (B2.trans (B25.mono B2.size));have HO5:=jj O5;clear h5 O5 B35;have S5:=KS _ B25;refine oH lS S5 ?_;clear hS0;have hS0:=S5
 repeat refine' tT ?_
 refine pL fun KT lS=> ?_;have Kc:=jj (X6.below B25 X6.lt);have e0:=Kc.at_ 0;have z0:=Kc.frozen 0;have e1:=Kc.at_ 1;have z1:=Kc.frozen 1;have e2:=Kc.at_ 2;have z2:=Kc.frozen 2;have e3:=Kc.at_ 3;have z3:=Kc.frozen 3;have e4:=Kc.at_ 4;have z4:=Kc.frozen 4;have e5:=Kc.at_ 5;have z5:=Kc.frozen 5;have e6:=Kc.at_ 6;have z6:=Kc.frozen 6;have e7:=Kc.at_ 7;have z7:=Kc.frozen 7;have e8:=Kc.at_ 8;have z8:=Kc.frozen 8;have e9:=Kc.at_ 9;have z9:=Kc.frozen 9;go_simp;refine oL lS ?_;refine lM ?_;obtain⟨w9,mE⟩:=ex (setW w5 g6 0 [U kd,U nd,U c0,U c1,U c2,U 0,.slice a5 bn c5,(),(),()]);have K9:=uL mE Kc;simp only[setW,aO,Nat.reduceAdd] at mE;rw[<-mE];have B9:Be w w9:=by rw[mE];exact((((((((((B5.setCell (p:=⟨g6,0,none⟩) GE _).setCell (p:=⟨g6,1,none⟩) GE _).setCell (p:=⟨g6,2,none⟩) GE _).setCell (p:=⟨g6,3,none⟩) GE _).setCell (p:=⟨g6,4,none⟩) GE _).setCell (p:=⟨g6,5,none⟩) GE _).setCell (p:=⟨g6,6,none⟩) GE _).setCell (p:=⟨g6,7,none⟩) GE _).setCell (p:=⟨g6,8,none⟩) GE _).setCell (p:=⟨g6,9,none⟩) GE _)
 have o9:Only [g6] w5 w9:=by rw[mE];exact(((((((((((Only.refl [g6] _).setCell (p:=⟨g6,0,none⟩) (.inl lT) _).setCell (p:=⟨g6,1,none⟩) (.inl lT) _).setCell (p:=⟨g6,2,none⟩) (.inl lT) _).setCell (p:=⟨g6,3,none⟩) (.inl lT) _).setCell (p:=⟨g6,4,none⟩) (.inl lT) _).setCell (p:=⟨g6,5,none⟩) (.inl lT) _).setCell (p:=⟨g6,6,none⟩) (.inl lT) _).setCell (p:=⟨g6,7,none⟩) (.inl lT) _).setCell (p:=⟨g6,8,none⟩) (.inl lT) _).setCell (p:=⟨g6,9,none⟩) (.inl lT) _)
 have O9:w9.ownsRow w.heap.size 49 6 (.slice a5 bn c5) bn (bs.flatMap rA):=mK HO5 o9 (fun g hg=>by
  have:=mG HO5 Kc lN;rw[hg] at this;simpa using fun e=>this (by rw[e]))
 clear hS0 S5 KS
 go_wp2_with fail
 refine dF (v:= .agg #[U kd,U nd,U c0,U c1,U c2,U 0,.slice a5 bn c5,(),(),()]) ?_ rfl ⟨a5,c5,rfl,⟨l9 O9,H.b.len,qB O9,uO O9⟩,B9⟩;exact gM Tryz.results143 _ w9 g6 _ _ _ _ (by rfl) K9 underlying82 rfl (by kernel_rfl)
structure xE(K:List (Int×List Int))(M:Ms)(z:Int):Prop where
 ok:Ev M
 len:(lX M).length<=65536
 mem:(M.sender,lX M)∈K
 num:num K (M.sender,lX M)=z
theorem xE.key{K:List (Int×List Int)}{M:Ms}{z:Int}(h:xE K M z):Ns (M.sender,lX M):=
 ⟨h.ok.sender.i64,EG h.ok,by have:=h.len;unfold maxLen;show(lX M).length<=_;omega⟩
theorem X8(w:World)(n b:Nat)(K:List (Int×List Int))(hN:vC w n b K)(m:MD)(h:m.Is w)(z:Int)(hs:xE K (nA m) z):
  Y 261 #[.agg (oM m).toArray,U z,n] w fun e w'=>e= .returned true/\Be w w':=by
 obtain⟨HN,HI,HS⟩:=j3 hN h hs;obtain⟨M,hM⟩:=ex (nA m);have HM:=jj hM;rw[<-hM] at HS;have SE:Hid (M.sender=m.sender):=jj (by rw[hM];rfl);clear hN h hs hM;obtain⟨m0,m1,m2,m3,m4,m5,ba,bn,bc,br,va,vn,vc,vs,ca,cn,cc,cs,pa,pc⟩:=m;show Y 261 #[.agg #[U m0,U m1,U m2,U m3,U m4,U m5,.slice ba bn bc,.slice va vn vc,.slice ca cn cc,.slice pa 0 pc],U z,n] w _;go_enter func261,ntmps261
 go_upto_region 1 with fail
 generalize hw1:w.alloc _=w1;generalize hgb:w.heap.size=gb;replace hw1:=hw1.symm;replace hgb:=hgb.symm;obtain⟨B1,BX⟩:=nw hw1 hgb;clear hw1 hgb;obtain⟨d0,d1,d2,d3,d4,d5,d6,d7,d8,d9⟩:=BX.zA
 go_wp2_with fail
 refine(Ta _ _ (HI.below B1) (by rw[<-HM.out];exact HS.ok) (by rw[<-HM.out];exact HS.len)).mono ?_;rintro e w2 ⟨a2,c2,rfl,ho2,hb2⟩;rw[<-HM.out] at ho2|-;obtain⟨l,hl⟩:=ex ((lX M).length);rw[<-hl] at ho2|-;have O2:=jj ho2;have B2:=nO B1 hb2;have e1:J w2 gb 1 (U m1):=(BX.below hb2 BX.lt).cell 1;clear ho2 hb2 hl d0 d1 d2 d3 d4 d5 d6 d7 d8 d9;have SE':Hid (M.sender=m1):=jj SE
 go_wp2_with fail
 refine(Jo n b K m1 a2 l c2 (lX M) z _ (HN.below B2) (l9 O2) (by rw[<-SE'.out];exact HS.key) true (by rw[<-SE'.out];simp only[aZ HS.mem,aZ HS.num,kZ])).mono ?_;rintro e w4 ⟨rfl,j,rfl⟩
 go_wp2_with fail
 go_ret;exact⟨by trivial,below_drewN B2 j⟩
structure afa(K:List (Int×List Int))(kd f:Int)(c:CD):Prop where
 r:Ih f c.vs
 nb:c.bn<=256
 s: ∀v∈c.vs,xE K ⟨kd,v.1,c.view,c.inst,c.seq,0,c.bs,[],[]⟩ v.2
theorem aa7(w:World)(nn b:Nat)(K:List (Int×List Int))(hN:vC w nn b K)(kd f:Int)(h1:1<=f)(h4:f<=4)(c:CD)(h:c.Is w)(hc:afa K kd f c):
  Y 266 #[U kd,.agg (nS c).toArray,U f,nn] w fun e w'=>e= .returned true/\Be w w':=by
 obtain⟨HN,H,HC⟩:=j3 hN h hc;have hnb:=hc.nb;obtain⟨cd,hcd⟩:=ex c;obtain⟨c0,c1,c2,ba,bn,bc,bs,va,vn,vc,vs⟩:=c;have HV:Hid (uz w va vn vc vs):=jj h.v;have hvn:vn<=9:=by have:=h.v.len;have:=hc.r.len;simp only at*;omega
 simp only at hnb;clear hN h hc;show Y 266 #[U kd,.agg #[U c0,U c1,U c2,.slice ba bn bc,.slice va vn vc],U f,nn] w _;go_enter func266,ntmps266
 go_upto_region 1 with fail
 generalize hw1:w.alloc _=w1;generalize hgb:w.heap.size=gb;replace hw1:=hw1.symm;replace hgb:=hgb.symm;obtain⟨B1,BX⟩:=nw hw1 hgb;clear hw1 hgb;have d4:=BX.at_ 4
 go_wp2_with fail
 refine(Rj _ f h1 h4 va vn vc vs (HV.below B1) HC.r).mono ?_;rintro e w2 ⟨rfl,hb2⟩;have X2:=BX.below hb2 BX.lt;have yM:=jj X2;have B2:=nO B1 hb2;clear d4 hb2;have d4:=X2.at_ 4;clear X2
 go_wp2_with fail
 clear d4
 go_loopw [19] (fun i wr=> ∃k:Nat,k<=vn/\i= U k/\Be w2 wr) (fun i _=>vn -(intOf i).toNat)
 case atStart=>exact⟨0,lK,rfl,aC _ _⟩
 case round=>
  obtain⟨k,hk,rfl,hb⟩:=hrel;have HB:=jj hb;have BW:=nO B2 hb;clear hb;by_cases hlt:k<vn
  ·have i0:(0:Int)<=k:=lK
   have i1:(k:Int)<vn:=lK;obtain⟨g,off,rfl,hlt2,x0,x1,hx,z0,z1⟩:=(HV.below BW).get hlt;have SV:=jj (HC.s _ (ak hx));have e0:IntKind.i64.wrap ((k:Int)+1)=(k:Int)+1:=aH _ lK;have sJ:=jj hlt;clear hx hlt2
   go_upto_region 6 with fail
   obtain⟨w9,mE⟩:=ex (wr.alloc (.cells #[U x0,U x1] 311));obtain⟨g9,vE⟩:=ex wr.heap.size;rw[<-mE,<-vE];have X9:=xNew mE vE;have Y9:Hid (lQ w9 gb 228 #[U c0,U c1,U c2,.slice ba bn bc,.slice (some ⟨g,off,none⟩) vn vc]):=jj (by rw[mE];exact(yM.below HB yM.lt).alloc _);have B9':=GN HB mE;have B9:=GN BW mE;clear mE vE z0 z1;have KS: ∀w',Be w9 w'->J w' g9 0 (U x0)/\J w' g9 1 (U x1)/\J w' gb 0 (U c0)/\J w' gb 1 (U c1)/\J w' gb 2 (U c2)/\J w' gb 3 (.slice ba bn bc)/\J w' gb 4 (.slice (some ⟨g,off,none⟩) vn vc):=fun w' o=>
    have u:=X9.below o X9.lt;have v:=Y9.below o Y9.lt
    ⟨u.cell 0,u.cell 1,v.cell 0,v.cell 1,v.cell 2,v.cell 3,v.cell 4⟩
   refine rP (fun w'=>J w' g9 0 (U x0)/\J w' g9 1 (U x1)/\J w' gb 0 (U c0)/\J w' gb 1 (U c1)/\J w' gb 2 (U c2)/\J w' gb 3 (.slice ba bn bc)/\J w' gb 4 (.slice (some ⟨g,off,none⟩) vn vc)) 10 (tk 0 4 (tk 5 3 (.one 4 (.one 8 (.take 9 .done))))) (KS _ (aC _ _).drew) ?_;intro hS0
   repeat refine' tT ?_
   refine pO fun KT lS=> ?_;go_simp;refine(XV _ kd x0 ⟨c0,c1,c2,ba,bn,bc,bs,some ⟨g,off,none⟩,vn,vc,vs⟩ (H.below B9.drew) (by simp only;omega)).mono ?_;rintro e w3 ⟨a3,k3,rfl,hr3,hb3⟩;have R3:=jj hr3;have BB:=jj ((aC w9.heap.size w9).drew.trans hb3);have B3:=jj (B9.trans (BB.mono B9.size));have BL:=jj (B9'.trans (BB.mono B9'.size));clear hb3 hr3;have S3:=KS _ BB;refine oH lS S3 ?_;refine pO fun KT lS=> ?_;go_simp;refine(X8 _ nn b K (HN.below B3) (ale kd x0 ⟨c0,c1,c2,ba,bn,bc,bs,some ⟨g,off,none⟩,vn,vc,vs⟩ a3 k3) ⟨R3,uz.nil _ _ (bF _),(Gz.nil 0 _).vI⟩ x1 SV).mono ?_;rintro e w4 ⟨rfl,hb4⟩;have BB4:=nO BB hb4;have BL4:=nO BL hb4;clear hb4;have S4:=KS _ BB4;refine oH lS S4 ?_;clear hS0 S3;have hS0:=S4
   repeat refine' tT ?_
   refine lM ?_;clear hS0 S4 KS
   go_wp2_with fail
   go_roundw
   case rel=>exact⟨k+1,by have:=sJ.out;omega,by go_num,BL4⟩
   have:=sJ.out;simp[intOf];omega
  have i1: ¬(k:Int)<vn:=lK
  go_wp2_with fail
  go_ret;exact⟨by trivial,BW⟩
structure ae8(K:List (Int×List Int))(kd f cl:Int)(c:CD):Prop where
 p1:qU c.view 0 12=true
 p2:qU c.inst 0 f=true
 p3:qU c.seq 1 16=true
 b: ∀r∈c.bs,sU K cl r
 up: ∀i r s,c.bs[i]?=some r->c.bs[i+1]?=some s->zT r s= -1
 nb:c.bn<=4
 v:afa K kd f c
theorem Oq(w:World)(nn b:Nat)(K:List (Int×List Int))(hN:vC w nn b K)(kd f cl:Int)(h1:1<=f)(h4:f<=4)(c:CD)(h:c.Is w)(hc:ae8 K kd f cl c):
  Y 222 #[U kd,.agg (nS c).toArray,U f,U cl,nn] w fun e w'=>e= .returned true/\Be w w':=by
 obtain⟨HN,H,HC⟩:=j3 hN h hc;obtain⟨c0,c1,c2,ba,bn,bc,bs,va,vn,vc,vs⟩:=c;clear hN h hc;show Y 222 #[U kd,.agg #[U c0,U c1,U c2,.slice ba bn bc,.slice va vn vc],U f,U cl,nn] w _;go_enter func222,ntmps222
 go_upto_region 2 with fail
 generalize hv1:w.alloc _=v1;generalize hg3:w.heap.size=g3;replace hv1:=hv1.symm;replace hg3:=hg3.symm;obtain⟨v2,hv2⟩:=ex (v1.alloc (.cells #[U f,U cl] 331));obtain⟨g2,hg2⟩:=ex v1.heap.size;have eg:g3+1=g2:=by rw[hg2,hv1,hg3];simp
 try rw[eg]
 try rw[<-hg2]
 rw[<-hv2];have X2:=xNew hv2 hg2;have X3:Hid (lQ v2 g3 228 #[U c0,U c1,U c2,.slice ba bn bc,.slice va vn vc]):=jj (by rw[hv2];refine lQ.alloc ?_ _;rw[hv1,hg3];exact lQ.new _ _ _);have B2:Hid (Be w v2):=jj (by rw[hv2,hv1];exact(nC.alloc lT _));clear hv1 hv2 hg2 hg3 eg;obtain⟨d0,d1⟩:=X2.a2;obtain⟨e0,e1,e2⟩:=X3.a3
 go_wp2_with fail
 refine(Af f cl c0 c1 c2 _ HC.p1 HC.p2 HC.p3).mono ?_;rintro e w3 ⟨rfl,hb3⟩;have B3:=nO B2 hb3;have Y3:=jj (X3.below hb3 X3.lt);clear hb3 d0 d1 e0 e1 e2;have e3:=Y3.at_ 3
 go_wp2_with fail
 refine(JC _ nn b K (HN.below B3) cl 4 ba bn bc bs (H.b.below B3) HC.b HC.up (by have:=HC.nb;simp only at this;omega) (by have:=HC.nb;simp only at this;omega)).mono ?_;rintro e w4 ⟨rfl,hb4⟩;have B4:=nO B3 hb4;have Z3:=jj (Y3.below hb4 Y3.lt);clear hb4 e3;obtain⟨e0,e1,e2,e3,e4⟩:=Z3.a5
 go_wp2_with fail
 refine(aa7 _ nn b K (HN.below B4) kd f h1 h4 ⟨c0,c1,c2,ba,bn,bc,bs,va,vn,vc,vs⟩ (H.below B4) HC.v).mono ?_;rintro e w5 ⟨rfl,hb5⟩;have B5:=nO B4 hb5;clear hb5 e0 e1 e2 e3 e4
 go_wp2_with fail
 go_ret;exact⟨by trivial,B5⟩
section
open Classical
structure uo where
 has:Bool
 b:List Rq
 pr:List Xk
 co:List Xk
 told:Bool
 cert:Option Ce
 done:Option Ce
structure Ba where
 vw:Int
 on:Bool
 ps:List uo
structure ql where
 now:Int
 is:List Ba
 T:List oO
 V:List Vt
 es:List CY
 st:List (Bool×Int)
 ct:List (Int×Int)
 ga:List (Int×Int)
 xU:List Value
 vZ:List Value
 nN:List LI
 nG:List LI
 run:Int
 view:Int
 vk:Int
 since:Int
 start:Int
 stopped:Bool
 out:List (Int×List Int)
 c0:Int
 c1:Int
 c2:Int
 c3:Int
 c4:Int
def qm.val(p:qm):uo:=⟨p.sl.has,p.sl.bs,p.sl.pr.map rC.val,p.sl.co.map rC.val,p.told,if p.has then some (pz p.cert) else none,if p.done then some (pz p.dw) else none⟩
def tJ.val(i:tJ):Ba:=⟨i.vw,i.on,i.ps.map qm.val⟩
def lU.val(d:lU):ql:=⟨d.now,d.is.map fun p=>p.2.val,d.T,d.V,d.es,d.st,d.ct,d.ga,d.xU,d.vZ,d.nN.map Prod.snd,d.nG.map Prod.snd,d.run,d.view,d.vk,d.since,d.start,d.stopped,uy d.ol,d.c0,d.c1,d.c2,d.c3,d.c4⟩
structure Who where
 f:Int
 n:Nat
 id:Nat
abbrev KS:=List (Int×List Int)
abbrev KN:=KS×ql
noncomputable def must(P:Prop):Option Unit:=if P then some () else none
theorem mI{u:Unit}(h:must P=some u):P:=by
 unfold must at h;split at h
 ·assumption
 cases h
theorem nQ(h:P):must P=some ():=aV h
def others(n id:Nat):List Nat:=(List.range n).filter fun k=>decide (k≠id)
def FY(K:KS)(m:Ms):List Int:=mD (num K (m.sender,lX m)).toNat++lX m
structure Lh(K:KS)(s:ql)(m:Ms):Prop where
 ok:Ev m
 len:(lX m).length<=65000
 room:K.length<1000000
 out:s.out.length<=3000
noncomputable def yI(E:Who)(m:Ms)(S:KN):Option (KN×Int):=
 let M:Ms:={m with sender:=E.id}
 (must (Lh S.1 S.2 M)).map fun _=>
  let K:=sealed S.1 (M.sender,lX M)
  ((K,{S.2 with out:=S.2.out++(others E.n E.id).map fun k:Nat=>((k:Int),FY K M)}),num K (M.sender,lX M))
noncomputable def Cz(E:Who)(c t r:Int)(S:KN):Option KN:=
 let M:Ms:=⟨10,E.id,0,c,t,r,[],[],[]⟩
 (must (Lh S.1 S.2 M/\0<=c/\c<4)).map fun _=>
  let K:=sealed S.1 (M.sender,lX M)
  (K,{S.2 with out:=S.2.out++ [(100+c,FY K M)]})
def ql.pl(s:ql)(k j:Nat):Option (Ba×uo):=s.is[k]?.bind fun i=>i.ps[j]?.map fun p=>(i,p)
def ql.put(s:ql)(k j:Nat)(p:uo):ql:={s with is:=s.is.modify k fun i=>{i with ps:=i.ps.set j p}}
noncomputable def vL(E:Who)(kind:Int)(k j:Nat)(b:List Rq)(S:KN):Option KN:=
 (yI E ⟨kind,0,S.2.view,k,j+1,0,b,[],[]⟩ S).bind fun r=>
 (r.1.2.pl k j).bind fun ip=>
  if kind=4 then(must (ip.1.on=true/\ip.2.pr[E.id]?=some none/\b.length<=4096)).map fun _=>(r.1.1,r.1.2.put k j {ip.2 with pr:=ip.2.pr.set E.id (some (r.2,b))})
  else(must (kind=5/\ip.1.on=true/\ip.2.co[E.id]?=some none/\b.length<=4096)).map fun _=>(r.1.1,r.1.2.put k j {ip.2 with co:=ip.2.co.set E.id (some (r.2,b))})
def Xp(r:Rq):List oO->Nat->Option (Nat×Bool)
 | [],k=>some (k,false)
 |d::l,k=>if d.r=r then some (k,true) else if zT d.r r= -1 then Xp r l (k+1) else none
def AA(T:List oO)(r:Rq):Option (Option Int):=(Xp r T 0).map fun a=>if a.2 then(match T[a.1]? with|some d=>if d.ready then some d.since else none|none=>none) else none
def NR(T:List oO)(r:Rq)(j:Nat):Option Bool:=(Xp r T 0).map fun a=>if a.2 then(match T[a.1]? with|some d=>d.nX j|none=>false) else false
noncomputable def wu(k:Int)(now:Int)(T:List oO):List Rq->List (Int×Int)->Option (List (Int×Int))
 | [],g=>some g
 |r::l,g=>(AA T r).bind fun
  |some t=>(must (qX (now -t)/\Roomy g/\g.length<=5/\qX k)).bind fun _=>wu k now T l (C8 g k (now -t))
  |none=>wu k now T l g
def LH(T:List oO)(c t:Int):List oO:=T.filter fun d=>decide (d.r.1≠c)||decide (t<d.r.2.1)
noncomputable def rG(E:Who):List CY->KN->Option KN
 | [],S=>some S
 |e::l,S=>(Cz E e.1.1 e.1.2.1 e.2 S).bind fun S1=>rG E l (S1.1,{S1.2 with T:=LH S1.2.T e.1.1 e.1.2.1})
def oh:List uo->Nat
 | []=>0
 |p::l=>if p.done.isSome then oh l+1 else 0
structure ZA(s:ql)(b:List Rq):Prop where
 i: ∀r∈b,RqI r
 es:s.es.length+b.length<=1000
 n:b.length<=4
 T:s.T.length<=64
noncomputable def Yx(E:Who)(b:List Rq)(S:KN):Option KN:=
 (must (ZA S.2 b)).bind fun _=>
  let r:=qL ([],S.2.st,S.2.ct) b
  rG E r.1 (S.1,{S.2 with es:=S.2.es++r.1,st:=r.2.1,ct:=r.2.2})
noncomputable def wS(E:Who):Nat->KN->Option KN
 |0,S=>S.2.is[0]?.bind fun i=>(must ((oh i.ps:Int)<=S.2.run)).map fun _=>S
 |fuel+1,S=>S.2.is[0]?.bind fun i=>if(oh i.ps:Int)<=S.2.run then some S else
   (i.ps[S.2.run.toNat]?.bind uo.done).bind fun c=>(Yx E c.batch (S.1,{S.2 with run:=S.2.run+1})).bind fun S1=>wS E fuel S1
structure Sy(s:ql)(k:Nat)(b:List Rq):Prop where
 T:s.T.length<=64
 b:b.length<=4
 now:0<=s.now/\s.now<=1000000
 run:0<=s.run/\s.run<=16
noncomputable def NC(E:Who)(k:Nat)(b:List Rq)(S:KN):Option KN:=
 (must (Sy S.2 k b)).bind fun _=>(wu k S.2.now S.2.T b S.2.ga).bind fun g=>
  let S1:KN:=(S.1,{S.2 with ga:=g})
  if k=0 then(wS E 16 S1).bind fun S2=>(must (S2.2.run<16)).map fun _=>S2 else some S1
structure Ve(E:Who)(s:ql)(i:Ba)(p:uo)(k j:Nat):Prop where
 on:i.on=true
 jl:j<16
 i:qX i.vw
 b:p.b.length<=4096
 nG: ∃l,s.nG[k]?=some l/\j+1<l.length
 v:0<=s.view/\s.view<=100
noncomputable def QY(E:Who)(k j:Nat)(S:KN):Option KN:=
 (S.2.pl k j).bind fun ip=>(must (Ve E S.2 ip.1 ip.2 k j)).bind fun _=>
  if ip.2.told||!ip.2.has then some S else
  match qx (2*E.f+1).toNat ip.2.pr ip.2.b with
  |none=>some S
  |some vs=>vL E 5 k j ip.2.b (S.1,{S.2.put k j {ip.2 with told:=true,cert:=some ⟨ip.1.vw,k,j+1,ip.2.b,vs⟩} with nG:=S.2.nG.modify k fun l=>l.set (j+1) (S.2.view+1)})
noncomputable def Fz(E:Who)(k j:Nat)(S:KN):Option KN:=
 (S.2.pl k j).bind fun ip=>(must (qX ip.1.vw)).bind fun _=>if ip.2.done.isSome then some S else
  match mQ (2*E.f+1).toNat ip.2.co ip.2.co with
  |none=>some S
  |some (b,vs)=>NC E k b (S.1,S.2.put k j {ip.2 with done:=some ⟨ip.1.vw,k,j+1,b,vs⟩})
noncomputable def Ca(E:Who)(k j:Nat)(S:KN):Option KN:=(QY E k j S).bind fun S1=>Fz E k j S1
noncomputable def Nu(E:Who)(k j:Nat)(S:KN):Option KN:=
 (S.2.pl k j).bind fun ip=>(must (ip.2.has=true)).bind fun _=>(vL E 4 k j ip.2.b S).bind fun S1=>Ca E k j S1
inductive Kj where
 |used
 |stale
structure adf(s:ql):Prop where
 T:s.T.length<=58
 now:0<=s.now/\s.now<=1000000
def zH(f:Int)(j:Nat)(now:Int)(r:Rq)(T:List oO):Option (List oO):=
 match Xp r T 0 with
 |some (k,true)=>T[k]?.bind fun d=>if d.nX j then none else some (T.set k (d.told f j now))
 |some (0,false)=>if T.length=0 then some [(WI r).tell j] else none
 |_=>none
noncomputable def Jy(E:Who)(r:Rq)(S:KN):Option KN:=(yI E ⟨2,0,0,0,0,0,[r],[],[]⟩ S).map fun q=>q.1
noncomputable def JE(E:Who)(kind:Int)(src:Nat)(r:Rq)(S:KN):Option (KN×Kj):=
 let node:=if kind=1 then E.id else src
 (must (adf S.2/\sU S.1 2 r/\lastOf S.2.ct r.1<r.2.1/\node<E.n/\node<13/\0<=r.1/\r.1<2)).bind fun _=>
 (NR S.2.T r node).bind fun h=>if h then some (S,.stale) else
 (NR S.2.T r E.id).bind fun h'=>(if h' then some S else(zH E.f E.id S.2.now r S.2.T).bind fun T=>Jy E r (S.1,{S.2 with T:=T})).bind fun S1=>
 if kind=2/\src≠E.id then(zH E.f src S1.2.now r S1.2.T).map fun T=>((S1.1,{S1.2 with T:=T}),.used) else if kind=1 then some (S1,.used) else none
structure Es(K:KS)(b:List Rq):Prop where
 s: ∀r∈b,sU K 2 r
 up: ∀i r s,b[i]?=some r->b[i+1]?=some s->zT r s= -1
 n:b.length<=2
noncomputable def Oz(k j:Nat)(b:List Rq)(S:KN):Option KN:=
 (S.2.pl k j).bind fun ip=>(must (ip.1.on=true/\ip.2.has=false/\j<16/\(j:Int)+1<=(oh ip.1.ps:Int)+4)).map fun _=>(S.1,S.2.put k j {ip.2 with has:=true,b:=b})
noncomputable def ppV(E:Who)(m:Ms)(k j:Nat)(S:KN):Option (KN×Kj):=
 (must (Es S.1 m.batch/\m.view=S.2.view/\m.inst=k/\m.seq=(j:Int)+1)).bind fun _=>(Oz k j m.batch S).bind fun S1=>(Nu E k j S1).map fun S2=>(S2,.used)
noncomputable def AU(E:Who)(m:Ms)(z:Int)(src k j:Nat)(S:KN):Option (KN×Kj):=
 (must (Es S.1 m.batch/\m.view=S.2.view/\m.inst=k/\m.seq=(j:Int)+1/\m.sender=src/\j<16)).bind fun _=>(S.2.pl k j).bind fun ip=>
  if m.kind=4 then(must (ip.1.on=true/\ip.2.pr[src]?=some none)).bind fun _=>(Ca E k j (S.1,S.2.put k j {ip.2 with pr:=ip.2.pr.set src (some (z,m.batch))})).map fun S2=>(S2,.used)
  else(must (m.kind=5/\ip.1.on=true/\ip.2.co[src]?=some none)).bind fun _=>(Ca E k j (S.1,S.2.put k j {ip.2 with co:=ip.2.co.set src (some (z,m.batch))})).map fun S2=>(S2,.used)
structure U1(K:KS)(f:Int)(c:Ce):Prop where
 p1:qU c.view 0 12=true
 p2:qU c.inst 0 f=true
 p3:qU c.seq 1 16=true
 b: ∀r∈c.batch,sU K 2 r
 up: ∀i r s,c.batch[i]?=some r->c.batch[i+1]?=some s->zT r s= -1
 nb:c.batch.length<=4
 r:Ih f c.sw
 s: ∀v∈c.sw,xE K ⟨5,v.1,c.view,c.inst,c.seq,0,c.batch,[],[]⟩ v.2
noncomputable def Cw(E:Who)(c:Ce)(S:KN):Option (KN×Kj):=
 (must (U1 S.1 E.f c/\ ∃(k j:Nat) (i:Ba) (p:uo),c.inst=k/\c.seq=(j:Int)+1/\S.2.pl k j=some (i,p)/\p.done.isSome=true)).map fun _=>(S,.stale)
end
end Go.Proofs.YtgnhecmnlddjhaaGreat
