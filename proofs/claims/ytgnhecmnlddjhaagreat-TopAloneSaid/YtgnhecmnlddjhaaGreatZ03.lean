/- TopAlone, part 4 of 24: a proof squeezed by a program. -/
import Derived.Test.YtgnhecmnlddjhaaGreatZ02
import Derived.DeepKeys4
import Derived.Maps.OwnSet
import Derived.Laws.BytesArg
set_option linter.unusedVariables false
set_option linter.unusedSimpArgs false
set_option linter.defProp false
set_option maxRecDepth 100000
set_option maxHeartbeats 6400000
namespace Go.Proofs.YtgnhecmnlddjhaaGreat
open Go.RowKit Go.Proofs.Tryz
variable{S:LN}{a:OA}{bs:LI}{c g gg gr gw i j k m n s t:Nat}{v:Value}{w w' w0:World}{xs:LV}
theorem abN(r:Rq):(oK r).length<=36:=by
 have h1:=nK r.1.toNat;have h2:=nK r.2.1.toNat;have h3:=nK r.2.2.1.toNat;have h4:=nK (zig r.2.2.2.1);have h5:=nK (zig r.2.2.2.2.1);have h6:=nK r.2.2.2.2.2.toNat;simp only[oK,vg,av];omega
theorem aeU(v:Vo):(uQ v).length<=12:=by
 have h1:=nK v.1.toNat;have h2:=nK v.2.toNat;simp only[uQ,av];omega
theorem Iq(h:Wr w0 w gw bs):
  Y 188 #[gw] w fun e w'=> ∃a c,e= .returned (.tuple #[.slice a bs.length c,true])/\w.ownsRow w0.heap.size 5 1 (.slice a bs.length c) bs.length (mZ bs)/\w=w':=by
 obtain⟨a,c,h1,h2⟩:=h.ex;obtain⟨c0,c1⟩:=h1.a2;have H2:=jj h2;clear h h1 h2;go_enter func188,ntmps188
 go_wp2_with fail
 go_ret2
 exact⟨a,c,by trivial,H2,by trivial⟩
theorem acH(h:Wr w0 w gw bs)(r:Rq)(hr:xH r)(hl:bs.length+36<=4194304):
  Y 187 #[gw,.agg (rA r).toArray] w fun e w'=>e= .returned (.tuple #[])/\Wr w0 w' gw (bs++oK r)/\xY w w':=by
 obtain⟨r0,r1,r2,r3,r4,r5⟩:=r;obtain⟨q0,q1,q2,q3,q4,q5⟩:=hr;have E:Hid (((bs++qp [r0,r1,r2])++zG [r3,r4])++qp [r5]=bs++oK (r0,r1,r2,r3,r4,r5)):=jj (by simp[qp,zG,oK]);have n1:=rW [r0,r1,r2];have n2:=Na [r3,r4];simp only[aY,dK] at n1 n2;show Y 187 #[gw,.agg #[U r0,U r1,U r2,U r3,U r4,U r5]] w _;go_enter func187,ntmps187
 go_upto_region 1 with fail
 generalize hw1:w.alloc _=w1;generalize hgb:w.heap.size=gb;replace hw1:=hw1.symm;replace hgb:=hgb.symm;have hB1:=(tQ hw1).out;have AY:=xNew hw1 hgb;have W1:=jj (h.keep hB1);have K1:=jj (xY.below hB1);obtain⟨d0,d1,d2,d3,d4,d5⟩:=AY.a6;clear hw1 hgb hB1 h
 go_wp2_with fail
 refine(Ah (W1.keep nC) w1.heap.size 3 3 [r0,r1,r2] (lQ.new _ _ _) rfl (by simp only[ay,aI,bK];rintro z (rfl|rfl|rfl)<;>assumption) lK).mono ?_;rintro e w2 ⟨rfl,hw2,hk2⟩;have W2:=jj hw2;have K2:=jj ((K1.trans (xY.below nC)).trans hk2);have yM:=jj (hk2.blk (lQ.alloc AY _) lN lN);obtain⟨d0,d1,d2,d3,d4,d5⟩:=yM.a6;clear hw2 hk2
 go_wp2_with fail
 refine(ahL (W2.keep nC) w2.heap.size 2 2 [r3,r4] (lQ.new _ _ _) rfl (by simp only[ay,aI,bK];rintro z (rfl|rfl)<;>assumption) (by rw[av];omega)).mono ?_;rintro e w3 ⟨rfl,hw3,hk3⟩;have W3:=jj hw3;have K3:=jj ((K2.trans (xY.below nC)).trans hk3);have Sv:=jj (hk3.blk (lQ.alloc yM _) lN lN);obtain⟨d0,d1,d2,d3,d4,d5⟩:=Sv.a6;clear hw3 hk3
 go_wp2_with fail
 refine(Ah (W3.keep nC) w3.heap.size 1 1 [r5] (lQ.new _ _ _) rfl (by simp only[ay,aI,bK];rintro z rfl<;>assumption) (by rw[av,av];omega)).mono ?_;rintro e w4 ⟨rfl,hw4,hk4⟩;have W4:=jj hw4;have K4:=jj ((K3.trans (xY.below nC)).trans hk4);clear hw4 hk4
 go_wp2_with fail
 go_end0
 rw[E.out] at W4;exact⟨by trivial,W4,K4⟩
theorem ae0(h:Wr w0 w gw bs)(v:Vo)(hv:Kv v)(hl:bs.length+36<=4194304):
  Y 190 #[gw,.agg (Cg v).toArray] w fun e w'=>e= .returned (.tuple #[])/\Wr w0 w' gw (bs++uQ v)/\xY w w':=by
 obtain⟨v0,v1⟩:=v;obtain⟨q0,q1⟩:=hv;have E:Hid (bs++qp [v0,v1]=bs++uQ (v0,v1)):=jj (by simp[qp,uQ]);show Y 190 #[gw,.agg #[U v0,U v1]] w _;go_enter func190,ntmps190
 go_upto_region 1 with fail
 obtain⟨w1,hw1⟩:=ex (w.alloc (.cells #[U v0,U v1] 311));obtain⟨gb,hgb⟩:=ex w.heap.size;rw[<-hw1,<-hgb];have hB1:=(tQ hw1).out;have AY:=xNew hw1 hgb;have W1:=jj (h.keep hB1);have K1:=jj (xY.below hB1);obtain⟨d0,d1⟩:=AY.a2;clear hw1 hgb hB1 h
 go_wp2_with fail
 refine(Ah (W1.keep nC) w1.heap.size 2 2 [v0,v1] (lQ.new _ _ _) rfl (by simp only[ay,aI,bK];rintro z (rfl|rfl)<;>assumption) lK).mono ?_;rintro e w2 ⟨rfl,hw2,hk2⟩;have W2:=jj hw2;have K2:=jj ((K1.trans (xY.below nC)).trans hk2);clear hw2 hk2
 go_wp2_with fail
 go_end0
 rw[E.out] at W2;exact⟨by trivial,W2,K2⟩
theorem Br(l:List Rq):(l.flatMap oK).length<=36*l.length:=by
 induction l with
 |nil=>simp
 |cons r l ih=>
  have:=abN r;simp only[bQ,av,aY] at*;omega
theorem Gg(h:Wr w0 w gw bs)(a:OA)(n c:Nat)(l:List Rq)(hA:mo w0 a n 6 (l.flatMap rA))(hn:l.length=n)(wB:n<=256)(hok: ∀r∈l,xH r)(hl:bs.length+36*n+36<=4194304):
  Y 186 #[gw,.slice a n c,.func (.func 187) #[] #[]] w fun e w'=>e= .returned (.tuple #[])/\Wr w0 w' gw (bs++nI oK l)/\xY w w':=by
 obtain⟨H,HA,HN,HO⟩:=j4 h hA hn hok;have i0: ¬(256:Int)<n:=lK;clear h hA hn hok;go_enter func186,ntmps186
 go_wp2_with fail
 refine(Ah (H.keep nC) w.heap.size 1 1 [(n:Int)] (lQ.new _ _ _) rfl (by simp only[ay,aI,bK];rintro z rfl;exact⟨lK,lK⟩) lK).mono ?_;rintro e w2 ⟨rfl,hw2,hk2⟩;have W2:Hid (Wr w0 w2 gw (bs++mD n)):=jj (by simpa[qp] using hw2);have K2:=jj ((xY.below nC).trans hk2);clear hw2 hk2 i0
 go_wp2_with fail
 go_loopw [21] (fun i wr=> ∃k:Nat,k<=n/\i= U k/\Wr w0 wr gw ((bs++mD n)++(l.take k).flatMap oK)/\xY w wr) (fun i _=>n -(intOf i).toNat)
 case atStart=>exact⟨0,lK,rfl,by simpa using W2.out,K2⟩
 case round=>
  obtain⟨k,hk,rfl,hw,hk2⟩:=hrel;obtain⟨wo,rfl⟩:=ex wr;have HW:=jj hw;have KK:=jj hk2;by_cases hlt:k<n
  ·have hkl:k<l.length:=by rw[HN.out];exact hlt
   have i0:(0:Int)<=k:=lK;have i1:(k:Int)<n:=lK;obtain⟨g,off,rfl,hlt2,x0,x1,x2,x3,x4,x5,hr,y0,y1,y2,y3,y4,y5⟩:=(show qc w0 a n n l from⟨HA,HN,aF _,by unfold maxLen;omega⟩).get hlt;have lo:=hlt2;have z0:=(hw.below.cell (p:=⟨g,off+k*6,none⟩) lo).trans y0;have z1:=(hw.below.cell (p:=⟨g,off+k*6+1,none⟩) lo).trans y1;have z2:=(hw.below.cell (p:=⟨g,off+k*6+2,none⟩) lo).trans y2;have z3:=(hw.below.cell (p:=⟨g,off+k*6+3,none⟩) lo).trans y3;have z4:=(hw.below.cell (p:=⟨g,off+k*6+4,none⟩) lo).trans y4;have z5:=(hw.below.cell (p:=⟨g,off+k*6+5,none⟩) lo).trans y5;obtain⟨r,hrr⟩: ∃r:Rq,r=(x0,x1,x2,x3,x4,x5):=⟨_,rfl⟩;rw[<-hrr] at hr;clear y0 y1 y2 y3 y4 y5 lo hlt2;have T:Hid ((l.take (k+1)).flatMap oK=(l.take k).flatMap oK++oK r):=jj (by
    rw[bA hkl];have:l[k]=r:=by
     rw[aj hkl] at hr;exact dh hr
    rw[this];simp)
   have bl:((bs++mD n)++(l.take k).flatMap oK).length+36<=4194304:=by
    have e1:=Br (l.take k);have e2:=nK n;rw[av,av];rw[cO] at e1;have e3:36*min k l.length<=36*(n -1):=jC _ lK;omega
   have e0:IntKind.i64.wrap ((k:Int)+1)=(k:Int)+1:=aH _ lK;have ROK:=jj (HO.out r (ak hr));have HRR:=jj hrr;clear hw hk2 hkl hr hrr
   go_wp2_with fail
   obtain rfl:=HRR.out;refine(acH (HW.keep nC) _ ROK bl).mono ?_;rintro e w3 ⟨rfl,hw3,hk3⟩;rw[bW,<-T.out] at hw3;have W3:=jj hw3;have K3:=jj ((KK.trans (xY.below nC)).trans hk3);clear hw3 hk3
   go_wp2_with fail
   go_roundw
   case rel=>exact⟨k+1,lK,by go_num,W3,K3⟩
   simp[intOf];omega
  have hkn:k=n:=lK;subst hkn;have E:Hid ((bs++mD k)++(l.take k).flatMap oK=bs++nI oK l):=jj (by rw[<-HN.out,dP,bW];rfl);clear hw hk2
  go_wp2_with fail
  go_end0
  rw[E.out] at HW;exact⟨by trivial,HW,KK⟩
theorem JX(l:List Vo):(l.flatMap uQ).length<=12*l.length:=by
 induction l with
 |nil=>simp
 |cons r l ih=>
  have:=aeU r;simp only[bQ,av,aY] at*;omega
theorem Eo(h:Wr w0 w gw bs)(a:OA)(n c:Nat)(l:List Vo)(hA:mo w0 a n 2 (l.flatMap Cg))(hn:l.length=n)(wB:n<=256)(hok: ∀r∈l,Kv r)(hl:bs.length+12*n+36<=4194304):
  Y 189 #[gw,.slice a n c,.func (.func 190) #[] #[]] w fun e w'=>e= .returned (.tuple #[])/\Wr w0 w' gw (bs++nI uQ l)/\xY w w':=by
 obtain⟨H,HA,HN,HO⟩:=j4 h hA hn hok;have i0: ¬(256:Int)<n:=lK;clear h hA hn hok;go_enter func189,ntmps189
 go_wp2_with fail
 refine(Ah (H.keep nC) w.heap.size 1 1 [(n:Int)] (lQ.new _ _ _) rfl (by simp only[ay,aI,bK];rintro z rfl;exact⟨lK,lK⟩) lK).mono ?_;rintro e w2 ⟨rfl,hw2,hk2⟩;have W2:Hid (Wr w0 w2 gw (bs++mD n)):=jj (by simpa[qp] using hw2);have K2:=jj ((xY.below nC).trans hk2);clear hw2 hk2 i0
 go_wp2_with fail
 go_loopw [21] (fun i wr=> ∃k:Nat,k<=n/\i= U k/\Wr w0 wr gw ((bs++mD n)++(l.take k).flatMap uQ)/\xY w wr) (fun i _=>n -(intOf i).toNat)
 case atStart=>exact⟨0,lK,rfl,by simpa using W2.out,K2⟩
 case round=>
  obtain⟨k,hk,rfl,hw,hk2⟩:=hrel;obtain⟨wo,rfl⟩:=ex wr;have HW:=jj hw;have KK:=jj hk2;by_cases hlt:k<n
  ·have hkl:k<l.length:=by rw[HN.out];exact hlt
   have i0:(0:Int)<=k:=lK;have i1:(k:Int)<n:=lK;obtain⟨g,off,rfl,hlt2,x0,x1,hr,y0,y1⟩:=(show uz w0 a n n l from⟨HA,HN,aF _,by unfold maxLen;omega⟩).get hlt;have lo:=hlt2;have z0:=(hw.below.cell (p:=⟨g,off+k*2,none⟩) lo).trans y0;have z1:=(hw.below.cell (p:=⟨g,off+k*2+1,none⟩) lo).trans y1;obtain⟨r,hrr⟩: ∃r:Vo,r=(x0,x1):=⟨_,rfl⟩;rw[<-hrr] at hr;clear y0 y1 lo hlt2;have T:Hid ((l.take (k+1)).flatMap uQ=(l.take k).flatMap uQ++uQ r):=jj (by
    rw[bA hkl];have:l[k]=r:=by
     rw[aj hkl] at hr;exact dh hr
    rw[this];simp)
   have bl:((bs++mD n)++(l.take k).flatMap uQ).length+36<=4194304:=by
    have e1:=JX (l.take k);have e2:=nK n;rw[av,av];rw[cO] at e1;have e3:12*min k l.length<=12*(n -1):=jC _ lK;omega
   have e0:IntKind.i64.wrap ((k:Int)+1)=(k:Int)+1:=aH _ lK;have ROK:=jj (HO.out r (ak hr));have HRR:=jj hrr;clear hw hk2 hkl hr hrr
   go_wp2_with fail
   obtain rfl:=HRR.out;refine(ae0 (HW.keep nC) _ ROK bl).mono ?_;rintro e w3 ⟨rfl,hw3,hk3⟩;rw[bW,<-T.out] at hw3;have W3:=jj hw3;have K3:=jj ((KK.trans (xY.below nC)).trans hk3);clear hw3 hk3
   go_wp2_with fail
   go_roundw
   case rel=>exact⟨k+1,lK,by go_num,W3,K3⟩
   simp[intOf];omega
  have hkn:k=n:=lK;subst hkn;have E:Hid ((bs++mD k)++(l.take k).flatMap uQ=bs++nI uQ l):=jj (by rw[<-HN.out,dP,bW];rfl);clear hw hk2
  go_wp2_with fail
  go_end0
  rw[E.out] at HW;exact⟨by trivial,HW,KK⟩
def pz(c:CD):Ce:=⟨c.view,c.inst,c.seq,c.bs,c.vs⟩
theorem aeZ(h:Wr w0 w gw bs)(c:CD)(hc:c.Is w0)(ho:Et (pz c))(hl:bs.length+12400<=4194304):
  Y 192 #[gw,.agg (nS c).toArray] w fun e w'=>e= .returned (.tuple #[])/\Wr w0 w' gw (bs++uG (pz c))/\xY w w':=by
 obtain⟨view,inst,seq,ba,bn,bc,br,va,vn,vc,vs⟩:=c;have hb:=hc.b;have hv:=hc.v;obtain⟨o0,o1,o2,o3,o4,o5,o6⟩:=ho;simp only[pz] at o0 o1 o2 o3 o4 o5 o6;have lb:=hb.len;have lv:=hv.len;simp only at lb lv;obtain⟨HB,HV,LB,LV,O3,O4⟩:=j6 hb.row hv.row lb lv o3 o4;have E:Hid (((bs++qp [view,inst,seq])++nI oK br)++nI uQ vs=bs++uG (pz ⟨view,inst,seq,ba,bn,bc,br,va,vn,vc,vs⟩)):=jj (by simp[qp,uG,pz]);have n1:=rW [view,inst,seq];simp only[aY,dK] at n1;have n2:(nI oK br).length<=6+36*256:=by
  have e1:=nK br.length;have e2:=Br br;unfold nI;rw[av];omega
 have agF:bn<=256:=lK;have ahV:vn<=256:=lK;clear hc hb hv o3 o4 o5 o6 lb lv;show Y 192 #[gw,.agg #[U view,U inst,U seq,.slice ba bn bc,.slice va vn vc]] w _;go_enter func192,ntmps192
 go_upto_region 1 with fail
 generalize hw1:w.alloc _=w1;generalize hgb:w.heap.size=gb;replace hw1:=hw1.symm;replace hgb:=hgb.symm;have hB1:=(tQ hw1).out;have AY:=xNew hw1 hgb;have W1:=jj (h.keep hB1);have K1:=jj (xY.below hB1);obtain⟨d0,d1,d2,d3,d4⟩:=AY.a5;clear hw1 hgb hB1 h
 go_wp2_with fail
 refine(Ah (W1.keep nC) w1.heap.size 3 3 [view,inst,seq] (lQ.new _ _ _) rfl (by simp only[ay,aI,bK];rintro z (rfl|rfl|rfl)<;>assumption) lK).mono ?_;rintro e w2 ⟨rfl,hw2,hk2⟩;have W2:=jj hw2;have K2:=jj ((K1.trans (xY.below nC)).trans hk2);have yM:=jj (hk2.blk (lQ.alloc AY _) lN lN);obtain⟨d0,d1,d2,d3,d4⟩:=yM.a5;clear hw2 hk2
 go_wp2_with fail
 refine(Gg W2 ba bn bc br HB LB agF O3 (by rw[av];omega)).mono ?_;rintro e w3 ⟨rfl,hw3,hk3⟩;have W3:=jj hw3;have K3:=jj (K2.trans hk3);have Sv:=jj (hk3.blk yM lN lN);obtain⟨d0,d1,d2,d3,d4⟩:=Sv.a5;clear hw3 hk3
 go_wp2_with fail
 refine(Eo W3 va vn vc vs HV LV ahV O4 (by rw[av,av];omega)).mono ?_;rintro e w4 ⟨rfl,hw4,hk4⟩;have W4:=jj hw4;have K4:=jj (K3.trans hk4);clear hw4 hk4
 go_wp2_with fail
 go_end0
 rw[E.out] at W4;exact⟨by trivial,W4,K4⟩
theorem ado(c:Ce)(h:Et c):(uG c).length<=12400:=by
 have h1:=nK c.view.toNat;have h2:=nK c.inst.toNat;have h3:=nK c.seq.toNat;have h4:=nK c.batch.length;have h5:=nK c.sw.length;have h6:=Br c.batch;have h7:=JX c.sw;have h8:=h.nb;have h9:=h.nv;simp only[uG,nI,av];omega
theorem Qc(l:List CD)(h: ∀c∈l,Et (pz c)):(l.flatMap fun c=>uG (pz c)).length<=12400*l.length:=by
 induction l with
 |nil=>simp
 |cons r l ih=>
  have e1:=ado _ (h r lT);have e2:=ih (fun c hc=>h c (by simp[hc]));simp only[bQ,av,aY] at*;omega
theorem Ph(h:Wr w0 w gw bs)(a:OA)(n c:Nat)(l:List CD)(hA:Hu w0 a n c l)(wB:n<=256)(hok: ∀r∈l,Et (pz r))(hl:bs.length+12400*n+36<=4194304):
  Y 191 #[gw,.slice a n c,.func (.func 192) #[] #[]] w fun e w'=>e= .returned (.tuple #[])/\Wr w0 w' gw (bs++nI uG (l.map pz))/\xY w w':=by
 obtain⟨H,HA,HN,HO⟩:=j4 h hA hA.len hok;have i0: ¬(256:Int)<n:=lK;clear h hA hok;go_enter func191,ntmps191
 go_wp2_with fail
 refine(Ah (H.keep nC) w.heap.size 1 1 [(n:Int)] (lQ.new _ _ _) rfl (by simp only[ay,aI,bK];rintro z rfl;exact⟨lK,lK⟩) lK).mono ?_;rintro e w2 ⟨rfl,hw2,hk2⟩;have W2:Hid (Wr w0 w2 gw (bs++mD n)):=jj (by simpa[qp] using hw2);have K2:=jj ((xY.below nC).trans hk2);clear hw2 hk2 i0
 go_wp2_with fail
 go_loopw [21] (fun i wr=> ∃k:Nat,k<=n/\i= U k/\Wr w0 wr gw ((bs++mD n)++(l.take k).flatMap fun c=>uG (pz c))/\xY w wr) (fun i _=>n -(intOf i).toNat)
 case atStart=>exact⟨0,lK,rfl,by simpa using W2.out,K2⟩
 case round=>
  obtain⟨k,hk,rfl,hw,hk2⟩:=hrel;obtain⟨wo,rfl⟩:=ex wr;have HW:=jj hw;have KK:=jj hk2;by_cases hlt:k<n
  ·have hkl:k<l.length:=by rw[HN.out];exact hlt
   have i0:(0:Int)<=k:=lK;have i1:(k:Int)<n:=lK;obtain⟨g,off,rfl,lo,hcell⟩:=HA.row.2 lK;obtain⟨r,hr⟩: ∃r,l[k]?=some r:=⟨_,aj hkl⟩;have her:l[k]=r:=by rw[aj hkl] at hr;exact dh hr
   have zj: ∀j v,j<5->(nS r)[j]?=some v->J wo g (off+k*5+j) v:=fun j v hj hv=>by
    rw[dL];exact(hw.below.cell (p:=⟨g,off+(k*5+j),none⟩) lo).trans (hcell _ _ (nT nS 5 Xv l k j hj hkl v (by rw[her];exact hv)))
   have T:Hid (((l.take (k+1)).flatMap fun c=>uG (pz c))=((l.take k).flatMap fun c=>uG (pz c))++uG (pz r)):=jj (by
    rw[bA hkl,her];simp)
   have bl:((bs++mD n)++(l.take k).flatMap fun c=>uG (pz c)).length+12400<=4194304:=by
    have e1:=Qc (l.take k) (fun c hc=>HO.out c (jv hc));have e2:=nK n;rw[av,av];rw[cO] at e1;have e3:12400*min k l.length<=12400*(n -1):=jC _ lK;omega
   have e0:IntKind.i64.wrap ((k:Int)+1)=(k:Int)+1:=aH _ lK;have ROK:=jj (HO.out r (ak hr));have RIS:=jj (HA.is r (ak hr));obtain⟨view,inst,seq,ba,bn,bc,br,va,vn,vc,vs⟩:=r;have y0:=zj 0 (U view) lK rfl;have y1:=zj 1 (U inst) lK rfl;have y2:=zj 2 (U seq) lK rfl;have y3:=zj 3 (.slice ba bn bc) lK rfl;have y4:=zj 4 (.slice va vn vc) lK rfl;rw[fA] at y0;clear hw hk2 hkl hr her zj hcell lo
   go_wp2_with fail
   refine(aeZ (HW.keep nC) _ RIS ROK bl).mono ?_;rintro e w3 ⟨rfl,hw3,hk3⟩;rw[bW,<-T.out] at hw3;have W3:=jj hw3;have K3:=jj ((KK.trans (xY.below nC)).trans hk3);clear hw3 hk3
   go_wp2_with fail
   go_roundw
   case rel=>exact⟨k+1,lK,by go_num,W3,K3⟩
   simp[intOf];omega
  have hkn:k=n:=lK;subst hkn;have E:Hid (((bs++mD k)++(l.take k).flatMap fun c=>uG (pz c))=bs++nI uG (l.map pz)):=jj (by
   rw[<-HN.out,dP,bW];simp[nI,List.flatMap_map])
  clear hw hk2
  go_wp2_with fail
  go_end0
  rw[E.out] at HW;exact⟨by trivial,HW,KK⟩
theorem Lb(h:Wr w0 w gw bs)(a:OA)(c:Nat)(hl:bs.length+36<=4194304):
  Y 193 #[gw,.slice a 0 c,.func (.func 194) #[] #[]] w fun e w'=>e= .returned (.tuple #[])/\Wr w0 w' gw (bs++mD 0)/\xY w w':=by
 have H:=jj h;clear h;go_enter func193,ntmps193
 go_wp2_with fail
 refine(Ah (H.keep nC) w.heap.size 1 1 [(0:Int)] (lQ.new _ _ _) rfl (by simp only[ay,aI,bK];rintro z rfl;exact⟨lK,lK⟩) lK).mono ?_;rintro e w2 ⟨rfl,hw2,hk2⟩;have W2:Hid (Wr w0 w2 gw (bs++mD 0)):=jj (by simpa[qp] using hw2);have K2:=jj ((xY.below nC).trans hk2);clear hw2 hk2
 go_wp2_with fail
 go_loopw [21] (fun i wr=>i= U 0/\wr=w2) (fun i _=>0)
 case atStart=>exact⟨rfl,rfl⟩
 case round=>
  obtain⟨rfl,rfl⟩:=hrel
  go_wp2_with fail
  go_end0
  exact⟨by trivial,W2,K2⟩
theorem aby(w:World)(a:OA)(n c:Nat)(l:List Rq)(hA:mo w a n 6 (l.flatMap rA))(hn:l.length=n)(wB:n<=256)(hok: ∀r∈l,xH r):
  Y 136 #[.slice a n c] w fun e w'=> ∃a' c',e= .returned (.tuple #[.slice a' (nI oK l).length c',true])/\w'.ownsRow w.heap.size 5 1 (.slice a' (nI oK l).length c') (nI oK l).length (mZ (nI oK l))/\Be w w':=by
 go_enter func136,ntmps136
 go_wp2_with fail
 refine(Gg (show Wr w _ w.heap.size [] from⟨⟨none,0,lQ.new w _ _,⟨rfl,.inl ⟨rfl,rfl⟩⟩⟩,nC,aF _⟩) a n c l hA hn wB hok (by simp;omega)).mono ?_;rintro e w3 ⟨rfl,hw3,-⟩;rw[bU] at hw3;have W3:=jj hw3;clear hw3
 go_wp2_with fail
 refine(Iq W3).mono ?_;rintro e w' ⟨a',c',rfl,ho,rfl⟩;have HO:=jj ho;clear ho
 go_wp2_with fail
 go_ret2
 exact⟨a',c',by trivial,HO,W3.below⟩
theorem abJ(w:World)(a:OA)(n c:Nat)(l:List Vo)(hA:mo w a n 2 (l.flatMap Cg))(hn:l.length=n)(wB:n<=256)(hok: ∀r∈l,Kv r):
  Y 137 #[.slice a n c] w fun e w'=> ∃a' c',e= .returned (.tuple #[.slice a' (nI uQ l).length c',true])/\w'.ownsRow w.heap.size 5 1 (.slice a' (nI uQ l).length c') (nI uQ l).length (mZ (nI uQ l))/\Be w w':=by
 go_enter func137,ntmps137
 go_wp2_with fail
 refine(Eo (show Wr w _ w.heap.size [] from⟨⟨none,0,lQ.new w _ _,⟨rfl,.inl ⟨rfl,rfl⟩⟩⟩,nC,aF _⟩) a n c l hA hn wB hok (by simp;omega)).mono ?_;rintro e w3 ⟨rfl,hw3,-⟩;rw[bU] at hw3;have W3:=jj hw3;clear hw3
 go_wp2_with fail
 refine(Iq W3).mono ?_;rintro e w' ⟨a',c',rfl,ho,rfl⟩;have HO:=jj ho;clear ho
 go_wp2_with fail
 go_ret2
 exact⟨a',c',by trivial,HO,W3.below⟩
theorem abz(w:World)(a:OA)(n c:Nat)(l:List CD)(hA:Hu w a n c l)(wB:n<=256)(hok: ∀r∈l,Et (pz r)):
  Y 138 #[.slice a n c] w fun e w'=> ∃a' c',e= .returned (.tuple #[.slice a' (nI uG (l.map pz)).length c',true])/\w'.ownsRow w.heap.size 5 1 (.slice a' (nI uG (l.map pz)).length c') (nI uG (l.map pz)).length (mZ (nI uG (l.map pz)))/\Be w w':=by
 go_enter func138,ntmps138
 go_wp2_with fail
 refine(Ph (show Wr w _ w.heap.size [] from⟨⟨none,0,lQ.new w _ _,⟨rfl,.inl ⟨rfl,rfl⟩⟩⟩,nC,aF _⟩) a n c l hA wB hok (by simp;omega)).mono ?_;rintro e w3 ⟨rfl,hw3,-⟩;rw[bU] at hw3;have W3:=jj hw3;clear hw3
 go_wp2_with fail
 refine(Iq W3).mono ?_;rintro e w' ⟨a',c',rfl,ho,rfl⟩;have HO:=jj ho;clear ho
 go_wp2_with fail
 go_ret2
 exact⟨a',c',by trivial,HO,W3.below⟩
theorem abD(w:World)(a:OA)(c:Nat):
  Y 139 #[.slice a 0 c] w fun e w'=> ∃a' c',e= .returned (.tuple #[.slice a' (mD 0).length c',true])/\w'.ownsRow w.heap.size 5 1 (.slice a' (mD 0).length c') (mD 0).length (mZ (mD 0))/\Be w w':=by
 go_enter func139,ntmps139
 go_wp2_with fail
 refine(Lb (show Wr w _ w.heap.size [] from⟨⟨none,0,lQ.new w _ _,⟨rfl,.inl ⟨rfl,rfl⟩⟩⟩,nC,aF _⟩) a c lT).mono ?_;rintro e w3 ⟨rfl,hw3,-⟩;rw[bU] at hw3;have W3:=jj hw3;clear hw3
 go_wp2_with fail
 refine(Iq W3).mono ?_;rintro e w' ⟨a',c',rfl,ho,rfl⟩;have HO:=jj ho;clear ho
 go_wp2_with fail
 go_ret2
 exact⟨a',c',by trivial,HO,W3.below⟩
structure MD where
 kind:Int
 sender:Int
 view:Int
 inst:Int
 seq:Int
 res:Int
 ba:Option Addr
 bn:Nat
 bc:Nat
 bs:List Rq
 va:Option Addr
 vn:Nat
 vc:Nat
 vs:List Vo
 ca:Option Addr
 cn:Nat
 cc:Nat
 cs:List CD
 pa:Option Addr
 pc:Nat
def oM(m:MD):List Value:= [U m.kind,U m.sender,U m.view,U m.inst,U m.seq,U m.res,.slice m.ba m.bn m.bc,.slice m.va m.vn m.vc,.slice m.ca m.cn m.cc,.slice m.pa 0 m.pc]
def nA(m:MD):Ms:=⟨m.kind,m.sender,m.view,m.inst,m.seq,m.res,m.bs,m.vs,m.cs.map pz⟩
structure MD.Is(w:World)(m:MD):Prop where
 b:qc w m.ba m.bn m.bc m.bs
 v:uz w m.va m.vn m.vc m.vs
 c:Hu w m.ca m.cn m.cc m.cs
theorem Hu.below'{cs:List CD}(h:Hu w a n c cs)(hb:Be w w'):Hu w' a n c cs:=⟨h.row.below hb,h.len,h.cap,h.max,fun c hc=>(h.is c hc).below hb⟩
theorem MD.Is.below{m:MD}(h:m.Is w)(hb:Be w w'):m.Is w':=⟨h.b.below hb,h.v.below hb,h.c.below' hb⟩
structure Bd(w0 w:World)(go gg:Nat)(bs:LI):Prop where
 ex: ∃a c,lQ w go 140 #[.slice a bs.length c]/\w.ownsRow w0.heap.size 5 1 (.slice a bs.length c) bs.length (mZ bs)
 good:lQ w gg 4 #[true]
 below:Be w0 w
 ge:w0.heap.size<=go/\w0.heap.size<=gg
theorem Bd.keep{go:Nat}(h:Bd w0 w go gg bs)(hb:Be w w'):Bd w0 w' go gg bs:=by
 obtain⟨a,c,h1,h2⟩:=h.ex;exact⟨⟨a,c,h1.below hb h1.lt,own_below h2 hb⟩,h.good.below hb h.good.lt,h.below.trans (hb.mono h.below.size),h.ge⟩
structure BdK(w w':World):Prop where
 blk: ∀{k t:Nat} {cs:AV},lQ w k t cs->t≠140->t≠4->t≠5->lQ w' k t cs
 size:w.heap.size<=w'.heap.size
theorem xI{go:Nat}(h:Bd w0 w go gg bs)(A:OA)(m c:Nat)(ys:LI)(hv:mo w A m 1 (mZ ys))(hA: ∀b,A.map (·.block)=some b-> ∃cs,lQ w b 5 cs)(hm:ys.length=m)(hl:bs.length+m<=8388608):
  Y 133 #[.slice A m c,true,gg,go] w fun e w'=>e= .returned (.tuple #[])/\Bd w0 w' go gg (bs++ys)/\BdK w w':=by
 obtain⟨i0,hi0,hz0,hz1,hz2⟩:=bq wU;obtain⟨a,c0,h1,h2⟩:=h.ex;have hg:=h.good;have c1:=hg.at_ 0;have f1:=hg.frozen 0;obtain⟨w1,hw1⟩:=ex (w.setCell ⟨gg,0,none⟩ true);have o1:Only [gg] w w1:=by rw[hw1];exact(Only.refl [gg] w).setCell (.inl lT) _
 have ngo:go≠gg:=h1.nY hg lN;have g1:lQ w1 gg 4 #[true]:=by rw[hw1];exact hg.mg 0 _
 have k1:lQ w1 go 140 #[.slice a bs.length c0]:=h1.only o1 (mR ngo);have abw:w1.ownsRow w0.heap.size 5 1 (.slice a bs.length c0) bs.length (mZ bs):=mK h2 o1 (fun g hgb=>by
  have:=mG h2 hg lN;rw[hgb] at this;simpa using fun e=>this (by rw[e]))
 have b1:Be w0 w1:=o1.below h.below h.below.size (mR h.ge.2);have hv1:mo w1 A m 1 (mZ ys):=hv.only o1 (fun b hb=>by
  obtain⟨cs,hcs⟩:=hA b hb;simpa using hcs.nY hg lN)
 obtain⟨G,G1,K1,O1,V1⟩:=j5 hg g1 k1 abw hv1;have x0:=k1.at_ 0;obtain⟨HM,OO,BB,GE⟩:=j4 hm o1 b1 h.ge;have sz:=b1.size;have HW:=jj hw1;clear h h1 h2 hg g1 k1 abw hv hA hv1 hm o1 b1 hw1 ngo;go_enter func133,ntmps133
 go_upto_region 1 with fail
 rw[<-HW.out];clear c1 f1
 go_wp2_with(first|(at_builtin;refine lZ rfl _ _ _ rfl w0.heap.size 5 i0 _ 1 1 underlying140 hi0 hz0 hz1 hz2 rfl lK a bs.length c0 (mZ bs) rfl O1 A m c (mZ ys) rfl V1 (yh ys) (by unfold maxLen;omega) lK sz ?_;intro a5 c5 w5 h5;have nb: ∀k∈(a.map (·.block)).toList,k≠go:=(fun k hk e=>mG O1 K1 lN (by rw[lV,aJ.1 hk,e]));have K5:=K1.only h5.only (fun hm=>nb go hm rfl);have HK5:=jj K5;have f0:=K5.frozen 0;have y0:=(K5.cell 0).trans (show _=some (.slice a bs.length c0) from rfl);have HA5:=jj h5;clear K5 h5))
 clear f0 y0 x0 nb
 go_end0
 have e1:(bs++ys).length=bs.length+m:=by rw[av,HM.out]
 have o9:Only [go] w5 (w5.setCell ⟨go,0,none⟩ (.slice a5 (bs.length+m) c5)):=(Only.refl _ _).setCell (.inl lT) _;have b5:=HA5.below O1 BB (aF _) sz;have KM:=HA5.own;rw[<-wR] at KM;have S5:=lW O1;have G5:lQ w5 gg 4 #[true]:=G1.only HA5.only fun hm=>by
  obtain⟨_,cs2,hcs⟩:=S5 _ hm;exact G1.nY hcs lN rfl
 refine⟨by trivial,⟨⟨a5,c5,by rw[e1];exact HK5.mg 0 _,?_⟩,G5.only o9 (by simpa using(HK5.nY G5 lN).symm),o9.below b5 b5.size (mR GE.1),GE⟩,⟨fun{k t cs} hb h1 h2 h3=> ?_,aG OO.size (aG HA5.only.size o9.size)⟩⟩
 ·rw[e1]
  exact mK KM o9 (fun g hg=>by
   have:=mG KM HK5 lN;rw[hg] at this;simpa using fun e=>this (by rw[e]))
 have n1:k≠gg:=hb.nY G h2;have hb1:=hb.only OO (mR n1);have hb2:=hb1.only HA5.only fun hm=>by
  obtain⟨_,cs2,hcs⟩:=S5 _ hm;exact hb1.nY hcs h3 rfl
 exact hb2.only o9 (mR (hb2.nY HK5 h1))
def KH:List TypeId:= [49,311,5]
theorem sN{t':Nat}{cs cs':AV}(h:lQ w g t cs)(h':lQ w g t' cs'):t'=t:=by
 unfold lQ at h h';rw[h] at h';injection h' with h';injection h' with _ ht;exact ht.symm
def nV(x:Nat)(w:World)(g:Nat):Prop:=(g=x/\ ∀t cs,lQ w g t cs->t=49)\/ ∀t cs,lQ w g t cs->t∉KH
theorem nV.of{x:Nat}{t:TypeId}{cs:AV}(h:lQ w g t cs)(ht:t∉KH):nV x w g:= .inr fun t' cs' h'=>by
 unfold lQ at h h';rw[h] at h';injection h' with h';injection h' with _ ht';exact ht'▸ht
def Fixed(x:Nat)(w:World)(t:TypeId)(a:OA):Prop:= ∀b,a.map (·.block)=some b->b≠x/\ ∃cs,lQ w b t cs
section
variable{x y:Nat}{w w':World}{t:TypeId}{a:OA}{S:LN}{n c:Nat}
def Nr(w:World)(S:LN):Prop:= ∀g∈S,∀cs,¬lQ w g 228 cs
theorem Fixed.ajX(h:Fixed x w 228 a)(hS:Nr w S): ∀b,a.map (·.block)=some b->b∉S:=fun b hb hm=>by
 obtain⟨h1,cs,h2⟩:=h b hb;exact hS b hm cs h2
theorem Fixed.none(x:Nat)(w:World)(t:TypeId):Fixed x w t none:=fun b hb=>by simp at hb
theorem Fixed.far(h:Fixed x w t a)(ht:t∈KH)(hS: ∀g∈S,nV x w g): ∀b,a.map (·.block)=some b->b∉S:=fun b hb hm=>by
 obtain⟨h1,cs,h2⟩:=h b hb;rcases hS b hm with h3|h3
 ·exact h1 h3.1
 exact h3 t cs h2 ht
theorem Fixed.only(h:Fixed x w t a)(ht:t∈KH)(ho:Only S w w')(hS: ∀g∈S,nV x w g):Fixed x w' t a:=fun b hb=>by
 obtain⟨h1,cs,h2⟩:=h b hb;exact⟨h1,cs,h2.only ho (h.far ht hS b hb)⟩
theorem Fixed.below(h:Fixed x w t a)(hb:Be w w'):Fixed x w' t a:=fun b hb'=>by
 obtain⟨h1,cs,h2⟩:=h b hb';exact⟨h1,cs,h2.below hb h2.lt⟩
theorem Fixed.re(h:Fixed x w t a)(hy:w.heap.size<=y):Fixed y w t a:=fun b hb=>by
 obtain⟨h1,cs,h2⟩:=h b hb;exact⟨by have:=h2.lt;omega,cs,h2⟩
theorem Fixed.own{base:Nat}(h:w.ownsRow base t s (.slice a n c) n xs)(hx:x<base):Fixed x w t a:=fun b hb=>by
 rcases h.2 with⟨hv,_⟩|⟨g,cap,cur,hv,hbg,hh,_⟩
 ·injection hv with hv
  subst hv;simp at hb
 injection hv with hv;subst hv;simp at hb;subst hb;exact⟨lK,cur,hh⟩
theorem uO{base:Nat}(h:w.ownsRow base t s (.slice a n c) n xs):c<=maxLen:=by
 rcases h.2 with⟨hv,_⟩|⟨g,cap,cur,hv,_,_,_,hm,_⟩
 ·injection hv with _ _ hcc
  unfold maxLen;omega
 injection hv with _ _ hcc;omega
theorem mo.fix{vs:LV}(h:mo w a n s vs)(f:Fixed x w t a)(ht:t∈KH)(ho:Only S w w')(hS: ∀g∈S,nV x w g):mo w' a n s vs:=h.only ho (f.far ht hS)
structure sK(x:Nat)(w:World)(a:OA)(n c:Nat)(bs:List Rq):Prop where
 row:qc w a n c bs
 fix:Fixed x w 49 a
structure Ez(x:Nat)(w:World)(a:OA)(n c:Nat)(bs:List Vo):Prop where
 row:uz w a n c bs
 fix:Fixed x w 311 a
structure CF(x:Nat)(w:World)(c:CD):Prop where
 is:c.Is w
 b:Fixed x w 49 c.ba
 v:Fixed x w 311 c.va
structure Gz(x:Nat)(w:World)(a:OA)(n c:Nat)(cs:List CD):Prop where
 row:mo w a n 5 (cs.flatMap nS)
 len:cs.length=n
 cap:n<=c
 max:c<=maxLen
 is: ∀c∈cs,CF x w c
 fix:Fixed x w 228 a
structure MF(x:Nat)(w:World)(m:MD):Prop where
 b:sK x w m.ba m.bn m.bc m.bs
 v:Ez x w m.va m.vn m.vc m.vs
 c:Gz x w m.ca m.cn m.cc m.cs
variable{bs:List Rq}{vs:List Vo}{cd:CD}{cs:List CD}{m:MD}
theorem sK.only(h:sK x w a n c bs)(ho:Only S w w')(hS: ∀g∈S,nV x w g):sK x w' a n c bs:=⟨⟨h.row.row.fix h.fix lN ho hS,h.row.len,h.row.cap,h.row.max⟩,h.fix.only lN ho hS⟩
theorem sK.below(h:sK x w a n c bs)(hb:Be w w'):sK x w' a n c bs:=⟨h.row.below hb,h.fix.below hb⟩
theorem sK.re(h:sK x w a n c bs)(hy:w.heap.size<=y):sK y w a n c bs:=⟨h.row,h.fix.re hy⟩
theorem sK.nil(x:Nat)(w:World):sK x w none 0 0 []:=⟨qc.nil _ _ (by unfold maxLen;omega),Fixed.none _ _ _⟩
theorem sK.own{base:Nat}(h:w.ownsRow base 49 6 (.slice a n c) n (bs.flatMap rA))(hx:x<base)(hn:bs.length=n):sK x w a n c bs:=⟨⟨l9 h,hn,qB h,uO h⟩,Fixed.own h hx⟩
theorem Ez.only(h:Ez x w a n c vs)(ho:Only S w w')(hS: ∀g∈S,nV x w g):Ez x w' a n c vs:=⟨⟨h.row.row.fix h.fix lN ho hS,h.row.len,h.row.cap,h.row.max⟩,h.fix.only lN ho hS⟩
theorem Ez.below(h:Ez x w a n c vs)(hb:Be w w'):Ez x w' a n c vs:=⟨h.row.below hb,h.fix.below hb⟩
theorem Ez.nil(x:Nat)(w:World):Ez x w none 0 0 []:=⟨uz.nil _ _ (by unfold maxLen;omega),Fixed.none _ _ _⟩
theorem Ez.own{base:Nat}(h:w.ownsRow base 311 2 (.slice a n c) n (vs.flatMap Cg))(hx:x<base)(hn:vs.length=n):Ez x w a n c vs:=⟨⟨l9 h,hn,qB h,uO h⟩,Fixed.own h hx⟩
theorem CF.only(h:CF x w cd)(ho:Only S w w')(hS: ∀g∈S,nV x w g):CF x w' cd:=
 have b:=sK.only ⟨h.is.b,h.b⟩ ho hS;have v:=Ez.only ⟨h.is.v,h.v⟩ ho hS
 ⟨⟨b.row,v.row,h.is.i0,h.is.i1,h.is.i2⟩,b.fix,v.fix⟩
theorem CF.below(h:CF x w cd)(hb:Be w w'):CF x w' cd:=⟨h.is.below hb,h.b.below hb,h.v.below hb⟩
theorem CF.re(h:CF x w cd)(hy:w.heap.size<=y):CF y w cd:=⟨h.is,h.b.re hy,h.v.re hy⟩
theorem Gz.only(h:Gz x w a n c cs)(ho:Only S w w')(hS: ∀g∈S,nV x w g)(hC:Nr w S):Gz x w' a n c cs:=⟨h.row.only ho (h.fix.ajX hC),h.len,h.cap,h.max,fun c hc=>(h.is c hc).only ho hS,fun b hb=>by
 obtain⟨h1,cs,h2⟩:=h.fix b hb;exact⟨h1,cs,h2.only ho (h.fix.ajX hC b hb)⟩⟩
theorem Gz.below(h:Gz x w a n c cs)(hb:Be w w'):Gz x w' a n c cs:=⟨h.row.below hb,h.len,h.cap,h.max,fun c hc=>(h.is c hc).below hb,h.fix.below hb⟩
theorem Gz.vI(h:Gz x w a n c cs):Hu w a n c cs:=⟨h.row,h.len,h.cap,h.max,fun c hc=>(h.is c hc).is⟩
theorem Gz.nil(x:Nat)(w:World):Gz x w none 0 0 []:=⟨mo.nil _ _ _,rfl,aF _,by unfold maxLen;omega,fun c hc=>by simp at hc,Fixed.none _ _ _⟩
theorem MF.md(h:MF x w m):m.Is w:=⟨h.b.row,h.v.row,h.c.vI⟩
theorem MF.only(h:MF x w m)(ho:Only S w w')(hS: ∀g∈S,nV x w g)(hC:Nr w S):MF x w' m:=⟨h.b.only ho hS,h.v.only ho hS,h.c.only ho hS hC⟩
theorem Nr.of{cs:AV}(h:lQ w g t cs)(ht:t≠228):Nr w [g]:=fun k hk cs' h'=>by
 simp only[au] at hk;subst hk;exact h.nY h' ht rfl
theorem MF.below(h:MF x w m)(hb:Be w w'):MF x w' m:=⟨h.b.below hb,h.v.below hb,h.c.below hb⟩
end
section
open Go.ChangeShapes Go.WideShapes Go.ChangeAt Go.RowKit Go.Deep
section
variable{H:Type}{enc:TypeId×Value->H}{P:Program}{w:World}{base:Nat}{spare:Nat->Bool}{held:Bool}
end
end
section
open Go.ChangeShapes Go.WideShapes Go.ChangeAt Go.RowKit Go.Deep
section
variable{H:Type}{enc:TypeId×Value->H}{P:Program}{w:World}{base:Nat}{spare:Nat->Bool}{held:Bool}
end
end
section
open Go.RowKit Go.Proofs.Tryz Go.Maps
open Go.ChangeMaps (setBlock heap_setBlock_same)
theorem Uh:Keyed prog 185:=Keyed.of_law (deep_law_laid (by kernel_rfl) (m:=2) lK (eU (by kernel_rfl)) (by kernel_rfl) (by rw[underlying185]))
theorem kof(p:Int)(s:ByteArray)(hp:qX p)(hs:s.size<=maxLen): ∃l,keyOf prog 185 (.agg #[U p,.string s])=some l:=by
 have hf:(Value.agg #[U p,.string s]).formed prog 185=true:=by
  simp[Value.formed,underlying185]
  kernel_rfl
 have hw:(Lit.int .i64 p).wf=true:=WalkArith.wf_i64 hp;have c1:prog.cellsOf 3=1:=by kernel_rfl
 have c2:prog.cellsOf 9=1:=by kernel_rfl
 have c3:prog.cellsOf 185=2:=by kernel_rfl
 have c4:prog.keyType 185=true:=by kernel_rfl
 unfold keyOf;rw[underlying185];simp only[hf];unfold Program.keyLits;simp[underlying185];simp[c1,c2,c3,c4,Value.cells,Program.keyLits,underlying3,underlying9,hw,hs]
def kv(e:Int×List Int):Value:= .agg #[U e.1,.string (strOfNums e.2)]
structure Ns(e:Int×List Int):Prop where
 p:qX e.1
 b: ∀x∈e.2,0<=x/\x<=255
 n:e.2.length<=maxLen
theorem acd(xs:LI):(strOfNums xs).size=xs.length:=by simp[strOfNums,ByteArray.size]
theorem Jh{e:Int×List Int}(h:Ns e): ∃l,keyOf prog 185 (kv e)=some l:=kof e.1 _ h.p (by rw[acd];exact h.n)
theorem PZ: ∀(xs ys:LI),(∀x∈xs,0<=x/\x<=255)->(∀x∈ys,0<=x/\x<=255)->xs.map (fun n=>UInt8.ofNat n.toNat)=ys.map (fun n=>UInt8.ofNat n.toNat)->xs=ys
 | [],[],_,_,_=>rfl
 | [],y::ys,_,_,h=>by simp at h
 |x::xs,[],_,_,h=>by simp at h
 |x::xs,y::ys,hx,hy,h=>by
  simp only[bV,gT] at h;have h1:=hx x lT;have h2:=hy y lT;have h3:=congrArg UInt8.toNat h.1;simp only[UInt8.toNat_ofNat'] at h3;rw[dJ lK,dJ lK] at h3;have e:x=y:=lK;rw[e,PZ xs ys (fun z hz=>hx z (by simp[hz])) (fun z hz=>hy z (by simp[hz])) h.2]
theorem str_inj{xs ys:LI}(hx: ∀x∈xs,0<=x/\x<=255)(hy: ∀x∈ys,0<=x/\x<=255)(h:strOfNums xs=strOfNums ys):xs=ys:=by
 apply PZ xs ys hx hy;have:=congrArg (fun s:ByteArray=>s.data.toList) h;simpa[strOfNums] using this
theorem aaX{a b:Int×List Int}(ha:Ns a)(hb:Ns b)(h:kv a=kv b):a=b:=by
 unfold kv at h;injection h with h;have h1:Value.int .i64 a.1= U b.1/\Value.string (strOfNums a.2)= .string (strOfNums b.2):=by simpa using h
 injection h1.1 with _ e1;injection h1.2 with e2;exact Prod.ext e1 (str_inj ha.b hb.b e2)
def num(K:List (Int×List Int))(q:Int×List Int):Int:=if q∈K then(K.idxOf q:Int)+1 else 0
structure wM(w:World)(b:Nat)(K:List (Int×List Int)):Prop where
 ex: ∃es clock,w.heap[b]?=some (.map es clock)/\es.size=K.length/\(∀e∈es.toList,∃(i:Nat) (q:Int×List Int),K[i]?=some q/\e.key=kv q/\e.val= U ((i:Int)+1))/\(∀q∈K,∃e∈es.toList,e.key=kv q)
 ok: ∀q∈K,Ns q
 nd:K.Nodup
 n:K.length<=1048576
 born: ∀es clock,w.heap[b]?=some (.map es clock)->(∀e∈es.toList,e.born<clock)/\(es.toList.map (·.born)).Nodup/\(es.toList.map (·.key)).Nodup
section
variable{w w':World}{b:Nat}{K:List (Int×List Int)}{q:Int×List Int}
theorem wM.lt(h:wM w b K):b<w.heap.size:=by
 obtain⟨es,cl,hb,_⟩:=h.ex;rcases iZ b w.heap.size with hlt|hge
 ·exact hlt
 rw[gK hge] at hb;cases hb
theorem wM.only(h:wM w b K)(ho:Only S w w')(hn:b∉S):wM w' b K:=by
 obtain⟨es,cl,hb,h1,h2,h3⟩:=h.ex;exact⟨⟨es,cl,by rw[ho.block b h.lt hn];exact hb,h1,h2,h3⟩,h.ok,h.nd,h.n,fun es' cl' hb'=>h.born es' cl' (by rw[<-ho.block b h.lt hn];exact hb')⟩
theorem wM.drewN(h:wM w b K)(j:Nat):wM (w.drewN j) b K:=⟨h.ex,h.ok,h.nd,h.n,h.born⟩
theorem ahd(h:wM w b K)(hi:K[i]?=some q):K.idxOf q=i:=by
 obtain⟨hlt,rfl⟩:=ah.1 hi;exact h.nd.idxOf_getElem i hlt
theorem wM.look(h:wM w b K)(hq:Ns q):(Instr.lookup 153 (.map (some b)) (kv q) true).run prog w= .ok (.tuple #[U (num K q),(decide (q∈K))]) w:=by
 obtain⟨es,cl,hb,h1,h2,h3⟩:=h.ex;obtain⟨l,hl⟩:=Jh hq;have hes: ∀e∈es.toList,∃l,keyOf prog 185 e.key=some l:=fun e he=>by
  obtain⟨i,q',hi,hk,_⟩:=h2 e he;rw[hk];exact Jh (h.ok q' (ak hi))
 rcases Uh.find w hl es.toList hes with⟨f1,f2⟩|⟨j,e0,f1,f2,f3⟩
 ·have hn:q∉K:=fun hm=>by
   obtain⟨e,he,hk⟩:=h3 q hm;exact f2 e he hk
  rw[num,aU hn,aR hn];simp[Instr.lookup,fD underlying153,gL hb,Uh.check w _ hl,f1,Result.andThen]
 obtain⟨i,q',hi,hk,hv⟩:=h2 e0 (ak f2);have hm:=ak hi;obtain rfl:q'=q:=aaX (h.ok q' hm) hq (by rw[<-hk,f3]);rw[num,aV hm,aZ hm,ahd h hi,<-hv];simp[Instr.lookup,fD underlying153,gL hb,Uh.check w _ hl,f1,Result.andThen]
theorem wM.len(h:wM w b K)(ty:TypeId):(Builtin.len_ #[153] ty #[.map (some b)]).run prog w= .ok (U K.length) w:=by
 obtain⟨es,cl,hb,h1,h2,h3⟩:=h.ex;rw[<-h1];simp[Builtin.len_,fD underlying153,gL hb,goInt,Result.andThen]
theorem sO(w:World)(b:Nat)(o:Obj):Only [b] w (setBlock w b o):=by
 refine⟨rfl,rfl,rfl,by simp[setBlock],fun k hk hn=> ?_⟩;simp only[ay,aI,bK] at hn;simp[setBlock,dR hn]
theorem wM.put(h:wM w b K)(hq:Ns q)(hn:q∉K)(hlen:K.length<1048576): ∃w',(Instr.mapUpdate 153 (.map (some b)) (kv q) (U ((K.length:Int)+1))).run prog w= .ok () w'/\wM w' b (K++ [q])/\Only [b] w w':=by
 obtain⟨es,cl,hb,h1,h2,h3⟩:=h.ex;obtain⟨l,hl⟩:=Jh hq;have hes: ∀e∈es.toList,∃l,keyOf prog 185 e.key=some l:=fun e he=>by
  obtain⟨i,q',hi,hk,_⟩:=h2 e he;rw[hk];exact Jh (h.ok q' (ak hi))
 rcases Uh.find w hl es.toList hes with⟨f1,f2⟩|⟨j,e0,f1,f2,f3⟩
 ·refine⟨setBlock w b (.map (es.push ⟨kv q,U ((K.length:Int)+1),cl⟩) (cl+1)),?_,⟨⟨_,_,heap_setBlock_same hb _,by simp[h1],?_,?_⟩,?_,?_,by simp;omega,?_⟩,sO _ _ _⟩
  ·simp[Instr.mapUpdate,fD underlying153,gL hb,Uh.check w false hl,f1,ku _ hb,Result.andThen,setBlock]
  ·intro e he
   simp only[fK,aQ,au] at he;rcases he with he|rfl
   ·obtain⟨i,q',hi,hk,hv⟩:=h2 e he
    exact⟨i,q',by rw[bC (ah.1 hi).1];exact hi,hk,hv⟩
   exact⟨K.length,q,lT,rfl,rfl⟩
  ·intro q' hq'
   rcases aQ.1 hq' with hq'|hq'
   ·obtain⟨e,he,hk⟩:=h3 q' hq'
    exact⟨e,by simp[he],hk⟩
   simp only[au] at hq';subst hq';exact⟨_,by simp;exact .inr rfl,rfl⟩
  ·intro q' hq'
   rcases aQ.1 hq' with hq'|hq'
   ·exact h.ok q' hq'
   simp only[au] at hq';subst hq';exact hq
  ·rw[ig]
   exact⟨h.nd,lT,fun a ha b hb e=>hn (by simp at hb;rw[<-hb,<-e];exact ha)⟩
  intro es' cl' hb';rw[heap_setBlock_same hb _] at hb';obtain⟨p1,p2,p3⟩:=h.born es cl hb;injection hb' with hb';injection hb' with e1 e2;subst e1;subst e2;refine⟨fun e he=> ?_,?_,?_⟩
  ·simp only[fK,aQ,au] at he
   rcases he with he|rfl
   ·exact Nat.lt_succ_of_lt (p1 e he)
   exact Nat.lt_succ_self _
  ·rw[fK,bR,ig]
   refine⟨p2,lT,fun x hx y hy e=> ?_⟩;obtain⟨z,hz,rfl⟩:=bM.1 hx;simp only[bV,fu,au] at hy;have:=p1 z hz;omega
  rw[fK,bR,ig];refine⟨p3,lT,fun x hx y hy e=> ?_⟩;obtain⟨z,hz,rfl⟩:=bM.1 hx;simp only[bV,fu,au] at hy;exact f2 z hz (by rw[e,hy])
 obtain⟨i,q',hi,hk,hv⟩:=h2 e0 (ak f2);have hm:=ak hi;obtain rfl:q'=q:=aaX (h.ok q' hm) hq (by rw[<-hk,f3]);exact absurd hm hn
theorem Cm(h:mo w a n 1 (mZ bs)):(convert 140 9 (.slice a n c)).run prog w= .ok (.string (strOfNums bs)) w:=by
 have hl:bs.length=n:=by have:=h.1;simpa[mZ] using this
 subst hl;by_cases h0:bs.length=0
 ·obtain rfl:bs= []:=dA h0
  cases a with
  |none=>exact run_convert_bytes_nil w _ _ underlying140 underlying5 _ _ _ underlying9
  |some p=>
   rw[run_convert_bytes_string w _ _ _ _ _ _ underlying140 underlying5 underlying9];have hz:(loadCells p 0).run prog w= .ok #[] w:=by simpa using jG (P:=prog) w p [] lT
   exact run_bytesToString w p 0 c [] hz
 obtain⟨b,off,rfl,hlt,hc⟩:=h.2 lK;exact run_convert_bytes_arg w _ _ underlying140 underlying5 b off bs.length c bs rfl (fun i hi=>by
  rw[hc i (.int .u8 (bs[i]'hi)) (by simp[mZ,hi])];simp[List.getD,hi]) _ underlying9
end
end
section
open Go.RowKit Go.Proofs.Tryz Go.Maps
structure vC(w:World)(n b:Nat)(K:List (Int×List Int)):Prop where
 obj:lQ w n 155 #[.map (some b)]
 map:wM w b K
section
variable{w w':World}{n b:Nat}{K:List (Int×List Int)}
theorem vC.ne(h:vC w n b K):n≠b:=by
 rintro rfl;obtain⟨es,cl,hb,_⟩:=h.map.ex;have:=h.obj;unfold lQ at this;rw[this] at hb;cases hb
theorem vC.far{cs:AV}(h:vC w n b K)(hg:lQ w g t cs):b≠g:=by
 rintro rfl;obtain⟨es,cl,hb,_⟩:=h.map.ex;unfold lQ at hg;rw[hg] at hb;cases hb
theorem vC.only(h:vC w n b K)(ho:Only S w w')(h1:n∉S)(h2:b∉S):vC w' n b K:=⟨h.obj.only ho h1,h.map.only ho h2⟩
theorem vC.below(h:vC w n b K)(hb:Be w w'):vC w' n b K:=h.only (Only.of_below (S:= []) hb) lT lT
theorem vC.drewN(h:vC w n b K)(j:Nat):vC (w.drewN j) n b K:=⟨h.obj.drewN j,h.map.drewN j⟩
end
theorem abg(w:World):Y 42 #[] w fun e w'=> ∃n b,e= .returned (n:Nat)/\vC w' n b []/\w.heap.size<=n/\w.heap.size<=b/\Be w w':=by
 have hmm:= @run_makeMap prog;go_enter func42,ntmps42
 go_wp2
 go_ret;have hb:Be w (w.alloc (.map #[] 0)):=nC;refine⟨(w.alloc (.map #[] 0)).heap.size,w.heap.size,lT,⟨lQ.new _ _ _,⟨⟨#[],0,?_,rfl,lT,lT⟩,lT,lT,lT,?_⟩⟩,lT,aF _,hb.alloc hb.size _⟩
 ·rw[Below.heap_alloc _ _ _ lT]
  exact jI w _
 intro es' cl' hb';rw[Below.heap_alloc _ _ _ lT] at hb';have e:=(jI w (.map #[] 0)).symm.trans hb';injection e with e;injection e with e1 e2;subst e1;simp
theorem Ow(n b:Nat)(K:List (Int×List Int))(p:Int)(a:OA)(m c:Nat)(bs:LI)(w:World)(h:vC w n b K)(hv:mo w a m 1 (mZ bs))(hq:Ns (p,bs))(x:Int)(hx:num K (p,bs)=x)(is:Bool)(his:decide ((p,bs)∈K)=is):
  Y 195 #[n,U p,.slice a m c] w fun e w'=>e= .returned (.tuple #[U x,is])/\ ∃j,w'=w.drewN j:=by
 subst hx;subst his;have c0:=h.obj.at_ 0;obtain⟨s,hs⟩:=ex (strOfNums bs);have f1: ∀j,(convert 140 9 (.slice a m c)).run prog (w.drewN j)= .ok (.string s) (w.drewN j):=fun j=>by rw[hs];exact Cm (w:=w.drewN j) hv
 have f2: ∀j,(Instr.lookup 153 (.map (some b)) (.agg #[U p,.string s]) true).run prog (w.drewN j)= .ok (.tuple #[U (num K (p,bs)),(decide ((p,bs)∈K))]) (w.drewN j):=fun j=>by
  have e:=(h.map.drewN j).look hq;rw[show kv (p,bs)= .agg #[U p,.string s] by rw[hs];rfl] at e;exact e
 clear h hv hs;go_enter func195,ntmps195
 go_wp2_with fail
 go_quiet(fail)
 go_wp2_with fail
 go_ret2
 exact⟨rfl,_,rfl⟩
theorem Jo(n b:Nat)(K:List (Int×List Int))(p:Int)(a:OA)(m c:Nat)(bs:LI)(k:Int)(w:World)(h:vC w n b K)(hv:mo w a m 1 (mZ bs))(hq:Ns (p,bs))(r:Bool)(hr:(decide ((p,bs)∈K)&&decide (num K (p,bs)=k))=r):
  Y 156 #[n,U p,.slice a m c,U k] w fun e w'=>e= .returned r/\ ∃j,w'=w.drewN j:=by
 obtain⟨H,HV,HQ⟩:=j3 h hv hq;obtain⟨x,hx⟩: ∃x,num K (p,bs)=x:=⟨_,rfl⟩;rw[hx] at hr;have HX:=jj hx;clear h hv hq hx;by_cases hm:(p,bs)∈K
 ·have HM:=jj (aZ hm)
  rw[aZ hm,iw] at hr;clear hm;by_cases hk:x=k
  ·subst hk
   obtain rfl:true=r:=by rw[<-hr];simp
   clear hr;go_enter func156,ntmps156
   go_wp2_with fail
   refine(Ow n b K p a m c bs _ H HV HQ x HX true HM).mono ?_;rintro e w' ⟨rfl,j,rfl⟩
   go_wp2_with fail
   go_ret;exact⟨rfl,j,rfl⟩
  obtain rfl:false=r:=by rw[<-hr];simp[hk]
  clear hr;have hk1:(x==k)=false:=by simp[hk]
  go_enter func156,ntmps156
  go_wp2_with fail
  refine(Ow n b K p a m c bs _ H HV HQ x HX true HM).mono ?_;rintro e w' ⟨rfl,j,rfl⟩
  go_wp2_with fail
  go_ret;exact⟨rfl,j,rfl⟩
 have HM:=jj (aR hm);rw[aR hm,kN] at hr;subst hr;clear hm;go_enter func156,ntmps156
 go_wp2_with fail
 refine(Ow n b K p a m c bs _ H HV HQ x HX false HM).mono ?_;rintro e w' ⟨rfl,j,rfl⟩
 go_wp2_with fail
 go_ret;exact⟨rfl,j,rfl⟩
end
structure ni where
 foot:List Nat
 P:Nat->World->Prop
structure ni.Good(c:ni):Prop where
 only: ∀{x:Nat} {w w':World} {S:LN},c.P x w->Only S w w'->(∀g∈S,nV x w g)->Nr w S->(∀k∈c.foot,k∉S)->c.P x w'
 re: ∀{x y:Nat} {w:World},c.P x w->w.heap.size<=y->c.P y w
 mv: ∀{x y:Nat} {w w':World},c.P x w->c.P x w'->w.heap.size<=y->c.P y w'
 lt: ∀{x:Nat} {w:World},c.P x w-> ∀k∈c.foot,k<w.heap.size
 soft: ∀{x:Nat} {w:World},c.P x w-> ∀k∈c.foot,nV x w k
 noC: ∀{x:Nat} {w:World},c.P x w->Nr w c.foot
def nE(L:List ni):List Nat:=L.flatMap ni.foot
def Apart(a b:ni):Prop:= ∀k∈a.foot,k∉b.foot
structure Sys(x:Nat)(w:World)(L:List ni):Prop where
 good: ∀c∈L,c.Good
 at_: ∀c∈L,c.P x w
 sep:L.Pairwise Apart
structure Step(x:Nat)(w w':World)(L L':List ni):Prop where
 sys:Sys x w' L'
 only:Only (nE L) w w'
 new: ∀k∈nE L',k∈nE L\/w.heap.size<=k
section
variable{x y:Nat}{w w' w'':World}{L L' L'':List ni}{c c':ni}{S:LN}
theorem Apart.symm{a b:ni}(h:Apart a b):Apart b a:=fun k hb ha=>h k ha hb
theorem Sys.get(h:Sys x w L)(hj:L[j]?=some c):c.P x w:=h.at_ c (ak hj)
theorem Sys.apart(h:Sys x w L){a b:ni}(hi:L[i]?=some a)(hj:L[j]?=some b)(hne:i≠j):Apart a b:=by
 obtain⟨h1,e1⟩:=ah.1 hi;obtain⟨h2,e2⟩:=ah.1 hj;rcases Nat.lt_or_gt_of_ne hne with hlt|hlt
 ·have:=eO.1 h.sep i j h1 h2 hlt
  rwa [e1,e2] at this
 have:=eO.1 h.sep j i h2 h1 hlt;rw[e1,e2] at this;exact this.symm
theorem pY(hj:L[j]?=some c)(hk:k∈c.foot):k∈nE L:=bg.2 ⟨c,ak hj,hk⟩
theorem Sys.lt(h:Sys x w L): ∀k∈nE L,k<w.heap.size:=fun k hk=>by
 obtain⟨c,hc,hk⟩:=bg.1 hk;exact(h.good c hc).lt (h.at_ c hc) k hk
theorem Sys.soft(h:Sys x w L): ∀k∈nE L,nV x w k:=fun k hk=>by
 obtain⟨c,hc,hk⟩:=bg.1 hk;exact(h.good c hc).soft (h.at_ c hc) k hk
theorem Sys.noC(h:Sys x w L):Nr w (nE L):=fun k hk=>by
 obtain⟨c,hc,hk⟩:=bg.1 hk;exact(h.good c hc).noC (h.at_ c hc) k hk
theorem Sys.only(h:Sys x w L)(ho:Only S w w')(hS: ∀g∈S,nV x w g)(hC:Nr w S)(hn: ∀k∈nE L,k∉S):Sys x w' L:=
 ⟨h.good,fun c hc=>(h.good c hc).only (h.at_ c hc) ho hS hC fun k hk=>hn k (bg.2 ⟨c,hc,hk⟩),h.sep⟩
theorem Nr.nil(w:World):Nr w []:=fun g hg=>by simp at hg
theorem Sys.below(h:Sys x w L)(hb:Be w w'):Sys x w' L:=h.only (Only.of_below (S:= []) hb) lT (Nr.nil _) lT
theorem Sys.re(h:Sys x w L)(hy:w.heap.size<=y):Sys y w L:=⟨h.good,fun c hc=>(h.good c hc).re (h.at_ c hc) hy,h.sep⟩
theorem Sys.mv(h:Sys x w L)(h':Sys x w' L)(hy:w.heap.size<=y):Sys y w' L:=⟨h.good,fun c hc=>(h.good c hc).mv (h.at_ c hc) (h'.at_ c hc) hy,h.sep⟩
theorem zO{α:Type}{R:α->α->Prop}{M:List α}(h: ∀(p q:Nat) (c d:α),p≠q->M[p]?=some c->M[q]?=some d->R c d):M.Pairwise R:=
 eO.2 fun i j hi hj hlt=>h i j _ _ lK (aj hi) (aj hj)
theorem Sys.turn(h:Sys x w L)(hj:L[j]?=some c)(ho:Only S w w')(hS: ∀k∈S,k∈c.foot\/w.heap.size<=k)(hP:c'.P x w')(hg:c'.Good)(hf: ∀k∈c'.foot,k∈c.foot\/w.heap.size<=k):Step x w w' L (L.set j c'):=by
 have ho:Only c.foot w w':=ho.mono hS;have hcm:=ak hj;have Dp:=(h.good c hcm).soft (h.at_ c hcm);have adM:=(h.good c hcm).noC (h.at_ c hcm);have key: ∀i b,i≠j->L[i]?=some b->b.P x w':=fun i b hi hb=>(h.good b (ak hb)).only (h.at_ b (ak hb)) ho Dp adM (h.apart hb hj hi);have hjl:j<L.length:=(ah.1 hj).1;refine⟨⟨fun b hb=> ?_,fun b hb=> ?_,zO fun p q b d hpq hb hd=> ?_⟩,ho.mono fun k hk=> .inl (pY hj hk),fun k hk=> ?_⟩
 ·rcases cB hb with hb|rfl
  ·exact h.good b hb
  exact hg
 ·obtain⟨i,hi⟩:=bT.1 hb
  by_cases e:i=j
  ·subst e
   rw[aL hjl] at hi;injection hi with hi;exact hi▸hP
  rw[aX (dR e)] at hi;exact key i b e hi
 ·have far: ∀i b,i≠j->L[i]?=some b->Apart c' b:=fun i b hi hb k hk hm=>by
   rcases hf k hk with hk|hk
   ·exact h.apart hj hb (dR hi) k hk hm
   have:=(h.good b (ak hb)).lt (h.at_ b (ak hb)) k hm;omega
  by_cases e:p=j
  ·subst e
   rw[aL hjl] at hb;rw[aX hpq] at hd;injection hb with hb;exact hb▸far q d (dR hpq) hd
  rw[aX (dR e)] at hb;by_cases e':q=j
  ·subst e'
   rw[aL hjl] at hd;injection hd with hd;exact hd▸(far p b e hb).symm
  rw[aX (dR e')] at hd;exact h.apart hb hd hpq
 obtain⟨b,hb,hk'⟩:=bg.1 hk;rcases cB hb with hb|rfl
 ·exact .inl (bg.2 ⟨b,hb,hk'⟩)
 exact(hf k hk').imp (pY hj) id
theorem Step.refl(h:Sys x w L):Step x w w L L:=⟨h,Only.refl _ _,fun k hk=> .inl hk⟩
theorem Step.trans(h:Step x w w' L L')(k:Step x w' w'' L' L''):Step x w w'' L L'':=
 ⟨k.sys,h.only.then k.only h.new,fun b hb=>by
  rcases k.new b hb with hb|hb
  ·exact h.new b hb
  exact .inr (aG h.only.size hb)⟩
theorem Step.below(h:Step x w w' L L')(hb:Be w' w''):Step x w w'' L L':=⟨h.sys.below hb,h.only.belows hb,h.new⟩
theorem Sys.step(h:Sys x w L)(hb:Be w w'):Step x w w' L L:=(Step.refl h).below hb
theorem Step.turn(h:Step x w w' L L')(hj:L'[j]?=some c)(ho:Only S w' w'')(hS: ∀k∈S,k∈c.foot\/w'.heap.size<=k)(hP:c'.P x w'')(hg:c'.Good)(hf: ∀k∈c'.foot,k∈c.foot\/w'.heap.size<=k):Step x w w'' L (L'.set j c'):=
 h.trans (h.sys.turn hj ho hS hP hg hf)
theorem Sys.add(h:Sys x w L)(hP:c.P x w)(hg:c.Good)(hf: ∀k∈c.foot,k∉nE L):Sys x w (L++ [c]):=
 ⟨fun b hb=>by
  rcases aQ.1 hb with hb|hb
  ·exact h.good b hb
  ·rw[au] at hb
   exact hb▸hg,fun b hb=>by
  rcases aQ.1 hb with hb|hb
  ·exact h.at_ b hb
  ·rw[au] at hb
   exact hb▸hP,kP.2 ⟨h.sep,List.pairwise_singleton _ _,fun a ha b hb k hk hm=>by
  rw[au] at hb;subst hb;exact hf k hm (bg.2 ⟨a,ha,hk⟩)⟩⟩
theorem Sys.nil(x:Nat)(w:World):Sys x w []:=⟨lT,lT,iE⟩
theorem Sys.split{M:List ni}(h:Sys x w (L++M)):Sys x w L/\Sys x w M/\ ∀b∈nE L,b∉nE M:=by
 obtain⟨h1,h2,h3⟩:=kP.1 h.sep;refine⟨⟨fun b hb=>h.good b (bL _ hb),fun b hb=>h.at_ b (bL _ hb),h1⟩,⟨fun b hb=>h.good b (bH _ hb),fun b hb=>h.at_ b (bH _ hb),h2⟩,fun k hk hm=> ?_⟩;obtain⟨a,ha,hk⟩:=bg.1 hk;obtain⟨b,hb,hm⟩:=bg.1 hm;exact h3 a ha b hb k hk hm
theorem zU(L M:List ni):nE (L++M)=nE L++nE M:=by simp[nE]
def uM(L:List ni):ni:=⟨nE L,fun x w=>Sys x w L⟩
theorem BD(h: ∀c∈L,c.Good):(uM L).Good:=
 ⟨fun h ho hS hC hn=>Sys.only h ho hS hC hn,fun h hy=>Sys.re h hy,fun h h' hy=>Sys.mv h h' hy,fun h=>Sys.lt h,fun h=>Sys.soft h,fun h=>Sys.noC h⟩
theorem Sys.two(h:Sys x w L){a b:ni}(hi:L[i]?=some a)(hj:L[j]?=some b)(hne:i≠j):Sys x w [a,b]:=
 ⟨fun c hc=>by
  simp only[ay,aI,bK] at hc;rcases hc with rfl|rfl
  ·exact h.good _ (ak hi)
  ·exact h.good _ (ak hj),fun c hc=>by
  simp only[ay,aI,bK] at hc;rcases hc with rfl|rfl
  ·exact h.get hi
  ·exact h.get hj,by
  simp only[eu,au,forall_eq,aI,kY,lF,iE,iY];exact h.apart hi hj hne⟩
theorem Df(a b:ni):nE [a,b]=a.foot++b.foot:=by simp[nE]
theorem Sys.aav(h:Sys x w L){a b a' b':ni}(hi:L[i]?=some a)(hj:L[j]?=some b)(hne:i≠j)(s:Step x w w' [a,b] [a',b']):Step x w w' L ((L.set i a').set j b'):=by
 have hil:i<L.length:=(ah.1 hi).1;have hjl:j<L.length:=(ah.1 hj).1;have ho:=s.only;rw[Df] at ho;have sab:=(h.two hi hj hne);have Dp:=sab.soft;have adM:=sab.noC;rw[Df] at Dp adM;have new:=s.new;simp only[Df,aQ] at new;have key: ∀k c,k≠i->k≠j->L[k]?=some c->c.P x w':=fun k c h1 h2 hc=>(h.good c (ak hc)).only (h.get hc) ho Dp adM fun b hb hm=>by
  rcases aQ.1 hm with hm|hm
  ·exact h.apart hc hi h1 b hb hm
  exact h.apart hc hj h2 b hb hm
 have far: ∀k c,k≠i->k≠j->L[k]?=some c->Apart a' c/\Apart b' c:=fun k c h1 h2 hc=>by
  have hold: ∀q,(q∈a.foot\/q∈b.foot)\/w.heap.size<=q->q∉c.foot:=fun q hq hm=>by
   rcases hq with(hq|hq)|hq
   ·exact h.apart hi hc (dR h1) q hq hm
   ·exact h.apart hj hc (dR h2) q hq hm
   have:=(h.good c (ak hc)).lt (h.get hc) q hm;omega
  exact⟨fun q hq=>hold q (new q (.inl hq)),fun q hq=>hold q (new q (.inr hq))⟩
 have ab:Apart a' b':=by
  have:=eu.1 s.sys.sep;exact this.1 b' lT
 have at_: ∀k c,((L.set i a').set j b')[k]?=some c->(k=j/\c=b')\/(k=i/\c=a')\/(k≠i/\k≠j/\L[k]?=some c):=fun k c hk=>by
  by_cases e:k=j
  ·subst e
   rw[aL (mR hjl)] at hk;injection hk with hk;exact .inl ⟨rfl,hk.symm⟩
  rw[aX (dR e)] at hk;by_cases e':k=i
  ·subst e'
   rw[aL hil] at hk;injection hk with hk;exact .inr (.inl ⟨rfl,hk.symm⟩)
  rw[aX (dR e')] at hk;exact .inr (.inr ⟨e',e,hk⟩)
 refine⟨⟨fun c hc=> ?_,fun c hc=> ?_,zO fun p q c d hpq hc hd=> ?_⟩,s.only.mono fun k hk=> ?_,?_⟩
 ·obtain⟨k,hk⟩:=bT.1 hc
  rcases at_ k c hk with⟨_,rfl⟩|⟨_,rfl⟩|⟨_,_,hk⟩
  ·exact s.sys.good _ lT
  ·exact s.sys.good _ lT
  exact h.good c (ak hk)
 ·obtain⟨k,hk⟩:=bT.1 hc
  rcases at_ k c hk with⟨_,rfl⟩|⟨_,rfl⟩|⟨h1,h2,hk⟩
  ·exact s.sys.at_ _ lT
  ·exact s.sys.at_ _ lT
  exact key k c h1 h2 hk
 ·rcases at_ p c hc with⟨hp,rfl⟩|⟨hp,rfl⟩|⟨h1,h2,hc'⟩<;>rcases at_ q d hd with⟨hq,rfl⟩|⟨hq,rfl⟩|⟨h3,h4,hd'⟩
  ·omega
  ·exact ab.symm
  ·exact(far q d h3 h4 hd').2
  ·exact ab
  ·omega
  ·exact(far q d h3 h4 hd').1
  ·exact(far p c h1 h2 hc').2.symm
  ·exact(far p c h1 h2 hc').1.symm
  exact h.apart hc' hd' hpq
 ·rw[Df] at hk
  exact .inl ((aQ.1 hk).elim (pY hi) (pY hj))
 intro k hk;obtain⟨c,hc,hk'⟩:=bg.1 hk;have fin:(k∈a.foot\/k∈b.foot)\/w.heap.size<=k->k∈nE L\/w.heap.size<=k:=fun h'=>by
  rcases h' with(h'|h')|h'
  ·exact .inl (pY hi h')
  ·exact .inl (pY hj h')
  exact .inr h'
 rcases cB hc with hc|rfl
 ·rcases cB hc with hc|rfl
  ·exact .inl (bg.2 ⟨c,hc,hk'⟩)
  exact fin (new k (.inl hk'))
 exact fin (new k (.inr hk'))
structure sV(L:List ni)(w:World)(g:Nat)(t:TypeId)(cs:AV):Prop where
 blk:lQ w g t cs
 far:g∉nE L
theorem sV.new{t:TypeId}{cs:AV}(h:Sys x w L)(hB:lQ w' g t cs)(hg:w.heap.size<=g):sV L w' g t cs:=⟨hB,fun hm=>by have:=h.lt g hm;omega⟩
theorem sV.step{t:TypeId}{cs:AV}(h:sV L w g t cs)(st:Step x w w' L L'):sV L' w' g t cs:=⟨h.blk.only st.only h.far,fun hm=>(st.new g hm).elim h.far fun h'=>by have:=h.blk.lt;omega⟩
theorem sV.below{t:TypeId}{cs:AV}(h:sV L w g t cs)(hb:Be w w'):sV L w' g t cs:=⟨h.blk.below hb h.blk.lt,h.far⟩
theorem sV.drew{t:TypeId}{cs:AV}(h:sV L w g t cs):sV L w.drew g t cs:=⟨h.blk.drew,h.far⟩
theorem abx{base c:Nat}{t:TypeId}(h:w.ownsRow base t s (.slice a n c) n xs)(hb:x<base)(ht:t∈KH)(hs:Sys x w L)(st:Step x w w' L L'):w'.ownsRow base t s (.slice a n c) n xs:=
 mK h st.only fun g hg hm=>(Fixed.own h hb).far ht hs.soft g (by rw[<-lV];exact hg) hm
structure PO(L:List ni)(w:World)(base:Nat)(t:TypeId)(s n:Nat)(v:Value)(xs:LV):Prop where
 own:w.ownsRow base t s v n xs
 far: ∀g,v.ownBlock=some g->g∉nE L
theorem PO.step{base:Nat}{t:TypeId}(h:PO L w base t s n v xs)(st:Step x w w' L L'):PO L' w' base t s n v xs:=
 ⟨mK h.own st.only h.far,fun g hg hm=>(st.new g hm).elim (h.far g hg) fun h'=>by have:=(dG h.own g hg).2;omega⟩
theorem PO.below{base:Nat}{t:TypeId}(h:PO L w base t s n v xs)(hb:Be w w'):PO L w' base t s n v xs:=⟨own_below h.own hb,h.far⟩
theorem Step.size(st:Step x w w' L L'):w.heap.size<=w'.heap.size:=st.only.size
end
abbrev Xk:=Option (Int×List Rq)
def ny(b:List Rq):List Xk->Nat->Nat->List Vo
 | [],_,_=> []
 |none::l,k,q=>ny b l (k+1) q
 |some (s,c)::l,k,q=>if c=b/\0<q then((k:Int),s)::ny b l (k+1) (q -1) else ny b l (k+1) q
def qx(q:Nat)(l:List Xk)(b:List Rq):Option (List Vo):=if(ny b l 0 q).length=q then some (ny b l 0 q) else none
def mQ(q:Nat)(l:List Xk):List Xk->Option (List Rq×List Vo)
 | []=>none
 |none::r=>mQ q l r
 |some (_,b)::r=>match qx q l b with
  |some vs=>some (b,vs)
  |none=>mQ q l r
structure rC where
 has:Bool
 sg:Int
 ba:Option Addr
 bn:Nat
 bc:Nat
 bs:List Rq
deriving Inhabited
def Ki(v:rC):List Value:= [v.has,U v.sg,.slice v.ba v.bn v.bc]
theorem BI(v:rC):(Ki v).length=3:=rfl
def rC.val(v:rC):Xk:=if v.has then some (v.sg,v.bs) else none
def rC.Is(x:Nat)(w:World)(v:rC):Prop:=sK x w v.ba v.bn v.bc v.bs
structure CQ where
 has:Bool
 ba:Option Addr
 bn:Nat
 bc:Nat
 bs:List Rq
 gp:Nat
 pr:List rC
 gc:Nat
 co:List rC
deriving Inhabited
def WA(f:Int)(n:Nat)(s:CQ):Array Value:=#[U f,s.has,.slice s.ba s.bn s.bc,O s.gp n n,O s.gc n n]
structure mM(x:Nat)(w:World)(f:Int)(n:Nat)(g:Nat)(s:CQ):Prop where
 blk:lQ w g 271 (WA f n s)
 bp:lQ w s.gp 408 (s.pr.flatMap Ki).toArray
 bc:lQ w s.gc 408 (s.co.flatMap Ki).toArray
 np:s.pr.length=n
 nc:s.co.length=n
 ne:s.gp≠s.gc
 b:sK x w s.ba s.bn s.bc s.bs
 ps: ∀v∈s.pr,v.Is x w
 cs: ∀v∈s.co,v.Is x w
section
variable{x y:Nat}{w w':World}{f:Int}{n g:Nat}{s:CQ}{S:LN}
def CQ.foot(g:Nat)(s:CQ):List Nat:= [g,s.gp,s.gc]
theorem rC.Is.only{v:rC}(h:v.Is x w)(ho:Only S w w')(hS: ∀g∈S,nV x w g):v.Is x w':=sK.only h ho hS
theorem rC.Is.below{v:rC}(h:v.Is x w)(hb:Be w w'):v.Is x w':=sK.below h hb
theorem rC.Is.re{v:rC}(h:v.Is x w)(hy:w.heap.size<=y):v.Is y w:=sK.re h hy
theorem mM.only(h:mM x w f n g s)(ho:Only S w w')(hS: ∀g∈S,nV x w g)(hn: ∀k∈s.foot g,k∉S):mM x w' f n g s:=
 ⟨h.blk.only ho (hn _ (by simp[CQ.foot])),h.bp.only ho (hn _ (by simp[CQ.foot])),h.bc.only ho (hn _ (by simp[CQ.foot])),h.np,h.nc,h.ne,h.b.only ho hS,fun v hv=>(h.ps v hv).only ho hS,fun v hv=>(h.cs v hv).only ho hS⟩
theorem mM.below(h:mM x w f n g s)(hb:Be w w'):mM x w' f n g s:=
 ⟨h.blk.below hb h.blk.lt,h.bp.below hb h.bp.lt,h.bc.below hb h.bc.lt,h.np,h.nc,h.ne,h.b.below hb,fun v hv=>(h.ps v hv).below hb,fun v hv=>(h.cs v hv).below hb⟩
theorem mM.re(h:mM x w f n g s)(hy:w.heap.size<=y):mM y w f n g s:=
 ⟨h.blk,h.bp,h.bc,h.np,h.nc,h.ne,h.b.re hy,fun v hv=>(h.ps v hv).re hy,fun v hv=>(h.cs v hv).re hy⟩
theorem mM.soft(h:mM x w f n g s): ∀k∈s.foot g,nV x w k:=by
 intro k hk;simp only[CQ.foot,ay,aI,bK] at hk;rcases hk with rfl|rfl|rfl
 ·exact nV.of h.blk lN
 ·exact nV.of h.bp lN
 exact nV.of h.bc lN
theorem mM.lt(h:mM x w f n g s): ∀k∈s.foot g,k<w.heap.size:=by
 intro k hk;simp only[CQ.foot,ay,aI,bK] at hk;rcases hk with rfl|rfl|rfl
 ·exact h.blk.lt
 ·exact h.bp.lt
 exact h.bc.lt
theorem mM.gne(h:mM x w f n g s):g≠s.gp/\g≠s.gc:=⟨h.blk.nY h.bp lN,h.blk.nY h.bc lN⟩
end
structure Rd(w0 w:World)(gr:Nat)(a:OA)(m c:Nat)(bs:LI)(k:Nat):Prop where
 blk:lQ w gr 398 #[.slice a m c,U k,false]
 row:mo w0 a m 1 (mZ bs)
 len:bs.length=m
 small:m<=1048576
 below:Be w0 w
 ge:w0.heap.size<=gr
theorem Rd.keep(h:Rd w0 w gr a m c bs k)(hb:Be w w'):Rd w0 w' gr a m c bs k:=
 ⟨h.blk.below hb h.blk.lt,h.row,h.len,h.small,h.below.trans (hb.mono h.below.size),h.ge⟩
theorem Rd.next(h:Rd w0 w gr a m c bs k)(j:Nat)(hw:w'=w.drew.setCell ⟨gr,1,none⟩ (U j)):Rd w0 w' gr a m c bs j/\Only [gr] w w':=by
 have o:Only [gr] w w':=by rw[hw];exact((Only.refl [gr] w).drewN 1).setCell (.inl lT) _
 exact⟨⟨by rw[hw];exact(h.blk.drew).mg 1 _,h.row,h.len,h.small,o.below h.below h.below.size (mR h.ge),h.ge⟩,o⟩
theorem ug(h:Rd w0 w gr a m c bs k)(n:Nat)(hn:n<1099511627776)(hat:At bs k (mD n)):
  Y 274 #[gr] w fun e w'=>e= .returned (U n)/\Rd w0 w' gr a m c bs (k+(mD n).length)/\Only [gr] w w':=by
 obtain⟨c0,c1,c2⟩:=h.blk.a3;have f1:w.drew.frozen? ⟨gr,1,none⟩=false:=h.blk.frozen 1;have d1:J w.drew gr 1 (U k):=c1;have d0:J w.drew gr 0 (.slice a m c):=c0;have H:=jj h;have HAT:=jj hat;obtain⟨j,hj⟩:=ex (k+(mD n).length);rw[<-hj];have HJ:=jj hj;clear h hat hj;go_enter func274,ntmps274
 go_upto_region 3 with fail
 refine rP (fun w'=>J w' gr 0 (.slice a m c)/\J w' gr 1 (U k)) 16 (tk 0 8 (.one 8 (tk 9 7 .done))) ⟨d0,d1⟩ ?_;intro hS0
 repeat refine' tT ?_
 refine pO fun KT lS=> ?_;go_simp;refine(AL a m c bs k n hn H.len H.small _ (H.row.below (H.below.drew)) HAT).mono ?_;rintro e w' ⟨rfl,rfl⟩;rw[<-HJ.out];refine oH lS hS0 ?_
 repeat refine' tT ?_
 refine lM ?_;clear hS0 c0 c1 c2 d0 hn
 go_wp2_with fail
 go_ret;obtain⟨r1,r2⟩:=H.next j rfl;exact⟨by trivial,r1,r2⟩
theorem abV(h:Rd w0 w gr a m c bs k)(z:Int)(hz:wP z)(hat:At bs k (vg z)):
  Y 275 #[gr] w fun e w'=>e= .returned (U z)/\Rd w0 w' gr a m c bs (k+(vg z).length)/\Only [gr] w w':=by
 obtain⟨H,HAT,HZ⟩:=j3 h hat hz;clear h hat hz;go_enter func275,ntmps275
 go_wp2_with fail
 refine(ug H (zig z) (J9 HZ) HAT).mono ?_;rintro e w2 ⟨rfl,hr,ho⟩;have R2:=jj hr;have O2:=jj ho;clear hr ho
 go_wp2_with fail
 refine(afQ z HZ _).mono ?_;rintro e w' ⟨rfl,rfl⟩
 go_wp2_with fail
 go_ret;exact⟨by trivial,R2,O2⟩
end Go.Proofs.YtgnhecmnlddjhaaGreat
