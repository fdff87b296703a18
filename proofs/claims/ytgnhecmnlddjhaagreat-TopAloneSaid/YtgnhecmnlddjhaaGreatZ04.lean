/- TopAlone, part 5 of 24: a proof squeezed by a program. -/
import Derived.Test.YtgnhecmnlddjhaaGreatZ03
import Derived.Deep.WholeRow
set_option linter.unusedVariables false
set_option linter.unusedSimpArgs false
set_option linter.defProp false
set_option maxRecDepth 100000
set_option maxHeartbeats 6400000
namespace Go.Proofs.YtgnhecmnlddjhaaGreat
open Go.RowKit Go.Proofs.Tryz
variable{B c g gr k m t:Nat}{S:LN}{a:OA}{bs:LI}{w w' w0:World}
abbrev Kh(r:Rq):Value:= .agg (rA r).toArray
theorem ahF(w:World)(r:Rq)(hr:xH r):
  Y 146 #[Kh r] w fun e w'=> ∃a' c',e= .returned (.tuple #[.slice a' (oK r).length c',true])/\w'.ownsRow w.heap.size 5 1 (.slice a' (oK r).length c') (oK r).length (mZ (oK r))/\Be w w':=by
 obtain⟨r0,r1,r2,r3,r4,r5⟩:=r;have HR:=jj hr;clear hr;show Y 146 #[.agg #[U r0,U r1,U r2,U r3,U r4,U r5]] w _;go_enter func146,ntmps146
 go_upto_region 1 with fail
 generalize hw1:w.alloc _=w1;generalize hgb:w.heap.size=gb;replace hw1:=hw1.symm;replace hgb:=hgb.symm;have hB1:=(tQ hw1).out;have bx:lQ w1 gb 49 #[U r0,U r1,U r2,U r3,U r4,U r5]:=by rw[hw1,hgb];exact lQ.new _ _ _
 have d0: ∀o,J (w1.alloc o) gb 0 (U r0):=fun o=>(bx.alloc o).cell 0;have d1: ∀o,J (w1.alloc o) gb 1 (U r1):=fun o=>(bx.alloc o).cell 1;have d2: ∀o,J (w1.alloc o) gb 2 (U r2):=fun o=>(bx.alloc o).cell 2;have d3: ∀o,J (w1.alloc o) gb 3 (U r3):=fun o=>(bx.alloc o).cell 3;have d4: ∀o,J (w1.alloc o) gb 4 (U r4):=fun o=>(bx.alloc o).cell 4;have d5: ∀o,J (w1.alloc o) gb 5 (U r5):=fun o=>(bx.alloc o).cell 5;have W1:Hid (Wr w (w1.alloc (.cells #[(),false] 305)) w1.heap.size []):=jj ⟨⟨none,0,lQ.new _ _ _,⟨rfl,.inl ⟨rfl,rfl⟩⟩⟩,hB1.alloc hB1.size _,hB1.size⟩;clear hw1 hgb hB1 bx
 go_wp2_with fail
 refine(acH W1 (r0,r1,r2,r3,r4,r5) HR lT).mono ?_;rintro e w3 ⟨rfl,hw3,-⟩;rw[bU] at hw3;have W3:=jj hw3;clear hw3
 go_wp2_with fail
 refine(Iq W3).mono ?_;rintro e w' ⟨a',c',rfl,ho,rfl⟩;have HO:=jj ho;clear ho
 go_wp2_with fail
 go_ret2
 exact⟨a',c',by trivial,HO,W3.below⟩
def pq(r:Rq):List Int:=oK (r.1,r.2.1,r.2.2.1,r.2.2.2.1,r.2.2.2.2.1,0)
theorem Wt(w:World)(r:Rq)(hr:xH r):
  Y 114 #[Kh r] w fun e w'=> ∃a' c',e= .returned (.tuple #[.slice a' (pq r).length c',true])/\w'.ownsRow w.heap.size 5 1 (.slice a' (pq r).length c') (pq r).length (mZ (pq r))/\Be w w':=by
 obtain⟨r0,r1,r2,r3,r4,r5⟩:=r;have HR:Hid (xH (r0,r1,r2,r3,r4,0)):=jj ⟨hr.1,hr.2.1,hr.2.2.1,hr.2.2.2.1,hr.2.2.2.2.1,(show qh 0 from⟨lN,lN⟩)⟩;clear hr;show Y 114 #[.agg #[U r0,U r1,U r2,U r3,U r4,U r5]] w _;go_enter func114,ntmps114
 go_upto_region 1 with fail
 generalize hw1:w.alloc _=w1;generalize hgb:w.heap.size=gb;replace hw1:=hw1.symm;replace hgb:=hgb.symm;have hB1:=(tQ hw1).out;have bx:lQ w1 gb 49 #[U r0,U r1,U r2,U r3,U r4,U r5]:=by rw[hw1,hgb];exact lQ.new _ _ _
 have c5:=bx.at_ 5;have f5:=bx.frozen 5;have b2:=bx.mg 5 (U 0);have hB2:Be w (w1.setCell ⟨gb,5,none⟩ (U 0)):=((Only.refl [gb] w1).setCell (.inl lT) _).below hB1 hB1.size (by simp[hgb]);clear hw1 hgb hB1 bx
 go_upto_region 2 with fail
 obtain⟨w2,hw2⟩:=ex (w1.setCell ⟨gb,5,none⟩ (U 0));rw[<-hw2] at b2 hB2|-;obtain⟨d0,d1,d2,d3,d4,d5⟩:=b2.a6;have B2:=jj hB2;clear hw2 c5 f5 b2 hB2
 go_wp2_with fail
 refine(ahF _ (r0,r1,r2,r3,r4,0) HR).mono ?_;rintro e w3 ⟨a',c',rfl,ho,hb⟩;have HO:=jj (mO ho B2.size);have B3:=nO B2 hb;clear ho hb
 go_wp2_with fail
 go_ret2
 exact⟨a',c',by trivial,HO,B3⟩
def mq(cl:Int)(r:Rq):Bool:=decide (0<=r.1/\r.1<cl/\1<=r.2.1/\r.2.1<=1048576/\0<=r.2.2.2.2.2/\r.2.2.2.2.2<1099511627776)&&
 (decide (0<=r.2.2.2.1/\r.2.2.2.1<64/\ -2147483648<r.2.2.2.2.1/\r.2.2.2.2.1<2147483648)&&
 decide (r.2.2.1=1\/r.2.2.1=3\/((r.2.2.1=2\/r.2.2.1=4)/\r.2.2.2.2.1=0)\/(r.2.2.1=5/\r.2.2.2.1=0/\r.2.2.2.2.1=0)))
theorem D8(w:World)(cl:Int)(r:Rq)(b:Bool)(hb:mq cl r=b):
  Y 113 #[Kh r,U cl] w fun e w'=>e= .returned b/\Be w w':=by
 obtain⟨r0,r1,r2,r3,r4,r5⟩:=r;subst hb;show Y 113 #[.agg #[U r0,U r1,U r2,U r3,U r4,U r5],U cl] w _;rcases(show(r0<0)\/(¬r0<0/\cl<=r0)\/(¬r0<0/\ ¬cl<=r0/\r1<1)\/(¬r0<0/\ ¬cl<=r0/\ ¬r1<1/\1048576<r1)\/(¬r0<0/\ ¬cl<=r0/\ ¬r1<1/\ ¬1048576<r1/\r5<0)\/(¬r0<0/\ ¬cl<=r0/\ ¬r1<1/\ ¬1048576<r1/\ ¬r5<0/\1099511627776<=r5)\/(¬r0<0/\ ¬cl<=r0/\ ¬r1<1/\ ¬1048576<r1/\ ¬r5<0/\ ¬1099511627776<=r5) by omega) with h1|⟨h1,h2⟩|⟨h1,h2,h3⟩|⟨h1,h2,h3,h4⟩|⟨h1,h2,h3,h4,h5⟩|⟨h1,h2,h3,h4,h5,h6⟩|⟨h1,h2,h3,h4,h5,h6⟩
 ·have V:Hid (mq cl (r0,r1,r2,r3,r4,r5)=false):=jj (by unfold mq;rw[aR (by simp only;omega)];rfl)
  go_enter func113,ntmps113
  go_wp2_with fail
  go_ret
  first|exact⟨by rw[V.out];first|rfl|(show Ending.returned (r4==0)=_;rw[dx j]),nC.alloc lT _⟩|exact⟨by rw[V.out];rfl,nC⟩
 ·have V:Hid (mq cl (r0,r1,r2,r3,r4,r5)=false):=jj (by unfold mq;rw[aR (by simp only;omega)];rfl)
  go_enter func113,ntmps113
  go_wp2_with fail
  go_ret
  first|exact⟨by rw[V.out];first|rfl|(show Ending.returned (r4==0)=_;rw[dx j]),nC.alloc lT _⟩|exact⟨by rw[V.out];rfl,nC⟩
 ·have V:Hid (mq cl (r0,r1,r2,r3,r4,r5)=false):=jj (by unfold mq;rw[aR (by simp only;omega)];rfl)
  go_enter func113,ntmps113
  go_wp2_with fail
  go_ret
  first|exact⟨by rw[V.out];first|rfl|(show Ending.returned (r4==0)=_;rw[dx j]),nC.alloc lT _⟩|exact⟨by rw[V.out];rfl,nC⟩
 ·have V:Hid (mq cl (r0,r1,r2,r3,r4,r5)=false):=jj (by unfold mq;rw[aR (by simp only;omega)];rfl)
  go_enter func113,ntmps113
  go_wp2_with fail
  go_ret
  first|exact⟨by rw[V.out];first|rfl|(show Ending.returned (r4==0)=_;rw[dx j]),nC.alloc lT _⟩|exact⟨by rw[V.out];rfl,nC⟩
 ·have V:Hid (mq cl (r0,r1,r2,r3,r4,r5)=false):=jj (by unfold mq;rw[aR (by simp only;omega)];rfl)
  go_enter func113,ntmps113
  go_wp2_with fail
  go_ret
  first|exact⟨by rw[V.out];first|rfl|(show Ending.returned (r4==0)=_;rw[dx j]),nC.alloc lT _⟩|exact⟨by rw[V.out];rfl,nC⟩
 ·have V:Hid (mq cl (r0,r1,r2,r3,r4,r5)=false):=jj (by unfold mq;rw[aR (by simp only;omega)];rfl)
  go_enter func113,ntmps113
  go_wp2_with fail
  go_ret
  first|exact⟨by rw[V.out];first|rfl|(show Ending.returned (r4==0)=_;rw[dx j]),nC.alloc lT _⟩|exact⟨by rw[V.out];rfl,nC⟩
 have V1:decide (0<=r0/\r0<cl/\1<=r1/\r1<=1048576/\0<=r5/\r5<1099511627776)=true:=aZ lK;rcases(show(r3<0)\/(¬r3<0/\64<=r3)\/(¬r3<0/\ ¬64<=r3/\r4<= -2147483648)\/(¬r3<0/\ ¬64<=r3/\ ¬r4<= -2147483648/\2147483648<=r4)\/(¬r3<0/\ ¬64<=r3/\ ¬r4<= -2147483648/\ ¬2147483648<=r4) by omega) with k1|⟨k1,k2⟩|⟨k1,k2,k3⟩|⟨k1,k2,k3,k4⟩|⟨k1,k2,k3,k4⟩
 ·have V:Hid (mq cl (r0,r1,r2,r3,r4,r5)=false):=jj (by simp only[mq,V1];rw[show decide (0<=r3/\r3<64/\ -2147483648<r4/\r4<2147483648)=false from aR lK];rfl)
  clear V1;go_enter func113,ntmps113
  go_wp2_with fail
  go_ret
  first|exact⟨by rw[V.out];first|rfl|(show Ending.returned (r4==0)=_;rw[dx j]),nC.alloc lT _⟩|exact⟨by rw[V.out];rfl,nC⟩
 ·have V:Hid (mq cl (r0,r1,r2,r3,r4,r5)=false):=jj (by simp only[mq,V1];rw[show decide (0<=r3/\r3<64/\ -2147483648<r4/\r4<2147483648)=false from aR lK];rfl)
  clear V1;go_enter func113,ntmps113
  go_wp2_with fail
  go_ret
  first|exact⟨by rw[V.out];first|rfl|(show Ending.returned (r4==0)=_;rw[dx j]),nC.alloc lT _⟩|exact⟨by rw[V.out];rfl,nC⟩
 ·have V:Hid (mq cl (r0,r1,r2,r3,r4,r5)=false):=jj (by simp only[mq,V1];rw[show decide (0<=r3/\r3<64/\ -2147483648<r4/\r4<2147483648)=false from aR lK];rfl)
  clear V1;go_enter func113,ntmps113
  go_wp2_with fail
  go_ret
  first|exact⟨by rw[V.out];first|rfl|(show Ending.returned (r4==0)=_;rw[dx j]),nC.alloc lT _⟩|exact⟨by rw[V.out];rfl,nC⟩
 ·have V:Hid (mq cl (r0,r1,r2,r3,r4,r5)=false):=jj (by simp only[mq,V1];rw[show decide (0<=r3/\r3<64/\ -2147483648<r4/\r4<2147483648)=false from aR lK];rfl)
  clear V1;go_enter func113,ntmps113
  go_wp2_with fail
  go_ret
  first|exact⟨by rw[V.out];first|rfl|(show Ending.returned (r4==0)=_;rw[dx j]),nC.alloc lT _⟩|exact⟨by rw[V.out];rfl,nC⟩
 have V2:decide (0<=r3/\r3<64/\ -2147483648<r4/\r4<2147483648)=true:=aZ lK;rcases(show r2=1\/r2=3\/(r2=2/\r4=0)\/(r2=2/\r4≠0)\/(r2=4/\r4=0)\/(r2=4/\r4≠0)\/(r2=5/\r3=0/\r4=0)\/(r2=5/\r3=0/\r4≠0)\/(r2=5/\r3≠0)\/(r2≠1/\r2≠2/\r2≠3/\r2≠4/\r2≠5) by omega) with rfl|rfl|⟨rfl,rfl⟩|⟨rfl,j⟩|⟨rfl,rfl⟩|⟨rfl,j⟩|⟨rfl,rfl,rfl⟩|⟨rfl,rfl,j⟩|⟨rfl,j⟩|⟨j1,j2,j3,j4,j5⟩
 ·have V:Hid (mq cl (r0,r1,1,r3,r4,r5)=true):=jj (by simp only[mq,V1,V2];simp)
  clear V1 V2;go_enter func113,ntmps113
  go_wp2_with fail
  go_ret
  first|exact⟨by rw[V.out];first|rfl|(show Ending.returned (r4==0)=_;rw[dx j]),nC.alloc lT _⟩|exact⟨by rw[V.out];rfl,nC⟩
 ·have V:Hid (mq cl (r0,r1,3,r3,r4,r5)=true):=jj (by simp only[mq,V1,V2];simp)
  clear V1 V2;go_enter func113,ntmps113
  go_wp2_with fail
  go_ret
  first|exact⟨by rw[V.out];first|rfl|(show Ending.returned (r4==0)=_;rw[dx j]),nC.alloc lT _⟩|exact⟨by rw[V.out];rfl,nC⟩
 ·have V:Hid (mq cl (r0,r1,2,r3,0,r5)=true):=jj (by simp only[mq,V1,V2];simp)
  clear V1 V2;go_enter func113,ntmps113
  go_wp2_with fail
  go_ret
  first|exact⟨by rw[V.out];first|rfl|(show Ending.returned (r4==0)=_;rw[dx j]),nC.alloc lT _⟩|exact⟨by rw[V.out];rfl,nC⟩
 ·have V:Hid (mq cl (r0,r1,2,r3,r4,r5)=false):=jj (by simp only[mq,V1,V2];simp[j])
  clear V1 V2;go_enter func113,ntmps113
  go_wp2_with fail
  go_ret
  first|exact⟨by rw[V.out];first|rfl|(show Ending.returned (r4==0)=_;rw[dx j]),nC.alloc lT _⟩|exact⟨by rw[V.out];rfl,nC⟩
 ·have V:Hid (mq cl (r0,r1,4,r3,0,r5)=true):=jj (by simp only[mq,V1,V2];simp)
  clear V1 V2;go_enter func113,ntmps113
  go_wp2_with fail
  go_ret
  first|exact⟨by rw[V.out];first|rfl|(show Ending.returned (r4==0)=_;rw[dx j]),nC.alloc lT _⟩|exact⟨by rw[V.out];rfl,nC⟩
 ·have V:Hid (mq cl (r0,r1,4,r3,r4,r5)=false):=jj (by simp only[mq,V1,V2];simp[j])
  clear V1 V2;go_enter func113,ntmps113
  go_wp2_with fail
  go_ret
  first|exact⟨by rw[V.out];first|rfl|(show Ending.returned (r4==0)=_;rw[dx j]),nC.alloc lT _⟩|exact⟨by rw[V.out];rfl,nC⟩
 ·have V:Hid (mq cl (r0,r1,5,0,0,r5)=true):=jj (by simp only[mq,V1,V2];simp)
  clear V1 V2;go_enter func113,ntmps113
  go_wp2_with fail
  go_ret
  first|exact⟨by rw[V.out];first|rfl|(show Ending.returned (r4==0)=_;rw[dx j]),nC.alloc lT _⟩|exact⟨by rw[V.out];rfl,nC⟩
 ·have V:Hid (mq cl (r0,r1,5,0,r4,r5)=false):=jj (by simp only[mq,V1,V2];simp[j])
  clear V1 V2;go_enter func113,ntmps113
  go_wp2_with fail
  go_ret
  first|exact⟨by rw[V.out];first|rfl|(show Ending.returned (r4==0)=_;rw[dx j]),nC.alloc lT _⟩|exact⟨by rw[V.out];rfl,nC⟩
 ·have V:Hid (mq cl (r0,r1,5,r3,r4,r5)=false):=jj (by simp only[mq,V1,V2];simp[j])
  clear V1 V2;go_enter func113,ntmps113
  go_wp2_with fail
  go_ret
  first|exact⟨by rw[V.out];first|rfl|(show Ending.returned (r4==0)=_;rw[dx j]),nC.alloc lT _⟩|exact⟨by rw[V.out];rfl,nC⟩
 have V:Hid (mq cl (r0,r1,r2,r3,r4,r5)=false):=jj (by simp only[mq,V1,V2];simp[j1,j2,j3,j4,j5]);clear V1 V2;go_enter func113,ntmps113
 go_wp2_with fail
 go_ret
 first|exact⟨by rw[V.out];first|rfl|(show Ending.returned (r4==0)=_;rw[dx j]),nC.alloc lT _⟩|exact⟨by rw[V.out];rfl,nC⟩
theorem Rd.far(h:Rd w0 w gr a m c bs k)(ho:Only S w w')(h1:gr∉S)(h2: ∀g∈S,w0.heap.size<=g):Rd w0 w' gr a m c bs k:=
 ⟨h.blk.only ho h1,h.row,h.len,h.small,ho.below h.below h.below.size h2,h.ge⟩
theorem abU(h:Rd w0 w gr a m c bs k)(r:Rq)(hr:xH r)(hat:At bs k (oK r)):
  Y 245 #[gr] w fun e w'=>e= .returned (Kh r)/\Rd w0 w' gr a m c bs (k+(oK r).length)/\Only [gr] w w':=by
 obtain⟨z0,z1,z2,z3,z4,z5⟩:=r;obtain⟨p0,p1,p2,p3,p4,p5⟩:=hr;obtain⟨r0,rfl⟩:=bB p0.1;obtain⟨r1,rfl⟩:=bB p1.1;obtain⟨r2,rfl⟩:=bB p2.1;obtain⟨r5,rfl⟩:=bB p5.1;obtain⟨r3,rfl⟩:=ex z3;obtain⟨r4,rfl⟩:=ex z4;have N0:Hid (r0<1099511627776):=jj (by have:=p0.2;simp only at this;omega);have N1:Hid (r1<1099511627776):=jj (by have:=p1.2;simp only at this;omega);have N2:Hid (r2<1099511627776):=jj (by have:=p2.2;simp only at this;omega);have N5:Hid (r5<1099511627776):=jj (by have:=p5.2;simp only at this;omega);have N3:=jj p3;have N4:=jj p4;have EC:=hat;simp only[oK,bI] at EC;have A0:=jj EC.left;have ZM:=EC.right;have A1:=jj ZM.left;have at2:=ZM.right;have A2:=jj at2.left;have at3:=at2.right;have A3:=jj at3.left;have at4:=at3.right;have A4:=jj at4.left;have A5:=jj at4.right;have LL:Hid (k+(oK ((r0:Int),(r1:Int),(r2:Int),r3,r4,(r5:Int))).length=k+(mD r0).length+(mD r1).length+(mD r2).length+(vg r3).length+(vg r4).length+(mD r5).length):=jj (by simp only[oK,bI,av];omega);clear hat EC ZM at2 at3 at4 p0 p1 p2 p3 p4 p5;show Y 245 #[gr] w fun e w'=>e= .returned (.agg #[U r0,U r1,U r2,U r3,U r4,U r5])/\Rd w0 w' gr a m c bs (k+(oK ((r0:Int),(r1:Int),(r2:Int),r3,r4,(r5:Int))).length)/\Only [gr] w w';rw[LL.out];have H:=jj h;clear h;go_enter func245,ntmps245
 go_upto_region 2 with fail
 obtain⟨g3,hg3⟩:=ex (w.heap.size+1);obtain⟨g2,hg2⟩:=ex w.heap.size;obtain⟨v0,hv0⟩:=ex ((w.alloc (.cells #[U 0,U 0,U 0,U 0,U 0,U 0] 49)).alloc (.cells #[U 0,U 0,U 0,U 0,U 0,U 0] 49));rw[<-hv0,<-hg3,<-hg2];have hB:Be w v0:=by rw[hv0];exact nC.alloc lT _
 have YP:Hid (lQ v0 g3 49 #[U 0,U 0,U 0,U 0,U 0,U 0]):=jj (by rw[hv0];exact lQ.new' _ _ _ (by simp[hg3]));have BR0:Hid (lQ v0 g2 49 #[U 0,U 0,U 0,U 0,U 0,U 0]):=jj (by rw[hv0,hg2];exact(lQ.new _ _ _).alloc _);have R0:=jj (H.keep hB);have O0:=jj (Only.of_below (S:= [gr,g3]) hB);have NG:Hid (w.heap.size<=g3/\g2≠g3/\w.heap.size<=g2):=jj lK;have GR:Hid (gr<w.heap.size):=jj H.blk.lt;clear hv0 hg3 hg2 hB
 go_wp2_with fail
 refine(ug R0 _ N0 A0).mono ?_;rintro e u1 ⟨rfl,hr1,ho1⟩;have bx1:=YP.only ho1 (mR (YP.nY R0.blk lN));have br1:=BR0.only ho1 (mR (BR0.nY R0.blk lN));obtain⟨v1,hv1⟩:=ex (u1.setCell ⟨g3,0,none⟩ (U r0));have o9:Only [g3] u1 v1:=by rw[hv1];exact(Only.refl _ _).setCell (.inl lT) _
 have AY:Hid (lQ v1 g3 49 #[U r0,U 0,U 0,U 0,U 0,U 0]):=jj (by rw[hv1];exact bx1.mg 0 _);have BR1:=jj (br1.only o9 (mR NG.2.1));have R1:=jj (hr1.far o9 (by have:=GR.out;have:=NG.1;simp;omega) (by have:=H.below.size;have:=NG.1;simp;omega));have O1:=jj ((O0.then ho1 lT).then o9 lT);have cc:=bx1.at_ 0;have ff:=bx1.frozen 0;have YT:=jj hv1;clear hr1 ho1 bx1 br1 hv1 o9
 go_upto_region 3 with fail
 rw[<-YT.out];clear cc ff
 go_wp2_with fail
 refine(ug R1 _ N1 A1).mono ?_;rintro e u2 ⟨rfl,hr2,ho2⟩;have Vp:=AY.only ho2 (mR (AY.nY R1.blk lN));have br2:=BR1.only ho2 (mR (BR1.nY R1.blk lN));obtain⟨v2,hv2⟩:=ex (u2.setCell ⟨g3,1,none⟩ (U r1));have o9:Only [g3] u2 v2:=by rw[hv2];exact(Only.refl _ _).setCell (.inl lT) _
 have yM:Hid (lQ v2 g3 49 #[U r0,U r1,U 0,U 0,U 0,U 0]):=jj (by rw[hv2];exact Vp.mg 1 _);have Ze:=jj (br2.only o9 (mR NG.2.1));have R2:=jj (hr2.far o9 (by have:=GR.out;have:=NG.1;simp;omega) (by have:=H.below.size;have:=NG.1;simp;omega));have O2:=jj ((O1.then ho2 lT).then o9 lT);have cc:=Vp.at_ 1;have ff:=Vp.frozen 1;have SF:=jj hv2;clear hr2 ho2 Vp br2 hv2 o9
 go_upto_region 4 with fail
 rw[<-SF.out];clear cc ff
 go_wp2_with fail
 refine(ug R2 _ N2 A2).mono ?_;rintro e u3 ⟨rfl,hr3,ho3⟩;have bx3:=yM.only ho3 (mR (yM.nY R2.blk lN));have br3:=Ze.only ho3 (mR (Ze.nY R2.blk lN));obtain⟨v3,hv3⟩:=ex (u3.setCell ⟨g3,2,none⟩ (U r2));have o9:Only [g3] u3 v3:=by rw[hv3];exact(Only.refl _ _).setCell (.inl lT) _
 have Sv:Hid (lQ v3 g3 49 #[U r0,U r1,U r2,U 0,U 0,U 0]):=jj (by rw[hv3];exact bx3.mg 2 _);have BR3:=jj (br3.only o9 (mR NG.2.1));have R3:=jj (hr3.far o9 (by have:=GR.out;have:=NG.1;simp;omega) (by have:=H.below.size;have:=NG.1;simp;omega));have O3:=jj ((O2.then ho3 lT).then o9 lT);have cc:=bx3.at_ 2;have ff:=bx3.frozen 2;have HV3:=jj hv3;clear hr3 ho3 bx3 br3 hv3 o9
 go_upto_region 5 with fail
 rw[<-HV3.out];clear cc ff
 go_wp2_with fail
 refine(abV R3 r3 N3 A3).mono ?_;rintro e u4 ⟨rfl,hr4,xQ⟩;have bx4:=Sv.only xQ (mR (Sv.nY R3.blk lN));have br4:=BR3.only xQ (mR (BR3.nY R3.blk lN));obtain⟨v4,hv4⟩:=ex (u4.setCell ⟨g3,3,none⟩ (U r3));have o9:Only [g3] u4 v4:=by rw[hv4];exact(Only.refl _ _).setCell (.inl lT) _
 have BX4:Hid (lQ v4 g3 49 #[U r0,U r1,U r2,U r3,U 0,U 0]):=jj (by rw[hv4];exact bx4.mg 3 _);have BR4:=jj (br4.only o9 (mR NG.2.1));have R4:=jj (hr4.far o9 (by have:=GR.out;have:=NG.1;simp;omega) (by have:=H.below.size;have:=NG.1;simp;omega));have O4:=jj ((O3.then xQ lT).then o9 lT);have cc:=bx4.at_ 3;have ff:=bx4.frozen 3;have HV4:=jj hv4;clear hr4 xQ bx4 br4 hv4 o9
 go_upto_region 6 with fail
 rw[<-HV4.out];clear cc ff
 go_wp2_with fail
 refine(abV R4 r4 N4 A4).mono ?_;rintro e u5 ⟨rfl,hr5,Kg⟩;have ZW:=BX4.only Kg (mR (BX4.nY R4.blk lN));have br5:=BR4.only Kg (mR (BR4.nY R4.blk lN));obtain⟨v5,hv5⟩:=ex (u5.setCell ⟨g3,4,none⟩ (U r4));have o9:Only [g3] u5 v5:=by rw[hv5];exact(Only.refl _ _).setCell (.inl lT) _
 have BX5:Hid (lQ v5 g3 49 #[U r0,U r1,U r2,U r3,U r4,U 0]):=jj (by rw[hv5];exact ZW.mg 4 _);have Sr:=jj (br5.only o9 (mR NG.2.1));have R5:=jj (hr5.far o9 (by have:=GR.out;have:=NG.1;simp;omega) (by have:=H.below.size;have:=NG.1;simp;omega));have O5:=jj ((O4.then Kg lT).then o9 lT);have cc:=ZW.at_ 4;have ff:=ZW.frozen 4;have HV5:=jj hv5;clear hr5 Kg ZW br5 hv5 o9
 go_upto_region 7 with fail
 rw[<-HV5.out];clear cc ff
 go_wp2_with fail
 refine(ug R5 _ N5 A5).mono ?_;rintro e u6 ⟨rfl,hr6,KC⟩;have bx6:=BX5.only KC (mR (BX5.nY R5.blk lN));have br6:=Sr.only KC (mR (Sr.nY R5.blk lN));obtain⟨v6,hv6⟩:=ex (u6.setCell ⟨g3,5,none⟩ (U r5));have o9:Only [g3] u6 v6:=by rw[hv6];exact(Only.refl _ _).setCell (.inl lT) _
 have BX6:Hid (lQ v6 g3 49 #[U r0,U r1,U r2,U r3,U r4,U r5]):=jj (by rw[hv6];exact bx6.mg 5 _);have WU:=jj (br6.only o9 (mR NG.2.1));have R6:=jj (hr6.far o9 (by have:=GR.out;have:=NG.1;simp;omega) (by have:=H.below.size;have:=NG.1;simp;omega));have O6:=jj ((O5.then KC lT).then o9 lT);have cc:=bx6.at_ 5;have ff:=bx6.frozen 5;have HV6:=jj hv6;clear hr6 KC bx6 br6 hv6 o9
 go_upto_region 8 with fail
 rw[<-HV6.out];clear cc ff;obtain⟨d0,d1,d2,d3,d4,d5⟩:=BX6.a6;have e0:=WU.at_ 0;have z0:=WU.frozen 0;have e1:=WU.at_ 1;have z1:=WU.frozen 1;have e2:=WU.at_ 2;have z2:=WU.frozen 2;have e3:=WU.at_ 3;have z3:=WU.frozen 3;have e4:=WU.at_ 4;have z4:=WU.frozen 4;have e5:=WU.at_ 5;have z5:=WU.frozen 5
 go_wp2_with fail
 obtain⟨w9,mE⟩:=ex (((((((v6).setCell ⟨g2,0,none⟩ (U r0)).setCell ⟨g2,1,none⟩ (U r1)).setCell ⟨g2,2,none⟩ (U r2)).setCell ⟨g2,3,none⟩ (U r3)).setCell ⟨g2,4,none⟩ (U r4)).setCell ⟨g2,5,none⟩ (U r5));rw[<-mE];have K9:lQ w9 g2 49 #[U r0,U r1,U r2,U r3,U r4,U r5]:=by rw[mE];exact((((((WU.mg 0 _).mg 1 _).mg 2 _).mg 3 _).mg 4 _).mg 5 _)
 have o9:Only [g2] v6 w9:=by rw[mE];exact(((((((Only.refl [g2] v6).setCell (.inl lT) _).setCell (.inl lT) _).setCell (.inl lT) _).setCell (.inl lT) _).setCell (.inl lT) _).setCell (.inl lT) _)
 have R9:=R6.far o9 (by have:=GR.out;have:=NG.2.2;simp;omega) (by have:=H.below.size;have:=NG.2.2;simp;omega);have O9:Only [gr] w w9:=(O6.then o9 (by have:=NG.2.2;simp;omega)).mono (by have:=NG.1;simp;omega);refine dF (v:= .agg #[U r0,U r1,U r2,U r3,U r4,U r5]) ?_ rfl ⟨rfl,R9,O9⟩;exact gM Tryz.results245 _ w9 g2 _ _ _ _ (by rfl) K9 underlying49 rfl (by kernel_rfl)
theorem Wy(h:Rd w0 w gr a m c bs k)(v:Vo)(hr:Kv v)(hat:At bs k (uQ v)):
  Y 247 #[gr] w fun e w'=>e= .returned (.agg (Cg v).toArray)/\Rd w0 w' gr a m c bs (k+(uQ v).length)/\Only [gr] w w':=by
 obtain⟨z0,z1⟩:=v;obtain⟨p0,p1⟩:=hr;obtain⟨t0,rfl⟩:=bB p0.1;obtain⟨t1,rfl⟩:=bB p1.1;have N0:Hid (t0<1099511627776):=jj (by have:=p0.2;simp only at this;omega);have N1:Hid (t1<1099511627776):=jj (by have:=p1.2;simp only at this;omega);have EC:=hat;simp only[uQ,bI] at EC;have A0:=jj EC.left;have A1:=jj EC.right;have LL:Hid (k+(uQ ((t0:Int),(t1:Int))).length=k+(mD t0).length+(mD t1).length):=jj (by simp only[uQ,bI,av];omega);clear hat EC p0 p1;show Y 247 #[gr] w fun e w'=>e= .returned (.agg #[U t0,U t1])/\Rd w0 w' gr a m c bs (k+(uQ ((t0:Int),(t1:Int))).length)/\Only [gr] w w';rw[LL.out];have H:=jj h;clear h;go_enter func247,ntmps247
 go_upto_region 2 with fail
 obtain⟨g3,hg3⟩:=ex (w.heap.size+1);obtain⟨g2,hg2⟩:=ex w.heap.size;obtain⟨v0,hv0⟩:=ex ((w.alloc (.cells #[U 0,U 0] 311)).alloc (.cells #[U 0,U 0] 311));rw[<-hv0,<-hg3,<-hg2];have hB:Be w v0:=by rw[hv0];exact nC.alloc lT _
 have YP:Hid (lQ v0 g3 311 #[U 0,U 0]):=jj (by rw[hv0];exact lQ.new' _ _ _ (by simp[hg3]));have BR0:Hid (lQ v0 g2 311 #[U 0,U 0]):=jj (by rw[hv0,hg2];exact(lQ.new _ _ _).alloc _);have R0:=jj (H.keep hB);have O0:=jj (Only.of_below (S:= [gr,g3]) hB);have NG:Hid (w.heap.size<=g3/\g2≠g3/\w.heap.size<=g2):=jj lK;have GR:Hid (gr<w.heap.size):=jj H.blk.lt;clear hv0 hg3 hg2 hB
 go_wp2_with fail
 refine(ug R0 _ N0 A0).mono ?_;rintro e u1 ⟨rfl,hr1,ho1⟩;have bx1:=YP.only ho1 (mR (YP.nY R0.blk lN));have br1:=BR0.only ho1 (mR (BR0.nY R0.blk lN));obtain⟨v1,hv1⟩:=ex (u1.setCell ⟨g3,0,none⟩ (U t0));have o9:Only [g3] u1 v1:=by rw[hv1];exact(Only.refl _ _).setCell (.inl lT) _
 have AY:Hid (lQ v1 g3 311 #[U t0,U 0]):=jj (by rw[hv1];exact bx1.mg 0 _);have BR1:=jj (br1.only o9 (mR NG.2.1));have R1:=jj (hr1.far o9 (by have:=GR.out;have:=NG.1;simp;omega) (by have:=H.below.size;have:=NG.1;simp;omega));have O1:=jj ((O0.then ho1 lT).then o9 lT);have cc:=bx1.at_ 0;have ff:=bx1.frozen 0;have YT:=jj hv1;clear hr1 ho1 bx1 br1 hv1 o9
 go_upto_region 3 with fail
 rw[<-YT.out];clear cc ff
 go_wp2_with fail
 refine(ug R1 _ N1 A1).mono ?_;rintro e u2 ⟨rfl,hr2,ho2⟩;have Vp:=AY.only ho2 (mR (AY.nY R1.blk lN));have br2:=BR1.only ho2 (mR (BR1.nY R1.blk lN));obtain⟨v2,hv2⟩:=ex (u2.setCell ⟨g3,1,none⟩ (U t1));have o9:Only [g3] u2 v2:=by rw[hv2];exact(Only.refl _ _).setCell (.inl lT) _
 have yM:Hid (lQ v2 g3 311 #[U t0,U t1]):=jj (by rw[hv2];exact Vp.mg 1 _);have Ze:=jj (br2.only o9 (mR NG.2.1));have R2:=jj (hr2.far o9 (by have:=GR.out;have:=NG.1;simp;omega) (by have:=H.below.size;have:=NG.1;simp;omega));have O2:=jj ((O1.then ho2 lT).then o9 lT);have cc:=Vp.at_ 1;have ff:=Vp.frozen 1;have SF:=jj hv2;clear hr2 ho2 Vp br2 hv2 o9
 go_upto_region 4 with fail
 rw[<-SF.out];clear cc ff;obtain⟨d0,d1⟩:=yM.a2;have e0:=Ze.at_ 0;have z0:=Ze.frozen 0;have e1:=Ze.at_ 1;have z1:=Ze.frozen 1
 go_wp2_with fail
 obtain⟨w9,mE⟩:=ex (((v2).setCell ⟨g2,0,none⟩ (U t0)).setCell ⟨g2,1,none⟩ (U t1));rw[<-mE];have K9:lQ w9 g2 311 #[U t0,U t1]:=by rw[mE];exact((Ze.mg 0 _).mg 1 _)
 have o9:Only [g2] v2 w9:=by rw[mE];exact(((Only.refl [g2] v2).setCell (.inl lT) _).setCell (.inl lT) _)
 have R9:=R2.far o9 (by have:=GR.out;have:=NG.2.2;simp;omega) (by have:=H.below.size;have:=NG.2.2;simp;omega);have O9:Only [gr] w w9:=(O2.then o9 (by have:=NG.2.2;simp;omega)).mono (by have:=NG.1;simp;omega);refine dF (v:= .agg #[U t0,U t1]) ?_ rfl ⟨rfl,R9,O9⟩;exact gM Tryz.results247 _ w9 g2 _ _ _ _ (by rfl) K9 underlying311 rfl (by kernel_rfl)
def EU(v:Value):Nat:=match v with
 | .slice _ n _=>n
 |_=>0
theorem Bb{α:Type}{f:α->List Int}{p:Nat}{l:List α}(h:At bs p (l.flatMap f)){i:Nat}{r:α}(hr:l[i]?=some r):At bs (p+((l.take i).flatMap f).length) (f r):=by
 obtain⟨hi,he⟩:=ah.1 hr;have e:l.flatMap f=(l.take i).flatMap f++(f r++(l.drop (i+1)).flatMap f):=by
  conv=>lhs;rw[<-kJ i l,jN hi,he]
  rw[bS,bQ]
 rw[e] at h;exact h.right.left
theorem rT:(prog.info? 49).map (fun i=>(i.zero,i.size,i.bytes))=some (some (.agg #[U 0,U 0,U 0,U 0,U 0,U 0]),6,48):=by kernel_rfl
theorem Gb(h:Rd w0 w gr a m c bs k)(l:List Rq)(n:Nat)(hn:l.length=n)(wB:n<=256)(hok: ∀r∈l,xH r)(hat:At bs k (nI oK l)):
  Y 273 #[gr,.func (.func 245) #[] #[]] w fun e w'=> ∃a' c',e= .returned (.slice a' n c')/\w'.ownsRow w.heap.size 49 6 (.slice a' n c') n (l.flatMap rA)/\Rd w0 w' gr a m c bs (k+(nI oK l).length)/\Only [gr] w w':=by
 obtain⟨i0,hi0,hz0,hz1,hz2⟩:=bq rT;obtain⟨H,HN,Nq⟩:=j3 h hn hok;have hat':=hat;unfold nI at hat';rw[hn] at hat';have AN:=jj hat'.left;obtain⟨p,hp⟩:=ex (k+(mD n).length);have hr:=hat'.right;rw[<-hp] at hr;have HAT:=jj hr;have LL:Hid (k+(nI oK l).length=p+(l.flatMap oK).length):=jj (by rw[hp];unfold nI;rw[hn,av];omega);have HP:=jj hp;have BW:=jj h.below;clear h hok hat hat' hr hp hn;have i256: ¬(256:Int)<n:=lK;go_enter func273,ntmps273
 go_wp2_with fail
 obtain⟨J0,hJ⟩: ∃J0:Act->World->Prop,J0=(fun a' w'=> ∃(i:Nat) (a5:OA) (c5:Nat) (u2 u3 u7 u8 u9 AP Gc Gd Gf CS CX u16 Fp Fq yL u20 u21 u22 u23 u24 u25 u26 u27 u28:Value),i<=n/\Rd w0 w' gr a m c bs (p+((l.take i).flatMap oK).length)/\w'.ownsRow w.heap.size 49 6 (.slice a5 i c5) i ((l.take i).flatMap rA)/\Only [gr] w w'/\a'={tmps:=#[.pointer (some ⟨gr,0,none⟩),.func (.func 245) #[] #[],u2,u3,.slice none 0 0,.slice a5 i c5,U (n:Int),u7,u8,u9,AP,Gc,Gd,Gf,CS,CX,u16,Fp,Fq,yL,u20,u21,u22,u23,u24,u25,u26,u27,u28],defers:= []}):=⟨_,rfl⟩;have HJ:=jj hJ;clear hJ;refine gD 1 J0 (fun a' _=>n -EU (a'.tmps.getD 5 undef)) rfl ?_ ?_
 ·go_wp2_with fail
  refine(ug H n lK AN).mono ?_;rintro e wi ⟨rfl,hr1,ho1⟩;rw[<-HP.out] at hr1;have HR:Hid (Rd w0 wi gr a m c bs (p+((l.take 0).flatMap oK).length)):=jj (mR hr1);have HO:Hid (wi.ownsRow w.heap.size 49 6 () 0 ((l.take 0).flatMap rA)):=jj ⟨rfl,.inl ⟨rfl,rfl⟩⟩;have HQ:=jj ho1;clear hr1 ho1
  go_wp2_with fail
  go_step3
  by_cases hin:0=n
  ·subst hin
   have E1:Hid (l.take 0=l):=jj (by rw[<-HN.out];exact dP);have d2:=HR.blk.at_ 2
   go_wp2_with fail
   simp only[Exit.jump];go_ret;rw[E1.out] at HR HO;exact⟨none,0,by trivial,HO,by rw[LL.out];exact HR.out,HQ⟩
  have d2:=HR.blk.at_ 2;have hlt:0<n:=lK;have hil:0<l.length:=by rw[HN.out];exact hlt
  have n1: ¬(0:Int)=n:=lK;obtain⟨r,hr⟩: ∃r,l[0]?=some r:=⟨_,aj hil⟩;have her:l[0]=r:=by rw[aj hil] at hr;exact dh hr
  have RO:=jj (Nq.out r (ak hr));have AR:=jj (Bb HAT hr);have TK:Hid (∀{α:Type} (f:Rq->List α),(l.take (0+1)).flatMap f=(l.take 0).flatMap f++f r):=jj (fun f=>by rw[bA hil,her];simp);obtain⟨x0,x1,x2,x3,x4,x5⟩:=r;have CC:Hid (Y 245 #[gr] wi (fun e w'=>e= .returned (.agg #[U x0,U x1,U x2,U x3,U x4,U x5])/\Rd w0 w' gr a m c bs (p+((l.take 0).flatMap oK).length+(oK (x0,x1,x2,x3,x4,x5)).length)/\Only [gr] wi w')):=jj (abU HR (x0,x1,x2,x3,x4,x5) RO AR);clear hr her hil hin
  go_wp2_with(first
   |(go_at_call 245;refine(CC).mono ?_;rintro e y1 ⟨rfl,hr1,ho1⟩;have R1:=jj hr1;have Q1:=jj (HQ.trans ho1);have O1:=jj (mK HO ho1 (fun g hg=>by
     have:=mG HO HR.blk lN;rw[hg] at this;simpa using fun e=>this (by rw[e])));clear hr1 ho1)
   |(at_builtin;refine lZ rfl _ _ _ rfl w.heap.size 49 i0 _ 6 48 underlying46 hi0 hz0 hz1 hz2 rfl lK none 0 0 ((l.take 0).flatMap rA) rfl (own_below O1 nC) (some ⟨y1.heap.size,0,none⟩) 1 1 (rA (x0,x1,x2,x3,x4,x5)) rfl (mo.nR (n:=1) (s:=6) (lQ.new y1 49 #[U x0,U x1,U x2,U x3,U x4,U x5]) rfl) (by intro u hu;simp[rA] at hu;rcases hu with rfl|rfl|rfl|rfl|rfl|rfl<;>rfl) (by unfold maxLen;omega) lK (by have:=Q1.size;simp;omega) ?_;intro a6 c6 y2 h6;have H6:=jj h6;clear h6))
  try go_step3
  have Q2:Only [gr] w y2:=by
   have b:=(Only.of_below (S:= [gr]) ((aC y1.heap.size y1).alloc (aF _) (.cells #[U x0,U x1,U x2,U x3,U x4,U x5] 49)));refine(Q1.trans b).then H6.only (fun k hk=> .inr ?_);exact(lW O1 k hk).1
  have R2:=(R1.keep ((aC y1.heap.size y1).alloc (aF _) (.cells #[U x0,U x1,U x2,U x3,U x4,U x5] 49))).far H6.only (fun hm=>by
    obtain⟨_,cs,hcs⟩:=lW O1 _ hm;exact R1.blk.nY hcs lN rfl) (fun k hk=>aG BW.size (lW O1 k hk).1)
  refine dH rfl ?_;rw[HJ.out];exact⟨0+1,a6,c6,_,_,_,_,_,_,_,_,_,_,_,_,_,_,_,_,_,_,_,_,_,_,_,_,lK,by rw[TK.out,av,<-dL];exact R2,by rw[TK.out];exact H6.own,Q2,rfl⟩
 rintro a' wi hJJ;rw[HJ.out] at hJJ;obtain⟨i,a5,c5,u2,u3,u7,u8,u9,AP,Gc,Gd,Gf,CS,CX,u16,Fp,Fq,yL,u20,u21,u22,u23,u24,u25,u26,u27,u28,hi,hr1,ho1,hq1,rfl⟩:=hJJ;obtain⟨HR,HO,HQ⟩:=j3 hr1 ho1 hq1;clear hr1 ho1 hq1;by_cases hin:i=n
 ·subst hin
  have E1:Hid (l.take i=l):=jj (by rw[<-HN.out];exact dP);have d2:=HR.blk.at_ 2
  go_wp2_with fail
  simp only[Exit.jump];go_ret;rw[E1.out] at HR HO;exact⟨a5,c5,by trivial,HO,by rw[LL.out];exact HR.out,HQ⟩
 have d2:=HR.blk.at_ 2;have hlt:i<n:=lK;have hil:i<l.length:=by rw[HN.out];exact hlt
 have n1: ¬(i:Int)=n:=lK;obtain⟨r,hr⟩: ∃r,l[i]?=some r:=⟨_,aj hil⟩;have her:l[i]=r:=by rw[aj hil] at hr;exact dh hr
 have RO:=jj (Nq.out r (ak hr));have AR:=jj (Bb HAT hr);have TK:Hid (∀{α:Type} (f:Rq->List α),(l.take (i+1)).flatMap f=(l.take i).flatMap f++f r):=jj (fun f=>by rw[bA hil,her];simp);obtain⟨x0,x1,x2,x3,x4,x5⟩:=r;have CC:Hid (Y 245 #[gr] wi (fun e w'=>e= .returned (.agg #[U x0,U x1,U x2,U x3,U x4,U x5])/\Rd w0 w' gr a m c bs (p+((l.take i).flatMap oK).length+(oK (x0,x1,x2,x3,x4,x5)).length)/\Only [gr] wi w')):=jj (abU HR (x0,x1,x2,x3,x4,x5) RO AR);clear hr her hil hin
 go_wp2_with(first
  |(go_at_call 245;refine(CC).mono ?_;rintro e y1 ⟨rfl,hr1,ho1⟩;have R1:=jj hr1;have Q1:=jj (HQ.trans ho1);have O1:=jj (mK HO ho1 (fun g hg=>by
    have:=mG HO HR.blk lN;rw[hg] at this;simpa using fun e=>this (by rw[e])));clear hr1 ho1)
  |(at_builtin;refine lZ rfl _ _ _ rfl w.heap.size 49 i0 _ 6 48 underlying46 hi0 hz0 hz1 hz2 rfl lK a5 i c5 ((l.take i).flatMap rA) rfl (own_below O1 nC) (some ⟨y1.heap.size,0,none⟩) 1 1 (rA (x0,x1,x2,x3,x4,x5)) rfl (mo.nR (n:=1) (s:=6) (lQ.new y1 49 #[U x0,U x1,U x2,U x3,U x4,U x5]) rfl) (by intro u hu;simp[rA] at hu;rcases hu with rfl|rfl|rfl|rfl|rfl|rfl<;>rfl) (by unfold maxLen;omega) lK (by have:=Q1.size;simp;omega) ?_;intro a6 c6 y2 h6;have H6:=jj h6;clear h6))
 try go_step3
 have Q2:Only [gr] w y2:=by
  have b:=(Only.of_below (S:= [gr]) ((aC y1.heap.size y1).alloc (aF _) (.cells #[U x0,U x1,U x2,U x3,U x4,U x5] 49)));refine(Q1.trans b).then H6.only (fun k hk=> .inr ?_);exact(lW O1 k hk).1
 have R2:=(R1.keep ((aC y1.heap.size y1).alloc (aF _) (.cells #[U x0,U x1,U x2,U x3,U x4,U x5] 49))).far H6.only (fun hm=>by
   obtain⟨_,cs,hcs⟩:=lW O1 _ hm;exact R1.blk.nY hcs lN rfl) (fun k hk=>aG BW.size (lW O1 k hk).1)
 refine dH rfl (dH ?_ (by simp only[iF];simp[EU];omega));rw[HJ.out];exact⟨i+1,a6,c6,_,_,_,_,_,_,_,_,_,_,_,_,_,_,_,_,_,_,_,_,_,_,_,_,lK,by rw[TK.out,av,<-dL];exact R2,by rw[TK.out];exact H6.own,Q2,rfl⟩
theorem Cr:(prog.info? 311).map (fun i=>(i.zero,i.size,i.bytes))=some (some (.agg #[U 0,U 0]),2,16):=by kernel_rfl
theorem Ef(h:Rd w0 w gr a m c bs k)(l:List Vo)(n:Nat)(hn:l.length=n)(wB:n<=256)(hok: ∀r∈l,Kv r)(hat:At bs k (nI uQ l)):
  Y 276 #[gr,.func (.func 247) #[] #[]] w fun e w'=> ∃a' c',e= .returned (.slice a' n c')/\w'.ownsRow w.heap.size 311 2 (.slice a' n c') n (l.flatMap Cg)/\Rd w0 w' gr a m c bs (k+(nI uQ l).length)/\Only [gr] w w':=by
 obtain⟨i0,hi0,hz0,hz1,hz2⟩:=bq Cr;obtain⟨H,HN,Nq⟩:=j3 h hn hok;have hat':=hat;unfold nI at hat';rw[hn] at hat';have AN:=jj hat'.left;obtain⟨p,hp⟩:=ex (k+(mD n).length);have hr:=hat'.right;rw[<-hp] at hr;have HAT:=jj hr;have LL:Hid (k+(nI uQ l).length=p+(l.flatMap uQ).length):=jj (by rw[hp];unfold nI;rw[hn,av];omega);have HP:=jj hp;have BW:=jj h.below;clear h hok hat hat' hr hp hn;have i256: ¬(256:Int)<n:=lK;go_enter func276,ntmps276
 go_wp2_with fail
 obtain⟨J0,hJ⟩: ∃J0:Act->World->Prop,J0=(fun a' w'=> ∃(i:Nat) (a5:OA) (c5:Nat) (u2 u3 u7 u8 u9 AP Gc Gd Gf CS CX u16 Fp Fq yL u20 u21 u22 u23 u24 u25 u26 u27 u28:Value),i<=n/\Rd w0 w' gr a m c bs (p+((l.take i).flatMap uQ).length)/\w'.ownsRow w.heap.size 311 2 (.slice a5 i c5) i ((l.take i).flatMap Cg)/\Only [gr] w w'/\a'={tmps:=#[.pointer (some ⟨gr,0,none⟩),.func (.func 247) #[] #[],u2,u3,.slice none 0 0,.slice a5 i c5,U (n:Int),u7,u8,u9,AP,Gc,Gd,Gf,CS,CX,u16,Fp,Fq,yL,u20,u21,u22,u23,u24,u25,u26,u27,u28],defers:= []}):=⟨_,rfl⟩;have HJ:=jj hJ;clear hJ;refine gD 1 J0 (fun a' _=>n -EU (a'.tmps.getD 5 undef)) rfl ?_ ?_
 ·go_wp2_with fail
  refine(ug H n lK AN).mono ?_;rintro e wi ⟨rfl,hr1,ho1⟩;rw[<-HP.out] at hr1;have HR:Hid (Rd w0 wi gr a m c bs (p+((l.take 0).flatMap uQ).length)):=jj (mR hr1);have HO:Hid (wi.ownsRow w.heap.size 311 2 () 0 ((l.take 0).flatMap Cg)):=jj ⟨rfl,.inl ⟨rfl,rfl⟩⟩;have HQ:=jj ho1;clear hr1 ho1
  go_wp2_with fail
  go_step3
  by_cases hin:0=n
  ·subst hin
   have E1:Hid (l.take 0=l):=jj (by rw[<-HN.out];exact dP);have d2:=HR.blk.at_ 2
   go_wp2_with fail
   simp only[Exit.jump];go_ret;rw[E1.out] at HR HO;exact⟨none,0,by trivial,HO,by rw[LL.out];exact HR.out,HQ⟩
  have d2:=HR.blk.at_ 2;have hlt:0<n:=lK;have hil:0<l.length:=by rw[HN.out];exact hlt
  have n1: ¬(0:Int)=n:=lK;obtain⟨r,hr⟩: ∃r,l[0]?=some r:=⟨_,aj hil⟩;have her:l[0]=r:=by rw[aj hil] at hr;exact dh hr
  have RO:=jj (Nq.out r (ak hr));have AR:=jj (Bb HAT hr);have TK:Hid (∀{α:Type} (f:Vo->List α),(l.take (0+1)).flatMap f=(l.take 0).flatMap f++f r):=jj (fun f=>by rw[bA hil,her];simp);obtain⟨x0,x1⟩:=r;have CC:Hid (Y 247 #[gr] wi (fun e w'=>e= .returned (.agg #[U x0,U x1])/\Rd w0 w' gr a m c bs (p+((l.take 0).flatMap uQ).length+(uQ (x0,x1)).length)/\Only [gr] wi w')):=jj (Wy HR (x0,x1) RO AR);clear hr her hil hin
  go_wp2_with(first
   |(go_at_call 247;refine(CC).mono ?_;rintro e y1 ⟨rfl,hr1,ho1⟩;have R1:=jj hr1;have Q1:=jj (HQ.trans ho1);have O1:=jj (mK HO ho1 (fun g hg=>by
     have:=mG HO HR.blk lN;rw[hg] at this;simpa using fun e=>this (by rw[e])));clear hr1 ho1)
   |(at_builtin;refine lZ rfl _ _ _ rfl w.heap.size 311 i0 _ 2 16 underlying78 hi0 hz0 hz1 hz2 rfl lK none 0 0 ((l.take 0).flatMap Cg) rfl (own_below O1 nC) (some ⟨y1.heap.size,0,none⟩) 1 1 (Cg (x0,x1)) rfl (mo.nR (n:=1) (s:=2) (lQ.new y1 311 #[U x0,U x1]) rfl) (by intro u hu;simp[Cg] at hu;rcases hu with rfl|rfl<;>rfl) (by unfold maxLen;omega) lK (by have:=Q1.size;simp;omega) ?_;intro a6 c6 y2 h6;have H6:=jj h6;clear h6))
  try go_step3
  have Q2:Only [gr] w y2:=by
   have b:=(Only.of_below (S:= [gr]) ((aC y1.heap.size y1).alloc (aF _) (.cells #[U x0,U x1] 311)));refine(Q1.trans b).then H6.only (fun k hk=> .inr ?_);exact(lW O1 k hk).1
  have R2:=(R1.keep ((aC y1.heap.size y1).alloc (aF _) (.cells #[U x0,U x1] 311))).far H6.only (fun hm=>by
    obtain⟨_,cs,hcs⟩:=lW O1 _ hm;exact R1.blk.nY hcs lN rfl) (fun k hk=>aG BW.size (lW O1 k hk).1)
  refine dH rfl ?_;rw[HJ.out];exact⟨0+1,a6,c6,_,_,_,_,_,_,_,_,_,_,_,_,_,_,_,_,_,_,_,_,_,_,_,_,lK,by rw[TK.out,av,<-dL];exact R2,by rw[TK.out];exact H6.own,Q2,rfl⟩
 rintro a' wi hJJ;rw[HJ.out] at hJJ;obtain⟨i,a5,c5,u2,u3,u7,u8,u9,AP,Gc,Gd,Gf,CS,CX,u16,Fp,Fq,yL,u20,u21,u22,u23,u24,u25,u26,u27,u28,hi,hr1,ho1,hq1,rfl⟩:=hJJ;obtain⟨HR,HO,HQ⟩:=j3 hr1 ho1 hq1;clear hr1 ho1 hq1;by_cases hin:i=n
 ·subst hin
  have E1:Hid (l.take i=l):=jj (by rw[<-HN.out];exact dP);have d2:=HR.blk.at_ 2
  go_wp2_with fail
  simp only[Exit.jump];go_ret;rw[E1.out] at HR HO;exact⟨a5,c5,by trivial,HO,by rw[LL.out];exact HR.out,HQ⟩
 have d2:=HR.blk.at_ 2;have hlt:i<n:=lK;have hil:i<l.length:=by rw[HN.out];exact hlt
 have n1: ¬(i:Int)=n:=lK;obtain⟨r,hr⟩: ∃r,l[i]?=some r:=⟨_,aj hil⟩;have her:l[i]=r:=by rw[aj hil] at hr;exact dh hr
 have RO:=jj (Nq.out r (ak hr));have AR:=jj (Bb HAT hr);have TK:Hid (∀{α:Type} (f:Vo->List α),(l.take (i+1)).flatMap f=(l.take i).flatMap f++f r):=jj (fun f=>by rw[bA hil,her];simp);obtain⟨x0,x1⟩:=r;have CC:Hid (Y 247 #[gr] wi (fun e w'=>e= .returned (.agg #[U x0,U x1])/\Rd w0 w' gr a m c bs (p+((l.take i).flatMap uQ).length+(uQ (x0,x1)).length)/\Only [gr] wi w')):=jj (Wy HR (x0,x1) RO AR);clear hr her hil hin
 go_wp2_with(first
  |(go_at_call 247;refine(CC).mono ?_;rintro e y1 ⟨rfl,hr1,ho1⟩;have R1:=jj hr1;have Q1:=jj (HQ.trans ho1);have O1:=jj (mK HO ho1 (fun g hg=>by
    have:=mG HO HR.blk lN;rw[hg] at this;simpa using fun e=>this (by rw[e])));clear hr1 ho1)
  |(at_builtin;refine lZ rfl _ _ _ rfl w.heap.size 311 i0 _ 2 16 underlying78 hi0 hz0 hz1 hz2 rfl lK a5 i c5 ((l.take i).flatMap Cg) rfl (own_below O1 nC) (some ⟨y1.heap.size,0,none⟩) 1 1 (Cg (x0,x1)) rfl (mo.nR (n:=1) (s:=2) (lQ.new y1 311 #[U x0,U x1]) rfl) (by intro u hu;simp[Cg] at hu;rcases hu with rfl|rfl<;>rfl) (by unfold maxLen;omega) lK (by have:=Q1.size;simp;omega) ?_;intro a6 c6 y2 h6;have H6:=jj h6;clear h6))
 try go_step3
 have Q2:Only [gr] w y2:=by
  have b:=(Only.of_below (S:= [gr]) ((aC y1.heap.size y1).alloc (aF _) (.cells #[U x0,U x1] 311)));refine(Q1.trans b).then H6.only (fun k hk=> .inr ?_);exact(lW O1 k hk).1
 have R2:=(R1.keep ((aC y1.heap.size y1).alloc (aF _) (.cells #[U x0,U x1] 311))).far H6.only (fun hm=>by
   obtain⟨_,cs,hcs⟩:=lW O1 _ hm;exact R1.blk.nY hcs lN rfl) (fun k hk=>aG BW.size (lW O1 k hk).1)
 refine dH rfl (dH ?_ (by simp only[iF];simp[EU];omega));rw[HJ.out];exact⟨i+1,a6,c6,_,_,_,_,_,_,_,_,_,_,_,_,_,_,_,_,_,_,_,_,_,_,_,_,lK,by rw[TK.out,av,<-dL];exact R2,by rw[TK.out];exact H6.own,Q2,rfl⟩
theorem Sd(w:World)(a:OA)(m c:Nat)(bs:LI)(k:Nat)(hv:mo w a m 1 (mZ bs))(hm:bs.length=m)(hm2:m<=1048576)(l:List Rq)(n:Nat)(hn:l.length=n)(wB:n<=256)(hok: ∀r∈l,xH r)(hat:At bs k (nI oK l)):
  Y 244 #[.slice a m c,U k,.func (.func 245) #[] #[]] w fun e w'=> ∃a' c',e= .returned (.tuple #[.slice a' n c',U ((k+(nI oK l).length:Nat):Int),true])/\w'.ownsRow w.heap.size 49 6 (.slice a' n c') n (l.flatMap rA)/\Be w w':=by
 obtain⟨HV,HM,HN,HO,HAT⟩:=j5 hv hm hn hok hat;obtain⟨j,hj⟩:=ex (k+(nI oK l).length);rw[<-hj];have HJ:=jj hj;clear hv hm hn hok hat hj;go_enter func244,ntmps244
 go_upto_region 2 with fail
 generalize hw1:w.alloc _=w1;generalize hgr:w.heap.size=gr;replace hw1:=hw1.symm;replace hgr:=hgr.symm;have R1:Hid (Rd w w1 gr a m c bs k):=jj ⟨by rw[hw1,hgr];exact lQ.new _ _ _,HV,HM,hm2,by rw[hw1];exact nC,lK⟩;clear hw1 hgr
 go_wp2_with fail
 refine(Gb R1 l n HN wB HO HAT).mono ?_;rintro e w2 ⟨a',c',rfl,ho,hr,hq⟩;rw[<-HJ.out] at hr;have R2:=jj hr;have O2:=jj (mO ho R1.below.size);have d2:=hr.blk.at_ 2;have d1:=hr.blk.at_ 1;clear ho hr hq
 go_upto_region 5 with fail
 refine rP (fun w'=>J w' gr 1 (U j)) 8 (tk 0 8 .done) d1 ?_;intro hS0
 repeat refine' tT ?_
 refine lM ?_;clear hS0
 go_wp2_with fail
 go_ret3
 exact⟨a',c',by trivial,own_below O2 ((aC _ _).drew),R2.below.drew⟩
theorem UL(w:World)(a:OA)(m c:Nat)(bs:LI)(k:Nat)(hv:mo w a m 1 (mZ bs))(hm:bs.length=m)(hm2:m<=1048576)(l:List Rq)(n:Nat)(hn:l.length=n)(wB:n<=256)(hok: ∀r∈l,xH r)(hat:At bs k (nI oK l)):
  Y 197 #[.slice a m c,U k] w fun e w'=> ∃a' c',e= .returned (.tuple #[.slice a' n c',U ((k+(nI oK l).length:Nat):Int),true])/\w'.ownsRow w.heap.size 49 6 (.slice a' n c') n (l.flatMap rA)/\Be w w':=by
 have HC:=jj (Sd w a m c bs k hv hm hm2 l n hn wB hok hat);clear hv hm hn hok hat;obtain⟨j,hj⟩:=ex (k+(nI oK l).length);rw[<-hj] at HC|-;clear hj;go_enter func197,ntmps197
 go_wp2_with fail
 refine HC.mono ?_;rintro e w2 ⟨a',c',rfl,ho,hb⟩;have O2:=jj ho;have B2:=jj hb;clear ho hb
 go_wp2_with fail
 go_ret3
 exact⟨a',c',by trivial,O2,B2⟩
theorem Pg(w:World)(a:OA)(m c:Nat)(bs:LI)(k:Nat)(hv:mo w a m 1 (mZ bs))(hm:bs.length=m)(hm2:m<=1048576)(l:List Vo)(n:Nat)(hn:l.length=n)(wB:n<=256)(hok: ∀r∈l,Kv r)(hat:At bs k (nI uQ l)):
  Y 246 #[.slice a m c,U k,.func (.func 247) #[] #[]] w fun e w'=> ∃a' c',e= .returned (.tuple #[.slice a' n c',U ((k+(nI uQ l).length:Nat):Int),true])/\w'.ownsRow w.heap.size 311 2 (.slice a' n c') n (l.flatMap Cg)/\Be w w':=by
 obtain⟨HV,HM,HN,HO,HAT⟩:=j5 hv hm hn hok hat;obtain⟨j,hj⟩:=ex (k+(nI uQ l).length);rw[<-hj];have HJ:=jj hj;clear hv hm hn hok hat hj;go_enter func246,ntmps246
 go_upto_region 2 with fail
 generalize hw1:w.alloc _=w1;generalize hgr:w.heap.size=gr;replace hw1:=hw1.symm;replace hgr:=hgr.symm;have R1:Hid (Rd w w1 gr a m c bs k):=jj ⟨by rw[hw1,hgr];exact lQ.new _ _ _,HV,HM,hm2,by rw[hw1];exact nC,lK⟩;clear hw1 hgr
 go_wp2_with fail
 refine(Ef R1 l n HN wB HO HAT).mono ?_;rintro e w2 ⟨a',c',rfl,ho,hr,hq⟩;rw[<-HJ.out] at hr;have R2:=jj hr;have O2:=jj (mO ho R1.below.size);have d2:=hr.blk.at_ 2;have d1:=hr.blk.at_ 1;clear ho hr hq
 go_upto_region 5 with fail
 refine rP (fun w'=>J w' gr 1 (U j)) 8 (tk 0 8 .done) d1 ?_;intro hS0
 repeat refine' tT ?_
 refine lM ?_;clear hS0
 go_wp2_with fail
 go_ret3
 exact⟨a',c',by trivial,own_below O2 ((aC _ _).drew),R2.below.drew⟩
theorem RH(w:World)(a:OA)(m c:Nat)(bs:LI)(k:Nat)(hv:mo w a m 1 (mZ bs))(hm:bs.length=m)(hm2:m<=1048576)(l:List Vo)(n:Nat)(hn:l.length=n)(wB:n<=256)(hok: ∀r∈l,Kv r)(hat:At bs k (nI uQ l)):
  Y 198 #[.slice a m c,U k] w fun e w'=> ∃a' c',e= .returned (.tuple #[.slice a' n c',U ((k+(nI uQ l).length:Nat):Int),true])/\w'.ownsRow w.heap.size 311 2 (.slice a' n c') n (l.flatMap Cg)/\Be w w':=by
 have HC:=jj (Pg w a m c bs k hv hm hm2 l n hn wB hok hat);clear hv hm hn hok hat;obtain⟨j,hj⟩:=ex (k+(nI uQ l).length);rw[<-hj] at HC|-;clear hj;go_enter func198,ntmps198
 go_wp2_with fail
 refine HC.mono ?_;rintro e w2 ⟨a',c',rfl,ho,hb⟩;have O2:=jj ho;have B2:=jj hb;clear ho hb
 go_wp2_with fail
 go_ret3
 exact⟨a',c',by trivial,O2,B2⟩
theorem mh{base e s n:Nat}{v:Value}{xs:LV}{cs:AV}(h:w.ownsRow base e s v n xs)(ho:Only [g] w w')(hb:lQ w g t cs)(hne:e≠t):w'.ownsRow base e s v n xs:=
 mK h ho fun b hbb hm=>mG h hb hne (by
  have e:b=g:=by simpa using hm
  rw[<-e];exact hbb)
structure Fw(w:World)(B:Nat)(c:CD):Prop where
 b:w.ownsRow B 49 6 (.slice c.ba c.bn c.bc) c.bn (c.bs.flatMap rA)
 v:w.ownsRow B 311 2 (.slice c.va c.vn c.vc) c.vn (c.vs.flatMap Cg)
 lb:c.bs.length=c.bn
 lv:c.vs.length=c.vn
theorem Fw.only{c:CD}(h:Fw w B c)(ho:Only S w w')(hS: ∀g∈S,∃t cs,lQ w g t cs/\t≠49/\t≠311):Fw w' B c:=
 ⟨mK h.b ho (fun g hg hm=>by
  obtain⟨t,cs,hb,h1,h2⟩:=hS g hm;exact mG h.b hb h1.symm hg),mK h.v ho (fun g hg hm=>by
  obtain⟨t,cs,hb,h1,h2⟩:=hS g hm;exact mG h.v hb h2.symm hg),h.lb,h.lv⟩
theorem Fw.base{B':Nat}{c:CD}(h:Fw w B c)(hB:B'<=B):Fw w B' c:=⟨mO h.b hB,mO h.v hB,h.lb,h.lv⟩
theorem Fw.below{c:CD}(h:Fw w B c)(hb:Be w w'):Fw w' B c:=h.only (Only.of_below (S:= []) hb) lT
theorem Wu(h:Rd w0 w gr a m c bs k)(ce:Ce)(hc:Et ce)(hat:At bs k (uG ce)):
  Y 249 #[gr] w fun e w'=> ∃cd:CD,e= .returned (.agg (nS cd).toArray)/\pz cd=ce/\Fw w' w.heap.size cd/\Rd w0 w' gr a m c bs (k+(uG ce).length)/\Only [gr] w w':=by
 obtain⟨z0,z1,z2,bl,vl⟩:=ce;obtain⟨p0,p1,p2,ob,ov,nb,nv⟩:=hc;simp only at p0 p1 p2 ob ov nb nv;obtain⟨r0,rfl⟩:=bB p0.1;obtain⟨r1,rfl⟩:=bB p1.1;obtain⟨r2,rfl⟩:=bB p2.1;have N0:Hid (r0<1099511627776):=jj (tL p0.2);have N1:Hid (r1<1099511627776):=jj (tL p1.2);have N2:Hid (r2<1099511627776):=jj (tL p2.2);have OB:=jj ob;have OV:=jj ov;have EC:=hat;simp only[uG,bI] at EC;have A0:=jj EC.left;have ZM:=EC.right;have A1:=jj ZM.left;have at2:=ZM.right;have A2:=jj at2.left;have at3:=at2.right;have A3:=jj at3.left;have A4:=jj at3.right;have LL:Hid (k+(uG ⟨(r0:Int),(r1:Int),(r2:Int),bl,vl⟩).length=k+(mD r0).length+(mD r1).length+(mD r2).length+(nI oK bl).length+(nI uQ vl).length):=jj (by simp only[uG,bI,av];omega);clear hat EC ZM at2 at3 p0 p1 p2 ob ov;rw[LL.out];have H:=jj h;clear h;go_enter func249,ntmps249
 go_upto_region 2 with fail
 obtain⟨g3,hg3⟩:=ex (w.heap.size+1);obtain⟨g2,hg2⟩:=ex w.heap.size;obtain⟨v0,hv0⟩:=ex ((w.alloc (.cells #[U 0,U 0,U 0,(),()] 228)).alloc (.cells #[U 0,U 0,U 0,(),()] 228));rw[<-hv0,<-hg3,<-hg2];have hB:Be w v0:=by rw[hv0];exact nC.alloc lT _
 have YP:Hid (lQ v0 g3 228 #[U 0,U 0,U 0,(),()]):=jj (by rw[hv0];exact lQ.new' _ _ _ (by simp[hg3]));have BR0:Hid (lQ v0 g2 228 #[U 0,U 0,U 0,(),()]):=jj (by rw[hv0,hg2];exact(lQ.new _ _ _).alloc _);have R0:=jj (H.keep hB);have O0:=jj (Only.of_below (S:= [gr,g3]) hB);have NG:Hid (w.heap.size<=g3/\g2≠g3/\w.heap.size<=g2):=jj lK;have GR:Hid (gr<w.heap.size):=jj H.blk.lt;clear hv0 hg3 hg2 hB
 go_wp2_with fail
 refine(ug R0 _ N0 A0).mono ?_;rintro e u1 ⟨rfl,hr1,ho1⟩;have bx1:=YP.only ho1 (mR (YP.nY R0.blk lN));have br1:=BR0.only ho1 (mR (BR0.nY R0.blk lN));obtain⟨v1,hv1⟩:=ex (u1.setCell ⟨g3,0,none⟩ (U r0));have o9:Only [g3] u1 v1:=by rw[hv1];exact(Only.refl _ _).setCell (.inl lT) _
 have AY:Hid (lQ v1 g3 228 #[U r0,U 0,U 0,(),()]):=jj (by rw[hv1];exact bx1.mg 0 _);have BR1:=jj (br1.only o9 (mR NG.2.1));have R1:=jj (hr1.far o9 (by have:=GR.out;have:=NG.1;simp;omega) (by have:=H.below.size;have:=NG.1;simp;omega));have O1:=jj ((O0.then ho1 lT).then o9 lT);have cc:=bx1.at_ 0;have ff:=bx1.frozen 0;have YT:=jj hv1;clear hr1 ho1 bx1 br1 hv1 o9
 go_upto_region 3 with fail
 rw[<-YT.out];clear cc ff
 go_wp2_with fail
 refine(ug R1 _ N1 A1).mono ?_;rintro e u2 ⟨rfl,hr2,ho2⟩;have Vp:=AY.only ho2 (mR (AY.nY R1.blk lN));have br2:=BR1.only ho2 (mR (BR1.nY R1.blk lN));obtain⟨v2,hv2⟩:=ex (u2.setCell ⟨g3,1,none⟩ (U r1));have o9:Only [g3] u2 v2:=by rw[hv2];exact(Only.refl _ _).setCell (.inl lT) _
 have yM:Hid (lQ v2 g3 228 #[U r0,U r1,U 0,(),()]):=jj (by rw[hv2];exact Vp.mg 1 _);have Ze:=jj (br2.only o9 (mR NG.2.1));have R2:=jj (hr2.far o9 (by have:=GR.out;have:=NG.1;simp;omega) (by have:=H.below.size;have:=NG.1;simp;omega));have O2:=jj ((O1.then ho2 lT).then o9 lT);have cc:=Vp.at_ 1;have ff:=Vp.frozen 1;have SF:=jj hv2;clear hr2 ho2 Vp br2 hv2 o9
 go_upto_region 4 with fail
 rw[<-SF.out];clear cc ff
 go_wp2_with fail
 refine(ug R2 _ N2 A2).mono ?_;rintro e u3 ⟨rfl,hr3,ho3⟩;have bx3:=yM.only ho3 (mR (yM.nY R2.blk lN));have br3:=Ze.only ho3 (mR (Ze.nY R2.blk lN));obtain⟨v3,hv3⟩:=ex (u3.setCell ⟨g3,2,none⟩ (U r2));have o9:Only [g3] u3 v3:=by rw[hv3];exact(Only.refl _ _).setCell (.inl lT) _
 have Sv:Hid (lQ v3 g3 228 #[U r0,U r1,U r2,(),()]):=jj (by rw[hv3];exact bx3.mg 2 _);have BR3:=jj (br3.only o9 (mR NG.2.1));have R3:=jj (hr3.far o9 (by have:=GR.out;have:=NG.1;simp;omega) (by have:=H.below.size;have:=NG.1;simp;omega));have O3:=jj ((O2.then ho3 lT).then o9 lT);have cc:=bx3.at_ 2;have ff:=bx3.frozen 2;have HV3:=jj hv3;clear hr3 ho3 bx3 br3 hv3 o9
 go_upto_region 5 with fail
 rw[<-HV3.out];clear cc ff
 go_wp2_with fail
 refine(Gb R3 bl _ rfl nb OB A3).mono ?_;rintro e u4 ⟨ba,bc,rfl,hw4,hr4,xQ⟩;have hw4:=mO hw4 O3.size;have bx4:=Sv.only xQ (mR (Sv.nY R3.blk lN));have br4:=BR3.only xQ (mR (BR3.nY R3.blk lN));obtain⟨v4,hv4⟩:=ex (u4.setCell ⟨g3,3,none⟩ (.slice ba bl.length bc));have o9:Only [g3] u4 v4:=by rw[hv4];exact(Only.refl _ _).setCell (.inl lT) _
 have BX4:Hid (lQ v4 g3 228 #[U r0,U r1,U r2,.slice ba bl.length bc,()]):=jj (by rw[hv4];exact bx4.mg 3 _);have BR4:=jj (br4.only o9 (mR NG.2.1));have R4:=jj (hr4.far o9 (by have:=GR.out;have:=NG.1;simp;omega) (by have:=H.below.size;have:=NG.1;simp;omega));have O4:=jj ((O3.then xQ lT).then o9 lT);have OW3:=jj (mh hw4 o9 bx4 lN);clear hw4;have cc:=bx4.at_ 3;have ff:=bx4.frozen 3;have HV4:=jj hv4;clear hr4 xQ bx4 br4 hv4 o9
 go_upto_region 6 with fail
 rw[<-HV4.out];clear cc ff
 go_wp2_with fail
 refine(Ef R4 vl _ rfl nv OV A4).mono ?_;rintro e u5 ⟨va,vc,rfl,zM,hr5,Kg⟩;have zM:=mO zM O4.size;have ZW:=BX4.only Kg (mR (BX4.nY R4.blk lN));have br5:=BR4.only Kg (mR (BR4.nY R4.blk lN));obtain⟨v5,hv5⟩:=ex (u5.setCell ⟨g3,4,none⟩ (.slice va vl.length vc));have o9:Only [g3] u5 v5:=by rw[hv5];exact(Only.refl _ _).setCell (.inl lT) _
 have BX5:Hid (lQ v5 g3 228 #[U r0,U r1,U r2,.slice ba bl.length bc,.slice va vl.length vc]):=jj (by rw[hv5];exact ZW.mg 4 _);have Sr:=jj (br5.only o9 (mR NG.2.1));have R5:=jj (hr5.far o9 (by have:=GR.out;have:=NG.1;simp;omega) (by have:=H.below.size;have:=NG.1;simp;omega));have O5:=jj ((O4.then Kg lT).then o9 lT);have ano:=jj (mh (mh OW3 Kg R4.blk lN) o9 ZW lN);have OW4:=jj (mh zM o9 ZW lN);clear zM;have cc:=ZW.at_ 4;have ff:=ZW.frozen 4;have HV5:=jj hv5;clear hr5 Kg ZW br5 hv5 o9
 go_upto_region 7 with fail
 rw[<-HV5.out];clear cc ff;obtain⟨d0,d1,d2,d3,d4⟩:=BX5.a5;have e0:=Sr.at_ 0;have z0:=Sr.frozen 0;have e1:=Sr.at_ 1;have z1:=Sr.frozen 1;have e2:=Sr.at_ 2;have z2:=Sr.frozen 2;have e3:=Sr.at_ 3;have z3:=Sr.frozen 3;have e4:=Sr.at_ 4;have z4:=Sr.frozen 4
 go_wp2_with fail
 obtain⟨w9,mE⟩:=ex ((((((v5).setCell ⟨g2,0,none⟩ (U r0)).setCell ⟨g2,1,none⟩ (U r1)).setCell ⟨g2,2,none⟩ (U r2)).setCell ⟨g2,3,none⟩ (.slice ba bl.length bc)).setCell ⟨g2,4,none⟩ (.slice va vl.length vc));rw[<-mE];have K9:lQ w9 g2 228 #[U r0,U r1,U r2,.slice ba bl.length bc,.slice va vl.length vc]:=by rw[mE];exact(((((Sr.mg 0 _).mg 1 _).mg 2 _).mg 3 _).mg 4 _)
 have o9:Only [g2] v5 w9:=by rw[mE];exact((((((Only.refl [g2] v5).setCell (.inl lT) _).setCell (.inl lT) _).setCell (.inl lT) _).setCell (.inl lT) _).setCell (.inl lT) _)
 have R9:=R5.far o9 (by have:=GR.out;have:=NG.2.2;simp;omega) (by have:=H.below.size;have:=NG.2.2;simp;omega);have O9:Only [gr] w w9:=(O5.then o9 (by have:=NG.2.2;simp;omega)).mono (by have:=NG.1;simp;omega);have CD5:Fw v5 w.heap.size ⟨(r0:Int),(r1:Int),(r2:Int),ba,bl.length,bc,bl,va,vl.length,vc,vl⟩:=⟨ano,OW4,rfl,rfl⟩;have CD9:=CD5.only o9 (fun g hg=>by
  have e:g=g2:=by simpa using hg
  exact⟨_,_,by rw[e];exact Sr.out,lN,lN⟩)
 refine dF (v:= .agg #[U r0,U r1,U r2,.slice ba bl.length bc,.slice va vl.length vc]) ?_ rfl ⟨_,rfl,rfl,CD9,R9,O9⟩;exact gM Tryz.results249 _ w9 g2 _ _ _ _ (by rfl) K9 underlying228 rfl (by kernel_rfl)
theorem KU(h:Rd w0 w gr a m c bs k)(hat:At bs k (mD 0)):
  Y 278 #[gr,.func (.func 251) #[] #[]] w fun e w'=>e= .returned ()/\Rd w0 w' gr a m c bs (k+(mD 0).length)/\Only [gr] w w':=by
 have H:=jj h;have HAT:=jj hat;clear h hat;go_enter func278,ntmps278
 go_wp2_with fail
 apply jd
 go_wp2_with fail
 refine(ug H 0 lK HAT).mono ?_;rintro e w1 ⟨rfl,hr,ho⟩;have R1:=jj hr;have O1:=jj ho;have d2:=hr.blk.at_ 2;clear hr ho
 go_wp2_with fail
 go_step3
 go_wp2_with fail
 try rw[jB]
 go_ret;exact⟨by trivial,R1,O1⟩
theorem La(w:World)(a:OA)(m c:Nat)(bs:LI)(k:Nat)(hv:mo w a m 1 (mZ bs))(hm:bs.length=m)(hm2:m<=1048576)(hat:At bs k (mD 0)):
  Y 250 #[.slice a m c,U k,.func (.func 251) #[] #[]] w fun e w'=>e= .returned (.tuple #[(),U ((k+(mD 0).length:Nat):Int),true])/\Be w w':=by
 obtain⟨HV,HM,HAT⟩:=j3 hv hm hat;obtain⟨j,hj⟩:=ex (k+(mD 0).length);rw[<-hj];have HJ:=jj hj;clear hv hm hat hj;go_enter func250,ntmps250
 go_upto_region 2 with fail
 generalize hw1:w.alloc _=w1;generalize hgr:w.heap.size=gr;replace hw1:=hw1.symm;replace hgr:=hgr.symm;have R1:Hid (Rd w w1 gr a m c bs k):=jj ⟨by rw[hw1,hgr];exact lQ.new _ _ _,HV,HM,hm2,by rw[hw1];exact nC,lK⟩;clear hw1 hgr
 go_wp2_with fail
 refine(KU R1 HAT).mono ?_;rintro e w2 ⟨rfl,hr,hq⟩;rw[<-HJ.out] at hr;have R2:=jj hr;have d2:=hr.blk.at_ 2;have d1:=hr.blk.at_ 1;clear hr hq
 go_upto_region 5 with fail
 refine rP (fun w'=>J w' gr 1 (U j)) 8 (tk 0 8 .done) d1 ?_;intro hS0
 repeat refine' tT ?_
 refine lM ?_;clear hS0
 go_wp2_with fail
 go_ret3
 exact⟨by trivial,R2.below.drew⟩
theorem OT(w:World)(a:OA)(m c:Nat)(bs:LI)(k:Nat)(hv:mo w a m 1 (mZ bs))(hm:bs.length=m)(hm2:m<=1048576)(hat:At bs k (mD 0)):
  Y 200 #[.slice a m c,U k] w fun e w'=>e= .returned (.tuple #[(),U ((k+(mD 0).length:Nat):Int),true])/\Be w w':=by
 have HC:=jj (La w a m c bs k hv hm hm2 hat);clear hv hm hat;obtain⟨j,hj⟩:=ex (k+(mD 0).length);rw[<-hj] at HC|-;clear hj;go_enter func200,ntmps200
 go_wp2_with fail
 refine HC.mono ?_;rintro e w2 ⟨rfl,hb⟩;have B2:=jj hb;clear hb
 go_wp2_with fail
 go_ret3
 exact⟨by trivial,B2⟩
theorem Fw.uY{cs:AV}{c:CD}(h:Fw w B c)(ho:Only [g] w w')(hb:lQ w g t cs)(h1:t≠49)(h2:t≠311):Fw w' B c:=
 h.only ho fun k hk=>⟨t,cs,by rw[au.1 hk];exact hb,h1,h2⟩
theorem Uc:(prog.info? 228).map (fun i=>(i.zero,i.size,i.bytes))=some (some (.agg #[U 0,U 0,U 0,(),()]),5,72):=by kernel_rfl
theorem OU(h:Rd w0 w gr a m c bs k)(l:List Ce)(n:Nat)(hn:l.length=n)(wB:n<=256)(hok: ∀r∈l,Et r)(hat:At bs k (nI uG l)):
  Y 277 #[gr,.func (.func 249) #[] #[]] w fun e w'=> ∃(a':OA) (c':Nat) (ds:List CD),e= .returned (.slice a' n c')/\ds.map pz=l/\(∀d∈ds,Fw w' w.heap.size d)/\w'.ownsRow w.heap.size 228 5 (.slice a' n c') n (ds.flatMap nS)/\Rd w0 w' gr a m c bs (k+(nI uG l).length)/\Only [gr] w w':=by
 obtain⟨i0,hi0,hz0,hz1,hz2⟩:=bq Uc;obtain⟨H,HN,Nq⟩:=j3 h hn hok;have hat':=hat;unfold nI at hat';rw[hn] at hat';have AN:=jj hat'.left;obtain⟨p,hp⟩:=ex (k+(mD n).length);have hr:=hat'.right;rw[<-hp] at hr;have HAT:=jj hr;have LL:Hid (k+(nI uG l).length=p+(l.flatMap uG).length):=jj (by rw[hp];unfold nI;rw[hn,av];omega);have HP:=jj hp;have BW:=jj h.below;clear h hok hat hat' hr hp hn;have i256: ¬(256:Int)<n:=lK;go_enter func277,ntmps277
 go_wp2_with fail
 obtain⟨J0,hJ⟩: ∃J0:Act->World->Prop,J0=(fun a' w'=> ∃(i:Nat) (a5:OA) (c5:Nat) (ds:List CD) (u2 u3 u7 u8 u9 AP Gc Gd Gf CS CX u16 Fp Fq yL u20 u21 u22 u23 u24 u25 u26 u27 u28:Value),i<=n/\ds.map pz=l.take i/\(∀d∈ds,Fw w' w.heap.size d)/\Rd w0 w' gr a m c bs (p+((l.take i).flatMap uG).length)/\w'.ownsRow w.heap.size 228 5 (.slice a5 i c5) i (ds.flatMap nS)/\Only [gr] w w'/\a'={tmps:=#[.pointer (some ⟨gr,0,none⟩),.func (.func 249) #[] #[],u2,u3,.slice none 0 0,.slice a5 i c5,U (n:Int),u7,u8,u9,AP,Gc,Gd,Gf,CS,CX,u16,Fp,Fq,yL,u20,u21,u22,u23,u24,u25,u26,u27,u28],defers:= []}):=⟨_,rfl⟩;have HJ:=jj hJ;clear hJ;refine gD 1 J0 (fun a' _=>n -EU (a'.tmps.getD 5 undef)) rfl ?_ ?_
 ·go_wp2_with fail
  refine(ug H n lK AN).mono ?_;rintro e wi ⟨rfl,hr1,ho1⟩;rw[<-HP.out] at hr1;have HR:Hid (Rd w0 wi gr a m c bs (p+((l.take 0).flatMap uG).length)):=jj (mR hr1);have HO:Hid (wi.ownsRow w.heap.size 228 5 () 0 (([]:List CD).flatMap nS)):=jj ⟨rfl,.inl ⟨rfl,rfl⟩⟩;have HD:Hid (([]:List CD).map pz=l.take 0):=jj rfl;have HI:Hid (∀d∈([]:List CD),Fw wi w.heap.size d):=jj (fun d hd=>absurd hd lT);have HQ:=jj ho1;clear hr1 ho1
  go_wp2_with fail
  go_step3
  by_cases hin:0=n
  ·subst hin
   have E1:Hid (l.take 0=l):=jj (by rw[<-HN.out];exact dP);have d2:=HR.blk.at_ 2
   go_wp2_with fail
   simp only[Exit.jump];go_ret;rw[E1.out] at HR HD;exact⟨none,0,([]:List CD),by trivial,HD,HI,HO,by rw[LL.out];exact HR.out,HQ⟩
  have d2:=HR.blk.at_ 2;have hlt:0<n:=lK;have hil:0<l.length:=by rw[HN.out];exact hlt
  have n1: ¬(0:Int)=n:=lK;obtain⟨r,hr⟩: ∃r,l[0]?=some r:=⟨_,aj hil⟩;have her:l[0]=r:=by rw[aj hil] at hr;exact dh hr
  have RO:=jj (Nq.out r (ak hr));have AR:=jj (Bb HAT hr);have TK:Hid ((l.take (0+1)).flatMap uG=(l.take 0).flatMap uG++uG r):=jj (by rw[bA hil,her];simp);have TL:Hid (l.take (0+1)=l.take 0++ [r]):=jj (by rw[bA hil,her]);have CC:Hid (Y 249 #[gr] wi (fun e w'=> ∃(cv ci cq:Int) (ba:OA) (bn bc:Nat) (br:List Rq) (va:OA) (vn vc:Nat) (vr:List Vo),e= .returned (.agg #[U cv,U ci,U cq,.slice ba bn bc,.slice va vn vc])/\pz ⟨cv,ci,cq,ba,bn,bc,br,va,vn,vc,vr⟩=r/\Fw w' wi.heap.size ⟨cv,ci,cq,ba,bn,bc,br,va,vn,vc,vr⟩/\Rd w0 w' gr a m c bs (p+((l.take 0).flatMap uG).length+(uG r).length)/\Only [gr] wi w')):=
   jj ((Wu HR r RO AR).mono fun e w' ⟨d,h1,h2,h3,h4,h5⟩=>⟨d.view,d.inst,d.seq,d.ba,d.bn,d.bc,d.bs,d.va,d.vn,d.vc,d.vs,h1,h2,h3,h4,h5⟩)
  clear hr her hil hin
  go_wp2_with(first
   |(go_at_call 249;refine(CC).mono ?_;rintro e y1 ⟨cv,ci,cq,ba,bn,bc,br,va,vn,vc,vr,rfl,hce,hcd,hr1,ho1⟩;have CE:=jj hce;have CD1:=jj (hcd.base HQ.size);have R1:=jj hr1;have Q1:=jj (HQ.trans ho1);have O1:=jj (mh HO ho1 HR.blk lN);have I1:=jj (fun d hd=>(HI.out d hd).uY ho1 HR.blk lN lN);clear hce hcd hr1 ho1)
   |(at_builtin;refine lZ rfl _ _ _ rfl w.heap.size 228 i0 _ 5 72 underlying79 hi0 hz0 hz1 hz2 rfl lK none 0 0 (([]:List CD).flatMap nS) rfl (own_below O1 nC) (some ⟨y1.heap.size,0,none⟩) 1 1 (nS ⟨cv,ci,cq,ba,bn,bc,br,va,vn,vc,vr⟩) rfl (mo.nR (n:=1) (s:=5) (lQ.new y1 228 #[U cv,U ci,U cq,.slice ba bn bc,.slice va vn vc]) rfl) (by intro u hu;simp[nS] at hu;rcases hu with rfl|rfl|rfl|rfl|rfl<;>rfl) (by unfold maxLen;omega) lK (by have:=Q1.size;simp;omega) ?_;intro a6 c6 y2 h6;have H6:=jj h6;clear h6))
  try go_step3
  have BA:Be y1 (y1.alloc (.cells #[U cv,U ci,U cq,.slice ba bn bc,.slice va vn vc] 228)):=(aC y1.heap.size y1).alloc (aF _) _;have SB:=lW (own_below O1 BA);have Q2:Only [gr] w y2:=(Q1.trans (Only.of_below (S:= [gr]) BA)).then H6.only (fun k hk=> .inr (SB k hk).1);have R2:=(R1.keep BA).far H6.only (fun hm=>by
    obtain⟨_,cs,hcs⟩:=lW O1 _ hm;exact R1.blk.nY hcs lN rfl) (fun k hk=>aG BW.size (SB k hk).1)
  have I2: ∀d∈([]:List CD)++ [(⟨cv,ci,cq,ba,bn,bc,br,va,vn,vc,vr⟩:CD)],Fw y2 w.heap.size d:=fun d hd=>by
   have key:Fw y1 w.heap.size d:=by
    rcases aQ.1 hd with hd|hd
    ·exact I1.out d hd
    rw[au.1 hd];exact CD1.out
   exact(key.below BA).only H6.only (fun g hg=>by
    obtain⟨_,cs,hcs⟩:=SB g hg;exact⟨_,cs,hcs,lN,lN⟩)
  refine dH rfl ?_;rw[HJ.out];exact⟨0+1,a6,c6,([]:List CD)++ [⟨cv,ci,cq,ba,bn,bc,br,va,vn,vc,vr⟩],_,_,_,_,_,_,_,_,_,_,_,_,_,_,_,_,_,_,_,_,_,_,_,_,lK,by rw[bR,HD.out,TL.out,bV,fu,CE.out],I2,by rw[TK.out,av,<-dL];exact R2,by rw[bS,bQ,iM,eG];exact H6.own,Q2,rfl⟩
 rintro a' wi hJJ;rw[HJ.out] at hJJ;obtain⟨i,a5,c5,ds,u2,u3,u7,u8,u9,AP,Gc,Gd,Gf,CS,CX,u16,Fp,Fq,yL,u20,u21,u22,u23,u24,u25,u26,u27,u28,hi,hd1,hi1,hr1,ho1,hq1,rfl⟩:=hJJ;obtain⟨HR,HO,HQ,HD,HI⟩:=j5 hr1 ho1 hq1 hd1 hi1;clear hr1 ho1 hq1 hd1 hi1;by_cases hin:i=n
 ·subst hin
  have E1:Hid (l.take i=l):=jj (by rw[<-HN.out];exact dP);have d2:=HR.blk.at_ 2
  go_wp2_with fail
  simp only[Exit.jump];go_ret;rw[E1.out] at HR HD;exact⟨a5,c5,ds,by trivial,HD,HI,HO,by rw[LL.out];exact HR.out,HQ⟩
 have d2:=HR.blk.at_ 2;have hlt:i<n:=lK;have hil:i<l.length:=by rw[HN.out];exact hlt
 have n1: ¬(i:Int)=n:=lK;obtain⟨r,hr⟩: ∃r,l[i]?=some r:=⟨_,aj hil⟩;have her:l[i]=r:=by rw[aj hil] at hr;exact dh hr
 have RO:=jj (Nq.out r (ak hr));have AR:=jj (Bb HAT hr);have TK:Hid ((l.take (i+1)).flatMap uG=(l.take i).flatMap uG++uG r):=jj (by rw[bA hil,her];simp);have TL:Hid (l.take (i+1)=l.take i++ [r]):=jj (by rw[bA hil,her]);have CC:Hid (Y 249 #[gr] wi (fun e w'=> ∃(cv ci cq:Int) (ba:OA) (bn bc:Nat) (br:List Rq) (va:OA) (vn vc:Nat) (vr:List Vo),e= .returned (.agg #[U cv,U ci,U cq,.slice ba bn bc,.slice va vn vc])/\pz ⟨cv,ci,cq,ba,bn,bc,br,va,vn,vc,vr⟩=r/\Fw w' wi.heap.size ⟨cv,ci,cq,ba,bn,bc,br,va,vn,vc,vr⟩/\Rd w0 w' gr a m c bs (p+((l.take i).flatMap uG).length+(uG r).length)/\Only [gr] wi w')):=
  jj ((Wu HR r RO AR).mono fun e w' ⟨d,h1,h2,h3,h4,h5⟩=>⟨d.view,d.inst,d.seq,d.ba,d.bn,d.bc,d.bs,d.va,d.vn,d.vc,d.vs,h1,h2,h3,h4,h5⟩)
 clear hr her hil hin
 go_wp2_with(first
  |(go_at_call 249;refine(CC).mono ?_;rintro e y1 ⟨cv,ci,cq,ba,bn,bc,br,va,vn,vc,vr,rfl,hce,hcd,hr1,ho1⟩;have CE:=jj hce;have CD1:=jj (hcd.base HQ.size);have R1:=jj hr1;have Q1:=jj (HQ.trans ho1);have O1:=jj (mh HO ho1 HR.blk lN);have I1:=jj (fun d hd=>(HI.out d hd).uY ho1 HR.blk lN lN);clear hce hcd hr1 ho1)
  |(at_builtin;refine lZ rfl _ _ _ rfl w.heap.size 228 i0 _ 5 72 underlying79 hi0 hz0 hz1 hz2 rfl lK a5 i c5 (ds.flatMap nS) rfl (own_below O1 nC) (some ⟨y1.heap.size,0,none⟩) 1 1 (nS ⟨cv,ci,cq,ba,bn,bc,br,va,vn,vc,vr⟩) rfl (mo.nR (n:=1) (s:=5) (lQ.new y1 228 #[U cv,U ci,U cq,.slice ba bn bc,.slice va vn vc]) rfl) (by intro u hu;simp[nS] at hu;rcases hu with rfl|rfl|rfl|rfl|rfl<;>rfl) (by unfold maxLen;omega) lK (by have:=Q1.size;simp;omega) ?_;intro a6 c6 y2 h6;have H6:=jj h6;clear h6))
 try go_step3
 have BA:Be y1 (y1.alloc (.cells #[U cv,U ci,U cq,.slice ba bn bc,.slice va vn vc] 228)):=(aC y1.heap.size y1).alloc (aF _) _;have SB:=lW (own_below O1 BA);have Q2:Only [gr] w y2:=(Q1.trans (Only.of_below (S:= [gr]) BA)).then H6.only (fun k hk=> .inr (SB k hk).1);have R2:=(R1.keep BA).far H6.only (fun hm=>by
   obtain⟨_,cs,hcs⟩:=lW O1 _ hm;exact R1.blk.nY hcs lN rfl) (fun k hk=>aG BW.size (SB k hk).1)
 have I2: ∀d∈ds++ [(⟨cv,ci,cq,ba,bn,bc,br,va,vn,vc,vr⟩:CD)],Fw y2 w.heap.size d:=fun d hd=>by
  have key:Fw y1 w.heap.size d:=by
   rcases aQ.1 hd with hd|hd
   ·exact I1.out d hd
   rw[au.1 hd];exact CD1.out
  exact(key.below BA).only H6.only (fun g hg=>by
   obtain⟨_,cs,hcs⟩:=SB g hg;exact⟨_,cs,hcs,lN,lN⟩)
 refine dH rfl (dH ?_ (by simp only[iF];simp[EU];omega));rw[HJ.out];exact⟨i+1,a6,c6,ds++ [⟨cv,ci,cq,ba,bn,bc,br,va,vn,vc,vr⟩],_,_,_,_,_,_,_,_,_,_,_,_,_,_,_,_,_,_,_,_,_,_,_,_,lK,by rw[bR,HD.out,TL.out,bV,fu,CE.out],I2,by rw[TK.out,av,<-dL];exact R2,by rw[bS,bQ,iM,eG];exact H6.own,Q2,rfl⟩
theorem Pf(w:World)(a:OA)(m c:Nat)(bs:LI)(k:Nat)(hv:mo w a m 1 (mZ bs))(hm:bs.length=m)(hm2:m<=1048576)(l:List Ce)(n:Nat)(hn:l.length=n)(wB:n<=256)(hok: ∀r∈l,Et r)(hat:At bs k (nI uG l)):
  Y 248 #[.slice a m c,U k,.func (.func 249) #[] #[]] w fun e w'=> ∃(a':OA) (c':Nat) (ds:List CD),e= .returned (.tuple #[.slice a' n c',U ((k+(nI uG l).length:Nat):Int),true])/\ds.map pz=l/\(∀d∈ds,Fw w' w.heap.size d)/\w'.ownsRow w.heap.size 228 5 (.slice a' n c') n (ds.flatMap nS)/\Be w w':=by
 obtain⟨HV,HM,HN,HO,HAT⟩:=j5 hv hm hn hok hat;obtain⟨j,hj⟩:=ex (k+(nI uG l).length);rw[<-hj];have HJ:=jj hj;clear hv hm hn hok hat hj;go_enter func248,ntmps248
 go_upto_region 2 with fail
 generalize hw1:w.alloc _=w1;generalize hgr:w.heap.size=gr;replace hw1:=hw1.symm;replace hgr:=hgr.symm;have R1:Hid (Rd w w1 gr a m c bs k):=jj ⟨by rw[hw1,hgr];exact lQ.new _ _ _,HV,HM,hm2,by rw[hw1];exact nC,lK⟩;clear hw1 hgr
 go_wp2_with fail
 refine(OU R1 l n HN wB HO HAT).mono ?_;rintro e w2 ⟨a',c',ds,rfl,hds,hdo,ho,hr,hq⟩;have DS:=jj hds;have DO:=jj (fun d hd=>(hdo d hd).base R1.below.size);rw[<-HJ.out] at hr;have R2:=jj hr;have O2:=jj (mO ho R1.below.size);have d2:=hr.blk.at_ 2;have d1:=hr.blk.at_ 1;clear ho hr hq hds hdo
 go_upto_region 5 with fail
 refine rP (fun w'=>J w' gr 1 (U j)) 8 (tk 0 8 .done) d1 ?_;intro hS0
 repeat refine' tT ?_
 refine lM ?_;clear hS0
 go_wp2_with fail
 go_ret3
 exact⟨a',c',ds,by trivial,DS,fun d hd=>(DO.out d hd).below ((aC _ _).drew),own_below O2 ((aC _ _).drew),R2.below.drew⟩
theorem Rz(w:World)(a:OA)(m c:Nat)(bs:LI)(k:Nat)(hv:mo w a m 1 (mZ bs))(hm:bs.length=m)(hm2:m<=1048576)(l:List Ce)(n:Nat)(hn:l.length=n)(wB:n<=256)(hok: ∀r∈l,Et r)(hat:At bs k (nI uG l)):
  Y 199 #[.slice a m c,U k] w fun e w'=> ∃(a':OA) (c':Nat) (ds:List CD),e= .returned (.tuple #[.slice a' n c',U ((k+(nI uG l).length:Nat):Int),true])/\ds.map pz=l/\(∀d∈ds,Fw w' w.heap.size d)/\w'.ownsRow w.heap.size 228 5 (.slice a' n c') n (ds.flatMap nS)/\Be w w':=by
 have HC:=jj (Pf w a m c bs k hv hm hm2 l n hn wB hok hat);clear hv hm hn hok hat;obtain⟨j,hj⟩:=ex (k+(nI uG l).length);rw[<-hj] at HC|-;clear hj;go_enter func199,ntmps199
 go_wp2_with fail
 refine HC.mono ?_;rintro e w2 ⟨a',c',ds,rfl,hds,hdo,ho,hb⟩;obtain⟨DS,DO,O2,B2⟩:=j4 hds hdo ho hb;clear ho hb hds hdo
 go_wp2_with fail
 go_ret3
 exact⟨a',c',ds,by trivial,DS,DO,O2,B2⟩
end Go.Proofs.YtgnhecmnlddjhaaGreat
