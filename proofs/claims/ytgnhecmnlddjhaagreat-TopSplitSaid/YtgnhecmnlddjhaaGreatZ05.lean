/- TopSplit, part 6 of 12: a proof squeezed by a program. -/
import Derived.Test.YtgnhecmnlddjhaaGreatZ04
import Derived.IntWalk
set_option linter.all false
set_option maxRecDepth 100000
set_option maxHeartbeats 6400000
namespace Go.Proofs.YtgnhecmnlddjhaaGreat
open Go.RowKit Go.Proofs.Tryz
variable{L':List ni}{M:Ms}{P:Prop}{a:ni}{b c g gi j k n s x:Nat}{d':sI}{f:Int}{p:Nat×List Int}{w:World}
def qU(n a b:Int):Bool:=decide (a<=n/\n<=b)
theorem rU(n a b:Int)(w:World)(r:Bool)(H:qU n a b=r):Y 207 #[U n,U a,U b] w fun e w'=>e=acK r/\w=w':=by
 subst H;unfold qU;by_cases h:a<=n
 all_goals
  go_enter func207,ntmps207
  go_wp2
  go_ret;exact⟨by first|(simp[h];done)|(simp;omega),by trivial⟩
theorem Bj(f cl n:Int)(w:World)(a:1<=f)(b:f<=4)(r:Bool)(h:qU n 0 (3*f)=r):Y 204 #[acY #[U f,U cl],U n] w fun e w'=>e=acK r/\Be w w':=by
 have H:=jj h;clear h;go_enter func204,ntmps204;go_wp2_with fail;refine(oC f _ a b).mono ?_;rintro e w' ⟨rfl,rfl⟩;have E:IntKind.i64.wrap (3*f+1 -1)=3*f:=by rw[aH _ aR];omega
 have c:3*f+1 -1=3*f:=aR;go_wp2_with fail;refine(rU n 0 (3*f) _ r H).mono ?_;rintro e w' ⟨rfl,rfl⟩;go_wp2_with fail;go_ret;exact⟨by trivial,nC⟩
theorem Af(f cl v k q:Int)(w:World)(h:qU v 0 12=true)(H:qU k 0 f=true)(a:qU q 1 16=true):Y 205 #[acY #[U f,U cl],U v,U k,U q] w fun e w'=>e=acK true/\Be w w':=by obtain⟨H1,b,c⟩:=j3 h H a;clear h H a;go_enter func205,ntmps205;go_wp2_with fail;refine(rU v 0 12 _ true H1).mono ?_;rintro e w' ⟨rfl,rfl⟩;go_wp2_with fail;refine(rU k 0 f _ true b).mono ?_;rintro e w' ⟨rfl,rfl⟩;go_wp2_with fail;refine(rU q 1 16 _ true c).mono ?_;rintro e w' ⟨rfl,rfl⟩;go_wp2_with fail;go_ret;exact⟨by trivial,nC⟩
theorem EW(w:World)(ga n c:Nat)(l:LI)(b:aZ w ga 3 (ints l))(f:l.length=n)(a: ∀z∈l,z=0)(j:n<=4096):
  Y 201 #[O ga n c] w fun e w'=>e= .returned true/\w=w':=by
 have C:=F9 (∀k,k<n->J w ga k (U 0)) fun k d=>by have h:k<l.length:=aR;rw[b.cell,Du l k h];have:=a l[k] (bY h);simp[List.getD,aj h,this]
 clear b f a;go_enter func201,ntmps201;go_wp2_with fail;go_loopw [7] (fun i wr=> ∃k:Nat,k<=n/\i= U k/\wr=w) (fun i _=>n -(intOf i).toNat)
 case atStart=>exact⟨0,aR,rfl,rfl⟩
 case round=>
  obtain⟨k,d,rfl,rfl⟩:=hrel;by_cases H:k<n
  ·have g:=C.out k H
   have m:(0:Int)<=k:=aR;have I:(k:Int)<n:=aR;have E:IntKind.i64.wrap ((k:Int)+1)=(k:Int)+1:=aH _ aR;go_wp2_with fail;go_roundw
   case rel=>exact⟨k+1,aR,by go_num,by trivial⟩
   simp[intOf];omega
  have I: ¬(k:Int)<n:=aR;go_wp2_with fail;go_ret;exact⟨by trivial,by trivial⟩
theorem Im(w:World)(m M a b d f:Int)(ba va c p:OA)(bn bc vc g C P:Nat):
  Y 202 #[acY #[U m,U M,U a,U b,U d,U f,acX ba bn bc,acX va 0 vc,acX c 0 C,acX p 0 P],true,false,false,false] w fun e w'=>e=acK true/\Be w w':=by go_enter func202,ntmps202;go_wp2_with fail;go_ret;exact⟨by trivial,nC⟩
theorem agG(w:World)(m M b d f g:Int)(ba va c p:OA)(bn bc vc a C P:Nat):
  Y 202 #[acY #[U m,U M,U b,U d,U f,U g,acX ba 0 bc,acX va 0 vc,acX c a C,acX p 0 P],false,false,true,false] w fun e w'=>e=acK true/\Be w w':=by go_enter func202,ntmps202;go_wp2_with fail;go_ret;exact⟨by trivial,nC⟩
theorem agH(w:World)(m M a b d f:Int)(ba va c p:OA)(bn bc vc g C P:Nat):
  Y 202 #[acY #[U m,U M,U a,U b,U d,U f,acX ba 0 bc,acX va 0 vc,acX c 0 C,acX p 0 P],false,false,false,false] w fun e w'=>e=acK true/\Be w w':=by go_enter func202,ntmps202;go_wp2_with fail;go_ret;exact⟨by trivial,nC⟩
theorem yA(f cl a b:Int)(w:World)(A:OA)(n c:Nat)(bs:List Rq)(h:qc w A n c bs)(v: ∀r∈bs,mq cl r=true)(T:n<=4096)(q:qU n a b=true):
  Y 203 #[.agg #[U f,U cl],.slice A n c,U a,U b] w fun e w'=>e= .returned true/\Be w w':=by
 obtain⟨H,C,z⟩:=j3 h v q;clear h v q;go_enter func203,ntmps203;go_upto_region 1 with fail;obtain⟨W,j⟩:=ex (w.alloc (.cells #[U f,U cl] 331));obtain⟨G,d⟩:=ex w.heap.size;rw[<-j,<-d];obtain⟨B,u⟩:=nw j d;clear j d;go_wp2_with fail;go_loopw [13] (fun i wr=> ∃k:Nat,k<=n/\i= U k/\Be W wr) (fun i _=>n -(intOf i).toNat)
 case atStart=>exact⟨0,aR,rfl,aC _ _⟩
 case round=>
  obtain⟨k,S,rfl,s⟩:=hrel;have l:=jj s;by_cases t:k<n
  ·have i0:(0:Int)<=k:=aR
   have I:(k:Int)<n:=aR;have x:=nO B s;obtain⟨g,O,rfl,p,X,E,F,K,L,M,q,z0,Z,N,P,Q,z5⟩:=(H.below x).get t;have V:=jj (C.out _ (ak q));have D: ∀o,J (wr.alloc o) G 1 (U cl):=fun o=>((u.below l u.lt).alloc o).cell 1;have R:IntKind.i64.wrap ((k:Int)+1)=(k:Int)+1:=aH _ aR;clear s q p;go_wp2_with fail;refine(D8 _ cl (X,E,F,K,L,M) true V).mono ?_;rintro e w3 ⟨rfl,m⟩;have y:=jj ((l.alloc l.size _).trans (m.mono (aG l.size bJ)));clear m D z0 Z N P Q z5;go_wp2_with fail;go_roundw
   case rel=>exact⟨k+1,aR,by go_num,y⟩
   simp[intOf];omega
  have I: ¬(k:Int)<n:=aR;clear s;go_wp2_with fail;refine(rU n a b _ true z).mono ?_;rintro e w' ⟨rfl,rfl⟩;go_wp2_with fail;go_ret;exact⟨by trivial,B.trans (l.mono B.size)⟩
structure Ih(f:Int)(vs:List Vo):Prop where
 len:(vs.length:Int)=2*f+1
 up: ∀i,i+1<vs.length->(vs.getD i (0,0)).1<(vs.getD (i+1) (0,0)).1
 low: ∀v∈vs,0<=v.1/\v.1<3*f+1
theorem Rj(w:World)(f:Int)(p:1<=f)(q:f<=4)(A:OA)(n c:Nat)(V:List Vo)(h:uz w A n c V)(u:Ih f V):
  Y 279 #[.slice A n c,U f] w fun e w'=>e= .returned true/\Be w w':=by
 have H:=jj h;have o:=jj u;have B:(n:Int)=2*f+1:=by rw[<-h.len];exact u.len
 have y:n<=9:=aR;have D:=jj B;clear h u;go_enter func279,ntmps279;go_wp2_with fail;refine(afE f _ p q).mono ?_;rintro e w' ⟨rfl,rfl⟩;go_wp2_with fail;refine(JB f _ p q).mono ?_;rintro e w' ⟨rfl,rfl⟩;rw[<-D.out];clear B;go_wp2_with fail;go_loopw [5,20] (fun l i wr=> ∃k:Nat,k<=n/\i= U k/\(∃z:Int,l= U z/\ -1<=z/\ ∀v,V[k]?=some v->z<v.1)/\Be w wr) (fun _ i _=>n -(intOf i).toNat)
 case atStart=>exact⟨0,aR,rfl,⟨-1,rfl,aR,fun v j=>by have:=o.low v (ak j);omega⟩,aC _ _⟩
 case round=>
  obtain⟨k,P,rfl,⟨z,rfl,Q,d⟩,s⟩:=hrel;have m:=jj s;by_cases t:k<n
  ·have R:(0:Int)<=k:=aR
   have K:(k:Int)<n:=aR;obtain⟨g,O,rfl,x,x0,M,hx,z0,z1⟩:=(H.below m).get t;have L:=o.low _ (ak hx);have up:=d _ hx;simp only at L up;have S: ¬x0<=z:=aR;have T: ¬3*f+1<=x0:=aR;have N:IntKind.i64.wrap ((k:Int)+1)=(k:Int)+1:=aH _ aR;have NX:=F9 (∀v,V[k+1]?=some v->x0<v.1) fun v j=>by have I:=(ah.1 j).1;have:=o.up k I;rw[bE,bE,hx,j] at this;exact this
   have E:=F9 (-1<=x0) aR;clear s hx d L up;go_upto_region 7 with fail;obtain⟨W,a⟩:=ex (wr.alloc (.cells #[U x0,U M] 311));obtain⟨G,b⟩:=ex wr.heap.size;rw[<-a,<-b];have X:=xNew a b;have C:=GN m a;clear a b;refine qI (fun w'=>J w' G 0 (U x0)) 11 (tk 0 11 .done) (by kernel_rfl) (by kernel_rfl) (by kernel_rfl) (X.drew.cell 0) ?_;intro r
   repeat(first|refine' uT ?_|refine' uS ?_)
   refine pR _ _ rfl (by rfl) (by assumption) (fun w=>by go_simp;try exact⟨rfl,rfl⟩) (fun w F=>(oC f w p q).mono (fun e w' h=>h)) ?_;try simp only[Nw]
   repeat(first|refine' uT ?_|refine' uS ?_)
   refine qO ?_;clear r;have Z:=X.drew.at_ 0;go_wp2_with fail;go_roundw
   case rel=>exact⟨k+1,aR,by go_num,⟨x0,by trivial,E,NX⟩,C.drew⟩
   simp[intOf];omega
  have K: ¬(k:Int)<n:=aR;clear s;go_wp2_with fail;go_ret;exact⟨by trivial,m⟩
theorem aa8(f cl:Int)(w:World)(C:1<=f)(E:f<=4)(A:OA)(n c:Nat)(m:List Vo)(h:uz w A n c m)(q:Ih f m)(t: ∀v∈m,qU v.2 0 1099511627775=true):
  Y 252 #[.agg #[U f,U cl],.slice A n c] w fun e w'=>e= .returned true/\Be w w':=by
 obtain⟨H,y,z⟩:=j3 h q t;have s:n<=9:=by have:=h.len;have:=q.len;omega
 clear h q t;go_enter func252,ntmps252;go_upto_region 1 with fail;obtain⟨W,b⟩:=ex (w.alloc (.cells #[U f,U cl] 331));obtain⟨G,a⟩:=ex w.heap.size;rw[<-b,<-a];obtain⟨u,r⟩:=nw b a;clear b a;go_wp2_with fail;go_loopw [9] (fun i wr=> ∃k:Nat,k<=n/\i= U k/\Be W wr) (fun i _=>n -(intOf i).toNat)
 case atStart=>exact⟨0,aR,rfl,aC _ _⟩
 case round=>
  obtain⟨k,K,rfl,l⟩:=hrel;have o:=jj l;have B:=nO u l;by_cases p:k<n
  ·have L:(0:Int)<=k:=aR
   have I:(k:Int)<n:=aR;obtain⟨g,O,rfl,j,P,X,hx,z0,Z⟩:=(H.below B).get p;have V:=jj (z.out _ (ak hx));have F:IntKind.i64.wrap ((k:Int)+1)=(k:Int)+1:=aH _ aR;clear l hx j;go_wp2_with fail;refine(rU X 0 1099511627775 _ true V).mono ?_;rintro e M ⟨rfl,rfl⟩;go_wp2_with fail;go_roundw
   case rel=>exact⟨k+1,aR,by go_num,o.alloc o.size _⟩
   simp[intOf];omega
  have I: ¬(k:Int)<n:=aR;have D:J wr G 0 (U f):=(r.below o r.lt).cell 0;clear l;go_wp2_with fail;refine(Rj _ f C E A n c m (H.below B) y).mono ?_;rintro e N ⟨rfl,d⟩;have x:=nO B d;clear d D;go_wp2_with fail;go_ret;exact⟨by trivial,x⟩
structure ae9(f cl:Int)(c:CD):Prop where
 p1:qU c.view 0 12=true
 p2:qU c.inst 0 f=true
 p3:qU c.seq 1 16=true
 b: ∀r∈c.bs,mq cl r=true
 nb:qU c.bn 0 4=true
 r:Ih f c.vs
 v: ∀v∈c.vs,qU v.2 0 1099511627775=true
theorem ad7(f cl:Int)(w:World)(S:1<=f)(T:f<=4)(c:CD)(h:c.Is w)(t:ae9 f cl c):
  Y 210 #[acY #[U f,U cl],acY (nS c).toArray] w fun e w'=>e=acK true/\Be w w':=by
 obtain⟨C,q,r,o,B,p,M,v,u,V,W⟩:=c;have H:=jj h;have j:=jj t;have s:B<=4096:=by have:=t.nb;simp[qU] at this;omega
 clear h t;show Y 210 #[acY #[U f,U cl],acY #[U C,U q,U r,acX o B p,acX v u V]] w _;go_enter func210,ntmps210;go_upto_region 1 with fail;obtain⟨F,a⟩:=ex (w.alloc (.cells #[U f,U cl] 331));obtain⟨G,i⟩:=ex w.heap.size;rw[<-a,<-i];obtain⟨I,b⟩:=ex (F.alloc (.cells #[U C,U q,U r,acX o B p,acX v u V] 228));obtain⟨g3,k⟩:=ex F.heap.size;have E:G+1=g3:=by rw[k,a,i];simp
 try rw[E]
 rw[<-b];have X:=F9 (aZ I G 331 #[U f,U cl]) (by rw[b];refine aZ.alloc ?_ _;rw[a,i];exact aZ.new _ _ _);have x:=xNew b k;have J:=F9 (Be w I) (by rw[b,a];exact(nC.alloc bJ _));clear a b i k E;obtain⟨D,l⟩:=X.a2;obtain⟨N,O,P⟩:=x.a3;go_wp2_with fail;refine(Af f cl C q r _ j.p1 j.p2 j.p3).mono ?_;rintro e w3 ⟨rfl,d⟩;have z:=nO J d;have y:=jj (X.below d X.lt);have n:=jj (x.below d x.lt);clear d D l N O P;obtain⟨D,l⟩:=y.a2;have Q:=n.at_ 3;go_wp2_with fail;refine(yA f cl 0 4 _ o B p M (H.b.below z) j.b s j.nb).mono ?_;rintro e w4 ⟨rfl,g⟩;have A:=nO z g;have Z:=jj (y.below g y.lt);have L:=jj (n.below g n.lt);clear g D l Q;obtain⟨D,l⟩:=Z.a2;have R:=L.at_ 4;go_wp2_with fail;refine(aa8 f cl _ S T v u V W (H.v.below A) j.r j.v).mono ?_;rintro e w5 ⟨rfl,m⟩;have K:=nO A m;clear m D l R;go_wp2_with fail;go_ret;exact⟨by trivial,K⟩
theorem JC (w:World) (nn b:Nat) (K:List (Int×List Int)) (hN:vC w nn b K) (cl m:Int) (A:OA) (n c:Nat) (l:List Rq) (h:qc w A n c l) (hs: ∀r∈l,sU K cl r)
  (P: ∀i r s,l[i]?=some r->l[i+1]?=some s->zT r s= -1) (hm:(n:Int)<=m) (hn:n<=4096):
  Y 216 #[.slice A n c,U m,U cl,nn] w fun e w'=>e= .returned true/\Be w w':=by
 obtain⟨HN,H,HS,HU⟩:=j4 hN h hs P;have i9: ¬m<(n:Int):=aR;clear hN h hs P;go_enter func216,ntmps216;go_wp2_with fail;go_loopw [9,17] (fun q i wr=> ∃k:Nat,k<=n/\i= U k/\Be w wr) (fun _ i _=>n -(intOf i).toNat)
 case atStart=>exact⟨0,aR,rfl,aC _ _⟩
 case round=>
  obtain⟨k,hk,rfl,hb⟩:=hrel;have I:=jj hb;clear hb;by_cases N:k<n
  ·have i0:(0:Int)<=k:=aR
   have i1:(k:Int)<n:=aR;obtain⟨g,O,rfl,f,x,X,y,z,B,C,hx,z0,z1,z2,z3,z4,z5⟩:=(H.below I).get N;have HX:=jj hx;have SX:=jj (HS.out _ (ak hx));have e0:IntKind.i64.wrap ((k:Int)+1)=(k:Int)+1:=aH _ aR;have t:=jj N;clear hx f;go_upto_region 6 with fail;generalize mE:wr.alloc _=w9;generalize vE:wr.heap.size=g9;replace mE:=mE.symm;replace vE:=vE.symm;obtain⟨G,Q⟩:=nw mE vE;have E:=F9 (Be w w9) (I.trans (G.mono I.size));clear mE vE z0 z1 z2 z3 z4 z5;by_cases M:k=0
   ·have i2: ¬(0:Int)<(k:Int):=aR
    have i5: ¬0<k:=aR;have d2:decide ((0:Int)<(k:Int))=false:=decide_eq_false i2;have d5:decide (0<k)=false:=decide_eq_false i5;clear M;have KS: ∀w',Be w9 w'->J w' g9 0 (U x)/\J w' g9 1 (U X)/\J w' g9 2 (U y)/\J w' g9 3 (U z)/\J w' g9 4 (U B)/\J w' g9 5 (U C):=fun w' o=>
     have u:=Q.below o Q.lt
     ⟨u.cell 0,u.cell 1,u.cell 2,u.cell 3,u.cell 4,u.cell 5⟩
    refine rP (fun w'=>J w' g9 0 (U x)/\J w' g9 1 (U X)/\J w' g9 2 (U y)/\J w' g9 3 (U z)/\J w' g9 4 (U B)/\J w' g9 5 (U C)) 19 (tk 0 3 (.one 3 (tk 4 11 (.one 15 (tk 16 3 .done))))) (KS _ (aC _ _).drew) ?_;intro a
    repeat(first|refine' tT ?_|refine' tS ?_)
    refine pO fun KT bq=> ?_;go_simp;refine(LQ _ nn b K (HN.below E.drew) cl (x,X,y,z,B,C) SX).mono ?_;rintro e w3 ⟨rfl,d⟩;have F:=jj ((aC w9.heap.size w9).drew.trans d);have B3:=jj (E.trans (F.mono E.size));clear d;have S:=KS _ F;refine oH bq S ?_;clear a;have a:=S
    repeat(first|refine' tT ?_|refine' tS ?_)
    refine pO fun KT bq=> ?_;go_simp;refine oH bq a ?_
    repeat(first|refine' tT ?_|refine' tS ?_)
    refine aU ?_;clear a;go_wp2_with fail;go_roundw
    case rel=>exact⟨k+1,by have:=t.out;omega,by go_num,B3⟩
    have:=t.out;simp[intOf];omega
   obtain⟨j,hj⟩: ∃j,k=j+1:=⟨k -1,aR⟩;have L:j<n:=aR;obtain⟨g',off',R,f,T,V,W,Z,y4,y5,hy,p0,p1,p2,p3,p4,p5⟩:=(H.below I).get L;obtain⟨rfl,rfl⟩:g=g'/\O=off':=by injection R with R;injection R with h1 h2;exact⟨h1,h2⟩
   have LT:=F9 (zT (T,V,W,Z,y4,y5) (x,X,y,z,B,C)= -1) (HU.out j _ _ hy (by rw[<-hj];exact HX.out));have e3:IntKind.i64.wrap ((k:Int) -1)=(j:Int):=by rw[aH _ aR];omega
   have i2:(0:Int)<k:=aR;have i3:(0:Int)<=j:=aR;have i4:(j:Int)<n:=aR;have i5:0<k:=aR;have d2:decide ((0:Int)<(k:Int))=true:=decide_eq_true i2;have d5:decide (0<k)=true:=decide_eq_true i5;have KS: ∀w',Be w9 w'->J w' g9 0 (U x)/\J w' g9 1 (U X)/\J w' g9 2 (U y)/\J w' g9 3 (U z)/\J w' g9 4 (U B)/\J w' g9 5 (U C)/\J w' g (O+j*6) (U T)/\J w' g (O+j*6+1) (U V)/\J w' g (O+j*6+2) (U W)/\J w' g (O+j*6+3) (U Z)/\J w' g (O+j*6+4) (U y4)/\J w' g (O+j*6+5) (U y5):=fun w' o=>
    have u:=Q.below o Q.lt;have v:=fun(p:Addr) (q:Value) (hp:wr.cell? p=some q)=>kept o _ _ (kept G _ _ hp)
    ⟨u.cell 0,u.cell 1,u.cell 2,u.cell 3,u.cell 4,u.cell 5,v _ _ p0,v _ _ p1,v _ _ p2,v _ _ p3,v _ _ p4,v _ _ p5⟩
   clear R f hy hj M L;refine rP (fun w'=>J w' g9 0 (U x)/\J w' g9 1 (U X)/\J w' g9 2 (U y)/\J w' g9 3 (U z)/\J w' g9 4 (U B)/\J w' g9 5 (U C)/\J w' g (O+j*6) (U T)/\J w' g (O+j*6+1) (U V)/\J w' g (O+j*6+2) (U W)/\J w' g (O+j*6+3) (U Z)/\J w' g (O+j*6+4) (U y4)/\J w' g (O+j*6+5) (U y5)) 19 (tk 0 3 (.one 3 (tk 4 11 (.one 15 (tk 16 3 .done))))) (KS _ (aC _ _).drew) ?_;intro a
   repeat(first|refine' tT ?_|refine' tS ?_)
   refine pO fun KT bq=> ?_;go_simp;refine(LQ _ nn b K (HN.below E.drew) cl (x,X,y,z,B,C) SX).mono ?_;rintro e w3 ⟨rfl,d⟩;have F:=jj ((aC w9.heap.size w9).drew.trans d);have B3:=jj (E.trans (F.mono E.size));clear d;have S:=KS _ F;refine oH bq S ?_;clear a;have a:=S
   repeat(first|refine' tT ?_|refine' tS ?_)
   refine pO fun KT bq=> ?_;go_simp;refine(Cy _ (T,V,W,Z,y4,y5) (x,X,y,z,B,C) (-1) LT).mono ?_;rintro e w4 ⟨rfl,D⟩;have a0:=nO F D;have B4:=nO B3 D;clear D;have S4:=KS _ a0;refine oH bq S4 ?_;clear a;have a:=S4
   repeat(first|refine' tT ?_|refine' tS ?_)
   refine aU ?_;clear a;go_wp2_with fail;go_roundw
   case rel=>exact⟨k+1,by have:=t.out;omega,by go_num,B4⟩
   have:=t.out;simp[intOf];omega
  have i1: ¬(k:Int)<n:=aR;go_wp2_with fail;go_ret;exact⟨by trivial,I⟩
def ale(kd nd:Int)(c:CD)(a:OA)(k:Nat):MD:=⟨kd,nd,c.view,c.inst,c.seq,0,a,c.bn,k,c.bs,none,0,0,[],none,0,0,[],none,0⟩
theorem XV(w:World)(kd nd:Int)(c:CD)(h:c.Is w)(hn:c.bn<=4096):
  Y 143 #[U kd,U nd,acY (nS c).toArray] w fun e w'=> ∃L N,e=acK (acY (oM (ale kd nd c L N)).toArray)/\qc w' L c.bn N c.bs/\Be w w':=by
 obtain⟨i0,z,A,D,E⟩:=info_parts rT;obtain⟨C,j,k,n,B,q,x,Q,T,R,vs⟩:=c;have H:=jj h;simp only at hn;clear h;show Y 143 #[U kd,U nd,acY #[U C,U j,U k,acX n B q,acX Q T R]] w _;go_enter func143,ntmps143;go_upto_region 1 with fail;generalize hv1:w.alloc _=v1;generalize hg5:w.heap.size=g5;replace hv1:=hv1.symm;replace hg5:=hg5.symm;obtain⟨V,a⟩:=ex (v1.alloc (.cells #[U 0,U 0,U 0,U 0,U 0,U 0,(),(),(),()] 82));obtain⟨g6,d⟩:=ex v1.heap.size;have M:g5+1=g6:=by rw[d,hv1,hg5];simp
 try rw[M]
 rw[<-a];have I:=F9 (aZ V g5 228 #[U C,U j,U k,acX n B q,acX Q T R]) (by rw[a];refine aZ.alloc ?_ _;rw[hv1,hg5];exact aZ.new _ _ _);have K:=xNew a d;have r:=F9 (Be w V) (by rw[a,hv1];exact(nC.alloc bJ _));have GE:=F9 (w.heap.size<=g6) (by rw[d,hv1];simp);clear hv1 a hg5 d M;have KS: ∀w',Be V w'->J w' g5 0 (U C)/\J w' g5 1 (U j)/\J w' g5 2 (U k)/\J w' g5 3 (acX n B q):=fun w' o=>have u:=I.below o I.lt;⟨u.cell 0,u.cell 1,u.cell 2,u.cell 3⟩;refine rD (fun w'=>J w' g5 0 (U C)/\J w' g5 1 (U j)/\J w' g5 2 (U k)/\J w' g5 3 (acX n B q)) 12 (tk 0 10 (.one 10 (.take 11 (.one 12 .done)))) (KS _ (aC _ _).drew) fun P l i=> ?_;have F:=F9 (Be w P) (r.trans (l.mono r.size))
 repeat refine' tT ?_
 refine pO fun KT bq=> ?_;refine oo (by rfl) _ _ _ (by rfl) w.heap.size 49 i0 _ 6 48 underlying46 z A D E rfl aR none 0 0 [] (by rfl) ⟨bJ,.inl ⟨rfl,rfl⟩⟩ n B q (x.flatMap rA) (by rfl) (H.b.row.below F) (Bt x) (by unfold maxLen;omega) aR F.size ?_;intro a5 s w5 y;have G:=y.own;rw[aO,List.nil_append] at G;rw[aO];have t:Be P w5:=y.only.mY;have f:=nO l t;have W:=jj (r.trans (f.mono r.size));have m:=jj G;clear y;have S:=KS _ f;refine oH bq S ?_;clear i;have i:=S
 repeat refine' tT ?_
 refine pL fun KT bq=> ?_;have X:=jj (K.below f K.lt);have e0:=X.at_ 0;have z0:=X.frozen 0;have e1:=X.at_ 1;have z1:=X.frozen 1;have e2:=X.at_ 2;have z2:=X.frozen 2;have e3:=X.at_ 3;have z3:=X.frozen 3;have e4:=X.at_ 4;have z4:=X.frozen 4;have e5:=X.at_ 5;have z5:=X.frozen 5;have e6:=X.at_ 6;have z6:=X.frozen 6;have e7:=X.at_ 7;have z7:=X.frozen 7;have e8:=X.at_ 8;have z8:=X.frozen 8;have e9:=X.at_ 9;have z9:=X.frozen 9;go_simp;refine oL bq ?_;refine aU ?_;obtain⟨w9,b⟩:=ex (setW w5 g6 0 [U kd,U nd,U C,U j,U k,U 0,acX a5 B s,(),(),()]);have K9:=uL b X;simp only[setW,aO,Nat.reduceAdd] at b;rw[<-b];have Z:Be w w9:=by rw[b];exact((((((((((W.setCell (p:=adZ g6 0) GE _).setCell (p:=adZ g6 1) GE _).setCell (p:=adZ g6 2) GE _).setCell (p:=adZ g6 3) GE _).setCell (p:=adZ g6 4) GE _).setCell (p:=adZ g6 5) GE _).setCell (p:=adZ g6 6) GE _).setCell (p:=adZ g6 7) GE _).setCell (p:=adZ g6 8) GE _).setCell (p:=adZ g6 9) GE _)
 have o9:Only [g6] w5 w9:=by rw[b];exact(((((((((((Only.refl [g6] _).setCell (p:=adZ g6 0) (.inl bJ) _).setCell (p:=adZ g6 1) (.inl bJ) _).setCell (p:=adZ g6 2) (.inl bJ) _).setCell (p:=adZ g6 3) (.inl bJ) _).setCell (p:=adZ g6 4) (.inl bJ) _).setCell (p:=adZ g6 5) (.inl bJ) _).setCell (p:=adZ g6 6) (.inl bJ) _).setCell (p:=adZ g6 7) (.inl bJ) _).setCell (p:=adZ g6 8) (.inl bJ) _).setCell (p:=adZ g6 9) (.inl bJ) _)
 have O:w9.ownsRow w.heap.size 49 6 (acX a5 B s) B (x.flatMap rA):=mK m o9 (fun g hg=>by have:=mG m X aV;rw[hg] at this;simpa using fun e=>this (by rw[e]))
 clear i;go_wp2_with fail;refine bodyPost_ret (v:=acY #[U kd,U nd,U C,U j,U k,U 0,acX a5 B s,(),(),()]) ?_ rfl ⟨a5,s,rfl,⟨fH O,H.b.len,qB O,uO O⟩,Z⟩;exact results_cell_row Tryz.results143 _ w9 g6 _ _ _ _ (by rfl) K9 underlying82 rfl (by kernel_rfl)
structure xE(K:List (Int×List Int))(M:Ms)(z:Int):Prop where
 ok:Ev M
 len:(dF M).length<=65536
 mem:(M.sender,dF M)∈K
 num:num K (M.sender,dF M)=z
theorem xE.key{K:List (Int×List Int)}{z:Int}(h:xE K M z):Ns (M.sender,dF M):=
 ⟨h.ok.sender.i64,EG h.ok,by have:=h.len;unfold maxLen;show(dF M).length<=_;omega⟩
theorem agR(w:World)(n b:Nat)(K:List (Int×List Int))(o:vC w n b K)(m:MD)(h:m.Is w)(z:Int)(q:xE K (nA m) z):
  Y 261 #[acY (oM m).toArray,U z,n] w fun e w'=>e=acK true/\Be w w':=by obtain⟨s,r,c⟩:=j3 o h q;obtain⟨M,d⟩:=ex (nA m);have g:=jj d;rw[<-d] at c;have t:=F9 (M.sender=m.sender) (by rw[d];rfl);clear o h q d;obtain⟨V,f,W,X,Z,m5,u,x,v,br,va,vn,vc,vs,y,D,A,cs,pa,pc⟩:=m;show Y 261 #[acY #[U V,U f,U W,U X,U Z,U m5,acX u x v,acX va vn vc,acX y D A,acX pa 0 pc],U z,n] w _;go_enter func261,ntmps261;go_upto_region 1 with fail;generalize hw1:w.alloc _=w1;generalize hgb:w.heap.size=gb;replace hw1:=hw1.symm;replace hgb:=hgb.symm;obtain⟨i,B⟩:=nw hw1 hgb;clear hw1 hgb;obtain⟨E,F,G,I,L,N,P,Q,R,T⟩:=B.zA;go_wp2_with fail;refine(Ta _ _ (r.below i) (by rw[<-g.out];exact c.ok) (by rw[<-g.out];exact c.len)).mono ?_;rintro e w2 ⟨a2,C,rfl,H,a⟩;rw[<-g.out] at H|-;obtain⟨l,p⟩:=ex ((dF M).length);rw[<-p] at H|-;have O:=jj H;have k:=nO i a;have e1:J w2 gb 1 (U f):=(B.below a B.lt).cell 1;clear H a p E F G I L N P Q R T;have S:=F9 (M.sender=f) t;go_wp2_with fail;refine(Jo n b K f a2 l C (dF M) z _ (s.below k) (fH O) (by rw[<-S.out];exact c.key) true (by rw[<-S.out];simp only[decide_eq_true c.mem,decide_eq_true c.num,kZ])).mono ?_;rintro e w4 ⟨rfl,j,rfl⟩;go_wp2_with fail;go_ret;exact⟨by trivial,below_drewN k j⟩
structure afa(K:List (Int×List Int))(kd f:Int)(c:CD):Prop where
 r:Ih f c.vs
 nb:c.bn<=256
 s: ∀v∈c.vs,xE K ⟨kd,v.1,c.view,c.inst,c.seq,0,c.bs,[],[]⟩ v.2
theorem aa7(w:World)(nn b:Nat)(K:List (Int×List Int))(hN:vC w nn b K)(kd f:Int)(h1:1<=f)(h4:f<=4)(c:CD)(h:c.Is w)(F:afa K kd f c):
  Y 266 #[U kd,.agg (nS c).toArray,U f,nn] w fun e w'=>e= .returned true/\Be w w':=by
 obtain⟨HN,H,HC⟩:=j3 hN h F;have Z:=F.nb;obtain⟨cd,a0⟩:=ex c;obtain⟨C,q,r,B,p,n,bs,va,vn,V,I⟩:=c;have HV:=F9 (uz w va vn V I) h.v;have b0:vn<=9:=by have:=h.v.len;have:=F.r.len;simp only at*;omega
 simp only at Z;clear hN h F;show Y 266 #[U kd,.agg #[U C,U q,U r,.slice B p n,.slice va vn V],U f,nn] w _;go_enter func266,ntmps266;go_upto_region 1 with fail;generalize hw1:w.alloc _=w1;generalize hgb:w.heap.size=gb;replace hw1:=hw1.symm;replace hgb:=hgb.symm;obtain⟨B1,R⟩:=nw hw1 hgb;clear hw1 hgb;have S:=R.at_ 4;go_wp2_with fail;refine(Rj _ f h1 h4 va vn V I (HV.below B1) HC.r).mono ?_;rintro e w2 ⟨rfl,j⟩;have X2:=R.below j R.lt;have t:=jj X2;have B2:=nO B1 j;clear S j;have S:=X2.at_ 4;go_wp2_with fail;clear S
 go_loopw [19] (fun i wr=> ∃k:Nat,k<=vn/\i= U k/\Be w2 wr) (fun i _=>vn -(intOf i).toNat)
 case atStart=>exact⟨0,aR,rfl,aC _ _⟩
 case round=>
  obtain⟨k,hk,rfl,T⟩:=hrel;have HB:=jj T;have Q:=nO B2 T;clear T;by_cases z:k<vn
  ·have i0:(0:Int)<=k:=aR
   have i1:(k:Int)<vn:=aR;obtain⟨g,O,rfl,A,X,L,hx,z0,z1⟩:=(HV.below Q).get z;have SV:=jj (HC.s _ (ak hx));have e0:IntKind.i64.wrap ((k:Int)+1)=(k:Int)+1:=aH _ aR;have x:=jj z;clear hx A;go_upto_region 6 with fail;obtain⟨W,a⟩:=ex (wr.alloc (.cells #[U X,U L] 311));obtain⟨G,m⟩:=ex wr.heap.size;rw[<-a,<-m];have X9:=xNew a m;have Y9:=F9 (aZ W gb 228 #[U C,U q,U r,.slice B p n,.slice (some ⟨g,O,none⟩) vn V]) (by rw[a];exact(t.below HB t.lt).alloc _);have s:=GN HB a;have M:=GN Q a;clear a m z0 z1;have KS: ∀w',Be W w'->J w' G 0 (U X)/\J w' G 1 (U L)/\J w' gb 0 (U C)/\J w' gb 1 (U q)/\J w' gb 2 (U r)/\J w' gb 3 (.slice B p n)/\J w' gb 4 (.slice (some ⟨g,O,none⟩) vn V):=fun w' o=>
    have u:=X9.below o X9.lt;have v:=Y9.below o Y9.lt
    ⟨u.cell 0,u.cell 1,v.cell 0,v.cell 1,v.cell 2,v.cell 3,v.cell 4⟩
   refine rP (fun w'=>J w' G 0 (U X)/\J w' G 1 (U L)/\J w' gb 0 (U C)/\J w' gb 1 (U q)/\J w' gb 2 (U r)/\J w' gb 3 (.slice B p n)/\J w' gb 4 (.slice (some ⟨g,O,none⟩) vn V)) 10 (tk 0 4 (tk 5 3 (.one 4 (.one 8 (.take 9 .done))))) (KS _ (aC _ _).drew) ?_;intro d
   repeat refine' tT ?_
   refine pO fun KT bq=> ?_;go_simp;refine(XV _ kd X ⟨C,q,r,B,p,n,bs,some ⟨g,O,none⟩,vn,V,I⟩ (H.below M.drew) (by simp only;omega)).mono ?_;rintro e w3 ⟨a3,k3,rfl,D,y⟩;have R3:=jj D;have E:=jj ((aC W.heap.size W).drew.trans y);have B3:=jj (M.trans (E.mono M.size));have BL:=jj (s.trans (E.mono s.size));clear y D;have S3:=KS _ E;refine oH bq S3 ?_;refine pO fun KT bq=> ?_;go_simp;refine(agR _ nn b K (HN.below B3) (ale kd X ⟨C,q,r,B,p,n,bs,some ⟨g,O,none⟩,vn,V,I⟩ a3 k3) ⟨R3,uz.nil _ _ (bF _),(Gz.nil 0 _).vI⟩ L SV).mono ?_;rintro e w4 ⟨rfl,l⟩;have N:=nO E l;have P:=nO BL l;clear l;have S4:=KS _ N;refine oH bq S4 ?_;clear d;have d:=S4
   repeat refine' tT ?_
   refine aU ?_;clear d;go_wp2_with fail;go_roundw
   case rel=>exact⟨k+1,by have:=x.out;omega,by go_num,P⟩
   have:=x.out;simp[intOf];omega
  have i1: ¬(k:Int)<vn:=aR;go_wp2_with fail;go_ret;exact⟨by trivial,Q⟩
structure ae8(K:List (Int×List Int))(kd f cl:Int)(c:CD):Prop where
 p1:qU c.view 0 12=true
 p2:qU c.inst 0 f=true
 p3:qU c.seq 1 16=true
 b: ∀r∈c.bs,sU K cl r
 up: ∀i r s,c.bs[i]?=some r->c.bs[i+1]?=some s->zT r s= -1
 nb:c.bn<=4
 v:afa K kd f c
theorem Oq(w:World)(nn b:Nat)(K:List (Int×List Int))(D:vC w nn b K)(kd f cl:Int)(P:1<=f)(Q:f<=4)(c:CD)(h:c.Is w)(F:ae8 K kd f cl c):
  Y 222 #[U kd,acY (nS c).toArray,U f,U cl,nn] w fun e w'=>e=acK true/\Be w w':=by
 obtain⟨x,H,g⟩:=j3 D h F;obtain⟨C,n,o,B,m,l,z,v,u,V,R⟩:=c;clear D h F;show Y 222 #[U kd,acY #[U C,U n,U o,acX B m l,acX v u V],U f,U cl,nn] w _;go_enter func222,ntmps222;go_upto_region 2 with fail;generalize hv1:w.alloc _=v1;generalize hg3:w.heap.size=g3;replace hv1:=hv1.symm;replace hg3:=hg3.symm;obtain⟨G,a⟩:=ex (v1.alloc (.cells #[U f,U cl] 331));obtain⟨g2,d⟩:=ex v1.heap.size;have A:g3+1=g2:=by rw[d,hv1,hg3];simp
 try rw[A]
 try rw[<-d]
 rw[<-a];have L:=xNew a d;have X:=F9 (aZ G g3 228 #[U C,U n,U o,acX B m l,acX v u V]) (by rw[a];refine aZ.alloc ?_ _;rw[hv1,hg3];exact aZ.new _ _ _);have I:=F9 (Be w G) (by rw[a,hv1];exact(nC.alloc bJ _));clear hv1 a d hg3 A;obtain⟨M,N⟩:=L.a2;obtain⟨E,r,s⟩:=X.a3;go_wp2_with fail;refine(Af f cl C n o _ g.p1 g.p2 g.p3).mono ?_;rintro e W ⟨rfl,i⟩;have p:=nO I i;have y:=jj (X.below i X.lt);clear i M N E r s;have t:=y.at_ 3;go_wp2_with fail;refine(JC _ nn b K (x.below p) cl 4 B m l z (H.b.below p) g.b g.up (by have:=g.nb;simp only at this;omega) (by have:=g.nb;simp only at this;omega)).mono ?_;rintro e S ⟨rfl,j⟩;have q:=nO p j;have Z:=jj (y.below j y.lt);clear j t;obtain⟨E,r,s,t,O⟩:=Z.a5;go_wp2_with fail;refine(aa7 _ nn b K (x.below q) kd f P Q ⟨C,n,o,B,m,l,z,v,u,V,R⟩ (H.below q) g.v).mono ?_;rintro e T ⟨rfl,k⟩;have J:=nO q k;clear k E r s t O;go_wp2_with fail;go_ret;exact⟨by trivial,J⟩
section
open Classical
structure uo where
 has:Bool
 b:List Rq
 pr:List Xk
 co:List Xk
 told:Bool
 cert:Option Ce
 done:Option Ce
structure Ba where
 vw:Int
 on:Bool
 ps:List uo
structure ql where
 now:Int
 is:List Ba
 T:List oO
 V:List Vt
 es:List CY
 st:List (Bool×Int)
 ct:List (Int×Int)
 ga:List (Int×Int)
 xU:List Value
 vZ:List Value
 nN:List LI
 nG:List LI
 run:Int
 view:Int
 vk:Int
 since:Int
 start:Int
 stopped:Bool
 out:List (Int×List Int)
 c0:Int
 c1:Int
 c2:Int
 c3:Int
 c4:Int
def qm.val(p:qm):uo:=⟨p.sl.has,p.sl.bs,p.sl.pr.map rC.val,p.sl.co.map rC.val,p.told,if p.has then some (pz p.cert) else none,if p.done then some (pz p.dw) else none⟩
def tJ.val(i:tJ):Ba:=⟨i.vw,i.on,i.ps.map qm.val⟩
def bK.val(d:bK):ql:=⟨d.now,d.is.map fun p=>p.2.val,d.T,d.V,d.es,d.st,d.ct,d.ga,d.xU,d.vZ,d.nN.map Prod.snd,d.nG.map Prod.snd,d.run,d.view,d.vk,d.since,d.start,d.stopped,uy d.ol,d.c0,d.c1,d.c2,d.c3,d.c4⟩
structure Who where
 f:Int
 n:Nat
 id:Nat
abbrev KS:=List (Int×List Int)
abbrev KN:=KS×ql
noncomputable def must(P:Prop):Option Unit:=if P then some () else none
theorem mI{u:Unit}(h:must P=some u):P:=by
 unfold must at h;split at h
 ·assumption
 cases h
theorem nQ(h:P):must P=some ():=if_pos h
def others(n id:Nat):List Nat:=(List.range n).filter fun k=>decide (k≠id)
def FY(K:KS)(m:Ms):List Int:=mD (num K (m.sender,dF m)).toNat++dF m
structure Lh(K:KS)(s:ql)(m:Ms):Prop where
 ok:Ev m
 len:(dF m).length<=65000
 room:K.length<1000000
 out:s.out.length<=3000
noncomputable def yI(E:Who)(m:Ms)(S:KN):Option (KN×Int):=
 let M:Ms:={m with sender:=E.id}
 (must (Lh S.1 S.2 M)).map fun _=>
  let K:=sealed S.1 (M.sender,dF M)
  ((K,{S.2 with out:=S.2.out++(others E.n E.id).map fun k:Nat=>((k:Int),FY K M)}),num K (M.sender,dF M))
noncomputable def Cz(E:Who)(c t r:Int)(S:KN):Option KN:=
 let M:Ms:=⟨10,E.id,0,c,t,r,[],[],[]⟩
 (must (Lh S.1 S.2 M/\0<=c/\c<4)).map fun _=>
  let K:=sealed S.1 (M.sender,dF M)
  (K,{S.2 with out:=S.2.out++ [(100+c,FY K M)]})
def ql.pl(s:ql)(k j:Nat):Option (Ba×uo):=s.is[k]?.bind fun i=>i.ps[j]?.map fun p=>(i,p)
def ql.put(s:ql)(k j:Nat)(p:uo):ql:={s with is:=s.is.modify k fun i=>{i with ps:=i.ps.set j p}}
noncomputable def vL(E:Who)(kind:Int)(k j:Nat)(b:List Rq)(S:KN):Option KN:=
 (yI E ⟨kind,0,S.2.view,k,j+1,0,b,[],[]⟩ S).bind fun r=>
 (r.1.2.pl k j).bind fun i=>
  if kind=4 then(must (i.1.on=true/\i.2.pr[E.id]?=some none/\b.length<=4096)).map fun _=>(r.1.1,r.1.2.put k j {i.2 with pr:=i.2.pr.set E.id (some (r.2,b))})
  else(must (kind=5/\i.1.on=true/\i.2.co[E.id]?=some none/\b.length<=4096)).map fun _=>(r.1.1,r.1.2.put k j {i.2 with co:=i.2.co.set E.id (some (r.2,b))})
def Xp(r:Rq):List oO->Nat->Option (Nat×Bool)
 | [],k=>some (k,false)
 |d::l,k=>if d.r=r then some (k,true) else if zT d.r r= -1 then Xp r l (k+1) else none
def AA(T:List oO)(r:Rq):Option (Option Int):=(Xp r T 0).map fun a=>if a.2 then(match T[a.1]? with|some d=>if d.ready then some d.since else none|none=>none) else none
def NR(T:List oO)(r:Rq)(j:Nat):Option Bool:=(Xp r T 0).map fun a=>if a.2 then(match T[a.1]? with|some d=>d.nX j|none=>false) else false
noncomputable def wu(k:Int)(now:Int)(T:List oO):List Rq->List (Int×Int)->Option (List (Int×Int))
 | [],g=>some g
 |r::l,g=>(AA T r).bind fun
  |some t=>(must (qX (now -t)/\Roomy g/\g.length<=5/\qX k)).bind fun _=>wu k now T l (Xz g k (now -t))
  |none=>wu k now T l g
def LH(T:List oO)(c t:Int):List oO:=T.filter fun d=>decide (d.r.1≠c)||decide (t<d.r.2.1)
noncomputable def rG(E:Who):List CY->KN->Option KN
 | [],S=>some S
 |e::l,S=>(Cz E e.1.1 e.1.2.1 e.2 S).bind fun S1=>rG E l (S1.1,{S1.2 with T:=LH S1.2.T e.1.1 e.1.2.1})
def oh:List uo->Nat
 | []=>0
 |p::l=>if p.done.isSome then oh l+1 else 0
structure ZA(s:ql)(b:List Rq):Prop where
 i: ∀r∈b,RqI r
 es:s.es.length+b.length<=1000
 n:b.length<=4
 T:s.T.length<=64
noncomputable def Yx(E:Who)(b:List Rq)(S:KN):Option KN:=
 (must (ZA S.2 b)).bind fun _=>
  let r:=qL ([],S.2.st,S.2.ct) b
  rG E r.1 (S.1,{S.2 with es:=S.2.es++r.1,st:=r.2.1,ct:=r.2.2})
noncomputable def wS(E:Who):Nat->KN->Option KN
 |0,S=>S.2.is[0]?.bind fun i=>(must ((oh i.ps:Int)<=S.2.run)).map fun _=>S
 |fuel+1,S=>S.2.is[0]?.bind fun i=>if(oh i.ps:Int)<=S.2.run then some S else
   (i.ps[S.2.run.toNat]?.bind uo.done).bind fun c=>(Yx E c.batch (S.1,{S.2 with run:=S.2.run+1})).bind fun S1=>wS E fuel S1
structure Sy(s:ql)(k:Nat)(b:List Rq):Prop where
 T:s.T.length<=64
 b:b.length<=4
 now:0<=s.now/\s.now<=1000000
 run:0<=s.run/\s.run<=16
noncomputable def NC(E:Who)(k:Nat)(b:List Rq)(S:KN):Option KN:=
 (must (Sy S.2 k b)).bind fun _=>(wu k S.2.now S.2.T b S.2.ga).bind fun g=>
  let s:KN:=(S.1,{S.2 with ga:=g})
  if k=0 then(wS E 16 s).bind fun a=>(must (a.2.run<16)).map fun _=>a else some s
structure Ve(E:Who)(s:ql)(i:Ba)(p:uo)(k j:Nat):Prop where
 on:i.on=true
 jl:j<16
 i:qX i.vw
 b:p.b.length<=4096
 nG: ∃l,s.nG[k]?=some l/\j+1<l.length
 v:0<=s.view/\s.view<=100
noncomputable def QY(E:Who)(k j:Nat)(S:KN):Option KN:=
 (S.2.pl k j).bind fun i=>(must (Ve E S.2 i.1 i.2 k j)).bind fun _=>
  if i.2.told||!i.2.has then some S else
  match qx (2*E.f+1).toNat i.2.pr i.2.b with
  |none=>some S
  |some vs=>vL E 5 k j i.2.b (S.1,{S.2.put k j {i.2 with told:=true,cert:=some ⟨i.1.vw,k,j+1,i.2.b,vs⟩} with nG:=S.2.nG.modify k fun l=>l.set (j+1) (S.2.view+1)})
noncomputable def Fz(E:Who)(k j:Nat)(S:KN):Option KN:=
 (S.2.pl k j).bind fun i=>(must (qX i.1.vw)).bind fun _=>if i.2.done.isSome then some S else
  match mQ (2*E.f+1).toNat i.2.co i.2.co with
  |none=>some S
  |some (b,vs)=>NC E k b (S.1,S.2.put k j {i.2 with done:=some ⟨i.1.vw,k,j+1,b,vs⟩})
noncomputable def lH(E:Who)(k j:Nat)(S:KN):Option KN:=(QY E k j S).bind fun s=>Fz E k j s
noncomputable def Nu(E:Who)(k j:Nat)(S:KN):Option KN:=
 (S.2.pl k j).bind fun i=>(must (i.2.has=true)).bind fun _=>(vL E 4 k j i.2.b S).bind fun s=>lH E k j s
inductive Kj where
 |used
 |stale
def Kj.num:Kj->Int
 | .used=>0
 | .stale=>1
structure adf(s:ql):Prop where
 T:s.T.length<=58
 now:0<=s.now/\s.now<=1000000
def zH(f:Int)(j:Nat)(now:Int)(r:Rq)(T:List oO):Option (List oO):=
 match Xp r T 0 with
 |some (k,true)=>T[k]?.bind fun d=>if d.nX j then none else some (T.set k (d.told f j now))
 |some (0,false)=>if T.length=0 then some [(GK r).tell j] else none
 |_=>none
noncomputable def Jy(E:Who)(r:Rq)(S:KN):Option KN:=(yI E ⟨2,0,0,0,0,0,[r],[],[]⟩ S).map fun q=>q.1
noncomputable def JE(E:Who)(kind:Int)(src:Nat)(r:Rq)(S:KN):Option (KN×Kj):=
 let node:=if kind=1 then E.id else src
 (must (adf S.2/\sU S.1 2 r/\lastOf S.2.ct r.1<r.2.1/\node<E.n/\node<13/\0<=r.1/\r.1<2)).bind fun _=>
 (NR S.2.T r node).bind fun h=>if h then some (S,.stale) else
 (NR S.2.T r E.id).bind fun H=>(if H then some S else(zH E.f E.id S.2.now r S.2.T).bind fun T=>Jy E r (S.1,{S.2 with T:=T})).bind fun s=>
 if kind=2/\src≠E.id then(zH E.f src s.2.now r s.2.T).map fun T=>((s.1,{s.2 with T:=T}),.used) else if kind=1 then some (s,.used) else none
structure Es(K:KS)(b:List Rq):Prop where
 s: ∀r∈b,sU K 2 r
 up: ∀i r s,b[i]?=some r->b[i+1]?=some s->zT r s= -1
 n:b.length<=2
noncomputable def Oz(k j:Nat)(b:List Rq)(S:KN):Option KN:=
 (S.2.pl k j).bind fun i=>(must (i.1.on=true/\i.2.has=false/\j<16/\(j:Int)+1<=(oh i.1.ps:Int)+4)).map fun _=>(S.1,S.2.put k j {i.2 with has:=true,b:=b})
noncomputable def ppV(E:Who)(m:Ms)(k j:Nat)(S:KN):Option (KN×Kj):=
 (must (Es S.1 m.batch/\m.view=S.2.view/\m.inst=k/\m.seq=(j:Int)+1)).bind fun _=>(Oz k j m.batch S).bind fun s=>(Nu E k j s).map fun a=>(a,.used)
noncomputable def AU(E:Who)(m:Ms)(z:Int)(src k j:Nat)(S:KN):Option (KN×Kj):=
 (must (Es S.1 m.batch/\m.view=S.2.view/\m.inst=k/\m.seq=(j:Int)+1/\m.sender=src/\j<16)).bind fun _=>(S.2.pl k j).bind fun i=>
  if m.kind=4 then(must (i.1.on=true/\src<i.2.pr.length)).bind fun _=>if i.2.pr[src]?=some none then(lH E k j (S.1,S.2.put k j {i.2 with pr:=i.2.pr.set src (some (z,m.batch))})).map fun s=>(s,.used) else some (S,.stale)
  else(must (m.kind=5/\i.1.on=true/\src<i.2.co.length)).bind fun _=>if i.2.co[src]?=some none then(lH E k j (S.1,S.2.put k j {i.2 with co:=i.2.co.set src (some (z,m.batch))})).map fun s=>(s,.used) else some (S,.stale)
structure adC(K:KS)(f:Int)(c:Ce):Prop where
 p1:qU c.view 0 12=true
 p2:qU c.inst 0 f=true
 p3:qU c.seq 1 16=true
 b: ∀r∈c.batch,sU K 2 r
 up: ∀i r s,c.batch[i]?=some r->c.batch[i+1]?=some s->zT r s= -1
 nb:c.batch.length<=4
 r:Ih f c.sw
 s: ∀v∈c.sw,xE K ⟨5,v.1,c.view,c.inst,c.seq,0,c.batch,[],[]⟩ v.2
noncomputable def Cw(E:Who)(c:Ce)(S:KN):Option (KN×Kj):=
 (must (adC S.1 E.f c)).bind fun _=>(S.2.pl c.inst.toNat (c.seq -1).toNat).bind fun i=>if i.2.done.isSome then some (S,.stale) else
  (NC E c.inst.toNat c.batch (S.1,S.2.put c.inst.toNat (c.seq -1).toNat {i.2 with done:=some c})).map fun s=>(s,.used)
end
def nu(f:Int)(n id gx b:Nat)(d:bK)(K:KS):List ni:=tZ d.nn b K::sF f id n gx d
abbrev qE(x:Nat)(w:World)(f:Int)(n id gx b:Nat)(d:bK)(K:KS):Prop:=Sys x w (nu f n id gx b d K)
abbrev mP(x:Nat)(w w':World)(f:Int)(n id gx b:Nat)(d:bK)(K:KS)(d':bK)(K':KS):Prop:=Step x w w' (nu f n id gx b d K) (nu f n id gx b d' K')
section
variable{x:Nat}{w w' w'':World}{f:Int}{n id gx b:Nat}{d d':bK}{K K':KS}{S:LN}
theorem Sys.Pt(h:qE x w f n id gx b d K):vC w d.nn b K:=h.get (j:=0) rfl
theorem Sys.blk(h:qE x w f n id gx b d K):aZ w gx 131 (yB f id d):=h.get (j:=1) rfl
theorem Sys.Bc(h:qE x w f n id gx b d K):vT w d.gt d.now:=h.get (j:=2) rfl
theorem Sys.row(h:qE x w f n id gx b d K):Row w d.gr 164 1 d.is.length d.rX (d.is.map fun p=> .pointer (some ⟨p.1,0,none⟩)):=h.get (j:=3) rfl
theorem Sys.tab(h:qE x w f n id gx b d K):TabAt w d.nH f 2 d.T d.ST:=h.get (j:=4) rfl
theorem Sys.vot(h:qE x w f n id gx b d K):zQ w d.gv d.Iz f d.V:=h.get (j:=5) rfl
theorem Sys.grd(h:qE x w f n id gx b d K):Ld w d.gg 8 8:=h.get (j:=6) rfl
theorem Sys.led(h:qE x w f n id gx b d K):Er w d.SL d.gd 2 d.es d.st d.ct:=h.get (j:=7) rfl
theorem Sys.met(h:qE x w f n id gx b d K):pJ w d.gm d.Dl d.ga:=h.get (j:=8) rfl
theorem Sys.parts(h:qE x w f n id gx b d K):aZ w d.gp 290 d.xU.toArray:=h.get (j:=9) rfl
theorem Sys.begun(h:qE x w f n id gx b d K):aZ w d.gb 292 d.vZ.toArray:=h.get (j:=10) rfl
theorem Sys.nN(h:qE x w f n id gx b d K):xG w d.xL d.Aq d.nN:=h.get (j:=11) rfl
theorem Sys.nG(h:qE x w f n id gx b d K):xG w d.xK d.zR d.nG:=h.get (j:=12) rfl
theorem Sys.out(h:qE x w f n id gx b d K):nJ x w d.oa d.ol.length d.oc d.ol:=h.get (j:=13) rfl
theorem VK(k:Nat){p:Nat×tJ}(h:d.is[k]?=some p):(nu f n id gx b d K)[14+k]?=some (zX f n k p.1 p.2):=by have:=Jc f n d.is 0 k;rw[h,aO] at this;rw[show 14+k=k+14 by omega];exact this
theorem Sys.inst(h:qE x w f n id gx b d K){p:Nat×tJ}(H:d.is[k]?=some p):eU x w f n k 4 p.1 p.2:=h.get (VK k H)
theorem Sys.ptr(h:qE x w f n id gx b d K){p:Nat×tJ}(H:d.is[k]?=some p):J w d.gr k p.1:=h.row.cell (by rw[aS,H];rfl)
theorem Step.Pt(h:mP x w w' f n id gx b d K d' K'){K'':KS}(a:vC w'' d'.nn b K'')(c:Only [b] w' w''):mP x w w'' f n id gx b d K d' K'':=
 h.turn (j:=0) (c':=tZ d'.nn b K'') rfl c (fun k H=> .inl (by simp only[au] at H;subst H;simp[tZ,nM])) a (EX _ _ _) fun k H=> .inl H
theorem Step.blk(h:mP x w w' f n id gx b d K d' K'){cs:AV}(a:aZ w'' gx 131 cs)(c:Only [gx] w' w''):Step x w w'' (nu f n id gx b d K) ((nu f n id gx b d' K').set 1 (mW gx 131 cs)):=
 h.turn (j:=1) (c':=mW gx 131 cs) rfl c (fun k H=> .inl H) a (oF _ _ _ aV) fun k H=> .inl H
theorem Step.Bc(h:mP x w w' f n id gx b d K d' K'){t:Int}(a:vT w'' d'.gt t)(c:Only [d'.gt] w' w''):mP x w w'' f n id gx b d K (d'.GU t) K':=
 h.turn (j:=2) (c':=Da d'.gt t) rfl c (fun k H=> .inl H) a (Lp _ _) fun k H=> .inl H
theorem Step.tab(h:mP x w w' f n id gx b d K d' K'){T:List oO}{ST:LN}(H:TabAt w'' d'.nH f 2 T ST)(g:Only S w' w'')(a: ∀k∈S,k∈d'.ST)(e: ∀k∈ST,k∈d'.ST\/w'.heap.size<=k):mP x w w'' f n id gx b d K (d'.tabled T ST) K':=
 h.turn (j:=4) (c':=Fg d'.nH f 2 T ST) rfl g (fun k c=> .inl (a k c)) H (Nh _ _ _ _ _) e
theorem Step.led(h:mP x w w' f n id gx b d K d' K'){SL:LN}{es:List CY}{st:List (Bool×Int)}{ct:List (Int×Int)}(H:Er w'' SL d'.gd 2 es st ct)(e:Only d'.SL w' w'')(c: ∀k∈SL,k∈d'.SL\/w'.heap.size<=k):mP x w w'' f n id gx b d K (d'.booked SL es st ct) K':=
 h.turn (j:=7) (c':=ET SL d'.gd 2 es st ct) rfl e (fun k a=> .inl a) H (Mq _ _ _ _ _ _) c
theorem Step.met(h:mP x w w' f n id gx b d K d' K'){ga:List (Int×Int)}(a:pJ w'' d'.gm d'.Dl ga)(c:Only [d'.Dl] w' w''):mP x w w'' f n id gx b d K (d'.yS ga) K':=
 h.turn (j:=8) (c':=Dx d'.gm d'.Dl ga) rfl c (fun k H=> .inl (by simp only[au] at H;subst H;simp[Dx,nM])) a (Mx _ _ _) fun k H=> .inl H
theorem Rk{l:List (Nat×List Int)}(H:l[j]?=some p)(q:LI):(l.set j (p.1,q)).map Prod.fst=l.map Prod.fst:=by
 have h:j<l.length:=(ah.1 H).1;rw[eT];refine dD fun k=> ?_;by_cases a:k=j
 ·subst a
  rw[aL (mR h),aS,H];rfl
 rw[aX (dR a)]
theorem Step.aeu(h:mP x w w' f n id gx b d K d' K'){d'':bK}(H:nu f n id gx b d'' K'=(nu f n id gx b d' K').set 1 (mW gx 131 (yB f id d''))){i:Nat}{v:Value}(a:(yB f id d').setIfInBounds i v=yB f id d''):mP x w (w'.setCell (adZ gx i) v) f n id gx b d K d'' K':=by have:=h.blk (cs:=yB f id d'') (w'':=w'.setCell (adZ gx i) v) (by rw[<-a];exact h.sys.blk.fU i v) ((Only.refl [gx] w').setCell (.inl bJ) _);rw[mP,H];exact this
theorem Step.com(h:mP x w w' f n id gx b d K d' K'){i:Nat}(a:d'.nG[j]?=some p)(z:Int):mP x w (w'.setCell ⟨p.1,i,none⟩ (U z)) f n id gx b d K (d'.XA j p i z) K':=by
 have e:=Rk a (p.2.set i z);have:=h.turn (j:=12) (c':=wJ d'.xK d'.zR (d'.nG.set j (p.1,p.2.set i z))) rfl ((Only.refl [p.1] w').setCell (.inl bJ) _) (fun k H=> .inl (by
  simp only[au] at H;subst H;exact cK _ (bM.2 ⟨p,ak a,rfl⟩))) (h.sys.nG.set a i z) (yY _ _ _) fun k H=> .inl (by
  simp only[wJ,nM] at H|-
  rwa [e] at H)
 have E:yB f id (d'.XA j p i z)=yB f id d':=by simp[yB]
 have c:nu f n id gx b (d'.XA j p i z) K'=(nu f n id gx b d' K').set 12 (wJ d'.xK d'.zR (d'.nG.set j (p.1,p.2.set i z))):=by simp only[nu,sF,E];rfl
 rw[mP,c];exact this
theorem Step.pre(h:mP x w w' f n id gx b d K d' K'){i:Nat}(a:d'.nN[j]?=some p)(z:Int):mP x w (w'.setCell ⟨p.1,i,none⟩ (U z)) f n id gx b d K (d'.pred j p i z) K':=by
 have e:=Rk a (p.2.set i z);have:=h.turn (j:=11) (c':=wJ d'.xL d'.Aq (d'.nN.set j (p.1,p.2.set i z))) rfl ((Only.refl [p.1] w').setCell (.inl bJ) _) (fun k H=> .inl (by
  simp only[au] at H;subst H;exact cK _ (bM.2 ⟨p,ak a,rfl⟩))) (h.sys.nN.set a i z) (yY _ _ _) fun k H=> .inl (by
  simp only[wJ,nM] at H|-
  rwa [e] at H)
 have E:yB f id (d'.pred j p i z)=yB f id d':=by simp[yB]
 have c:nu f n id gx b (d'.pred j p i z) K'=(nu f n id gx b d' K').set 11 (wJ d'.xL d'.Aq (d'.nN.set j (p.1,p.2.set i z))):=by simp only[nu,sF,E];rfl
 rw[mP,c];exact this
theorem Step.sent (h:mP x w w' f n id gx b d K d' K') {A:OA}  {L:List wN} (e:aZ w'' gx 131 (yB f id (d'.outs A c L))) (g:nJ x w'' A L.length c L) (o:Only (gx::(d'.oa.map (·.block)).toList) w' w'')
  (m: ∀k,A.map (·.block)=some k->d'.oa.map (·.block)=some k\/w'.heap.size<=k):mP x w w'' f n id gx b d K (d'.outs A c L) K':=by
 have s:Step x w' w'' [mW gx 131 (yB f id d'),Cv d'.oa d'.oc d'.ol] [mW gx 131 (yB f id (d'.outs A c L)),Cv A c L]:=by
  refine⟨⟨fun c a=> ?_,fun c a=> ?_,?_⟩,by simpa[nE,mW,nM,Cv] using o,fun k H=> ?_⟩
  ·simp only[ay,aI,or_false] at a
   rcases a with rfl|rfl
   ·exact oF _ _ _ aV
   exact EY _ _ _
  ·simp only[ay,aI,or_false] at a
   rcases a with rfl|rfl
   ·exact e
   exact g
  ·simp only[eu,au,forall_eq,aI,false_imp_iff,implies_true,iE,and_true]
   intro k H l;simp only[mW,nM,au] at H;subst H;exact oJ g.own e aV _ l rfl
  simp only[nE,mW,nM,Cv,bQ,iM,aQ,au,eG,aJ] at H|-;rcases H with H|H
  ·exact .inl (.inl H)
  exact(m k H).imp (fun h=> .inr h) fun h=>h
 exact h.trans (h.sys.aav (i:=1) (j:=13) rfl rfl aV s)
theorem Step.inst(h:mP x w w' f n id gx b d K d' K'){i i':tJ}(H:d'.is[k]?=some (g,i))(m:eU x w'' f n k 4 g i')(s:Only S w' w'')(o: ∀q∈S,q∈i.foot g)(r: ∀q∈i'.foot g,q∈i.foot g\/w'.heap.size<=q):mP x w w'' f n id gx b d K (d'.insts k g i') K':=by
 have a:k<d'.is.length:=(ah.1 H).1;have t:=h.turn (j:=14+k) (c':=zX f n k g i') (VK k H) s (fun q u=> .inl (o q u)) m (Ja _ _ _ _ _) r;have e:(d'.is.set k (g,i')).map (fun p=>Value.pointer (some ⟨p.1,0,none⟩))=d'.is.map fun p=>Value.pointer (some ⟨p.1,0,none⟩):=by
  rw[eT];refine dD fun j=> ?_;by_cases c:j=k
  ·subst c
   rw[aL (mR a),aS,H];rfl
  rw[aX (dR c)]
 have E:yB f id (d'.insts k g i')=yB f id d':=by simp[yB]
 have l:nu f n id gx b (d'.insts k g i') K'=(nu f n id gx b d' K').set (14+k) (zX f n k g i'):=by simp only[nu,sF,E,e,bG];have:=Jd f n g i' d'.is 0 k;rw[aO] at this;rw[<-this,show 14+k=k+14 by omega];rfl
 rw[mP,l];exact t
end
structure Fix(d d':bK):Prop where
 nn:d'.nn=d.nn
 gt:d'.gt=d.gt
 gr:d'.gr=d.gr
 rX:d'.rX=d.rX
 nH:d'.nH=d.nH
 gv:d'.gv=d.gv
 Iz:d'.Iz=d.Iz
 gg:d'.gg=d.gg
 gd:d'.gd=d.gd
 gm:d'.gm=d.gm
 Dl:d'.Dl=d.Dl
 gp:d'.gp=d.gp
 gb:d'.gb=d.gb
 xL:d'.xL=d.xL
 Aq:d'.Aq=d.Aq
 xK:d'.xK=d.xK
 zR:d'.zR=d.zR
 is:(d'.is.map Prod.fst)=d.is.map Prod.fst
 nN:(d'.nN.map fun p=>(p.1,p.2.length))=d.nN.map fun p=>(p.1,p.2.length)
 nG:(d'.nG.map fun p=>(p.1,p.2.length))=d.nG.map fun p=>(p.1,p.2.length)
 xU:(d'.xU.length)=d.xU.length
 vZ:(d'.vZ.length)=d.vZ.length
theorem Fix.refl(d:bK):Fix d d:=⟨rfl,rfl,rfl,rfl,rfl,rfl,rfl,rfl,rfl,rfl,rfl,rfl,rfl,rfl,rfl,rfl,rfl,rfl,rfl,rfl,rfl,rfl⟩
theorem Fix.Bo(d:bK)(A:OA)(c:Nat)(L:List wN):Fix d (d.outs A c L):=by constructor<;>rfl
theorem Fix.Bp(d:bK)(T:List oO)(ST:LN):Fix d (d.tabled T ST):=by constructor<;>rfl
theorem Fix.MN(d:bK)(ga:List (Int×Int)):Fix d (d.yS ga):=by constructor<;>rfl
theorem Fix.Uu(d:bK)(t:Int):Fix d (d.GU t):=by constructor<;>rfl
theorem Fix.trans{d d' d'':bK}(h:Fix d d')(k:Fix d' d''):Fix d d'':=⟨k.nn.trans h.nn,k.gt.trans h.gt,k.gr.trans h.gr,k.rX.trans h.rX,k.nH.trans h.nH,k.gv.trans h.gv,k.Iz.trans h.Iz,k.gg.trans h.gg,k.gd.trans h.gd,k.gm.trans h.gm,k.Dl.trans h.Dl,k.gp.trans h.gp,k.gb.trans h.gb,k.xL.trans h.xL,k.Aq.trans h.Aq,k.xK.trans h.xK,k.zR.trans h.zR,k.is.trans h.is,k.nN.trans h.nN,k.nG.trans h.nG,k.xU.trans h.xU,k.vZ.trans h.vZ⟩
theorem Fix.akW{d d':bK}(h:Fix d d'):d'.is.length=d.is.length:=by have:=congrArg List.length h.is;simpa using this
theorem Fix.aez{d d':bK}(h:Fix d d'):d'.nN.length=d.nN.length:=by have:=congrArg List.length h.nN;simpa using this
theorem Fix.adu{d d':bK}(h:Fix d d'):d'.nG.length=d.nG.length:=by have:=congrArg List.length h.nG;simpa using this
def ndl(f id:Int)(d:bK):List Value:= [U f,U 2,U 2,U 4,U 64,U 8,U 8,U 8,U 1,U 2,U 12,U 8,U 6,U 2,U 6,U id,d.nn,d.gt,O d.gr d.is.length d.rX,d.nH,d.gv,d.gg,d.gd,d.gm,
 acX (some ⟨d.gp,0,none⟩) (d.xU.length/5) (d.xU.length/5),O d.gb (d.vZ.length/11) (d.vZ.length/11),O d.xL d.nN.length d.Aq,O d.xK d.nG.length d.zR]
def ndr(d:bK):List Value:= [U d.run,U d.view,U d.vk,U d.since,U d.start,d.stopped,acX d.oa d.ol.length d.oc,U d.c0,U d.c1,U d.c2,U d.c3,U d.c4]
theorem abd(f id:Int)(d:bK):yB f id d=(ndl f id d++ndr d).toArray:=rfl
theorem Fix.ndl{d d':bK}(h:Fix d d')(f id:Int):ndl f id d'=ndl f id d:=by unfold Go.Proofs.YtgnhecmnlddjhaaGreat.ndl;rw[h.nn,h.gt,h.gr,h.rX,h.akW,h.nH,h.gv,h.gg,h.gd,h.gm,h.gp,h.xU,h.gb,h.vZ,h.xL,h.aez,h.Aq,h.xK,h.adu,h.zR]
theorem Fix.cell{d d':bK}(h:Fix d d')(f id:Int)(i:Nat)(H:i<28):(yB f id d')[i]?=(yB f id d)[i]?:=by have e: ∀d,(Go.Proofs.YtgnhecmnlddjhaaGreat.ndl f id d).length=28:=fun _=>rfl;rw[abd,abd,cZ,cZ,bC (by rw[e];exact H),bC (by rw[e];exact H),h.ndl]
theorem Fix.ptr{d d':bK}(h:Fix d d')(H:d.is[k]?.map Prod.fst=some gi):d'.is[k]?.map Prod.fst=some gi:=by rw[<-aS,h.is,aS];exact H
theorem Fix.Ai{d:bK}{i i':tJ}(a:d.is[k]?=some (g,i)):Fix d (d.insts k g i'):=by
 refine⟨rfl,rfl,rfl,rfl,rfl,rfl,rfl,rfl,rfl,rfl,rfl,rfl,rfl,rfl,rfl,rfl,rfl,?_,rfl,rfl,rfl,rfl⟩;have h:k<d.is.length:=(ah.1 a).1;show(d.is.set k (g,i')).map Prod.fst=_;rw[eT];refine dD fun j=> ?_;by_cases H:j=k
 ·subst H
  rw[aL (mR h),aS,a];rfl
 rw[aX (dR H)]
theorem Fix.aep{d:bK}(H:d.nG[j]?=some p)(i:Nat)(z:Int):Fix d (d.XA j p i z):=by
 refine⟨rfl,rfl,rfl,rfl,rfl,rfl,rfl,rfl,rfl,rfl,rfl,rfl,rfl,rfl,rfl,rfl,rfl,rfl,rfl,?_,rfl,rfl⟩;have h:j<d.nG.length:=(ah.1 H).1;show(d.nG.set j (p.1,p.2.set i z)).map (fun p=>(p.1,p.2.length))=_;rw[eT];refine dD fun k=> ?_;by_cases a:k=j
 ·subst a
  rw[aL (mR h),aS,H];simp
 rw[aX (dR a)]
theorem Fix.aer{d:bK}(H:d.nN[j]?=some p)(i:Nat)(z:Int):Fix d (d.pred j p i z):=by
 refine⟨rfl,rfl,rfl,rfl,rfl,rfl,rfl,rfl,rfl,rfl,rfl,rfl,rfl,rfl,rfl,rfl,rfl,rfl,?_,rfl,rfl,rfl⟩;have h:j<d.nN.length:=(ah.1 H).1;show(d.nN.set j (p.1,p.2.set i z)).map (fun p=>(p.1,p.2.length))=_;rw[eT];refine dD fun k=> ?_;by_cases a:k=j
 ·subst a
  rw[aL (mR h),aS,H];simp
 rw[aX (dR a)]
theorem Sys.uD{L:List ni}(h:Sys x w L):Sys x w.drew L:=h.below (aC _ _).drew
theorem Qn{id gx:Nat}{d d':bK}{K:KS}(h:qE x w f n id gx b d' K)(a:Fix d d')(c:d.is[k]?.map Prod.fst=some gi):J w d'.gr k gi:=by have:=a.ptr c;rw[aK] at this;obtain⟨q,e,H⟩:=this;rw[<-H];exact h.ptr e
section
variable{x y:Nat}{w w':World}{f id:Int}{gk:Nat}{d:sI}{S:LN}{L:List ni}{c:ni}
theorem qF.noC(h:qF x w f id gk d):Nr w (d.foot gk):=by
 intro g a cs b;simp only[sI.foot,ay,aQ] at a;rcases a with rfl|rfl|a|a|a|a
 ·exact absurd (sN b h.blk) aV
 ·exact absurd (sN b h.Bc) aV
 ·obtain⟨_,c,H⟩:=dx h.yK g a
  exact absurd (sN b H) aV
 ·obtain⟨_,c,H⟩:=dx h.ans g a
  exact absurd (sN b H) aV
 ·obtain⟨_,c,H⟩:=dx h.acc g a
  exact absurd (sN b H) aV
 obtain⟨_,c,H⟩:=dx h.out.own g a;exact absurd (sN b H) aV
def Gp(f id:Int)(gk:Nat)(d:sI):ni:=⟨d.foot gk,fun x w=>qF x w f id gk d/\d.ia=none⟩
theorem Qd(f id:Int)(G:Nat)(d:sI):(Gp f id G d).Good:=
 ⟨fun H i c _ e=>⟨H.1.only i c e,H.2⟩,fun H b=>⟨⟨H.1.blk,H.1.Bc,H.1.yK,fun g a=>by rw[H.2] at a;simp at a,H.1.ans,H.1.acc,H.1.out.re b⟩,H.2⟩,fun h H b=>⟨⟨H.1.blk,H.1.Bc,H.1.yK,fun g a=>by rw[H.2] at a;simp at a,H.1.ans,H.1.acc,h.1.out.mv H.1.out b⟩,H.2⟩,fun H=>H.1.lt,fun H=>H.1.soft,fun H=>H.1.noC⟩
theorem Sys.pack(h:Sys x w (c::L)):Sys x w [c,uM L]:=by
 obtain⟨e,f⟩:=eu.1 h.sep;have d:Sys x w L:=⟨fun b H=>h.good b (cK _ H),fun b H=>h.at_ b (cK _ H),f⟩;refine⟨fun b H=> ?_,fun b H=> ?_,?_⟩
 ·simp only[ay,aI,or_false] at H
  rcases H with rfl|rfl
  ·exact h.good _ bJ
  exact BD d.good
 ·simp only[ay,aI,or_false] at H
  rcases H with rfl|rfl
  ·exact h.at_ _ bJ
  exact d
 simp only[eu,au,forall_eq,aI,false_imp_iff,implies_true,iE,and_true];intro k g i;obtain⟨b,H,a⟩:=bg.1 i;exact e b H k g a
theorem Sys.unpack(h:Sys x w [c,uM L]):Sys x w (c::L):=by
 have d:c.P x w:=h.at_ c bJ;have a:Sys x w L:=h.at_ (uM L) bJ;have g:=eu.1 h.sep;refine⟨fun b H=> ?_,fun b H=> ?_,eu.2 ⟨fun b H k e f=>g.1 (uM L) bJ k e (bg.2 ⟨b,H,f⟩),a.sep⟩⟩
 ·rcases ay.1 H with rfl|H
  ·exact h.good _ bJ
  exact a.good b H
 rcases ay.1 H with rfl|H
 ·exact d
 exact a.at_ b H
theorem EP(c:ni)(L:List ni):nE [c,uM L]=nE (c::L):=by simp[nE,uM]
theorem Step.pack{c':ni}(h:Step x w w' (c::L) (c'::L')):Step x w w' [c,uM L] [c',uM L']:=
 ⟨h.sys.pack,by rw[EP];exact h.only,by rw[EP,EP];exact h.new⟩
theorem Sys.node{LN LN':List ni}{a':ni}(h:Sys x w L)(c:L[0]?=some a)(d:L[j]?=some (uM LN))(H:j≠0)(b:Step x w w' (a::LN) (a'::LN')):Step x w w' L ((L.set 0 a').set j (uM LN')):=
 h.aav (i:=0) (j:=j) c d (dR H) b.pack
theorem Sys.adE{LN:List ni}(h:Sys x w L)(b:L[0]?=some a)(c:L[j]?=some (uM LN))(H:j≠0):Sys x w (a::LN):=(h.two b c (dR H)).unpack
structure UY(x:Nat)(w:World)(L:List ni)(f id:Int)(gk:Nat)(d:sI):Prop where
 sys:Sys x w L
 ck:qF x w f id gk d
 far: ∀k∈d.foot gk,k∉nE L
theorem UY.step(h:UY x w L f id gk d)(s:Step x w w' L L'):UY x w' L' f id gk d:=
 ⟨s.sys,h.ck.only s.only h.sys.soft h.far,fun k H a=>by
  rcases s.new k a with e|e
  ·exact h.far k H e
  have:=h.ck.lt k H;omega⟩
theorem UY.below(h:UY x w L f id gk d)(H:Be w w'):UY x w' L f id gk d:=h.step ((Step.refl h.sys).below H)
theorem UY.own(h:UY x w L f id gk d)(b:qF x w' f id gk d')(g:Only (d.foot gk) w w')(c: ∀k∈d'.foot gk,k∈d.foot gk\/w.heap.size<=k):UY x w' L f id gk d':=
 ⟨h.sys.only g h.ck.soft h.ck.noC fun k a H=>h.far k H a,b,fun k a H=>by
  rcases c k a with e|e
  ·exact h.far k e H
  have:=h.sys.lt k H;omega⟩
theorem UY.issue{x' nn:Nat}{K K':KS}(h:UY x w L f id gk d)(n:L[0]?=some (tZ nn b K))(M:vC w' nn b K')(o:qF x' w' f id gk d')(R:Only (b::d.foot gk) w w')(Q: ∀k∈d'.foot gk,k∈d.foot gk\/w.heap.size<=k)(hx:x'=x\/w.heap.size<=x'):
  UY x' w' (L.set 0 (tZ nn b K')) f id gk d':=by
 have v:b∈(tZ nn b K).foot:=by simp[tZ,nM]
 have G:=h.sys.good _ (ak n);have P:=h.sys.get n;have S:0<L.length:=(ah.1 n).1;have N: ∀g∈b::d.foot gk,nV x w g:=fun g r=>by
  rcases ay.1 r with rfl|r
  ·exact G.soft P _ v
  exact h.ck.soft g r
 have J:Nr w (b::d.foot gk):=fun g r=>by
  rcases ay.1 r with rfl|r
  ·exact G.noC P _ v
  exact h.ck.noC g r
 have key: ∀j c,j≠0->L[j]?=some c->c.P x' w':=fun j c H l=>by
  have A:=h.sys.good c (ak l);have E:=h.sys.get l;have p1:=A.only E R N J fun k i m=>by
   rcases ay.1 m with rfl|m
   ·exact h.sys.apart l n H k i v
   exact h.far k m (pY l i)
  rcases hx with rfl|hx
  ·exact p1
  exact A.mv E p1 hx
 have e: ∀j c,(L.set 0 (tZ nn b K'))[j]?=some c->(j=0/\c=tZ nn b K')\/(j≠0/\L[j]?=some c):=fun j c H=>by
  by_cases a:j=0
  ·subst a
   rw[aL S] at H;injection H with H;exact .inl ⟨rfl,H.symm⟩
  rw[aX (dR a)] at H;exact .inr ⟨a,H⟩
 have O: ∀k,k∈nE (L.set 0 (tZ nn b K'))->k∈nE L:=fun k i=>by
  obtain⟨c,o,s⟩:=bg.1 i;obtain⟨j,H⟩:=bT.1 o;rcases e j c H with⟨rfl,rfl⟩|⟨_,H⟩
  ·exact pY n s
  exact pY H s
 refine⟨⟨fun c o=> ?_,fun c o=> ?_,zO fun p q F C t I B=> ?_⟩,o,fun k i m=> ?_⟩
 ·obtain⟨j,H⟩:=bT.1 o
  rcases e j c H with⟨rfl,rfl⟩|⟨_,H⟩
  ·exact EX _ _ _
  exact h.sys.good c (ak H)
 ·obtain⟨j,H⟩:=bT.1 o
  rcases e j c H with⟨rfl,rfl⟩|⟨a,H⟩
  ·exact M
  exact key j c a H
 ·rcases e p F I with⟨rfl,rfl⟩|⟨y,D⟩
  ·rcases e q C B with⟨rfl,_⟩|⟨u,z⟩
   ·exact absurd rfl t
   exact fun k i=>h.sys.apart n z (dR u) k i
  rcases e q C B with⟨rfl,rfl⟩|⟨u,z⟩
  ·exact fun k i=>h.sys.apart D n y k i
  exact h.sys.apart D z t
 have m:=O k m;rcases Q k i with e|e
 ·exact h.far k e m
 have:=h.sys.lt k m;omega
end
theorem Vu(w:World)(a:OA)(m c:Nat)(l:LI)(n:gD w a m 1 (l.map fun y:Int=>Value.int .i64 y))(v:m<=4096)(z:Int)(r:Bool)(x:r=decide (z∈l)):
  Y 41 #[.slice a m c,U z] w fun e w'=>e= .returned r/\w=w':=by
 have u:l.length=m:=by have:=n.1;simpa using this
 obtain⟨t,A,p⟩:=j3 x n u;clear x n u;go_enter func41,ntmps41;go_wp2_with fail;go_loopw [9] (fun q wr=> ∃k:Nat,k<=m/\q= U k/\wr=w/\ ∀j,j<k->l[j]?≠some z) (fun q _=>m -(intOf q).toNat)
 case atStart=>exact⟨0,aR,by first|rfl|simp,rfl,fun j d=>absurd d aR⟩
 case round=>
  obtain⟨k,D,rfl,rfl,g⟩:=hrel;have N:=jj g;clear g;by_cases i:k<m
  ·have I:(k:Int)<m:=aR
   have F:(0:Int)<=k:=aR;obtain⟨b,O,rfl,B,H⟩:=A.2 aR;obtain⟨y,o⟩: ∃y,l[k]?=some y:=⟨_,aj (by rw[p.out];exact i)⟩;have C:J wr b (O+k) (U y):=H k _ (by rw[aS,o];rfl);have s:=jj o;clear H o;by_cases e:y=z
   ·have E:(y=z)=True:=by simp[e]
    have f:r=true:=by rw[t.out];exact decide_eq_true (e▸ak s)
    subst f;go_wp2_with fail;go_ret;exact⟨by trivial,by trivial⟩
   go_wp2_with fail;go_roundw
   case rel=>exact⟨k+1,aR,by go_num,trivial,fun j d=>by
    by_cases h:j=k
    ·rw[h,s.out]
     exact fun h=>e (dh h)
    exact N.out j aR⟩
   simp[intOf];omega
  obtain rfl:k=m:=aR;have f:r=false:=by rw[t.out];refine decide_eq_false fun v=> ?_;obtain⟨j,d⟩:=bT.1 v;exact N.out j (by have:=(ah.1 d).1;rw[p.out] at this;exact this) d
  subst f;go_wp2_with fail;go_ret;exact⟨by trivial,by trivial⟩
namespace qM
def yw(n a b:Int):Bool:=decide (a<=n)&&decide (n<=b)
theorem pG(n a b:Int)(w:World):Y 70 #[U n,U a,U b] w fun e w'=>e=acK (yw n a b)/\w=w':=by
 unfold yw;by_cases h:a<=n
 all_goals
  go_enter func70,ntmps70
  go_wp2
  go_ret;exact⟨by first|(simp[h];done)|(simp;omega),rfl⟩
def qY(c0 c1 c2 c3 c4 c5 c6 c7 c8 c9 c10 c11 c12 c13 c14:Int):Bool:=
 yw c0 1 4&&yw c1 1 4&&yw c2 1 4&&yw c3 1 16&&yw c4 1 256&&yw c5 1 64&&yw c6 1 64&&yw c7 2 64&&yw c8 0 8&&yw c9 1 8&&yw c10 2 64&&yw c11 0 64&&yw c12 2 64&&yw c13 1 16&&yw c14 1 64
theorem acP(f:Int)(w:World):Y 8 #[U f] w
  fun e w'=>e=acK (acY #[U f,U 2,U 2,U 4,U 64,U 8,U 8,U 8,U 1,U 2,U 12,U 8,U 6,U 2,U 6])/\Be w w':=by
 go_enter func8,ntmps8
 go_wp2
 refine bodyPost_ret (v:=acY #[U f,U 2,U 2,U 4,U 64,U 8,U 8,U 8,U 1,U 2,U 12,U 8,U 6,U 2,U 6]) (by simp[results,Tryz.results8,go_sem]) rfl ⟨rfl,nC⟩
end qM
namespace qM

end qM
namespace qM
def wI(f c p:Int):Bool:=(decide (0<=p)&&decide (p<=3*f))||(decide (100<=p)&&decide (p<=99+c))
theorem Fa(f c p:Int)(b:Bool)(h:b=true↔(0<=p/\p<=3*f)\/(100<=p/\p<=99+c)):wI f c p=b:=by rw[kG,h];unfold wI;simp only[eZ,bX,decide_eq_true_eq]
theorem Wm(c0 c c2 i j k l m n o C a b d f p:Int)(w:World)(h:1<=c0)(H:c0<=4)(r:1<=c)(s:c<=4):
  Y 40 #[acY #[U c0,U c,U c2,U i,U j,U k,U l,U m,U n,U o,U C,U a,U b,U d,U f],U p] w fun e w'=>e=acK (wI c0 c p)/\Be w w':=by
 by_cases hx:0<=p/\p<=3*c0
 ·have q:yw p 0 (3*c0)=true:=by simp[yw,hx.1,hx.2]
  have E:wI c0 c p=true:=by simp[wI,hx.1,hx.2]
  rw[E];clear E hx;go_enter func40,ntmps40
  go_wp2_with(first
   |(go_at_call 44;refine(oC _ _ h H).mono ?_;rintro e w' ⟨rfl,rfl⟩)
   |(go_at_call 70;refine(pG _ _ _ _).mono ?_;rintro e w' ⟨rfl,rfl⟩))
  go_ret;exact⟨rfl,nC⟩
 have q:yw p 0 (3*c0)=false:=by unfold yw;simp;omega
 have E:wI c0 c p=yw p 100 (99+c):=by unfold wI yw;rw[show(decide (0<=p)&&decide (p<=3*c0))=false by simp;omega,jV]
 have g:yw p 100 (99+c)=yw p 100 (100+c -1):=by rw[show 99+c=100+c -1 by omega]
 rw[E,g];clear E g hx;go_enter func40,ntmps40
 go_wp2_with(first
  |(go_at_call 44;refine(oC _ _ h H).mono ?_;rintro e w' ⟨rfl,rfl⟩)
  |(go_at_call 70;refine(pG _ _ _ _).mono ?_;rintro e w' ⟨rfl,rfl⟩))
 go_ret;exact⟨rfl,nC⟩
end qM
structure ClD where
 f:Int
 fa:Option Addr
 fm:Nat
 fc:Nat
 nn:Nat
 gn:Nat
 na:Option Addr
 nl:Nat
 nc:Nat
 ka:Option Addr
 kl:Nat
 kc:Nat
def Gq(d:ClD):Array Value:=#[U d.f,U 2,U 2,U 4,U 64,U 8,U 8,U 8,U 1,U 2,U 12,U 8,U 6,U 2,U 6,
 acX d.fa d.fm d.fc,d.nn,d.gn,acX d.na d.nl d.nc,acX d.ka d.kl d.kc]
theorem Te(w:World)(gc:Nat)(d:ClD)(h:aZ w gc 99 (Gq d))(t:1<=d.f)(u:d.f<=4)(l:LI)(o:gD w d.fa d.fm 1 (l.map fun y:Int=>Value.int .i64 y))(v:d.fm<=4096)(p:Int)(r:Bool)(c:r=(qM.wI d.f 2 p&&!decide (p∈l))):
  Y 86 #[gc,U p] w fun e w'=>e=acK r/\Be w w':=by
 have n:=jj h;have s:=jj o;obtain⟨tb,b⟩:=ex (decide (p∈l));rw[<-b] at c;have i:=jj b;clear b;obtain⟨P,a⟩:=ex (qM.wI d.f 2 p);rw[<-a] at c;have g:=jj a;obtain⟨x,z,C,D,E,F,q6,G,q8,I⟩:=h.zA;have q:=h.at_ 10;have Q:=h.at_ 11;have j:=h.at_ 12;have k:=h.at_ 13;have m:=h.at_ 14;clear h o;go_enter func86,ntmps86;go_wp2_with fail;refine(qM.Wm d.f 2 2 4 64 8 8 8 1 2 12 8 6 2 6 p _ t u aV aV).mono ?_;rintro e W ⟨rfl,H⟩;have B:=jj H;have A:J W gc 15 (acX d.fa d.fm d.fc):=(n.below H n.lt).cell 15;rw[<-g.out];clear H x z C D E F q6 G q8 I q Q j k m a;cases P
 ·have f:r=false:=by rw[c];rfl
  clear c;subst f;go_wp2_with fail;go_ret;exact⟨by trivial,B⟩
 go_wp2_with fail;refine(Vu W d.fa d.fm d.fc l (s.below B) v p tb i).mono ?_;rintro e K ⟨rfl,rfl⟩;have f:r=!tb:=by rw[c];simp
 clear c;subst f;go_wp2_with fail;go_ret;exact⟨by first|rfl|trivial|simp,B⟩
theorem acI(w:World)(gc:Nat)(d:ClD)(h:aZ w gc 99 (Gq d))(l:LI)(H:gD w d.fa d.fm 1 (l.map fun y:Int=>Value.int .i64 y))(f:d.fm<=4096)(p:Int)(r:Bool)(a:r=decide (p∈l)):
  Y 63 #[gc,U p] w fun e w'=>e=acK r/\w=w':=by have q:=h.at_ 15;have b:=jj H;have c:=jj a;clear h H a;go_enter func63,ntmps63;go_wp2_with fail;refine(Vu w d.fa d.fm d.fc l b f p r c).mono ?_;rintro e W ⟨rfl,rfl⟩;go_wp2_with fail;go_ret;exact⟨by trivial,by trivial⟩
theorem agf(w:World)(gc:Nat)(d:ClD)(h:aZ w gc 99 (Gq d))(u:1<=d.f)(v:d.f<=4)(p q:Int)(i:p≠q)(x:qM.wI d.f 2 p=true)(y:qM.wI d.f 2 q=true):
  Y 109 #[gc,U p,U q] w fun e w'=>e=acK true/\Be w w':=by
 have t:=jj h;obtain⟨j,k,l,m,n,o,q6,r,q8,s⟩:=h.zA;have Q:=h.at_ 10;have a:=h.at_ 11;have b:=h.at_ 12;have c:=h.at_ 13;have f:=h.at_ 14;have A:=jj x;have C:=jj y;have P:(p !=q)=true:=by simpa using i
 clear h x y i;go_enter func109,ntmps109;go_wp2_with fail;refine(qM.Wm d.f 2 2 4 64 8 8 8 1 2 12 8 6 2 6 p _ u v aV aV).mono ?_;rintro e W ⟨rfl,H⟩;have B:=jj H;have X:=jj (t.below H t.lt);rw[A.out];clear H j k l m n o q6 r q8 s Q a b c f;obtain⟨j,k,l,m,n,o,q6,r,q8,s⟩:=X.zA;have Q:=X.at_ 10;have a:=X.at_ 11;have b:=X.at_ 12;have c:=X.at_ 13;have f:=X.at_ 14;go_wp2_with fail;refine(qM.Wm d.f 2 2 4 64 8 8 8 1 2 12 8 6 2 6 q _ u v aV aV).mono ?_;rintro e D ⟨rfl,g⟩;have z:=nO B g;rw[C.out];clear g j k l m n o q6 r q8 s Q a b c f;go_wp2_with fail;go_ret;exact⟨by trivial,z⟩
theorem ajB(w:World)(gc:Nat)(d:ClD)(h:aZ w gc 99 (Gq d))(l:LI)(j:gD w d.fa d.fm 1 (l.map fun y:Int=>Value.int .i64 y))(v:d.fm<=4096)(p:Int)(g:p∈l)(b:Nat)(K:KS)(f:vC w d.nn b K)(A:OA)(m c:Nat)(bs:LI)(k:gD w A m 1 (mZ bs))(q:Int×List Int)(i:q=(p,bs))(ok:Ns q)(x:K.length+1<1048576):
  Y 140 #[gc,U p,acX A m c,true] w fun e w'=>e=acK (U (num (sealed K q) q))/\vC w' d.nn b (sealed K q)/\Only [b] w w':=by have Q:=h.at_ 16;obtain⟨n,s,o,t,r,H⟩:=j6 h j f k g i;have u:=jj ok;clear h j f k g i ok;go_enter func140,ntmps140;go_wp2_with fail;refine(acI w gc d n l s v p true (by simp[r.out])).mono ?_;rintro e W ⟨rfl,rfl⟩;go_wp2_with fail;refine(Ox d.nn b K p A m c bs w o t (by rw[<-H.out];exact u.out) aR _ rfl _ rfl).mono ?_;rintro e z ⟨rfl,a,o3⟩;have N:=jj a;have O:=jj o3;clear a o3;go_wp2_with fail;go_ret;exact⟨by rw[H.out];first|rfl|trivial,by rw[H.out];exact N.out,O⟩
theorem agi(w:World)(gc:Nat)(a:OA)(c:Nat)(F:Value):
  Y 141 #[gc,.slice a 0 c,F] w fun e w'=> ∃A c',e= .returned (.slice A 0 c')/\c'<=maxLen/\Be w w':=by
 obtain⟨i,H,b,d,f⟩:=info_parts Cr;go_enter func141,ntmps141
 go_wp2_with(at_builtin;refine fD rfl _ _ _ rfl w.heap.size 311 i _ 2 16 underlying78 H b d f rfl aR none 0 0 [] rfl ⟨bJ,.inl ⟨rfl,rfl⟩⟩ a 0 c [] rfl ⟨rfl,fun h=>absurd h aR⟩ bJ (by unfold maxLen;omega) aR (aF _) ?_;intro a5 C W g)
 have B:=jj (g.below (⟨bJ,.inl ⟨rfl,rfl⟩⟩:w.ownsRow w.heap.size 311 2 () 0 []) (aC _ _) (aF _) (aF _));have m:C<=maxLen:=uO g.own;clear g H b d f
 go_loopw [14] (fun q wr=>q= U 0/\wr=W) (fun _ _=>0)
 case atStart=>exact⟨by first|rfl|simp,by first|rfl|simp⟩
 case round=>
  obtain⟨rfl,rfl⟩:=hrel;go_wp2_with fail;go_ret;exact⟨a5,C,by trivial,m,B⟩
theorem agd(w:World)(gc:Nat)(kd:Int)(a:OA)(c:Nat):
  Y 106 #[gc,U kd,.slice a 0 c] w fun e w'=>e= .returned ()/\Be w w':=by
 go_enter func106,ntmps106;go_upto_region 1 with fail;generalize hw1:w.alloc _=w1;replace hw1:=hw1.symm;have B:=tQ hw1;clear hw1;go_wp2_with fail;go_loopw [7,12] (fun p q wr=>p= .slice none 0 0/\q= U 0/\wr=w1) (fun _ _ _=>0)
 case atStart=>exact⟨by first|rfl|simp,by first|rfl|simp,by first|rfl|simp⟩
 case round=>
  obtain⟨rfl,rfl,rfl⟩:=hrel;go_wp2_with fail;go_ret;exact⟨by trivial,B⟩
theorem ae4(w:World)(gc:Nat)(v:Int)(a:OA)(c:Nat):
  Y 107 #[gc,U v,acX a 0 c] w fun e w'=> ∃A c',e=acK (acX A 0 c')/\c'<=maxLen/\Be w w':=by
 go_enter func107,ntmps107;go_upto_region 1 with fail;obtain⟨W,h⟩:=ex (w.alloc (.cells #[U v] 3));have B:=tQ h
 try rw[<-h]
 clear h;go_wp2_with fail;refine(agi W gc a c _).mono ?_;rintro e f ⟨A,c',rfl,d,H⟩;have b:=nO B H;clear H;go_wp2_with fail;go_ret;exact⟨A,c',by trivial,d,b⟩
theorem ah6 (w:World) (gc:Nat) (d:ClD) (h:aZ w gc 99 (Gq d)) (l:LI) (hr:gD w d.fa d.fm 1 (l.map fun y:Int=>Value.int .i64 y)) (hm:d.fm<=4096) (l0:d.kl=2) (b:Nat) (K:KS) (hn:vC w d.nn b K) (hK:K.length+1<1048576)
  (A:OA) (c:Nat) (r0 r R a f:Int) (m:qc w A 1 c [(r0,r,R,a,f,-1)]) (h0:0<=r0) (h2:r0<2) (hp:100+r0∈l) (ok:xH (r0,r,R,a,f,0)) (q:Int×List Int) (hq:q=(100+r0,gM (r0,r,R,a,f,-1))) (P:Ns q) (z:Int) (hz:num (sealed K q) q=z):
  Y 105 #[gc,.slice A 1 c] w fun e w'=> ∃g' c',e= .returned (O g' 1 c')/\Row w' g' 49 6 1 c' (rA (r0,r,R,a,f,z))/\w.heap.size<=g'/\vC w' d.nn b (sealed K q)/\Only [b] w w':=by
 obtain⟨i0,v,L,M,N⟩:=info_parts rT;obtain⟨t,HR,V,HP,OK,HQ⟩:=j6 h hr hn hp ok hq;obtain⟨e0,HZ,f0⟩:=j3 P hz m;have g0:IntKind.i64.wrap (100+r0)=100+r0:=aH _ aR;clear h hr hn hp ok hq P hz m;go_enter func105,ntmps105
 go_wp2_with(at_builtin;refine fD rfl _ _ _ rfl w.heap.size 49 i0 _ 6 48 underlying46 v L M N rfl aR none 0 0 [] rfl ⟨bJ,.inl ⟨rfl,rfl⟩⟩ A 1 c ([(r0,r,R,a,f,-1)].flatMap rA) rfl f0.row (Bt _) (by unfold maxLen;omega) aR (aF _) ?_;intro a5 C X h5)
 have o:=F9 (X.ownsRow w.heap.size 49 6 (.slice a5 1 C) 1 (rA (r0,r,R,a,f,-1))) h5.own;have B5:=F9 (Be w X) h5.only.mY;clear h5 v L M N;obtain⟨g,rfl⟩: ∃g,a5=some ⟨g,0,none⟩:=by
  rcases rF o with h|h
  ·omega
  exact h
 have G:=F9 (w.heap.size<=g) (dG o g rfl).1;have n:=F9 (Row X g 49 6 1 C (rA (r0,r,R,a,f,-1))) (Row.sG o)
 go_loopw [14] (fun p wr=>(p= U 0/\wr=X)\/(p= U 1/\Row wr g 49 6 1 C (rA (r0,r,R,a,f,z))/\vC wr d.nn b (sealed K q)/\Only [b] w wr)) (fun p _=>1 -(intOf p).toNat)
 case atStart=>exact .inl ⟨by first|rfl|simp,by first|rfl|simp⟩
 case round=>
  rcases hrel with⟨rfl,rfl⟩|⟨rfl,I,E,F⟩
  ·have d0:J wr g 0 (U r0):=n.cell (j:=0) rfl
   have d1:J wr g 1 (U r):=n.cell (j:=1) rfl;have d2:J wr g 2 (U R):=n.cell (j:=2) rfl;have d3:J wr g 3 (U a):=n.cell (j:=3) rfl;have d4:J wr g 4 (U f):=n.cell (j:=4) rfl;have d5:J wr g 5 (U (-1)):=n.cell (j:=5) rfl;go_upto_region 5 with fail;generalize zN:wr.alloc _=w6;generalize qP:wr.heap.size=gq;replace zN:=zN.symm;replace qP:=qP.symm;have X6:=xNew zN qP;have B6:=tQ zN;have GQ:=F9 (wr.heap.size<=gq) aR;clear zN qP d0 d1 d2 d3 d4 d5;obtain⟨q0,q1,q2,q3,q4,q5⟩:=X6.a6;go_wp2_with fail;refine(af3 w6 (r0,r,R,a,f,-1) OK).mono ?_;rintro e Z ⟨a7,c7,rfl,k,s⟩;obtain⟨l7,x⟩:=ex ((gM (r0,r,R,a,f,-1)).length);rw[<-x] at k|-;have V7:=F9 (gD Z a7 l7 1 (mZ (gM (r0,r,R,a,f,-1)))) (fH k);have B7:=nO B6 s;have X7:=jj (X6.below s X6.lt);have Q:=F9 (Be w Z) (B5.trans (B7.mono B5.size));have R7:=F9 (Row Z g 49 6 1 C (rA (r0,r,R,a,f,-1))) (own_below n B7);clear k s x q0 q1 q2 q3 q4 q5;have KS:=F9 (∀u,Be Z u->J u gq 0 (U r0)/\J u gc 19 (.slice d.ka 2 d.kc)) fun u hu=>⟨(X7.below hu X7.lt).cell 0,by have:=(t.below (Q.trans (hu.mono Q.size)) t.lt).cell 19;rw[this,<-l0];rfl⟩
   go_upto_region 7 with fail;refine rD (fun u=>J u gq 0 (U r0)/\J u gc 19 (.slice d.ka 2 d.kc)) 21 (tk 0 18 (.one 18 (.one 19 (.take 20 (.one 21 .done))))) (KS.out _ (aC _ _).drew) fun u7 Bu H=> ?_
   repeat refine' tT ?_
   refine pO fun KT bq=> ?_;go_simp;have T:=F9 (Be w u7) (Q.trans (Bu.mono Q.size));have B:=F9 (b<w.heap.size/\gc≠b/\d.nn<w.heap.size) ⟨V.map.lt,dR (V.far t),V.obj.lt⟩;refine(ajB u7 gc d (t.below T t.lt) l (HR.below T) hm (100+r0) HP b K (V.only (Only.of_below (S:= []) T) bJ bJ) a7 l7 c7 _ (V7.below Bu) q HQ e0 hK).mono ?_;rintro e W ⟨rfl,D,i⟩;rw[HZ.out];have k0:gq∉ [b]:=by have:=B.1;have:=GQ.out;have:=B5.size;simp only[au];omega
   have j0:g∉ [b]:=by have:=B.1;have:=G.out;simp only[au];omega
   have S8:J W gq 0 (U r0)/\J W gc 19 (.slice d.ka 2 d.kc):=⟨i.cell_ H.1 k0,i.cell_ H.2 (mR B.2.1)⟩;have R8:=F9 (Row W g 49 6 1 C (rA (r0,r,R,a,f,-1))) (DJ (own_below R7 Bu) i (fun y hy=>by simp only[Option.map_some,Option.toList_some,au] at hy;subst hy;exact j0))
   have N8:=jj D;have O8:=F9 (Only [b] w W) ((Only.of_below T).trans i);clear D i;refine oH bq S8 ?_;clear H;have H:=S8;have d5:J W g 5 (U (-1)):=R8.cell (j:=5) rfl;have f5:=R8.frozen 5;refine pO fun KT bq=> ?_;go_simp;refine oH bq H ?_
   repeat refine' tT ?_
   refine pL fun KT bq=> ?_;go_simp;refine oL bq ?_;refine aU ?_;clear H d5 f5;go_wp2_with fail;go_roundw
   case rel=>exact .inr ⟨by go_num,R8.fU 5 (U z),N8.only ((Only.refl [g] _).setCell (p:=⟨g,5,none⟩) (.inl bJ) _) (by have:=B.2.2;have:=G.out;simp only[au];omega) (by have:=B.1;have:=G.out;simp only[au];omega),O8.setCell (p:=⟨g,5,none⟩) (.inr G) _⟩
   simp[intOf]
  have c0:=jj I;have a0:=jj E;have b0:=jj F;clear I E F;go_wp2_with fail;go_ret;exact⟨g,C,by trivial,c0,G,a0,b0⟩
theorem aZ.apv{t:TypeId}{a0 a1 a2 a3 a4 a5 a6 a7 a8 a9 b0 b1 b2 b3 b4 b5 b6 b7 b8 b9:Value}(h:aZ w g t #[a0,a1,a2,a3,a4,a5,a6,a7,a8,a9]):aZ ((((((((((w.setCell (adZ g 0) b0).setCell (adZ g 1) b1).setCell (adZ g 2) b2).setCell (adZ g 3) b3).setCell (adZ g 4) b4).setCell (adZ g 5) b5).setCell (adZ g 6) b6).setCell (adZ g 7) b7).setCell (adZ g 8) b8).setCell (adZ g 9) b9) g t #[b0,b1,b2,b3,b4,b5,b6,b7,b8,b9]/\Only [g] w ((((((((((w.setCell (adZ g 0) b0).setCell (adZ g 1) b1).setCell (adZ g 2) b2).setCell (adZ g 3) b3).setCell (adZ g 4) b4).setCell (adZ g 5) b5).setCell (adZ g 6) b6).setCell (adZ g 7) b7).setCell (adZ g 8) b8).setCell (adZ g 9) b9):=by refine⟨?_,((((((((((Only.refl [g] w).setCell (.inl jL) _).setCell (.inl jL) _).setCell (.inl jL) _).setCell (.inl jL) _).setCell (.inl jL) _).setCell (.inl jL) _).setCell (.inl jL) _).setCell (.inl jL) _).setCell (.inl jL) _).setCell (.inl jL) _⟩;have H:aZ (w.setCell (adZ g 0) b0) g t #[b0,a1,a2,a3,a4,a5,a6,a7,a8,a9]:=h.fU 0 b0;have a:aZ ((w.setCell (adZ g 0) b0).setCell (adZ g 1) b1) g t #[b0,b1,a2,a3,a4,a5,a6,a7,a8,a9]:=H.fU 1 b1;have b:aZ (((w.setCell (adZ g 0) b0).setCell (adZ g 1) b1).setCell (adZ g 2) b2) g t #[b0,b1,b2,a3,a4,a5,a6,a7,a8,a9]:=a.fU 2 b2;have c:aZ ((((w.setCell (adZ g 0) b0).setCell (adZ g 1) b1).setCell (adZ g 2) b2).setCell (adZ g 3) b3) g t #[b0,b1,b2,b3,a4,a5,a6,a7,a8,a9]:=b.fU 3 b3;have d:aZ (((((w.setCell (adZ g 0) b0).setCell (adZ g 1) b1).setCell (adZ g 2) b2).setCell (adZ g 3) b3).setCell (adZ g 4) b4) g t #[b0,b1,b2,b3,b4,a5,a6,a7,a8,a9]:=c.fU 4 b4;have e:aZ ((((((w.setCell (adZ g 0) b0).setCell (adZ g 1) b1).setCell (adZ g 2) b2).setCell (adZ g 3) b3).setCell (adZ g 4) b4).setCell (adZ g 5) b5) g t #[b0,b1,b2,b3,b4,b5,a6,a7,a8,a9]:=d.fU 5 b5;have f:aZ (((((((w.setCell (adZ g 0) b0).setCell (adZ g 1) b1).setCell (adZ g 2) b2).setCell (adZ g 3) b3).setCell (adZ g 4) b4).setCell (adZ g 5) b5).setCell (adZ g 6) b6) g t #[b0,b1,b2,b3,b4,b5,b6,a7,a8,a9]:=e.fU 6 b6;have i:aZ ((((((((w.setCell (adZ g 0) b0).setCell (adZ g 1) b1).setCell (adZ g 2) b2).setCell (adZ g 3) b3).setCell (adZ g 4) b4).setCell (adZ g 5) b5).setCell (adZ g 6) b6).setCell (adZ g 7) b7) g t #[b0,b1,b2,b3,b4,b5,b6,b7,a8,a9]:=f.fU 7 b7;have j:aZ (((((((((w.setCell (adZ g 0) b0).setCell (adZ g 1) b1).setCell (adZ g 2) b2).setCell (adZ g 3) b3).setCell (adZ g 4) b4).setCell (adZ g 5) b5).setCell (adZ g 6) b6).setCell (adZ g 7) b7).setCell (adZ g 8) b8) g t #[b0,b1,b2,b3,b4,b5,b6,b7,b8,a9]:=i.fU 8 b8;have k:aZ ((((((((((w.setCell (adZ g 0) b0).setCell (adZ g 1) b1).setCell (adZ g 2) b2).setCell (adZ g 3) b3).setCell (adZ g 4) b4).setCell (adZ g 5) b5).setCell (adZ g 6) b6).setCell (adZ g 7) b7).setCell (adZ g 8) b8).setCell (adZ g 9) b9) g t #[b0,b1,b2,b3,b4,b5,b6,b7,b8,b9]:=j.fU 9 b9;exact k
theorem ajw (w:World) (gc:Nat) (d:ClD) (h:aZ w gc 99 (Gq d)) (l:LI) (hr:gD w d.fa d.fm 1 (l.map fun y:Int=>Value.int .i64 y)) (hm:d.fm<=4096) (e0:d.kl=2) (b:Nat) (K:KS) (I:vC w d.nn b K) (hK:K.length+1<1048576) (kd:Int) (h9:kd≠9)
  (A:OA) (c:Nat) (R T V W r4:Int) (H:qc w A 1 c [(R,T,V,W,r4,-1)]) (h0:0<=R) (h2:R<2) (hp:100+R∈l) (ok:xH (R,T,V,W,r4,0)) (q:Int×List Int) (hq:q=(100+R,gM (R,T,V,W,r4,-1))) (g0:Ns q) (z:Int) (hz:num (sealed K q) q=z):
  Y 65 #[gc,.agg #[U kd,U 0,U 0,U 0,U 1,U 0,.slice A 1 c,(),(),()]] w fun e w'=> ∃a c' a2 c2,e= .returned (.agg #[U kd,U 0,U 0,U 0,U 1,U 0,O a 1 c',.slice a2 0 c2,(),()])/\c2<=maxLen/\Row w' a 49 6 1 c' (rA (R,T,V,W,r4,z))/\w.heap.size<=a/\vC w' d.nn b (sealed K q)/\Only [b] w w':=by
 have HB:=jj h;have HN:=jj I;have a0:=F9 (∀u,Be w u->Y 105 #[gc,.slice A 1 c] u fun e w'=> ∃a c',e= .returned (O a 1 c')/\Row w' a 49 6 1 c' (rA (R,T,V,W,r4,z))/\u.heap.size<=a/\vC w' d.nn b (sealed K q)/\Only [b] u w') fun u hu=>ah6 u gc d (h.below hu h.lt) l (hr.below hu) hm e0 b K (I.only (Only.of_below (S:= []) hu) bJ bJ) hK A c R T V W r4 (H.below hu) h0 h2 hp ok q hq g0 z hz;have bl:=F9 (b<w.heap.size/\d.nn<w.heap.size) ⟨I.map.lt,I.obj.lt⟩;clear h hr hm e0 I hK H h0 h2 hp ok hq g0 hz;go_enter func65,ntmps65;go_upto_region 1 with fail;have c0: ∀o,(w.alloc o).heap.size=w.heap.size+1:=fun o=>Array.size_push ..;obtain⟨w1,x⟩:=ex ((w.alloc (.cells #[U kd,U 0,U 0,U 0,U 1,U 0,.slice A 1 c,(),(),()] 82)).alloc (.cells #[U 0,U 0,U 0,U 0,U 0,U 0,(),(),(),()] 82));obtain⟨G,N⟩:=ex (w.heap.size+1);obtain⟨g,M⟩:=ex w.heap.size;have B1:=F9 (Be w w1) (by rw[x];exact nC.alloc (by rw[c0];omega) _);have X:=F9 (aZ w1 g 82 #[U kd,U 0,U 0,U 0,U 1,U 0,.slice A 1 c,(),(),()]) (by rw[x,M];exact(aZ.new _ _ _).alloc _);have X4:=F9 (aZ w1 G 82 #[U 0,U 0,U 0,U 0,U 0,U 0,(),(),(),()]) (by rw[x,N];exact aZ.new' _ _ _ (by rw[c0]));have GE:=F9 (g∉ [b]/\G∉ [b]/\g≠G/\w.heap.size<=g/\w.heap.size<=G/\g<w1.heap.size/\G<w1.heap.size) (by have:=bl.out;have:=X.lt;have:=X4.lt;simp only[au];omega);rw[<-x,<-N,<-M];clear x M N;have m6:=X.at_ 6;go_wp2_with fail;refine(a0.out _ B1).mono ?_;rintro e w2 ⟨a,c',rfl,H,d0,I,ho⟩;have Y3:=jj (X.only ho GE.1);have Y4:=jj (X4.only ho GE.2.1);have O2:=F9 (Only [b] w w2) ((Only.of_below B1).trans (ho.mono fun k f=> .inl f));have R2:=jj H;have N2:=jj I;have G2:=F9 (w1.heap.size<=a) d0;clear H d0 I ho m6;have f6:=Y3.frozen 6;have m6:=Y3.at_ 6;go_upto_region 2 with fail;obtain⟨w3,B⟩:=ex (w2.setCell ⟨g,6,none⟩ (O a 1 c'));rw[<-B];have i:=F9 (Only [g] w2 w3) (by rw[B];exact(Only.refl [g] _).setCell (.inl bJ) _);have X:=F9 (aZ w3 g 82 #[U kd,U 0,U 0,U 0,U 1,U 0,O a 1 c',(),(),()]) (by rw[B];exact Y3.fU 6 _);clear B m6 f6;have F:=F9 (a≠g/\d.nn≠g/\b≠g/\a≠G/\d.nn≠G/\b≠G/\g≠G) (by have:=G2.out;have:=GE.out;have:=bl.out;simp only[au] at*;omega);have O3:=F9 (Only [b] w w3) (O2.then i (by intro k f;rw[au] at f;subst f;exact .inr GE.2.2.2.1));have Z4:=jj (Y4.only i (mR (dR GE.2.2.1)));have R3:=jj (R2.only i (mR F.1));have N3:=jj (N2.only i (mR F.2.1) (mR F.2.2.1));have n0:=X.at_ 0;have n2:=X.at_ 2;have Q:=X.at_ 7;have n8:=X.at_ 8;go_wp2_with fail;refine(agd w3 gc 4 none 0).mono ?_;rintro e w4 ⟨rfl,r⟩;have J:=jj (X.below r X.lt);have i0:=jj (Z4.below r Z4.lt);have R4:=jj (R3.below r);have N4:=jj (N3.only (Only.of_below (S:= []) r) bJ bJ);have O4:=jj (O3.belows r);clear r n0 n2 Q n8;have f8:=J.frozen 8;have n8:=J.at_ 8;go_upto_region 7 with fail;obtain⟨w5,C⟩:=ex (w4.setCell ⟨g,8,none⟩ ());rw[<-C];have j:=F9 (Only [g] w4 w5) (by rw[C];exact(Only.refl [g] _).setCell (.inl bJ) _);have X5:=F9 (aZ w5 g 82 #[U kd,U 0,U 0,U 0,U 1,U 0,O a 1 c',(),(),()]) (by rw[C];exact J.fU 8 _);clear C n8 f8;have O5:=F9 (Only [b] w w5) (O4.then j (by intro k f;rw[au] at f;subst f;exact .inr GE.2.2.2.1));have Z5:=jj (i0.only j (mR (dR GE.2.2.1)));have R5:=jj (R4.only j (mR F.1));have N5:=jj (N4.only j (mR F.2.1) (mR F.2.2.1));have n2:=X5.at_ 2;have Q:=X5.at_ 7;have n9:=X5.at_ 9;go_wp2_with fail;go_loopw [6,28] (fun p q wr=>p= .slice none 0 0/\q= U 0/\wr=w5) (fun _ _ _=>0)
 case atStart=>exact⟨by first|rfl|simp,by first|rfl|simp,by first|rfl|simp⟩
 case round=>
  obtain⟨rfl,rfl,rfl⟩:=hrel;go_wp2_with fail;refine(ae4 _ gc 0 none 0).mono ?_;rintro e w6 ⟨a2,c2,rfl,m2,s⟩;have X6:=jj (X5.below s X5.lt);have Z6:=jj (Z5.below s Z5.lt);have R6:=jj (R5.below s);have N6:=jj (N5.only (Only.of_below (S:= []) s) bJ bJ);have O6:=jj (O5.belows s);clear s n2 Q n9;have f7:=X6.frozen 7;have Q:=X6.at_ 7;go_upto_region 15 with fail;obtain⟨w7,D⟩:=ex (w6.setCell ⟨g,7,none⟩ (.slice a2 0 c2));rw[<-D];have m:=F9 (Only [g] w6 w7) (by rw[D];exact(Only.refl [g] _).setCell (.inl bJ) _);have X7:=F9 (aZ w7 g 82 #[U kd,U 0,U 0,U 0,U 1,U 0,O a 1 c',.slice a2 0 c2,(),()]) (by rw[D];exact X6.fU 7 _);clear D Q f7;have O7:=F9 (Only [b] w w7) (O6.then m (by intro k f;rw[au] at f;subst f;exact .inr GE.2.2.2.1));have Z7:=jj (Z6.only m (mR (dR GE.2.2.1)));have R7:=jj (R6.only m (mR F.1));have N7:=jj (N6.only m (mR F.2.1) (mR F.2.2.1));go_wp2_with fail;go_loopw [58] (fun p wr=>p= U 0/\wr=w7) (fun _ _=>0)
  case atStart=>exact⟨by first|rfl|simp,by first|rfl|simp⟩
  case round=>
   obtain⟨rfl,rfl⟩:=hrel;have f9:=X7.frozen 9;have n9:=X7.at_ 9;go_upto_region 22 with fail;obtain⟨w8,E⟩:=ex (wr.setCell ⟨g,9,none⟩ ());rw[<-E];have n:=F9 (Only [g] wr w8) (by rw[E];exact(Only.refl [g] _).setCell (.inl bJ) _);have X8:=F9 (aZ w8 g 82 #[U kd,U 0,U 0,U 0,U 1,U 0,O a 1 c',.slice a2 0 c2,(),()]) (by rw[E];exact X7.fU 9 _);clear E n9 f9;have O8:=F9 (Only [b] w w8) (O7.then n (by intro k f;rw[au] at f;subst f;exact .inr GE.2.2.2.1));have Z:=jj (Z7.only n (mR (dR GE.2.2.1)));have R8:=jj (R7.only n (mR F.1));have N8:=jj (N7.only n (mR F.2.1) (mR F.2.2.1));obtain⟨n0,n1,n2,n3,n4,n5,n6,Q,n8,n9⟩:=X8.zA;have z0:=Z.at_ 0;have f0:=Z.frozen 0;have z1:=Z.at_ 1;have f1:=Z.frozen 1;have z2:=Z.at_ 2;have f2:=Z.frozen 2;have z3:=Z.at_ 3;have f3:=Z.frozen 3;have z4:=Z.at_ 4;have f4:=Z.frozen 4;have z5:=Z.at_ 5;have f5:=Z.frozen 5;have z6:=Z.at_ 6;have f6:=Z.frozen 6;have z7:=Z.at_ 7;have f7:=Z.frozen 7;have z8:=Z.at_ 8;have f8:=Z.frozen 8;have z9:=Z.at_ 9;have f9:=Z.frozen 9;go_wp2_with fail;clear n0 z0 f0 n1 z1 f1 n2 z2 f2 n3 z3 f3 n4 z4 f4 n5 z5 f5 n6 z6 f6 Q z7 f7 n8 z8 f8 n9 z9 f9;obtain⟨w9,P⟩:=ex ((((((((((w8.setCell ⟨G,0,none⟩ (U kd)).setCell ⟨G,1,none⟩ (U 0)).setCell ⟨G,2,none⟩ (U 0)).setCell ⟨G,3,none⟩ (U 0)).setCell ⟨G,4,none⟩ (U 1)).setCell ⟨G,5,none⟩ (U 0)).setCell ⟨G,6,none⟩ (O a 1 c')).setCell ⟨G,7,none⟩ (.slice a2 0 c2)).setCell ⟨G,8,none⟩ ()).setCell ⟨G,9,none⟩ ());rw[<-P];have L:=P▸(aZ.apv (b0:= U kd) (b1:= U 0) (b2:= U 0) (b3:= U 0) (b4:= U 1) (b5:= U 0) (b6:= .slice (some ⟨a,0,none⟩) 1 c') (b7:= .slice a2 0 c2) (b8:= .slice none 0 0) (b9:= .slice none 0 0) Z);have t:=F9 (Only [G] w8 w9) L.2;have X9:=F9 (aZ w9 G 82 #[U kd,U 0,U 0,U 0,U 1,U 0,O a 1 c',.slice a2 0 c2,(),()]) L.1;clear L;clear P;refine bodyPost_ret (v:= .agg #[U kd,U 0,U 0,U 0,U 1,U 0,O a 1 c',.slice a2 0 c2,(),()]) ?_ rfl ⟨a,c',a2,c2,rfl,m2,R8.only t (mR F.2.2.2.1),aG B1.size G2,N8.only t (mR F.2.2.2.2.1) (mR F.2.2.2.2.2.1),O8.then t (by intro k f;rw[au] at f;subst f;exact .inr GE.2.2.2.2.1)⟩;exact results_cell_row Tryz.results65 _ w9 G _ _ _ _ (by rfl) X9 underlying82 rfl (by kernel_rfl)
def wG(t:TypeId)(s:Nat)(a:OA)(m c:Nat)(xs:LV):ni:=nM (a.map (·.block)).toList fun w=>w.ownsRow 0 t s (acX a m c) m xs
theorem uJ(t:TypeId)(s:Nat)(a:OA)(m c:Nat)(xs:LV)(f:t∉KH/\t≠228):(wG t s a m c xs).Good:=
 Pure.good ⟨fun h e d=>DJ h e d,fun h k H=>by obtain⟨_,cs,b⟩:=dx h k H;exact b.lt,fun h k H=>Plain.own h f k H⟩
structure Ka where
 gx:Nat
 d:bK
def xR(f:Int)(n id:Nat):Option Ka->ni
 |none=>uM []
 |some p=>uM (sF f id n p.gx p.d)
def tY:Option Ka->Value
 |none=> .pointer none
 |some p=> .pointer (some ⟨p.gx,0,none⟩)
structure Eu where
 n:Nat
 gc:Nat
 b:Nat
 cd:ClD
 fl:List Int
 nd:uU
 nodes:List (Option Ka)
 ks:List ni
 kp:List Value
def nW(f:Int)(n:Nat):Nat->List (Option Ka)->List ni
 |_,[]=> []
 |i,p::l=>xR f n i p::nW f n (i+1) l
theorem FN(f:Int)(n:Nat): ∀(l:List (Option Ka)) (i k:Nat),(nW f n i l)[k]?=l[k]?.map (xR f n (i+k))
 | [],i,k=>by simp[nW]
 |p::l,i,0=>by simp[nW]
 |p::l,i,k+1=>by rw[nW,List.getElem?_cons_succ,List.getElem?_cons_succ,FN f n l (i+1) k,show i+1+k=i+(k+1) by omega]
theorem FP(f:Int)(n:Nat)(q:Option Ka): ∀(l:List (Option Ka)) (i k:Nat),nW f n i (l.set k q)=(nW f n i l).set k (xR f n (i+k) q)
 | [],i,k=>by simp[nW]
 |p::l,i,0=>by simp[nW]
 |p::l,i,k+1=>by rw[List.set_cons_succ,nW,nW,List.set_cons_succ,FP f n q l (i+1) k,show i+1+k=i+(k+1) by omega]
theorem qy(f:Int)(n:Nat): ∀(l:List (Option Ka)) (i:Nat),(nW f n i l).length=l.length
 | [],i=>rfl
 |p::l,i=>by simp[nW,qy f n l (i+1)]
def Eu.cs(C:Eu)(K:KS):List ni:=
 tZ C.cd.nn C.b K::mW C.gc 99 (Gq C.cd)::xS C.cd.gn 64 C.nd::wG 52 1 C.cd.na C.cd.nl C.cd.nc (C.nodes.map tY)::wG 41 1 C.cd.ka C.cd.kl C.cd.kc C.kp::wG 3 1 C.cd.fa C.cd.fm C.cd.fc (C.fl.map fun y:Int=>Value.int .i64 y)::(nW C.cd.f C.n 0 C.nodes++C.ks)
abbrev Eu.net(C:Eu)(nd:uU):Eu:={C with nd:=nd}
abbrev Eu.node(C:Eu)(i:Nat)(p:Ka):Eu:={C with nodes:=C.nodes.set i (some p)}
theorem Eu.Vm(C:Eu)(K:KS){i:Nat}{p:Option Ka}(h:C.nodes[i]?=some p):(C.cs K)[6+i]?=some (xR C.cd.f C.n i p):=by
 have H:i<(nW C.cd.f C.n 0 C.nodes).length:=by rw[qy];exact(ah.1 h).1
 rw[show 6+i=i+6 by omega];show(nW C.cd.f C.n 0 C.nodes++C.ks)[i]?=_;rw[bC H,FN,h,aO];rfl
theorem Dw{α β:Type}(g:α->β)(l:List α)(i:Nat)(a p:α)(h:l[i]?=some p)(e:g a=g p):(l.set i a).map g=l.map g:=by
 rw[eT,e];refine dD fun j=> ?_;by_cases H:j=i
 ·subst H
  have b:=(ah.1 h).1;rw[aL (mR b),aS,h];rfl
 rw[aX (dR H)]
section
variable{x:Nat}{w w':World}{C:Eu}{K K':KS}{i:Nat}{p:Ka}{d':bK}
theorem Eu.adw(h:C.nodes[i]?=some (some p))(k:KS)(d':bK):((C.cs K).set 0 (tZ C.cd.nn C.b k)).set (6+i) (uM (sF C.cd.f i C.n p.gx d'))=(C.node i ⟨p.gx,d'⟩).cs k:=by
 have H:i<(nW C.cd.f C.n 0 C.nodes).length:=by rw[qy];exact(ah.1 h).1
 have e:(C.nodes.set i (some ⟨p.gx,d'⟩)).map tY=C.nodes.map tY:=Dw tY _ _ _ _ h rfl;unfold Eu.cs;rw[show 6+i=i+6 by omega];simp only[e,List.set_cons_zero,List.set_cons_succ,FP,aO];rw[jw _ _ H];rfl
theorem Eu.nat(h:Sys x w (C.cs K))(b:C.nodes[i]?=some (some p))(H:p.d.nn=C.cd.nn):qE x w C.cd.f C.n i p.gx C.b p.d K:=by have:=h.adE (a:=tZ C.cd.nn C.b K) (LN:=sF C.cd.f i C.n p.gx p.d) rfl (C.Vm K b) aR;rw[<-H] at this;exact this
theorem Eu.YB(h:Sys x w (C.cs K))(d:C.nodes[i]?=some (some p))(b:p.d.nn=C.cd.nn)(H:d'.nn=p.d.nn)(c:mP x w w' C.cd.f C.n i p.gx C.b p.d K d' K'):Step x w w' (C.cs K) ((C.node i ⟨p.gx,d'⟩).cs K'):=by rw[<-Eu.adw (K:=K) d K' d'];refine h.node (a:=tZ C.cd.nn C.b K) (LN:=sF C.cd.f i C.n p.gx p.d) rfl (C.Vm K d) aR ?_;have e:=c;unfold mP nu at e;rw[H,b] at e;exact e
end


theorem ahD{base:Nat}{e:TypeId}{a:OA}{xs:LV}(h:w.ownsRow base e s (acX a n c) n xs): ∀p,a=some p->base<=p.block:=by rintro p rfl;exact(h.lt p.block (by simp[Value.ownBlock])).1
theorem QJ(S:LN)(g C:Nat)(es:List CY)(st:List (Bool×Int))(ct:List (Int×Int))(w:World)(h:Er w S g C es st ct)(M:es.length<=4096):
  Y 56 #[g] w fun e w'=> ∃s c,e=acK (c:Nat)/\Er w' s c C es st ct/\(∀k∈s,w.heap.size<=k)/\Be w w':=by
 obtain⟨r,m,V,al,cl,Z,k1,k2,O,P⟩:=h.ex;have L:=jj h;have A:=jj (show 1<=ct.length/\ct.length<=4 by rw[h.len];exact h.c);have T:=k1.at_ 0;have a2:=k1.at_ 2;have a3:=k1.at_ 3;have Q:=jj O;have R:=jj P;obtain⟨n,z⟩:=ex es.length;rw[<-z] at M;have N:=jj z;clear h k1 k2 O P Z z;go_enter func56,ntmps56;go_upto_region 1 with fail;have KS: ∀w',Be w w'->J w' g 0 (U C)/\J w' g 2 r/\J w' g 3 m/\Be w w':=
  fun w' o=>⟨kept o _ _ T,kept o _ _ a2,kept o _ _ a3,o⟩
 refine rP (fun w'=>J w' g 0 (U C)/\J w' g 2 r/\J w' g 3 m/\Be w w') 19 (tk 0 5 (tk 6 4 (tk 11 4 (.one 5 (.one 10 (.one 15 (.take 16 (.one 17 (.take 18 .done))))))))) (KS _ (aC _ _).drew) ?_;intro b0;have l:Be w w.drew:=(aC _ _).drew
 repeat refine' tT ?_
 refine pO fun KT bq=> ?_;go_simp;refine(aaY S g C es st ct _ (L.below l) n N.symm M).mono ?_;rintro e w2 ⟨a5,i,rfl,t,u⟩;have b:Be w w2:=l.trans (u.mono l.size);refine oI bq (KS _ b) fun _=> ?_
 repeat refine' tT ?_
 refine pO fun KT bq=> ?_;go_simp;refine(ab0 r st _ (Q.below b)).mono ?_;rintro e w3 ⟨j,rfl,I,x,d⟩;have E:Be w w3:=b.trans (d.mono b.size);refine oI bq (KS _ E) fun _=> ?_
 repeat refine' tT ?_
 refine pO fun KT bq=> ?_;go_simp;refine(ah4 m V ct _ (R.below E) A.1 A.2).mono ?_;rintro e w4 ⟨G,q,rfl,K,v,y,H⟩;have f:Be w w4:=E.trans (H.mono E.size);refine oI bq (KS _ f) fun _=> ?_
 repeat refine' tT ?_
 refine pO fun KT bq=> ?_;go_simp;have D:=f.alloc f.size (.cells #[U C,acX a5 n i,j,G] 135);refine oI bq (KS _ D) fun _=> ?_
 repeat refine' tT ?_
 refine aU ?_;have B:Be w4 (w4.alloc (.cells #[U C,acX a5 n i,j,G] 135)):=nC;have o5:=own_below (own_below (own_below t d) H) B;have F:Hid (∃s,Er (w4.alloc (.cells #[U C,acX a5 n i,j,G] 135)) s w4.heap.size C es st ct/\(∀k∈s,w.heap.size<=k)):=by
  refine jj ⟨_,⟨⟨j,G,q,a5,i,rfl,by rw[<-N.out];exact aZ.new _ _ _,by rw[<-N.out];exact mO o5 (bF _),(I.below H).below B,K.below B⟩,L.c,L.len,L.sm⟩,fun k a=> ?_⟩;simp only[ay] at a;rcases a with rfl|rfl|rfl|rfl|a
  ·exact f.size
  ·exact aG b.size x
  ·exact aG E.size v
  ·exact aG E.size y
  cases a5 with
  |none=>cases a
  |some p=>
   simp only[blks,au] at a;subst a;exact ahD t p rfl
 clear o5 B t I K;go_wp2_with fail;go_ret;obtain⟨s,W,X⟩:=F.out;exact⟨s,_,rfl,W,X,D⟩
theorem ahz(x:Nat)(w:World)(f:Int)(n id gx b:Nat)(d:bK)(K:KS)(h:qE x w f n id gx b d K):
  Y 88 #[gx] w fun e w'=>e=acK (acX d.oa d.ol.length d.oc)/\mP x w w' f n id gx b d K (d.outs none 0 []) K/\Only [gx] w w'/\Sys x w' (nu f n id gx b (d.outs none 0 []) K++ [Cv d.oa d.oc d.ol]):=by
 have H:=jj h;have C:=h.blk.at_ 34;have F:=h.blk.frozen 34;clear h;go_enter func88,ntmps88;go_wp2_with fail;go_ret;have v:=H.blk.fU 34 ();have s:Only [gx] w (w.setCell (adZ gx 34) ()):=(Only.refl [gx] w).setCell (.inl bJ) _;have S:=(Step.refl H).sent (A:=none) (c:=0) (L:= []) v (nJ.nil _ _) (s.mono fun k o=> .inl (ay.2 (.inl (mR o)))) (fun k o=>by simp at o);refine⟨by trivial,S,s,S.sys.add (H.out.out.only s (fun g q=>by simp only[au] at q;subst q;exact nV.of H.blk aV) fun g q r=> ?_) (EY _ _ _) fun k o r=> ?_⟩
 ·simp only[au] at r
  subst r;exact mG H.out.out.own H.blk aV (by rw[dQ,q])
 obtain⟨c,u,l⟩:=bg.1 r;have e:nu f n id gx b (d.outs none 0 []) K=((nu f n id gx b d K).set 1 (mW gx 131 (yB f id (d.outs none 0 [])))).set 13 (Cv none 0 []):=rfl;rw[e] at u;obtain⟨j,a⟩:=bT.1 u;have p:13<(nu f n id gx b d K).length:=by simp[nu,sF]
 by_cases m:j=13
 ·subst m
  rw[aL (mR p)] at a;injection a with a;subst a;simp[Cv] at l
 rw[aX (dR m)] at a;by_cases t:j=1
 ·subst t
  rw[aL aR] at a;injection a with a;subst a;simp only[mW,nM,au] at l;subst l;exact H.apart (i:=1) (j:=13) rfl rfl aV k (by simp[mW,nM]) o
 rw[aX (dR t)] at a;exact H.apart (j:=13) a rfl m k l o
theorem Xx(x:Nat)(w:World)(C:Eu)(K:KS)(h:Sys x w (C.cs K))(i:C.nd.ps.length=C.nd.n)(H:C.nd.n<=64)(src:Int)(A:OA)(m c:Nat)(SL:List wN)(d:nJ x w A m c SL)(f:m<=4096)(M:Nat->List LI)(b:zD C.nd.ps src (uy SL) C.nd.val=some M):
  Y 48 #[C.gc,U src,acX A m c] w fun e w'=>e=acK (ac2 #[])/\ ∃g ms',Step x w w' (C.cs K) ((C.net (C.nd.qs g C.nd.lost ms')).cs K)/\(C.nd.qs g C.nd.lost ms').val=M:=by refine(adv x w (C.cs K) h 2 1 C.gc C.cd.gn (Gq C.cd) C.nd rfl rfl aV rfl i H src A m c SL d f M b).mono ?_;rintro e w' ⟨rfl,g,ms',a,j⟩;exact⟨rfl,g,ms',a,j⟩
theorem aau(w:World)(f cl:Int)(h1:1<=f)(h4:f<=4)(ba va c p:OA)(bc vc C P:Nat)(s r0 R j l m n:Int)(i:qc w ba 1 bc [(r0,R,j,l,m,n)])(K:mq cl (r0,R,j,l,m,n)=true)(hs:s=100+r0)(h0:0<=r0/\r0<4):
  Y 155 #[acY #[U 1,U s,U 0,U 0,U 0,U 0,acX ba 1 bc,acX va 0 vc,acX c 0 C,acX p 0 P],U f,U cl] w fun e w'=>e=acK true/\Be w w':=by
 have M:=F9 (∀r∈ [((r0,R,j,l,m,n):Rq)],mq cl r=true) (mR K);have L:=jj i;obtain⟨g,O,rfl,d,x0,x1,x2,x3,x4,x5,hx,z0,-,-,-,-,-⟩:=i.get (k:=0) aR;obtain rfl:x0=r0:=by simp at hx;exact hx.1.symm
 have e5:IntKind.i64.wrap (s -100)=x0:=by rw[aH _ aR];omega
 have i5:(100:Int)<=s:=aR;have Z:=jj z0;clear i K hx d z0 hs;go_enter func155,ntmps155;go_upto_region 2 with fail;generalize hv1:w.alloc _=v1;generalize hg3:w.heap.size=g3;replace hv1:=hv1.symm;replace hg3:=hg3.symm;obtain⟨V,H⟩:=ex (v1.alloc (.cells #[U f,U cl] 331));obtain⟨g7,a⟩:=ex v1.heap.size;have I:g3+1=g7:=by rw[a,hv1,hg3];simp
 try rw[I]
 try rw[<-a]
 rw[<-H];have x:=xNew H a;have X:=F9 (aZ V g3 82 #[U 1,U s,U 0,U 0,U 0,U 0,acX (some (adZ g O)) 1 bc,acX va 0 vc,acX c 0 C,acX p 0 P]) (by rw[H];refine aZ.alloc ?_ _;rw[hv1,hg3];exact aZ.new _ _ _);have B:=F9 (Be w V) (by rw[H,hv1];exact(nC.alloc bJ _));clear hv1 H a hg3 I;obtain⟨Q,T,W,d3,d4,d5,d6,d7,d8,d9⟩:=X.zA;obtain⟨l0,l1⟩:=x.a2;have q1: ¬3*f+1=0:=aR;go_wp2_with fail;refine(oC f _ h1 h4).mono ?_;rintro e w' ⟨rfl,rfl⟩;go_upto_region 5 with fail;clear Q T W d3 d4 d5 d6 d7 d8 d9 l0 l1;have KS: ∀w',Be V w'->J w' g3 0 (U 1)/\J w' g3 1 (U s)/\J w' g3 2 (U 0)/\J w' g3 3 (U 0)/\J w' g3 4 (U 0)/\J w' g3 5 (U 0)/\J w' g3 6 (acX (some (adZ g O)) 1 bc)/\J w' g3 7 (acX va 0 vc)/\J w' g3 8 (acX c 0 C)/\J w' g3 9 (acX p 0 P)/\J w' g7 0 (U f)/\J w' g7 1 (U cl)/\J w' g O (U x0):=fun w' o=>
  have u:=X.below o X.lt;have v:=x.below o x.lt
  ⟨u.cell 0,u.cell 1,u.cell 2,u.cell 3,u.cell 4,u.cell 5,u.cell 6,u.cell 7,u.cell 8,u.cell 9,v.cell 0,v.cell 1,kept o _ _ (kept B _ _ Z)⟩
 refine rD (fun w'=>J w' g3 0 (U 1)/\J w' g3 1 (U s)/\J w' g3 2 (U 0)/\J w' g3 3 (U 0)/\J w' g3 4 (U 0)/\J w' g3 5 (U 0)/\J w' g3 6 (acX (some (adZ g O)) 1 bc)/\J w' g3 7 (acX va 0 vc)/\J w' g3 8 (acX c 0 C)/\J w' g3 9 (acX p 0 P)/\J w' g7 0 (U f)/\J w' g7 1 (U cl)/\J w' g O (U x0)) 37 (tk 0 8 (.one 8 (.one 9 (.take 10 (.take 11 (.one 12 (tk 13 5 (.one 18 (tk 19 18 .done))))))))) (KS _ (aC _ _).drew) fun q t h=> ?_
 repeat(first|refine' tT ?_|refine' tS ?_)
 refine pO fun KT bq=> ?_;go_simp;generalize hu:q.alloc _=u1;generalize hgn:q.heap.size=gn;replace hu:=hu.symm;replace hgn:=hgn.symm;have y:=jj (t.trans (show Below V.heap.size q u1 by rw[hu];exact(aC _ _).alloc (by exact t.size) _));have N:=xNew hu hgn;clear hu hgn;have S:=KS _ y;refine oH bq S ?_;clear h;have h:=S
 repeat(first|refine' tT ?_|refine' tS ?_)
 refine pO fun KT bq=> ?_;go_simp;refine(EW _ gn 4 4 [0,0,0,0] N rfl bJ aR).mono ?_;rintro e u2 ⟨rfl,b⟩;have z:=F9 (Be V u2) (by rw[<-b];exact y.out);clear b;have E:=KS _ z;refine oH bq E ?_;clear h;have h:=E
 repeat(first|refine' tT ?_|refine' tS ?_)
 refine pO fun KT bq=> ?_;go_simp;refine(Im _ 1 s 0 0 0 0 (some (adZ g O)) va c p 1 bc vc 0 C P).mono ?_;rintro e u3 ⟨rfl,b⟩;have D:=nO z b;clear b;have F:=KS _ D;refine oH bq F ?_;clear h;have h:=F
 repeat(first|refine' tT ?_|refine' tS ?_)
 refine pO fun KT bq=> ?_;go_simp;refine(yA f cl 1 1 _ (some (adZ g O)) 1 bc _ (L.below (B.trans (D.mono B.size))) M aR aV).mono ?_;rintro e u4 ⟨rfl,b⟩;have A:=nO D b;clear b;have G:=KS _ A;refine oH bq G ?_;clear h;have h:=G
 repeat(first|refine' tT ?_|refine' tS ?_)
 refine aU ?_;clear h;go_wp2_with fail;go_ret;exact⟨by trivial,B.trans (A.mono B.size)⟩
theorem XG(w:World)(f cl:Int)(I:1<=f)(J:f<=4)(ba va C P:OA)(bc vc B E:Nat)(s:Int)(M:qU s 0 (3*f)=true)(bs:List Rq)(K:qc w ba 1 bc bs)(N: ∀r∈bs,mq cl r=true):
  Y 155 #[acY #[U 2,U s,U 0,U 0,U 0,U 0,acX ba 1 bc,acX va 0 vc,acX C 0 B,acX P 0 E],U f,U cl] w fun e w'=>e=acK true/\Be w w':=by
 obtain⟨Z,T,HV⟩:=j3 M K N;clear M K N;go_enter func155,ntmps155;go_upto_region 2 with fail;generalize hv1:w.alloc _=v1;generalize hg3:w.heap.size=g3;replace hv1:=hv1.symm;replace hg3:=hg3.symm;obtain⟨V,H⟩:=ex (v1.alloc (.cells #[U f,U cl] 331));obtain⟨g7,m⟩:=ex v1.heap.size;have G:g3+1=g7:=by rw[m,hv1,hg3];simp
 try rw[G]
 try rw[<-m]
 rw[<-H];have z:=xNew H m;have v:=F9 (aZ V g3 82 #[U 2,U s,U 0,U 0,U 0,U 0,acX ba 1 bc,acX va 0 vc,acX C 0 B,acX P 0 E]) (by rw[H];refine aZ.alloc ?_ _;rw[hv1,hg3];exact aZ.new _ _ _);have O:=F9 (Be w V) (by rw[H,hv1];exact(nC.alloc bJ _));clear hv1 H m hg3 G;obtain⟨d,D,a,b,c,g,i,j,k,l⟩:=v.zA;obtain⟨L,n⟩:=z.a2;have q1: ¬3*f+1=0:=aR;go_wp2_with fail;refine(oC f _ I J).mono ?_;rintro e w' ⟨rfl,rfl⟩;go_wp2_with fail;refine(Bj f cl s _ I J true Z).mono ?_;rintro e W ⟨rfl,h⟩;have Q:=nO O h;have X:=jj (v.below h v.lt);have p:=jj (z.below h z.lt);clear h;clear d D a b c g i j k l L n;obtain⟨d,D,a,b,c,g,i,j,k,l⟩:=X.zA;obtain⟨L,n⟩:=p.a2;have XN:=F9 (aZ (W.alloc (.cells #[U 0,U 0,U 0,U 0] 3)) W.heap.size 3 (ints [0,0,0,0])) (aZ.new _ _ _);go_wp2_with fail;refine(EW _ W.heap.size 4 4 [0,0,0,0] XN rfl bJ aR).mono ?_;rintro e w' ⟨rfl,rfl⟩;obtain⟨w4,u⟩:=ex (W.alloc (.cells #[U 0,U 0,U 0,U 0] 3));have h:=(tQ u).out;rw[<-u];have R:=nO Q h;have x:=jj (X.below h X.lt);have q:=jj (p.below h p.lt);clear h u;clear d D a b c g i j k l L n;obtain⟨d,D,a,b,c,g,i,j,k,l⟩:=x.zA;obtain⟨L,n⟩:=q.a2;go_wp2_with fail;refine(Im _ 2 s 0 0 0 0 ba va C P 1 bc vc 0 B E).mono ?_;rintro e w5 ⟨rfl,h⟩;have F:=nO R h;have o:=jj (x.below h x.lt);have t:=jj (q.below h q.lt);clear h;clear d D a b c g i j k l L n;obtain⟨d,D,a,b,c,g,i,j,k,l⟩:=o.zA;obtain⟨L,n⟩:=t.a2;go_wp2_with fail;refine(yA f cl 1 1 _ ba 1 bc bs (T.below F) HV aR aV).mono ?_;rintro e w6 ⟨rfl,h⟩;have S:=nO F h;have y:=jj (o.below h o.lt);have A:=jj (t.below h t.lt);clear h;clear d D a b c g i j k l L n;obtain⟨d,D,a,b,c,g,i,j,k,l⟩:=y.zA;obtain⟨L,n⟩:=A.a2;clear d D a b c g i j k l L n;go_wp2_with fail;go_ret;exact⟨by trivial,S⟩
theorem adz(w:World)(f cl:Int)(I:1<=f)(K:f<=4)(ba va C p:OA)(bc vc d P:Nat)(s k q:Int)(bn:Nat)(hs:qU s 0 (3*f)=true)(M:qU k 0 f=true)(hq:qU q 1 16=true)(O:s=k)(bs:List Rq)(hr:qc w ba bn bc bs)(hv: ∀r∈bs,mq cl r=true)(c:qU bn 1 4=true):
  Y 155 #[acY #[U 3,U s,U 0,U k,U q,U 0,acX ba bn bc,acX va 0 vc,acX C 0 d,acX p 0 P],U f,U cl] w fun e w'=>e=acK true/\Be w w':=by
 obtain⟨HS,HK,HQ,HR,HV,g⟩:=j6 hs M hq hr hv c;have L:bn<=4096:=by simp[qU] at c;omega
 have N:0<=k/\k<=f:=by simp[qU] at M;omega
 clear hs M hq hr hv c;subst O;go_enter func155,ntmps155;go_upto_region 2 with fail;generalize hv1:w.alloc _=v1;generalize hg3:w.heap.size=g3;replace hv1:=hv1.symm;replace hg3:=hg3.symm;obtain⟨v2,a⟩:=ex (v1.alloc (.cells #[U f,U cl] 331));obtain⟨g7,b⟩:=ex v1.heap.size;have eg:g3+1=g7:=by rw[b,hv1,hg3];simp
 try rw[eg]
 try rw[<-b]
 rw[<-a];have j:=xNew a b;have i:=F9 (aZ v2 g3 82 #[U 3,U s,U 0,U s,U q,U 0,acX ba bn bc,acX va 0 vc,acX C 0 d,acX p 0 P]) (by rw[a];refine aZ.alloc ?_ _;rw[hv1,hg3];exact aZ.new _ _ _);have B2:=F9 (Be w v2) (by rw[a,hv1];exact(nC.alloc bJ _));clear hv1 a b hg3 eg;obtain⟨l,m,n,t,y,z,A,E,F,G⟩:=i.zA;obtain⟨Q,R⟩:=j.a2;have q1: ¬3*f+1=0:=aR;go_wp2_with fail;refine(oC f _ I K).mono ?_;rintro e w' ⟨rfl,rfl⟩;go_wp2_with fail;refine(Bj f cl s _ I K true HS).mono ?_;rintro e w3 ⟨rfl,H⟩;have B:=nO B2 H;have X:=jj (i.below H i.lt);have x:=jj (j.below H j.lt);clear H;clear l m n t y z A E F G Q R;obtain⟨l,m,n,t,y,z,A,E,F,G⟩:=X.zA;obtain⟨Q,R⟩:=x.a2;go_upto_region 12 with fail;clear l m n t y z A E F G Q R;have KS: ∀w',Be w3 w'->J w' g3 0 (U 3)/\J w' g3 1 (U s)/\J w' g3 2 (U 0)/\J w' g3 3 (U s)/\J w' g3 4 (U q)/\J w' g3 5 (U 0)/\J w' g3 6 (acX ba bn bc)/\J w' g3 7 (acX va 0 vc)/\J w' g3 8 (acX C 0 d)/\J w' g3 9 (acX p 0 P)/\J w' g7 0 (U f)/\J w' g7 1 (U cl):=fun w' o=>
  have u:=X.below o X.lt;have v:=x.below o x.lt
  ⟨u.cell 0,u.cell 1,u.cell 2,u.cell 3,u.cell 4,u.cell 5,u.cell 6,u.cell 7,u.cell 8,u.cell 9,v.cell 0,v.cell 1⟩
 refine rD (fun w'=>J w' g3 0 (U 3)/\J w' g3 1 (U s)/\J w' g3 2 (U 0)/\J w' g3 3 (U s)/\J w' g3 4 (U q)/\J w' g3 5 (U 0)/\J w' g3 6 (acX ba bn bc)/\J w' g3 7 (acX va 0 vc)/\J w' g3 8 (acX C 0 d)/\J w' g3 9 (acX p 0 P)/\J w' g7 0 (U f)/\J w' g7 1 (U cl)) 35 (tk 0 5 (.one 5 (tk 6 9 (.one 15 (tk 16 5 (.one 21 (tk 22 9 (.one 31 (tk 32 3 .done))))))))) (KS _ (aC _ _).drew) fun u0 D0 h=> ?_
 repeat(first|refine' tT ?_|refine' tS ?_)
 refine pO fun KT bq=> ?_;go_simp;refine(Im _ 3 s 0 s q 0 ba va C p bn bc vc 0 d P).mono ?_;rintro e u1 ⟨rfl,H⟩;have S:=nO D0 H;clear H;have W:=KS _ S;refine oH bq W ?_;clear h;have h:=W
 repeat(first|refine' tT ?_|refine' tS ?_)
 refine pO fun KT bq=> ?_;go_simp;refine(Af f cl 0 s q _ aV HK HQ).mono ?_;rintro e u2 ⟨rfl,H⟩;have D:=nO S H;clear H;have Z:=KS _ D;refine oH bq Z ?_;clear h;have h:=Z
 repeat(first|refine' tT ?_|refine' tS ?_)
 refine pO fun KT bq=> ?_;go_simp;refine(yA f cl 1 4 _ ba bn bc bs (HR.below (B.trans (D.mono B.size))) HV L g).mono ?_;rintro e u3 ⟨rfl,H⟩;have T:=nO D H;clear H;have S3:=KS _ T;refine oH bq S3 ?_;clear h;have h:=S3
 repeat(first|refine' tT ?_|refine' tS ?_)
 refine pO fun KT bq=> ?_;go_simp;refine(MP f s _ I K N).mono ?_;rintro e u4 ⟨rfl,H⟩;have V:=F9 (Be w3 u4) (by rw[<-H];exact T.out);clear H;have S4:=KS _ V;refine oH bq S4 ?_;clear h;have h:=S4
 repeat(first|refine' tT ?_|refine' tS ?_)
 refine aU ?_;clear h;go_wp2_with fail;go_ret;exact⟨by trivial,B.trans (V.mono B.size)⟩
theorem Tt(w:World)(f cl:Int)(N:1<=f)(O:f<=4)(ba va F P:OA)(bc vc G J:Nat)(s k q:Int)(bn:Nat)(T:qU s 0 (3*f)=true)(Q:qU k 0 f=true)(R:qU q 1 16=true)(bs:List Rq)(S:qc w ba bn bc bs)(V: ∀r∈bs,mq cl r=true)(y:qU bn 0 4=true):
  Y 155 #[acY #[U 4,U s,U 0,U k,U q,U 0,acX ba bn bc,acX va 0 vc,acX F 0 G,acX P 0 J],U f,U cl] w fun e w'=>e=acK true/\Be w w':=by
 obtain⟨HS,HK,HQ,HR,HV,z⟩:=j6 T Q R S V y;have I:bn<=4096:=by simp[qU] at y;omega
 clear T Q R S V y;go_enter func155,ntmps155;go_upto_region 2 with fail;generalize hv1:w.alloc _=v1;generalize hg3:w.heap.size=g3;replace hv1:=hv1.symm;replace hg3:=hg3.symm;obtain⟨W,H⟩:=ex (v1.alloc (.cells #[U f,U cl] 331));obtain⟨g7,n⟩:=ex v1.heap.size;have M:g3+1=g7:=by rw[n,hv1,hg3];simp
 try rw[M]
 try rw[<-n]
 rw[<-H];have C:=xNew H n;have A:=F9 (aZ W g3 82 #[U 4,U s,U 0,U k,U q,U 0,acX ba bn bc,acX va 0 vc,acX F 0 G,acX P 0 J]) (by rw[H];refine aZ.alloc ?_ _;rw[hv1,hg3];exact aZ.new _ _ _);have Z:=F9 (Be w W) (by rw[H,hv1];exact(nC.alloc bJ _));clear hv1 H n hg3 M;obtain⟨d,D,a,b,c,g,i,j,l,m⟩:=A.zA;obtain⟨L,o⟩:=C.a2;have q1: ¬3*f+1=0:=aR;go_wp2_with fail;refine(oC f _ N O).mono ?_;rintro e w' ⟨rfl,rfl⟩;go_wp2_with fail;refine(Bj f cl s _ N O true HS).mono ?_;rintro e w3 ⟨rfl,h⟩;have B3:=nO Z h;have X:=jj (A.below h A.lt);have t:=jj (C.below h C.lt);clear h;clear d D a b c g i j l m L o;obtain⟨d,D,a,b,c,g,i,j,l,m⟩:=X.zA;obtain⟨L,o⟩:=t.a2;go_wp2_with fail;refine(Im _ 4 s 0 k q 0 ba va F P bn bc vc 0 G J).mono ?_;rintro e w4 ⟨rfl,h⟩;have B4:=nO B3 h;have x:=jj (X.below h X.lt);have u:=jj (t.below h t.lt);clear h;clear d D a b c g i j l m L o;obtain⟨d,D,a,b,c,g,i,j,l,m⟩:=x.zA;obtain⟨L,o⟩:=u.a2;go_wp2_with fail;refine(Af f cl 0 k q _ aV HK HQ).mono ?_;rintro e w5 ⟨rfl,h⟩;have K:=nO B4 h;have p:=jj (x.below h x.lt);have v:=jj (u.below h u.lt);clear h;clear d D a b c g i j l m L o;obtain⟨d,D,a,b,c,g,i,j,l,m⟩:=p.zA;obtain⟨L,o⟩:=v.a2;go_wp2_with fail;refine(yA f cl 0 4 _ ba bn bc bs (HR.below K) HV I z).mono ?_;rintro e w6 ⟨rfl,h⟩;have B6:=nO K h;have B:=jj (p.below h p.lt);have E:=jj (v.below h v.lt);clear h;clear d D a b c g i j l m L o;obtain⟨d,D,a,b,c,g,i,j,l,m⟩:=B.zA;obtain⟨L,o⟩:=E.a2;clear d D a b c g i j l m L o;go_wp2_with fail;go_ret;exact⟨by trivial,B6⟩
theorem Tv(w:World)(f cl:Int)(N:1<=f)(O:f<=4)(ba va F P:OA)(bc vc G J:Nat)(s k q:Int)(bn:Nat)(T:qU s 0 (3*f)=true)(Q:qU k 0 f=true)(R:qU q 1 16=true)(bs:List Rq)(S:qc w ba bn bc bs)(V: ∀r∈bs,mq cl r=true)(y:qU bn 0 4=true):
  Y 155 #[acY #[U 5,U s,U 0,U k,U q,U 0,acX ba bn bc,acX va 0 vc,acX F 0 G,acX P 0 J],U f,U cl] w fun e w'=>e=acK true/\Be w w':=by
 obtain⟨HS,HK,HQ,HR,HV,z⟩:=j6 T Q R S V y;have I:bn<=4096:=by simp[qU] at y;omega
 clear T Q R S V y;go_enter func155,ntmps155;go_upto_region 2 with fail;generalize hv1:w.alloc _=v1;generalize hg3:w.heap.size=g3;replace hv1:=hv1.symm;replace hg3:=hg3.symm;obtain⟨W,H⟩:=ex (v1.alloc (.cells #[U f,U cl] 331));obtain⟨g7,n⟩:=ex v1.heap.size;have M:g3+1=g7:=by rw[n,hv1,hg3];simp
 try rw[M]
 try rw[<-n]
 rw[<-H];have C:=xNew H n;have A:=F9 (aZ W g3 82 #[U 5,U s,U 0,U k,U q,U 0,acX ba bn bc,acX va 0 vc,acX F 0 G,acX P 0 J]) (by rw[H];refine aZ.alloc ?_ _;rw[hv1,hg3];exact aZ.new _ _ _);have Z:=F9 (Be w W) (by rw[H,hv1];exact(nC.alloc bJ _));clear hv1 H n hg3 M;obtain⟨d,D,a,b,c,g,i,j,l,m⟩:=A.zA;obtain⟨L,o⟩:=C.a2;have q1: ¬3*f+1=0:=aR;go_wp2_with fail;refine(oC f _ N O).mono ?_;rintro e w' ⟨rfl,rfl⟩;go_wp2_with fail;refine(Bj f cl s _ N O true HS).mono ?_;rintro e w3 ⟨rfl,h⟩;have B3:=nO Z h;have X:=jj (A.below h A.lt);have t:=jj (C.below h C.lt);clear h;clear d D a b c g i j l m L o;obtain⟨d,D,a,b,c,g,i,j,l,m⟩:=X.zA;obtain⟨L,o⟩:=t.a2;go_wp2_with fail;refine(Im _ 5 s 0 k q 0 ba va F P bn bc vc 0 G J).mono ?_;rintro e w4 ⟨rfl,h⟩;have B4:=nO B3 h;have x:=jj (X.below h X.lt);have u:=jj (t.below h t.lt);clear h;clear d D a b c g i j l m L o;obtain⟨d,D,a,b,c,g,i,j,l,m⟩:=x.zA;obtain⟨L,o⟩:=u.a2;go_wp2_with fail;refine(Af f cl 0 k q _ aV HK HQ).mono ?_;rintro e w5 ⟨rfl,h⟩;have K:=nO B4 h;have p:=jj (x.below h x.lt);have v:=jj (u.below h u.lt);clear h;clear d D a b c g i j l m L o;obtain⟨d,D,a,b,c,g,i,j,l,m⟩:=p.zA;obtain⟨L,o⟩:=v.a2;go_wp2_with fail;refine(yA f cl 0 4 _ ba bn bc bs (HR.below K) HV I z).mono ?_;rintro e w6 ⟨rfl,h⟩;have B6:=nO K h;have B:=jj (p.below h p.lt);have E:=jj (v.below h v.lt);clear h;clear d D a b c g i j l m L o;obtain⟨d,D,a,b,c,g,i,j,l,m⟩:=B.zA;obtain⟨L,o⟩:=E.a2;clear d D a b c g i j l m L o;go_wp2_with fail;go_ret;exact⟨by trivial,B6⟩
theorem Tq(w:World)(f cl:Int)(I:1<=f)(K:f<=4)(ba va ca p:OA)(bc vc C P:Nat)(s:Int)(hs:qU s 0 (3*f)=true)(cd:CD)(hr:gD w ca 1 5 (nS cd))(hi:cd.Is w)(hl:ae9 f cl cd):
  Y 155 #[acY #[U 9,U s,U 0,U 0,U 0,U 0,acX ba 0 bc,acX va 0 vc,acX ca 1 C,acX p 0 P],U f,U cl] w fun e w'=>e=acK true/\Be w w':=by
 obtain⟨HS,HI,HL⟩:=j3 hs hi hl;obtain⟨g,O,rfl,d,c⟩:=hr.2 aR;obtain⟨i,l,m,Q,S,R,xs,T,Z,V,ys⟩:=cd;have z0:J w g O (U i):=c 0 _ rfl;have z1:=c 1 _ rfl;have z2:=c 2 _ rfl;have z3:=c 3 _ rfl;have z4:=c 4 _ rfl;obtain⟨Z0,Z1,Z2,Z3,Z4⟩:=j5 z0 z1 z2 z3 z4;clear hs hr hi hl d c z0 z1 z2 z3 z4;go_enter func155,ntmps155;go_upto_region 2 with fail;generalize hv1:w.alloc _=v1;generalize hg3:w.heap.size=g3;replace hv1:=hv1.symm;replace hg3:=hg3.symm;obtain⟨v2,a⟩:=ex (v1.alloc (.cells #[U f,U cl] 331));obtain⟨g7,b⟩:=ex v1.heap.size;have eg:g3+1=g7:=by rw[b,hv1,hg3];simp
 try rw[eg]
 try rw[<-b]
 rw[<-a];have k:=xNew a b;have j:=F9 (aZ v2 g3 82 #[U 9,U s,U 0,U 0,U 0,U 0,acX ba 0 bc,acX va 0 vc,acX (some (adZ g O)) 1 C,acX p 0 P]) (by rw[a];refine aZ.alloc ?_ _;rw[hv1,hg3];exact aZ.new _ _ _);have B2:=F9 (Be w v2) (by rw[a,hv1];exact(nC.alloc bJ _));clear hv1 a b hg3 eg;obtain⟨n,q,r,t,y,z,A,E,F,G⟩:=j.zA;obtain⟨L,M⟩:=k.a2;have q1: ¬3*f+1=0:=aR;go_wp2_with fail;refine(oC f _ I K).mono ?_;rintro e w' ⟨rfl,rfl⟩;go_wp2_with fail;refine(Bj f cl s _ I K true HS).mono ?_;rintro e W ⟨rfl,H⟩;have B:=nO B2 H;have X:=jj (j.below H j.lt);have x:=jj (k.below H k.lt);clear H;clear n q r t y z A E F G L M;obtain⟨n,q,r,t,y,z,A,E,F,G⟩:=X.zA;obtain⟨L,M⟩:=x.a2;go_upto_region 23 with fail;clear n q r t y z A E F G L M;have KS: ∀w',Be W w'->J w' g3 0 (U 9)/\J w' g3 1 (U s)/\J w' g3 2 (U 0)/\J w' g3 3 (U 0)/\J w' g3 4 (U 0)/\J w' g3 5 (U 0)/\J w' g3 6 (acX ba 0 bc)/\J w' g3 7 (acX va 0 vc)/\J w' g3 8 (acX (some (adZ g O)) 1 C)/\J w' g3 9 (acX p 0 P)/\J w' g7 0 (U f)/\J w' g7 1 (U cl)/\J w' g O (U i)/\J w' g (O+1) (U l)/\J w' g (O+2) (U m)/\J w' g (O+3) (acX Q S R)/\J w' g (O+4) (acX T Z V):=fun w' o=>
  have u:=X.below o X.lt;have v:=x.below o x.lt
  ⟨u.cell 0,u.cell 1,u.cell 2,u.cell 3,u.cell 4,u.cell 5,u.cell 6,u.cell 7,u.cell 8,u.cell 9,v.cell 0,v.cell 1,kept o _ _ (kept B _ _ Z0),kept o _ _ (kept B _ _ Z1),kept o _ _ (kept B _ _ Z2),kept o _ _ (kept B _ _ Z3),kept o _ _ (kept B _ _ Z4)⟩
 refine rD (fun w'=>J w' g3 0 (U 9)/\J w' g3 1 (U s)/\J w' g3 2 (U 0)/\J w' g3 3 (U 0)/\J w' g3 4 (U 0)/\J w' g3 5 (U 0)/\J w' g3 6 (acX ba 0 bc)/\J w' g3 7 (acX va 0 vc)/\J w' g3 8 (acX (some (adZ g O)) 1 C)/\J w' g3 9 (acX p 0 P)/\J w' g7 0 (U f)/\J w' g7 1 (U cl)/\J w' g O (U i)/\J w' g (O+1) (U l)/\J w' g (O+2) (U m)/\J w' g (O+3) (acX Q S R)/\J w' g (O+4) (acX T Z V)) 29 (tk 0 8 (.one 8 (.one 9 (.take 10 (.take 11 (.one 12 (tk 13 13 (.one 26 (.take 27 (.take 28 .done)))))))))) (KS _ (aC _ _).drew) fun N D0 h=> ?_
 repeat(first|refine' tT ?_|refine' tS ?_)
 refine pO fun KT bq=> ?_;go_simp;generalize hu:N.alloc _=u1;generalize hgn:N.heap.size=gn;replace hu:=hu.symm;replace hgn:=hgn.symm;have D1:=jj (D0.trans (show Below W.heap.size N u1 by rw[hu];exact(aC _ _).alloc (by exact D0.size) _));have XN:=xNew hu hgn;clear hu hgn;have S1:=KS _ D1;refine oH bq S1 ?_;clear h;have h:=S1
 repeat(first|refine' tT ?_|refine' tS ?_)
 refine pO fun KT bq=> ?_;go_simp;refine(EW _ gn 4 4 [0,0,0,0] XN rfl bJ aR).mono ?_;rintro e u2 ⟨rfl,H⟩;have D2:=F9 (Be W u2) (by rw[<-H];exact D1.out);clear H;have S2:=KS _ D2;refine oH bq S2 ?_;clear h;have h:=S2
 repeat(first|refine' tT ?_|refine' tS ?_)
 refine pO fun KT bq=> ?_;go_simp;refine(agG _ 9 s 0 0 0 0 ba va (some (adZ g O)) p 0 bc vc 1 C P).mono ?_;rintro e u3 ⟨rfl,H⟩;have D:=nO D2 H;clear H;have S3:=KS _ D;refine oH bq S3 ?_;clear h;have h:=S3
 repeat(first|refine' tT ?_|refine' tS ?_)
 refine pO fun KT bq=> ?_;go_simp;refine(ad7 f cl _ I K ⟨i,l,m,Q,S,R,xs,T,Z,V,ys⟩ (HI.below (B.trans (D.mono B.size))) HL).mono ?_;rintro e u4 ⟨rfl,H⟩;have D4:=nO D H;clear H;have S4:=KS _ D4;refine oH bq S4 ?_;clear h;have h:=S4
 repeat(first|refine' tT ?_|refine' tS ?_)
 refine aU ?_;clear h;go_wp2_with fail;go_ret;exact⟨by trivial,B.trans (D4.mono B.size)⟩
theorem aat(w:World)(f cl:Int)(A:1<=f)(B:f<=4)(ba va C P:OA)(bc vc y z:Nat)(s k q r:Int)(J:qU s 0 (3*f)=true)(W:1<=cl/\cl<=4)(F:qU k 0 (cl -1)=true)(G:qU q 1 1048576=true)(I:qU r (-549755813887) 549755813887=true):
  Y 155 #[acY #[U 10,U s,U 0,U k,U q,U r,acX ba 0 bc,acX va 0 vc,acX C 0 y,acX P 0 z],U f,U cl] w fun e w'=>e=acK true/\Be w w':=by
 obtain⟨S,O,Q,R⟩:=j4 J F G I;have T:IntKind.i64.wrap (cl -1)=cl -1:=aH _ aR;clear J F G I;go_enter func155,ntmps155;go_upto_region 2 with fail;generalize hv1:w.alloc _=v1;generalize hg3:w.heap.size=g3;replace hv1:=hv1.symm;replace hg3:=hg3.symm;obtain⟨V,h⟩:=ex (v1.alloc (.cells #[U f,U cl] 331));obtain⟨g7,a⟩:=ex v1.heap.size;have E:g3+1=g7:=by rw[a,hv1,hg3];simp
 try rw[E]
 try rw[<-a]
 rw[<-h];have u:=xNew h a;have p:=F9 (aZ V g3 82 #[U 10,U s,U 0,U k,U q,U r,acX ba 0 bc,acX va 0 vc,acX C 0 y,acX P 0 z]) (by rw[h];refine aZ.alloc ?_ _;rw[hv1,hg3];exact aZ.new _ _ _);have K:=F9 (Be w V) (by rw[h,hv1];exact(nC.alloc bJ _));clear hv1 h a hg3 E;obtain⟨d,D,b,c,g,i,j,l,m,n⟩:=p.zA;obtain⟨L,o⟩:=u.a2;have Z: ¬3*f+1=0:=aR;go_wp2_with fail;refine(oC f _ A B).mono ?_;rintro e w' ⟨rfl,rfl⟩;go_wp2_with fail;refine(Bj f cl s _ A B true S).mono ?_;rintro e w3 ⟨rfl,H⟩;have M:=nO K H;have X:=jj (p.below H p.lt);have x:=jj (u.below H u.lt);clear H;clear d D b c g i j l m n L o;obtain⟨d,D,b,c,g,i,j,l,m,n⟩:=X.zA;obtain⟨L,o⟩:=x.a2;go_wp2_with fail;refine(agH _ 10 s 0 k q r ba va C P 0 bc vc 0 y z).mono ?_;rintro e w4 ⟨rfl,H⟩;have N:=nO M H;have t:=jj (X.below H X.lt);have v:=jj (x.below H x.lt);clear H;clear d D b c g i j l m n L o;obtain⟨d,D,b,c,g,i,j,l,m,n⟩:=t.zA;obtain⟨L,o⟩:=v.a2;go_wp2_with fail;refine(rU k 0 (cl -1) _ true O).mono ?_;rintro e w' ⟨rfl,rfl⟩;go_wp2_with fail;refine(rU q 1 1048576 _ true Q).mono ?_;rintro e w' ⟨rfl,rfl⟩;go_wp2_with fail;refine(rU r (-549755813887) 549755813887 _ true R).mono ?_;rintro e w' ⟨rfl,rfl⟩;clear d D b c g i j l m n L o;go_wp2_with fail;go_ret;exact⟨by trivial,N⟩
theorem Fb {P:Program} {fn:Func} {p u v:Tmp} {ty:TypeId} (h:fn.results=#[.cell p ty,.tmp u,.tmp v]) (tmps:AV) (w:World) (g:Nat) (t:TypeId) (cs:AV) (fr:Nat×Nat) (d:TypeDesc)
  (e:tmps.getD p undef= .pointer (some (adZ g 0))) (b:w.heap[g]?=some (.cells cs t fr))
  (f:P.underlying ty=some d) (a:(match d with| .struct _| .array _ _=>true|_=>false)=true) (c:(P.info? ty).map (·.size)=some cs.size):
  (results fn tmps).run P w= .ok (ac2 #[acY cs,tmps.getD u undef,tmps.getD v undef]) w:=by
 have H:tmps[p]?.getD undef= .pointer (some (adZ g 0)):=by simpa using e
 simp[results,h,H,asAddr,run_loadVar_row w g t ty cs fr d b f a c]
theorem adA{P:Program}{T E o:Nat}(a:P.underlying T=some (.slice E))(H:P.elem T=E)(d: ∀w:World,(sizeOf E).run P w= .ok s w)(k:Nat)(f:k<n)(e:n<=c)(w:World):
  (Instr.slice T (.slice (some ⟨b,o,none⟩) n c) (some (U k)) none none).run P w= .ok (.slice (some ⟨b,o+k*s,none⟩) (n -k) (c -k)) w:=by have h:=run_slice_l (P:=P) (w:=w) T (some ⟨b,o,none⟩) n c (by rw[H];exact a) .i64 k aR aR;rw[h,H,d w];show Result.ok (sliced (some ⟨b,o,none⟩) ((k:Int).toNat) n c s) w=_;rw[Int.toNat_natCast];simp only[sliced];rw[if_neg aR];simp[addr_add]
theorem ab7(w:World):(sizeOf 5).run prog w= .ok 1 w:=by obtain⟨i,h,_,H,_⟩:=info_parts wU;simp[sizeOf,typeInfo,h,H]
theorem ZU(M:Ms):0<(dF M).length:=by have:=(qz M.kind.toNat).1;simp only[dF,av];omega
theorem abt (w:World) (nn b:Nat) (K:List (Int×List Int)) (hN:vC w nn b K) (f cl:Int) (A:OA) (m c:Nat) (bs:LI) (M:Ms) (z:Int) (hz:qh z) (hs:xE K M z) (l:bs=mD z.toNat++dF M) (hm:bs.length=m) (k0:m<=65536) (hc:m<=c)
  (hv:gD w A m 1 (mZ bs)) (x:Nat) (hx:x<w.heap.size)
  (hf: ∀(w':World) (d:MD),nA d=M->d.Is w'->Y 155 #[acY (oM d).toArray,U f,U cl] w' fun e w''=>e=acK true/\Be w' w''):
  Y 119 #[acX A m c,U f,U cl,nn] w fun e w'=> ∃d:MD,e=acK (ac2 #[acY (oM d).toArray,U z,U 0])/\nA d=M/\MF x w' d/\Be w w':=by
 obtain⟨Z,rfl⟩:=bB hz.1;rw[Int.toNat_natCast] at l;have zl:Z<1099511627776:=by have:=hz.2;omega
 obtain⟨k,hk⟩:=ex ((mD Z).length);have kl:=(qz Z).1;have bp:=ZU M;have hlen:m=k+(dF M).length:=by rw[<-hm,l,av,hk]
 obtain⟨bb,O,rfl,j0,W⟩:=hv.2 aR;have SL: ∀w,(Instr.slice 140 (acX (some (adZ bb O)) m c) (some (U k)) none none).run prog w= .ok (acX (some (adZ bb (O+k*1))) (m -k) (c -k)) w:=adA underlying140 (by kernel_rfl) ab7 k aR hc;obtain⟨m2,n⟩:=ex (m -k);obtain⟨o2,X⟩:=ex (O+k*1);obtain⟨c2,d0⟩:=ex (c -k);rw[<-n,<-X,<-d0] at SL;have V2:=F9 (gD w (some (adZ bb o2)) m2 1 (mZ (dF M))) (by
  obtain⟨b',o',e,h⟩:=hv.from_ (k:=k) aR;injection e with e;injection e with e1 e2;subst e1 e2;have e3:(mZ bs).drop (k*1)=mZ (dF M):=by rw[l,wR,hk,fP];simp[mZ]
  rw[e3] at h;rw[X,n];exact h)
 have g0:=F9 ((dF M).length=m2) aR;have a0:m2<=65536:=aR;have TK:=jj (fun w' (h:Be w w')=>lJ (some (adZ bb O)) m c bs 0 Z zl hm aR w' (hv.below h) ⟨dF M,by rw[l];simp⟩);obtain⟨HN,HS,HX,HF⟩:=j4 hN hs hx hf;have HK:=F9 ((0+(mD Z).length:Nat)=k) aR;have i0: ¬(65536:Int)<m:=aR;clear hN hs hx hf hv hm l hlen j0 W kl bp hk hz zl n X d0;go_enter func119,ntmps119;go_upto_region 1 with fail;generalize hw1:w.alloc _=w1;generalize hg8:w.heap.size=g8;replace hw1:=hw1.symm;replace hg8:=hg8.symm;obtain⟨B1,K1⟩:=nw hw1 hg8;have GE:=F9 (w.heap.size<=g8) aR;clear hw1 hg8;go_wp2_with fail;refine(TK.out _ B1).mono ?_;rintro e w' ⟨rfl,rfl⟩;rw[HK.out];go_wp2_with fail;refine(aew _ (some (adZ bb o2)) m2 c2 (dF M) M HS.ok rfl g0 a0 (V2.below B1) x (aB HX B1.size)).mono ?_;rintro e w3 ⟨d,rfl,hd,f0,T⟩;have B3:=nO B1 T;have a:=jj (K1.below T K1.lt);have h0:=jj f0;have HD:=jj hd;clear T f0 hd;obtain⟨F,r,i,G,I,L,B,t,s,br,V,R,Q,vs,C,D,y,cs,P,N⟩:=d;rw[show(oM ⟨F,r,i,G,I,L,B,t,s,br,V,R,Q,vs,C,D,y,cs,P,N⟩).toArray=#[U F,U r,U i,U G,U I,U L,acX B t s,acX V R Q,acX C D y,acX P 0 N] from rfl];have e0:=a.at_ 0;have z0:=a.frozen 0;have e1:=a.at_ 1;have z1:=a.frozen 1;have e2:=a.at_ 2;have z2:=a.frozen 2;have e3:=a.at_ 3;have z3:=a.frozen 3;have e4:=a.at_ 4;have z4:=a.frozen 4;have e5:=a.at_ 5;have z5:=a.frozen 5;have e6:=a.at_ 6;have z6:=a.frozen 6;have e7:=a.at_ 7;have z7:=a.frozen 7;have e8:=a.at_ 8;have z8:=a.frozen 8;have e9:=a.at_ 9;have z9:=a.frozen 9;go_upto_region 7 with fail;obtain⟨w4,p⟩:=ex (setW w3 g8 0 [U F,U r,U i,U G,U I,U L,acX B t s,acX V R Q,acX C D y,acX P 0 N]);have K4:=jj (uL p a);have O4:=jj (vM p);simp only[setW,aO,Nat.reduceAdd] at p;rw[<-p];clear p;clear e0 z0 e1 z1 e2 z2 e3 z3 e4 z4 e5 z5 e6 z6 e7 z7 e8 z8 e9 z9;have B4:=F9 (Be w w4) (O4.below B3 B3.size (mR GE.out));have b0:=jj (h0.only O4 (mR (nV.of a aV)) (Nr.of a aV));have SN:=F9 (M.sender=r) (by rw[<-HD.out];rfl);have KS: ∀w',Be w4 w'->J w' g8 0 (U F)/\J w' g8 1 (U r)/\J w' g8 2 (U i)/\J w' g8 3 (U G)/\J w' g8 4 (U I)/\J w' g8 5 (U L)/\J w' g8 6 (acX B t s)/\J w' g8 7 (acX V R Q)/\J w' g8 8 (acX C D y)/\J w' g8 9 (acX P 0 N):=fun w' o=>
  have u:=K4.below o K4.lt
  ⟨u.cell 0,u.cell 1,u.cell 2,u.cell 3,u.cell 4,u.cell 5,u.cell 6,u.cell 7,u.cell 8,u.cell 9⟩
 refine rP (fun w'=>J w' g8 0 (U F)/\J w' g8 1 (U r)/\J w' g8 2 (U i)/\J w' g8 3 (U G)/\J w' g8 4 (U I)/\J w' g8 5 (U L)/\J w' g8 6 (acX B t s)/\J w' g8 7 (acX V R Q)/\J w' g8 8 (acX C D y)/\J w' g8 9 (acX P 0 N)) 20 (tk 0 6 (.one 6 (tk 7 10 (.one 17 (.take 18 (.take 19 .done)))))) (KS _ (aC _ _).drew) ?_;intro H
 repeat refine' tT ?_
 refine pO fun KT bq=> ?_;go_simp;refine(HF.out _ ⟨F,r,i,G,I,L,B,t,s,br,V,R,Q,vs,C,D,y,cs,P,N⟩ HD (b0.below (aC _ _).drew).md).mono ?_;rintro e w5 ⟨rfl,c0⟩;have BB:=jj ((aC w4.heap.size w4).drew.trans c0);have B5:=jj (B4.trans (BB.mono B4.size));clear c0;have S5:=KS _ BB;refine oH bq S5 ?_;clear H;have H:=S5
 repeat refine' tT ?_
 refine pO fun KT bq=> ?_;go_simp;refine(Jo nn b K r (some (adZ bb o2)) m2 c2 (dF M) Z _ (HN.below B5) (V2.below B5) (by rw[<-SN.out];exact HS.key) true (by rw[<-SN.out];simp only[decide_eq_true HS.mem,decide_eq_true HS.num,kZ])).mono ?_;rintro e l0 ⟨rfl,j,rfl⟩;obtain⟨w6,E⟩:=ex (w5.drewN j);rw[<-E];have S:=F9 (Be w4 w6) (by rw[E];exact below_drewN BB j);have B6:=F9 (Be w w6) (by rw[E];exact below_drewN B5 j);clear E;have S6:=KS _ S;refine oH bq S6 ?_;clear H;have H:=S6
 repeat refine' tT ?_
 refine aU ?_;clear H;have g:=jj (K4.below S K4.lt);have e0:=g.at_ 0;have z0:=g.frozen 0;have e1:=g.at_ 1;have z1:=g.frozen 1;have e2:=g.at_ 2;have z2:=g.frozen 2;have e3:=g.at_ 3;have z3:=g.frozen 3;have e4:=g.at_ 4;have z4:=g.frozen 4;have e5:=g.at_ 5;have z5:=g.frozen 5;have e6:=g.at_ 6;have z6:=g.frozen 6;have e7:=g.at_ 7;have z7:=g.frozen 7;have e8:=g.at_ 8;have z8:=g.frozen 8;have e9:=g.at_ 9;have z9:=g.frozen 9;go_wp2_with fail;obtain⟨w7,q⟩:=ex (setW w6 g8 0 [U F,U r,U i,U G,U I,U L,acX B t s,acX V R Q,acX C D y,acX P 0 N]);have K7:=uL q g;have O7:=vM q;simp only[setW,aO,Nat.reduceAdd] at q;rw[<-q];clear q;clear e0 z0 e1 z1 e2 z2 e3 z3 e4 z4 e5 z5 e6 z6 e7 z7 e8 z8 e9 z9;refine bodyPost_ret (v:=ac2 #[acY #[U F,U r,U i,U G,U I,U L,acX B t s,acX V R Q,acX C D y,acX P 0 N],U (Z:Int),U 0]) ?_ rfl ⟨⟨F,r,i,G,I,L,B,t,s,br,V,R,Q,vs,C,D,y,cs,P,N⟩,rfl,HD,(b0.below S).only O7 (mR (nV.of g aV)) (Nr.of g aV),O7.below B6 B6.size (mR GE.out)⟩;exact(Fb Tryz.results119 _ w7 g8 _ _ _ _ (by rfl) K7 underlying82 rfl (by kernel_rfl)).trans rfl
structure CeL(f:Int)(c:Ce):Prop where
 p1:qU c.view 0 12=true
 p2:qU c.inst 0 f=true
 p3:qU c.seq 1 16=true
 b: ∀r∈c.batch,mq 2 r=true
 nb:qU c.batch.length 0 4=true
 r:Ih f c.sw
 v: ∀v∈c.sw,qU v.2 0 1099511627775=true
inductive nU(f:Int):Ms->Prop where
 |req (r:Rq):mq 2 r=true->0<=r.1->r.1<2->nU f ⟨1,100+r.1,0,0,0,0,[r],[],[]⟩
 |prop (s:Int) (r:Rq):qU s 0 (3*f)=true->mq 2 r=true->nU f ⟨2,s,0,0,0,0,[r],[],[]⟩
 |pp (k q:Int) (bs:List Rq):qU k 0 (3*f)=true->qU k 0 f=true->qU q 1 16=true->(∀r∈bs,mq 2 r=true)->qU bs.length 1 4=true->nU f ⟨3,k,0,k,q,0,bs,[],[]⟩
 |v4 (s k q:Int) (bs:List Rq):qU s 0 (3*f)=true->qU k 0 f=true->qU q 1 16=true->(∀r∈bs,mq 2 r=true)->qU bs.length 0 4=true->nU f ⟨4,s,0,k,q,0,bs,[],[]⟩
 |v5 (s k q:Int) (bs:List Rq):qU s 0 (3*f)=true->qU k 0 f=true->qU q 1 16=true->(∀r∈bs,mq 2 r=true)->qU bs.length 0 4=true->nU f ⟨5,s,0,k,q,0,bs,[],[]⟩
 |proof (s:Int) (c:Ce):qU s 0 (3*f)=true->CeL f c->nU f ⟨9,s,0,0,0,0,[],[],[c]⟩
theorem aas(o:1<=f)(p:f<=4)(h:nU f M)(w:World)(d:MD)(H:nA d=M)(u:d.Is w):
  Y 155 #[acY (oM d).toArray,U f,U 2] w fun e w''=>e=acK true/\Be w w'':=by
 obtain⟨kind,S,view,inst,L,K,B,bn,i,z,V,vn,x,O,C,cn,j,cs,P,v⟩:=d;have E:z.length=bn:=u.b.len;have m:O.length=vn:=u.v.len;have n:cs.length=cn:=u.c.len;have t:=u.b;simp only at t
 cases h with
 |req r hv h0 h2=>
  simp only[nA,Ms.mk.injEq,gI] at H;obtain⟨rfl,rfl,rfl,rfl,rfl,rfl,rfl,rfl,rfl⟩:=H;subst E;subst m;subst n;obtain⟨R,D,F,G,I,J⟩:=r;exact aau w f 2 o p B V C P i x j v _ R D F G I J t hv rfl ⟨h0,by simp only at h2;omega⟩
 |prop s r hs hv=>
  simp only[nA,Ms.mk.injEq,gI] at H;obtain⟨rfl,rfl,rfl,rfl,rfl,rfl,rfl,rfl,rfl⟩:=H;subst E;subst m;subst n;exact XG w f 2 o p B V C P i x j v _ hs [r] t (mR hv)
 |pp k q l hs hk hq hv hl=>
  simp only[nA,Ms.mk.injEq,gI] at H;obtain⟨rfl,rfl,rfl,rfl,rfl,rfl,rfl,rfl,rfl⟩:=H;subst E;subst m;subst n;exact adz w f 2 o p B V C P i x j v _ _ _ _ hs hk hq rfl _ t hv hl
 |v4 s k q l hs hk hq hv hl=>
  simp only[nA,Ms.mk.injEq,gI] at H;obtain⟨rfl,rfl,rfl,rfl,rfl,rfl,rfl,rfl,rfl⟩:=H;subst E;subst m;subst n;exact Tt w f 2 o p B V C P i x j v _ _ _ _ hs hk hq _ t hv hl
 |v5 s k q l hs hk hq hv hl=>
  simp only[nA,Ms.mk.injEq,gI] at H;obtain⟨rfl,rfl,rfl,rfl,rfl,rfl,rfl,rfl,rfl⟩:=H;subst E;subst m;subst n;exact Tv w f 2 o p B V C P i x j v _ _ _ _ hs hk hq _ t hv hl
 |proof s c hs hc=>
  simp only[nA,Ms.mk.injEq] at H;obtain⟨rfl,rfl,rfl,rfl,rfl,rfl,rfl,rfl,g⟩:=H;obtain⟨cd,rfl⟩: ∃cd,cs= [cd]:=by
   cases cs with
   |nil=>simp at g
   |cons a l=>cases l with
    |nil=>exact⟨a,rfl⟩
    |cons b l=>simp at g
  simp only[bV,fu,gT,and_true] at g;subst g;subst E;subst m;subst n;have y:=u.c.is cd bJ;have A:cd.bs.length=cd.bn:=y.b.len;have N:=hc.nb;simp only[pz,A] at N;exact Tq w f 2 o p B V C P i x j v _ hs cd (mR u.c.row) y ⟨hc.p1,hc.p2,hc.p3,hc.b,N,hc.r,hc.v⟩
open Classical in
noncomputable def sP(E:Who)(m:Ms)(z:Int)(S:KN):Option (KN×Kj):=
 if m.kind=1\/m.kind=2 then match m.batch with
  | [r]=>JE E m.kind m.sender.toNat r S
  |_=>none
 else if m.kind=3 then ppV E m m.inst.toNat (m.seq -1).toNat S
 else if m.kind=4\/m.kind=5 then AU E m z m.sender.toNat m.inst.toNat (m.seq -1).toNat S
 else if m.kind=9 then match m.vI with
  | [c]=>Cw E c S
  |_=>none
 else none
structure Vh(K:KS)(s:ql)(f:Int)(M:Ms)(z:Int)(bs:LI):Prop where
 z40:qh z
 ab2:xE K M z
 bytes:bs=mD z.toNat++dF M
 len:bs.length<=65536
 form:nU f M
 stop:s.stopped=false
 cnt:0<=s.c0/\s.c0<=1000000/\0<=s.c2/\s.c2<=1000000
open Classical in
noncomputable def JD(E:Who)(M:Ms)(z:Int)(bs:LI)(S:KN):Option KN:=
 (must (Vh S.1 S.2 E.f M z bs)).bind fun _=>(sP E M z S).map fun r=>(r.1.1,match r.2 with
  | .used=>{r.1.2 with c0:=r.1.2.c0+1}
  | .stale=>{r.1.2 with c2:=r.1.2.c2+1})
theorem MF.step{w':World}{L:List ni}{m:MD}(H:MF x w m)(h:Sys x w L)(st:Step x w w' L L'):MF x w' m:=H.only st.only h.soft h.noC
theorem UH(K:KS)(q:Int×List Int):q∈sealed K q:=by
 unfold sealed;split
 ·assumption
 simp
theorem OM(K:KS)(q:Int×List Int):sealed (sealed K q) q=sealed K q:=if_pos (UH K q)
theorem ahB(ok:Ev M)(a:(dF M).length<=65536):Ns (M.sender,dF M):=
 ⟨by have:=ok.sender;obtain⟨h,H⟩:=this;exact⟨by simp only;omega,by simp only;omega⟩,EG ok,by show(dF M).length<=maxLen;unfold maxLen;omega⟩
theorem FQ(k id:Nat):others (k+1) id=others k id++if k=id then [] else [k]:=by unfold others;rw[gV,fV];by_cases h:k=id<;>simp[h]
def MD.from_(m:MD)(id:Int):MD:={m with sender:=id}
theorem MF.from_{m:MD}(h:MF x w m)(id:Int):MF x w (m.from_ id):=⟨h.b,h.v,h.c⟩
theorem aee(x:Nat)(w:World)(f:Int)(n id gx b:Nat)(d:bK)(K:KS)(h:qE x w f n id gx b d K)(m:MD)(T:MF x w m)(hs:m.sender=id)(ok:Ev (nA m))(X:(dF (nA m)).length<=65000)(hK:K.length<1048576)(q:Int×List Int)(hq:q=((id:Int),dF (nA m)))(z:Int)(hz:num (sealed K q) q=z):
  Y 229 #[gx,acY (oM m).toArray] w fun e w'=>e=acK (U z)/\mP x w w' f n id gx b d K d (sealed K q):=by
 have B:=F9 (∀u,Be w u->Y 102 #[acY (oM m).toArray] u fun e w'=> ∃A C,e=acK (ac2 #[acX A (dF (nA m)).length C,true])/\w'.ownsRow u.heap.size 5 1 (acX A (dF (nA m)).length C) (dF (nA m)).length (mZ (dF (nA m)))/\Be u w') fun u hu=>Ta u m (T.below hu).md ok aR;obtain⟨i,a⟩:=ex (dF (nA m));obtain⟨k0,k⟩:=ex ((dF (nA m)).length);obtain⟨g,a0,v,L⟩:=j4 a k ok X;rw[<-k,<-a] at B;obtain⟨kind,t,view,inst,p,r,G,M,I,bs,va,vn,vc,vs,P,R,Q,cs,pa,pc⟩:=m;simp only at hs;subst hs;obtain⟨H,E,HZ⟩:=j3 h hq hz;clear h T ok X hq hz a k;replace B:Hid (∀u,Be w u->Y 102 #[acY #[U kind,U id,U view,U inst,U p,U r,acX G M I,acX va vn vc,acX P R Q,acX pa 0 pc]] u fun e w'=> ∃A C,e=acK (ac2 #[acX A k0 C,true])/\w'.ownsRow u.heap.size 5 1 (acX A k0 C) k0 (mZ i)/\Be u w'):=B;show Y 229 #[gx,acY #[U kind,U id,U view,U inst,U p,U r,acX G M I,acX va vn vc,acX P R Q,acX pa 0 pc]] w fun e w'=>e=acK (U z)/\mP x w w' f n id gx b d K d (sealed K q);go_enter func229,ntmps229;go_upto_region 1 with fail;generalize hv1:w.alloc _=v1;generalize hgm:w.heap.size=gm;replace hv1:=hv1.symm;replace hgm:=hgm.symm;obtain⟨y,X1⟩:=nw hv1 hgm;clear hv1 hgm;obtain⟨y0,y1,y2,y3,y4,y5,y6,y7,y8,y9⟩:=X1.zA;go_wp2_with fail;refine(B.out v1 y).mono ?_;rintro e v2 ⟨a2,N,rfl,O,l⟩;have D:=nO y l;have W2:=jj O;clear O l y0 y1 y2 y3 y4 y5 y6 y7 y8 y9;go_upto_region 2 with fail;have KS:=F9 (∀u,Be w u->J u gx 15 (U id)/\J u gx 16 d.nn) fun u o=>⟨(H.below o).blk.cell 15,(H.below o).blk.cell 16⟩;refine rP (fun u=>J u gx 15 (U id)/\J u gx 16 d.nn) 11 (tk 0 9 (.one 9 (.take 10 .done))) (KS.out _ D.drew) ?_;intro j;obtain⟨V,c⟩:=ex v2.drew;have B3:=F9 (Be w V) (by rw[c];exact D.drew);have W3:=F9 (V.ownsRow v1.heap.size 5 1 (acX a2 k0 N) k0 (mZ i)) (by rw[c];exact W2.out);rw[<-c] at j|-;clear c
 repeat refine' tT ?_
 refine pO fun KT bq=> ?_;go_simp;have s:=jj (H.step B3);refine(Ox d.nn b K id a2 k0 N i V s.sys.Pt (fH W3) (by rw[g.out];exact ahB v (tL L.out)) hK z (by rw[<-HZ.out,E.out,g.out]) (sealed K q) (by rw[E.out,g.out])).mono ?_;rintro e v4 ⟨rfl,W,Z⟩;have S:=jj (s.Pt W Z);clear W Z;have F:J v4 gx 15 (U id)/\J v4 gx 16 d.nn:=⟨S.sys.blk.cell 15,S.sys.blk.cell 16⟩;refine oH bq F ?_;clear j;have j:=F
 repeat refine' tT ?_
 refine aU ?_;go_wp2_with fail;go_ret;exact⟨by trivial,S⟩
theorem GV(x:Nat)(w:World)(E:Who)(gx b:Nat)(d:bK)(K:KS)(h:qE x w E.f E.n E.id gx b d K)(hx:x<w.heap.size)(h1:1<=E.f)(h4:E.f<=4)(hn:(E.n:Int)=3*E.f+1)(m:MD)(hM:MF x w m)(K':KS)(v':ql)(z:Int)(C:yI E (nA m) (K,d.val)=some ((K',v'),z)):
  Y 170 #[gx,.agg (oM m).toArray] w fun e w'=>e= .returned (.tuple #[U z,true])/\ ∃A c L,mP x w w' E.f E.n E.id gx b d K (d.outs A c L) K'/\(d.outs A c L).val=v':=by
 obtain⟨f,n,id⟩:=E;simp only at h h1 h4 hn|-;unfold yI at C;simp only[aK] at C;obtain⟨u,hu,C⟩:=C;have ft:=mI hu;obtain⟨q,hq⟩: ∃q:Int×List Int,q=((id:Int),dF (nA (m.from_ id))):=⟨_,rfl⟩;have t0:FY (sealed K q) (nA (m.from_ id))=mD (num (sealed K q) q).toNat++dF (nA (m.from_ id)):=by rw[hq];rfl
 obtain⟨B,c0⟩:=ex (mD (num (sealed K q) q).toNat++dF (nA (m.from_ id)));have y:K'=sealed K q/\v'={d.val with out:=d.val.out++(others n id).map fun k:Nat=>((k:Int),B)}/\z=num (sealed K q) q:=by rw[c0,<-t0,hq];simp only[aM] at C;exact⟨C.1.1.symm,C.1.2.symm,C.2.symm⟩
 obtain⟨rfl,rfl,rfl⟩:=y;have m0:Ev (nA (m.from_ id)):=ft.ok;have hlen:(dF (nA (m.from_ id))).length<=65000:=ft.len;have hK:K.length<1000000:=ft.room;have I0:d.ol.length<=3000:=by have:=ft.out;simpa[bK.val,uy] using this
 have k0:MF x w (m.from_ id):=hM.from_ id;clear C hu ft hM t0;obtain⟨kind,a0,view,inst,S,r,I,N,M,bs,X,vn,Z,vs,P,R,Q,cs,V,W⟩:=m;simp only[MD.from_] at hq c0 m0 hlen k0;obtain⟨H,HQ,h0,i0,HX,o0⟩:=j6 h hq c0 hn hx m0;have HM:=jj k0;clear h hq c0 hn hx m0 k0;obtain⟨iu,x0,D0,E0,F0⟩:=info_parts wU;obtain⟨is,w0,z0,A0,C0⟩:=info_parts wD;show Y 170 #[gx,.agg #[U kind,U a0,U view,U inst,U S,U r,.slice I N M,.slice X vn Z,.slice P R Q,.slice V 0 W]] w _;have p0:=H.blk.at_ 15;go_enter func170,ntmps170;go_upto_region 1 with fail;generalize hv0:w.alloc _=v0;generalize hgm:w.heap.size=gm;replace hv0:=hv0.symm;replace hgm:=hgm.symm;obtain⟨B0,X0⟩:=nw hv0 hgm;have GM:=F9 (w.heap.size<=gm) aR;have j0:J v0 gx 15 (U id):=kept B0.out _ _ p0;have f1:=X0.frozen 1;have y1:=X0.at_ 1;clear hv0 hgm p0;go_upto_region 2 with fail;obtain⟨v1,e0⟩:=ex (v0.setCell ⟨gm,1,none⟩ (U id));rw[<-e0];have B1:=F9 (Be w v1) (by rw[e0];exact B0.setCell (p:=⟨gm,1,none⟩) GM.out _);have X1:=F9 (aZ v1 gm 82 #[U kind,U id,U view,U inst,U S,U r,.slice I N M,.slice X vn Z,.slice P R Q,.slice V 0 W]) (by rw[e0];exact X0.fU 1 _);clear e0 y1 f1 j0;have KS:=F9 (∀u,Be w u->aZ u gm 82 #[U kind,U id,U view,U inst,U S,U r,.slice I N M,.slice X vn Z,.slice P R Q,.slice V 0 W]->J u gx 16 d.nn/\J u gm 0 (U kind)/\J u gm 1 (U id)/\J u gm 2 (U view)/\J u gm 3 (U inst)/\J u gm 4 (U S)/\J u gm 5 (U r)/\J u gm 6 (.slice I N M)/\J u gm 7 (.slice X vn Z)/\J u gm 8 (.slice P R Q)/\J u gm 9 (.slice V 0 W)) fun u o t=>⟨(H.below o).blk.cell 16,t.cell 0,t.cell 1,t.cell 2,t.cell 3,t.cell 4,t.cell 5,t.cell 6,t.cell 7,t.cell 8,t.cell 9⟩;refine rP (fun u=>J u gx 16 d.nn/\J u gm 0 (U kind)/\J u gm 1 (U id)/\J u gm 2 (U view)/\J u gm 3 (U inst)/\J u gm 4 (U S)/\J u gm 5 (U r)/\J u gm 6 (.slice I N M)/\J u gm 7 (.slice X vn Z)/\J u gm 8 (.slice P R Q)/\J u gm 9 (.slice V 0 W)) 11 (tk 0 5 (.one 5 (tk 6 5 .done))) (KS.out _ B1.drew X1.drew) ?_;intro a;obtain⟨v2,y⟩:=ex v1.drew;have B2:=F9 (Be w v2) (by rw[y];exact B1.drew);have X2:=F9 (aZ v2 gm 82 #[U kind,U id,U view,U inst,U S,U r,.slice I N M,.slice X vn Z,.slice P R Q,.slice V 0 W]) (by rw[y];exact X1.drew);rw[<-y] at a|-;clear y
 repeat refine' tT ?_
 refine pO fun KT bq=> ?_;go_simp;have H2:=jj (H.below B2.out);have T2:=F9 (sV (nu f n id gx b d K) v2 gm 82 #[U kind,U id,U view,U inst,U S,U r,.slice I N M,.slice X vn Z,.slice P R Q,.slice V 0 W]) (sV.new H.out X2.out GM.out);have M2:=jj (HM.below B2.out);refine(UG _ d.nn b K H2.Pt ⟨kind,id,view,inst,S,r,I,N,M,bs,X,vn,Z,vs,P,R,Q,cs,V,W⟩ M2.md o0.out hlen aR).mono ?_;rintro e v ⟨a3,c3,l3,rfl,d0,g0,b0,o3⟩;replace g0:v.ownsRow v2.heap.size 5 1 (.slice a3 l3 c3) l3 (mZ B):=by rw[h0.out,HQ.out];exact g0
 replace d0:B.length=l3:=by rw[h0.out,HQ.out];exact d0
 replace b0:vC v d.nn b (sealed K q):=by rw[HQ.out];exact b0
 have F:=F9 (mP x v2 v f n id gx b d K d (sealed K q)) ((Step.refl H2.out).Pt b0 o3);have W3:=jj g0;have L3:=jj d0;have T:=jj (T2.step F.out);have M3:=jj (M2.step H2.out F.out);have H3:=jj F.sys;clear g0 d0 b0 o3;have S3:J v gx 16 d.nn/\J v gm 0 (U kind)/\J v gm 1 (U id)/\J v gm 2 (U view)/\J v gm 3 (U inst)/\J v gm 4 (U S)/\J v gm 5 (U r)/\J v gm 6 (.slice I N M)/\J v gm 7 (.slice X vn Z)/\J v gm 8 (.slice P R Q)/\J v gm 9 (.slice V 0 W):=⟨H3.blk.cell 16,T.blk.cell 0,T.blk.cell 1,T.blk.cell 2,T.blk.cell 3,T.blk.cell 4,T.blk.cell 5,T.blk.cell 6,T.blk.cell 7,T.blk.cell 8,T.blk.cell 9⟩;refine oH bq S3 ?_;clear a;have a:=S3
 repeat refine' tT ?_
 refine aU ?_;clear a;go_wp2_with fail;have LB:=F9 (l3<=65010) (by have:=(qz (num (sealed K q) q).toNat).2;rw[<-L3.out,h0.out,av];omega)
 go_loopw [8] (fun q' wr=> ∃k:Nat,q'= U k/\k<=n/\(∃j O l,mP x v wr f n id gx b d (sealed K q) (d.outs j O l) (sealed K q)/\uy l=uy d.ol++(others k id).map (fun k:Nat=>((k:Int),B))/\l.length<=d.ol.length+k)/\wr.ownsRow v2.heap.size 5 1 (.slice a3 l3 c3) l3 (mZ B)) (fun q' _=>n -(intOf q').toNat)
 case atStart=>exact⟨0,by first|rfl|simp,aR,⟨d.oa,d.oc,d.ol,Step.refl H3.out,by simp[others],aR⟩,W3.out⟩
 case round=>
  obtain⟨k,rfl,hk,⟨j,O,l,i,C,G⟩,hw⟩:=hrel;obtain⟨SW,D,VV,RW,LL⟩:=j5 i i.sys C hw G;have r0:=i.sys.blk.at_ 0;have q0:=i.sys.blk.at_ 15;clear i C hw G;by_cases H0:k<n
  ·have i1:(k:Int)<3*f+1:=by have:=i0.out;omega
   have e2:IntKind.i64.wrap ((k:Int)+1)=(k:Int)+1:=aH _ (tL i0.out);by_cases s0:k=id
   ·have l0:(k:Int)=id:=aR
    subst s0;go_wp2_with fail;refine(oC f _ h1 h4).mono ?_;rintro e w' ⟨rfl,rfl⟩;go_wp2_with fail;go_roundw
    case rel=>exact⟨k+1,by go_num,aR,⟨j,O,l,SW.out,by rw[FQ,if_pos rfl,eG];exact VV.out,by have:=LL.out;omega⟩,RW.out⟩
    simp[intOf];omega
   have l0: ¬(k:Int)=id:=aR;go_wp2_with fail;refine(oC f _ h1 h4).mono ?_;rintro e w' ⟨rfl,rfl⟩;go_upto_region 9 with fail;clear r0 q0;refine rD (fun u=>J u gx 34 (.slice j l.length O)) 13 (tk 0 7 (.one 7 (.take 8 (.one 9 (.one 10 (.one 11 (.take 12 (.one 13 .done)))))))) (D.blk.drew.cell 34) fun v5 E5 a=> ?_
   repeat refine' tT ?_
   refine pO fun KT bq=> ?_;refine oo (by rfl) _ _ _ (by rfl) wr.heap.size 5 iu _ 1 1 underlying140 x0 D0 E0 F0 rfl aR none 0 0 [] (by rfl) ⟨bJ,.inl ⟨rfl,rfl⟩⟩ a3 l3 c3 (mZ B) (by rfl) (fH (own_below RW.out E5.out)) (yh B) (by have:=LB.out;unfold maxLen;omega) (tL LB.out) E5.size ?_;intro a6 c6 v6 h6;have O6:=h6.own;rw[aO,List.nil_append] at O6;rw[aO];have E6:=F9 (Be wr v6) (E5.trans (h6.only.mY.mono E5.size));have R6:=jj O6;clear h6;have S6:J v6 gx 34 (.slice j l.length O):=(D.below E6.out).blk.cell 34;refine oH bq S6 ?_;clear a;have a:=S6
   repeat refine' tT ?_
   refine pO fun KT bq=> ?_;go_simp;generalize hv7:v6.alloc _=v7;generalize sM:v6.heap.size=g7;replace hv7:=hv7.symm;replace sM:=sM.symm;have n0:=(tQ hv7).out;have E7:=nO E6 n0;have X7:=xNew hv7 sM;have R7:=jj (own_below R6.out n0);clear hv7 sM;have S7:J v7 gx 34 (.slice j l.length O):=(D.below E7.out).blk.cell 34;refine oH bq S7 ?_;clear a;have a:=S7
   repeat refine' tT ?_
   refine pO fun KT bq=> ?_;refine oo (by rfl) _ _ _ (by rfl) 0 179 is _ 2 32 underlying109 w0 z0 A0 C0 rfl aR j l.length O (l.flatMap WB) (by rfl) (own_below D.out.out.own E7.out) (some ⟨g7,0,none⟩) 1 1 (WB (⟨(k:Int),a6,l3,c6,B⟩:wN)) (by rfl) (gD.nR (n:=1) (s:=2) X7.out rfl) (fun u hu=>Ec [(⟨(k:Int),a6,l3,c6,B⟩:wN)] u (mR hu)) (by have:=LL.out;unfold maxLen;omega) (tL LL.out) (bF _) ?_;intro a8 c8 v8 h8;have H7:=jj (D.below E7.out);have SI:=F9 ((⟨(k:Int),a6,l3,c6,B⟩:wN).Is x v7) ⟨fH R7.out,L3.out,Fixed.own R7.out (aB HX.out (aG B2.size (aG F.size SW.size))),qB R7.out⟩;have O8:=jj (H7.out.out.more SI.out h8);have P8:=F9 (Only (j.map (·.block)).toList wr v8) ((Only.of_below E7.out).trans h8.only);have u0:=F9 (∀k,a8.map (·.block)=some k->j.map (·.block)=some k\/wr.heap.size<=k) fun k hk=>by
    rcases h8.at_ k hk with h|h
    ·exact .inl h
    exact .inr (aG E7.size h)
   have K8:=jj (D.blk.only P8.out (fun hm=>oJ D.out.out.own D.blk aV _ hm rfl));have R8:=jj (mK RW.out P8.out (fun g hg hm=>by obtain⟨_,G0,hc⟩:=dx D.out.out.own g hm;exact mG RW.out hc aV hg))
   clear h8;have S8:=K8.at_ 34;refine oH bq S8 ?_;clear a;have a:=S8;have f8:=K8.frozen 34
   repeat refine' tT ?_
   refine pO fun KT bq=> ?_;go_simp;refine oH bq S8 ?_
   repeat refine' tT ?_
   refine pL fun KT bq=> ?_;go_simp;refine oL bq ?_;refine aU ?_;clear a;obtain⟨w9,f0⟩:=ex (v8.setCell ⟨gx,34,none⟩ (.slice a8 (l.length+1) c8));rw[<-f0];have o9:Only [gx] v8 w9:=by rw[f0];exact(Only.refl [gx] _).setCell (.inl bJ) _
   have K9:aZ w9 gx 131 (yB f id (d.outs a8 c8 (l++ [(⟨(k:Int),a6,l3,c6,B⟩:wN)]))):=by rw[f0,show yB f id ((d.outs a8 c8 (l++ [(⟨(k:Int),a6,l3,c6,B⟩:wN)])):bK)=(yB f id ((d.outs j O l):bK)).setIfInBounds 34 (.slice a8 (l.length+1) c8) by simp[yB]];exact K8.fU 34 _
   have O9:nJ x w9 a8 (l++ [(⟨(k:Int),a6,l3,c6,B⟩:wN)]).length c8 (l++ [(⟨(k:Int),a6,l3,c6,B⟩:wN)]):=by rw[av,List.length_singleton];exact O8.Ak o9 K8.out aV aV
   have P9:Only (gx::(j.map (·.block)).toList) wr w9:=(P8.mono (fun k hk=> .inl (by simp only[ay];exact .inr hk))).then o9 bJ;have S9:=F9 (mP x wr w9 f n id gx b ((d.outs j O l):bK) (sealed K q) (d.outs a8 c8 (l++ [(⟨(k:Int),a6,l3,c6,B⟩:wN)])) (sealed K q)) ((Step.refl D.out).sent K9 O9 P9 u0.out);have R9:=jj (gH R8.out o9 K8.out aV);clear f0 o9 f8;go_wp2_with fail;go_roundw
   case rel=>exact⟨k+1,by go_num,aR,⟨a8,c8,l++ [⟨(k:Int),a6,l3,c6,B⟩],SW.trans S9.out,by rw[EZ,VV.out,FQ,if_neg s0];simp,by have:=LL.out;simp;omega⟩,R9.out⟩
   simp[intOf];omega
  have i1: ¬(k:Int)<3*f+1:=by have:=i0.out;omega
  obtain rfl:k=n:=aR;go_wp2_with fail;refine(oC f _ h1 h4).mono ?_;rintro e w' ⟨rfl,rfl⟩;have T9:=jj (T.step SW.out);have M9:=jj (M3.step H3.out SW.out);obtain⟨y0,y1,y2,y3,y4,y5,y6,y7,y8,y9⟩:=T9.blk.zA;clear r0 q0;go_wp2_with fail;refine(aee x wr f k id gx b _ (sealed K q) D.out ⟨kind,id,view,inst,S,r,I,N,M,bs,X,vn,Z,vs,P,R,Q,cs,V,W⟩ M9.out rfl o0.out hlen (tL (JG K q)) q HQ.out _ rfl).mono ?_;rintro e w9 ⟨rfl,i⟩;rw[OM] at i|-;have S9:=jj i;clear i y0 y1 y2 y3 y4 y5 y6 y7 y8 y9;go_wp2_with fail;go_ret2
  refine⟨by trivial,j,O,l,((((H.step B2.out).trans F.out).trans SW.out).trans S9.out),?_⟩;simp only[bK.val,VV.out]
theorem abo(x:Nat)(w:World)(E:Who)(gx b:Nat)(d:bK)(K:KS)(h:qE x w E.f E.n E.id gx b d K)(hx:x<w.heap.size)(c t r:Int)(K':KS)(v':ql)(a:Cz E c t r (K,d.val)=some (K',v')):
  Y 214 #[gx,U c,U t,U r] w fun e w'=>e=acK (ac2 #[])/\ ∃A c L,mP x w w' E.f E.n E.id gx b d K (d.outs A c L) K'/\(d.outs A c L).val=v':=by
 obtain⟨f,n,i⟩:=E;simp only at h|-;unfold Cz at a;simp only[aK] at a;obtain⟨u,hu,a⟩:=a;obtain⟨N,n0,o0⟩:=mI hu;obtain⟨M,Z⟩: ∃M:Ms,M=⟨10,i,0,c,t,r,[],[],[]⟩:=⟨_,rfl⟩;simp only[<-Z] at N a;obtain⟨q,hq⟩: ∃q:Int×List Int,q=((i:Int),dF M):=⟨_,rfl⟩;obtain⟨B,m⟩:=ex (mD (num (sealed K q) q).toNat++dF M);have T:(M.sender,dF M)=q:=by rw[hq,Z]
 have m0:K'=sealed K q/\v'={d.val with out:=d.val.out++ [(100+c,B)]}:=by rw[show((i:Int),dF M)=q from hq.symm,show FY (sealed K q) M=B by rw[m];unfold FY;rw[T]] at a;simp only[aM] at a;exact⟨a.1.symm,a.2.symm⟩
 obtain⟨rfl,rfl⟩:=m0;have R:Ev M:=N.ok;have hlen:(dF M).length<=65000:=N.len;have hK:K.length<1000000:=N.room;have p0:d.ol.length<=3000:=by have:=N.out;simpa[bK.val,uy] using this
 have z:=F9 (∀u,vC u d.nn b K->Y 64 #[acY #[U 10,U i,U 0,U c,U t,U r,(),(),(),()],d.nn] u fun e w'=> ∃a' c' l,e=acK (ac2 #[acX a' l c',true])/\B.length=l/\w'.ownsRow u.heap.size 5 1 (acX a' l c') l (mZ B)/\vC w' d.nn b (sealed K q)/\Only [b] u w') fun u hN=>by
  have e0:nA ⟨10,i,0,c,t,r,none,0,0,[],none,0,0,[],none,0,0,[],none,0⟩=M:=by rw[Z];rfl
  have:=UG u d.nn b K hN ⟨10,i,0,c,t,r,none,0,0,[],none,0,0,[],none,0,0,[],none,0⟩ ⟨qc.nil _ _ (show 0<=maxLen by unfold maxLen;omega),uz.nil _ _ (show 0<=maxLen by unfold maxLen;omega),(Gz.nil 0 _).vI⟩ (by rw[e0];exact R) (by rw[e0];exact hlen) aR;rw[e0] at this;simp only[show((i:Int),dF M)=q from hq.symm] at this;rw[<-m] at this;exact this
 clear a hu N T;obtain⟨H,HX,b0⟩:=j3 h hx m;have e3:IntKind.i64.wrap (100+c)=100+c:=aH _ aR;clear h m hx R Z hq;obtain⟨is,i0,j0,k0,l0⟩:=info_parts wD;have f0:=F9 (B.length<=65010) (by have:=(qz (num (sealed K q) q).toNat).2;rw[b0.out,av];omega);go_enter func214,ntmps214;go_upto_region 0 with fail;have KS:=F9 (∀u,Be w u->J u gx 15 (U i)/\J u gx 16 d.nn) fun u o=>⟨(H.below o).blk.cell 15,(H.below o).blk.cell 16⟩;refine rD (fun u=>J u gx 15 (U i)/\J u gx 16 d.nn) 18 (tk 0 12 (.one 12 (tk 13 5 .done))) (KS.out _ (aC _ _).drew) fun v2 B2 F=> ?_
 repeat refine' tT ?_
 refine pO fun KT bq=> ?_;go_simp;have H2:=jj (H.below B2);refine(z.out v2 H2.Pt).mono ?_;rintro e v ⟨a3,C,g,rfl,Q,V,P,o3⟩;have S:=F9 (mP x v2 v f n i gx b d K d (sealed K q)) ((Step.refl H2).Pt P o3);obtain⟨RW,L3,j⟩:=j3 V Q S.sys;have LB:=F9 (g<=65010) (VZ f0.out L3.out);clear V Q P o3;have S3:J v gx 15 (U i)/\J v gx 16 d.nn:=⟨j.blk.cell 15,j.blk.cell 16⟩;refine oH bq S3 ?_;clear F;have F:=S3
 repeat refine' tT ?_
 refine aU ?_;clear F;go_upto_region 2 with fail;have g0:=j.blk.at_ 34;obtain⟨v7,I⟩:=ex (v.alloc (.cells #[U (100+c),acX a3 g C] 179));obtain⟨g7,G⟩:=ex v.heap.size;obtain⟨O,X7⟩:=nw I G;have R7:=jj (own_below RW O);have d0:=jj I;have c0:=jj G;clear I G
 go_wp2_with(at_builtin;rw[<-d0.out,<-c0.out];refine fD rfl _ _ _ rfl 0 179 is _ 2 32 underlying109 i0 j0 k0 l0 rfl aR d.oa d.ol.length d.oc (d.ol.flatMap WB) (by rfl) (own_below j.out.out.own O) (some (adZ g7 0)) 1 1 (WB ⟨(100+c),a3,g,C,B⟩) (by rfl) (gD.nR (n:=1) (s:=2) X7 rfl) (fun u hu=>Ec [⟨(100+c),a3,g,C,B⟩] u (mR hu)) (by unfold maxLen;omega) aR (bF _) ?_;intro y D v8 X;refine Hid.out ?_)
 refine jj ?_;clear g0;have H7:=jj (j.below O);have SI:=F9 ((⟨(100+c),a3,g,C,B⟩:wN).Is x v7) ⟨fH R7,L3,Fixed.own R7 (aB HX B2.size),qB R7⟩;have O8:=jj (H7.out.out.more SI X);have P8:=F9 (Only (d.oa.map (·.block)).toList v v8) ((Only.of_below O).trans X.only);have a0:=F9 (∀k,y.map (·.block)=some k->d.oa.map (·.block)=some k\/v.heap.size<=k) fun k hk=>by
  rcases X.at_ k hk with h|h
  ·exact .inl h
  exact .inr (aG O.size h)
 have W:=jj (j.blk.only P8 (fun hm=>oJ j.out.out.own j.blk aV _ hm rfl));clear X;have h0:=W.at_ 34;have f8:=W.frozen 34;go_wp2_with fail;obtain⟨w9,p⟩:=ex (v8.setCell (adZ gx 34) (acX y (d.ol.length+1) D));rw[<-p];have o9:Only [gx] v8 w9:=by rw[p];exact(Only.refl [gx] _).setCell (.inl bJ) _
 have K9:aZ w9 gx 131 (yB f i (d.outs y D (d.ol++ [(⟨(100+c),a3,g,C,B⟩:wN)]))):=by rw[p,show yB f i (d.outs y D (d.ol++ [(⟨(100+c),a3,g,C,B⟩:wN)]))=(yB f i d).setIfInBounds 34 (acX y (d.ol.length+1) D) by simp[yB]];exact W.fU 34 _
 have O9:nJ x w9 y (d.ol++ [(⟨(100+c),a3,g,C,B⟩:wN)]).length D (d.ol++ [(⟨(100+c),a3,g,C,B⟩:wN)]):=by rw[av,List.length_singleton];exact O8.Ak o9 W aV aV
 have P9:Only (gx::(d.oa.map (·.block)).toList) v w9:=(P8.mono (fun k hk=> .inl (by simp only[ay];exact .inr hk))).then o9 bJ;have S9:=F9 (mP x v w9 f n i gx b d (sealed K q) (d.outs y D (d.ol++ [(⟨(100+c),a3,g,C,B⟩:wN)])) (sealed K q)) ((Step.refl j).sent K9 O9 P9 a0);clear p o9 f8 h0
 go_end0
 refine⟨by trivial,y,D,_,((H.step B2).trans S).trans S9,?_⟩;simp only[bK.val,EZ]
theorem yV(x:Nat)(w:World)(E:Who)(gx b:Nat)(d:bK)(K:KS)(h:qE x w E.f E.n E.id gx b d K)(hx:x<w.heap.size)(C:1<=E.f)(D:E.f<=4)(G:(E.n:Int)=3*E.f+1)(r:Rq)(o:KS)(V:ql)(a:Jy E r (K,d.val)=some (o,V)):
  Y 177 #[gx,acY (rA r).toArray] w fun e w'=>e=acK (ac2 #[])/\ ∃A c L,mP x w w' E.f E.n E.id gx b d K (d.outs A c L) o/\(d.outs A c L).val=V:=by
 unfold Jy at a;simp only[aK] at a;obtain⟨⟨⟨p,v⟩,z⟩,t,a⟩:=a;simp only[aM] at a;obtain⟨rfl,rfl⟩:=a;have H:=jj h;have m:=jj hx;have S:=F9 (∀u g,qE x u E.f E.n E.id gx b d K->x<u.heap.size->MF x u ⟨2,0,0,0,0,0,some (adZ g 0),1,1,[r],none,0,0,[],none,0,0,[],none,0⟩->Y 170 #[gx,acY #[U 2,U 0,U 0,U 0,U 0,U 0,O g 1 1,(),(),()]] u fun e w'=>e=acK (ac2 #[U z,true])/\ ∃A c L,mP x u w' E.f E.n E.id gx b d K (d.outs A c L) p/\(d.outs A c L).val=v) fun u g I j F=>GV x u E gx b d K I j C D G _ F p v z t;clear h t hx;obtain⟨R,J,M,N,P,Q⟩:=r;show Y 177 #[gx,acY #[U R,U J,U M,U N,U P,U Q]] w _;go_enter func177,ntmps177;go_upto_region 1 with fail;generalize hv1:w.alloc _=v;generalize hg1:w.heap.size=g1;replace hv1:=hv1.symm;replace hg1:=hg1.symm;obtain⟨l,y⟩:=nw hv1 hg1;clear hv1 hg1;obtain⟨T,W,Z,y3,y4,y5⟩:=y.a6;go_wp2_with fail;generalize hv2:v.alloc _=v2;generalize hg2:v.heap.size=g2;replace hv2:=hv2.symm;replace hg2:=hg2.symm;have B:=GN l hv2;have X:=xNew hv2 hg2;have GE:=F9 (x<g2) (by rw[hg2];exact aB m l.size);clear hv2 hg2 T W Z y3 y4 y5;refine(S.out v2 g2 (H.below B) (aB m B.size) ⟨⟨⟨gD.nR (n:=1) (s:=6) X rfl,rfl,aF _,show 1<=maxLen by unfold maxLen;omega⟩,fun k q=> ?_⟩,Ez.nil _ _,Gz.nil _ _⟩).mono ?_
 ·simp only[Option.map_some,aD] at q
  subst q;exact⟨by have:=GE.out;omega,_,X⟩
 rintro e w9 ⟨rfl,A,c,L,i,f⟩;go_wp2_with fail;go_end0
 exact⟨by trivial,A,c,L,(H.step B).trans i,f⟩
end Go.Proofs.YtgnhecmnlddjhaaGreat
