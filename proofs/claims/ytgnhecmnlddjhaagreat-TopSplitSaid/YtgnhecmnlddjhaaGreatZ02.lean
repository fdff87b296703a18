/- TopSplit, part 3 of 12: a proof squeezed by a program. -/
import Derived.Test.YtgnhecmnlddjhaaGreatZ01
import Derived.ScopeJumps
import Derived.DeepKeys4
import Derived.Maps.OwnSet
import Derived.Laws.BytesArg
import Derived.Deep.WholeRow
set_option linter.all false
set_option maxRecDepth 100000
set_option maxHeartbeats 6400000
namespace Go.Proofs.YtgnhecmnlddjhaaGreat
open Go.RowKit Go.Proofs.Tryz
variable{B c e g gg gr gw j k m n s t:Nat}{S:LN}{a:OA}{bs:LI}{v:Value}{w w' w0:World}{xs:LV}
theorem vW: ∀n:Nat,n<256->bits .and .u8 (n:Int) 127=((n%128:Nat):Int):=by decide+kernel
theorem zB(a b:Nat)(h:a|||b<9223372036854775808)(d:a<18446744073709551616)(e:b<18446744073709551616):
  bits .or .i64 (a:Int) (b:Int)=((a|||b:Nat):Int):=by
 have H:(BitVec.ofInt 64 (a:Int)).toNat=a:=by rw[kM,BitVec.toNat_ofNat];exact dJ aR
 have c:(BitVec.ofInt 64 (b:Int)).toNat=b:=by rw[kM,BitVec.toNat_ofNat];exact dJ aR
 show IntKind.i64.wrap ((BitVec.ofInt 64 (a:Int)|||BitVec.ofInt 64 (b:Int)).toNat:Int)=_;rw[BitVec.toNat_or,H,c];exact aH _ aR
theorem bor(a b s:Nat)(h:a<2^s)(H:a+b*2^s<1099511627776):bits .or .i64 (a:Int) ((b:Int)*2^s)=((a+b*2^s:Nat):Int):=by
 have e:=abu a b s h;rw[iL] at e;have E:(b:Int)*2^s=((b*2^s:Nat):Int):=by simp
 rw[E,zB a (b*2^s) (by rw[e];omega) aR aR,e]
theorem ajM(b:Nat)(h:b<256):bits .or .i64 0 (b:Int)=(b:Int):=by have:=zB 0 b (by simp;omega) aR aR;simpa using this
theorem lJ(a:OA)(l c:Nat)(bs:LI)(k:Nat)(n:Nat)(G:n<1099511627776)(hl:bs.length=l)(hm:l<=1048576)(w:World)(hv:gD w a l 1 (mZ bs))(a0:At bs k (mD n)):
  Y 153 #[acX a l c,U k] w fun e w'=>e=acK (ac2 #[U n,U ((k+(mD n).length:Nat):Int),true])/\w=w':=by
 have nl:=qz n;have V0:=a0.le aR;obtain⟨g,e0,rfl,hg,hc⟩:=hv.2 aR;have c0:=jj a0;have C:=F9 (∀j x,bs[j]?=some x->J w g (e0+j) (.int .u8 x)) fun j x hx=>hc j _ (by simp[mZ,hx]);have i1:(0:Int)<=k:=aR;have i2: ¬(k:Int)<0:=aR;clear a0 hc hv;go_enter func153,ntmps153;go_wp2_with fail;obtain⟨J0,hJ⟩: ∃J0:Act->World->Prop,J0=(fun a' w'=>w'=w/\ ∃(i d m v:Nat) (u2 u3 u7 u9 f0 g0 h0 i0 j0 k0 l0 m0 n0 o0 p0 q0 r0 s0 t0 u0 v0 w0 y0 A0 B0 C0 D0 E0 F0 G0 H0 I0 K0 L0 M0 N0 O0 P0 Q0 R0 S0 T0 U0:Value),1<=i/\i+d=5/\1<=m/\m<128^(d+1)/\At bs (k+i) (qo d m)/\v<2^(7*i)/\n=v+m*2^(7*i)/\(mD n).length=i+(qo d m).length/\a'={tmps:=#[acX (some (adZ g e0)) l c,U ((k+i:Nat):Int),u2,u3,U (v:Int),U 0,.bool false,u7,U ((7*i:Nat):Int),u9,f0,g0,h0,i0,j0,k0,l0,m0,n0,o0,p0,q0,r0,s0,t0,u0,v0,w0,y0,A0,B0,C0,D0,E0,F0,G0,H0,I0,K0,L0,M0,N0,O0,P0,Q0,R0,S0,T0,U0],defers:= []}):=⟨_,rfl⟩;have HJ:=jj hJ;clear hJ;refine wp_scope_jumps 1 J0 (fun a' _=>42 -(intOf (a'.tmps.getD 8 undef)).toNat) rfl ?_ ?_
 ·have i3: ¬(l:Int)<=k:=aR
  have i4:(k:Int)<l:=aR;have e1:IntKind.i64.wrap ((k:Int)+1)=(k:Int)+1:=aH _ aR;by_cases h:n<128
  ·have E:=F9 (mD n= [(n:Int)]) (uI 5 n h)
   have B:=C.out k (n:Int) (by have:=c0.out;rw[E.out] at this;exact this.head.1);have L:=F9 ((k+(mD n).length:Nat)=k+1) (by rw[E.out];rfl);obtain⟨x,hx⟩: ∃x:Int,x=(n:Int):=⟨_,rfl⟩;have HX:=jj hx;have X:bits .and .u8 x 127=x:=by rw[hx,vW n aR,dJ h]
   have I:bits .or .i64 0 x=x:=by rw[hx];exact ajM n aR
   rw[<-hx] at B;have M:0<=x:=aR;have N:x<128:=aR;clear hx h G;go_wp2_with fail;go_step3;go_wp2_with fail
   all_goals
    simp only[Exit.jump]
    go_ret3
    exact⟨by first|(rw[L.out,<-HX.out];rfl)|(rw[L.out,<-HX.out,‹x=0›];rfl),by trivial⟩
  have E:=F9 (mD n=((n%128+128:Nat):Int)::qo 4 (n/128)) (vQ 4 n aR);have A:=c0.out;rw[E.out] at A;obtain⟨O,P⟩:=A.head;have B:=C.out k _ O;have L:(mD n).length=1+(qo 4 (n/128)).length:=by rw[E.out,aY];omega
  obtain⟨x,hx⟩: ∃x:Int,x=((n%128+128:Nat):Int):=⟨_,rfl⟩;obtain⟨y,o⟩: ∃y:Int,y=((n%128:Nat):Int):=⟨_,rfl⟩;have HY:=jj o;have X:bits .and .u8 x 127=y:=by rw[hx,vW _ aR,o];congr 1;omega
  have I:bits .or .i64 0 y=y:=by rw[o];exact ajM _ aR
  rw[<-hx] at B;have M:128<=x:=aR;have N:x<256:=aR;have y2:0<=y:=aR;have y3:y<128:=aR;have F:=F9 (1<=n/128/\n/128<128^(4+1)/\At bs (k+1) (qo 4 (n/128))/\n%128<2^(7*1)/\n=n%128+n/128*2^(7*1)/\(mD n).length=1+(qo 4 (n/128)).length) ⟨aR,aR,P,aR,aR,L⟩;clear hx o h G;go_wp2_with fail;go_step3;go_wp2_with fail;go_step3
  refine dH rfl ?_;rw[HJ.out];obtain⟨S,T,W,Z,r5,r6⟩:=F.out;rw[HY.out];exact⟨rfl,1,4,n/128,n%128,_,_,_,_,_,_,_,_,_,_,_,_,_,_,_,_,_,_,_,_,_,_,_,_,_,_,_,_,_,_,_,_,_,_,_,_,_,_,_,_,_,_,_,aR,rfl,S,T,W,Z,r5,r6,rfl⟩
 rintro a' w' d0;rw[HJ.out] at d0;obtain⟨rfl,i,d,m,v,u2,u3,u7,u9,f0,g0,h0,i0,j0,k0,l0,m0,n0,o0,p0,q0,r0,s0,t0,u0,v0,w0,y0,A0,B0,C0,D0,E0,F0,G0,H0,I0,K0,L0,M0,N0,O0,P0,Q0,R0,S0,T0,U0,R,j2,j3,j4,j5,j6,r,s,rfl⟩:=d0;rcases(show i=1\/i=2\/i=3\/i=4\/i=5 by omega) with rfl|rfl|rfl|rfl|rfl
 ·have Q:((7*1:Nat):Int)=7:=rfl
  rw[Q];rw[show 2^(7*1)=128 from rfl] at j6 r;obtain⟨p,q⟩:=ex (k+1);rw[<-q] at j5|-;have t:=jj q;have pl:=j5.le (tL (qV d m));have kl:=qV d m;have i3: ¬(l:Int)<=p:=aR;have i4:(p:Int)<l:=aR;have i5:(0:Int)<=p:=aR;have e1:IntKind.i64.wrap ((p:Int)+1)=(p:Int)+1:=aH _ aR;clear q;by_cases h:m<128
  ·have E:=F9 (qo d m= [(m:Int)]) (uI _ m h)
   have A:=j5;rw[E.out] at A;have B:=C.out p _ A.head.1;have L:=F9 ((k+(mD n).length:Nat)=p+1) (by rw[s,E.out,t.out];simp<;>omega);obtain⟨x,hx⟩: ∃x:Int,x=(m:Int):=⟨_,rfl⟩;obtain⟨z,b⟩: ∃x:Int,x=(n:Int):=⟨_,rfl⟩;obtain⟨D,H⟩: ∃x:Int,x=(v:Int):=⟨_,rfl⟩;have u:=jj b;have X:bits .and .u8 x 127=x:=by rw[hx,vW m aR,dJ h]
   have I:bits .or .i64 D (x*128)=z:=by have e:=bor v m 7 j6 aR;rw[show(2:Int)^7=128 by decide,show 2^7=128 from rfl] at e;rw[H,hx,e,b,r]
   rw[<-hx] at B;rw[<-H];have M:0<=x:=aR;have N:x<128:=aR;have x4:x≠0:=aR;have z0:0<=z:=aR;have z1:z<1099511627776:=aR;clear hx h R j2 j3 j4 j5 j6 r s H b G;go_wp2_with fail;simp only[Exit.jump]
   go_ret3
   exact⟨by rw[L.out,<-u.out];rfl,by trivial⟩
  obtain⟨K,rfl⟩: ∃j,d=j+1:=⟨d -1,aR⟩;have E:=F9 (qo (K+1) m=((m%128+128:Nat):Int)::qo K (m/128)) (vQ K m aR);have A:=j5;rw[E.out] at A;obtain⟨O,P⟩:=A.head;have B:=C.out p _ O;have L:(mD n).length=2+(qo K (m/128)).length:=by rw[s,E.out,aY];omega
  obtain⟨x,hx⟩: ∃x:Int,x=((m%128+128:Nat):Int):=⟨_,rfl⟩;obtain⟨y,o⟩: ∃y:Int,y=((m%128:Nat):Int):=⟨_,rfl⟩;obtain⟨D,H⟩: ∃x:Int,x=(v:Int):=⟨_,rfl⟩;obtain⟨V,f⟩: ∃x:Nat,x=v+(m%128)*128:=⟨_,rfl⟩;obtain⟨z,b⟩: ∃x:Int,x=(V:Int):=⟨_,rfl⟩;have u:=jj b;have X:bits .and .u8 x 127=y:=by rw[hx,vW _ aR,o];congr 1;omega
  have I:bits .or .i64 D (y*128)=z:=by have e:=bor v (m%128) 7 j6 aR;rw[show(2:Int)^7=128 by decide,show 2^7=128 from rfl] at e;rw[H,o,e,b,f]
  rw[<-hx] at B;rw[<-H];have M:128<=x:=aR;have N:x<256:=aR;have y2:0<=y:=aR;have y3:y<128:=aR;have F:=F9 (1<=m/128/\m/128<128^(K+1)/\At bs (k+2) (qo K (m/128))/\V<2^(7*2)/\n=V+m/128*2^(7*2)/\(mD n).length=2+(qo K (m/128)).length/\2+K=5) ⟨aR,by rw[eB aR];rw[iK] at j4;exact j4,by rw[show k+2=p+1 by rw[t.out]];exact P,by rw[show 2^(7*2)=16384 from rfl];omega,by rw[show 2^(7*2)=16384 from rfl];omega,L,aR⟩
  have PE:=F9 ((p:Int)+1=((k+2:Nat):Int)) (by rw[t.out];omega);clear hx o H f b h R j2 j3 j4 j5 j6 r s G;go_wp2_with fail;go_step3
  refine dH rfl (dH ?_ (by simp[intOf]));rw[HJ.out];obtain⟨S,T,W,Z,r5,r6,r7⟩:=F.out;rw[PE.out,u.out];exact⟨rfl,2,K,m/128,V,_,_,_,_,_,_,_,_,_,_,_,_,_,_,_,_,_,_,_,_,_,_,_,_,_,_,_,_,_,_,_,_,_,_,_,_,_,_,_,_,_,_,_,aR,r7,S,T,W,Z,r5,r6,rfl⟩
 ·have Q:((7*2:Nat):Int)=14:=rfl
  rw[Q];rw[show 2^(7*2)=16384 from rfl] at j6 r;obtain⟨p,q⟩:=ex (k+2);rw[<-q] at j5|-;have t:=jj q;have pl:=j5.le (tL (qV d m));have kl:=qV d m;have i3: ¬(l:Int)<=p:=aR;have i4:(p:Int)<l:=aR;have i5:(0:Int)<=p:=aR;have e1:IntKind.i64.wrap ((p:Int)+1)=(p:Int)+1:=aH _ aR;clear q;by_cases h:m<128
  ·have E:=F9 (qo d m= [(m:Int)]) (uI _ m h)
   have A:=j5;rw[E.out] at A;have B:=C.out p _ A.head.1;have L:=F9 ((k+(mD n).length:Nat)=p+1) (by rw[s,E.out,t.out];simp<;>omega);obtain⟨x,hx⟩: ∃x:Int,x=(m:Int):=⟨_,rfl⟩;obtain⟨z,b⟩: ∃x:Int,x=(n:Int):=⟨_,rfl⟩;obtain⟨D,H⟩: ∃x:Int,x=(v:Int):=⟨_,rfl⟩;have u:=jj b;have X:bits .and .u8 x 127=x:=by rw[hx,vW m aR,dJ h]
   have I:bits .or .i64 D (x*16384)=z:=by have e:=bor v m 14 j6 aR;rw[show(2:Int)^14=16384 by decide,show 2^14=16384 from rfl] at e;rw[H,hx,e,b,r]
   rw[<-hx] at B;rw[<-H];have M:0<=x:=aR;have N:x<128:=aR;have x4:x≠0:=aR;have z0:0<=z:=aR;have z1:z<1099511627776:=aR;clear hx h R j2 j3 j4 j5 j6 r s H b G;go_wp2_with fail;simp only[Exit.jump]
   go_ret3
   exact⟨by rw[L.out,<-u.out];rfl,by trivial⟩
  obtain⟨K,rfl⟩: ∃j,d=j+1:=⟨d -1,aR⟩;have E:=F9 (qo (K+1) m=((m%128+128:Nat):Int)::qo K (m/128)) (vQ K m aR);have A:=j5;rw[E.out] at A;obtain⟨O,P⟩:=A.head;have B:=C.out p _ O;have L:(mD n).length=3+(qo K (m/128)).length:=by rw[s,E.out,aY];omega
  obtain⟨x,hx⟩: ∃x:Int,x=((m%128+128:Nat):Int):=⟨_,rfl⟩;obtain⟨y,o⟩: ∃y:Int,y=((m%128:Nat):Int):=⟨_,rfl⟩;obtain⟨D,H⟩: ∃x:Int,x=(v:Int):=⟨_,rfl⟩;obtain⟨V,f⟩: ∃x:Nat,x=v+(m%128)*16384:=⟨_,rfl⟩;obtain⟨z,b⟩: ∃x:Int,x=(V:Int):=⟨_,rfl⟩;have u:=jj b;have X:bits .and .u8 x 127=y:=by rw[hx,vW _ aR,o];congr 1;omega
  have I:bits .or .i64 D (y*16384)=z:=by have e:=bor v (m%128) 14 j6 aR;rw[show(2:Int)^14=16384 by decide,show 2^14=16384 from rfl] at e;rw[H,o,e,b,f]
  rw[<-hx] at B;rw[<-H];have M:128<=x:=aR;have N:x<256:=aR;have y2:0<=y:=aR;have y3:y<128:=aR;have F:=F9 (1<=m/128/\m/128<128^(K+1)/\At bs (k+3) (qo K (m/128))/\V<2^(7*3)/\n=V+m/128*2^(7*3)/\(mD n).length=3+(qo K (m/128)).length/\3+K=5) ⟨aR,by rw[eB aR];rw[iK] at j4;exact j4,by rw[show k+3=p+1 by rw[t.out]];exact P,by rw[show 2^(7*3)=2097152 from rfl];omega,by rw[show 2^(7*3)=2097152 from rfl];omega,L,aR⟩
  have PE:=F9 ((p:Int)+1=((k+3:Nat):Int)) (by rw[t.out];omega);clear hx o H f b h R j2 j3 j4 j5 j6 r s G;go_wp2_with fail;go_step3
  refine dH rfl (dH ?_ (by simp[intOf]));rw[HJ.out];obtain⟨S,T,W,Z,r5,r6,r7⟩:=F.out;rw[PE.out,u.out];exact⟨rfl,3,K,m/128,V,_,_,_,_,_,_,_,_,_,_,_,_,_,_,_,_,_,_,_,_,_,_,_,_,_,_,_,_,_,_,_,_,_,_,_,_,_,_,_,_,_,_,_,aR,r7,S,T,W,Z,r5,r6,rfl⟩
 ·have Q:((7*3:Nat):Int)=21:=rfl
  rw[Q];rw[show 2^(7*3)=2097152 from rfl] at j6 r;obtain⟨p,q⟩:=ex (k+3);rw[<-q] at j5|-;have t:=jj q;have pl:=j5.le (tL (qV d m));have kl:=qV d m;have i3: ¬(l:Int)<=p:=aR;have i4:(p:Int)<l:=aR;have i5:(0:Int)<=p:=aR;have e1:IntKind.i64.wrap ((p:Int)+1)=(p:Int)+1:=aH _ aR;clear q;by_cases h:m<128
  ·have E:=F9 (qo d m= [(m:Int)]) (uI _ m h)
   have A:=j5;rw[E.out] at A;have B:=C.out p _ A.head.1;have L:=F9 ((k+(mD n).length:Nat)=p+1) (by rw[s,E.out,t.out];simp<;>omega);obtain⟨x,hx⟩: ∃x:Int,x=(m:Int):=⟨_,rfl⟩;obtain⟨z,b⟩: ∃x:Int,x=(n:Int):=⟨_,rfl⟩;obtain⟨D,H⟩: ∃x:Int,x=(v:Int):=⟨_,rfl⟩;have u:=jj b;have X:bits .and .u8 x 127=x:=by rw[hx,vW m aR,dJ h]
   have I:bits .or .i64 D (x*2097152)=z:=by have e:=bor v m 21 j6 aR;rw[show(2:Int)^21=2097152 by decide,show 2^21=2097152 from rfl] at e;rw[H,hx,e,b,r]
   rw[<-hx] at B;rw[<-H];have M:0<=x:=aR;have N:x<128:=aR;have x4:x≠0:=aR;have z0:0<=z:=aR;have z1:z<1099511627776:=aR;clear hx h R j2 j3 j4 j5 j6 r s H b G;go_wp2_with fail;simp only[Exit.jump]
   go_ret3
   exact⟨by rw[L.out,<-u.out];rfl,by trivial⟩
  obtain⟨K,rfl⟩: ∃j,d=j+1:=⟨d -1,aR⟩;have E:=F9 (qo (K+1) m=((m%128+128:Nat):Int)::qo K (m/128)) (vQ K m aR);have A:=j5;rw[E.out] at A;obtain⟨O,P⟩:=A.head;have B:=C.out p _ O;have L:(mD n).length=4+(qo K (m/128)).length:=by rw[s,E.out,aY];omega
  obtain⟨x,hx⟩: ∃x:Int,x=((m%128+128:Nat):Int):=⟨_,rfl⟩;obtain⟨y,o⟩: ∃y:Int,y=((m%128:Nat):Int):=⟨_,rfl⟩;obtain⟨D,H⟩: ∃x:Int,x=(v:Int):=⟨_,rfl⟩;obtain⟨V,f⟩: ∃x:Nat,x=v+(m%128)*2097152:=⟨_,rfl⟩;obtain⟨z,b⟩: ∃x:Int,x=(V:Int):=⟨_,rfl⟩;have u:=jj b;have X:bits .and .u8 x 127=y:=by rw[hx,vW _ aR,o];congr 1;omega
  have I:bits .or .i64 D (y*2097152)=z:=by have e:=bor v (m%128) 21 j6 aR;rw[show(2:Int)^21=2097152 by decide,show 2^21=2097152 from rfl] at e;rw[H,o,e,b,f]
  rw[<-hx] at B;rw[<-H];have M:128<=x:=aR;have N:x<256:=aR;have y2:0<=y:=aR;have y3:y<128:=aR;have F:=F9 (1<=m/128/\m/128<128^(K+1)/\At bs (k+4) (qo K (m/128))/\V<2^(7*4)/\n=V+m/128*2^(7*4)/\(mD n).length=4+(qo K (m/128)).length/\4+K=5) ⟨aR,by rw[eB aR];rw[iK] at j4;exact j4,by rw[show k+4=p+1 by rw[t.out]];exact P,by rw[show 2^(7*4)=268435456 from rfl];omega,by rw[show 2^(7*4)=268435456 from rfl];omega,L,aR⟩
  have PE:=F9 ((p:Int)+1=((k+4:Nat):Int)) (by rw[t.out];omega);clear hx o H f b h R j2 j3 j4 j5 j6 r s G;go_wp2_with fail;go_step3
  refine dH rfl (dH ?_ (by simp[intOf]));rw[HJ.out];obtain⟨S,T,W,Z,r5,r6,r7⟩:=F.out;rw[PE.out,u.out];exact⟨rfl,4,K,m/128,V,_,_,_,_,_,_,_,_,_,_,_,_,_,_,_,_,_,_,_,_,_,_,_,_,_,_,_,_,_,_,_,_,_,_,_,_,_,_,_,_,_,_,_,aR,r7,S,T,W,Z,r5,r6,rfl⟩
 ·have Q:((7*4:Nat):Int)=28:=rfl
  rw[Q];rw[show 2^(7*4)=268435456 from rfl] at j6 r;obtain⟨p,q⟩:=ex (k+4);rw[<-q] at j5|-;have t:=jj q;have pl:=j5.le (tL (qV d m));have kl:=qV d m;have i3: ¬(l:Int)<=p:=aR;have i4:(p:Int)<l:=aR;have i5:(0:Int)<=p:=aR;have e1:IntKind.i64.wrap ((p:Int)+1)=(p:Int)+1:=aH _ aR;clear q;by_cases h:m<128
  ·have E:=F9 (qo d m= [(m:Int)]) (uI _ m h)
   have A:=j5;rw[E.out] at A;have B:=C.out p _ A.head.1;have L:=F9 ((k+(mD n).length:Nat)=p+1) (by rw[s,E.out,t.out];simp<;>omega);obtain⟨x,hx⟩: ∃x:Int,x=(m:Int):=⟨_,rfl⟩;obtain⟨z,b⟩: ∃x:Int,x=(n:Int):=⟨_,rfl⟩;obtain⟨D,H⟩: ∃x:Int,x=(v:Int):=⟨_,rfl⟩;have u:=jj b;have X:bits .and .u8 x 127=x:=by rw[hx,vW m aR,dJ h]
   have I:bits .or .i64 D (x*268435456)=z:=by have e:=bor v m 28 j6 aR;rw[show(2:Int)^28=268435456 by decide,show 2^28=268435456 from rfl] at e;rw[H,hx,e,b,r]
   rw[<-hx] at B;rw[<-H];have M:0<=x:=aR;have N:x<128:=aR;have x4:x≠0:=aR;have z0:0<=z:=aR;have z1:z<1099511627776:=aR;clear hx h R j2 j3 j4 j5 j6 r s H b G;go_wp2_with fail;simp only[Exit.jump]
   go_ret3
   exact⟨by rw[L.out,<-u.out];rfl,by trivial⟩
  obtain⟨K,rfl⟩: ∃j,d=j+1:=⟨d -1,aR⟩;have E:=F9 (qo (K+1) m=((m%128+128:Nat):Int)::qo K (m/128)) (vQ K m aR);have A:=j5;rw[E.out] at A;obtain⟨O,P⟩:=A.head;have B:=C.out p _ O;have L:(mD n).length=5+(qo K (m/128)).length:=by rw[s,E.out,aY];omega
  obtain⟨x,hx⟩: ∃x:Int,x=((m%128+128:Nat):Int):=⟨_,rfl⟩;obtain⟨y,o⟩: ∃y:Int,y=((m%128:Nat):Int):=⟨_,rfl⟩;obtain⟨D,H⟩: ∃x:Int,x=(v:Int):=⟨_,rfl⟩;obtain⟨V,f⟩: ∃x:Nat,x=v+(m%128)*268435456:=⟨_,rfl⟩;obtain⟨z,b⟩: ∃x:Int,x=(V:Int):=⟨_,rfl⟩;have u:=jj b;have X:bits .and .u8 x 127=y:=by rw[hx,vW _ aR,o];congr 1;omega
  have I:bits .or .i64 D (y*268435456)=z:=by have e:=bor v (m%128) 28 j6 aR;rw[show(2:Int)^28=268435456 by decide,show 2^28=268435456 from rfl] at e;rw[H,o,e,b,f]
  rw[<-hx] at B;rw[<-H];have M:128<=x:=aR;have N:x<256:=aR;have y2:0<=y:=aR;have y3:y<128:=aR;have F:=F9 (1<=m/128/\m/128<128^(K+1)/\At bs (k+5) (qo K (m/128))/\V<2^(7*5)/\n=V+m/128*2^(7*5)/\(mD n).length=5+(qo K (m/128)).length/\5+K=5) ⟨aR,by rw[eB aR];rw[iK] at j4;exact j4,by rw[show k+5=p+1 by rw[t.out]];exact P,by rw[show 2^(7*5)=34359738368 from rfl];omega,by rw[show 2^(7*5)=34359738368 from rfl];omega,L,aR⟩
  have PE:=F9 ((p:Int)+1=((k+5:Nat):Int)) (by rw[t.out];omega);clear hx o H f b h R j2 j3 j4 j5 j6 r s G;go_wp2_with fail;go_step3
  refine dH rfl (dH ?_ (by simp[intOf]));rw[HJ.out];obtain⟨S,T,W,Z,r5,r6,r7⟩:=F.out;rw[PE.out,u.out];exact⟨rfl,5,K,m/128,V,_,_,_,_,_,_,_,_,_,_,_,_,_,_,_,_,_,_,_,_,_,_,_,_,_,_,_,_,_,_,_,_,_,_,_,_,_,_,_,_,_,_,_,aR,r7,S,T,W,Z,r5,r6,rfl⟩
 have Q:((7*5:Nat):Int)=35:=rfl;rw[Q];rw[show 2^(7*5)=34359738368 from rfl] at j6 r;obtain⟨p,q⟩:=ex (k+5);rw[<-q] at j5|-;have t:=jj q;have pl:=j5.le (tL (qV d m));have kl:=qV d m;have i3: ¬(l:Int)<=p:=aR;have i4:(p:Int)<l:=aR;have i5:(0:Int)<=p:=aR;have e1:IntKind.i64.wrap ((p:Int)+1)=(p:Int)+1:=aH _ aR;clear q;by_cases h:m<128
 ·have E:=F9 (qo d m= [(m:Int)]) (uI _ m h)
  have A:=j5;rw[E.out] at A;have B:=C.out p _ A.head.1;have L:=F9 ((k+(mD n).length:Nat)=p+1) (by rw[s,E.out,t.out];simp<;>omega);obtain⟨x,hx⟩: ∃x:Int,x=(m:Int):=⟨_,rfl⟩;obtain⟨z,b⟩: ∃x:Int,x=(n:Int):=⟨_,rfl⟩;obtain⟨D,H⟩: ∃x:Int,x=(v:Int):=⟨_,rfl⟩;have u:=jj b;have X:bits .and .u8 x 127=x:=by rw[hx,vW m aR,dJ h]
  have I:bits .or .i64 D (x*34359738368)=z:=by have e:=bor v m 35 j6 aR;rw[show(2:Int)^35=34359738368 by decide,show 2^35=34359738368 from rfl] at e;rw[H,hx,e,b,r]
  rw[<-hx] at B;rw[<-H];have M:0<=x:=aR;have N:x<128:=aR;have x4:x≠0:=aR;have z0:0<=z:=aR;have z1:z<1099511627776:=aR;clear hx h R j2 j3 j4 j5 j6 r s H b G;go_wp2_with fail;simp only[Exit.jump]
  go_ret3
  exact⟨by rw[L.out,<-u.out];rfl,by trivial⟩
 have:d=0:=aR;subst this;exact absurd j4 aR
theorem dx{base:Nat}(h:w.ownsRow base e s (acX a n c) n xs): ∀k∈(a.map (·.block)).toList,base<=k/\ ∃cs,aZ w k e cs:=by
 intro k i;have H:a.map (·.block)=some k:=aJ.1 i;refine⟨(dG h k (by rw[dQ];exact H)).1,?_⟩;rcases h.2 with⟨b,_⟩|⟨g,d,C,b,_,f,_⟩
 ·injection b with b
  subst b;cases H
 injection b with b;subst b;simp at H;subst H;exact⟨C,f⟩
structure xY(w w':World):Prop where
 blk: ∀{k t:Nat} {cs:AV},aZ w k t cs->t≠305->t≠5->aZ w' k t cs
 size:w.heap.size<=w'.heap.size
theorem xY.refl(w:World):xY w w:=⟨fun h _ _=>h,aF _⟩
theorem xY.trans{w'':World}(h:xY w w')(k:xY w' w''):xY w w'':=⟨fun b H a=>k.blk (h.blk b H a) H a,aG h.size k.size⟩
theorem xY.below(h:Be w w'):xY w w':=⟨fun H _ _=>H.below h H.lt,h.size⟩
structure Wr(w0 w:World)(gw:Nat)(bs:LI):Prop where
 ex: ∃a c,aZ w gw 305 #[acX a bs.length c,false]/\w.ownsRow w0.heap.size 5 1 (acX a bs.length c) bs.length (mZ bs)
 below:Be w0 w
 ge:w0.heap.size<=gw
theorem Wr.keep(h:Wr w0 w gw bs)(H:Be w w'):Wr w0 w' gw bs:=by obtain⟨a,c,b,d⟩:=h.ex;exact⟨⟨a,c,b.below H b.lt,own_below d H⟩,h.below.trans (H.mono h.below.size),h.ge⟩
theorem acG(h:Wr w0 w gw bs)(A:OA)(m c:Nat)(y:LI)(G:gD w A m 1 (mZ y))(l:y.length=m)(hl:bs.length+m<=4194304):
  Y 272 #[gw,acX A m c,true] w fun e w'=>e=acK (ac2 #[])/\Wr w0 w' gw (bs++y)/\xY w w':=by
 obtain⟨i0,E,I,J,L⟩:=info_parts wU;obtain⟨a,C,f,p⟩:=h.ex;have c1:=f.at_ 1;have f1:=f.frozen 1;have b:aZ (w.setCell (adZ gw 1) false) gw 305 #[acX a bs.length C,false]:=f.fU 1 _;obtain⟨w1,H⟩:=ex (w.setCell (adZ gw 1) false);have o1:Only [gw] w w1:=by rw[H];exact(Only.refl [gw] w).setCell (.inl bJ) _
 have O:w1.ownsRow w0.heap.size 5 1 (acX a bs.length C) bs.length (mZ bs):=mK p o1 (fun g j=>by have:=mG p f aV;rw[j] at this;simpa using fun e=>this (by rw[e]))
 rw[<-H] at b;have N:=jj b;have u:=jj O;have B:Be w0 w1:=o1.below h.below h.below.size (mR h.ge);have r:gD w1 A m 1 (mZ y):=by
  refine⟨G.1,fun hn=> ?_⟩;obtain⟨g,M,e,F,U⟩:=G.2 hn;refine⟨g,M,e,by rw[H];simpa using F,fun i v V=> ?_⟩;by_cases j:g=gw
  ·subst j
   have:=U i v V;rw[f.cell] at this;rw[b.cell];exact this
  rw[H];exact nL (U i v V) j
 have V1:=jj r;have x0:=b.at_ 0;obtain⟨HM,K,P,BB,GE⟩:=j5 l f o1 B h.ge;have Z:=B.size;have HW:=jj H;have B0:=jj h.below;clear h f p b O G r l o1 B H;go_enter func272,ntmps272;go_upto_region 1 with fail;rw[<-HW.out];clear c1 f1
 go_wp2_with(first|(at_builtin;refine fD rfl _ _ _ rfl w0.heap.size 5 i0 _ 1 1 underlying140 E I J L rfl aR a bs.length C (mZ bs) rfl u A m c (mZ y) rfl V1 (yh y) (by unfold maxLen;omega) aR Z ?_;intro a5 R w5 z;have X: ∀k∈(a.map (·.block)).toList,k≠gw:=(fun k hk e=>mG u N aV (by rw[dQ,aJ.1 hk,e]));have s:=N.only z.only (fun l=>X gw l rfl);have n:=jj s;have f0:=s.frozen 0;have y0:=(s.cell 0).trans (show _=some (acX a bs.length C) from rfl);have d:=jj z;clear s z))
 clear f0 y0 x0 X
 go_end0
 have S:(bs++y).length=bs.length+m:=by rw[av,HM.out]
 have x:Only [gw] w5 (w5.setCell (adZ gw 0) (acX a5 (bs.length+m) R)):=(Only.refl _ _).setCell (.inl bJ) _;have Q:=d.below u BB (aF _) Z;have o:=d.own;rw[<-wR] at o;have S5:=dx u;refine⟨by trivial,⟨⟨a5,R,by rw[S];exact n.fU 0 _,?_⟩,x.below Q Q.size (mR GE.out),GE⟩,⟨fun{k t cs} T f p=> ?_,aG P.size (aG d.only.size x.size)⟩⟩
 ·rw[S]
  exact mK o x (fun g j=>by have:=mG o n aV;rw[j] at this;simpa using fun e=>this (by rw[e]))
 have W:k≠gw:=T.nY K f;have q:=T.only P (mR W);refine(q.only d.only fun l=> ?_).only x (mR W);obtain⟨_,a0,D⟩:=S5 _ l;exact q.nY D p rfl
def qp(l:LI):List Int:=l.flatMap fun z=>mD z.toNat
def zG(l:LI):List Int:=l.flatMap vg
theorem rW(l:LI):(qp l).length<=6*l.length:=by
 induction l with
 |nil=>simp[qp]
 |cons z l ih=>
  have:=nK z.toNat;simp only[qp,bQ,av,aY] at*;omega
theorem Na(l:LI):(zG l).length<=6*l.length:=by
 induction l with
 |nil=>simp[zG]
 |cons z l ih=>
  have:=nK (zig z);simp only[zG,bQ,av,aY,vg] at*;omega
theorem Ah(h:Wr w0 w gw bs)(ga n c:Nat)(l:LI)(s:aZ w ga 3 (ints l))(t:l.length=n)(g: ∀z∈l,qh z)(N:bs.length+6*n<=4194304):
  Y 241 #[gw,O ga n c] w fun e w'=>e= .returned (.tuple #[])/\Wr w0 w' gw (bs++qp l)/\xY w w':=by
 obtain⟨H,x,r,y⟩:=j4 h s t g;clear h s t g;go_enter func241,ntmps241;go_wp2_with fail;go_loopw [8] (fun i wr=> ∃k:Nat,k<=n/\i= U k/\Wr w0 wr gw (bs++qp (l.take k))/\xY w wr) (fun i _=>n -(intOf i).toNat)
 case atStart=>exact⟨0,aR,rfl,by simpa[qp] using H.out,xY.refl _⟩
 case round=>
  obtain⟨k,M,rfl,v,d⟩:=hrel;obtain⟨G,rfl⟩:=ex wr;have m:=jj v;have K:=jj d;clear v d;by_cases q:k<n
  ·have a:k<l.length:=by rw[r.out];exact q
   have P:(0:Int)<=k:=aR;have Q:(k:Int)<n:=aR;obtain⟨z,j⟩:=ex l[k];have F:J G ga k (U z):=by rw[(K.blk x aV aV).cell];simp[ints,a,j]
   have Z:=jj (y.out z (by rw[j];exact bY a));have T:=F9 (qp (l.take (k+1))=qp (l.take k)++mD z.toNat) (by rw[bA a,<-j];simp[qp])
   have I:(bs++qp (l.take k)).length+6<=4194304:=by have:=rW (l.take k);rw[av];rw[cO] at this;omega
   have L:IntKind.i64.wrap ((k:Int)+1)=(k:Int)+1:=aH _ aR;clear j a;go_wp2_with fail;refine(uX z Z _).mono ?_;rintro e R ⟨a2,D,rfl,u,o⟩;have W:=jj (m.keep o);have V:=jj (fH u);have A:=jj (K.trans (xY.below o));clear u o F;go_wp2_with fail;refine(acG W a2 _ D _ V rfl (tL (nK z.toNat))).mono ?_;rintro e S ⟨rfl,b,f⟩;rw[bW,<-T.out] at b;have C:=jj b;have B:=jj (A.trans f);clear b f;go_wp2_with fail;go_roundw
   case rel=>exact⟨k+1,aR,by go_num,C,B⟩
   simp[intOf];omega
  have p:k=n:=aR;subst p;have E:=F9 (l.take k=l) (by rw[<-r.out];exact dP);go_wp2_with fail;go_end0
  rw[E.out] at m;exact⟨by trivial,m,K⟩
theorem ahL(h:Wr w0 w gw bs)(ga n c:Nat)(l:LI)(s:aZ w ga 3 (ints l))(t:l.length=n)(g: ∀z∈l,wP z)(N:bs.length+6*n<=4194304):
  Y 242 #[gw,O ga n c] w fun e w'=>e= .returned (.tuple #[])/\Wr w0 w' gw (bs++zG l)/\xY w w':=by
 obtain⟨H,x,r,y⟩:=j4 h s t g;clear h s t g;go_enter func242,ntmps242;go_wp2_with fail;go_loopw [8] (fun i wr=> ∃k:Nat,k<=n/\i= U k/\Wr w0 wr gw (bs++zG (l.take k))/\xY w wr) (fun i _=>n -(intOf i).toNat)
 case atStart=>exact⟨0,aR,rfl,by simpa[zG] using H.out,xY.refl _⟩
 case round=>
  obtain⟨k,M,rfl,v,d⟩:=hrel;obtain⟨G,rfl⟩:=ex wr;have m:=jj v;have K:=jj d;clear v d;by_cases q:k<n
  ·have a:k<l.length:=by rw[r.out];exact q
   have P:(0:Int)<=k:=aR;have Q:(k:Int)<n:=aR;obtain⟨z,j⟩:=ex l[k];have F:J G ga k (U z):=by rw[(K.blk x aV aV).cell];simp[ints,a,j]
   have Z:=jj (y.out z (by rw[j];exact bY a));have T:=F9 (zG (l.take (k+1))=zG (l.take k)++vg z) (by rw[bA a,<-j];simp[zG])
   have I:(bs++zG (l.take k)).length+6<=4194304:=by have:=Na (l.take k);rw[av];rw[cO] at this;omega
   have L:IntKind.i64.wrap ((k:Int)+1)=(k:Int)+1:=aH _ aR;clear j a;go_wp2_with fail;refine(Rs z Z _).mono ?_;rintro e R ⟨a2,D,rfl,u,o⟩;have W:=jj (m.keep o);have V:=jj (fH u);have A:=jj (K.trans (xY.below o));clear u o F;go_wp2_with fail;refine(acG W a2 _ D _ V rfl (by have:=nK (zig z);unfold vg;omega)).mono ?_;rintro e S ⟨rfl,b,f⟩;rw[bW,<-T.out] at b;have C:=jj b;have B:=jj (A.trans f);clear b f;go_wp2_with fail;go_roundw
   case rel=>exact⟨k+1,aR,by go_num,C,B⟩
   simp[intOf];omega
  have p:k=n:=aR;subst p;have E:=F9 (l.take k=l) (by rw[<-r.out];exact dP);go_wp2_with fail;go_end0
  rw[E.out] at m;exact⟨by trivial,m,K⟩
theorem abN(r:Rq):(oK r).length<=36:=by have h:=nK r.1.toNat;have H:=nK r.2.1.toNat;have a:=nK r.2.2.1.toNat;have b:=nK (zig r.2.2.2.1);have c:=nK (zig r.2.2.2.2.1);have d:=nK r.2.2.2.2.2.toNat;simp only[oK,vg,av];omega
theorem aeU(v:Vo):(uQ v).length<=12:=by have h:=nK v.1.toNat;have H:=nK v.2.toNat;simp only[uQ,av];omega
theorem Iq(h:Wr w0 w gw bs):
  Y 188 #[gw] w fun e w'=> ∃a c,e=acK (ac2 #[acX a bs.length c,true])/\w.ownsRow w0.heap.size 5 1 (acX a bs.length c) bs.length (mZ bs)/\w=w':=by
 obtain⟨a,c,H,b⟩:=h.ex;obtain⟨C,f⟩:=H.a2;have d:=jj b;clear h H b;go_enter func188,ntmps188;go_wp2_with fail;go_ret2
 exact⟨a,c,by trivial,d,by trivial⟩
theorem acH(h:Wr w0 w gw bs)(r:Rq)(G:xH r)(M:bs.length+36<=4194304):
  Y 187 #[gw,acY (rA r).toArray] w fun e w'=>e=acK (ac2 #[])/\Wr w0 w' gw (bs++oK r)/\xY w w':=by
 obtain⟨R,j,k,l,m,n⟩:=r;obtain⟨Q,O,P,S,T,V⟩:=G;have E:=F9 (((bs++qp [R,j,k])++zG [l,m])++qp [n]=bs++oK (R,j,k,l,m,n)) (by simp[qp,zG,oK]);have N:=rW [R,j,k];have I:=Na [l,m];simp only[aY,dK] at N I;show Y 187 #[gw,acY #[U R,U j,U k,U l,U m,U n]] w _;go_enter func187,ntmps187;go_upto_region 1 with fail;generalize hw1:w.alloc _=w1;generalize hgb:w.heap.size=gb;replace hw1:=hw1.symm;replace hgb:=hgb.symm;have H:=(tQ hw1).out;have B:=xNew hw1 hgb;have A:=jj (h.keep H);have K:=jj (xY.below H);obtain⟨D,p,q,s,t,u⟩:=B.a6;clear hw1 hgb H h;go_wp2_with fail;refine(Ah (A.keep nC) w1.heap.size 3 3 [R,j,k] (aZ.new _ _ _) rfl (by simp only[ay,aI,or_false];rintro z (rfl|rfl|rfl)<;>assumption) aR).mono ?_;rintro e J ⟨rfl,f,a⟩;have C:=jj f;have v:=jj ((K.trans (xY.below nC)).trans a);have c:=jj (a.blk (aZ.alloc B _) aV aV);obtain⟨D,p,q,s,t,u⟩:=c.a6;clear f a;go_wp2_with fail;refine(ahL (C.keep nC) J.heap.size 2 2 [l,m] (aZ.new _ _ _) rfl (by simp only[ay,aI,or_false];rintro z (rfl|rfl)<;>assumption) (by rw[av];omega)).mono ?_;rintro e L ⟨rfl,g,b⟩;have F:=jj g;have x:=jj ((v.trans (xY.below nC)).trans b);have o:=jj (b.blk (aZ.alloc c _) aV aV);obtain⟨D,p,q,s,t,u⟩:=o.a6;clear g b;go_wp2_with fail;refine(Ah (F.keep nC) L.heap.size 1 1 [n] (aZ.new _ _ _) rfl (by simp only[ay,aI,or_false];rintro z rfl<;>assumption) (by rw[av,av];omega)).mono ?_;rintro e X ⟨rfl,i,d⟩;have W:=jj i;have y:=jj ((x.trans (xY.below nC)).trans d);clear i d;go_wp2_with fail;go_end0
 rw[E.out] at W;exact⟨by trivial,W,y⟩
theorem ae0(h:Wr w0 w gw bs)(v:Vo)(i:Kv v)(m:bs.length+36<=4194304):
  Y 190 #[gw,acY (Cg v).toArray] w fun e w'=>e=acK (ac2 #[])/\Wr w0 w' gw (bs++uQ v)/\xY w w':=by
 obtain⟨V,f⟩:=v;obtain⟨q,Q⟩:=i;have E:=F9 (bs++qp [V,f]=bs++uQ (V,f)) (by simp[qp,uQ]);show Y 190 #[gw,acY #[U V,U f]] w _;go_enter func190,ntmps190;go_upto_region 1 with fail;obtain⟨j,H⟩:=ex (w.alloc (.cells #[U V,U f] 311));obtain⟨G,b⟩:=ex w.heap.size;rw[<-H,<-b];have a:=(tQ H).out;have B:=xNew H b;have g:=jj (h.keep a);have K:=jj (xY.below a);obtain⟨D,l⟩:=B.a2;clear H b a h;go_wp2_with fail;refine(Ah (g.keep nC) j.heap.size 2 2 [V,f] (aZ.new _ _ _) rfl (by simp only[ay,aI,or_false];rintro z (rfl|rfl)<;>assumption) aR).mono ?_;rintro e n ⟨rfl,d,c⟩;have W:=jj d;have k:=jj ((K.trans (xY.below nC)).trans c);clear d c;go_wp2_with fail;go_end0
 rw[E.out] at W;exact⟨by trivial,W,k⟩
theorem Br(l:List Rq):(l.flatMap oK).length<=36*l.length:=by
 induction l with
 |nil=>simp
 |cons r l ih=>
  have:=abN r;simp only[bQ,av,aY] at*;omega
theorem Gg(h:Wr w0 w gw bs)(a:OA)(n c:Nat)(l:List Rq)(F:gD w0 a n 6 (l.flatMap rA))(G:l.length=n)(D:n<=256)(u: ∀r∈l,xH r)(hl:bs.length+36*n+36<=4194304):
  Y 186 #[gw,.slice a n c,.func (.func 187) #[] #[]] w fun e w'=>e= .returned (.tuple #[])/\Wr w0 w' gw (bs++nI oK l)/\xY w w':=by
 obtain⟨H,S,y,V⟩:=j4 h F G u;have I: ¬(256:Int)<n:=aR;clear h F G u;go_enter func186,ntmps186;go_wp2_with fail;refine(Ah (H.keep nC) w.heap.size 1 1 [(n:Int)] (aZ.new _ _ _) rfl (by simp only[ay,aI,or_false];rintro z rfl;exact⟨aR,aR⟩) aR).mono ?_;rintro e w2 ⟨rfl,x,b⟩;have Z:=F9 (Wr w0 w2 gw (bs++mD n)) (by simpa[qp] using x);have W:=jj ((xY.below nC).trans b);clear x b I;go_wp2_with fail;go_loopw [21] (fun i wr=> ∃k:Nat,k<=n/\i= U k/\Wr w0 wr gw ((bs++mD n)++(l.take k).flatMap oK)/\xY w wr) (fun i _=>n -(intOf i).toNat)
 case atStart=>exact⟨0,aR,rfl,by simpa using Z.out,W⟩
 case round=>
  obtain⟨k,hk,rfl,d,b⟩:=hrel;obtain⟨wo,rfl⟩:=ex wr;have B:=jj d;have K:=jj b;by_cases t:k<n
  ·have j:k<l.length:=by rw[y.out];exact t
   have I:(0:Int)<=k:=aR;have i1:(k:Int)<n:=aR;obtain⟨g,o,rfl,f,x0,x1,x2,x3,x4,x5,v,J,M,N,O,P,Q⟩:=(show qc w0 a n n l from⟨S,y,aF _,by unfold maxLen;omega⟩).get t;have L:=f;have z0:=(d.below.cell (p:=⟨g,o+k*6,none⟩) L).trans J;have z1:=(d.below.cell (p:=⟨g,o+k*6+1,none⟩) L).trans M;have z2:=(d.below.cell (p:=⟨g,o+k*6+2,none⟩) L).trans N;have z3:=(d.below.cell (p:=⟨g,o+k*6+3,none⟩) L).trans O;have z4:=(d.below.cell (p:=⟨g,o+k*6+4,none⟩) L).trans P;have z5:=(d.below.cell (p:=⟨g,o+k*6+5,none⟩) L).trans Q;obtain⟨r,m⟩: ∃r:Rq,r=(x0,x1,x2,x3,x4,x5):=⟨_,rfl⟩;rw[<-m] at v;clear J M N O P Q L f;have T:=F9 ((l.take (k+1)).flatMap oK=(l.take k).flatMap oK++oK r) (by
    rw[bA j];have:l[k]=r:=by rw[aj j] at v;exact dh v
    rw[this];simp)
   have bl:((bs++mD n)++(l.take k).flatMap oK).length+36<=4194304:=by have e1:=Br (l.take k);have e2:=nK n;rw[av,av];rw[cO] at e1;have e3:36*min k l.length<=36*(n -1):=jC _ aR;omega
   have e0:IntKind.i64.wrap ((k:Int)+1)=(k:Int)+1:=aH _ aR;have R:=jj (V.out r (ak v));have A:=jj m;clear d b j v m;go_wp2_with fail;obtain rfl:=A.out;refine(acH (B.keep nC) _ R bl).mono ?_;rintro e w3 ⟨rfl,q,s⟩;rw[bW,<-T.out] at q;have W3:=jj q;have X:=jj ((K.trans (xY.below nC)).trans s);clear q s;go_wp2_with fail;go_roundw
   case rel=>exact⟨k+1,aR,by go_num,W3,X⟩
   simp[intOf];omega
  have C:k=n:=aR;subst C;have E:=F9 ((bs++mD k)++(l.take k).flatMap oK=bs++nI oK l) (by rw[<-y.out,dP,bW];rfl);clear d b;go_wp2_with fail;go_end0
  rw[E.out] at B;exact⟨by trivial,B,K⟩
theorem JX(l:List Vo):(l.flatMap uQ).length<=12*l.length:=by
 induction l with
 |nil=>simp
 |cons r l ih=>
  have:=aeU r;simp only[bQ,av,aY] at*;omega
theorem Eo(h:Wr w0 w gw bs)(a:OA)(n c:Nat)(l:List Vo)(D:gD w0 a n 2 (l.flatMap Cg))(F:l.length=n)(C:n<=256)(s: ∀r∈l,Kv r)(hl:bs.length+12*n+36<=4194304):
  Y 189 #[gw,.slice a n c,.func (.func 190) #[] #[]] w fun e w'=>e= .returned (.tuple #[])/\Wr w0 w' gw (bs++nI uQ l)/\xY w w':=by
 obtain⟨H,M,x,N⟩:=j4 h D F s;have I: ¬(256:Int)<n:=aR;clear h D F s;go_enter func189,ntmps189;go_wp2_with fail;refine(Ah (H.keep nC) w.heap.size 1 1 [(n:Int)] (aZ.new _ _ _) rfl (by simp only[ay,aI,or_false];rintro z rfl;exact⟨aR,aR⟩) aR).mono ?_;rintro e Z ⟨rfl,v,b⟩;have W:=F9 (Wr w0 Z gw (bs++mD n)) (by simpa[qp] using v);have P:=jj ((xY.below nC).trans b);clear v b I;go_wp2_with fail;go_loopw [21] (fun i wr=> ∃k:Nat,k<=n/\i= U k/\Wr w0 wr gw ((bs++mD n)++(l.take k).flatMap uQ)/\xY w wr) (fun i _=>n -(intOf i).toNat)
 case atStart=>exact⟨0,aR,rfl,by simpa using W.out,P⟩
 case round=>
  obtain⟨k,hk,rfl,u,b⟩:=hrel;obtain⟨wo,rfl⟩:=ex wr;have A:=jj u;have K:=jj b;by_cases q:k<n
  ·have f:k<l.length:=by rw[x.out];exact q
   have I:(0:Int)<=k:=aR;have i1:(k:Int)<n:=aR;obtain⟨g,O,rfl,d,x0,x1,t,G,J⟩:=(show uz w0 a n n l from⟨M,x,aF _,by unfold maxLen;omega⟩).get q;have L:=d;have z0:=(u.below.cell (p:=⟨g,O+k*2,none⟩) L).trans G;have z1:=(u.below.cell (p:=⟨g,O+k*2+1,none⟩) L).trans J;obtain⟨r,j⟩: ∃r:Vo,r=(x0,x1):=⟨_,rfl⟩;rw[<-j] at t;clear G J L d;have T:=F9 ((l.take (k+1)).flatMap uQ=(l.take k).flatMap uQ++uQ r) (by
    rw[bA f];have:l[k]=r:=by rw[aj f] at t;exact dh t
    rw[this];simp)
   have V:((bs++mD n)++(l.take k).flatMap uQ).length+36<=4194304:=by have X:=JX (l.take k);have e2:=nK n;rw[av,av];rw[cO] at X;have e3:12*min k l.length<=12*(n -1):=jC _ aR;omega
   have e0:IntKind.i64.wrap ((k:Int)+1)=(k:Int)+1:=aH _ aR;have R:=jj (N.out r (ak t));have y:=jj j;clear u b f t j;go_wp2_with fail;obtain rfl:=y.out;refine(ae0 (A.keep nC) _ R V).mono ?_;rintro e w3 ⟨rfl,m,o⟩;rw[bW,<-T.out] at m;have S:=jj m;have Q:=jj ((K.trans (xY.below nC)).trans o);clear m o;go_wp2_with fail;go_roundw
   case rel=>exact⟨k+1,aR,by go_num,S,Q⟩
   simp[intOf];omega
  have B:k=n:=aR;subst B;have E:=F9 ((bs++mD k)++(l.take k).flatMap uQ=bs++nI uQ l) (by rw[<-x.out,dP,bW];rfl);clear u b;go_wp2_with fail;go_end0
  rw[E.out] at A;exact⟨by trivial,A,K⟩
def pz(c:CD):Ce:=⟨c.view,c.inst,c.seq,c.bs,c.vs⟩
theorem aeZ(h:Wr w0 w gw bs)(c:CD)(r:c.Is w0)(ho:Et (pz c))(hl:bs.length+12400<=4194304):
  Y 192 #[gw,acY (nS c).toArray] w fun e w'=>e=acK (ac2 #[])/\Wr w0 w' gw (bs++uG (pz c))/\xY w w':=by
 obtain⟨view,inst,s,o,m,p,B,x,V,y,A⟩:=c;have q:=r.b;have t:=r.v;obtain⟨o0,o1,o2,o3,o4,o5,O⟩:=ho;simp only[pz] at o0 o1 o2 o3 o4 o5 O;have L:=q.len;have u:=t.len;simp only at L u;obtain⟨J,K,R,LV,S,T⟩:=j6 q.row t.row L u o3 o4;have E:=F9 (((bs++qp [view,inst,s])++nI oK B)++nI uQ A=bs++uG (pz ⟨view,inst,s,o,m,p,B,x,V,y,A⟩)) (by simp[qp,uG,pz]);have n1:=rW [view,inst,s];simp only[aY,dK] at n1;have n2:(nI oK B).length<=6+36*256:=by have e1:=nK B.length;have e2:=Br B;unfold nI;rw[av];omega
 have g:m<=256:=aR;have v:V<=256:=aR;clear r q t o3 o4 o5 O L u;show Y 192 #[gw,acY #[U view,U inst,U s,acX o m p,acX x V y]] w _;go_enter func192,ntmps192;go_upto_region 1 with fail;generalize hw1:w.alloc _=w1;generalize hgb:w.heap.size=gb;replace hw1:=hw1.symm;replace hgb:=hgb.symm;have H:=(tQ hw1).out;have d:=xNew hw1 hgb;have X:=jj (h.keep H);have M:=jj (xY.below H);obtain⟨D,C,F,G,I⟩:=d.a5;clear hw1 hgb H h;go_wp2_with fail;refine(Ah (X.keep nC) w1.heap.size 3 3 [view,inst,s] (aZ.new _ _ _) rfl (by simp only[ay,aI,or_false];rintro z (rfl|rfl|rfl)<;>assumption) aR).mono ?_;rintro e w2 ⟨rfl,j,a⟩;have Z:=jj j;have N:=jj ((M.trans (xY.below nC)).trans a);have f:=jj (a.blk (aZ.alloc d _) aV aV);obtain⟨D,C,F,G,I⟩:=f.a5;clear j a;go_wp2_with fail;refine(Gg Z o m p B J R g S (by rw[av];omega)).mono ?_;rintro e w3 ⟨rfl,k,b⟩;have W3:=jj k;have P:=jj (N.trans b);have n:=jj (b.blk f aV aV);obtain⟨D,C,F,G,I⟩:=n.a5;clear k b;go_wp2_with fail;refine(Eo W3 x V y A K LV v T (by rw[av,av];omega)).mono ?_;rintro e w4 ⟨rfl,l,i⟩;have W:=jj l;have Q:=jj (P.trans i);clear l i;go_wp2_with fail;go_end0
 rw[E.out] at W;exact⟨by trivial,W,Q⟩
theorem ado(c:Ce)(h:Et c):(uG c).length<=12400:=by have H:=nK c.view.toNat;have a:=nK c.inst.toNat;have b:=nK c.seq.toNat;have d:=nK c.batch.length;have e:=nK c.sw.length;have f:=Br c.batch;have g:=JX c.sw;have i:=h.nb;have j:=h.nv;simp only[uG,nI,av];omega
theorem Qc(l:List CD)(h: ∀c∈l,Et (pz c)):(l.flatMap fun c=>uG (pz c)).length<=12400*l.length:=by
 induction l with
 |nil=>simp
 |cons r l ih=>
  have e:=ado _ (h r bJ);have E:=ih (fun c H=>h c (by simp[H]));simp only[bQ,av,aY] at*;omega
theorem Ph(h:Wr w0 w gw bs)(a:OA)(n c:Nat)(l:List CD)(B:Hu w0 a n c l)(L:n<=256)(s: ∀r∈l,Et (pz r))(hl:bs.length+12400*n+36<=4194304):
  Y 191 #[gw,.slice a n c,.func (.func 192) #[] #[]] w fun e w'=>e= .returned (.tuple #[])/\Wr w0 w' gw (bs++nI uG (l.map pz))/\xY w w':=by
 obtain⟨H,F,G,I⟩:=j4 h B B.len s;have M: ¬(256:Int)<n:=aR;clear h B s;go_enter func191,ntmps191;go_wp2_with fail;refine(Ah (H.keep nC) w.heap.size 1 1 [(n:Int)] (aZ.new _ _ _) rfl (by simp only[ay,aI,or_false];rintro z rfl;exact⟨aR,aR⟩) aR).mono ?_;rintro e w2 ⟨rfl,u,b⟩;have W:=F9 (Wr w0 w2 gw (bs++mD n)) (by simpa[qp] using u);have P:=jj ((xY.below nC).trans b);clear u b M;go_wp2_with fail;go_loopw [21] (fun i wr=> ∃k:Nat,k<=n/\i= U k/\Wr w0 wr gw ((bs++mD n)++(l.take k).flatMap fun c=>uG (pz c))/\xY w wr) (fun i _=>n -(intOf i).toNat)
 case atStart=>exact⟨0,aR,rfl,by simpa using W.out,P⟩
 case round=>
  obtain⟨k,hk,rfl,x,b⟩:=hrel;obtain⟨wo,rfl⟩:=ex wr;have y:=jj x;have K:=jj b;by_cases D:k<n
  ·have f:k<l.length:=by rw[G.out];exact D
   have M:(0:Int)<=k:=aR;have i1:(k:Int)<n:=aR;obtain⟨g,O,rfl,N,d⟩:=F.row.2 aR;obtain⟨r,t⟩: ∃r,l[k]?=some r:=⟨_,aj f⟩;have m:l[k]=r:=by rw[aj f] at t;exact dh t
   have Z: ∀j v,j<5->(nS r)[j]?=some v->J wo g (O+k*5+j) v:=fun j v hj hv=>by rw[dL];exact(x.below.cell (p:=⟨g,O+(k*5+j),none⟩) N).trans (d _ _ (nT nS 5 Xv l k j hj f v (by rw[m];exact hv)))
   have T:=F9 (((l.take (k+1)).flatMap fun c=>uG (pz c))=((l.take k).flatMap fun c=>uG (pz c))++uG (pz r)) (by rw[bA f,m];simp)
   have bl:((bs++mD n)++(l.take k).flatMap fun c=>uG (pz c)).length+12400<=4194304:=by have e1:=Qc (l.take k) (fun c hc=>I.out c (jv hc));have e2:=nK n;rw[av,av];rw[cO] at e1;have e3:12400*min k l.length<=12400*(n -1):=jC _ aR;omega
   have e0:IntKind.i64.wrap ((k:Int)+1)=(k:Int)+1:=aH _ aR;have A:=jj (I.out r (ak t));have R:=jj (F.is r (ak t));obtain⟨view,inst,S,X,bn,bc,br,va,vn,vc,vs⟩:=r;have y0:=Z 0 (U view) aR rfl;have y1:=Z 1 (U inst) aR rfl;have y2:=Z 2 (U S) aR rfl;have y3:=Z 3 (.slice X bn bc) aR rfl;have y4:=Z 4 (.slice va vn vc) aR rfl;rw[fA] at y0;clear x b f t m Z d N;go_wp2_with fail;refine(aeZ (y.keep nC) _ R A bl).mono ?_;rintro e w3 ⟨rfl,o,q⟩;rw[bW,<-T.out] at o;have V:=jj o;have Q:=jj ((K.trans (xY.below nC)).trans q);clear o q;go_wp2_with fail;go_roundw
   case rel=>exact⟨k+1,aR,by go_num,V,Q⟩
   simp[intOf];omega
  have C:k=n:=aR;subst C;have E:=F9 (((bs++mD k)++(l.take k).flatMap fun c=>uG (pz c))=bs++nI uG (l.map pz)) (by rw[<-G.out,dP,bW];simp[nI,List.flatMap_map])
  clear x b;go_wp2_with fail;go_end0
  rw[E.out] at y;exact⟨by trivial,y,K⟩
theorem Lb(h:Wr w0 w gw bs)(a:OA)(c:Nat)(g:bs.length+36<=4194304):
  Y 193 #[gw,.slice a 0 c,.func (.func 194) #[] #[]] w fun e w'=>e= .returned (.tuple #[])/\Wr w0 w' gw (bs++mD 0)/\xY w w':=by
 have H:=jj h;clear h;go_enter func193,ntmps193;go_wp2_with fail;refine(Ah (H.keep nC) w.heap.size 1 1 [(0:Int)] (aZ.new _ _ _) rfl (by simp only[ay,aI,or_false];rintro z rfl;exact⟨aR,aR⟩) aR).mono ?_;rintro e W ⟨rfl,d,b⟩;have f:=F9 (Wr w0 W gw (bs++mD 0)) (by simpa[qp] using d);have K:=jj ((xY.below nC).trans b);clear d b;go_wp2_with fail;go_loopw [21] (fun i wr=>i= U 0/\wr=W) (fun i _=>0)
 case atStart=>exact⟨rfl,rfl⟩
 case round=>
  obtain⟨rfl,rfl⟩:=hrel;go_wp2_with fail;go_end0
  exact⟨by trivial,f,K⟩
theorem aby(w:World)(a:OA)(n c:Nat)(l:List Rq)(g:gD w a n 6 (l.flatMap rA))(i:l.length=n)(H:n<=256)(b: ∀r∈l,xH r):
  Y 136 #[acX a n c] w fun e w'=> ∃A c',e=acK (ac2 #[acX A (nI oK l).length c',true])/\w'.ownsRow w.heap.size 5 1 (acX A (nI oK l).length c') (nI oK l).length (mZ (nI oK l))/\Be w w':=by
 go_enter func136,ntmps136;go_wp2_with fail;refine(Gg (show Wr w _ w.heap.size [] from⟨⟨none,0,aZ.new w _ _,⟨rfl,.inl ⟨rfl,rfl⟩⟩⟩,nC,aF _⟩) a n c l g i H b (by simp;omega)).mono ?_;rintro e j ⟨rfl,h,-⟩;rw[bU] at h;have W:=jj h;clear h;go_wp2_with fail;refine(Iq W).mono ?_;rintro e w' ⟨A,c',rfl,d,rfl⟩;have f:=jj d;clear d;go_wp2_with fail;go_ret2
 exact⟨A,c',by trivial,f,W.below⟩
theorem abJ(w:World)(a:OA)(n c:Nat)(l:List Vo)(g:gD w a n 2 (l.flatMap Cg))(i:l.length=n)(H:n<=256)(b: ∀r∈l,Kv r):
  Y 137 #[acX a n c] w fun e w'=> ∃A c',e=acK (ac2 #[acX A (nI uQ l).length c',true])/\w'.ownsRow w.heap.size 5 1 (acX A (nI uQ l).length c') (nI uQ l).length (mZ (nI uQ l))/\Be w w':=by
 go_enter func137,ntmps137;go_wp2_with fail;refine(Eo (show Wr w _ w.heap.size [] from⟨⟨none,0,aZ.new w _ _,⟨rfl,.inl ⟨rfl,rfl⟩⟩⟩,nC,aF _⟩) a n c l g i H b (by simp;omega)).mono ?_;rintro e j ⟨rfl,h,-⟩;rw[bU] at h;have W:=jj h;clear h;go_wp2_with fail;refine(Iq W).mono ?_;rintro e w' ⟨A,c',rfl,d,rfl⟩;have f:=jj d;clear d;go_wp2_with fail;go_ret2
 exact⟨A,c',by trivial,f,W.below⟩
theorem abz(w:World)(a:OA)(n c:Nat)(l:List CD)(g:Hu w a n c l)(H:n<=256)(b: ∀r∈l,Et (pz r)):
  Y 138 #[acX a n c] w fun e w'=> ∃A c',e=acK (ac2 #[acX A (nI uG (l.map pz)).length c',true])/\w'.ownsRow w.heap.size 5 1 (acX A (nI uG (l.map pz)).length c') (nI uG (l.map pz)).length (mZ (nI uG (l.map pz)))/\Be w w':=by
 go_enter func138,ntmps138;go_wp2_with fail;refine(Ph (show Wr w _ w.heap.size [] from⟨⟨none,0,aZ.new w _ _,⟨rfl,.inl ⟨rfl,rfl⟩⟩⟩,nC,aF _⟩) a n c l g H b (by simp;omega)).mono ?_;rintro e i ⟨rfl,h,-⟩;rw[bU] at h;have W:=jj h;clear h;go_wp2_with fail;refine(Iq W).mono ?_;rintro e w' ⟨A,c',rfl,d,rfl⟩;have f:=jj d;clear d;go_wp2_with fail;go_ret2
 exact⟨A,c',by trivial,f,W.below⟩
theorem abD(w:World)(a:OA)(c:Nat):
  Y 139 #[acX a 0 c] w fun e w'=> ∃A c',e=acK (ac2 #[acX A (mD 0).length c',true])/\w'.ownsRow w.heap.size 5 1 (acX A (mD 0).length c') (mD 0).length (mZ (mD 0))/\Be w w':=by
 go_enter func139,ntmps139;go_wp2_with fail;refine(Lb (show Wr w _ w.heap.size [] from⟨⟨none,0,aZ.new w _ _,⟨rfl,.inl ⟨rfl,rfl⟩⟩⟩,nC,aF _⟩) a c bJ).mono ?_;rintro e d ⟨rfl,h,-⟩;rw[bU] at h;have W:=jj h;clear h;go_wp2_with fail;refine(Iq W).mono ?_;rintro e w' ⟨A,c',rfl,H,rfl⟩;have b:=jj H;clear H;go_wp2_with fail;go_ret2
 exact⟨A,c',by trivial,b,W.below⟩
structure MD where
 kind:Int
 sender:Int
 view:Int
 inst:Int
 seq:Int
 res:Int
 ba:Option Addr
 bn:Nat
 bc:Nat
 bs:List Rq
 va:Option Addr
 vn:Nat
 vc:Nat
 vs:List Vo
 ca:Option Addr
 cn:Nat
 cc:Nat
 cs:List CD
 pa:Option Addr
 pc:Nat
def oM(m:MD):List Value:= [U m.kind,U m.sender,U m.view,U m.inst,U m.seq,U m.res,acX m.ba m.bn m.bc,acX m.va m.vn m.vc,acX m.ca m.cn m.cc,acX m.pa 0 m.pc]
def nA(m:MD):Ms:=⟨m.kind,m.sender,m.view,m.inst,m.seq,m.res,m.bs,m.vs,m.cs.map pz⟩
structure MD.Is(w:World)(m:MD):Prop where
 b:qc w m.ba m.bn m.bc m.bs
 v:uz w m.va m.vn m.vc m.vs
 c:Hu w m.ca m.cn m.cc m.cs
theorem Hu.below'{cs:List CD}(h:Hu w a n c cs)(H:Be w w'):Hu w' a n c cs:=⟨h.row.below H,h.len,h.cap,h.max,fun c b=>(h.is c b).below H⟩
theorem MD.Is.below{m:MD}(h:m.Is w)(H:Be w w'):m.Is w':=⟨h.b.below H,h.v.below H,h.c.below' H⟩
structure Bd(w0 w:World)(go gg:Nat)(bs:LI):Prop where
 ex: ∃a c,aZ w go 140 #[acX a bs.length c]/\w.ownsRow w0.heap.size 5 1 (acX a bs.length c) bs.length (mZ bs)
 good:aZ w gg 4 #[true]
 below:Be w0 w
 ge:w0.heap.size<=go/\w0.heap.size<=gg
theorem Bd.keep{go:Nat}(h:Bd w0 w go gg bs)(H:Be w w'):Bd w0 w' go gg bs:=by obtain⟨a,c,b,d⟩:=h.ex;exact⟨⟨a,c,b.below H b.lt,own_below d H⟩,h.good.below H h.good.lt,h.below.trans (H.mono h.below.size),h.ge⟩
structure BdK(w w':World):Prop where
 blk: ∀{k t:Nat} {cs:AV},aZ w k t cs->t≠140->t≠4->t≠5->aZ w' k t cs
 size:w.heap.size<=w'.heap.size
theorem xI{go:Nat}(h:Bd w0 w go gg bs)(A:OA)(m c:Nat)(y:LI)(hv:gD w A m 1 (mZ y))(Z: ∀b,A.map (·.block)=some b-> ∃cs,aZ w b 5 cs)(l:y.length=m)(hl:bs.length+m<=8388608):
  Y 133 #[acX A m c,true,gg,go] w fun e w'=>e=acK (ac2 #[])/\Bd w0 w' go gg (bs++y)/\BdK w w':=by
 obtain⟨i0,F,I,J,L⟩:=info_parts wU;obtain⟨a,C,n,p⟩:=h.ex;have f:=h.good;have c1:=f.at_ 0;have f1:=f.frozen 0;obtain⟨w1,j⟩:=ex (w.setCell (adZ gg 0) true);have o1:Only [gg] w w1:=by rw[j];exact(Only.refl [gg] w).setCell (.inl bJ) _
 have N:go≠gg:=n.nY f aV;have X:aZ w1 gg 4 #[true]:=by rw[j];exact f.fU 0 _
 have k1:aZ w1 go 140 #[acX a bs.length C]:=n.only o1 (mR N);have O:w1.ownsRow w0.heap.size 5 1 (acX a bs.length C) bs.length (mZ bs):=mK p o1 (fun g E=>by have:=mG p f aV;rw[E] at this;simpa using fun e=>this (by rw[e]))
 have B:Be w0 w1:=o1.below h.below h.below.size (mR h.ge.2);have s:gD w1 A m 1 (mZ y):=hv.only o1 (fun b x=>by obtain⟨cs,d⟩:=Z b x;simpa using d.nY f aV)
 obtain⟨G,M,Q,v,V1⟩:=j5 f X k1 O s;have x0:=k1.at_ 0;obtain⟨HM,R,BB,GE⟩:=j4 l o1 B h.ge;have sz:=B.size;have HW:=jj j;clear h n p f X k1 O hv Z s l o1 B j N;go_enter func133,ntmps133;go_upto_region 1 with fail;rw[<-HW.out];clear c1 f1
 go_wp2_with(first|(at_builtin;refine fD rfl _ _ _ rfl w0.heap.size 5 i0 _ 1 1 underlying140 F I J L rfl aR a bs.length C (mZ bs) rfl v A m c (mZ y) rfl V1 (yh y) (by unfold maxLen;omega) aR sz ?_;intro a5 U W D;have nb: ∀k∈(a.map (·.block)).toList,k≠go:=(fun k hk e=>mG v Q aV (by rw[dQ,aJ.1 hk,e]));have K:=Q.only D.only (fun l=>nb go l rfl);have i:=jj K;have f0:=K.frozen 0;have y0:=(K.cell 0).trans (show _=some (acX a bs.length C) from rfl);have H:=jj D;clear K D))
 clear f0 y0 x0 nb
 go_end0
 have V:(bs++y).length=bs.length+m:=by rw[av,HM.out]
 have u:Only [go] W (W.setCell (adZ go 0) (acX a5 (bs.length+m) U)):=(Only.refl _ _).setCell (.inl bJ) _;have T:=H.below v BB (aF _) sz;have o:=H.own;rw[<-wR] at o;have S:=dx v;have P:aZ W gg 4 #[true]:=M.only H.only fun l=>by obtain⟨_,z,d⟩:=S _ l;exact M.nY d aV rfl
 refine⟨by trivial,⟨⟨a5,U,by rw[V];exact i.fU 0 _,?_⟩,P.only u (by simpa using(i.nY P aV).symm),u.below T T.size (mR GE.1),GE⟩,⟨fun{k t cs} x n p h3=> ?_,aG R.size (aG H.only.size u.size)⟩⟩
 ·rw[V]
  exact mK o u (fun g f=>by have:=mG o i aV;rw[f] at this;simpa using fun e=>this (by rw[e]))
 have n1:k≠gg:=x.nY G p;have q:=x.only R (mR n1);have r:=q.only H.only fun l=>by obtain⟨_,z,d⟩:=S _ l;exact q.nY d h3 rfl
 exact r.only u (mR (r.nY i n))
def KH:List TypeId:= [49,311,5]
theorem sN{t':Nat}{cs cs':AV}(h:aZ w g t cs)(H:aZ w g t' cs'):t'=t:=by unfold aZ at h H;rw[h] at H;injection H with H;injection H with _ ht;exact ht.symm
def nV(x:Nat)(w:World)(g:Nat):Prop:=(g=x/\ ∀t cs,aZ w g t cs->t=49)\/ ∀t cs,aZ w g t cs->t∉KH
theorem nV.of{x:Nat}{t:TypeId}{cs:AV}(h:aZ w g t cs)(a:t∉KH):nV x w g:= .inr fun T c H=>by unfold aZ at h H;rw[h] at H;injection H with H;injection H with _ ht';exact ht'▸a
def Fixed(x:Nat)(w:World)(t:TypeId)(a:OA):Prop:= ∀b,a.map (·.block)=some b->b≠x/\ ∃cs,aZ w b t cs
section
variable{x y:Nat}{w w':World}{t:TypeId}{a:OA}{S:LN}{n c:Nat}
def Nr(w:World)(S:LN):Prop:= ∀g∈S,∀cs,¬aZ w g 228 cs
theorem Fixed.ajX(h:Fixed x w 228 a)(c:Nr w S): ∀b,a.map (·.block)=some b->b∉S:=fun b d e=>by obtain⟨f,cs,H⟩:=h b d;exact c b e cs H
theorem Fixed.none(x:Nat)(w:World)(t:TypeId):Fixed x w t none:=fun b h=>by simp at h
theorem Fixed.far(h:Fixed x w t a)(j:t∈KH)(e: ∀g∈S,nV x w g): ∀b,a.map (·.block)=some b->b∉S:=fun b f i=>by
 obtain⟨c,cs,d⟩:=h b f;rcases e b i with H|H
 ·exact c H.1
 exact H t cs d j
theorem Fixed.only(h:Fixed x w t a)(i:t∈KH)(f:Only S w w')(e: ∀g∈S,nV x w g):Fixed x w' t a:=fun b H=>by obtain⟨c,cs,d⟩:=h b H;exact⟨c,cs,d.only f (h.far i e b H)⟩
theorem Fixed.below(h:Fixed x w t a)(e:Be w w'):Fixed x w' t a:=fun b H=>by obtain⟨d,cs,c⟩:=h b H;exact⟨d,cs,c.below e c.lt⟩
theorem Fixed.re(h:Fixed x w t a)(e:w.heap.size<=y):Fixed y w t a:=fun b c=>by obtain⟨d,cs,H⟩:=h b c;exact⟨by have:=H.lt;omega,cs,H⟩
theorem Fixed.own{base:Nat}(h:w.ownsRow base t s (acX a n c) n xs)(hx:x<base):Fixed x w t a:=fun b d=>by
 rcases h.2 with⟨H,_⟩|⟨g,e,C,H,f,i,_⟩
 ·injection H with H
  subst H;simp at d
 injection H with H;subst H;simp at d;subst d;exact⟨aR,C,i⟩
theorem uO{base:Nat}(h:w.ownsRow base t s (acX a n c) n xs):c<=maxLen:=by
 rcases h.2 with⟨H,_⟩|⟨g,C,b,H,_,_,_,d,_⟩
 ·injection H with _ _ hcc
  unfold maxLen;omega
 injection H with _ _ hcc;omega
theorem gD.fix{vs:LV}(h:gD w a n s vs)(f:Fixed x w t a)(c:t∈KH)(b:Only S w w')(H: ∀g∈S,nV x w g):gD w' a n s vs:=h.only b (f.far c H)
structure sK(x:Nat)(w:World)(a:OA)(n c:Nat)(bs:List Rq):Prop where
 row:qc w a n c bs
 fix:Fixed x w 49 a
structure Ez(x:Nat)(w:World)(a:OA)(n c:Nat)(bs:List Vo):Prop where
 row:uz w a n c bs
 fix:Fixed x w 311 a
structure CF(x:Nat)(w:World)(c:CD):Prop where
 is:c.Is w
 b:Fixed x w 49 c.ba
 v:Fixed x w 311 c.va
structure Gz(x:Nat)(w:World)(a:OA)(n c:Nat)(cs:List CD):Prop where
 row:gD w a n 5 (cs.flatMap nS)
 len:cs.length=n
 cap:n<=c
 max:c<=maxLen
 is: ∀c∈cs,CF x w c
 fix:Fixed x w 228 a
structure MF(x:Nat)(w:World)(m:MD):Prop where
 b:sK x w m.ba m.bn m.bc m.bs
 v:Ez x w m.va m.vn m.vc m.vs
 c:Gz x w m.ca m.cn m.cc m.cs
variable{bs:List Rq}{vs:List Vo}{cd:CD}{cs:List CD}{m:MD}
theorem sK.only(h:sK x w a n c bs)(b:Only S w w')(H: ∀g∈S,nV x w g):sK x w' a n c bs:=⟨⟨h.row.row.fix h.fix aV b H,h.row.len,h.row.cap,h.row.max⟩,h.fix.only aV b H⟩
theorem sK.below(h:sK x w a n c bs)(H:Be w w'):sK x w' a n c bs:=⟨h.row.below H,h.fix.below H⟩
theorem sK.re(h:sK x w a n c bs)(H:w.heap.size<=y):sK y w a n c bs:=⟨h.row,h.fix.re H⟩
theorem sK.nil(x:Nat)(w:World):sK x w none 0 0 []:=⟨qc.nil _ _ (by unfold maxLen;omega),Fixed.none _ _ _⟩
theorem sK.own{base:Nat}(h:w.ownsRow base 49 6 (acX a n c) n (bs.flatMap rA))(hx:x<base)(H:bs.length=n):sK x w a n c bs:=⟨⟨fH h,H,qB h,uO h⟩,Fixed.own h hx⟩
theorem Ez.only(h:Ez x w a n c vs)(b:Only S w w')(H: ∀g∈S,nV x w g):Ez x w' a n c vs:=⟨⟨h.row.row.fix h.fix aV b H,h.row.len,h.row.cap,h.row.max⟩,h.fix.only aV b H⟩
theorem Ez.below(h:Ez x w a n c vs)(H:Be w w'):Ez x w' a n c vs:=⟨h.row.below H,h.fix.below H⟩
theorem Ez.nil(x:Nat)(w:World):Ez x w none 0 0 []:=⟨uz.nil _ _ (by unfold maxLen;omega),Fixed.none _ _ _⟩
theorem Ez.own{base:Nat}(h:w.ownsRow base 311 2 (acX a n c) n (vs.flatMap Cg))(hx:x<base)(H:vs.length=n):Ez x w a n c vs:=⟨⟨fH h,H,qB h,uO h⟩,Fixed.own h hx⟩
theorem CF.only(h:CF x w cd)(a:Only S w w')(H: ∀g∈S,nV x w g):CF x w' cd:=
 have b:=sK.only ⟨h.is.b,h.b⟩ a H;have v:=Ez.only ⟨h.is.v,h.v⟩ a H
 ⟨⟨b.row,v.row,h.is.i0,h.is.i1,h.is.i2⟩,b.fix,v.fix⟩
theorem CF.below(h:CF x w cd)(H:Be w w'):CF x w' cd:=⟨h.is.below H,h.b.below H,h.v.below H⟩
theorem CF.re(h:CF x w cd)(H:w.heap.size<=y):CF y w cd:=⟨h.is,h.b.re H,h.v.re H⟩
theorem Gz.only(h:Gz x w a n c cs)(H:Only S w w')(j: ∀g∈S,nV x w g)(d:Nr w S):Gz x w' a n c cs:=⟨h.row.only H (h.fix.ajX d),h.len,h.cap,h.max,fun c k=>(h.is c k).only H j,fun b e=>by obtain⟨f,cs,i⟩:=h.fix b e;exact⟨f,cs,i.only H (h.fix.ajX d b e)⟩⟩
theorem Gz.below(h:Gz x w a n c cs)(H:Be w w'):Gz x w' a n c cs:=⟨h.row.below H,h.len,h.cap,h.max,fun c b=>(h.is c b).below H,h.fix.below H⟩
theorem Gz.vI(h:Gz x w a n c cs):Hu w a n c cs:=⟨h.row,h.len,h.cap,h.max,fun c H=>(h.is c H).is⟩
theorem Gz.nil(x:Nat)(w:World):Gz x w none 0 0 []:=⟨gD.nil _ _ _,rfl,aF _,by unfold maxLen;omega,fun c h=>by simp at h,Fixed.none _ _ _⟩
theorem MF.md(h:MF x w m):m.Is w:=⟨h.b.row,h.v.row,h.c.vI⟩
theorem MF.only(h:MF x w m)(a:Only S w w')(H: ∀g∈S,nV x w g)(b:Nr w S):MF x w' m:=⟨h.b.only a H,h.v.only a H,h.c.only a H b⟩
theorem Nr.of{cs:AV}(h:aZ w g t cs)(b:t≠228):Nr w [g]:=fun k H c a=>by simp only[au] at H;subst H;exact h.nY a b rfl
theorem MF.below(h:MF x w m)(H:Be w w'):MF x w' m:=⟨h.b.below H,h.v.below H,h.c.below H⟩
end
section
open Go.ChangeShapes Go.WideShapes Go.ChangeAt Go.RowKit Go.Deep
section
variable{H:Type}{enc:TypeId×Value->H}{P:Program}{w:World}{base:Nat}{spare:Nat->Bool}{held:Bool}
end
end
section
open Go.ChangeShapes Go.WideShapes Go.ChangeAt Go.RowKit Go.Deep
section
variable{H:Type}{enc:TypeId×Value->H}{P:Program}{w:World}{base:Nat}{spare:Nat->Bool}{held:Bool}
end
end
section
open Go.RowKit Go.Proofs.Tryz Go.Maps
open Go.ChangeMaps (setBlock heap_setBlock_same)
theorem Uh:Keyed prog 185:=Keyed.of_law (deep_law_laid (by kernel_rfl) (m:=2) aR (of_decide_eq_true (by kernel_rfl)) (by kernel_rfl) (by rw[underlying185]))
theorem kof(p:Int)(s:ByteArray)(H:qX p)(d:s.size<=maxLen): ∃l,keyOf prog 185 (acY #[U p,.string s])=some l:=by
 have h:(Value.agg #[U p,.string s]).formed prog 185=true:=by
  simp[Value.formed,underlying185]
  kernel_rfl
 have e:(Lit.int .i64 p).wf=true:=WalkArith.wf_i64 H;have c:prog.cellsOf 3=1:=by kernel_rfl
 have C:prog.cellsOf 9=1:=by kernel_rfl
 have a:prog.cellsOf 185=2:=by kernel_rfl
 have b:prog.keyType 185=true:=by kernel_rfl
 unfold keyOf;rw[underlying185];simp only[h];unfold Program.keyLits;simp[underlying185];simp[c,C,a,b,Value.cells,Program.keyLits,underlying3,underlying9,e,d]
def kv(e:Int×List Int):Value:=acY #[U e.1,.string (strOfNums e.2)]
structure Ns(e:Int×List Int):Prop where
 p:qX e.1
 b: ∀x∈e.2,0<=x/\x<=255
 n:e.2.length<=maxLen
theorem acd(xs:LI):(strOfNums xs).size=xs.length:=by simp[strOfNums,ByteArray.size]
theorem Jh{e:Int×List Int}(h:Ns e): ∃l,keyOf prog 185 (kv e)=some l:=kof e.1 _ h.p (by rw[acd];exact h.n)
theorem PZ: ∀(xs ys:LI),(∀x∈xs,0<=x/\x<=255)->(∀x∈ys,0<=x/\x<=255)->xs.map (fun n=>UInt8.ofNat n.toNat)=ys.map (fun n=>UInt8.ofNat n.toNat)->xs=ys
 | [],[],_,_,_=>rfl
 | [],y::ys,_,_,h=>by simp at h
 |x::xs,[],_,_,h=>by simp at h
 |x::xs,y::ys,hx,hy,h=>by simp only[bV,gT] at h;have h1:=hx x bJ;have h2:=hy y bJ;have h3:=congrArg UInt8.toNat h.1;simp only[UInt8.toNat_ofNat'] at h3;rw[dJ aR,dJ aR] at h3;have e:x=y:=aR;rw[e,PZ xs ys (fun z hz=>hx z (by simp[hz])) (fun z hz=>hy z (by simp[hz])) h.2]
theorem str_inj{xs ys:LI}(hx: ∀x∈xs,0<=x/\x<=255)(H: ∀x∈ys,0<=x/\x<=255)(h:strOfNums xs=strOfNums ys):xs=ys:=by apply PZ xs ys hx H;have:=congrArg (fun s:ByteArray=>s.data.toList) h;simpa[strOfNums] using this
theorem aaX{a b:Int×List Int}(c:Ns a)(d:Ns b)(h:kv a=kv b):a=b:=by
 unfold kv at h;injection h with h;have H:Value.int .i64 a.1= U b.1/\Value.string (strOfNums a.2)= .string (strOfNums b.2):=by simpa using h
 injection H.1 with _ e1;injection H.2 with e2;exact Prod.ext e1 (str_inj c.b d.b e2)
def num(K:List (Int×List Int))(q:Int×List Int):Int:=if q∈K then(K.idxOf q:Int)+1 else 0
structure wM(w:World)(b:Nat)(K:List (Int×List Int)):Prop where
 ex: ∃es clock,w.heap[b]?=some (.map es clock)/\es.size=K.length/\(∀e∈es.toList,∃(i:Nat) (q:Int×List Int),K[i]?=some q/\e.key=kv q/\e.val= U ((i:Int)+1))/\(∀q∈K,∃e∈es.toList,e.key=kv q)
 ok: ∀q∈K,Ns q
 nd:K.Nodup
 n:K.length<=1048576
 born: ∀es clock,w.heap[b]?=some (.map es clock)->(∀e∈es.toList,e.born<clock)/\(es.toList.map (·.born)).Nodup/\(es.toList.map (·.key)).Nodup
section
variable{w w':World}{b:Nat}{K:List (Int×List Int)}{q:Int×List Int}
theorem wM.lt(h:wM w b K):b<w.heap.size:=by
 obtain⟨e,C,c,_⟩:=h.ex;rcases iZ b w.heap.size with a|H
 ·exact a
 rw[gK H] at c;cases c
theorem wM.only(h:wM w b K)(d:Only S w w')(a:b∉S):wM w' b K:=by obtain⟨E,C,j,f,g,i⟩:=h.ex;exact⟨⟨E,C,by rw[d.block b h.lt a];exact j,f,g,i⟩,h.ok,h.nd,h.n,fun e c H=>h.born e c (by rw[<-d.block b h.lt a];exact H)⟩
theorem wM.drewN(h:wM w b K)(j:Nat):wM (w.drewN j) b K:=⟨h.ex,h.ok,h.nd,h.n,h.born⟩
theorem ahd(h:wM w b K){i:Nat}(a:K[i]?=some q):K.idxOf q=i:=by obtain⟨H,rfl⟩:=ah.1 a;exact h.nd.idxOf_getElem i H
theorem wM.look(h:wM w b K)(p:Ns q):(Instr.lookup 153 (.map (some b)) (kv q) true).run prog w= .ok (ac2 #[U (num K q),(decide (q∈K))]) w:=by
 obtain⟨E,C,n,v,m,t⟩:=h.ex;obtain⟨l,k⟩:=Jh p;have g: ∀e∈E.toList,∃l,keyOf prog 185 e.key=some l:=fun e d=>by obtain⟨i,Q,c,H,_⟩:=m e d;rw[H];exact Jh (h.ok Q (ak c))
 rcases Uh.find w k E.toList g with⟨f,F⟩|⟨j,r,f,F,s⟩
 ·have o:q∉K:=fun a=>by obtain⟨e,d,H⟩:=t q a;exact F e d H
  rw[num,if_neg o,decide_eq_false o];simp[Instr.lookup,run_underlying underlying153,gL n,Uh.check w _ k,f,Result.andThen]
 obtain⟨i,Q,c,H,u⟩:=m r (ak F);have a:=ak c;obtain rfl:Q=q:=aaX (h.ok Q a) p (by rw[<-H,s]);rw[num,if_pos a,decide_eq_true a,ahd h c,<-u];simp[Instr.lookup,run_underlying underlying153,gL n,Uh.check w _ k,f,Result.andThen]
theorem wM.len(h:wM w b K)(t:TypeId):(Builtin.len_ #[153] t #[.map (some b)]).run prog w= .ok (U K.length) w:=by obtain⟨e,c,a,H,d,f⟩:=h.ex;rw[<-H];simp[Builtin.len_,run_underlying underlying153,gL a,goInt,Result.andThen]
theorem sO(w:World)(b:Nat)(o:Obj):Only [b] w (setBlock w b o):=by refine⟨rfl,rfl,rfl,by simp[setBlock],fun k H h=> ?_⟩;simp only[ay,aI,or_false] at h;simp[setBlock,dR h]
theorem wM.put(h:wM w b K)(p:Ns q)(v:q∉K)(hlen:K.length<1048576): ∃w',(Instr.mapUpdate 153 (.map (some b)) (kv q) (U ((K.length:Int)+1))).run prog w= .ok () w'/\wM w' b (K++ [q])/\Only [b] w w':=by
 obtain⟨E,C,f,J,n,L⟩:=h.ex;obtain⟨l,t⟩:=Jh p;have o: ∀e∈E.toList,∃l,keyOf prog 185 e.key=some l:=fun e c=>by obtain⟨i,Q,k,g,_⟩:=n e c;rw[g];exact Jh (h.ok Q (ak k))
 rcases Uh.find w t E.toList o with⟨s,F⟩|⟨j,D,s,F,I⟩
 ·refine⟨setBlock w b (.map (E.push ⟨kv q,U ((K.length:Int)+1),C⟩) (C+1)),?_,⟨⟨_,_,heap_setBlock_same f _,by simp[J],?_,?_⟩,?_,?_,by simp;omega,?_⟩,sO _ _ _⟩
  ·simp[Instr.mapUpdate,run_underlying underlying153,gL f,Uh.check w false t,s,ku _ f,Result.andThen,setBlock]
  ·intro e c
   simp only[fK,aQ,au] at c;rcases c with c|rfl
   ·obtain⟨i,Q,k,g,A⟩:=n e c
    exact⟨i,Q,by rw[bC (ah.1 k).1];exact k,g,A⟩
   exact⟨K.length,q,bJ,rfl,rfl⟩
  ·intro Q H
   rcases aQ.1 H with H|H
   ·obtain⟨e,c,g⟩:=L Q H
    exact⟨e,by simp[c],g⟩
   simp only[au] at H;subst H;exact⟨_,by simp;exact .inr rfl,rfl⟩
  ·intro Q H
   rcases aQ.1 H with H|H
   ·exact h.ok Q H
   simp only[au] at H;subst H;exact p
  ·rw[ig]
   exact⟨h.nd,bJ,fun a M b f e=>v (by simp at f;rw[<-f,<-e];exact M)⟩
  intro G B d;rw[heap_setBlock_same f _] at d;obtain⟨p1,p2,p3⟩:=h.born E C f;injection d with d;injection d with e1 e2;subst e1;subst e2;refine⟨fun e c=> ?_,?_,?_⟩
  ·simp only[fK,aQ,au] at c
   rcases c with c|rfl
   ·exact Nat.lt_succ_of_lt (p1 e c)
   exact Nat.lt_succ_self _
  ·rw[fK,bR,ig]
   refine⟨p2,bJ,fun x hx y m e=> ?_⟩;obtain⟨z,r,rfl⟩:=bM.1 hx;simp only[bV,fu,au] at m;have:=p1 z r;omega
  rw[fK,bR,ig];refine⟨p3,bJ,fun x hx y m e=> ?_⟩;obtain⟨z,r,rfl⟩:=bM.1 hx;simp only[bV,fu,au] at m;exact F z r (by rw[e,m])
 obtain⟨i,Q,k,g,A⟩:=n D (ak F);have u:=ak k;obtain rfl:Q=q:=aaX (h.ok Q u) p (by rw[<-g,I]);exact absurd u v
theorem Cm(h:gD w a n 1 (mZ bs)):(convert 140 9 (acX a n c)).run prog w= .ok (.string (strOfNums bs)) w:=by
 have f:bs.length=n:=by have:=h.1;simpa[mZ] using this
 subst f;by_cases d:bs.length=0
 ·obtain rfl:bs= []:=dA d
  cases a with
  |none=>exact run_convert_bytes_nil w _ _ underlying140 underlying5 _ _ _ underlying9
  |some p=>
   rw[run_convert_bytes_string w _ _ _ _ _ _ underlying140 underlying5 underlying9];have j:(loadCells p 0).run prog w= .ok #[] w:=by simpa using run_loadCells_list (P:=prog) w p [] bJ
   exact run_bytesToString w p 0 c [] j
 obtain⟨b,o,rfl,g,e⟩:=h.2 aR;exact run_convert_bytes_arg w _ _ underlying140 underlying5 b o bs.length c bs rfl (fun i H=>by rw[e i (.int .u8 (bs[i]'H)) (by simp[mZ,H])];simp[List.getD,H]) _ underlying9
end
end
section
open Go.RowKit Go.Proofs.Tryz Go.Maps
structure vC(w:World)(n b:Nat)(K:List (Int×List Int)):Prop where
 obj:aZ w n 155 #[.map (some b)]
 map:wM w b K
section
variable{w w':World}{n b:Nat}{K:List (Int×List Int)}
theorem vC.ne(h:vC w n b K):n≠b:=by rintro rfl;obtain⟨e,c,H,_⟩:=h.map.ex;have:=h.obj;unfold aZ at this;rw[this] at H;cases H
theorem vC.far{cs:AV}(h:vC w n b K)(a:aZ w g t cs):b≠g:=by rintro rfl;obtain⟨e,c,H,_⟩:=h.map.ex;unfold aZ at a;rw[a] at H;cases H
theorem vC.only(h:vC w n b K)(H:Only S w w')(a:n∉S)(c:b∉S):vC w' n b K:=⟨h.obj.only H a,h.map.only H c⟩
theorem vC.below(h:vC w n b K)(H:Be w w'):vC w' n b K:=h.only (Only.of_below (S:= []) H) bJ bJ
theorem vC.drewN(h:vC w n b K)(j:Nat):vC (w.drewN j) n b K:=⟨h.obj.drewN j,h.map.drewN j⟩
end
theorem abg(w:World):Y 42 #[] w fun e w'=> ∃n b,e=acK (n:Nat)/\vC w' n b []/\w.heap.size<=n/\w.heap.size<=b/\Be w w':=by
 have a:= @run_makeMap prog;go_enter func42,ntmps42
 go_wp2
 go_ret;have H:Be w (w.alloc (.map #[] 0)):=nC;refine⟨(w.alloc (.map #[] 0)).heap.size,w.heap.size,bJ,⟨aZ.new _ _ _,⟨⟨#[],0,?_,rfl,bJ,bJ⟩,bJ,bJ,bJ,?_⟩⟩,bJ,aF _,H.alloc H.size _⟩
 ·rw[Below.heap_alloc _ _ _ bJ]
  exact heap_alloc_new w _
 intro E c h;rw[Below.heap_alloc _ _ _ bJ] at h;have e:=(heap_alloc_new w (.map #[] 0)).symm.trans h;injection e with e;injection e with e1 e2;subst e1;simp
theorem Ow(n b:Nat)(K:List (Int×List Int))(p:Int)(a:OA)(m c:Nat)(bs:LI)(w:World)(h:vC w n b K)(f:gD w a m 1 (mZ bs))(g:Ns (p,bs))(x:Int)(hx:num K (p,bs)=x)(is:Bool)(H:decide ((p,bs)∈K)=is):
  Y 195 #[n,U p,acX a m c] w fun e w'=>e=acK (ac2 #[U x,is])/\ ∃j,w'=w.drewN j:=by
 subst hx;subst H;have C:=h.obj.at_ 0;obtain⟨s,d⟩:=ex (strOfNums bs);have F: ∀j,(convert 140 9 (acX a m c)).run prog (w.drewN j)= .ok (.string s) (w.drewN j):=fun j=>by rw[d];exact Cm (w:=w.drewN j) f
 have i: ∀j,(Instr.lookup 153 (.map (some b)) (acY #[U p,.string s]) true).run prog (w.drewN j)= .ok (ac2 #[U (num K (p,bs)),(decide ((p,bs)∈K))]) (w.drewN j):=fun j=>by have e:=(h.map.drewN j).look g;rw[show kv (p,bs)=acY #[U p,.string s] by rw[d];rfl] at e;exact e
 clear h f d;go_enter func195,ntmps195;go_wp2_with fail;go_quiet(fail);go_wp2_with fail;go_ret2
 exact⟨rfl,_,rfl⟩
theorem Jo(n b:Nat)(K:List (Int×List Int))(p:Int)(a:OA)(m c:Nat)(bs:LI)(k:Int)(w:World)(h:vC w n b K)(t:gD w a m 1 (mZ bs))(s:Ns (p,bs))(r:Bool)(d:(decide ((p,bs)∈K)&&decide (num K (p,bs)=k))=r):
  Y 156 #[n,U p,acX a m c,U k] w fun e w'=>e=acK r/\ ∃j,w'=w.drewN j:=by
 obtain⟨H,l,i⟩:=j3 h t s;obtain⟨x,hx⟩: ∃x,num K (p,bs)=x:=⟨_,rfl⟩;rw[hx] at d;have o:=jj hx;clear h t s hx;by_cases f:(p,bs)∈K
 ·have g:=jj (decide_eq_true f)
  rw[decide_eq_true f,iw] at d;clear f;by_cases q:x=k
  ·subst q
   obtain rfl:true=r:=by rw[<-d];simp
   clear d;go_enter func156,ntmps156;go_wp2_with fail;refine(Ow n b K p a m c bs _ H l i x o true g).mono ?_;rintro e w' ⟨rfl,j,rfl⟩;go_wp2_with fail;go_ret;exact⟨rfl,j,rfl⟩
  obtain rfl:false=r:=by rw[<-d];simp[q]
  clear d;have u:(x==k)=false:=by simp[q]
  go_enter func156,ntmps156;go_wp2_with fail;refine(Ow n b K p a m c bs _ H l i x o true g).mono ?_;rintro e w' ⟨rfl,j,rfl⟩;go_wp2_with fail;go_ret;exact⟨rfl,j,rfl⟩
 have g:=jj (decide_eq_false f);rw[decide_eq_false f,kN] at d;subst d;clear f;go_enter func156,ntmps156;go_wp2_with fail;refine(Ow n b K p a m c bs _ H l i x o false g).mono ?_;rintro e w' ⟨rfl,j,rfl⟩;go_wp2_with fail;go_ret;exact⟨rfl,j,rfl⟩
end
structure ni where
 foot:List Nat
 P:Nat->World->Prop
structure ni.Good(c:ni):Prop where
 only: ∀{x:Nat} {w w':World} {S:LN},c.P x w->Only S w w'->(∀g∈S,nV x w g)->Nr w S->(∀k∈c.foot,k∉S)->c.P x w'
 re: ∀{x y:Nat} {w:World},c.P x w->w.heap.size<=y->c.P y w
 mv: ∀{x y:Nat} {w w':World},c.P x w->c.P x w'->w.heap.size<=y->c.P y w'
 lt: ∀{x:Nat} {w:World},c.P x w-> ∀k∈c.foot,k<w.heap.size
 soft: ∀{x:Nat} {w:World},c.P x w-> ∀k∈c.foot,nV x w k
 noC: ∀{x:Nat} {w:World},c.P x w->Nr w c.foot
def nE(L:List ni):List Nat:=L.flatMap ni.foot
def Apart(a b:ni):Prop:= ∀k∈a.foot,k∉b.foot
structure Sys(x:Nat)(w:World)(L:List ni):Prop where
 good: ∀c∈L,c.Good
 at_: ∀c∈L,c.P x w
 sep:L.Pairwise Apart
structure Step(x:Nat)(w w':World)(L L':List ni):Prop where
 sys:Sys x w' L'
 only:Only (nE L) w w'
 new: ∀k∈nE L',k∈nE L\/w.heap.size<=k
section
variable{x y:Nat}{w w' w'':World}{L L' L'':List ni}{c c':ni}{S:LN}
theorem Apart.symm{a b:ni}(h:Apart a b):Apart b a:=fun k c H=>h k H c
theorem Sys.get(h:Sys x w L)(H:L[j]?=some c):c.P x w:=h.at_ c (ak H)
theorem Sys.apart(h:Sys x w L){i:Nat}{a b:ni}(g:L[i]?=some a)(k:L[j]?=some b)(c:i≠j):Apart a b:=by
 obtain⟨d,e⟩:=ah.1 g;obtain⟨f,E⟩:=ah.1 k;rcases Nat.lt_or_gt_of_ne c with H|H
 ·have:=eO.1 h.sep i j d f H
  rwa [e,E] at this
 have:=eO.1 h.sep j i f d H;rw[e,E] at this;exact this.symm
theorem pY(h:L[j]?=some c)(H:k∈c.foot):k∈nE L:=bg.2 ⟨c,ak h,H⟩
theorem Sys.lt(h:Sys x w L): ∀k∈nE L,k<w.heap.size:=fun k H=>by obtain⟨c,a,H⟩:=bg.1 H;exact(h.good c a).lt (h.at_ c a) k H
theorem Sys.soft(h:Sys x w L): ∀k∈nE L,nV x w k:=fun k H=>by obtain⟨c,a,H⟩:=bg.1 H;exact(h.good c a).soft (h.at_ c a) k H
theorem Sys.noC(h:Sys x w L):Nr w (nE L):=fun k H=>by obtain⟨c,a,H⟩:=bg.1 H;exact(h.good c a).noC (h.at_ c a) k H
theorem Sys.only(h:Sys x w L)(f:Only S w w')(b: ∀g∈S,nV x w g)(a:Nr w S)(e: ∀k∈nE L,k∉S):Sys x w' L:=
 ⟨h.good,fun c H=>(h.good c H).only (h.at_ c H) f b a fun k d=>e k (bg.2 ⟨c,H,d⟩),h.sep⟩
theorem Nr.nil(w:World):Nr w []:=fun g h=>by simp at h
theorem Sys.below(h:Sys x w L)(H:Be w w'):Sys x w' L:=h.only (Only.of_below (S:= []) H) bJ (Nr.nil _) bJ
theorem Sys.re(h:Sys x w L)(a:w.heap.size<=y):Sys y w L:=⟨h.good,fun c H=>(h.good c H).re (h.at_ c H) a,h.sep⟩
theorem Sys.mv(h:Sys x w L)(a:Sys x w' L)(b:w.heap.size<=y):Sys y w' L:=⟨h.good,fun c H=>(h.good c H).mv (h.at_ c H) (a.at_ c H) b,h.sep⟩
theorem zO{α:Type}{R:α->α->Prop}{M:List α}(h: ∀(p q:Nat) (c d:α),p≠q->M[p]?=some c->M[q]?=some d->R c d):M.Pairwise R:=
 eO.2 fun i j H a b=>h i j _ _ aR (aj H) (aj a)
theorem Sys.turn(h:Sys x w L)(r:L[j]?=some c)(u:Only S w w')(A: ∀k∈S,k∈c.foot\/w.heap.size<=k)(z:c'.P x w')(B:c'.Good)(v: ∀k∈c'.foot,k∈c.foot\/w.heap.size<=k):Step x w w' L (L.set j c'):=by
 have u:Only c.foot w w':=u.mono A;have f:=ak r;have o:=(h.good c f).soft (h.at_ c f);have t:=(h.good c f).noC (h.at_ c f);have key: ∀i b,i≠j->L[i]?=some b->b.P x w':=fun i b a H=>(h.good b (ak H)).only (h.at_ b (ak H)) u o t (h.apart H r a);have m:j<L.length:=(ah.1 r).1;refine⟨⟨fun b H=> ?_,fun b H=> ?_,zO fun p q b d n H g=> ?_⟩,u.mono fun k l=> .inl (pY r l),fun k l=> ?_⟩
 ·rcases cB H with H|rfl
  ·exact h.good b H
  exact B
 ·obtain⟨i,a⟩:=bT.1 H
  by_cases e:i=j
  ·subst e
   rw[aL m] at a;injection a with a;exact a▸z
  rw[aX (dR e)] at a;exact key i b e a
 ·have far: ∀i b,i≠j->L[i]?=some b->Apart c' b:=fun i b a H k l y=>by
   rcases v k l with l|l
   ·exact h.apart r H (dR a) k l y
   have:=(h.good b (ak H)).lt (h.at_ b (ak H)) k y;omega
  by_cases e:p=j
  ·subst e
   rw[aL m] at H;rw[aX n] at g;injection H with H;exact H▸far q d (dR n) g
  rw[aX (dR e)] at H;by_cases E:q=j
  ·subst E
   rw[aL m] at g;injection g with g;exact g▸(far p b e H).symm
  rw[aX (dR E)] at g;exact h.apart H g n
 obtain⟨b,H,s⟩:=bg.1 l;rcases cB H with H|rfl
 ·exact .inl (bg.2 ⟨b,H,s⟩)
 exact(v k s).imp (pY r) id
theorem Step.refl(h:Sys x w L):Step x w w L L:=⟨h,Only.refl _ _,fun k H=> .inl H⟩
theorem Step.trans(h:Step x w w' L L')(k:Step x w' w'' L' L''):Step x w w'' L L'':=
 ⟨k.sys,h.only.then k.only h.new,fun b H=>by
  rcases k.new b H with H|H
  ·exact h.new b H
  exact .inr (aG h.only.size H)⟩
theorem Step.below(h:Step x w w' L L')(H:Be w' w''):Step x w w'' L L':=⟨h.sys.below H,h.only.belows H,h.new⟩
theorem Sys.step(h:Sys x w L)(H:Be w w'):Step x w w' L L:=(Step.refl h).below H
theorem Step.turn(h:Step x w w' L L')(e:L'[j]?=some c)(f:Only S w' w'')(a: ∀k∈S,k∈c.foot\/w'.heap.size<=k)(H:c'.P x w'')(d:c'.Good)(b: ∀k∈c'.foot,k∈c.foot\/w'.heap.size<=k):Step x w w'' L (L'.set j c'):=
 h.trans (h.sys.turn e f a H d b)
theorem Sys.add(h:Sys x w L)(d:c.P x w)(g:c.Good)(f: ∀k∈c.foot,k∉nE L):Sys x w (L++ [c]):=
 ⟨fun b H=>by
  rcases aQ.1 H with H|H
  ·exact h.good b H
  ·rw[au] at H
   exact H▸g,fun b H=>by
  rcases aQ.1 H with H|H
  ·exact h.at_ b H
  ·rw[au] at H
   exact H▸d,kP.2 ⟨h.sep,lZ _ _,fun a e b H k i j=>by rw[au] at H;subst H;exact f k j (bg.2 ⟨a,e,i⟩)⟩⟩
theorem Sys.nil(x:Nat)(w:World):Sys x w []:=⟨bJ,bJ,iE⟩
theorem Sys.split{M:List ni}(h:Sys x w (L++M)):Sys x w L/\Sys x w M/\ ∀b∈nE L,b∉nE M:=by obtain⟨e,f,g⟩:=kP.1 h.sep;refine⟨⟨fun b H=>h.good b (bL _ H),fun b H=>h.at_ b (bL _ H),e⟩,⟨fun b H=>h.good b (bH _ H),fun b H=>h.at_ b (bH _ H),f⟩,fun k c d=> ?_⟩;obtain⟨a,i,c⟩:=bg.1 c;obtain⟨b,H,d⟩:=bg.1 d;exact g a i b H k c d
theorem zU(L M:List ni):nE (L++M)=nE L++nE M:=by simp[nE]
def uM(L:List ni):ni:=⟨nE L,fun x w=>Sys x w L⟩
theorem BD(h: ∀c∈L,c.Good):(uM L).Good:=
 ⟨fun h f d b e=>Sys.only h f d b e,fun h H=>Sys.re h H,fun h a H=>Sys.mv h a H,fun h=>Sys.lt h,fun h=>Sys.soft h,fun h=>Sys.noC h⟩
theorem Sys.two(h:Sys x w L){i:Nat}{a b:ni}(d:L[i]?=some a)(e:L[j]?=some b)(f:i≠j):Sys x w [a,b]:=
 ⟨fun c H=>by
  simp only[ay,aI,or_false] at H;rcases H with rfl|rfl
  ·exact h.good _ (ak d)
  ·exact h.good _ (ak e),fun c H=>by
  simp only[ay,aI,or_false] at H;rcases H with rfl|rfl
  ·exact h.get d
  ·exact h.get e,by simp only[eu,au,forall_eq,aI,false_imp_iff,implies_true,iE,and_true];exact h.apart d e f⟩
theorem Df(a b:ni):nE [a,b]=a.foot++b.foot:=by simp[nE]
theorem Sys.aav(h:Sys x w L){i:Nat}{a b a' b':ni}(z:L[i]?=some a)(A:L[j]?=some b)(D:i≠j)(s:Step x w w' [a,b] [a',b']):Step x w w' L ((L.set i a').set j b'):=by
 have B:i<L.length:=(ah.1 z).1;have C:j<L.length:=(ah.1 A).1;have N:=s.only;rw[Df] at N;have S:=(h.two z A D);have l:=S.soft;have r:=S.noC;rw[Df] at l r;have new:=s.new;simp only[Df,aQ] at new;have key: ∀k c,k≠i->k≠j->L[k]?=some c->c.P x w':=fun k c n o f=>(h.good c (ak f)).only (h.get f) N l r fun b M m=>by
  rcases aQ.1 m with m|m
  ·exact h.apart f z n b M m
  exact h.apart f A o b M m
 have far: ∀k c,k≠i->k≠j->L[k]?=some c->Apart a' c/\Apart b' c:=fun k c n o f=>by
  have hold: ∀q,(q∈a.foot\/q∈b.foot)\/w.heap.size<=q->q∉c.foot:=fun q g m=>by
   rcases g with(g|g)|g
   ·exact h.apart z f (dR n) q g m
   ·exact h.apart A f (dR o) q g m
   have:=(h.good c (ak f)).lt (h.get f) q m;omega
  exact⟨fun q g=>hold q (new q (.inl g)),fun q g=>hold q (new q (.inr g))⟩
 have I:Apart a' b':=by have:=eu.1 s.sys.sep;exact this.1 b' bJ
 have at_: ∀k c,((L.set i a').set j b')[k]?=some c->(k=j/\c=b')\/(k=i/\c=a')\/(k≠i/\k≠j/\L[k]?=some c):=fun k c H=>by
  by_cases e:k=j
  ·subst e
   rw[aL (mR C)] at H;injection H with H;exact .inl ⟨rfl,H.symm⟩
  rw[aX (dR e)] at H;by_cases E:k=i
  ·subst E
   rw[aL B] at H;injection H with H;exact .inr (.inl ⟨rfl,H.symm⟩)
  rw[aX (dR E)] at H;exact .inr (.inr ⟨E,e,H⟩)
 refine⟨⟨fun c f=> ?_,fun c f=> ?_,zO fun p q c d G f O=> ?_⟩,s.only.mono fun k H=> ?_,?_⟩
 ·obtain⟨k,H⟩:=bT.1 f
  rcases at_ k c H with⟨_,rfl⟩|⟨_,rfl⟩|⟨_,_,H⟩
  ·exact s.sys.good _ bJ
  ·exact s.sys.good _ bJ
  exact h.good c (ak H)
 ·obtain⟨k,H⟩:=bT.1 f
  rcases at_ k c H with⟨_,rfl⟩|⟨_,rfl⟩|⟨n,o,H⟩
  ·exact s.sys.at_ _ bJ
  ·exact s.sys.at_ _ bJ
  exact key k c n o H
 ·rcases at_ p c f with⟨P,rfl⟩|⟨P,rfl⟩|⟨n,o,u⟩<;>rcases at_ q d O with⟨g,rfl⟩|⟨g,rfl⟩|⟨J,K,v⟩
  ·omega
  ·exact I.symm
  ·exact(far q d J K v).2
  ·exact I
  ·omega
  ·exact(far q d J K v).1
  ·exact(far p c n o u).2.symm
  ·exact(far p c n o u).1.symm
  exact h.apart u v G
 ·rw[Df] at H
  exact .inl ((aQ.1 H).elim (pY z) (pY A))
 intro k H;obtain⟨c,f,y⟩:=bg.1 H;have F:(k∈a.foot\/k∈b.foot)\/w.heap.size<=k->k∈nE L\/w.heap.size<=k:=fun t=>by
  rcases t with(t|t)|t
  ·exact .inl (pY z t)
  ·exact .inl (pY A t)
  exact .inr t
 rcases cB f with f|rfl
 ·rcases cB f with f|rfl
  ·exact .inl (bg.2 ⟨c,f,y⟩)
  exact F (new k (.inl y))
 exact F (new k (.inr y))
structure sV(L:List ni)(w:World)(g:Nat)(t:TypeId)(cs:AV):Prop where
 blk:aZ w g t cs
 far:g∉nE L
theorem sV.new{t:TypeId}{cs:AV}(h:Sys x w L)(H:aZ w' g t cs)(b:w.heap.size<=g):sV L w' g t cs:=⟨H,fun a=>by have:=h.lt g a;omega⟩
theorem sV.step{t:TypeId}{cs:AV}(h:sV L w g t cs)(st:Step x w w' L L'):sV L' w' g t cs:=⟨h.blk.only st.only h.far,fun H=>(st.new g H).elim h.far fun a=>by have:=h.blk.lt;omega⟩
theorem sV.below{t:TypeId}{cs:AV}(h:sV L w g t cs)(H:Be w w'):sV L w' g t cs:=⟨h.blk.below H h.blk.lt,h.far⟩
theorem sV.drew{t:TypeId}{cs:AV}(h:sV L w g t cs):sV L w.drew g t cs:=⟨h.blk.drew,h.far⟩
theorem abx{base c:Nat}{t:TypeId}(h:w.ownsRow base t s (acX a n c) n xs)(H:x<base)(f:t∈KH)(e:Sys x w L)(st:Step x w w' L L'):w'.ownsRow base t s (acX a n c) n xs:=
 mK h st.only fun g b d=>(Fixed.own h H).far f e.soft g (by rw[<-dQ];exact b) d
structure PO(L:List ni)(w:World)(base:Nat)(t:TypeId)(s n:Nat)(v:Value)(xs:LV):Prop where
 own:w.ownsRow base t s v n xs
 far: ∀g,v.ownBlock=some g->g∉nE L
theorem PO.step{base:Nat}{t:TypeId}(h:PO L w base t s n v xs)(st:Step x w w' L L'):PO L' w' base t s n v xs:=
 ⟨mK h.own st.only h.far,fun g H a=>(st.new g a).elim (h.far g H) fun b=>by have:=(dG h.own g H).2;omega⟩
theorem PO.below{base:Nat}{t:TypeId}(h:PO L w base t s n v xs)(H:Be w w'):PO L w' base t s n v xs:=⟨own_below h.own H,h.far⟩
theorem Step.size(st:Step x w w' L L'):w.heap.size<=w'.heap.size:=st.only.size
end
abbrev Xk:=Option (Int×List Rq)
def ny(b:List Rq):List Xk->Nat->Nat->List Vo
 | [],_,_=> []
 |none::l,k,q=>ny b l (k+1) q
 |some (s,c)::l,k,q=>if c=b/\0<q then((k:Int),s)::ny b l (k+1) (q -1) else ny b l (k+1) q
def qx(q:Nat)(l:List Xk)(b:List Rq):Option (List Vo):=if(ny b l 0 q).length=q then some (ny b l 0 q) else none
def mQ(q:Nat)(l:List Xk):List Xk->Option (List Rq×List Vo)
 | []=>none
 |none::r=>mQ q l r
 |some (_,b)::r=>match qx q l b with
  |some vs=>some (b,vs)
  |none=>mQ q l r
structure rC where
 has:Bool
 sg:Int
 ba:Option Addr
 bn:Nat
 bc:Nat
 bs:List Rq
deriving Inhabited
def Ki(v:rC):List Value:= [v.has,U v.sg,acX v.ba v.bn v.bc]
theorem adr(v:rC):(Ki v).length=3:=rfl
def rC.val(v:rC):Xk:=if v.has then some (v.sg,v.bs) else none
def rC.Is(x:Nat)(w:World)(v:rC):Prop:=sK x w v.ba v.bn v.bc v.bs
structure CQ where
 has:Bool
 ba:Option Addr
 bn:Nat
 bc:Nat
 bs:List Rq
 gp:Nat
 pr:List rC
 gc:Nat
 co:List rC
deriving Inhabited
def WA(f:Int)(n:Nat)(s:CQ):Array Value:=#[U f,s.has,acX s.ba s.bn s.bc,O s.gp n n,O s.gc n n]
structure mM(x:Nat)(w:World)(f:Int)(n:Nat)(g:Nat)(s:CQ):Prop where
 blk:aZ w g 271 (WA f n s)
 bp:aZ w s.gp 408 (s.pr.flatMap Ki).toArray
 bc:aZ w s.gc 408 (s.co.flatMap Ki).toArray
 np:s.pr.length=n
 nc:s.co.length=n
 ne:s.gp≠s.gc
 b:sK x w s.ba s.bn s.bc s.bs
 ps: ∀v∈s.pr,v.Is x w
 cs: ∀v∈s.co,v.Is x w
section
variable{x y:Nat}{w w':World}{f:Int}{n g:Nat}{s:CQ}{S:LN}
def CQ.foot(g:Nat)(s:CQ):List Nat:= [g,s.gp,s.gc]
theorem rC.Is.only{v:rC}(h:v.Is x w)(a:Only S w w')(H: ∀g∈S,nV x w g):v.Is x w':=sK.only h a H
theorem rC.Is.below{v:rC}(h:v.Is x w)(H:Be w w'):v.Is x w':=sK.below h H
theorem rC.Is.re{v:rC}(h:v.Is x w)(H:w.heap.size<=y):v.Is y w:=sK.re h H
theorem mM.only(h:mM x w f n g s)(H:Only S w w')(a: ∀g∈S,nV x w g)(b: ∀k∈s.foot g,k∉S):mM x w' f n g s:=
 ⟨h.blk.only H (b _ (by simp[CQ.foot])),h.bp.only H (b _ (by simp[CQ.foot])),h.bc.only H (b _ (by simp[CQ.foot])),h.np,h.nc,h.ne,h.b.only H a,fun v c=>(h.ps v c).only H a,fun v c=>(h.cs v c).only H a⟩
theorem mM.below(h:mM x w f n g s)(H:Be w w'):mM x w' f n g s:=
 ⟨h.blk.below H h.blk.lt,h.bp.below H h.bp.lt,h.bc.below H h.bc.lt,h.np,h.nc,h.ne,h.b.below H,fun v a=>(h.ps v a).below H,fun v a=>(h.cs v a).below H⟩
theorem mM.re(h:mM x w f n g s)(a:w.heap.size<=y):mM y w f n g s:=
 ⟨h.blk,h.bp,h.bc,h.np,h.nc,h.ne,h.b.re a,fun v H=>(h.ps v H).re a,fun v H=>(h.cs v H).re a⟩
theorem mM.soft(h:mM x w f n g s): ∀k∈s.foot g,nV x w k:=by
 intro k H;simp only[CQ.foot,ay,aI,or_false] at H;rcases H with rfl|rfl|rfl
 ·exact nV.of h.blk aV
 ·exact nV.of h.bp aV
 exact nV.of h.bc aV
theorem mM.lt(h:mM x w f n g s): ∀k∈s.foot g,k<w.heap.size:=by
 intro k H;simp only[CQ.foot,ay,aI,or_false] at H;rcases H with rfl|rfl|rfl
 ·exact h.blk.lt
 ·exact h.bp.lt
 exact h.bc.lt
theorem mM.gne(h:mM x w f n g s):g≠s.gp/\g≠s.gc:=⟨h.blk.nY h.bp aV,h.blk.nY h.bc aV⟩
end
structure Rd(w0 w:World)(gr:Nat)(a:OA)(m c:Nat)(bs:LI)(k:Nat):Prop where
 blk:aZ w gr 398 #[acX a m c,U k,false]
 row:gD w0 a m 1 (mZ bs)
 len:bs.length=m
 small:m<=1048576
 below:Be w0 w
 ge:w0.heap.size<=gr
theorem Rd.keep(h:Rd w0 w gr a m c bs k)(H:Be w w'):Rd w0 w' gr a m c bs k:=
 ⟨h.blk.below H h.blk.lt,h.row,h.len,h.small,h.below.trans (H.mono h.below.size),h.ge⟩
theorem Rd.next(h:Rd w0 w gr a m c bs k)(j:Nat)(H:w'=w.drew.setCell (adZ gr 1) (U j)):Rd w0 w' gr a m c bs j/\Only [gr] w w':=by
 have o:Only [gr] w w':=by rw[H];exact((Only.refl [gr] w).drewN 1).setCell (.inl bJ) _
 exact⟨⟨by rw[H];exact(h.blk.drew).fU 1 _,h.row,h.len,h.small,o.below h.below h.below.size (mR h.ge),h.ge⟩,o⟩
theorem ug(h:Rd w0 w gr a m c bs k)(n:Nat)(l:n<1099511627776)(d:At bs k (mD n)):
  Y 274 #[gr] w fun e w'=>e=acK (U n)/\Rd w0 w' gr a m c bs (k+(mD n).length)/\Only [gr] w w':=by
 obtain⟨C,i,p⟩:=h.blk.a3;have F:w.drew.frozen? (adZ gr 1)=false:=h.blk.frozen 1;have q:J w.drew gr 1 (U k):=i;have D:J w.drew gr 0 (acX a m c):=C;have H:=jj h;have f:=jj d;obtain⟨j,g⟩:=ex (k+(mD n).length);rw[<-g];have o:=jj g;clear h d g;go_enter func274,ntmps274;go_upto_region 3 with fail;refine rP (fun w'=>J w' gr 0 (acX a m c)/\J w' gr 1 (U k)) 16 (tk 0 8 (.one 8 (tk 9 7 .done))) ⟨D,q⟩ ?_;intro b
 repeat refine' tT ?_
 refine pO fun KT bq=> ?_;go_simp;refine(lJ a m c bs k n l H.len H.small _ (H.row.below (H.below.drew)) f).mono ?_;rintro e w' ⟨rfl,rfl⟩;rw[<-o.out];refine oH bq b ?_
 repeat refine' tT ?_
 refine aU ?_;clear b C i p D l;go_wp2_with fail;go_ret;obtain⟨r,R⟩:=H.next j rfl;exact⟨by trivial,r,R⟩
theorem abV(h:Rd w0 w gr a m c bs k)(z:Int)(j:wP z)(b:At bs k (vg z)):
  Y 275 #[gr] w fun e w'=>e=acK (U z)/\Rd w0 w' gr a m c bs (k+(vg z).length)/\Only [gr] w w':=by obtain⟨H,d,f⟩:=j3 h b j;clear h b j;go_enter func275,ntmps275;go_wp2_with fail;refine(ug H (zig z) (J9 f) d).mono ?_;rintro e W ⟨rfl,i,g⟩;have R:=jj i;have O:=jj g;clear i g;go_wp2_with fail;refine(afQ z f _).mono ?_;rintro e w' ⟨rfl,rfl⟩;go_wp2_with fail;go_ret;exact⟨by trivial,R,O⟩
abbrev Kh(r:Rq):Value:=acY (rA r).toArray
theorem ahF(w:World)(r:Rq)(k:xH r):
  Y 146 #[Kh r] w fun e w'=> ∃a c',e=acK (ac2 #[acX a (oK r).length c',true])/\w'.ownsRow w.heap.size 5 1 (acX a (oK r).length c') (oK r).length (mZ (oK r))/\Be w w':=by
 obtain⟨R,c,d,f,g,i⟩:=r;have m:=jj k;clear k;show Y 146 #[acY #[U R,U c,U d,U f,U g,U i]] w _;go_enter func146,ntmps146;go_upto_region 1 with fail;generalize hw1:w.alloc _=w1;generalize hgb:w.heap.size=gb;replace hw1:=hw1.symm;replace hgb:=hgb.symm;have h:=(tQ hw1).out;have b:aZ w1 gb 49 #[U R,U c,U d,U f,U g,U i]:=by rw[hw1,hgb];exact aZ.new _ _ _
 have D: ∀o,J (w1.alloc o) gb 0 (U R):=fun o=>(b.alloc o).cell 0;have p: ∀o,J (w1.alloc o) gb 1 (U c):=fun o=>(b.alloc o).cell 1;have q: ∀o,J (w1.alloc o) gb 2 (U d):=fun o=>(b.alloc o).cell 2;have s: ∀o,J (w1.alloc o) gb 3 (U f):=fun o=>(b.alloc o).cell 3;have t: ∀o,J (w1.alloc o) gb 4 (U g):=fun o=>(b.alloc o).cell 4;have u: ∀o,J (w1.alloc o) gb 5 (U i):=fun o=>(b.alloc o).cell 5;have n:=F9 (Wr w (w1.alloc (.cells #[(),false] 305)) w1.heap.size []) ⟨⟨none,0,aZ.new _ _ _,⟨rfl,.inl ⟨rfl,rfl⟩⟩⟩,h.alloc h.size _,h.size⟩;clear hw1 hgb h b;go_wp2_with fail;refine(acH n (R,c,d,f,g,i) m bJ).mono ?_;rintro e v ⟨rfl,H,-⟩;rw[bU] at H;have W:=jj H;clear H;go_wp2_with fail;refine(Iq W).mono ?_;rintro e w' ⟨a,c',rfl,j,rfl⟩;have l:=jj j;clear j;go_wp2_with fail;go_ret2
 exact⟨a,c',by trivial,l,W.below⟩
def gM(r:Rq):List Int:=oK (r.1,r.2.1,r.2.2.1,r.2.2.2.1,r.2.2.2.2.1,0)
theorem af3(w:World)(r:Rq)(l:xH (r.1,r.2.1,r.2.2.1,r.2.2.2.1,r.2.2.2.2.1,0)):
  Y 114 #[Kh r] w fun e w'=> ∃A c',e=acK (ac2 #[acX A (gM r).length c',true])/\w'.ownsRow w.heap.size 5 1 (acX A (gM r).length c') (gM r).length (mZ (gM r))/\Be w w':=by
 obtain⟨R,c,d,f,g,m⟩:=r;have p:=F9 (xH (R,c,d,f,g,0)) l;clear l;show Y 114 #[acY #[U R,U c,U d,U f,U g,U m]] w _;go_enter func114,ntmps114;go_upto_region 1 with fail;generalize hw1:w.alloc _=w1;generalize hgb:w.heap.size=gb;replace hw1:=hw1.symm;replace hgb:=hgb.symm;have h:=(tQ hw1).out;have b:aZ w1 gb 49 #[U R,U c,U d,U f,U g,U m]:=by rw[hw1,hgb];exact aZ.new _ _ _
 have C:=b.at_ 5;have F:=b.frozen 5;have B:=b.fU 5 (U 0);have H:Be w (w1.setCell (adZ gb 5) (U 0)):=((Only.refl [gb] w1).setCell (.inl bJ) _).below h h.size (by simp[hgb]);clear hw1 hgb h b;go_upto_region 2 with fail;obtain⟨W,a⟩:=ex (w1.setCell (adZ gb 5) (U 0));rw[<-a] at B H|-;obtain⟨D,q,s,t,u,v⟩:=B.a6;have i:=jj H;clear a C F B H;go_wp2_with fail;refine(ahF _ (R,c,d,f,g,0) p).mono ?_;rintro e x ⟨A,c',rfl,k,j⟩;have o:=jj (mO k i.size);have n:=nO i j;clear k j;go_wp2_with fail;go_ret2
 exact⟨A,c',by trivial,o,n⟩
theorem Wt(w:World)(r:Rq)(h:xH r):
  Y 114 #[Kh r] w fun e w'=> ∃a c',e=acK (ac2 #[acX a (gM r).length c',true])/\w'.ownsRow w.heap.size 5 1 (acX a (gM r).length c') (gM r).length (mZ (gM r))/\Be w w':=
 af3 w r ⟨h.1,h.2.1,h.2.2.1,h.2.2.2.1,h.2.2.2.2.1,(show qh 0 from⟨aV,aV⟩)⟩
def mq(cl:Int)(r:Rq):Bool:=decide (0<=r.1/\r.1<cl/\1<=r.2.1/\r.2.1<=1048576/\0<=r.2.2.2.2.2/\r.2.2.2.2.2<1099511627776)&&
 (decide (0<=r.2.2.2.1/\r.2.2.2.1<64/\ -2147483648<r.2.2.2.2.1/\r.2.2.2.2.1<2147483648)&&
 decide (r.2.2.1=1\/r.2.2.1=3\/((r.2.2.1=2\/r.2.2.1=4)/\r.2.2.2.2.1=0)\/(r.2.2.1=5/\r.2.2.2.1=0/\r.2.2.2.2.1=0)))
theorem D8(w:World)(cl:Int)(r:Rq)(b:Bool)(H:mq cl r=b):
  Y 113 #[Kh r,U cl] w fun e w'=>e=acK b/\Be w w':=by
 obtain⟨c,d,g,a,R,f⟩:=r;subst H;show Y 113 #[acY #[U c,U d,U g,U a,U R,U f],U cl] w _;rcases(show(c<0)\/(¬c<0/\cl<=c)\/(¬c<0/\ ¬cl<=c/\d<1)\/(¬c<0/\ ¬cl<=c/\ ¬d<1/\1048576<d)\/(¬c<0/\ ¬cl<=c/\ ¬d<1/\ ¬1048576<d/\f<0)\/(¬c<0/\ ¬cl<=c/\ ¬d<1/\ ¬1048576<d/\ ¬f<0/\1099511627776<=f)\/(¬c<0/\ ¬cl<=c/\ ¬d<1/\ ¬1048576<d/\ ¬f<0/\ ¬1099511627776<=f) by omega) with h1|⟨h1,h2⟩|⟨h1,h2,h3⟩|⟨h1,h2,h3,h4⟩|⟨h1,h2,h3,h4,h5⟩|⟨h1,h2,h3,h4,h5,h6⟩|⟨h1,h2,h3,h4,h5,h6⟩
 ·have V:=F9 (mq cl (c,d,g,a,R,f)=false) (by unfold mq;rw[decide_eq_false (by simp only;omega)];rfl)
  go_enter func113,ntmps113;go_wp2_with fail;go_ret
  first|exact⟨by rw[V.out];first|rfl|(show Ending.returned (R==0)=_;rw[beq_false_of_ne j]),nC.alloc bJ _⟩|exact⟨by rw[V.out];rfl,nC⟩
 ·have V:=F9 (mq cl (c,d,g,a,R,f)=false) (by unfold mq;rw[decide_eq_false (by simp only;omega)];rfl)
  go_enter func113,ntmps113;go_wp2_with fail;go_ret
  first|exact⟨by rw[V.out];first|rfl|(show Ending.returned (R==0)=_;rw[beq_false_of_ne j]),nC.alloc bJ _⟩|exact⟨by rw[V.out];rfl,nC⟩
 ·have V:=F9 (mq cl (c,d,g,a,R,f)=false) (by unfold mq;rw[decide_eq_false (by simp only;omega)];rfl)
  go_enter func113,ntmps113;go_wp2_with fail;go_ret
  first|exact⟨by rw[V.out];first|rfl|(show Ending.returned (R==0)=_;rw[beq_false_of_ne j]),nC.alloc bJ _⟩|exact⟨by rw[V.out];rfl,nC⟩
 ·have V:=F9 (mq cl (c,d,g,a,R,f)=false) (by unfold mq;rw[decide_eq_false (by simp only;omega)];rfl)
  go_enter func113,ntmps113;go_wp2_with fail;go_ret
  first|exact⟨by rw[V.out];first|rfl|(show Ending.returned (R==0)=_;rw[beq_false_of_ne j]),nC.alloc bJ _⟩|exact⟨by rw[V.out];rfl,nC⟩
 ·have V:=F9 (mq cl (c,d,g,a,R,f)=false) (by unfold mq;rw[decide_eq_false (by simp only;omega)];rfl)
  go_enter func113,ntmps113;go_wp2_with fail;go_ret
  first|exact⟨by rw[V.out];first|rfl|(show Ending.returned (R==0)=_;rw[beq_false_of_ne j]),nC.alloc bJ _⟩|exact⟨by rw[V.out];rfl,nC⟩
 ·have V:=F9 (mq cl (c,d,g,a,R,f)=false) (by unfold mq;rw[decide_eq_false (by simp only;omega)];rfl)
  go_enter func113,ntmps113;go_wp2_with fail;go_ret
  first|exact⟨by rw[V.out];first|rfl|(show Ending.returned (R==0)=_;rw[beq_false_of_ne j]),nC.alloc bJ _⟩|exact⟨by rw[V.out];rfl,nC⟩
 have v:decide (0<=c/\c<cl/\1<=d/\d<=1048576/\0<=f/\f<1099511627776)=true:=decide_eq_true aR;rcases(show(a<0)\/(¬a<0/\64<=a)\/(¬a<0/\ ¬64<=a/\R<= -2147483648)\/(¬a<0/\ ¬64<=a/\ ¬R<= -2147483648/\2147483648<=R)\/(¬a<0/\ ¬64<=a/\ ¬R<= -2147483648/\ ¬2147483648<=R) by omega) with k1|⟨k1,k2⟩|⟨k1,k2,k3⟩|⟨k1,k2,k3,k4⟩|⟨k1,k2,k3,k4⟩
 ·have V:=F9 (mq cl (c,d,g,a,R,f)=false) (by simp only[mq,v];rw[show decide (0<=a/\a<64/\ -2147483648<R/\R<2147483648)=false from decide_eq_false aR];rfl)
  go_enter func113,ntmps113;go_wp2_with fail;go_ret
  first|exact⟨by rw[V.out];first|rfl|(show Ending.returned (R==0)=_;rw[beq_false_of_ne j]),nC.alloc bJ _⟩|exact⟨by rw[V.out];rfl,nC⟩
 ·have V:=F9 (mq cl (c,d,g,a,R,f)=false) (by simp only[mq,v];rw[show decide (0<=a/\a<64/\ -2147483648<R/\R<2147483648)=false from decide_eq_false aR];rfl)
  go_enter func113,ntmps113;go_wp2_with fail;go_ret
  first|exact⟨by rw[V.out];first|rfl|(show Ending.returned (R==0)=_;rw[beq_false_of_ne j]),nC.alloc bJ _⟩|exact⟨by rw[V.out];rfl,nC⟩
 ·have V:=F9 (mq cl (c,d,g,a,R,f)=false) (by simp only[mq,v];rw[show decide (0<=a/\a<64/\ -2147483648<R/\R<2147483648)=false from decide_eq_false aR];rfl)
  go_enter func113,ntmps113;go_wp2_with fail;go_ret
  first|exact⟨by rw[V.out];first|rfl|(show Ending.returned (R==0)=_;rw[beq_false_of_ne j]),nC.alloc bJ _⟩|exact⟨by rw[V.out];rfl,nC⟩
 ·have V:=F9 (mq cl (c,d,g,a,R,f)=false) (by simp only[mq,v];rw[show decide (0<=a/\a<64/\ -2147483648<R/\R<2147483648)=false from decide_eq_false aR];rfl)
  go_enter func113,ntmps113;go_wp2_with fail;go_ret
  first|exact⟨by rw[V.out];first|rfl|(show Ending.returned (R==0)=_;rw[beq_false_of_ne j]),nC.alloc bJ _⟩|exact⟨by rw[V.out];rfl,nC⟩
 have h:decide (0<=a/\a<64/\ -2147483648<R/\R<2147483648)=true:=decide_eq_true aR;rcases(show g=1\/g=3\/(g=2/\R=0)\/(g=2/\R≠0)\/(g=4/\R=0)\/(g=4/\R≠0)\/(g=5/\a=0/\R=0)\/(g=5/\a=0/\R≠0)\/(g=5/\a≠0)\/(g≠1/\g≠2/\g≠3/\g≠4/\g≠5) by omega) with rfl|rfl|⟨rfl,rfl⟩|⟨rfl,j⟩|⟨rfl,rfl⟩|⟨rfl,j⟩|⟨rfl,rfl,rfl⟩|⟨rfl,rfl,j⟩|⟨rfl,j⟩|⟨j1,j2,j3,j4,j5⟩
 ·have V:=F9 (mq cl (c,d,1,a,R,f)=true) (by simp only[mq,v,h];simp)
  go_enter func113,ntmps113;go_wp2_with fail;go_ret
  first|exact⟨by rw[V.out];first|rfl|(show Ending.returned (R==0)=_;rw[beq_false_of_ne j]),nC.alloc bJ _⟩|exact⟨by rw[V.out];rfl,nC⟩
 ·have V:=F9 (mq cl (c,d,3,a,R,f)=true) (by simp only[mq,v,h];simp)
  go_enter func113,ntmps113;go_wp2_with fail;go_ret
  first|exact⟨by rw[V.out];first|rfl|(show Ending.returned (R==0)=_;rw[beq_false_of_ne j]),nC.alloc bJ _⟩|exact⟨by rw[V.out];rfl,nC⟩
 ·have V:=F9 (mq cl (c,d,2,a,0,f)=true) (by simp only[mq,v,h];simp)
  go_enter func113,ntmps113;go_wp2_with fail;go_ret
  first|exact⟨by rw[V.out];first|rfl|(show Ending.returned (R==0)=_;rw[beq_false_of_ne j]),nC.alloc bJ _⟩|exact⟨by rw[V.out];rfl,nC⟩
 ·have V:=F9 (mq cl (c,d,2,a,R,f)=false) (by simp only[mq,v,h];simp[j])
  go_enter func113,ntmps113;go_wp2_with fail;go_ret
  first|exact⟨by rw[V.out];first|rfl|(show Ending.returned (R==0)=_;rw[beq_false_of_ne j]),nC.alloc bJ _⟩|exact⟨by rw[V.out];rfl,nC⟩
 ·have V:=F9 (mq cl (c,d,4,a,0,f)=true) (by simp only[mq,v,h];simp)
  go_enter func113,ntmps113;go_wp2_with fail;go_ret
  first|exact⟨by rw[V.out];first|rfl|(show Ending.returned (R==0)=_;rw[beq_false_of_ne j]),nC.alloc bJ _⟩|exact⟨by rw[V.out];rfl,nC⟩
 ·have V:=F9 (mq cl (c,d,4,a,R,f)=false) (by simp only[mq,v,h];simp[j])
  go_enter func113,ntmps113;go_wp2_with fail;go_ret
  first|exact⟨by rw[V.out];first|rfl|(show Ending.returned (R==0)=_;rw[beq_false_of_ne j]),nC.alloc bJ _⟩|exact⟨by rw[V.out];rfl,nC⟩
 ·have V:=F9 (mq cl (c,d,5,0,0,f)=true) (by simp only[mq,v,h];simp)
  go_enter func113,ntmps113;go_wp2_with fail;go_ret
  first|exact⟨by rw[V.out];first|rfl|(show Ending.returned (R==0)=_;rw[beq_false_of_ne j]),nC.alloc bJ _⟩|exact⟨by rw[V.out];rfl,nC⟩
 ·have V:=F9 (mq cl (c,d,5,0,R,f)=false) (by simp only[mq,v,h];simp[j])
  go_enter func113,ntmps113;go_wp2_with fail;go_ret
  first|exact⟨by rw[V.out];first|rfl|(show Ending.returned (R==0)=_;rw[beq_false_of_ne j]),nC.alloc bJ _⟩|exact⟨by rw[V.out];rfl,nC⟩
 ·have V:=F9 (mq cl (c,d,5,a,R,f)=false) (by simp only[mq,v,h];simp[j])
  go_enter func113,ntmps113;go_wp2_with fail;go_ret
  first|exact⟨by rw[V.out];first|rfl|(show Ending.returned (R==0)=_;rw[beq_false_of_ne j]),nC.alloc bJ _⟩|exact⟨by rw[V.out];rfl,nC⟩
 have V:=F9 (mq cl (c,d,g,a,R,f)=false) (by simp only[mq,v,h];simp[j1,j2,j3,j4,j5]);go_enter func113,ntmps113;go_wp2_with fail;go_ret
 first|exact⟨by rw[V.out];first|rfl|(show Ending.returned (R==0)=_;rw[beq_false_of_ne j]),nC.alloc bJ _⟩|exact⟨by rw[V.out];rfl,nC⟩
theorem Rd.far(h:Rd w0 w gr a m c bs k)(H:Only S w w')(b:gr∉S)(d: ∀g∈S,w0.heap.size<=g):Rd w0 w' gr a m c bs k:=
 ⟨h.blk.only H b,h.row,h.len,h.small,H.below h.below h.below.size d,h.ge⟩
theorem abU(h:Rd w0 w gr a m c bs k)(r:Rq)(hr:xH r)(y0:At bs k (oK r)):
  Y 245 #[gr] w fun e w'=>e=acK (Kh r)/\Rd w0 w' gr a m c bs (k+(oK r).length)/\Only [gr] w w':=by
 obtain⟨z0,z1,z2,z3,z4,z5⟩:=r;obtain⟨p0,p1,p2,p3,p4,p5⟩:=hr;obtain⟨R,rfl⟩:=bB p0.1;obtain⟨b,rfl⟩:=bB p1.1;obtain⟨d,rfl⟩:=bB p2.1;obtain⟨l,rfl⟩:=bB p5.1;obtain⟨f,rfl⟩:=ex z3;obtain⟨j,rfl⟩:=ex z4;have N0:=F9 (R<1099511627776) (by have:=p0.2;simp only at this;omega);have N1:=F9 (b<1099511627776) (by have:=p1.2;simp only at this;omega);have N2:=F9 (d<1099511627776) (by have:=p2.2;simp only at this;omega);have N5:=F9 (l<1099511627776) (by have:=p5.2;simp only at this;omega);have N3:=jj p3;have N4:=jj p4;have EC:=y0;simp only[oK,bI] at EC;have A0:=jj EC.left;have ZM:=EC.right;have A1:=jj ZM.left;have Q:=ZM.right;have A2:=jj Q.left;have T:=Q.right;have A3:=jj T.left;have V:=T.right;have A4:=jj V.left;have A5:=jj V.right;have LL:=F9 (k+(oK ((R:Int),(b:Int),(d:Int),f,j,(l:Int))).length=k+(mD R).length+(mD b).length+(mD d).length+(vg f).length+(vg j).length+(mD l).length) (by simp only[oK,bI,av];omega);clear y0 EC ZM Q T V p0 p1 p2 p3 p4 p5;show Y 245 #[gr] w fun e w'=>e=acK (acY #[U R,U b,U d,U f,U j,U l])/\Rd w0 w' gr a m c bs (k+(oK ((R:Int),(b:Int),(d:Int),f,j,(l:Int))).length)/\Only [gr] w w';rw[LL.out];have H:=jj h;clear h;go_enter func245,ntmps245;go_upto_region 2 with fail;obtain⟨g,X⟩:=ex (w.heap.size+1);obtain⟨G,W⟩:=ex w.heap.size;obtain⟨v0,i⟩:=ex ((w.alloc (.cells #[U 0,U 0,U 0,U 0,U 0,U 0] 49)).alloc (.cells #[U 0,U 0,U 0,U 0,U 0,U 0] 49));rw[<-i,<-X,<-W];have hB:Be w v0:=by rw[i];exact nC.alloc bJ _
 have i0:=F9 (aZ v0 g 49 #[U 0,U 0,U 0,U 0,U 0,U 0]) (by rw[i];exact aZ.new' _ _ _ (by simp[X]));have a0:=F9 (aZ v0 G 49 #[U 0,U 0,U 0,U 0,U 0,U 0]) (by rw[i,W];exact(aZ.new _ _ _).alloc _);have R0:=jj (H.keep hB);have O0:=jj (Only.of_below (S:= [gr,g]) hB);have N:=F9 (w.heap.size<=g/\G≠g/\w.heap.size<=G) aR;have P:=F9 (gr<w.heap.size) H.blk.lt;clear i X W hB;go_wp2_with fail;refine(ug R0 _ N0 A0).mono ?_;rintro e u1 ⟨rfl,B0,x⟩;have n:=i0.only x (mR (i0.nY R0.blk aV));have o0:=a0.only x (mR (a0.nY R0.blk aV));obtain⟨v1,I⟩:=ex (u1.setCell (adZ g 0) (U R));have o:Only [g] u1 v1:=by rw[I];exact(Only.refl _ _).setCell (.inl bJ) _
 have j0:=F9 (aZ v1 g 49 #[U R,U 0,U 0,U 0,U 0,U 0]) (by rw[I];exact n.fU 0 _);have b0:=jj (o0.only o (mR N.2.1));have R1:=jj (B0.far o (by have:=P.out;have:=N.1;simp;omega) (by have:=H.below.size;have:=N.1;simp;omega));have O1:=jj ((O0.then x bJ).then o bJ);have C:=n.at_ 0;have F:=n.frozen 0;have I0:=jj I;clear B0 x n o0 I o;go_upto_region 3 with fail;rw[<-I0.out];clear C F;go_wp2_with fail;refine(ug R1 _ N1 A1).mono ?_;rintro e u2 ⟨rfl,C0,y⟩;have p:=j0.only y (mR (j0.nY R1.blk aV));have q0:=b0.only y (mR (b0.nY R1.blk aV));obtain⟨v2,J⟩:=ex (u2.setCell (adZ g 1) (U b));have o:Only [g] u2 v2:=by rw[J];exact(Only.refl _ _).setCell (.inl bJ) _
 have k0:=F9 (aZ v2 g 49 #[U R,U b,U 0,U 0,U 0,U 0]) (by rw[J];exact p.fU 1 _);have c0:=jj (q0.only o (mR N.2.1));have R2:=jj (C0.far o (by have:=P.out;have:=N.1;simp;omega) (by have:=H.below.size;have:=N.1;simp;omega));have O2:=jj ((O1.then y bJ).then o bJ);have C:=p.at_ 1;have F:=p.frozen 1;have J0:=jj J;clear C0 y p q0 J o;go_upto_region 4 with fail;rw[<-J0.out];clear C F;go_wp2_with fail;refine(ug R2 _ N2 A2).mono ?_;rintro e u3 ⟨rfl,D0,z⟩;have q:=k0.only z (mR (k0.nY R2.blk aV));have s0:=c0.only z (mR (c0.nY R2.blk aV));obtain⟨v3,K⟩:=ex (u3.setCell (adZ g 2) (U d));have o:Only [g] u3 v3:=by rw[K];exact(Only.refl _ _).setCell (.inl bJ) _
 have l0:=F9 (aZ v3 g 49 #[U R,U b,U d,U 0,U 0,U 0]) (by rw[K];exact q.fU 2 _);have f0:=jj (s0.only o (mR N.2.1));have R3:=jj (D0.far o (by have:=P.out;have:=N.1;simp;omega) (by have:=H.below.size;have:=N.1;simp;omega));have O3:=jj ((O2.then z bJ).then o bJ);have C:=q.at_ 2;have F:=q.frozen 2;have K0:=jj K;clear D0 z q s0 K o;go_upto_region 5 with fail;rw[<-K0.out];clear C F;go_wp2_with fail;refine(abV R3 f N3 A3).mono ?_;rintro e u4 ⟨rfl,E0,A⟩;have s:=l0.only A (mR (l0.nY R3.blk aV));have t0:=f0.only A (mR (f0.nY R3.blk aV));obtain⟨v4,L⟩:=ex (u4.setCell (adZ g 3) (U f));have o:Only [g] u4 v4:=by rw[L];exact(Only.refl _ _).setCell (.inl bJ) _
 have m0:=F9 (aZ v4 g 49 #[U R,U b,U d,U f,U 0,U 0]) (by rw[L];exact s.fU 3 _);have g0:=jj (t0.only o (mR N.2.1));have R4:=jj (E0.far o (by have:=P.out;have:=N.1;simp;omega) (by have:=H.below.size;have:=N.1;simp;omega));have O4:=jj ((O3.then A bJ).then o bJ);have C:=s.at_ 3;have F:=s.frozen 3;have L0:=jj L;clear E0 A s t0 L o;go_upto_region 6 with fail;rw[<-L0.out];clear C F;go_wp2_with fail;refine(abV R4 j N4 A4).mono ?_;rintro e u5 ⟨rfl,F0,D⟩;have t:=m0.only D (mR (m0.nY R4.blk aV));have u0:=g0.only D (mR (g0.nY R4.blk aV));obtain⟨v5,M⟩:=ex (u5.setCell (adZ g 4) (U j));have o:Only [g] u5 v5:=by rw[M];exact(Only.refl _ _).setCell (.inl bJ) _
 have n0:=F9 (aZ v5 g 49 #[U R,U b,U d,U f,U j,U 0]) (by rw[M];exact t.fU 4 _);have h0:=jj (u0.only o (mR N.2.1));have R5:=jj (F0.far o (by have:=P.out;have:=N.1;simp;omega) (by have:=H.below.size;have:=N.1;simp;omega));have O5:=jj ((O4.then D bJ).then o bJ);have C:=t.at_ 4;have F:=t.frozen 4;have M0:=jj M;clear F0 D t u0 M o;go_upto_region 7 with fail;rw[<-M0.out];clear C F;go_wp2_with fail;refine(ug R5 _ N5 A5).mono ?_;rintro e u6 ⟨rfl,G0,E⟩;have u:=n0.only E (mR (n0.nY R5.blk aV));have x0:=h0.only E (mR (h0.nY R5.blk aV));obtain⟨v6,O⟩:=ex (u6.setCell (adZ g 5) (U l));have o:Only [g] u6 v6:=by rw[O];exact(Only.refl _ _).setCell (.inl bJ) _
 have H0:=F9 (aZ v6 g 49 #[U R,U b,U d,U f,U j,U l]) (by rw[O];exact u.fU 5 _);have B:=jj (x0.only o (mR N.2.1));have R6:=jj (G0.far o (by have:=P.out;have:=N.1;simp;omega) (by have:=H.below.size;have:=N.1;simp;omega));have O6:=jj ((O5.then E bJ).then o bJ);have C:=u.at_ 5;have F:=u.frozen 5;have P0:=jj O;clear G0 E u x0 O o;go_upto_region 8 with fail;rw[<-P0.out];clear C F;obtain⟨d0,d1,d2,d3,d4,d5⟩:=H0.a6;have e0:=B.at_ 0;have z0:=B.frozen 0;have e1:=B.at_ 1;have z1:=B.frozen 1;have e2:=B.at_ 2;have z2:=B.frozen 2;have e3:=B.at_ 3;have z3:=B.frozen 3;have e4:=B.at_ 4;have z4:=B.frozen 4;have e5:=B.at_ 5;have z5:=B.frozen 5;go_wp2_with fail;obtain⟨w9,Z⟩:=ex (((((((v6).setCell (adZ G 0) (U R)).setCell (adZ G 1) (U b)).setCell (adZ G 2) (U d)).setCell (adZ G 3) (U f)).setCell (adZ G 4) (U j)).setCell (adZ G 5) (U l));rw[<-Z];have K9:aZ w9 G 49 #[U R,U b,U d,U f,U j,U l]:=by rw[Z];exact((((((B.fU 0 _).fU 1 _).fU 2 _).fU 3 _).fU 4 _).fU 5 _)
 have o:Only [G] v6 w9:=by rw[Z];exact(((((((Only.refl [G] v6).setCell (.inl bJ) _).setCell (.inl bJ) _).setCell (.inl bJ) _).setCell (.inl bJ) _).setCell (.inl bJ) _).setCell (.inl bJ) _)
 have R9:=R6.far o (by have:=P.out;have:=N.2.2;simp;omega) (by have:=H.below.size;have:=N.2.2;simp;omega);have O9:Only [gr] w w9:=(O6.then o (by have:=N.2.2;simp;omega)).mono (by have:=N.1;simp;omega);refine bodyPost_ret (v:=acY #[U R,U b,U d,U f,U j,U l]) ?_ rfl ⟨rfl,R9,O9⟩;exact results_cell_row Tryz.results245 _ w9 G _ _ _ _ (by rfl) K9 underlying49 rfl (by kernel_rfl)
theorem Wy(h:Rd w0 w gr a m c bs k)(v:Vo)(hr:Kv v)(C:At bs k (uQ v)):
  Y 247 #[gr] w fun e w'=>e=acK (acY (Cg v).toArray)/\Rd w0 w' gr a m c bs (k+(uQ v).length)/\Only [gr] w w':=by
 obtain⟨z0,z1⟩:=v;obtain⟨Q,p1⟩:=hr;obtain⟨t,rfl⟩:=bB Q.1;obtain⟨T,rfl⟩:=bB p1.1;have N0:=F9 (t<1099511627776) (by have:=Q.2;simp only at this;omega);have N1:=F9 (T<1099511627776) (by have:=p1.2;simp only at this;omega);have EC:=C;simp only[uQ,bI] at EC;have X:=jj EC.left;have Z:=jj EC.right;have LL:=F9 (k+(uQ ((t:Int),(T:Int))).length=k+(mD t).length+(mD T).length) (by simp only[uQ,bI,av];omega);clear C EC Q p1;show Y 247 #[gr] w fun e w'=>e=acK (acY #[U t,U T])/\Rd w0 w' gr a m c bs (k+(uQ ((t:Int),(T:Int))).length)/\Only [gr] w w';rw[LL.out];have H:=jj h;clear h;go_enter func247,ntmps247;go_upto_region 2 with fail;obtain⟨g,q⟩:=ex (w.heap.size+1);obtain⟨G,p⟩:=ex w.heap.size;obtain⟨v0,b⟩:=ex ((w.alloc (.cells #[U 0,U 0] 311)).alloc (.cells #[U 0,U 0] 311));rw[<-b,<-q,<-p];have P:Be w v0:=by rw[b];exact nC.alloc bJ _
 have x:=F9 (aZ v0 g 311 #[U 0,U 0]) (by rw[b];exact aZ.new' _ _ _ (by simp[q]));have s:=F9 (aZ v0 G 311 #[U 0,U 0]) (by rw[b,p];exact(aZ.new _ _ _).alloc _);have R:=jj (H.keep P);have O0:=jj (Only.of_below (S:= [gr,g]) P);have N:=F9 (w.heap.size<=g/\G≠g/\w.heap.size<=G) aR;have I:=F9 (gr<w.heap.size) H.blk.lt;clear b q p P;go_wp2_with fail;refine(ug R _ N0 X).mono ?_;rintro e V ⟨rfl,D,i⟩;have d:=x.only i (mR (x.nY R.blk aV));have z:=s.only i (mR (s.nY R.blk aV));obtain⟨v1,l⟩:=ex (V.setCell (adZ g 0) (U t));have o:Only [g] V v1:=by rw[l];exact(Only.refl _ _).setCell (.inl bJ) _
 have y:=F9 (aZ v1 g 311 #[U t,U 0]) (by rw[l];exact d.fU 0 _);have u:=jj (z.only o (mR N.2.1));have L:=jj (D.far o (by have:=I.out;have:=N.1;simp;omega) (by have:=H.below.size;have:=N.1;simp;omega));have O1:=jj ((O0.then i bJ).then o bJ);have M:=d.at_ 0;have O:=d.frozen 0;have J:=jj l;clear D i d z l o;go_upto_region 3 with fail;rw[<-J.out];clear M O;go_wp2_with fail;refine(ug L _ N1 Z).mono ?_;rintro e W ⟨rfl,E,j⟩;have f:=y.only j (mR (y.nY L.blk aV));have A:=u.only j (mR (u.nY L.blk aV));obtain⟨v2,n⟩:=ex (W.setCell (adZ g 1) (U T));have o:Only [g] W v2:=by rw[n];exact(Only.refl _ _).setCell (.inl bJ) _
 have F:=F9 (aZ v2 g 311 #[U t,U T]) (by rw[n];exact f.fU 1 _);have B:=jj (A.only o (mR N.2.1));have R2:=jj (E.far o (by have:=I.out;have:=N.1;simp;omega) (by have:=H.below.size;have:=N.1;simp;omega));have O2:=jj ((O1.then j bJ).then o bJ);have M:=f.at_ 1;have O:=f.frozen 1;have K:=jj n;clear E j f A n o;go_upto_region 4 with fail;rw[<-K.out];clear M O;obtain⟨d0,d1⟩:=F.a2;have e0:=B.at_ 0;have z0:=B.frozen 0;have e1:=B.at_ 1;have z1:=B.frozen 1;go_wp2_with fail;obtain⟨w9,r⟩:=ex (((v2).setCell (adZ G 0) (U t)).setCell (adZ G 1) (U T));rw[<-r];have K9:aZ w9 G 311 #[U t,U T]:=by rw[r];exact((B.fU 0 _).fU 1 _)
 have o:Only [G] v2 w9:=by rw[r];exact(((Only.refl [G] v2).setCell (.inl bJ) _).setCell (.inl bJ) _)
 have R9:=R2.far o (by have:=I.out;have:=N.2.2;simp;omega) (by have:=H.below.size;have:=N.2.2;simp;omega);have O9:Only [gr] w w9:=(O2.then o (by have:=N.2.2;simp;omega)).mono (by have:=N.1;simp;omega);refine bodyPost_ret (v:=acY #[U t,U T]) ?_ rfl ⟨rfl,R9,O9⟩;exact results_cell_row Tryz.results247 _ w9 G _ _ _ _ (by rfl) K9 underlying311 rfl (by kernel_rfl)
def EU(v:Value):Nat:=match v with
 | .slice _ n _=>n
 |_=>0
theorem Bb{α:Type}{f:α->List Int}{p:Nat}{l:List α}(h:At bs p (l.flatMap f)){i:Nat}{r:α}(b:l[i]?=some r):At bs (p+((l.take i).flatMap f).length) (f r):=by
 obtain⟨a,H⟩:=ah.1 b;have e:l.flatMap f=(l.take i).flatMap f++(f r++(l.drop (i+1)).flatMap f):=by
  conv=>lhs;rw[<-kJ i l,jN a,H]
  rw[bS,bQ]
 rw[e] at h;exact h.right.left
theorem rT:(prog.info? 49).map (fun i=>(i.zero,i.size,i.bytes))=some (some (acY #[U 0,U 0,U 0,U 0,U 0,U 0]),6,48):=by kernel_rfl
theorem Gb(h:Rd w0 w gr a m c bs k)(l:List Rq)(n:Nat)(hn:l.length=n)(E0:n<=256)(d0: ∀r∈l,xH r)(b0:At bs k (nI oK l)):
  Y 273 #[gr,.func (.func 245) #[] #[]] w fun e w'=> ∃I c',e=acK (acX I n c')/\w'.ownsRow w.heap.size 49 6 (acX I n c') n (l.flatMap rA)/\Rd w0 w' gr a m c bs (k+(nI oK l).length)/\Only [gr] w w':=by
 obtain⟨i0,c0,f0,g0,h0⟩:=info_parts rT;obtain⟨H,HN,N⟩:=j3 h hn d0;have q:=b0;unfold nI at q;rw[hn] at q;have AN:=jj q.left;obtain⟨p,hp⟩:=ex (k+(mD n).length);have t:=q.right;rw[<-hp] at t;have M:=jj t;have LL:=F9 (k+(nI oK l).length=p+(l.flatMap oK).length) (by rw[hp];unfold nI;rw[hn,av];omega);have HP:=jj hp;have BW:=jj h.below;clear h d0 b0 q t hp hn;have i256: ¬(256:Int)<n:=aR;go_enter func273,ntmps273;go_wp2_with fail;obtain⟨J0,hJ⟩: ∃J0:Act->World->Prop,J0=(fun I w'=> ∃(i:Nat) (a5:OA) (V:Nat) (u2 u3 u7 u8 u9 j0 k0 l0 m0 n0 o0 p0 q0 r0 s0 t0 u0 v0 y0 z0 A0 B0 C0 D0:Value),i<=n/\Rd w0 w' gr a m c bs (p+((l.take i).flatMap oK).length)/\w'.ownsRow w.heap.size 49 6 (acX a5 i V) i ((l.take i).flatMap rA)/\Only [gr] w w'/\I={tmps:=#[.pointer (some (adZ gr 0)),.func (.func 245) #[] #[],u2,u3,acX none 0 0,acX a5 i V,U (n:Int),u7,u8,u9,j0,k0,l0,m0,n0,o0,p0,q0,r0,s0,t0,u0,v0,y0,z0,A0,B0,C0,D0],defers:= []}):=⟨_,rfl⟩;have HJ:=jj hJ;clear hJ;refine wp_scope_jumps 1 J0 (fun I _=>n -EU (I.tmps.getD 5 undef)) rfl ?_ ?_
 ·go_wp2_with fail
  refine(ug H n aR AN).mono ?_;rintro e W ⟨rfl,j,d⟩;rw[<-HP.out] at j;have B:=F9 (Rd w0 W gr a m c bs (p+((l.take 0).flatMap oK).length)) (mR j);have F:=F9 (W.ownsRow w.heap.size 49 6 () 0 ((l.take 0).flatMap rA)) ⟨rfl,.inl ⟨rfl,rfl⟩⟩;have P:=jj d;clear j d;go_wp2_with fail;go_step3
  by_cases E:0=n
  ·subst E
   have E1:=F9 (l.take 0=l) (by rw[<-HN.out];exact dP);have d2:=B.blk.at_ 2;go_wp2_with fail;simp only[Exit.jump];go_ret;rw[E1.out] at B F;exact⟨none,0,by trivial,F,by rw[LL.out];exact B.out,P⟩
  have d2:=B.blk.at_ 2;have L:0<n:=aR;have o:0<l.length:=by rw[HN.out];exact L
  have n1: ¬(0:Int)=n:=aR;obtain⟨r,t⟩: ∃r,l[0]?=some r:=⟨_,aj o⟩;have D:l[0]=r:=by rw[aj o] at t;exact dh t
  have RO:=jj (N.out r (ak t));have AR:=jj (Bb M t);have T:Hid (∀{α:Type} (f:Rq->List α),(l.take (0+1)).flatMap f=(l.take 0).flatMap f++f r):=jj (fun f=>by rw[bA o,D];simp);obtain⟨x,X,v,y,z,A⟩:=r;have CC:=F9 (Y 245 #[gr] W (fun e w'=>e=acK (acY #[U x,U X,U v,U y,U z,U A])/\Rd w0 w' gr a m c bs (p+((l.take 0).flatMap oK).length+(oK (x,X,v,y,z,A)).length)/\Only [gr] W w')) (abU B (x,X,v,y,z,A) RO AR);clear t D o E
  go_wp2_with(first
   |(go_at_call 245;refine(CC).mono ?_;rintro e C ⟨rfl,j,d⟩;have R:=jj j;have Q:=jj (P.trans d);have O:=jj (mK F d (fun g hg=>by have:=mG F B.blk aV;rw[hg] at this;simpa using fun e=>this (by rw[e])));clear j d)
   |(at_builtin;refine fD rfl _ _ _ rfl w.heap.size 49 i0 _ 6 48 underlying46 c0 f0 g0 h0 rfl aR none 0 0 ((l.take 0).flatMap rA) rfl (own_below O nC) (some ⟨C.heap.size,0,none⟩) 1 1 (rA (x,X,v,y,z,A)) rfl (gD.nR (n:=1) (s:=6) (aZ.new C 49 #[U x,U X,U v,U y,U z,U A]) rfl) (by intro u hu;simp[rA] at hu;rcases hu with rfl|rfl|rfl|rfl|rfl|rfl<;>rfl) (by unfold maxLen;omega) aR (by have:=Q.size;simp;omega) ?_;intro a6 c6 y2 Z;have G:=jj Z;clear Z))
  try go_step3
  have Q2:Only [gr] w y2:=by have b:=(Only.of_below (S:= [gr]) ((aC C.heap.size C).alloc (aF _) (.cells #[U x,U X,U v,U y,U z,U A] 49)));refine(Q.trans b).then G.only (fun k K=> .inr ?_);exact(dx O k K).1
  have R2:=(R.keep ((aC C.heap.size C).alloc (aF _) (.cells #[U x,U X,U v,U y,U z,U A] 49))).far G.only (fun hm=>by obtain⟨_,cs,J⟩:=dx O _ hm;exact R.blk.nY J aV rfl) (fun k K=>aG BW.size (dx O k K).1)
  refine dH rfl ?_;rw[HJ.out];exact⟨0+1,a6,c6,_,_,_,_,_,_,_,_,_,_,_,_,_,_,_,_,_,_,_,_,_,_,_,_,aR,by rw[T.out,av,<-dL];exact R2,by rw[T.out];exact G.own,Q2,rfl⟩
 rintro I W a0;rw[HJ.out] at a0;obtain⟨i,a5,V,u2,u3,u7,u8,u9,j0,k0,l0,m0,n0,o0,p0,q0,r0,s0,t0,u0,v0,y0,z0,A0,B0,C0,D0,hi,j,d,e0,rfl⟩:=a0;obtain⟨B,F,P⟩:=j3 j d e0;clear j d e0;by_cases E:i=n
 ·subst E
  have E1:=F9 (l.take i=l) (by rw[<-HN.out];exact dP);have d2:=B.blk.at_ 2;go_wp2_with fail;simp only[Exit.jump];go_ret;rw[E1.out] at B F;exact⟨a5,V,by trivial,F,by rw[LL.out];exact B.out,P⟩
 have d2:=B.blk.at_ 2;have L:i<n:=aR;have o:i<l.length:=by rw[HN.out];exact L
 have n1: ¬(i:Int)=n:=aR;obtain⟨r,t⟩: ∃r,l[i]?=some r:=⟨_,aj o⟩;have D:l[i]=r:=by rw[aj o] at t;exact dh t
 have RO:=jj (N.out r (ak t));have AR:=jj (Bb M t);have T:Hid (∀{α:Type} (f:Rq->List α),(l.take (i+1)).flatMap f=(l.take i).flatMap f++f r):=jj (fun f=>by rw[bA o,D];simp);obtain⟨x,X,v,y,z,A⟩:=r;have CC:=F9 (Y 245 #[gr] W (fun e w'=>e=acK (acY #[U x,U X,U v,U y,U z,U A])/\Rd w0 w' gr a m c bs (p+((l.take i).flatMap oK).length+(oK (x,X,v,y,z,A)).length)/\Only [gr] W w')) (abU B (x,X,v,y,z,A) RO AR);clear t D o E
 go_wp2_with(first
  |(go_at_call 245;refine(CC).mono ?_;rintro e C ⟨rfl,j,d⟩;have R:=jj j;have Q:=jj (P.trans d);have O:=jj (mK F d (fun g hg=>by have:=mG F B.blk aV;rw[hg] at this;simpa using fun e=>this (by rw[e])));clear j d)
  |(at_builtin;refine fD rfl _ _ _ rfl w.heap.size 49 i0 _ 6 48 underlying46 c0 f0 g0 h0 rfl aR a5 i V ((l.take i).flatMap rA) rfl (own_below O nC) (some ⟨C.heap.size,0,none⟩) 1 1 (rA (x,X,v,y,z,A)) rfl (gD.nR (n:=1) (s:=6) (aZ.new C 49 #[U x,U X,U v,U y,U z,U A]) rfl) (by intro u hu;simp[rA] at hu;rcases hu with rfl|rfl|rfl|rfl|rfl|rfl<;>rfl) (by unfold maxLen;omega) aR (by have:=Q.size;simp;omega) ?_;intro a6 c6 y2 Z;have G:=jj Z;clear Z))
 try go_step3
 have Q2:Only [gr] w y2:=by have b:=(Only.of_below (S:= [gr]) ((aC C.heap.size C).alloc (aF _) (.cells #[U x,U X,U v,U y,U z,U A] 49)));refine(Q.trans b).then G.only (fun k K=> .inr ?_);exact(dx O k K).1
 have R2:=(R.keep ((aC C.heap.size C).alloc (aF _) (.cells #[U x,U X,U v,U y,U z,U A] 49))).far G.only (fun hm=>by obtain⟨_,cs,J⟩:=dx O _ hm;exact R.blk.nY J aV rfl) (fun k K=>aG BW.size (dx O k K).1)
 refine dH rfl (dH ?_ (by simp only[iF];simp[EU];omega));rw[HJ.out];exact⟨i+1,a6,c6,_,_,_,_,_,_,_,_,_,_,_,_,_,_,_,_,_,_,_,_,_,_,_,_,aR,by rw[T.out,av,<-dL];exact R2,by rw[T.out];exact G.own,Q2,rfl⟩
theorem Cr:(prog.info? 311).map (fun i=>(i.zero,i.size,i.bytes))=some (some (acY #[U 0,U 0]),2,16):=by kernel_rfl
theorem Ef(h:Rd w0 w gr a m c bs k)(l:List Vo)(n:Nat)(hn:l.length=n)(A0:n<=256)(Z: ∀r∈l,Kv r)(P:At bs k (nI uQ l)):
  Y 276 #[gr,.func (.func 247) #[] #[]] w fun e w'=> ∃D c',e=acK (acX D n c')/\w'.ownsRow w.heap.size 311 2 (acX D n c') n (l.flatMap Cg)/\Rd w0 w' gr a m c bs (k+(nI uQ l).length)/\Only [gr] w w':=by
 obtain⟨i0,V,b0,c0,d0⟩:=info_parts Cr;obtain⟨H,HN,J⟩:=j3 h hn Z;have q:=P;unfold nI at q;rw[hn] at q;have AN:=jj q.left;obtain⟨p,hp⟩:=ex (k+(mD n).length);have t:=q.right;rw[<-hp] at t;have I:=jj t;have LL:=F9 (k+(nI uQ l).length=p+(l.flatMap uQ).length) (by rw[hp];unfold nI;rw[hn,av];omega);have HP:=jj hp;have BW:=jj h.below;clear h Z P q t hp hn;have i256: ¬(256:Int)<n:=aR;go_enter func276,ntmps276;go_wp2_with fail;obtain⟨J0,hJ⟩: ∃J0:Act->World->Prop,J0=(fun D w'=> ∃(i:Nat) (a5:OA) (L:Nat) (u2 u3 u7 u8 u9 e0 f0 g0 h0 j0 k0 l0 m0 n0 o0 p0 q0 r0 s0 t0 u0 v0 y0 z0:Value),i<=n/\Rd w0 w' gr a m c bs (p+((l.take i).flatMap uQ).length)/\w'.ownsRow w.heap.size 311 2 (acX a5 i L) i ((l.take i).flatMap Cg)/\Only [gr] w w'/\D={tmps:=#[.pointer (some (adZ gr 0)),.func (.func 247) #[] #[],u2,u3,acX none 0 0,acX a5 i L,U (n:Int),u7,u8,u9,e0,f0,g0,h0,j0,k0,l0,m0,n0,o0,p0,q0,r0,s0,t0,u0,v0,y0,z0],defers:= []}):=⟨_,rfl⟩;have HJ:=jj hJ;clear hJ;refine wp_scope_jumps 1 J0 (fun D _=>n -EU (D.tmps.getD 5 undef)) rfl ?_ ?_
 ·go_wp2_with fail
  refine(ug H n aR AN).mono ?_;rintro e W ⟨rfl,j,d⟩;rw[<-HP.out] at j;have v:=F9 (Rd w0 W gr a m c bs (p+((l.take 0).flatMap uQ).length)) (mR j);have B:=F9 (W.ownsRow w.heap.size 311 2 () 0 ((l.take 0).flatMap Cg)) ⟨rfl,.inl ⟨rfl,rfl⟩⟩;have K:=jj d;clear j d;go_wp2_with fail;go_step3
  by_cases A:0=n
  ·subst A
   have E1:=F9 (l.take 0=l) (by rw[<-HN.out];exact dP);have d2:=v.blk.at_ 2;go_wp2_with fail;simp only[Exit.jump];go_ret;rw[E1.out] at v B;exact⟨none,0,by trivial,B,by rw[LL.out];exact v.out,K⟩
  have d2:=v.blk.at_ 2;have G:0<n:=aR;have o:0<l.length:=by rw[HN.out];exact G
  have n1: ¬(0:Int)=n:=aR;obtain⟨r,t⟩: ∃r,l[0]?=some r:=⟨_,aj o⟩;have z:l[0]=r:=by rw[aj o] at t;exact dh t
  have RO:=jj (J.out r (ak t));have AR:=jj (Bb I t);have T:Hid (∀{α:Type} (f:Vo->List α),(l.take (0+1)).flatMap f=(l.take 0).flatMap f++f r):=jj (fun f=>by rw[bA o,z];simp);obtain⟨x,X⟩:=r;have CC:=F9 (Y 247 #[gr] W (fun e w'=>e=acK (acY #[U x,U X])/\Rd w0 w' gr a m c bs (p+((l.take 0).flatMap uQ).length+(uQ (x,X)).length)/\Only [gr] W w')) (Wy v (x,X) RO AR);clear t z o A
  go_wp2_with(first
   |(go_at_call 247;refine(CC).mono ?_;rintro e y ⟨rfl,j,d⟩;have R:=jj j;have Q:=jj (K.trans d);have O:=jj (mK B d (fun g hg=>by have:=mG B v.blk aV;rw[hg] at this;simpa using fun e=>this (by rw[e])));clear j d)
   |(at_builtin;refine fD rfl _ _ _ rfl w.heap.size 311 i0 _ 2 16 underlying78 V b0 c0 d0 rfl aR none 0 0 ((l.take 0).flatMap Cg) rfl (own_below O nC) (some ⟨y.heap.size,0,none⟩) 1 1 (Cg (x,X)) rfl (gD.nR (n:=1) (s:=2) (aZ.new y 311 #[U x,U X]) rfl) (by intro u hu;simp[Cg] at hu;rcases hu with rfl|rfl<;>rfl) (by unfold maxLen;omega) aR (by have:=Q.size;simp;omega) ?_;intro a6 c6 y2 M;have C:=jj M;clear M))
  try go_step3
  have Q2:Only [gr] w y2:=by have b:=(Only.of_below (S:= [gr]) ((aC y.heap.size y).alloc (aF _) (.cells #[U x,U X] 311)));refine(Q.trans b).then C.only (fun k F=> .inr ?_);exact(dx O k F).1
  have R2:=(R.keep ((aC y.heap.size y).alloc (aF _) (.cells #[U x,U X] 311))).far C.only (fun hm=>by obtain⟨_,cs,E⟩:=dx O _ hm;exact R.blk.nY E aV rfl) (fun k F=>aG BW.size (dx O k F).1)
  refine dH rfl ?_;rw[HJ.out];exact⟨0+1,a6,c6,_,_,_,_,_,_,_,_,_,_,_,_,_,_,_,_,_,_,_,_,_,_,_,_,aR,by rw[T.out,av,<-dL];exact R2,by rw[T.out];exact C.own,Q2,rfl⟩
 rintro D W N;rw[HJ.out] at N;obtain⟨i,a5,L,u2,u3,u7,u8,u9,e0,f0,g0,h0,j0,k0,l0,m0,n0,o0,p0,q0,r0,s0,t0,u0,v0,y0,z0,hi,j,d,a0,rfl⟩:=N;obtain⟨v,B,K⟩:=j3 j d a0;clear j d a0;by_cases A:i=n
 ·subst A
  have E1:=F9 (l.take i=l) (by rw[<-HN.out];exact dP);have d2:=v.blk.at_ 2;go_wp2_with fail;simp only[Exit.jump];go_ret;rw[E1.out] at v B;exact⟨a5,L,by trivial,B,by rw[LL.out];exact v.out,K⟩
 have d2:=v.blk.at_ 2;have G:i<n:=aR;have o:i<l.length:=by rw[HN.out];exact G
 have n1: ¬(i:Int)=n:=aR;obtain⟨r,t⟩: ∃r,l[i]?=some r:=⟨_,aj o⟩;have z:l[i]=r:=by rw[aj o] at t;exact dh t
 have RO:=jj (J.out r (ak t));have AR:=jj (Bb I t);have T:Hid (∀{α:Type} (f:Vo->List α),(l.take (i+1)).flatMap f=(l.take i).flatMap f++f r):=jj (fun f=>by rw[bA o,z];simp);obtain⟨x,X⟩:=r;have CC:=F9 (Y 247 #[gr] W (fun e w'=>e=acK (acY #[U x,U X])/\Rd w0 w' gr a m c bs (p+((l.take i).flatMap uQ).length+(uQ (x,X)).length)/\Only [gr] W w')) (Wy v (x,X) RO AR);clear t z o A
 go_wp2_with(first
  |(go_at_call 247;refine(CC).mono ?_;rintro e y ⟨rfl,j,d⟩;have R:=jj j;have Q:=jj (K.trans d);have O:=jj (mK B d (fun g hg=>by have:=mG B v.blk aV;rw[hg] at this;simpa using fun e=>this (by rw[e])));clear j d)
  |(at_builtin;refine fD rfl _ _ _ rfl w.heap.size 311 i0 _ 2 16 underlying78 V b0 c0 d0 rfl aR a5 i L ((l.take i).flatMap Cg) rfl (own_below O nC) (some ⟨y.heap.size,0,none⟩) 1 1 (Cg (x,X)) rfl (gD.nR (n:=1) (s:=2) (aZ.new y 311 #[U x,U X]) rfl) (by intro u hu;simp[Cg] at hu;rcases hu with rfl|rfl<;>rfl) (by unfold maxLen;omega) aR (by have:=Q.size;simp;omega) ?_;intro a6 c6 y2 M;have C:=jj M;clear M))
 try go_step3
 have Q2:Only [gr] w y2:=by have b:=(Only.of_below (S:= [gr]) ((aC y.heap.size y).alloc (aF _) (.cells #[U x,U X] 311)));refine(Q.trans b).then C.only (fun k F=> .inr ?_);exact(dx O k F).1
 have R2:=(R.keep ((aC y.heap.size y).alloc (aF _) (.cells #[U x,U X] 311))).far C.only (fun hm=>by obtain⟨_,cs,E⟩:=dx O _ hm;exact R.blk.nY E aV rfl) (fun k F=>aG BW.size (dx O k F).1)
 refine dH rfl (dH ?_ (by simp only[iF];simp[EU];omega));rw[HJ.out];exact⟨i+1,a6,c6,_,_,_,_,_,_,_,_,_,_,_,_,_,_,_,_,_,_,_,_,_,_,_,_,aR,by rw[T.out,av,<-dL];exact R2,by rw[T.out];exact C.own,Q2,rfl⟩
theorem Sd(w:World)(a:OA)(m c:Nat)(bs:LI)(k:Nat)(t:gD w a m 1 (mZ bs))(p:bs.length=m)(o:m<=1048576)(l:List Rq)(n:Nat)(q:l.length=n)(h:n<=256)(b: ∀r∈l,xH r)(H:At bs k (nI oK l)):
  Y 244 #[acX a m c,U k,.func (.func 245) #[] #[]] w fun e w'=> ∃A c',e=acK (ac2 #[acX A n c',U ((k+(nI oK l).length:Nat):Int),true])/\w'.ownsRow w.heap.size 49 6 (acX A n c') n (l.flatMap rA)/\Be w w':=by
 obtain⟨z,v,x,y,f⟩:=j5 t p q b H;obtain⟨j,i⟩:=ex (k+(nI oK l).length);rw[<-i];have u:=jj i;clear t p q b H i;go_enter func244,ntmps244;go_upto_region 2 with fail;generalize hw1:w.alloc _=w1;generalize hgr:w.heap.size=gr;replace hw1:=hw1.symm;replace hgr:=hgr.symm;have R:=F9 (Rd w w1 gr a m c bs k) ⟨by rw[hw1,hgr];exact aZ.new _ _ _,z,v,o,by rw[hw1];exact nC,aR⟩;clear hw1 hgr;go_wp2_with fail;refine(Gb R l n x h y f).mono ?_;rintro e W ⟨A,c',rfl,s,d,C⟩;rw[<-u.out] at d;have B:=jj d;have O:=jj (mO s R.below.size);have E:=d.blk.at_ 2;have D:=d.blk.at_ 1;clear s d C;go_upto_region 5 with fail;refine rP (fun w'=>J w' gr 1 (U j)) 8 (tk 0 8 .done) D ?_;intro g
 repeat refine' tT ?_
 refine aU ?_;clear g;go_wp2_with fail;go_ret3
 exact⟨A,c',by trivial,own_below O ((aC _ _).drew),B.below.drew⟩
theorem UL(w:World)(a:OA)(m c:Nat)(bs:LI)(k:Nat)(s:gD w a m 1 (mZ bs))(o:bs.length=m)(d:m<=1048576)(l:List Rq)(n:Nat)(p:l.length=n)(h:n<=256)(b: ∀r∈l,xH r)(H:At bs k (nI oK l)):
  Y 197 #[acX a m c,U k] w fun e w'=> ∃A c',e=acK (ac2 #[acX A n c',U ((k+(nI oK l).length:Nat):Int),true])/\w'.ownsRow w.heap.size 49 6 (acX A n c') n (l.flatMap rA)/\Be w w':=by
 have f:=jj (Sd w a m c bs k s o d l n p h b H);clear s o p b H;obtain⟨j,i⟩:=ex (k+(nI oK l).length);rw[<-i] at f|-;clear i;go_enter func197,ntmps197;go_wp2_with fail;refine f.mono ?_;rintro e W ⟨A,c',rfl,q,g⟩;have O:=jj q;have B:=jj g;clear q g;go_wp2_with fail;go_ret3
 exact⟨A,c',by trivial,O,B⟩
theorem Pg(w:World)(a:OA)(m c:Nat)(bs:LI)(k:Nat)(t:gD w a m 1 (mZ bs))(p:bs.length=m)(o:m<=1048576)(l:List Vo)(n:Nat)(q:l.length=n)(h:n<=256)(b: ∀r∈l,Kv r)(H:At bs k (nI uQ l)):
  Y 246 #[acX a m c,U k,.func (.func 247) #[] #[]] w fun e w'=> ∃A c',e=acK (ac2 #[acX A n c',U ((k+(nI uQ l).length:Nat):Int),true])/\w'.ownsRow w.heap.size 311 2 (acX A n c') n (l.flatMap Cg)/\Be w w':=by
 obtain⟨z,v,x,y,f⟩:=j5 t p q b H;obtain⟨j,i⟩:=ex (k+(nI uQ l).length);rw[<-i];have u:=jj i;clear t p q b H i;go_enter func246,ntmps246;go_upto_region 2 with fail;generalize hw1:w.alloc _=w1;generalize hgr:w.heap.size=gr;replace hw1:=hw1.symm;replace hgr:=hgr.symm;have R:=F9 (Rd w w1 gr a m c bs k) ⟨by rw[hw1,hgr];exact aZ.new _ _ _,z,v,o,by rw[hw1];exact nC,aR⟩;clear hw1 hgr;go_wp2_with fail;refine(Ef R l n x h y f).mono ?_;rintro e W ⟨A,c',rfl,s,d,C⟩;rw[<-u.out] at d;have B:=jj d;have O:=jj (mO s R.below.size);have E:=d.blk.at_ 2;have D:=d.blk.at_ 1;clear s d C;go_upto_region 5 with fail;refine rP (fun w'=>J w' gr 1 (U j)) 8 (tk 0 8 .done) D ?_;intro g
 repeat refine' tT ?_
 refine aU ?_;clear g;go_wp2_with fail;go_ret3
 exact⟨A,c',by trivial,own_below O ((aC _ _).drew),B.below.drew⟩
theorem RH(w:World)(a:OA)(m c:Nat)(bs:LI)(k:Nat)(s:gD w a m 1 (mZ bs))(o:bs.length=m)(d:m<=1048576)(l:List Vo)(n:Nat)(p:l.length=n)(h:n<=256)(b: ∀r∈l,Kv r)(H:At bs k (nI uQ l)):
  Y 198 #[acX a m c,U k] w fun e w'=> ∃A c',e=acK (ac2 #[acX A n c',U ((k+(nI uQ l).length:Nat):Int),true])/\w'.ownsRow w.heap.size 311 2 (acX A n c') n (l.flatMap Cg)/\Be w w':=by
 have f:=jj (Pg w a m c bs k s o d l n p h b H);clear s o p b H;obtain⟨j,i⟩:=ex (k+(nI uQ l).length);rw[<-i] at f|-;clear i;go_enter func198,ntmps198;go_wp2_with fail;refine f.mono ?_;rintro e W ⟨A,c',rfl,q,g⟩;have O:=jj q;have B:=jj g;clear q g;go_wp2_with fail;go_ret3
 exact⟨A,c',by trivial,O,B⟩
theorem gH{base:Nat}{cs:AV}(h:w.ownsRow base e s v n xs)(f:Only [g] w w')(c:aZ w g t cs)(a:e≠t):w'.ownsRow base e s v n xs:=
 mK h f fun b H d=>mG h c a (by
  have e:b=g:=by simpa using d
  rw[<-e];exact H)
structure Fw(w:World)(B:Nat)(c:CD):Prop where
 b:w.ownsRow B 49 6 (acX c.ba c.bn c.bc) c.bn (c.bs.flatMap rA)
 v:w.ownsRow B 311 2 (acX c.va c.vn c.vc) c.vn (c.vs.flatMap Cg)
 lb:c.bs.length=c.bn
 lv:c.vs.length=c.vn
theorem Fw.only{c:CD}(h:Fw w B c)(i:Only S w w')(f: ∀g∈S,∃t cs,aZ w g t cs/\t≠49/\t≠311):Fw w' B c:=
 ⟨mK h.b i (fun g a b=>by
  obtain⟨t,cs,H,d,e⟩:=f g b;exact mG h.b H d.symm a),mK h.v i (fun g a b=>by obtain⟨t,cs,H,d,e⟩:=f g b;exact mG h.v H e.symm a),h.lb,h.lv⟩
theorem Fw.base{B':Nat}{c:CD}(h:Fw w B c)(H:B'<=B):Fw w B' c:=⟨mO h.b H,mO h.v H,h.lb,h.lv⟩
theorem Fw.below{c:CD}(h:Fw w B c)(H:Be w w'):Fw w' B c:=h.only (Only.of_below (S:= []) H) bJ
theorem Wu(h:Rd w0 w gr a m c bs k)(ce:Ce)(hc:Et ce)(u0:At bs k (uG ce)):
  Y 249 #[gr] w fun e w'=> ∃cd:CD,e=acK (acY (nS cd).toArray)/\pz cd=ce/\Fw w' w.heap.size cd/\Rd w0 w' gr a m c bs (k+(uG ce).length)/\Only [gr] w w':=by
 obtain⟨z0,z1,z2,d,V⟩:=ce;obtain⟨p0,p1,p2,ob,ov,nb,nv⟩:=hc;simp only at p0 p1 p2 ob ov nb nv;obtain⟨r,rfl⟩:=bB p0.1;obtain⟨R,rfl⟩:=bB p1.1;obtain⟨l,rfl⟩:=bB p2.1;have N0:=F9 (r<1099511627776) (tL p0.2);have N1:=F9 (R<1099511627776) (tL p1.2);have N2:=F9 (l<1099511627776) (tL p2.2);have OB:=jj ob;have OV:=jj ov;have EC:=u0;simp only[uG,bI] at EC;have A0:=jj EC.left;have ZM:=EC.right;have A1:=jj ZM.left;have K:=ZM.right;have A2:=jj K.left;have L:=K.right;have A3:=jj L.left;have A4:=jj L.right;have LL:=F9 (k+(uG ⟨(r:Int),(R:Int),(l:Int),d,V⟩).length=k+(mD r).length+(mD R).length+(mD l).length+(nI oK d).length+(nI uQ V).length) (by simp only[uG,bI,av];omega);clear u0 EC ZM K L p0 p1 p2 ob ov;rw[LL.out];have H:=jj h;clear h;go_enter func249,ntmps249;go_upto_region 2 with fail;obtain⟨G,Q⟩:=ex (w.heap.size+1);obtain⟨g2,P⟩:=ex w.heap.size;obtain⟨v0,j⟩:=ex ((w.alloc (.cells #[U 0,U 0,U 0,(),()] 228)).alloc (.cells #[U 0,U 0,U 0,(),()] 228));rw[<-j,<-Q,<-P];have hB:Be w v0:=by rw[j];exact nC.alloc bJ _
 have i0:=F9 (aZ v0 G 228 #[U 0,U 0,U 0,(),()]) (by rw[j];exact aZ.new' _ _ _ (by simp[Q]));have b0:=F9 (aZ v0 g2 228 #[U 0,U 0,U 0,(),()]) (by rw[j,P];exact(aZ.new _ _ _).alloc _);have R0:=jj (H.keep hB);have O0:=jj (Only.of_below (S:= [gr,G]) hB);have N:=F9 (w.heap.size<=G/\g2≠G/\w.heap.size<=g2) aR;have W:=F9 (gr<w.heap.size) H.blk.lt;clear j Q P hB;go_wp2_with fail;refine(ug R0 _ N0 A0).mono ?_;rintro e u1 ⟨rfl,x0,s⟩;have n:=i0.only s (mR (i0.nY R0.blk aV));have n0:=b0.only s (mR (b0.nY R0.blk aV));obtain⟨v1,y⟩:=ex (u1.setCell (adZ G 0) (U r));have o:Only [G] u1 v1:=by rw[y];exact(Only.refl _ _).setCell (.inl bJ) _
 have j0:=F9 (aZ v1 G 228 #[U r,U 0,U 0,(),()]) (by rw[y];exact n.fU 0 _);have c0:=jj (n0.only o (mR N.2.1));have R1:=jj (x0.far o (by have:=W.out;have:=N.1;simp;omega) (by have:=H.below.size;have:=N.1;simp;omega));have O1:=jj ((O0.then s bJ).then o bJ);have C:=n.at_ 0;have F:=n.frozen 0;have H0:=jj y;clear x0 s n n0 y o;go_upto_region 3 with fail;rw[<-H0.out];clear C F;go_wp2_with fail;refine(ug R1 _ N1 A1).mono ?_;rintro e u2 ⟨rfl,y0,t⟩;have p:=j0.only t (mR (j0.nY R1.blk aV));have o0:=c0.only t (mR (c0.nY R1.blk aV));obtain⟨v2,z⟩:=ex (u2.setCell (adZ G 1) (U R));have o:Only [G] u2 v2:=by rw[z];exact(Only.refl _ _).setCell (.inl bJ) _
 have k0:=F9 (aZ v2 G 228 #[U r,U R,U 0,(),()]) (by rw[z];exact p.fU 1 _);have f0:=jj (o0.only o (mR N.2.1));have R2:=jj (y0.far o (by have:=W.out;have:=N.1;simp;omega) (by have:=H.below.size;have:=N.1;simp;omega));have O2:=jj ((O1.then t bJ).then o bJ);have C:=p.at_ 1;have F:=p.frozen 1;have I0:=jj z;clear y0 t p o0 z o;go_upto_region 4 with fail;rw[<-I0.out];clear C F;go_wp2_with fail;refine(ug R2 _ N2 A2).mono ?_;rintro e u3 ⟨rfl,B0,u⟩;have q:=k0.only u (mR (k0.nY R2.blk aV));have q0:=f0.only u (mR (f0.nY R2.blk aV));obtain⟨v3,A⟩:=ex (u3.setCell (adZ G 2) (U l));have o:Only [G] u3 v3:=by rw[A];exact(Only.refl _ _).setCell (.inl bJ) _
 have l0:=F9 (aZ v3 G 228 #[U r,U R,U l,(),()]) (by rw[A];exact q.fU 2 _);have g0:=jj (q0.only o (mR N.2.1));have R3:=jj (B0.far o (by have:=W.out;have:=N.1;simp;omega) (by have:=H.below.size;have:=N.1;simp;omega));have O3:=jj ((O2.then u bJ).then o bJ);have C:=q.at_ 2;have F:=q.frozen 2;have J0:=jj A;clear B0 u q q0 A o;go_upto_region 5 with fail;rw[<-J0.out];clear C F;go_wp2_with fail;refine(Gb R3 d _ rfl nb OB A3).mono ?_;rintro e u4 ⟨M,O,rfl,I,C0,x⟩;have I:=mO I O3.size;have f:=l0.only x (mR (l0.nY R3.blk aV));have s0:=g0.only x (mR (g0.nY R3.blk aV));obtain⟨v4,D⟩:=ex (u4.setCell (adZ G 3) (acX M d.length O));have o:Only [G] u4 v4:=by rw[D];exact(Only.refl _ _).setCell (.inl bJ) _
 have m0:=F9 (aZ v4 G 228 #[U r,U R,U l,acX M d.length O,()]) (by rw[D];exact f.fU 3 _);have h0:=jj (s0.only o (mR N.2.1));have R4:=jj (C0.far o (by have:=W.out;have:=N.1;simp;omega) (by have:=H.below.size;have:=N.1;simp;omega));have O4:=jj ((O3.then x bJ).then o bJ);have M0:=jj (gH I o f aV);clear I;have C:=f.at_ 3;have F:=f.frozen 3;have K0:=jj D;clear C0 x f s0 D o;go_upto_region 6 with fail;rw[<-K0.out];clear C F;go_wp2_with fail;refine(Ef R4 V _ rfl nv OV A4).mono ?_;rintro e u5 ⟨X,Z,rfl,J,D0,i⟩;have J:=mO J O4.size;have b:=m0.only i (mR (m0.nY R4.blk aV));have t0:=h0.only i (mR (h0.nY R4.blk aV));obtain⟨v5,E⟩:=ex (u5.setCell (adZ G 4) (acX X V.length Z));have o:Only [G] u5 v5:=by rw[E];exact(Only.refl _ _).setCell (.inl bJ) _
 have E0:=F9 (aZ v5 G 228 #[U r,U R,U l,acX M d.length O,acX X V.length Z]) (by rw[E];exact b.fU 4 _);have B:=jj (t0.only o (mR N.2.1));have R5:=jj (D0.far o (by have:=W.out;have:=N.1;simp;omega) (by have:=H.below.size;have:=N.1;simp;omega));have O5:=jj ((O4.then i bJ).then o bJ);have a0:=jj (gH (gH M0 i R4.blk aV) o b aV);have P0:=jj (gH J o b aV);clear J;have C:=b.at_ 4;have F:=b.frozen 4;have L0:=jj E;clear D0 i b t0 E o;go_upto_region 7 with fail;rw[<-L0.out];clear C F;obtain⟨d0,d1,d2,d3,d4⟩:=E0.a5;have e0:=B.at_ 0;have z0:=B.frozen 0;have e1:=B.at_ 1;have z1:=B.frozen 1;have e2:=B.at_ 2;have z2:=B.frozen 2;have e3:=B.at_ 3;have z3:=B.frozen 3;have e4:=B.at_ 4;have z4:=B.frozen 4;go_wp2_with fail;obtain⟨w9,T⟩:=ex ((((((v5).setCell (adZ g2 0) (U r)).setCell (adZ g2 1) (U R)).setCell (adZ g2 2) (U l)).setCell (adZ g2 3) (acX M d.length O)).setCell (adZ g2 4) (acX X V.length Z));rw[<-T];have K9:aZ w9 g2 228 #[U r,U R,U l,acX M d.length O,acX X V.length Z]:=by rw[T];exact(((((B.fU 0 _).fU 1 _).fU 2 _).fU 3 _).fU 4 _)
 have o:Only [g2] v5 w9:=by rw[T];exact((((((Only.refl [g2] v5).setCell (.inl bJ) _).setCell (.inl bJ) _).setCell (.inl bJ) _).setCell (.inl bJ) _).setCell (.inl bJ) _)
 have R9:=R5.far o (by have:=W.out;have:=N.2.2;simp;omega) (by have:=H.below.size;have:=N.2.2;simp;omega);have O9:Only [gr] w w9:=(O5.then o (by have:=N.2.2;simp;omega)).mono (by have:=N.1;simp;omega);have F0:Fw v5 w.heap.size ⟨(r:Int),(R:Int),(l:Int),M,d.length,O,d,X,V.length,Z,V⟩:=⟨a0,P0,rfl,rfl⟩;have G0:=F0.only o (fun g hg=>by
  have e:g=g2:=by simpa using hg
  exact⟨_,_,by rw[e];exact B.out,aV,aV⟩)
 refine bodyPost_ret (v:=acY #[U r,U R,U l,acX M d.length O,acX X V.length Z]) ?_ rfl ⟨_,rfl,rfl,G0,R9,O9⟩;exact results_cell_row Tryz.results249 _ w9 g2 _ _ _ _ (by rfl) K9 underlying228 rfl (by kernel_rfl)
theorem KU(h:Rd w0 w gr a m c bs k)(b:At bs k (mD 0)):
  Y 278 #[gr,.func (.func 251) #[] #[]] w fun e w'=>e=acK ()/\Rd w0 w' gr a m c bs (k+(mD 0).length)/\Only [gr] w w':=by
 have H:=jj h;have d:=jj b;clear h b;go_enter func278,ntmps278;go_wp2_with fail
 apply wp_scope_straight;go_wp2_with fail;refine(ug H 0 aR d).mono ?_;rintro e W ⟨rfl,f,g⟩;have R:=jj f;have O:=jj g;have D:=f.blk.at_ 2;clear f g;go_wp2_with fail;go_step3;go_wp2_with fail
 try rw[jB]
 go_ret;exact⟨by trivial,R,O⟩
theorem La(w:World)(a:OA)(m c:Nat)(bs:LI)(k:Nat)(l:gD w a m 1 (mZ bs))(i:bs.length=m)(g:m<=1048576)(h:At bs k (mD 0)):
  Y 250 #[acX a m c,U k,.func (.func 251) #[] #[]] w fun e w'=>e=acK (ac2 #[(),U ((k+(mD 0).length:Nat):Int),true])/\Be w w':=by
 obtain⟨p,o,b⟩:=j3 l i h;obtain⟨j,f⟩:=ex (k+(mD 0).length);rw[<-f];have n:=jj f;clear l i h f;go_enter func250,ntmps250;go_upto_region 2 with fail;generalize hw1:w.alloc _=w1;generalize hgr:w.heap.size=gr;replace hw1:=hw1.symm;replace hgr:=hgr.symm;have R:=F9 (Rd w w1 gr a m c bs k) ⟨by rw[hw1,hgr];exact aZ.new _ _ _,p,o,g,by rw[hw1];exact nC,aR⟩;clear hw1 hgr;go_wp2_with fail;refine(KU R b).mono ?_;rintro e W ⟨rfl,H,q⟩;rw[<-n.out] at H;have r:=jj H;have s:=H.blk.at_ 2;have D:=H.blk.at_ 1;clear H q;go_upto_region 5 with fail;refine rP (fun w'=>J w' gr 1 (U j)) 8 (tk 0 8 .done) D ?_;intro d
 repeat refine' tT ?_
 refine aU ?_;clear d;go_wp2_with fail;go_ret3
 exact⟨by trivial,r.below.drew⟩
theorem OT(w:World)(a:OA)(m c:Nat)(bs:LI)(k:Nat)(i:gD w a m 1 (mZ bs))(g:bs.length=m)(H:m<=1048576)(h:At bs k (mD 0)):
  Y 200 #[acX a m c,U k] w fun e w'=>e=acK (ac2 #[(),U ((k+(mD 0).length:Nat):Int),true])/\Be w w':=by
 have b:=jj (La w a m c bs k i g H h);clear i g h;obtain⟨j,f⟩:=ex (k+(mD 0).length);rw[<-f] at b|-;clear f;go_enter func200,ntmps200;go_wp2_with fail;refine b.mono ?_;rintro e W ⟨rfl,d⟩;have B:=jj d;clear d;go_wp2_with fail;go_ret3
 exact⟨by trivial,B⟩
theorem Fw.uY{cs:AV}{c:CD}(h:Fw w B c)(e:Only [g] w w')(b:aZ w g t cs)(H:t≠49)(a:t≠311):Fw w' B c:=
 h.only e fun k d=>⟨t,cs,by rw[au.1 d];exact b,H,a⟩
theorem Uc:(prog.info? 228).map (fun i=>(i.zero,i.size,i.bytes))=some (some (acY #[U 0,U 0,U 0,(),()]),5,72):=by kernel_rfl
theorem OU(h:Rd w0 w gr a m c bs k)(l:List Ce)(n:Nat)(hn:l.length=n)(I0:n<=256)(j0: ∀r∈l,Et r)(e0:At bs k (nI uG l)):
  Y 277 #[gr,.func (.func 249) #[] #[]] w fun e w'=> ∃(a':OA) (c':Nat) (L:List CD),e=acK (acX a' n c')/\L.map pz=l/\(∀d∈L,Fw w' w.heap.size d)/\w'.ownsRow w.heap.size 228 5 (acX a' n c') n (L.flatMap nS)/\Rd w0 w' gr a m c bs (k+(nI uG l).length)/\Only [gr] w w':=by
 obtain⟨i0,g0,l0,m0,n0⟩:=info_parts Uc;obtain⟨H,HN,c0⟩:=j3 h hn j0;have z:=e0;unfold nI at z;rw[hn] at z;have AN:=jj z.left;obtain⟨p,hp⟩:=ex (k+(mD n).length);have G:=z.right;rw[<-hp] at G;have b0:=jj G;have LL:=F9 (k+(nI uG l).length=p+(l.flatMap uG).length) (by rw[hp];unfold nI;rw[hn,av];omega);have HP:=jj hp;have BW:=jj h.below;clear h j0 e0 z G hp hn;have i256: ¬(256:Int)<n:=aR;go_enter func277,ntmps277;go_wp2_with fail;obtain⟨J0,hJ⟩: ∃J0:Act->World->Prop,J0=(fun a' w'=> ∃(i:Nat) (a5:OA) (c5:Nat) (L:List CD) (u2 u3 u7 u8 u9 o0 p0 q0 r0 s0 t0 u0 v0 x0 y0 z0 A0 B0 C0 D0 E0 F0 G0 H0:Value),i<=n/\L.map pz=l.take i/\(∀d∈L,Fw w' w.heap.size d)/\Rd w0 w' gr a m c bs (p+((l.take i).flatMap uG).length)/\w'.ownsRow w.heap.size 228 5 (acX a5 i c5) i (L.flatMap nS)/\Only [gr] w w'/\a'={tmps:=#[.pointer (some (adZ gr 0)),.func (.func 249) #[] #[],u2,u3,acX none 0 0,acX a5 i c5,U (n:Int),u7,u8,u9,o0,p0,q0,r0,s0,t0,u0,v0,x0,y0,z0,A0,B0,C0,D0,E0,F0,G0,H0],defers:= []}):=⟨_,rfl⟩;have HJ:=jj hJ;clear hJ;refine wp_scope_jumps 1 J0 (fun a' _=>n -EU (a'.tmps.getD 5 undef)) rfl ?_ ?_
 ·go_wp2_with fail
  refine(ug H n aR AN).mono ?_;rintro e W ⟨rfl,f,b⟩;rw[<-HP.out] at f;have D:=F9 (Rd w0 W gr a m c bs (p+((l.take 0).flatMap uG).length)) (mR f);have HO:=F9 (W.ownsRow w.heap.size 228 5 () 0 (([]:List CD).flatMap nS)) ⟨rfl,.inl ⟨rfl,rfl⟩⟩;have T:=F9 (([]:List CD).map pz=l.take 0) rfl;have HI:=F9 (∀d∈([]:List CD),Fw W w.heap.size d) (fun d A=>absurd A bJ);have X:=jj b;clear f b;go_wp2_with fail;go_step3
  by_cases O:0=n
  ·subst O
   have E1:=F9 (l.take 0=l) (by rw[<-HN.out];exact dP);have d2:=D.blk.at_ 2;go_wp2_with fail;simp only[Exit.jump];go_ret;rw[E1.out] at D T;exact⟨none,0,([]:List CD),by trivial,T,HI,HO,by rw[LL.out];exact D.out,X⟩
  have d2:=D.blk.at_ 2;have a0:0<n:=aR;have j:0<l.length:=by rw[HN.out];exact a0
  have n1: ¬(0:Int)=n:=aR;obtain⟨r,G⟩: ∃r,l[0]?=some r:=⟨_,aj j⟩;have F:l[0]=r:=by rw[aj j] at G;exact dh G
  have RO:=jj (c0.out r (ak G));have AR:=jj (Bb b0 G);have TK:=F9 ((l.take (0+1)).flatMap uG=(l.take 0).flatMap uG++uG r) (by rw[bA j,F];simp);have TL:=F9 (l.take (0+1)=l.take 0++ [r]) (by rw[bA j,F]);have CC:Hid (Y 249 #[gr] W (fun e w'=> ∃(v C t:Int) (B:OA) (q o:Nat) (J:List Rq) (V:OA) (y x:Nat) (K:List Vo),e=acK (acY #[U v,U C,U t,acX B q o,acX V y x])/\pz ⟨v,C,t,B,q,o,J,V,y,x,K⟩=r/\Fw w' W.heap.size ⟨v,C,t,B,q,o,J,V,y,x,K⟩/\Rd w0 w' gr a m c bs (p+((l.take 0).flatMap uG).length+(uG r).length)/\Only [gr] W w')):=
   jj ((Wu D r RO AR).mono fun e w' ⟨d,h1,h2,h3,h4,h5⟩=>⟨d.view,d.inst,d.seq,d.ba,d.bn,d.bc,d.bs,d.va,d.vn,d.vc,d.vs,h1,h2,h3,h4,h5⟩)
  clear G F j O
  go_wp2_with(first
   |(go_at_call 249;refine(CC).mono ?_;rintro e I ⟨v,C,t,B,q,o,J,V,y,x,K,rfl,N,M,f,b⟩;have CE:=jj N;have R:=jj (M.base X.size);have R1:=jj f;have Q1:=jj (X.trans b);have Z:=jj (gH HO b D.blk aV);have I1:=jj (fun d A=>(HI.out d A).uY b D.blk aV aV);clear N M f b)
   |(at_builtin;refine fD rfl _ _ _ rfl w.heap.size 228 i0 _ 5 72 underlying79 g0 l0 m0 n0 rfl aR none 0 0 (([]:List CD).flatMap nS) rfl (own_below Z nC) (some ⟨I.heap.size,0,none⟩) 1 1 (nS ⟨v,C,t,B,q,o,J,V,y,x,K⟩) rfl (gD.nR (n:=1) (s:=5) (aZ.new I 228 #[U v,U C,U t,acX B q o,acX V y x]) rfl) (by intro u hu;simp[nS] at hu;rcases hu with rfl|rfl|rfl|rfl|rfl<;>rfl) (by unfold maxLen;omega) aR (by have:=Q1.size;simp;omega) ?_;intro a6 c6 y2 h6;have Q:=jj h6;clear h6))
  try go_step3
  have P:Be I (I.alloc (.cells #[U v,U C,U t,acX B q o,acX V y x] 228)):=(aC I.heap.size I).alloc (aF _) _;have SB:=dx (own_below Z P);have Q2:Only [gr] w y2:=(Q1.trans (Only.of_below (S:= [gr]) P)).then Q.only (fun k hk=> .inr (SB k hk).1);have R2:=(R1.keep P).far Q.only (fun hm=>by obtain⟨_,cs,E⟩:=dx Z _ hm;exact R1.blk.nY E aV rfl) (fun k hk=>aG BW.size (SB k hk).1)
  have I2: ∀d∈([]:List CD)++ [(⟨v,C,t,B,q,o,J,V,y,x,K⟩:CD)],Fw y2 w.heap.size d:=fun d A=>by
   have key:Fw I w.heap.size d:=by
    rcases aQ.1 A with A|A
    ·exact I1.out d A
    rw[au.1 A];exact R.out
   exact(key.below P).only Q.only (fun g hg=>by obtain⟨_,cs,E⟩:=SB g hg;exact⟨_,cs,E,aV,aV⟩)
  refine dH rfl ?_;rw[HJ.out];exact⟨0+1,a6,c6,([]:List CD)++ [⟨v,C,t,B,q,o,J,V,y,x,K⟩],_,_,_,_,_,_,_,_,_,_,_,_,_,_,_,_,_,_,_,_,_,_,_,_,aR,by rw[bR,T.out,TL.out,bV,fu,CE.out],I2,by rw[TK.out,av,<-dL];exact R2,by rw[bS,bQ,iM,eG];exact Q.own,Q2,rfl⟩
 rintro a' W d0;rw[HJ.out] at d0;obtain⟨i,a5,c5,L,u2,u3,u7,u8,u9,o0,p0,q0,r0,s0,t0,u0,v0,x0,y0,z0,A0,B0,C0,D0,E0,F0,G0,H0,hi,f0,h0,f,b,k0,rfl⟩:=d0;obtain⟨D,HO,X,T,HI⟩:=j5 f b k0 f0 h0;clear f b k0 f0 h0;by_cases O:i=n
 ·subst O
  have E1:=F9 (l.take i=l) (by rw[<-HN.out];exact dP);have d2:=D.blk.at_ 2;go_wp2_with fail;simp only[Exit.jump];go_ret;rw[E1.out] at D T;exact⟨a5,c5,L,by trivial,T,HI,HO,by rw[LL.out];exact D.out,X⟩
 have d2:=D.blk.at_ 2;have a0:i<n:=aR;have j:i<l.length:=by rw[HN.out];exact a0
 have n1: ¬(i:Int)=n:=aR;obtain⟨r,G⟩: ∃r,l[i]?=some r:=⟨_,aj j⟩;have F:l[i]=r:=by rw[aj j] at G;exact dh G
 have RO:=jj (c0.out r (ak G));have AR:=jj (Bb b0 G);have TK:=F9 ((l.take (i+1)).flatMap uG=(l.take i).flatMap uG++uG r) (by rw[bA j,F];simp);have TL:=F9 (l.take (i+1)=l.take i++ [r]) (by rw[bA j,F]);have CC:Hid (Y 249 #[gr] W (fun e w'=> ∃(v C t:Int) (B:OA) (q o:Nat) (J:List Rq) (V:OA) (y x:Nat) (K:List Vo),e=acK (acY #[U v,U C,U t,acX B q o,acX V y x])/\pz ⟨v,C,t,B,q,o,J,V,y,x,K⟩=r/\Fw w' W.heap.size ⟨v,C,t,B,q,o,J,V,y,x,K⟩/\Rd w0 w' gr a m c bs (p+((l.take i).flatMap uG).length+(uG r).length)/\Only [gr] W w')):=
  jj ((Wu D r RO AR).mono fun e w' ⟨d,h1,h2,h3,h4,h5⟩=>⟨d.view,d.inst,d.seq,d.ba,d.bn,d.bc,d.bs,d.va,d.vn,d.vc,d.vs,h1,h2,h3,h4,h5⟩)
 clear G F j O
 go_wp2_with(first
  |(go_at_call 249;refine(CC).mono ?_;rintro e I ⟨v,C,t,B,q,o,J,V,y,x,K,rfl,N,M,f,b⟩;have CE:=jj N;have R:=jj (M.base X.size);have R1:=jj f;have Q1:=jj (X.trans b);have Z:=jj (gH HO b D.blk aV);have I1:=jj (fun d A=>(HI.out d A).uY b D.blk aV aV);clear N M f b)
  |(at_builtin;refine fD rfl _ _ _ rfl w.heap.size 228 i0 _ 5 72 underlying79 g0 l0 m0 n0 rfl aR a5 i c5 (L.flatMap nS) rfl (own_below Z nC) (some ⟨I.heap.size,0,none⟩) 1 1 (nS ⟨v,C,t,B,q,o,J,V,y,x,K⟩) rfl (gD.nR (n:=1) (s:=5) (aZ.new I 228 #[U v,U C,U t,acX B q o,acX V y x]) rfl) (by intro u hu;simp[nS] at hu;rcases hu with rfl|rfl|rfl|rfl|rfl<;>rfl) (by unfold maxLen;omega) aR (by have:=Q1.size;simp;omega) ?_;intro a6 c6 y2 h6;have Q:=jj h6;clear h6))
 try go_step3
 have P:Be I (I.alloc (.cells #[U v,U C,U t,acX B q o,acX V y x] 228)):=(aC I.heap.size I).alloc (aF _) _;have SB:=dx (own_below Z P);have Q2:Only [gr] w y2:=(Q1.trans (Only.of_below (S:= [gr]) P)).then Q.only (fun k hk=> .inr (SB k hk).1);have R2:=(R1.keep P).far Q.only (fun hm=>by obtain⟨_,cs,E⟩:=dx Z _ hm;exact R1.blk.nY E aV rfl) (fun k hk=>aG BW.size (SB k hk).1)
 have I2: ∀d∈L++ [(⟨v,C,t,B,q,o,J,V,y,x,K⟩:CD)],Fw y2 w.heap.size d:=fun d A=>by
  have key:Fw I w.heap.size d:=by
   rcases aQ.1 A with A|A
   ·exact I1.out d A
   rw[au.1 A];exact R.out
  exact(key.below P).only Q.only (fun g hg=>by obtain⟨_,cs,E⟩:=SB g hg;exact⟨_,cs,E,aV,aV⟩)
 refine dH rfl (dH ?_ (by simp only[iF];simp[EU];omega));rw[HJ.out];exact⟨i+1,a6,c6,L++ [⟨v,C,t,B,q,o,J,V,y,x,K⟩],_,_,_,_,_,_,_,_,_,_,_,_,_,_,_,_,_,_,_,_,_,_,_,_,aR,by rw[bR,T.out,TL.out,bV,fu,CE.out],I2,by rw[TK.out,av,<-dL];exact R2,by rw[bS,bQ,iM,eG];exact Q.own,Q2,rfl⟩
theorem Pf(w:World)(a:OA)(m c:Nat)(bs:LI)(k:Nat)(y:gD w a m 1 (mZ bs))(u:bs.length=m)(t:m<=1048576)(l:List Ce)(n:Nat)(v:l.length=n)(h:n<=256)(g: ∀r∈l,Et r)(H:At bs k (nI uG l)):
  Y 248 #[acX a m c,U k,.func (.func 249) #[] #[]] w fun e w'=> ∃(A:OA) (c':Nat) (D:List CD),e=acK (ac2 #[acX A n c',U ((k+(nI uG l).length:Nat):Int),true])/\D.map pz=l/\(∀d∈D,Fw w' w.heap.size d)/\w'.ownsRow w.heap.size 228 5 (acX A n c') n (D.flatMap nS)/\Be w w':=by
 obtain⟨I,E,F,G,o⟩:=j5 y u v g H;obtain⟨j,s⟩:=ex (k+(nI uG l).length);rw[<-s];have C:=jj s;clear y u v g H s;go_enter func248,ntmps248;go_upto_region 2 with fail;generalize hw1:w.alloc _=w1;generalize hgr:w.heap.size=gr;replace hw1:=hw1.symm;replace hgr:=hgr.symm;have R:=F9 (Rd w w1 gr a m c bs k) ⟨by rw[hw1,hgr];exact aZ.new _ _ _,I,E,t,by rw[hw1];exact nC,aR⟩;clear hw1 hgr;go_wp2_with fail;refine(OU R l n F h G o).mono ?_;rintro e W ⟨A,c',D,rfl,f,b,x,i,M⟩;have B:=jj f;have z:=jj (fun d q=>(b d q).base R.below.size);rw[<-C.out] at i;have K:=jj i;have O:=jj (mO x R.below.size);have N:=i.blk.at_ 2;have L:=i.blk.at_ 1;clear x i M f b;go_upto_region 5 with fail;refine rP (fun w'=>J w' gr 1 (U j)) 8 (tk 0 8 .done) L ?_;intro p
 repeat refine' tT ?_
 refine aU ?_;clear p;go_wp2_with fail;go_ret3
 exact⟨A,c',D,by trivial,B,fun d q=>(z.out d q).below ((aC _ _).drew),own_below O ((aC _ _).drew),K.below.drew⟩
theorem Rz(w:World)(a:OA)(m c:Nat)(bs:LI)(k:Nat)(v:gD w a m 1 (mZ bs))(s:bs.length=m)(i:m<=1048576)(l:List Ce)(n:Nat)(t:l.length=n)(h:n<=256)(g: ∀r∈l,Et r)(H:At bs k (nI uG l)):
  Y 199 #[acX a m c,U k] w fun e w'=> ∃(A:OA) (c':Nat) (D:List CD),e=acK (ac2 #[acX A n c',U ((k+(nI uG l).length:Nat):Int),true])/\D.map pz=l/\(∀d∈D,Fw w' w.heap.size d)/\w'.ownsRow w.heap.size 228 5 (acX A n c') n (D.flatMap nS)/\Be w w':=by
 have o:=jj (Pf w a m c bs k v s i l n t h g H);clear v s t g H;obtain⟨j,q⟩:=ex (k+(nI uG l).length);rw[<-q] at o|-;clear q;go_enter func199,ntmps199;go_wp2_with fail;refine o.mono ?_;rintro e W ⟨A,c',D,rfl,f,b,u,p⟩;obtain⟨y,x,O,B⟩:=j4 f b u p;clear u p f b;go_wp2_with fail;go_ret3
 exact⟨A,c',D,by trivial,y,x,O,B⟩
end Go.Proofs.YtgnhecmnlddjhaaGreat
