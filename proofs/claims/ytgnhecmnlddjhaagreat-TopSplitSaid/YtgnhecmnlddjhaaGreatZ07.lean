/- TopSplit, part 8 of 12: a proof squeezed by a program. -/
import Derived.Test.YtgnhecmnlddjhaaGreatZ06
set_option linter.all false
set_option maxRecDepth 100000
set_option maxHeartbeats 6400000
namespace Go.Proofs.YtgnhecmnlddjhaaGreat
open Go.RowKit Go.Proofs.Tryz
variable{E:Who}{K:KS}{M:Ms}{S:KN}{a:OA}{b c g gx j k m n s x:Nat}{f z:Int}{l:LI}{p:Nat×List Int}{r:Rq}{w w1 w2:World}
section
variable{x:Nat}{w:World}{f:Int}{n id gx b:Nat}{d:bK}{K:KS}
theorem abl(h:qE x w f n id gx b d K)(hx:x<w.heap.size)(s:1<=f)(t:f<=4)(v:n<=13)(k j:Nat)(i:Ba)(p:uo)(y:d.val.pl k j=some (i,p))(a:i.on=true)(l:(p.told||!p.has)=true\/(p.told=false/\p.has=true/\qx (2*f+1).toNat p.pr p.b=none))(gi:Nat)(H:d.is[k]?.map Prod.fst=some gi)(z:Int)(q:z=(j:Int)+1):
  Y 259 #[gi,U z] w fun e w'=>e=acK (ac2 #[acY #[U 0,U 0,U 0,(),()],false])/\Be w w':=by
 obtain⟨g,I,P,r,E,rfl,rfl⟩:=sQ y;rw[r] at H;injection H with H;subst H;have m:eU x w f n k 4 g I:=h.inst r;rcases l with l|⟨c,o,u⟩
 ·cases c:P.told
  ·have o:P.sl.has=false:=by simp only[qm.val,c,jV,Bool.not_eq_true'] at l;exact l
   exact Gu m j P E a c o z q hx
  exact Jf m j P E a c z q hx
 exact KJ m j P E a c o s t v _ aR u z q hx
theorem Yc(h:qE x w f n id gx b d K)(hx:x<w.heap.size)(B:1<=f)(D:f<=4)(J:n<=13)(k j:Nat)(Q:k<=16)(i:Ba)(p:uo)(M:d.val.pl k j=some (i,p))(t:i.on=true)(y:qX i.vw)(O:p.told=false)(N:p.has=true)(v:List Vo)(a:qx (2*f+1).toNat p.pr p.b=some v)(gi:Nat)(H:d.is[k]?.map Prod.fst=some gi)(z:Int)(A:z=(j:Int)+1):
  Y 259 #[gi,U z] w fun e w'=> ∃(cd:CD) (d':bK),e=acK (ac2 #[acY (nS cd).toArray,true])/\cd.bs=p.b/\CF x w' cd/\mP x w w' f n id gx b d K d' K/\Fix d d'/\d'.val=d.val.put k j {p with told:=true,cert:=some ⟨i.vw,k,j+1,p.b,v⟩}/\d'.nG=d.nG/\d'.view=d.view:=by
 obtain⟨g,I,P,E,l,rfl,rfl⟩:=sQ M;rw[E] at H;injection H with H;subst H;have F:eU x w f n k 4 g I:=h.inst E;have u:v.length<=4096:=by
  unfold qx at a;split at a
  ·rename_i R
   injection a with a;subst a;omega
  cases a
 refine(QI F j P l t O N B D J _ aR v a u z A ⟨y,aR,aR⟩ hx).mono ?_;rintro e w' ⟨cd,C,rfl,o,G,r,m,s,L⟩;refine⟨cd,d.insts k g _,rfl,congrArg Ce.batch o,r,(Step.refl h).inst E m L (fun q c=>by simp only[au] at c;subst c;simp[tJ.foot]) (fun q c=> .inl (yx (P':={P with told:=true,has:=true,cert:=C}) l rfl q c)),Fix.Ai E,?_,rfl,rfl⟩;rw[DT E l]
 congr 1
 simp only[qm.val,tJ.val,s,if_true,A]
theorem FL(h:qE x w f n id gx b d K)(hx:x<w.heap.size)(q:1<=f)(r:f<=4)(t:n<=13)(k j:Nat)(i:Ba)(p:uo)(u:d.val.pl k j=some (i,p))(c:p.done.isSome=true\/(p.done.isSome=false/\mQ (2*f+1).toNat p.co p.co=none))(gi:Nat)(H:d.is[k]?.map Prod.fst=some gi)(z:Int)(o:z=(j:Int)+1):
  Y 260 #[gi,U z] w fun e w'=>e=acK (ac2 #[acY #[U 0,U 0,U 0,(),()],false])/\Be w w':=by
 obtain⟨g,I,P,E,l,rfl,rfl⟩:=sQ u;rw[E] at H;injection H with H;subst H;have m:eU x w f n k 4 g I:=h.inst E;cases a:P.done
 ·rcases c with c|⟨_,s⟩
  ·simp[qm.val,a] at c
  exact Oe m j P l a q r t _ aR s z o hx
 exact KD m j P l a z o hx
theorem Dy(h:qE x w f n id gx b d K)(hx:x<w.heap.size)(J:1<=f)(L:f<=4)(R:n<=13)(k j:Nat)(X:k<=16)(i:Ba)(p:uo)(T:d.val.pl k j=some (i,p))(C:qX i.vw)(O:p.done.isSome=false)(bs:List Rq)(V:List Vo)(D:mQ (2*f+1).toNat p.co p.co=some (bs,V))(gi:Nat)(c:d.is[k]?.map Prod.fst=some gi)(z:Int)(F:z=(j:Int)+1):
  Y 260 #[gi,U z] w fun e w'=> ∃(cd:CD) (d':bK),e=acK (ac2 #[acY (nS cd).toArray,true])/\cd.bs=bs/\CF x w' cd/\mP x w w' f n id gx b d K d' K/\Fix d d'/\d'.val=d.val.put k j {p with done:=some ⟨i.vw,k,j+1,bs,V⟩}:=by
 obtain⟨g,I,P,E,o,rfl,rfl⟩:=sQ T;rw[E] at c;injection c with c;subst c;have M:eU x w f n k 4 g I:=h.inst E;have A:P.done=false:=by
  cases m:P.done
  ·rfl
  simp[qm.val,m] at O
 have B:V.length<=4096:=by
  have key: ∀(q:Nat) (l r:List Xk),mQ q l r=some (bs,V)->V.length=q:=by
   intro q l r
   induction r with
   |nil=>intro H;cases H
   |cons v r ih=>
    intro H
    cases v with
    |none=>exact ih H
    |some v=>
     obtain⟨Z,W⟩:=v;rw[mQ] at H;unfold qx at H;split at H
     ·rename_i vv a
      split at a
      ·rename_i Q
       injection a with a;injection H with H;injection H with _ H;rw[<-H,<-a];exact Q
      cases a
     exact ih H
  have:=key _ _ _ D;omega
 refine(Ua M j P o A J L R _ aR bs V D B z F ⟨C,aR,aR⟩ hx).mono ?_;rintro e w' ⟨cd,G,rfl,t,N,u,s,y,S⟩;refine⟨cd,d.insts k g _,rfl,congrArg Ce.batch t,u,(Step.refl h).inst E s S (fun q m=>by simp only[au] at m;subst m;simp[tJ.foot]) (fun q m=> .inl (yx (P':={P with done:=true,dw:=G}) o rfl q m)),Fix.Ai E,?_⟩;rw[DT E o]
 congr 1
 simp only[qm.val,tJ.val,y,if_true,F]
theorem Jw{i:Ba}{p:uo}(h:d.val.pl k j=some (i,p)): ∃gi,d.is[k]?.map Prod.fst=some gi/\k<d.is.length/\ ∀(x:Nat) (u:World) (f:Int) (n id gx b:Nat) (K:KS),qE x u f n id gx b d K->J u d.gr k (gi:Nat):=by obtain⟨g,I,P,e,_⟩:=sQ h;exact⟨g,by rw[e];rfl,zZ e,fun x u f n id gx b K H=>H.ptr e⟩
theorem NH(h:qE x w f n id gx b d K)(H:d.nG[k]?=some p):J w d.xK k (O p.1 p.2.length p.2.length)/\k<d.nG.length/\ ∀i,w.frozen? ⟨p.1,i,none⟩=false:=by refine⟨h.nG.out.cell (by rw[aS,H];rfl),(ah.1 H).1,fun i=>(h.nG.KI p (ak H)).frozen i⟩
theorem aag(a:d.nG[k]?=some (g,l))(z:Int):(d.XA k (g,l) s z).val={d.val with nG:=d.val.nG.modify k fun l=>l.set s z}:=by
 have h:k<d.nG.length:=(ah.1 a).1;simp only[bK.val,ql.mk.injEq,true_and,and_true];refine dD fun q=> ?_;rw[aS,eY,aS];by_cases H:k=q
 ·subst H
  rw[aL h,a];simp
 rw[aX H];simp[H]
theorem aai(h:d.val.nG[k]?=some l): ∃g,d.nG[k]?=some (g,l):=by simp only[bK.val,aS,aK] at h;obtain⟨⟨g,L⟩,H,rfl⟩:=h;exact⟨g,H⟩
end
theorem MI(x:Nat)(w:World)(E:Who)(gx b:Nat)(d:bK)(K:KS)(h:qE x w E.f E.n E.id gx b d K)(hx:x<w.heap.size)(h1:1<=E.f)(h4:E.f<=4)(hn:(E.n:Int)=3*E.f+1)(k j:Nat)(q:k<=16)(s:Nat)(hs:(s:Int)=(j:Int)+1)(K':KS)(v':ql)(hv:lH E k j (K,d.val)=some (K',v')):
  Y 218 #[gx,U k,U s] w fun e w'=>e=acK (ac2 #[])/\Kt x w w' E gx b d K K' v':=by
 obtain⟨f,n,L⟩:=E;simp only at h h1 h4 hn;have NM:=F9 (n<=13) aR;unfold lH at hv;simp only[aA] at hv;obtain⟨⟨K5,v5⟩,c,a⟩:=hv;unfold QY at c;simp only[aA] at c;obtain⟨⟨i,p⟩,hp,u,hu,c⟩:=c;have lf:=mI hu;obtain⟨gi,H0,S0,p0⟩:=Jw hp;have u0:(((p.told||!p.has)=true\/(p.told=false/\p.has=true/\qx (2*f+1).toNat p.pr p.b=none))/\K=K5/\d.val=v5)\/(p.told=false/\p.has=true/\ ∃V,qx (2*f+1).toNat p.pr p.b=some V/\vL ⟨f,n,L⟩ 5 k j p.b (K,{d.val.put k j {p with told:=true,cert:=some ⟨i.vw,k,j+1,p.b,V⟩} with nG:=d.val.nG.modify k fun l=>l.set (j+1) (d.val.view+1)})=some (K5,v5)):=by
  by_cases F:(p.told||!p.has)=true
  ·simp only at c
   rw[if_pos F] at c;simp only[aD,aM] at c;exact .inl ⟨.inl F,c.1,c.2⟩
  simp only at c;rw[if_neg F] at c;simp only[Bool.not_eq_true,kU,Bool.not_eq_false'] at F;split at c
  ·rename_i he
   simp only[aD,aM] at c;exact .inl ⟨.inr ⟨F.1,F.2,he⟩,c.1,c.2⟩
  rename_i V he;exact .inr ⟨F.1,F.2,V,he,c⟩
 have k0:(0:Int)<=k:=aR;have k1:(k:Int)<d.is.length:=aR;have C:=h.blk.at_ 18;have r:J w d.gr k gi:=p0 _ _ _ _ _ _ _ _ h;obtain⟨LF,H,HX,HS,HP,HG⟩:=j6 lf h hx hs hp H0;have E0:=jj a;have L0:=jj hn;clear c hu lf h hx hs hp H0 p0 a hn;go_enter func218,ntmps218;go_wp2_with fail;rcases u0 with⟨o0,t,v⟩|⟨ht,hh,V,he,G0⟩
 ·have CV:=F9 (Fz ⟨f,n,L⟩ k j (K,d.val)=some (K',v')) (by rw[t,v];exact E0.out)
  clear t v;refine(abl H HX h1 h4 NM k j i p HP LF.on o0 gi HG s HS).mono ?_;rintro e w1 ⟨rfl,F0⟩;have SB:=jj (H.step F0);clear F0 C r k0 k1;go_upto_region 4 with fail;generalize zM:w1.alloc _=w5;replace zM:=zM.symm;have S:=F9 (mP x w w5 f n L gx b d K d K) (by rw[zM];exact SB.below nC);clear zM;have H5:=jj S.sys;have F5:=jj (Fix.refl d);have cv:=CV.out;unfold Fz at cv;simp only[aA] at cv;obtain⟨⟨i5,P⟩,G,u5,r0,a⟩:=cv;have y0:=jj (mI r0);obtain⟨g5,m0,O0,g⟩:=Jw G;have k0:(0:Int)<=k:=aR;have k1:(k:Int)<d.is.length:=aR;have C:=H5.blk.at_ 18;have r:J w5 d.gr k g5:=g _ _ _ _ _ _ _ _ H5;have T:=jj G;have R:=jj m0;clear G m0 g r0;go_wp2_with fail;have u0:((P.done.isSome=true\/(P.done.isSome=false/\mQ (2*f+1).toNat P.co P.co=none))/\K=K'/\d.val=v')\/(P.done.isSome=false/\ ∃Z V,mQ (2*f+1).toNat P.co P.co=some (Z,V)/\NC ⟨f,n,L⟩ k Z (K,d.val.put k j {P with done:=some ⟨i5.vw,k,j+1,Z,V⟩})=some (K',v')):=by
   cases hd:P.done.isSome
   ·rw[hd] at a
    simp only[dz,if_false] at a;split at a
    ·rename_i hc
     simp only[aD,aM] at a;exact .inl ⟨.inr ⟨rfl,hc⟩,a.1,a.2⟩
    rename_i Z V hc;exact .inr ⟨rfl,Z,V,hc,a⟩
   rw[hd] at a;simp only[if_true,aD,aM] at a;exact .inl ⟨.inl rfl,a.1,a.2⟩
  clear a;rcases u0 with⟨o0,t,v⟩|⟨n0,g0,C0,i0,A⟩
  ·have KK:=jj t
   have VV:=jj v;clear t v;refine(FL H5 (aB HX S.size) h1 h4 NM k j i5 P T o0 g5 R s HS).mono ?_;rintro e w6 ⟨rfl,h0⟩;have S6:=jj (S.below h0);clear h0 C r;go_wp2_with fail;go_end0
   refine⟨by trivial,d,?_,F5,VV⟩;rw[<-KK.out];exact S6.below nC
  refine(Dy H5 (aB HX S.size) h1 h4 NM k j q i5 P T y0 n0 g0 C0 i0 g5 R s HS).mono ?_;rintro e w6 ⟨cd,d6,rfl,y,z,m,B,o⟩;obtain⟨S6,H6,F6,N,Q,X⟩:=j6 m m.sys B z A o;have BS:=jj y;rw[show(nS cd).toArray=#[U cd.view,U cd.inst,U cd.seq,acX cd.ba cd.bn cd.bc,acX cd.va cd.vn cd.vc] from rfl];clear m B z A o y i0 n0 C r;go_upto_region 5 with fail;generalize hw7:w6.alloc _=w7;generalize qP:w6.heap.size=gq;replace hw7:=hw7.symm;replace qP:=qP.symm;obtain⟨M,X7⟩:=nw hw7 qP;clear hw7 qP;have c3:=X7.at_ 3;go_wp2_with fail;refine(adD x w7 ⟨f,n,L⟩ gx b d6 K (H6.below M) (aB HX (aG S.size (aG S6.size M.size))) h1 h4 k q k rfl cd.ba cd.bn cd.bc g0 (by rw[<-BS.out];exact⟨(N.below M).is.b,(N.below M).b⟩) K' v' (by rw[X.out];exact Q.out)).mono ?_;rintro e w8 ⟨rfl,d8,f0,d0,I⟩;go_wp2_with fail;go_end0
  exact⟨by trivial,d8,((S.trans S6).below M).trans f0,(F5.trans F6).trans d0,I⟩
 obtain⟨l,z0,R0⟩:=LF.nG;refine(Yc H HX h1 h4 NM k j q i p HP LF.on LF.i ht hh V he gi HG s HS).mono ?_;rintro e w1 ⟨cd,D,rfl,y,z,e0,j0,a0,c0,t0⟩;obtain⟨S1,H1,F1,I0,w0,BS⟩:=j6 e0 e0.sys j0 z a0 y;have K0:=jj G0;have M0:=jj t0;rw[show(nS cd).toArray=#[U cd.view,U cd.inst,U cd.seq,acX cd.ba cd.bn cd.bc,acX cd.va cd.vn cd.vc] from rfl];rw[<-show D.val.nG=d.val.nG by simp only[bK.val,c0]] at z0;obtain⟨gl,A0⟩:=aai z0;have Q0:=jj c0;have GL:=jj A0;clear e0 j0 z a0 y G0 t0 c0 z0 C r k0 k1 ht hh he;go_upto_region 2 with fail;generalize hw2:w1.alloc _=w2;generalize qP:w1.heap.size=gq;replace hw2:=hw2.symm;replace qP:=qP.symm;have B2:=tQ hw2;have T2:=F9 (sV (nu f n L gx b D K) w2 gq 228 #[U cd.view,U cd.inst,U cd.seq,acX cd.ba cd.bn cd.bc,acX cd.va cd.vn cd.vc]) (sV.new H1 (by rw[hw2,qP];exact aZ.new _ _ _) aR);clear hw2 qP;have H2:=jj (H1.below B2);have S2:=jj (S1.below B2);have J0:=jj (I0.below B2);have k0:(0:Int)<=k:=aR;have k1:(k:Int)<D.nG.length:=by have:=(NH H1 A0).2.1;omega
 have s0:(0:Int)<=s:=aR;have s1:(s:Int)<l.length:=by have:=HS.out;omega
 have P0:IntKind.i64.wrap (D.view+1)=D.view+1:=aH _ (by rw[M0.out];have:=LF.v;have e:d.val.view=d.view:=rfl;omega);clear A0;have SC:=F9 (J w2.drew gx 27 (O D.xK D.nG.length D.zR)/\J w2.drew D.xK k (O gl l.length l.length)/\J w2.drew gx 29 (U D.view)) ⟨H2.blk.drew.cell 27,(NH H2 GL).1,H2.blk.drew.cell 29⟩;refine rD (fun u=>J u gx 27 (O D.xK D.nG.length D.zR)/\J u D.xK k (O gl l.length l.length)/\J u gx 29 (U D.view)) 14 (tk 0 14 (.one 14 .done)) SC fun w3 B3 N0=> ?_;have S3:=jj (S2.below B3);have H3:=jj S3.sys;have T3:=jj (T2.below B3);have fr:=(NH H3 GL).2.2 s;have there:J w3 gl s (U (l.getD s 0)):=by have e:=(H3.nG.KI _ (ak GL)).cell s;exact e.trans (Du l s aR)
 repeat refine' tT ?_
 refine pL fun KT bq=> ?_;go_simp;refine oL bq ?_;refine aU ?_;clear N0 fr there;obtain⟨w4,B0⟩:=ex (w3.setCell (adZ gl s) (U (D.view+1)));rw[<-B0];obtain⟨d4,v0⟩:=ex (D.XA k (gl,l) s (D.view+1));have W:=F9 (mP x w3 w4 f n L gx b D K d4 K) (by rw[B0,v0];exact(Step.refl H3).com GL (D.view+1));have F4:=F9 (Fix D d4) (by rw[v0];exact Fix.aep GL _ _);have x0:=F9 (d4.val={D.val with nG:=D.val.nG.modify k fun l=>l.set (j+1) (D.val.view+1)}) (by rw[v0,aag GL,show s=j+1 by have:=HS.out;omega];rfl);clear B0 v0;have H4:=jj W.sys;have T4:=jj (T3.step W);have D0:=jj ((J0.below B3).step H3 W);have c3:=T4.blk.at_ 3;go_wp2_with fail;refine(MC x w4 ⟨f,n,L⟩ gx b d4 K H4 (aB HX (aG S3.size W.size)) h1 h4 L0 5 k j q LF.jl s HS cd.ba cd.bn cd.bc p.b (by rw[<-BS.out];exact⟨D0.is.b,D0.b⟩) K5 v5 (by rw[x0.out,w0.out];exact K0.out)).mono ?_
 rintro e w5 ⟨rfl,d5,q0,l0,b0⟩;have S:=F9 (mP x w w5 f n L gx b d K d5 K5) ((S3.trans W).trans q0);have H5:=jj S.sys;have F5:=jj ((F1.trans F4).trans l0);have CV:=F9 (Fz ⟨f,n,L⟩ k j (K5,d5.val)=some (K',v')) (by rw[b0];exact E0.out);clear q0 l0 b0 c3 k0 k1 s0 s1 P0;have cv:=CV.out;unfold Fz at cv;simp only[aA] at cv;obtain⟨⟨i5,P⟩,G,u5,r0,a⟩:=cv;have y0:=jj (mI r0);obtain⟨g5,m0,O0,g⟩:=Jw G;have k0:(0:Int)<=k:=aR;have k1:(k:Int)<d5.is.length:=aR;have C:=H5.blk.at_ 18;have r:J w5 d5.gr k g5:=g _ _ _ _ _ _ _ _ H5;have T:=jj G;have R:=jj m0;clear G m0 g r0;go_wp2_with fail;have u0:((P.done.isSome=true\/(P.done.isSome=false/\mQ (2*f+1).toNat P.co P.co=none))/\K5=K'/\d5.val=v')\/(P.done.isSome=false/\ ∃Z V,mQ (2*f+1).toNat P.co P.co=some (Z,V)/\NC ⟨f,n,L⟩ k Z (K5,d5.val.put k j {P with done:=some ⟨i5.vw,k,j+1,Z,V⟩})=some (K',v')):=by
  cases hd:P.done.isSome
  ·rw[hd] at a
   simp only[dz,if_false] at a;split at a
   ·rename_i hc
    simp only[aD,aM] at a;exact .inl ⟨.inr ⟨rfl,hc⟩,a.1,a.2⟩
   rename_i Z V hc;exact .inr ⟨rfl,Z,V,hc,a⟩
  rw[hd] at a;simp only[if_true,aD,aM] at a;exact .inl ⟨.inl rfl,a.1,a.2⟩
 clear a;rcases u0 with⟨o0,t,v⟩|⟨n0,g0,C0,i0,A⟩
 ·have KK:=jj t
  have VV:=jj v;clear t v;refine(FL H5 (aB HX S.size) h1 h4 NM k j i5 P T o0 g5 R s HS).mono ?_;rintro e w6 ⟨rfl,h0⟩;have S6:=jj (S.below h0);clear h0 C r;go_wp2_with fail;go_end0
  refine⟨by trivial,d5,?_,F5,VV⟩;rw[<-KK.out];exact S6.below nC
 refine(Dy H5 (aB HX S.size) h1 h4 NM k j q i5 P T y0 n0 g0 C0 i0 g5 R s HS).mono ?_;rintro e w6 ⟨cd,d6,rfl,y,z,m,B,o⟩;obtain⟨S6,H6,F6,N,Q,X⟩:=j6 m m.sys B z A o;have BS:=jj y;rw[show(nS cd).toArray=#[U cd.view,U cd.inst,U cd.seq,acX cd.ba cd.bn cd.bc,acX cd.va cd.vn cd.vc] from rfl];clear m B z A o y i0 n0 C r;go_upto_region 5 with fail;generalize hw7:w6.alloc _=w7;generalize qP:w6.heap.size=gq;replace hw7:=hw7.symm;replace qP:=qP.symm;obtain⟨M,X7⟩:=nw hw7 qP;clear hw7 qP;have c3:=X7.at_ 3;go_wp2_with fail;refine(adD x w7 ⟨f,n,L⟩ gx b d6 K5 (H6.below M) (aB HX (aG S.size (aG S6.size M.size))) h1 h4 k q k rfl cd.ba cd.bn cd.bc g0 (by rw[<-BS.out];exact⟨(N.below M).is.b,(N.below M).b⟩) K' v' (by rw[X.out];exact Q.out)).mono ?_;rintro e w8 ⟨rfl,d8,f0,d0,I⟩;go_wp2_with fail;go_end0
 exact⟨by trivial,d8,((S.trans S6).below M).trans f0,(F5.trans F6).trans d0,I⟩
theorem FK(x:Nat)(w:World)(E:Who)(gx b:Nat)(d:bK)(K:KS)(h:qE x w E.f E.n E.id gx b d K)(hx:x<w.heap.size)(h1:1<=E.f)(h4:E.f<=4)(hn:(E.n:Int)=3*E.f+1)(k j:Nat)(m:k<=16)(y:j<16)(s:Nat)(Q:(s:Int)=(j:Int)+1)(G:KS)(V:ql)(R:Nu E k j (K,d.val)=some (G,V)):
  Y 171 #[gx,U k,U s] w fun e w'=>e=acK (ac2 #[])/\Kt x w w' E gx b d K G V:=by
 unfold Nu at R;simp only[aA] at R;obtain⟨⟨i,p⟩,O,u,hu,⟨X,v1⟩,B,hl⟩:=R;have l:=mI hu;obtain⟨gi,a,a0,n⟩:=Jw O;have k0:(0:Int)<=k:=aR;have k1:(k:Int)<d.is.length:=aR;have L:=h.blk.at_ 18;have N:J w d.gr k gi:=n _ _ _ _ _ _ _ _ h;have CH:=F9 (Y 230 #[gi,U s] w fun e w'=> ∃A C M,e=acK (ac2 #[acX A M C,true])/\sK x w' A M C p.b/\Be w w') (by obtain⟨g,I,P,Z,e2,rfl,rfl⟩:=sQ O;rw[Z] at a;injection a with a;subst a;refine(Me (h.inst Z) j P e2 l s Q hx).mono ?_;rintro e w' ⟨A,C,rfl,D,_,B⟩;exact⟨A,C,_,rfl,D,B⟩)
 obtain⟨H,W,T,HB,HL,r⟩:=j6 h hx Q B hl hn;clear h hx Q B hl hn hu l n a O;go_enter func171,ntmps171;go_wp2_with fail;refine CH.mono ?_;rintro e w1 ⟨A,C,M,rfl,D,t⟩;have R1:=jj D;have F:=jj t;clear D t L N;go_wp2_with fail;refine(MC x w1 E gx b d K (H.below F) (aB W F.size) h1 h4 r 4 k j m y s T A M C p.b R1 X v1 HB).mono ?_;rintro e w2 ⟨rfl,d2,o,f,c⟩;have S:=jj ((H.step F).trans o);have F2:=jj f;have V2:=jj c;clear o f c;go_wp2_with fail;refine(MI x w2 E gx b d2 X S.sys (aB W S.size) h1 h4 r k j m s T G V (by rw[V2.out];exact HL.out)).mono ?_;rintro e w3 ⟨rfl,d3,z,v,q⟩;go_wp2_with fail;go_end0
 exact⟨by trivial,d3,S.trans z,F2.trans v,q⟩
section
variable{x:Nat}{w:World}{f:Int}{n id gx b:Nat}{d:bK}{K:KS}
theorem abk(h:qE x w f n id gx b d K)(hx:x<w.heap.size)(k j:Nat)(s:Nat)(N:(s:Int)=(j:Int)+1)(A:OA)(m c:Nat)(bs:List Rq)(M:sK x w A m c bs)(G:m<=4096)(t:KS)(v:ql)(r:Oz k j bs (K,d.val)=some (t,v))(gi:Nat)(H:d.is[k]?.map Prod.fst=some gi):
  Y 169 #[gi,U s,acX A m c] w fun e w'=>e=acK true/\t=K/\ ∃d',mP x w w' f n id gx b d K d' K/\Fix d d'/\d'.val=v/\d'.nG=d.nG/\d'.nN=d.nN/\d'.view=d.view:=by
 unfold Oz at r;simp only[aA,aK,aM] at r;obtain⟨⟨i,p⟩,L,u,O,rfl,rfl⟩:=r;obtain⟨z,a2,a3,B⟩:=mI O;obtain⟨g,I,P,E,a,rfl,rfl⟩:=sQ L;rw[E] at H;injection H with H;subst H;have D:eU x w f n k 4 g I:=h.inst E;have F:oh I.val.ps=yt I.ps:=by simp only[tJ.val];rw[EL]
 refine(ahf D z j P a a2 s N ⟨aR,aR⟩ (by rw[F] at B;omega) A m c bs M G hx).mono ?_;rintro e w' ⟨y,C,rfl,o,J⟩;refine⟨rfl,rfl,d.insts k g _,(Step.refl h).inst E o J (fun q l=>Fe a (by simp only[au] at l;subst l;simp[qm.foot,CQ.foot])) (fun q l=> .inl (yx (P':={P with sl:={P.sl with has:=true,ba:=y,bn:=m,bc:=C,bs:=bs}}) a rfl q l)),Fix.Ai E,?_,rfl,rfl,rfl⟩;rw[DT E a];rfl
end
theorem Yd(x:Nat)(w:World)(E:Who)(gx b:Nat)(d:bK)(K:KS)(h:qE x w E.f E.n E.id gx b d K)(hx:x<w.heap.size)(h1:1<=E.f)(h4:E.f<=4)(hn:(E.n:Int)=3*E.f+1)(m:MD)(hM:MF x w m)(k j:Nat)(Z:k<=16)(X:j<16)(K':KS)(v':ql)(a:Kj)(D:ppV E (nA m) k j (K,d.val)=some ((K',v'),a)):
  Y 158 #[gx,acY (oM m).toArray] w fun e w'=>e=acK (U 0)/\a= .used/\Kt x w w' E gx b d K K' v':=by
 unfold ppV at D;simp only[aA,aK,aM] at D;obtain⟨u,hu,⟨Kp,vp⟩,hp,⟨K2,v2⟩,D,⟨rfl,rfl⟩,rfl⟩:=D;obtain⟨kind,S,view,inst,h0,b0,B,bn,r,bs,va,vn,vc,vs,ca,cn,cc,cs,pa,pc⟩:=m;simp only[nA] at hu D;obtain⟨bf,g,C,y⟩:=mI hu;replace g:view=d.view:=g;obtain⟨s,hs⟩: ∃s:Nat,(s:Int)=(j:Int)+1:=⟨j+1,aR⟩;rw[<-hs] at y;subst g;subst C;subst y;have bl:bs.length=bn:=hM.b.row.len;have f0:bn<=2:=by have:=bf.n;omega
 obtain⟨HS,H,HX,c0,HM,BF⟩:=j6 hs h hx hn hM bf;have d0:=jj hp;have HV:=jj D;obtain⟨G,V,g0,v⟩: ∃G,d.is[k]?.map Prod.fst=some G/\k<d.is.length/\ ∀(x:Nat) (u:World) (f:Int) (n id gx b:Nat) (K:KS),qE x u f n id gx b d K->J u d.gr k (G:Nat):=by unfold Oz at hp;simp only[aA] at hp;obtain⟨⟨i,p⟩,e0,_⟩:=hp;exact Jw e0
 have k0:(0:Int)<=k:=aR;have k1:(k:Int)<d.is.length:=aR;have HG:=jj V;have PT:=F9 (∀u,qE x u E.f E.n E.id gx b d K->J u d.gr k (G:Nat)) fun u hu=>v _ _ _ _ _ _ _ _ hu;clear h hx hn hM hu hs hp D bf V v;show Y 158 #[gx,acY #[U kind,U S,U d.view,U k,U s,U b0,acX B bn r,acX va vn vc,acX ca cn cc,acX pa 0 pc]] w _;go_enter func158,ntmps158;go_upto_region 1 with fail;generalize hw1:w.alloc _=w1;generalize hgm:w.heap.size=gm;replace hw1:=hw1.symm;replace hgm:=hgm.symm;have A:=tQ hw1;have X1:=F9 (sV (nu E.f E.n E.id gx b d K) w1 gm 82 #[U kind,U S,U d.view,U k,U s,U b0,acX B bn r,acX va vn vc,acX ca cn cc,acX pa 0 pc]) (sV.new H (by rw[hw1,hgm];exact aZ.new _ _ _) aR);clear hw1 hgm;have KS:=F9 (∀u,Be w1 u->J u gm 6 (acX B bn r)/\J u gx 2 (U 2)/\J u gx 1 (U 2)/\J u gx 16 d.nn) fun u o=>⟨(X1.below o).blk.cell 6,((H.below A).below o).blk.cell 2,((H.below A).below o).blk.cell 1,((H.below A).below o).blk.cell 16⟩;refine rD (fun u=>J u gm 6 (acX B bn r)/\J u gx 2 (U 2)/\J u gx 1 (U 2)/\J u gx 16 d.nn) 18 (tk 0 16 (.one 16 (.take 17 .done))) (KS.out _ (aC _ _).drew) fun v1 Bv c=> ?_
 repeat refine' tT ?_
 refine pO fun KT bq=> ?_;go_simp;refine(JC v1 d.nn b K ((H.below A).below Bv).Pt 2 2 B bn r bs ((HM.below A).below Bv).b.row BF.s BF.up aR aR).mono ?_;rintro e w2 ⟨rfl,Q⟩;have Bw:=nO Bv Q;have S2:=KS.out _ Bw;refine oH bq S2 ?_;clear c Q;have c:=S2
 repeat refine' tT ?_
 refine aU ?_;clear c;have B2:=F9 (Be w w2) (A.trans (Bw.mono A.size));have H2:=jj (H.below B2);have M2:=jj (HM.below B2);have N:=jj (X1.below Bw);have L:=F9 (x<w2.heap.size) (aB HX B2.size);go_upto_region 3 with fail;refine rD (fun u=>J u gm 2 (U d.view)/\J u gx 29 (U d.view)/\J u gx 18 (O d.gr d.is.length d.rX)/\J u gm 3 (U k)/\J u d.gr k (G:Nat)/\J u gm 4 (U s)/\J u gm 6 (acX B bn r)) 23 (tk 0 20 (.one 20 (.take 21 (.take 22 .done)))) ⟨N.drew.blk.cell 2,H2.uD.blk.cell 29,H2.uD.blk.cell 18,N.drew.blk.cell 3,PT.out _ H2.uD,N.drew.blk.cell 4,N.drew.blk.cell 6⟩ fun w3 I c=> ?_
 repeat refine' tT ?_
 refine pO fun KT bq=> ?_;go_simp;refine(abk (H2.below I) (aB L I.size) k j s HS B bn r bs (M2.below I).b aR Kp vp d0 G HG).mono ?_;rintro e W ⟨rfl,P,d4,l,t,q,-,-,z⟩;obtain⟨S4,H4,F4,V4⟩:=j4 l l.sys t q;have T:=jj ((N.below I).step l);have KK:=jj P;have M:J W gm 2 (U d.view)/\J W gx 29 (U d.view)/\J W gx 18 (O d.gr d.is.length d.rX)/\J W gm 3 (U k)/\J W d.gr k (G:Nat)/\J W gm 4 (U s)/\J W gm 6 (acX B bn r):=⟨T.blk.cell 2,by rw[<-z];exact H4.blk.cell 29,(H4.blk.cell 18).trans (F4.cell _ _ 18 aV),T.blk.cell 3,F4.gr▸Qn H4 F4 HG,T.blk.cell 4,T.blk.cell 6⟩;clear l t q P z;refine oH bq M ?_;clear c;have c:=M
 repeat refine' tT ?_
 refine aU ?_;clear c;have y3:=T.blk.at_ 3;have y4:=T.blk.at_ 4;clear k0 k1;go_wp2_with fail;refine(FK x W E gx b d4 K H4 (aB L (aG I.size S4.size)) h1 h4 c0 k j Z X s HS K' v' (by rw[<-KK.out,V4.out];exact HV.out)).mono ?_;rintro e w5 ⟨rfl,d5,a0,R,F⟩;go_wp2_with fail;go_ret;exact⟨by trivial,by trivial,d5,(((H.step B2).below I).trans S4).trans a0,F4.trans R,F⟩
theorem af6{l:List rC}{q:Int×List Rq}(h:(l.map rC.val)[j]?=some (some q)): ∃v,l[j]?=some v/\v.has=true:=by
 rw[aS,aK] at h;obtain⟨v,b,H⟩:=h;refine⟨v,b,?_⟩;unfold rC.val at H;cases a:v.has
 ·rw[a] at H
  simp at H
 rfl
theorem ail    {id:Nat} {d:bK}  (h:qE x w f n id gx b d K) (hx:x<w.heap.size) (D:n<=13) (kind:Int) (k j src:Nat) (i:Ba) (p:uo) (v:d.val.pl k j=some (i,p)) (a:i.on=true) (s:Int) (A:OA) (m c:Nat) (bs:List Rq) (E:sK x w A m c bs) (C:m<=4096) (p':uo) (r:Bool)
  (u:bif r then(kind=4/\p.pr[src]?=some none/\p'={p with pr:=p.pr.set src (some (s,bs))})\/(kind=5/\p.co[src]?=some none/\p'={p with co:=p.co.set src (some (s,bs))}) else(kind=4/\ ∃q,p.pr[src]?=some (some q))\/(kind=5/\ ∃q,p.co[src]?=some (some q))) (z:Int) (y:z=(j:Int)+1) (gi:Nat) (H: ∃I,d.is[k]?=some (gi,I)):
  Y 217 #[gi,U kind,U z,U src,U s,acX A m c] w fun e w'=>e=acK r/\ ∃d',mP x w w' f n id gx b d K d' K/\Fix d d'/\d'.val=bif r then d.val.put k j p' else d.val:=by
 cases r
 ·obtain⟨g,I,P,t,B,rfl,rfl⟩:=sQ v
  obtain⟨F,H⟩:=H;rw[t] at H;injection H with H;injection H with H _;subst H;refine(aij (h.inst t) a j P B kind src ?_ z y s A m c).mono ?_
  ·rcases u with⟨l,q,o⟩|⟨l,q,o⟩
   ·exact .inl ⟨l,af6 o⟩
   exact .inr ⟨l,af6 o⟩
  rintro e w' ⟨rfl,rfl⟩;exact⟨rfl,d,Step.refl h,Fix.refl d,rfl⟩
 exact VY h hx D kind k j src i p v a s A m c bs E C p' u z y gi H
theorem adk{l:List Xk}(h:j<l.length)(H: ¬l[j]?=some none): ∃q,l[j]?=some (some q):=by
 rw[aj h] at H|-
 cases e:l[j] with
 |none=>rw[e] at H;exact absurd rfl H
 |some q=>exact⟨q,rfl⟩
theorem QT(x:Nat)(w:World)(E:Who)(gx b:Nat)(d:bK)(K:KS)(h:qE x w E.f E.n E.id gx b d K)(hx:x<w.heap.size)(h1:1<=E.f)(h4:E.f<=4)(hn:(E.n:Int)=3*E.f+1)(m:MD)(hM:MF x w m)(z:Int)(src k j:Nat)(c0:k<=16)(S:KS)(X:ql)(a:Kj)(c:AU E (nA m) z src k j (K,d.val)=some ((S,X),a)):
  Y 159 #[gx,acY (oM m).toArray,U z] w fun e w'=>e=acK (U a.num)/\Kt x w w' E gx b d K S X:=by
 unfold AU at c;simp only[aA] at c;obtain⟨u,v,⟨iv,pv⟩,Q,c⟩:=c;have hq: ∃r V,iv.on=true/\(bif r then(m.kind=4/\pv.pr[src]?=some none/\V={pv with pr:=pv.pr.set src (some (z,m.bs))})\/(m.kind=5/\pv.co[src]?=some none/\V={pv with co:=pv.co.set src (some (z,m.bs))}) else(m.kind=4/\ ∃q,pv.pr[src]?=some (some q))\/(m.kind=5/\ ∃q,pv.co[src]?=some (some q)))/\(bif r then lH E k j (K,d.val.put k j V)=some (S,X)/\a= .used else(K=S/\d.val=X)/\a= .stale):=by
  split at c
  ·rename_i hk
   simp only[aA] at c;obtain⟨u,v,c⟩:=c;obtain⟨b1,b2⟩:=mI v;split at c
   ·rename_i N
    simp only[aK,aM] at c;obtain⟨⟨a1,a2⟩,hl,⟨rfl,rfl⟩,rfl⟩:=c;exact⟨true,_,b1,.inl ⟨hk,N,rfl⟩,hl,rfl⟩
   rename_i N;simp only[aD,aM] at c;obtain⟨⟨h1,h2⟩,rfl⟩:=c;exact⟨false,pv,b1,.inl ⟨hk,adk b2 N⟩,⟨h1,h2⟩,rfl⟩
  simp only[aA] at c;obtain⟨u,v,c⟩:=c;obtain⟨b0,b1,b2⟩:=mI v;split at c
  ·rename_i N
   simp only[aK,aM] at c;obtain⟨⟨a1,a2⟩,hl,⟨rfl,rfl⟩,rfl⟩:=c;exact⟨true,_,b1,.inr ⟨b0,N,rfl⟩,hl,rfl⟩
  rename_i N;simp only[aD,aM] at c;obtain⟨⟨h1,h2⟩,rfl⟩:=c;exact⟨false,pv,b1,.inr ⟨b0,adk b2 N⟩,⟨h1,h2⟩,rfl⟩
 clear c;obtain⟨r,V,q0,p,c⟩:=hq;obtain⟨kind,f0,view,inst,t0,j0,B,bn,y,bs,va,vn,vc,vs,ca,cn,cc,cs,pa,pc⟩:=m;simp only[nA] at v c;obtain⟨bf,l,P,D,d0,p0⟩:=mI v;subst d0;replace l:view=d.view:=l;obtain⟨s,hs⟩: ∃s:Nat,(s:Int)=(j:Int)+1:=⟨j+1,aR⟩;rw[<-hs] at D;subst l;subst P;subst D;have bl:bs.length=bn:=hM.b.row.len;have r0:bn<=2:=by have:=bf.n;omega
 obtain⟨HS,H,HX,m0,HM,BF⟩:=j6 hs h hx hn hM bf;have HV:=jj c;have n0:=jj Q;have NM:=F9 (E.n<=13) aR;have HK:=jj p;obtain⟨gi,t,s0,C⟩:=Jw Q;have l0:=F9 (∃I,d.is[k]?=some (gi,I)) (by rw[aK] at t;obtain⟨⟨g,I⟩,e1,e2⟩:=t;exact⟨I,by rw[e1,<-e2]⟩)
 have k0:(0:Int)<=k:=aR;have k1:(k:Int)<d.is.length:=aR;have HG:=jj t;have PT:=F9 (∀u,qE x u E.f E.n E.id gx b d K->J u d.gr k gi) fun u v=>C _ _ _ _ _ _ _ _ v;clear h hx hn hM v hs c bf t C Q p;show Y 159 #[gx,acY #[U kind,U src,U d.view,U k,U s,U j0,acX B bn y,acX va vn vc,acX ca cn cc,acX pa 0 pc],U z] w _;go_enter func159,ntmps159;go_upto_region 1 with fail;generalize hw1:w.alloc _=w1;generalize hgm:w.heap.size=gm;replace hw1:=hw1.symm;replace hgm:=hgm.symm;have G:=tQ hw1;have X1:=F9 (sV (nu E.f E.n E.id gx b d K) w1 gm 82 #[U kind,U src,U d.view,U k,U s,U j0,acX B bn y,acX va vn vc,acX ca cn cc,acX pa 0 pc]) (sV.new H (by rw[hw1,hgm];exact aZ.new _ _ _) aR);clear hw1 hgm;have KS:=F9 (∀u,Be w1 u->J u gm 6 (acX B bn y)/\J u gx 2 (U 2)/\J u gx 1 (U 2)/\J u gx 16 d.nn) fun u o=>⟨(X1.below o).blk.cell 6,((H.below G).below o).blk.cell 2,((H.below G).below o).blk.cell 1,((H.below G).below o).blk.cell 16⟩;refine rD (fun u=>J u gm 6 (acX B bn y)/\J u gx 2 (U 2)/\J u gx 1 (U 2)/\J u gx 16 d.nn) 18 (tk 0 16 (.one 16 (.take 17 .done))) (KS.out _ (aC _ _).drew) fun v1 Bv f=> ?_
 repeat refine' tT ?_
 refine pO fun KT bq=> ?_;go_simp;refine(JC v1 d.nn b K ((H.below G).below Bv).Pt 2 2 B bn y bs ((HM.below G).below Bv).b.row BF.s BF.up aR aR).mono ?_;rintro e w2 ⟨rfl,i0⟩;have Bw:=nO Bv i0;have S2:=KS.out _ Bw;refine oH bq S2 ?_;clear f i0;have f:=S2
 repeat refine' tT ?_
 refine aU ?_;clear f;have Z:=F9 (Be w w2) (G.trans (Bw.mono G.size));have H2:=jj (H.below Z);have M2:=jj (HM.below Z);have M:=jj (X1.below Bw);have g0:=F9 (x<w2.heap.size) (aB HX Z.size);go_upto_region 3 with fail;refine rD (fun u=>J u gm 2 (U d.view)/\J u gx 29 (U d.view)/\J u gx 18 (O d.gr d.is.length d.rX)/\J u gm 3 (U k)/\J u d.gr k gi/\J u gm 0 (U kind)/\J u gm 4 (U s)/\J u gm 1 (U src)/\J u gm 6 (acX B bn y)) 28 (tk 0 25 (.one 25 (.take 26 (.take 27 .done)))) ⟨M.drew.blk.cell 2,H2.uD.blk.cell 29,H2.uD.blk.cell 18,M.drew.blk.cell 3,PT.out _ H2.uD,M.drew.blk.cell 0,M.drew.blk.cell 4,M.drew.blk.cell 1,M.drew.blk.cell 6⟩ fun w3 L f=> ?_
 repeat refine' tT ?_
 refine pO fun KT bq=> ?_;go_simp;refine(ail (H2.below L) (aB g0 L.size) NM kind k j src iv pv n0 q0 z B bn y bs (M2.below L).b aR V r HK s HS gi l0).mono ?_;rintro e W ⟨rfl,d4,n,A,i⟩;obtain⟨S4,H4,F4,V4⟩:=j4 n n.sys A i;have T:=jj ((M.below L).step n);have F:d4.view=d.view:=(congrArg ql.view i).trans (by cases r<;>rfl);have h0:J W gm 2 (U d.view)/\J W gx 29 (U d.view)/\J W gx 18 (O d.gr d.is.length d.rX)/\J W gm 3 (U k)/\J W d.gr k gi/\J W gm 0 (U kind)/\J W gm 4 (U s)/\J W gm 1 (U src)/\J W gm 6 (acX B bn y):=⟨T.blk.cell 2,by rw[<-F];exact H4.blk.cell 29,(H4.blk.cell 18).trans (F4.cell _ _ 18 aV),T.blk.cell 3,F4.gr▸Qn H4 F4 HG,T.blk.cell 0,T.blk.cell 4,T.blk.cell 1,T.blk.cell 6⟩;clear n A i F;refine oH bq h0 ?_;clear f;have f:=h0
 repeat refine' tT ?_
 refine aU ?_;clear f;cases r
 ·obtain⟨⟨rfl,rfl⟩,rfl⟩:=HV.out
  clear k0 k1;go_wp2_with fail;go_ret;exact⟨by trivial,d4,((H.step Z).below L).trans S4,F4,V4⟩
 obtain⟨c,rfl⟩:=HV.out;have o0:=F9 (lH E k j (K,d.val.put k j V)=some (S,X)) c;clear c;have y3:=T.blk.at_ 3;have y4:=T.blk.at_ 4;clear k0 k1;go_wp2_with fail;refine(MI x W E gx b d4 K H4 (aB g0 (aG L.size S4.size)) h1 h4 m0 k j c0 s HS S X (by rw[V4.out];exact o0.out)).mono ?_;rintro e w5 ⟨rfl,d5,e0,a0,R⟩;go_wp2_with fail;go_ret;exact⟨by trivial,d5,(((H.step Z).below L).trans S4).trans e0,F4.trans a0,R⟩
theorem adC.cert{c:CD}(h:adC K f (pz c))(H:c.Is w):ae8 K 5 f 2 c:=by have e:c.bs.length=c.bn:=H.b.len;have n:=h.nb;simp only[pz] at n;exact⟨h.p1,h.p2,h.p3,h.b,h.up,aR,⟨h.r,aR,h.s⟩⟩
theorem abm(x:Nat)(w:World)(E:Who)(gx b:Nat)(d:bK)(K:KS)(h:qE x w E.f E.n E.id gx b d K)(hx:x<w.heap.size)(h1:1<=E.f)(h4:E.f<=4)(hn:(E.n:Int)=3*E.f+1)(c:CD)(hM:CF x w c)(K':KS)(v':ql)(a:Kj)(l:Cw E (pz c) (K,d.val)=some ((K',v'),a)):
  Y 163 #[gx,acY (nS c).toArray] w fun e w'=>e=acK (U a.num)/\Kt x w w' E gx b d K K' v':=by
 unfold Cw at l;simp only[aA] at l;obtain⟨u,L,⟨iv,pv⟩,G,l⟩:=l;have P:=mI L;have key: ∀a b c:Int,qU a b c=true->b<=a/\a<=c:=fun a b c h=>by unfold qU at h;simpa using h
 obtain⟨k,Z⟩: ∃k:Nat,c.inst=k:=⟨c.inst.toNat,by have:=key _ _ _ P.p2;simp only[pz] at this;omega⟩;obtain⟨j,b0⟩: ∃j:Nat,c.seq=(j:Int)+1:=⟨(c.seq -1).toNat,by have:=key _ _ _ P.p3;simp only[pz] at this;omega⟩;have e0:k<=16:=by have:=key _ _ _ P.p2;simp only[pz] at this;omega
 rw[show(pz c).inst.toNat=k by show c.inst.toNat=k;omega,show((pz c).seq -1).toNat=j by show(c.seq -1).toNat=j;omega] at G l;obtain⟨r,hr,t⟩: ∃r:Bool,pv.done.isSome=!r/\(bif r then NC E k c.bs (K,d.val.put k j {pv with done:=some (pz c)})=some (K',v')/\a= .used else(K=K'/\d.val=v')/\a= .stale):=by
  split at l
  ·rename_i h3
   simp only[aD,aM] at l;obtain⟨⟨h1,h2⟩,rfl⟩:=l;exact⟨false,h3,⟨h1,h2⟩,rfl⟩
  rename_i h3;simp only[aK,aM] at l;obtain⟨⟨a1,a2⟩,hl,⟨rfl,rfl⟩,rfl⟩:=l;exact⟨true,by simpa using h3,hl,rfl⟩
 have HV:=jj t;have C:=F9 (∀u,Be w u->Y 222 #[U 5,acY (nS c).toArray,U E.f,U 2,d.nn] u fun e w'=>e=acK true/\Be u w') fun u hb=>Oq u d.nn b K (h.below hb).Pt 5 E.f 2 h1 h4 c (hM.below hb).is (P.cert hM.is);obtain⟨S,m,o0,N⟩:=Jw G;have HG:=jj m;have PT:=F9 (∀u,qE x u E.f E.n E.id gx b d K->J u d.gr k S) fun u L=>N _ _ _ _ _ _ _ _ L;have A:=F9 (∀u,qE x u E.f E.n E.id gx b d K->x<u.heap.size->CF x u c->Y 223 #[S,acY (nS c).toArray] u fun e w'=>e=acK r/\ ∃R,mP x u w' E.f E.n E.id gx b d K R K/\Fix d R/\R.val=bif r then d.val.put k j {pv with done:=some (pz c)} else d.val) fun u L p0 c0=>by
  obtain⟨g,I,Q,e1,e2,rfl,rfl⟩:=sQ G;rw[e1] at m;injection m with m;subst m;cases r
  ·refine(Qz (L.inst e1) j Q e2 ?_ c b0).mono ?_
   ·cases t:Q.done
    ·simp[qm.val,t] at hr
    rfl
   rintro e w' ⟨rfl,hb⟩;exact⟨rfl,d,(Step.refl L).below hb,Fix.refl d,rfl⟩
  have nb:=P.nb;simp only[pz] at nb;have bl:=c0.is.b.len;have vl:=c0.is.v.len;have q0:=P.r.len;simp only[pz] at q0;refine(aii (L.inst e1) j Q e2 ?_ c b0 Z c0 aR aR p0).mono ?_
  ·cases t:Q.done
   ·rfl
   simp[qm.val,t] at hr
  rintro e w' ⟨rfl,cd,m0,n0,ho⟩;refine⟨rfl,d.insts k g _,(Step.refl L).inst e1 m0 ho (fun q t=>by simp only[au] at t;subst t;simp[tJ.foot]) (fun q t=> .inl (yx (P':={Q with done:=true,dw:=cd}) e2 rfl q t)),Fix.Ai e1,?_⟩;rw[DT e1 e2];show d.val.put k j ⟨_,_,_,_,_,_,some (pz cd)⟩=_;rw[n0];rfl
 have k0:(0:Int)<=k:=aR;have k1:(k:Int)<d.is.length:=aR;obtain⟨z,ci,y,n,s,p,bs,V,F,D,vs⟩:=c;simp only[pz] at Z;subst Z;obtain⟨H,HX,r0,HM⟩:=j4 h hx hn hM;clear h hx hn hM L P b0 G hr t l m N o0 key;show Y 163 #[gx,acY #[U z,U k,U y,acX n s p,acX V F D]] w _;replace C:Hid (∀u,Be w u->Y 222 #[U 5,acY #[U z,U k,U y,acX n s p,acX V F D],U E.f,U 2,d.nn] u fun e w'=>e=acK true/\Be u w'):=C;obtain⟨D0,X⟩: ∃D0:ql,D0=bif r then d.val.put k j {pv with done:=some (pz ⟨z,k,y,n,s,p,bs,V,F,D,vs⟩)} else d.val:=⟨_,rfl⟩;replace A:Hid (∀u,qE x u E.f E.n E.id gx b d K->x<u.heap.size->CF x u ⟨z,k,y,n,s,p,bs,V,F,D,vs⟩->Y 223 #[S,acY #[U z,U k,U y,acX n s p,acX V F D]] u fun e w'=>e=acK r/\ ∃R,mP x u w' E.f E.n E.id gx b d K R K/\Fix d R/\R.val=D0):=by rw[X];exact A
 have h0:=jj X;clear X;go_enter func163,ntmps163;go_upto_region 1 with fail;generalize hw1:w.alloc _=w1;generalize qP:w.heap.size=gq;replace hw1:=hw1.symm;replace qP:=qP.symm;have B1:=tQ hw1;have X1:=F9 (sV (nu E.f E.n E.id gx b d K) w1 gq 228 #[U z,U k,U y,acX n s p,acX V F D]) (sV.new H (by rw[hw1,qP];exact aZ.new _ _ _) aR);clear hw1 qP;have KS:=F9 (∀u,Be w1 u->J u gx 0 (U E.f)/\J u gx 1 (U 2)/\J u gx 16 d.nn/\J u gx 18 (O d.gr d.is.length d.rX)/\J u d.gr k S/\J u gq 0 (U z)/\J u gq 1 (U k)/\J u gq 2 (U y)/\J u gq 3 (acX n s p)/\J u gq 4 (acX V F D)) fun u o=>by have hh:=(H.below B1).below o;have xx:=(X1.below o).blk;exact⟨hh.blk.cell 0,hh.blk.cell 1,hh.blk.cell 16,hh.blk.cell 18,PT.out _ hh,xx.cell 0,xx.cell 1,xx.cell 2,xx.cell 3,xx.cell 4⟩
 refine rD (fun u=>J u gx 0 (U E.f)/\J u gx 1 (U 2)/\J u gx 16 d.nn/\J u gx 18 (O d.gr d.is.length d.rX)/\J u d.gr k S/\J u gq 0 (U z)/\J u gq 1 (U k)/\J u gq 2 (U y)/\J u gq 3 (acX n s p)/\J u gq 4 (acX V F D)) 17 (tk 0 15 (.one 15 (.take 16 .done))) (KS.out _ (aC _ _).drew) fun v1 Bv f=> ?_
 repeat refine' tT ?_
 refine pO fun KT bq=> ?_;go_simp;refine(C.out v1 (B1.trans (Bv.mono B1.size))).mono ?_;rintro e w2 ⟨rfl,j0⟩;have Bw:=nO Bv j0;have S2:=KS.out _ Bw;refine oH bq S2 ?_;clear f j0;have f:=S2
 repeat refine' tT ?_
 refine aU ?_;clear f;go_upto_region 3 with fail;refine rP (fun u=>J u gx 18 (O d.gr d.is.length d.rX)/\J u d.gr k S/\J u gq 0 (U z)/\J u gq 1 (U k)/\J u gq 2 (U y)/\J u gq 3 (acX n s p)/\J u gq 4 (acX V F D)) 11 (tk 0 9 (.one 9 (.take 10 .done))) (KS.out _ Bw.drew).2.2.2 ?_;intro f;obtain⟨w3,g0⟩:=ex w2.drew;have B3:=F9 (Be w1 w3) (by rw[g0];exact Bw.drew);rw[<-g0] at f|-;clear g0;have B:=F9 (Be w w3) (B1.trans (B3.mono B1.size))
 repeat refine' tT ?_
 refine pO fun KT bq=> ?_;go_simp;refine(A.out w3 (H.below B) (aB HX B.size) (HM.below B)).mono ?_;rintro e W ⟨rfl,d4,i,M,v⟩;obtain⟨S4,H4,F4,V4⟩:=j4 i i.sys M v;have T:=jj ((X1.below B3).step i);have i0:J W gx 18 (O d.gr d.is.length d.rX)/\J W d.gr k S/\J W gq 0 (U z)/\J W gq 1 (U k)/\J W gq 2 (U y)/\J W gq 3 (acX n s p)/\J W gq 4 (acX V F D):=⟨(H4.blk.cell 18).trans (F4.cell _ _ 18 aV),F4.gr▸Qn H4 F4 HG,T.blk.cell 0,T.blk.cell 1,T.blk.cell 2,T.blk.cell 3,T.blk.cell 4⟩;clear i M v;refine oH bq i0 ?_;clear f;have f:=i0
 repeat refine' tT ?_
 refine aU ?_;clear f k0 k1;cases r
 ·obtain⟨⟨rfl,rfl⟩,rfl⟩:=HV.out
  go_wp2_with fail;go_ret;exact⟨by trivial,d4,(H.step B).trans S4,F4,V4.trans h0⟩
 obtain⟨l,rfl⟩:=HV.out;have l0:=jj l;clear l;have y1:=T.blk.at_ 1;have y3:=T.blk.at_ 3;go_wp2_with fail;refine(adD x W E gx b d4 K H4 (aB HX (aG B.size S4.size)) h1 h4 k e0 k rfl n s p bs (sK.step ⟨(HM.below B).is.b,(HM.below B).b⟩ (H.below B) S4) K' v' (by rw[V4.out,h0.out];exact l0.out)).mono ?_;rintro e w5 ⟨rfl,d5,f0,d0,a0⟩;go_wp2_with fail;go_ret;exact⟨by trivial,d5,((H.step B).trans S4).trans f0,F4.trans d0,a0⟩
theorem aci{now:Int}{T T':List oO}(h:zH f j now r T=some T'):T'.length<=T.length+1:=by
 unfold zH at h;split at h
 ·simp only[aA] at h
  obtain⟨d,_,h⟩:=h;split at h
  ·cases h
  injection h with h;rw[<-h,bG];omega
 ·split at h
  ·injection h with h
   rw[<-h];simp
  cases h
 cases h
theorem qZ{u:World}{gq:Nat}{d d':bK}{K':KS}{r0 r1 r2 r3 r4 r5:Int}(h:qE x u E.f E.n E.id gx b d' K')(f:Fix d d')(t:aZ u gq 49 #[U r0,U r1,U r2,U r3,U r4,U r5]):J u gx 1 (U 2)/\J u gx 15 (U E.id)/\J u gx 16 d.nn/\J u gx 17 d.gt/\J u gx 19 d.nH/\J u gx 22 d.gd/\J u gq 0 (U r0)/\J u gq 1 (U r1)/\J u gq 2 (U r2)/\J u gq 3 (U r3)/\J u gq 4 (U r4)/\J u gq 5 (U r5):=
 ⟨(h.blk.cell 1).trans (f.cell _ _ 1 aV),(h.blk.cell 15).trans (f.cell _ _ 15 aV),(h.blk.cell 16).trans (f.cell _ _ 16 aV),(h.blk.cell 17).trans (f.cell _ _ 17 aV),(h.blk.cell 19).trans (f.cell _ _ 19 aV),(h.blk.cell 22).trans (f.cell _ _ 22 aV),t.cell 0,t.cell 1,t.cell 2,t.cell 3,t.cell 4,t.cell 5⟩
theorem Ur(x:Nat)(w:World)(E:Who)(gx b:Nat)(d:bK)(K:KS)(h:qE x w E.f E.n E.id gx b d K)(hx:x<w.heap.size)(h1:1<=E.f)(h4:E.f<=4)(hn:(E.n:Int)=3*E.f+1)(m:MD)(hM:MF x w m)(hk:m.kind=1)(src:Nat)(w0:E.id<E.n)(r:Rq)(w0:E.id<E.n)(hr:m.bs= [r])(K':KS)(v':ql)(a:Kj)(hv:JE E 1 src r (K,d.val)=some ((K',v'),a)):
  Y 157 #[gx,acY (oM m).toArray] w fun e w'=>e=acK (U (match a with| .used=>0| .stale=>1))/\Kt x w w' E gx b d K K' v':=by
 obtain⟨r0,r1,R,l,n,o⟩:=r;unfold JE at hv;simp only[aA] at hv;obtain⟨u,hu,hv⟩:=hv;obtain⟨tf,sl,c,F,A,q,e0⟩:=mI hu;replace c:lastOf d.ct r0<r1:=c;replace q:0<=((r0,r1,R,l,n,o):Rq).1/\((r0,r1,R,l,n,o):Rq).1<2:=⟨q,e0⟩;have hT:d.T.length<=58:=tf.T;have TN:=F9 (E.id<13) (mR A);have W:=F9 ((E.id:Int)<=3*E.f) aR;have TI:=F9 (E.id<13) (VZ W.out hn);obtain⟨X,l0,HX⟩:=j3 sl hn hx;obtain⟨kind,s,view,inst,i0,h0,ba,bn,bc,bs,va,vn,vc,vs,ca,cn,cc,cs,pa,pc⟩:=m;simp only at hk hr;subst hk;subst hr;have H:=jj h;have v0:bn=1:=hM.b.row.len.symm;subst v0;obtain⟨g0,f0,rfl,b0,x0,x1,x2,x3,x4,x5,d0,a0,a1,a2,a3,a4,a5⟩:=hM.b.row.get (k:=0) (show 0<1 by omega);simp only[List.getElem?_cons_zero,aD,aM] at d0;obtain⟨rfl,rfl,rfl,rfl,rfl,rfl⟩:=d0;rw[fI,Nat.add_zero] at a0 a1 a2 a3 a4 a5;have P:=jj c;clear h hx hM hu hn tf sl c F A e0;show Y 157 #[gx,acY #[U 1,U s,U view,U inst,U i0,U h0,acX (some (adZ g0 f0)) 1 bc,acX va vn vc,acX ca cn cc,acX pa 0 pc]] w _;go_enter func157,ntmps157;go_upto_region 1 with fail;generalize hw1:w.alloc _=w1;generalize hgm:w.heap.size=gm;replace hw1:=hw1.symm;replace hgm:=hgm.symm;have v:=tQ hw1;have X1:=F9 (sV (nu E.f E.n E.id gx b d K) w1 gm 82 #[U 1,U s,U view,U inst,U i0,U h0,acX (some (adZ g0 f0)) 1 bc,acX va vn vc,acX ca cn cc,acX pa 0 pc]) (sV.new H (by rw[hw1,hgm];exact aZ.new _ _ _) aR);clear hw1 hgm;have c6:=X1.blk.at_ 6;replace a0:=kept v _ _ a0;replace a1:=kept v _ _ a1;replace a2:=kept v _ _ a2;replace a3:=kept v _ _ a3;replace a4:=kept v _ _ a4;replace a5:=kept v _ _ a5;go_upto_region 2 with fail;generalize hw2:w1.alloc _=w2;generalize qP:w1.heap.size=gq;replace hw2:=hw2.symm;replace qP:=qP.symm;have G:=tQ hw2;have B2:=F9 (Be w w2) (v.trans (G.mono v.size));have H2:=jj (H.below B2);have T2:=F9 (sV (nu E.f E.n E.id gx b d K) w2 gq 49 #[U r0,U r1,U R,U l,U n,U o]) (sV.new (H.below v) (by rw[hw2,qP];exact aZ.new _ _ _) aR);have q0:=jj (X1.below G);clear hw2 qP c6 a0 a1 a2 a3 a4 a5 b0;refine rD (fun u=>J u gx 1 (U 2)/\J u gx 15 (U E.id)/\J u gx 16 d.nn/\J u gx 17 d.gt/\J u gx 19 d.nH/\J u gx 22 d.gd/\J u gq 0 (U r0)/\J u gq 1 (U r1)/\J u gq 2 (U R)/\J u gq 3 (U l)/\J u gq 4 (U n)/\J u gq 5 (U o)) 12 (tk 0 10 (.one 10 (.take 11 .done))) (qZ (H2).uD (Fix.refl d) (T2).blk.drew) fun V B f=> ?_
 repeat refine' tT ?_
 refine pO fun KT bq=> ?_;go_simp;refine(LQ V d.nn b K (H2.below B).Pt 2 (r0,r1,R,l,n,o) X).mono ?_;rintro e w3 ⟨rfl,p⟩;have I:=nO B p;have H3:=jj ((H2).below I);have T3:=jj ((T2).below I);have S:=qZ H3 (Fix.refl d) T3.blk;refine oH bq S ?_;clear f p;have f:=S
 repeat refine' tT ?_
 refine aU ?_;clear f;have s0:=jj (q0.below I);go_upto_region 4 with fail;refine rD (fun u=>J u gx 1 (U 2)/\J u gx 15 (U E.id)/\J u gx 16 d.nn/\J u gx 17 d.gt/\J u gx 19 d.nH/\J u gx 22 d.gd/\J u gq 0 (U r0)/\J u gq 1 (U r1)/\J u gq 2 (U R)/\J u gq 3 (U l)/\J u gq 4 (U n)/\J u gq 5 (U o)) 8 (tk 0 6 (.one 6 (.take 7 .done))) (qZ (H3).uD (Fix.refl d) (T3).blk.drew) fun V B f=> ?_
 repeat refine' tT ?_
 refine pO fun KT bq=> ?_;go_simp;refine(VQ d.SL d.gd 2 d.es d.st d.ct r0 V (H3.below B).led ⟨by have h9:0<=r0:=q.1;omega,by have h9:r0<2:=q.2;omega⟩ _ rfl).mono ?_;rintro e w4 ⟨rfl,c0⟩;have p:Be V w4:=by rw[c0];exact aC _ _
 clear c0;have B4:=nO B p;have L:=jj ((H3).below B4);have T4:=jj ((T3).below B4);have S:=qZ L (Fix.refl d) T4.blk;refine oH bq S ?_;clear f p;have f:=S
 repeat refine' tT ?_
 refine aU ?_;clear f;have TM:=jj (s0.below B4);have j0:=F9 (Be w w4) (B2.trans ((I.trans (B4.mono I.size)).mono B2.size));have S4:=jj (H.step j0);have A0: ¬r1<=lastOf d.ct r0:=by have:=P.out;omega
 have q1:=T4.blk.at_ 1;obtain⟨m0,m1⟩:=TM.blk.a2;have B0:=L.blk.at_ 15;obtain⟨HH,hh,j⟩:=hv;have N:=jj hh;have k0:=jj j;clear hh j;go_upto_region 14 with fail;refine rD (fun u=>J u gx 1 (U 2)/\J u gx 15 (U E.id)/\J u gx 16 d.nn/\J u gx 17 d.gt/\J u gx 19 d.nH/\J u gx 22 d.gd/\J u gq 0 (U r0)/\J u gq 1 (U r1)/\J u gq 2 (U R)/\J u gq 3 (U l)/\J u gq 4 (U n)/\J u gq 5 (U o)) 7 (tk 0 6 (.one 6 .done)) (qZ (L).uD (Fix.refl d) (T4).blk.drew) fun V B f=> ?_
 repeat refine' tT ?_
 refine pO fun KT bq=> ?_;go_simp;refine(Jr (L.below B) aR (r0,r1,R,l,n,o) E.id TN HH N).mono ?_;rintro e w5 ⟨rfl,p⟩;have C:=nO B p;have H5:=jj ((L).below C);have T5:=jj ((T4).below C);have S:=qZ H5 (Fix.refl d) T5.blk;refine oH bq S ?_;clear f p;have f:=S
 repeat refine' tT ?_
 refine aU ?_;clear f;have j:=k0.out;cases HH
 ·simp only[dz,if_false,aA] at j
  obtain⟨HI,hi,⟨K6,v6⟩,i,c⟩:=j;obtain⟨O,Q,D⟩:=j3 hi i c;clear hi i c;go_upto_region 16 with fail;refine rD (fun u=>J u gx 1 (U 2)/\J u gx 15 (U E.id)/\J u gx 16 d.nn/\J u gx 17 d.gt/\J u gx 19 d.nH/\J u gx 22 d.gd/\J u gq 0 (U r0)/\J u gq 1 (U r1)/\J u gq 2 (U R)/\J u gq 3 (U l)/\J u gq 4 (U n)/\J u gq 5 (U o)) 11 (tk 0 9 (.one 9 (.take 10 .done))) (qZ (H5).uD (Fix.refl d) (T5).blk.drew) fun V B f=> ?_
  repeat refine' tT ?_
  refine pO fun KT bq=> ?_;go_simp;refine(Jr (H5.below B) aR (r0,r1,R,l,n,o) E.id TI HI O).mono ?_;rintro e w6 ⟨rfl,p⟩;have B6:=nO B p;have H6:=jj ((H5).below B6);have T6:=jj ((T5).below B6);have S:=qZ H6 (Fix.refl d) T6.blk;refine oH bq S ?_;clear f p;have f:=S
  repeat refine' tT ?_
  refine aU ?_;clear f;have i:=Q.out;cases HI
  ·simp only[dz,if_false,aA] at i
   obtain⟨Z,ht,hp⟩:=i;have n0:=jj ht;have HP:=jj hp;clear ht hp;go_upto_region 17 with fail;refine rD (fun u=>J u gx 1 (U 2)/\J u gx 15 (U E.id)/\J u gx 16 d.nn/\J u gx 17 d.gt/\J u gx 19 d.nH/\J u gx 22 d.gd/\J u gq 0 (U r0)/\J u gq 1 (U r1)/\J u gq 2 (U R)/\J u gq 3 (U l)/\J u gq 4 (U n)/\J u gq 5 (U o)) 22 (tk 0 13 (.one 13 (.one 14 (tk 15 7 .done)))) (qZ (H6).uD (Fix.refl d) (T6).blk.drew) fun V B f=> ?_
   repeat refine' tT ?_
   refine pO fun KT bq=> ?_;go_simp;have S6:=jj (S4.below (C.trans (B6.mono C.size)));have o0:=F9 (x<V.heap.size) (aB HX (aG S6.size B.size));have M:=jj (H6.below B);refine(vF M).mono ?_;rintro e w7 ⟨rfl,rfl⟩;refine oH bq f ?_
   repeat refine' tT ?_
   refine pO fun KT bq=> ?_;go_simp;refine(GX M h1 h4 aR (r0,r1,R,l,n,o) q E.id W d.now Z n0).mono ?_;rintro e w7 ⟨o1,o2,p0,rfl,g⟩;obtain⟨d7,y⟩:=ex (d.tabled Z p0);rw[<-y] at g;have S7:=jj g;have H7:=jj g.sys;have T7:=jj ((T6.below B).step g);have t0:=jj ((TM.below (C.trans (B6.mono C.size))).below B.out|>.step g);have F7:=F9 (Fix d d7) (by rw[y];exact Fix.Bp d _ _);have V7:=F9 (d7.val={d.val with T:=Z}) (by rw[y];rfl);have S:=qZ H7 F7 T7.blk;clear g y;refine oH bq S ?_;clear f;have f:=S
   repeat refine' tT ?_
   refine aU ?_;clear f;obtain⟨y0,y1,y2,y3,y4,y5⟩:=T7.blk.a6;go_wp2_with fail;refine(yV x w7 E gx b d7 K H7 (aB o0 S7.size) h1 h4 l0 (r0,r1,R,l,n,o) K6 v6 (by rw[V7.out];exact HP.out)).mono ?_;rintro e w8 ⟨rfl,A8,c8,L8,g,t⟩;obtain⟨d8,z⟩:=ex (d7.outs A8 c8 L8);rw[<-z] at g t;have S8:=F9 (mP x w w8 E.f E.n E.id gx b d K d8 K6) (((S6.below B).trans S7).trans g);have H8:=jj g.sys;have T8:=jj (T7.step g);have u0:=jj (t0.step g);have F8:=F9 (Fix d d8) (F7.trans (by rw[z];exact Fix.Bo _ _ _ _));have V8:=jj t;have z0:=F9 (d8.T=Z) (by rw[z];show d7.T=Z;exact congrArg ql.T V7);clear g t z y0 y1 y2 y3 y4 y5;have ym:=u0.blk.at_ 0;have c:=D.out;rw[if_neg (fun e=>absurd e.1 aV)] at c;simp only[if_true,aD,aM] at c;obtain⟨⟨rfl,rfl⟩,rfl⟩:=c;go_wp2_with fail;go_ret;exact⟨by trivial,d8,S8,F8,V8⟩
  exact absurd (N.symm.trans O) bJ
 simp only[if_true,aD,aM] at j;obtain⟨⟨rfl,rfl⟩,rfl⟩:=j;go_wp2_with fail;go_ret;exact⟨by trivial,d,S4.below C,Fix.refl d,rfl⟩
theorem Us(x:Nat)(w:World)(E:Who)(gx b:Nat)(d:bK)(K:KS)(h:qE x w E.f E.n E.id gx b d K)(hx:x<w.heap.size)(h1:1<=E.f)(h4:E.f<=4)(hn:(E.n:Int)=3*E.f+1)(m:MD)(hM:MF x w m)(hk:m.kind=2)(src:Nat)(M:m.sender=src)(r:Rq)(I0:E.id<E.n)(hr:m.bs= [r])(K':KS)(v':ql)(a:Kj)(hv:JE E 2 src r (K,d.val)=some ((K',v'),a)):
  Y 157 #[gx,acY (oM m).toArray] w fun e w'=>e=acK (U (match a with| .used=>0| .stale=>1))/\Kt x w w' E gx b d K K' v':=by
 obtain⟨r0,r1,R,j,l,n⟩:=r;unfold JE at hv;simp only[aA] at hv;obtain⟨u,hu,hv⟩:=hv;obtain⟨tf,sl,c,z,L,q,n0⟩:=mI hu;replace c:lastOf d.ct r0<r1:=c;replace q:0<=((r0,r1,R,j,l,n):Rq).1/\((r0,r1,R,j,l,n):Rq).1<2:=⟨q,n0⟩;have hT:d.T.length<=58:=tf.T;have TN:=F9 (src<13) (mR L);have j0:=F9 ((E.id:Int)<=3*E.f) aR;have I:=F9 ((src:Int)<=3*E.f) (by have h9:src<E.n:=(mR z);omega);have TI:=F9 (E.id<13) (VZ j0.out hn);obtain⟨d0,w0,HX⟩:=j3 sl hn hx;obtain⟨kind,f0,view,inst,q0,p0,ba,bn,bc,bs,va,vn,vc,vs,ca,cn,cc,cs,pa,pc⟩:=m;simp only at hk hr M;subst hk;subst M;subst hr;have H:=jj h;have H0:bn=1:=hM.b.row.len.symm;subst H0;obtain⟨g0,o0,rfl,e0,x0,x1,x2,x3,x4,x5,l0,a0,a1,a2,a3,a4,a5⟩:=hM.b.row.get (k:=0) (show 0<1 by omega);simp only[List.getElem?_cons_zero,aD,aM] at l0;obtain⟨rfl,rfl,rfl,rfl,rfl,rfl⟩:=l0;rw[fI,Nat.add_zero] at a0 a1 a2 a3 a4 a5;have b0:=jj c;clear h hx hM hu hn tf sl c z L n0;show Y 157 #[gx,acY #[U 2,U src,U view,U inst,U q0,U p0,acX (some (adZ g0 o0)) 1 bc,acX va vn vc,acX ca cn cc,acX pa 0 pc]] w _;go_enter func157,ntmps157;go_upto_region 1 with fail;generalize hw1:w.alloc _=w1;generalize hgm:w.heap.size=gm;replace hw1:=hw1.symm;replace hgm:=hgm.symm;have D:=tQ hw1;have X1:=F9 (sV (nu E.f E.n E.id gx b d K) w1 gm 82 #[U 2,U src,U view,U inst,U q0,U p0,acX (some (adZ g0 o0)) 1 bc,acX va vn vc,acX ca cn cc,acX pa 0 pc]) (sV.new H (by rw[hw1,hgm];exact aZ.new _ _ _) aR);clear hw1 hgm;have c6:=X1.blk.at_ 6;replace a0:=kept D _ _ a0;replace a1:=kept D _ _ a1;replace a2:=kept D _ _ a2;replace a3:=kept D _ _ a3;replace a4:=kept D _ _ a4;replace a5:=kept D _ _ a5;go_upto_region 2 with fail;generalize hw2:w1.alloc _=w2;generalize qP:w1.heap.size=gq;replace hw2:=hw2.symm;replace qP:=qP.symm;have W:=tQ hw2;have B2:=F9 (Be w w2) (D.trans (W.mono D.size));have H2:=jj (H.below B2);have T2:=F9 (sV (nu E.f E.n E.id gx b d K) w2 gq 49 #[U r0,U r1,U R,U j,U l,U n]) (sV.new (H.below D) (by rw[hw2,qP];exact aZ.new _ _ _) aR);have B0:=jj (X1.below W);clear hw2 qP c6 a0 a1 a2 a3 a4 a5 e0;refine rD (fun u=>J u gx 1 (U 2)/\J u gx 15 (U E.id)/\J u gx 16 d.nn/\J u gx 17 d.gt/\J u gx 19 d.nH/\J u gx 22 d.gd/\J u gq 0 (U r0)/\J u gq 1 (U r1)/\J u gq 2 (U R)/\J u gq 3 (U j)/\J u gq 4 (U l)/\J u gq 5 (U n)) 12 (tk 0 10 (.one 10 (.take 11 .done))) (qZ (H2).uD (Fix.refl d) (T2).blk.drew) fun V B f=> ?_
 repeat refine' tT ?_
 refine pO fun KT bq=> ?_;go_simp;refine(LQ V d.nn b K (H2.below B).Pt 2 (r0,r1,R,j,l,n) d0).mono ?_;rintro e w3 ⟨rfl,y⟩;have X:=nO B y;have H3:=jj ((H2).below X);have T3:=jj ((T2).below X);have S:=qZ H3 (Fix.refl d) T3.blk;refine oH bq S ?_;clear f y;have f:=S
 repeat refine' tT ?_
 refine aU ?_;clear f;have C0:=jj (B0.below X);go_upto_region 4 with fail;refine rD (fun u=>J u gx 1 (U 2)/\J u gx 15 (U E.id)/\J u gx 16 d.nn/\J u gx 17 d.gt/\J u gx 19 d.nH/\J u gx 22 d.gd/\J u gq 0 (U r0)/\J u gq 1 (U r1)/\J u gq 2 (U R)/\J u gq 3 (U j)/\J u gq 4 (U l)/\J u gq 5 (U n)) 8 (tk 0 6 (.one 6 (.take 7 .done))) (qZ (H3).uD (Fix.refl d) (T3).blk.drew) fun V B f=> ?_
 repeat refine' tT ?_
 refine pO fun KT bq=> ?_;go_simp;refine(VQ d.SL d.gd 2 d.es d.st d.ct r0 V (H3.below B).led ⟨by have h9:0<=r0:=q.1;omega,by have h9:r0<2:=q.2;omega⟩ _ rfl).mono ?_;rintro e w4 ⟨rfl,k0⟩;have y:Be V w4:=by rw[k0];exact aC _ _
 clear k0;have B4:=nO B y;have H4:=jj ((H3).below B4);have T4:=jj ((T3).below B4);have S:=qZ H4 (Fix.refl d) T4.blk;refine oH bq S ?_;clear f y;have f:=S
 repeat refine' tT ?_
 refine aU ?_;clear f;have TM:=jj (C0.below B4);have s0:=F9 (Be w w4) (B2.trans ((X.trans (B4.mono X.size)).mono B2.size));have S4:=jj (H.step s0);have J0: ¬r1<=lastOf d.ct r0:=by have:=b0.out;omega
 have q1:=T4.blk.at_ 1;obtain⟨m0,m1⟩:=TM.blk.a2;have K0:=H4.blk.at_ 15;obtain⟨HH,hh,p⟩:=hv;have u0:=jj hh;have t0:=jj p;clear hh p;go_upto_region 14 with fail;refine rD (fun u=>J u gx 1 (U 2)/\J u gx 15 (U E.id)/\J u gx 16 d.nn/\J u gx 17 d.gt/\J u gx 19 d.nH/\J u gx 22 d.gd/\J u gq 0 (U r0)/\J u gq 1 (U r1)/\J u gq 2 (U R)/\J u gq 3 (U j)/\J u gq 4 (U l)/\J u gq 5 (U n)) 7 (tk 0 6 (.one 6 .done)) (qZ (H4).uD (Fix.refl d) (T4).blk.drew) fun V B f=> ?_
 repeat refine' tT ?_
 refine pO fun KT bq=> ?_;go_simp;refine(Jr (H4.below B) aR (r0,r1,R,j,l,n) src TN HH u0).mono ?_;rintro e w5 ⟨rfl,y⟩;have s:=nO B y;have H5:=jj ((H4).below s);have T5:=jj ((T4).below s);have S:=qZ H5 (Fix.refl d) T5.blk;refine oH bq S ?_;clear f y;have f:=S
 repeat refine' tT ?_
 refine aU ?_;clear f;have p:=t0.out;cases HH
 ·simp only[dz,if_false,aA] at p
  obtain⟨HI,hi,⟨K6,v6⟩,i,c⟩:=p;obtain⟨v0,c0,t⟩:=j3 hi i c;clear hi i c;go_upto_region 16 with fail;refine rD (fun u=>J u gx 1 (U 2)/\J u gx 15 (U E.id)/\J u gx 16 d.nn/\J u gx 17 d.gt/\J u gx 19 d.nH/\J u gx 22 d.gd/\J u gq 0 (U r0)/\J u gq 1 (U r1)/\J u gq 2 (U R)/\J u gq 3 (U j)/\J u gq 4 (U l)/\J u gq 5 (U n)) 11 (tk 0 9 (.one 9 (.take 10 .done))) (qZ (H5).uD (Fix.refl d) (T5).blk.drew) fun V B f=> ?_
  repeat refine' tT ?_
  refine pO fun KT bq=> ?_;go_simp;refine(Jr (H5.below B) aR (r0,r1,R,j,l,n) E.id TI HI v0).mono ?_;rintro e w6 ⟨rfl,y⟩;have P:=nO B y;have H6:=jj ((H5).below P);have T6:=jj ((T5).below P);have S:=qZ H6 (Fix.refl d) T6.blk;refine oH bq S ?_;clear f y;have f:=S
  repeat refine' tT ?_
  refine aU ?_;clear f;have i:=c0.out;cases HI
  ·simp only[dz,if_false,aA] at i
   obtain⟨Q,ht,hp⟩:=i;have i0:=jj ht;have HP:=jj hp;clear ht hp;go_upto_region 17 with fail;refine rD (fun u=>J u gx 1 (U 2)/\J u gx 15 (U E.id)/\J u gx 16 d.nn/\J u gx 17 d.gt/\J u gx 19 d.nH/\J u gx 22 d.gd/\J u gq 0 (U r0)/\J u gq 1 (U r1)/\J u gq 2 (U R)/\J u gq 3 (U j)/\J u gq 4 (U l)/\J u gq 5 (U n)) 22 (tk 0 13 (.one 13 (.one 14 (tk 15 7 .done)))) (qZ (H6).uD (Fix.refl d) (T6).blk.drew) fun V B f=> ?_
   repeat refine' tT ?_
   refine pO fun KT bq=> ?_;go_simp;have S6:=jj (S4.below (s.trans (P.mono s.size)));have z0:=F9 (x<V.heap.size) (aB HX (aG S6.size B.size));have h0:=jj (H6.below B);refine(vF h0).mono ?_;rintro e w7 ⟨rfl,rfl⟩;refine oH bq f ?_
   repeat refine' tT ?_
   refine pO fun KT bq=> ?_;go_simp;refine(GX h0 h1 h4 aR (r0,r1,R,j,l,n) q E.id j0 d.now Q i0).mono ?_;rintro e w7 ⟨o1,o2,A0,rfl,g⟩;obtain⟨d7,F⟩:=ex (d.tabled Q A0);rw[<-F] at g;have S7:=jj g;have H7:=jj g.sys;have T7:=jj ((T6.below B).step g);have E0:=jj ((TM.below (s.trans (P.mono s.size))).below B.out|>.step g);have F7:=F9 (Fix d d7) (by rw[F];exact Fix.Bp d _ _);have V7:=F9 (d7.val={d.val with T:=Q}) (by rw[F];rfl);have S:=qZ H7 F7 T7.blk;clear g F;refine oH bq S ?_;clear f;have f:=S
   repeat refine' tT ?_
   refine aU ?_;clear f;obtain⟨y0,y1,y2,y3,y4,y5⟩:=T7.blk.a6;go_wp2_with fail;refine(yV x w7 E gx b d7 K H7 (aB z0 S7.size) h1 h4 w0 (r0,r1,R,j,l,n) K6 v6 (by rw[V7.out];exact HP.out)).mono ?_;rintro e w8 ⟨rfl,A8,c8,L8,g,C⟩;obtain⟨d8,G⟩:=ex (d7.outs A8 c8 L8);rw[<-G] at g C;have S8:=F9 (mP x w w8 E.f E.n E.id gx b d K d8 K6) (((S6.below B).trans S7).trans g);have H8:=jj g.sys;have T8:=jj (T7.step g);have F0:=jj (E0.step g);have F8:=F9 (Fix d d8) (F7.trans (by rw[G];exact Fix.Bo _ _ _ _));have V8:=jj C;have G0:=F9 (d8.T=Q) (by rw[G];show d7.T=Q;exact congrArg ql.T V7);clear g C G y0 y1 y2 y3 y4 y5;have ym:=F0.blk.at_ 0;have c:=t.out;split at c
   ·rename_i o
    simp only[aK,aM] at c;obtain⟨v,A,⟨rfl,rfl⟩,rfl⟩:=c;have N:=jj A;clear A o;go_upto_region 22 with fail;refine rD (fun u=>J u gx 1 (U 2)/\J u gx 15 (U E.id)/\J u gx 16 d.nn/\J u gx 17 d.gt/\J u gx 19 d.nH/\J u gx 22 d.gd/\J u gq 0 (U r0)/\J u gq 1 (U r1)/\J u gq 2 (U R)/\J u gq 3 (U j)/\J u gq 4 (U l)/\J u gq 5 (U n)) 12 (tk 0 10 (.one 10 (.one 11 .done))) (qZ (H8).uD F8 (T8).blk.drew) fun V B f=> ?_
    repeat refine' tT ?_
    refine pO fun KT bq=> ?_;go_simp;have Hv:=jj (H8.below B);rw[<-F8.gt];refine(vF Hv).mono ?_;rintro e w9 ⟨rfl,rfl⟩;refine oH bq f ?_
    repeat refine' tT ?_
    refine pO fun KT bq=> ?_;go_simp;rw[<-F8.nH];refine(GX Hv h1 h4 (by rw[G0.out];have e:Q.length<=d.T.length+1:=aci i0;omega) (r0,r1,R,j,l,n) q src I _ v (by have e:=N.out;rw[<-V8.out] at e;exact e)).mono ?_;rintro e w9 ⟨o3,o4,O,rfl,g⟩;have S9:=jj g;have H9:=jj g.sys;have T9:=jj ((T8.below B).step g);have Z:=F9 (Fix d (d8.tabled v O)) (F8.trans (Fix.Bp _ _ _));have S:=qZ H9 Z T9.blk;clear g;refine oH bq S ?_;clear f;have f:=S
    repeat refine' tT ?_
    refine aU ?_;clear f;go_wp2_with fail;go_ret;refine⟨by trivial,_,(S8.below B).trans S9,Z,?_⟩;rw[<-V8.out];rfl
   simp at c
  simp only[if_true,aD,aM] at i;obtain⟨rfl,rfl⟩:=i;have S6:=jj (S4.below (s.trans (P.mono s.size)));have D0:=jj (TM.below (s.trans (P.mono s.size)));have F6:=jj (Fix.refl d);have ym:=D0.blk.at_ 0;have c:=t.out;split at c
  ·rename_i o
   simp only[aK,aM] at c;obtain⟨v,A,⟨rfl,rfl⟩,rfl⟩:=c;have N:=jj A;clear A o;go_upto_region 22 with fail;refine rD (fun u=>J u gx 1 (U 2)/\J u gx 15 (U E.id)/\J u gx 16 d.nn/\J u gx 17 d.gt/\J u gx 19 d.nH/\J u gx 22 d.gd/\J u gq 0 (U r0)/\J u gq 1 (U r1)/\J u gq 2 (U R)/\J u gq 3 (U j)/\J u gq 4 (U l)/\J u gq 5 (U n)) 12 (tk 0 10 (.one 10 (.one 11 .done))) (qZ (H6).uD F6 (T6).blk.drew) fun V B f=> ?_
   repeat refine' tT ?_
   refine pO fun KT bq=> ?_;go_simp;have Hv:=jj (H6.below B);rw[<-F6.gt];refine(vF Hv).mono ?_;rintro e w9 ⟨rfl,rfl⟩;refine oH bq f ?_
   repeat refine' tT ?_
   refine pO fun KT bq=> ?_;go_simp;rw[<-F6.nH];refine(GX Hv h1 h4 aR (r0,r1,R,j,l,n) q src I _ v (N)).mono ?_;rintro e w9 ⟨o3,o4,O,rfl,g⟩;have S9:=jj g;have H9:=jj g.sys;have T9:=jj ((T6.below B).step g);have Z:=F9 (Fix d (d.tabled v O)) (F6.trans (Fix.Bp _ _ _));have S:=qZ H9 Z T9.blk;clear g;refine oH bq S ?_;clear f;have f:=S
   repeat refine' tT ?_
   refine aU ?_;clear f;go_wp2_with fail;go_ret;refine⟨by trivial,_,(S6.below B).trans S9,Z,?_⟩;rfl
  simp at c
 simp only[if_true,aD,aM] at p;obtain⟨⟨rfl,rfl⟩,rfl⟩:=p;go_wp2_with fail;go_ret;exact⟨by trivial,d,S4.below s,Fix.refl d,rfl⟩
theorem nU.k12(h:nU f M)(H:M.kind=1\/M.kind=2):0<=M.sender/\ ∃r,M.batch= [r]:=by
 cases h with
 |req r q1 q2 q3=>exact⟨by simp only;omega,r,rfl⟩
 |prop s r q1 q2=>exact⟨by unfold qU at q1;simp only[decide_eq_true_eq] at q1;exact q1.1,r,rfl⟩
 |_=>simp at H
theorem nU.ahk(h:nU f M)(H:M.kind=3\/M.kind=4\/M.kind=5):(0<=M.inst/\M.inst<=f)/\(1<=M.seq/\M.seq<=16):=by
 have key: ∀a b c:Int,qU a b c=true->b<=a/\a<=c:=fun a b c h=>by unfold qU at h;simpa using h
 cases h with
 |pp k q l q1 q2 q3 q4 q5=>exact⟨key _ _ _ q2,key _ _ _ q3⟩
 |v4 s k q l q1 q2 q3 q4 q5=>exact⟨key _ _ _ q2,key _ _ _ q3⟩
 |v5 s k q l q1 q2 q3 q4 q5=>exact⟨key _ _ _ q2,key _ _ _ q3⟩
 |_=>simp at H
theorem nU.kinds(h:nU f M):M.kind=1\/M.kind=2\/M.kind=3\/M.kind=4\/M.kind=5\/M.kind=9:=by cases h<;>simp
theorem Rx(h:M.kind=1\/M.kind=2)(H:M.batch= [r]):sP E M z S=JE E M.kind M.sender.toNat r S:=by unfold sP;rw[if_pos h,H]
theorem aeL(h:M.kind=3):sP E M z S=ppV E M M.inst.toNat (M.seq -1).toNat S:=by unfold sP;rw[if_neg (by rw[h];decide),if_pos h]
theorem Ry(h:M.kind=4\/M.kind=5):sP E M z S=AU E M z M.sender.toNat M.inst.toNat (M.seq -1).toNat S:=by unfold sP;rw[if_neg (by rcases h with h|h<;>rw[h]<;>decide),if_neg (by rcases h with h|h<;>rw[h]<;>decide),if_pos h]
theorem aeM{c:Ce}(h:M.kind=9)(H:M.vI= [c]):sP E M z S=Cw E c S:=by unfold sP;rw[if_neg (by rw[h];decide),if_neg (by rw[h];decide),if_neg (by rw[h];decide),if_pos h,H]
theorem acf{r:KN×Kj}(H:M.kind=9)(h:sP E M z S=some r): ∃c,M.vI= [c]:=by
 unfold sP at h;rw[if_neg (by rw[H];decide),if_neg (by rw[H];decide),if_neg (by rw[H];decide),if_pos H] at h;split at h
 ·rename_i c a
  exact⟨c,a⟩
 cases h
theorem adq{cd:CD}(h:Gz x w a n c [cd]):n=1/\ ∃g o,a=some ⟨g,o,none⟩/\J w g o (U cd.view)/\J w g (o+1) (U cd.inst)/\J w g (o+2) (U cd.seq)/\J w g (o+3) (acX cd.ba cd.bn cd.bc)/\J w g (o+4) (acX cd.va cd.vn cd.vc):=by have e:n=1:=h.len.symm;subst e;obtain⟨b,o,rfl,d,H⟩:=h.row.2 aR;have key: ∀j v,(nS cd)[j]?=some v->J w b (o+j) v:=fun j v f=>H j v (mR f);exact⟨rfl,b,o,rfl,key 0 _ rfl,key 1 _ rfl,key 2 _ rfl,key 3 _ rfl,key 4 _ rfl⟩
theorem aef(x:Nat)(w:World)(E:Who)(gx b:Nat)(d:bK)(K:KS)(h:qE x w E.f E.n E.id gx b d K)(hx:x<w.heap.size)(h1:1<=E.f)(h4:E.f<=4)(M:(E.n:Int)=3*E.f+1)(g:E.id<E.n)(m:MD)(J:MF x w m)(L:m.kind=1)(I:nU E.f (nA m))(z:Int)(n:KS)(v:ql)(a:Kj)(t:sP E (nA m) z (K,d.val)=some ((n,v),a)):
  Y 120 #[gx,acY (oM m).toArray,U z] w fun e w'=>e=acK (U a.num)/\Kt x w w' E gx b d K n v:=by
 obtain⟨kind,sender,view,inst,s,R,u,A,y,C,V,Q,O,vs,D,G,F,cs,P,N⟩:=m;simp only at L;subst L;obtain⟨H,X,k,S,f⟩:=j5 h hx M J g;obtain⟨c,r,i⟩:=I.k12 (by simp[nA]);rw[Rx (by simp[nA]) i] at t;replace c:0<=sender:=c;replace i:C= [r]:=i;have W:=jj t;have T:=jj i;have HS:=F9 (sender=(sender.toNat:Int)) aR;clear t i c;clear h hx M J g I;show Y 120 #[gx,acY #[U 1,U sender,U view,U inst,U s,U R,acX u A y,acX V Q O,acX D G F,acX P 0 N],U z] w _;go_enter func120,ntmps120;go_upto_region 1 with fail;generalize hw1:w.alloc _=w1;generalize hgm:w.heap.size=gm;replace hw1:=hw1.symm;replace hgm:=hgm.symm;obtain⟨B,X1⟩:=nw hw1 hgm;clear hw1 hgm;have H1:=jj (H.below B);have Z:=jj (S.below B);have l:=F9 (x<w1.heap.size) (aB X B.size);obtain⟨y0,y1,y2,y3,y4,y5,y6,y7,y8,y9⟩:=X1.zA;go_wp2_with fail;refine(Ur x w1 E gx b d K H1 l h1 h4 k ⟨1,sender,view,inst,s,R,u,A,y,C,V,Q,O,vs,D,G,F,cs,P,N⟩ Z rfl sender.toNat f r f T n v a W).mono ?_;rintro e w2 ⟨o,d2,q,p,j⟩;replace o:e=acK (U a.num):=by rw[o];cases a<;>rfl
 subst o;go_wp2_with fail;go_ret;exact⟨by trivial,d2,(H.step B).trans q,p,j⟩
theorem aeg(x:Nat)(w:World)(E:Who)(gx b:Nat)(d:bK)(K:KS)(h:qE x w E.f E.n E.id gx b d K)(hx:x<w.heap.size)(h1:1<=E.f)(h4:E.f<=4)(M:(E.n:Int)=3*E.f+1)(f:E.id<E.n)(m:MD)(J:MF x w m)(L:m.kind=2)(I:nU E.f (nA m))(z:Int)(n:KS)(v:ql)(a:Kj)(t:sP E (nA m) z (K,d.val)=some ((n,v),a)):
  Y 120 #[gx,acY (oM m).toArray,U z] w fun e w'=>e=acK (U a.num)/\Kt x w w' E gx b d K n v:=by
 obtain⟨kind,sender,view,inst,s,R,u,A,y,C,V,Q,O,vs,D,G,F,cs,P,N⟩:=m;simp only at L;subst L;obtain⟨H,Z,k,S,j⟩:=j5 h hx M J f;obtain⟨c,r,g⟩:=I.k12 (by simp[nA]);rw[Rx (by simp[nA]) g] at t;replace c:0<=sender:=c;replace g:C= [r]:=g;have X:=jj t;have T:=jj g;have W:=F9 (sender=(sender.toNat:Int)) aR;clear t g c;clear h hx M J f I;show Y 120 #[gx,acY #[U 2,U sender,U view,U inst,U s,U R,acX u A y,acX V Q O,acX D G F,acX P 0 N],U z] w _;go_enter func120,ntmps120;go_upto_region 1 with fail;generalize hw1:w.alloc _=w1;generalize hgm:w.heap.size=gm;replace hw1:=hw1.symm;replace hgm:=hgm.symm;obtain⟨B,X1⟩:=nw hw1 hgm;clear hw1 hgm;have H1:=jj (H.below B);have M1:=jj (S.below B);have l:=F9 (x<w1.heap.size) (aB Z B.size);obtain⟨y0,y1,y2,y3,y4,y5,y6,y7,y8,y9⟩:=X1.zA;go_wp2_with fail;refine(Us x w1 E gx b d K H1 l h1 h4 k ⟨2,sender,view,inst,s,R,u,A,y,C,V,Q,O,vs,D,G,F,cs,P,N⟩ M1 rfl sender.toNat W r j T n v a X).mono ?_;rintro e w2 ⟨o,d2,q,p,i⟩;replace o:e=acK (U a.num):=by rw[o];cases a<;>rfl
 subst o;go_wp2_with fail;go_ret;exact⟨by trivial,d2,(H.step B).trans q,p,i⟩
theorem aeh(x:Nat)(w:World)(E:Who)(gx b:Nat)(d:bK)(K:KS)(h:qE x w E.f E.n E.id gx b d K)(hx:x<w.heap.size)(h1:1<=E.f)(h4:E.f<=4)(M:(E.n:Int)=3*E.f+1)(c:E.id<E.n)(m:MD)(J:MF x w m)(L:m.kind=3)(G:nU E.f (nA m))(z:Int)(l:KS)(v:ql)(a:Kj)(p:sP E (nA m) z (K,d.val)=some ((l,v),a)):
  Y 120 #[gx,acY (oM m).toArray,U z] w fun e w'=>e=acK (U a.num)/\Kt x w w' E gx b d K l v:=by obtain⟨kind,s,view,inst,seq,r,u,A,y,bs,V,R,O,vs,C,F,D,cs,P,N⟩:=m;simp only at L;subst L;obtain⟨H,X,j,T,S⟩:=j5 h hx M J c;obtain⟨⟨I,q⟩,Q,t⟩:=G.ahk (by simp[nA]);replace I:0<=inst:=I;replace q:inst<=E.f:=q;replace Q:1<=seq:=Q;replace t:seq<=16:=t;have g:inst.toNat<=16:=aR;have f:(seq -1).toNat<16:=aR;rw[aeL rfl] at p;have W:=jj p;clear p I q Q t;clear h hx M J c G;show Y 120 #[gx,acY #[U 3,U s,U view,U inst,U seq,U r,acX u A y,acX V R O,acX C F D,acX P 0 N],U z] w _;go_enter func120,ntmps120;go_upto_region 1 with fail;generalize hw1:w.alloc _=w1;generalize hgm:w.heap.size=gm;replace hw1:=hw1.symm;replace hgm:=hgm.symm;obtain⟨B,X1⟩:=nw hw1 hgm;clear hw1 hgm;have H1:=jj (H.below B);have Z:=jj (T.below B);have k:=F9 (x<w1.heap.size) (aB X B.size);obtain⟨y0,y1,y2,y3,y4,y5,y6,y7,y8,y9⟩:=X1.zA;go_wp2_with fail;refine(Yd x w1 E gx b d K H1 k h1 h4 j ⟨3,s,view,inst,seq,r,u,A,y,bs,V,R,O,vs,C,F,D,cs,P,N⟩ Z inst.toNat (seq -1).toNat g f l v a W).mono ?_;rintro e w2 ⟨rfl,rfl,d2,o,n,i⟩;go_wp2_with fail;go_ret;exact⟨by trivial,d2,(H.step B).trans o,n,i⟩
theorem aei(x:Nat)(w:World)(E:Who)(gx b:Nat)(d:bK)(K:KS)(h:qE x w E.f E.n E.id gx b d K)(hx:x<w.heap.size)(h1:1<=E.f)(h4:E.f<=4)(J:(E.n:Int)=3*E.f+1)(c:E.id<E.n)(m:MD)(D:MF x w m)(G:m.kind=4)(F:nU E.f (nA m))(z:Int)(k:KS)(v:ql)(a:Kj)(o:sP E (nA m) z (K,d.val)=some ((k,v),a)):
  Y 120 #[gx,acY (oM m).toArray,U z] w fun e w'=>e=acK (U a.num)/\Kt x w w' E gx b d K k v:=by obtain⟨kind,s,view,inst,S,r,q,u,t,Z,V,N,M,vs,C,A,y,cs,P,L⟩:=m;simp only at G;subst G;obtain⟨H,T,i,Q,O⟩:=j5 h hx J D c;obtain⟨⟨I,p⟩,q0,q1⟩:=F.ahk (by simp[nA]);replace I:0<=inst:=I;replace p:inst<=E.f:=p;have f:inst.toNat<=16:=aR;rw[Ry (by simp[nA])] at o;have R:=jj o;clear o I p q0 q1;clear h hx J D c F;show Y 120 #[gx,acY #[U 4,U s,U view,U inst,U S,U r,acX q u t,acX V N M,acX C A y,acX P 0 L],U z] w _;go_enter func120,ntmps120;go_upto_region 1 with fail;generalize hw1:w.alloc _=w1;generalize hgm:w.heap.size=gm;replace hw1:=hw1.symm;replace hgm:=hgm.symm;obtain⟨B,X⟩:=nw hw1 hgm;clear hw1 hgm;have H1:=jj (H.below B);have W:=jj (Q.below B);have j:=F9 (x<w1.heap.size) (aB T B.size);obtain⟨y0,y1,y2,y3,y4,y5,y6,y7,y8,y9⟩:=X.zA;go_wp2_with fail;refine(QT x w1 E gx b d K H1 j h1 h4 i ⟨4,s,view,inst,S,r,q,u,t,Z,V,N,M,vs,C,A,y,cs,P,L⟩ W z s.toNat inst.toNat (S -1).toNat f k v a R).mono ?_;rintro e w2 ⟨rfl,d2,n,l,g⟩;go_wp2_with fail;go_ret;exact⟨by trivial,d2,(H.step B).trans n,l,g⟩
theorem aej(x:Nat)(w:World)(E:Who)(gx b:Nat)(d:bK)(K:KS)(h:qE x w E.f E.n E.id gx b d K)(hx:x<w.heap.size)(h1:1<=E.f)(h4:E.f<=4)(J:(E.n:Int)=3*E.f+1)(c:E.id<E.n)(m:MD)(D:MF x w m)(G:m.kind=5)(F:nU E.f (nA m))(z:Int)(k:KS)(v:ql)(a:Kj)(o:sP E (nA m) z (K,d.val)=some ((k,v),a)):
  Y 120 #[gx,acY (oM m).toArray,U z] w fun e w'=>e=acK (U a.num)/\Kt x w w' E gx b d K k v:=by obtain⟨kind,s,view,inst,S,r,q,u,t,Z,V,N,M,vs,C,A,y,cs,P,L⟩:=m;simp only at G;subst G;obtain⟨H,T,i,Q,O⟩:=j5 h hx J D c;obtain⟨⟨I,p⟩,q0,q1⟩:=F.ahk (by simp[nA]);replace I:0<=inst:=I;replace p:inst<=E.f:=p;have f:inst.toNat<=16:=aR;rw[Ry (by simp[nA])] at o;have R:=jj o;clear o I p q0 q1;clear h hx J D c F;show Y 120 #[gx,acY #[U 5,U s,U view,U inst,U S,U r,acX q u t,acX V N M,acX C A y,acX P 0 L],U z] w _;go_enter func120,ntmps120;go_upto_region 1 with fail;generalize hw1:w.alloc _=w1;generalize hgm:w.heap.size=gm;replace hw1:=hw1.symm;replace hgm:=hgm.symm;obtain⟨B,X⟩:=nw hw1 hgm;clear hw1 hgm;have H1:=jj (H.below B);have W:=jj (Q.below B);have j:=F9 (x<w1.heap.size) (aB T B.size);obtain⟨y0,y1,y2,y3,y4,y5,y6,y7,y8,y9⟩:=X.zA;go_wp2_with fail;refine(QT x w1 E gx b d K H1 j h1 h4 i ⟨5,s,view,inst,S,r,q,u,t,Z,V,N,M,vs,C,A,y,cs,P,L⟩ W z s.toNat inst.toNat (S -1).toNat f k v a R).mono ?_;rintro e w2 ⟨rfl,d2,n,l,g⟩;go_wp2_with fail;go_ret;exact⟨by trivial,d2,(H.step B).trans n,l,g⟩
theorem aek(x:Nat)(w:World)(E:Who)(gx b:Nat)(d:bK)(K:KS)(h:qE x w E.f E.n E.id gx b d K)(hx:x<w.heap.size)(h1:1<=E.f)(h4:E.f<=4)(I:(E.n:Int)=3*E.f+1)(i:E.id<E.n)(m:MD)(k:MF x w m)(G:m.kind=9)(ff:nU E.f (nA m))(z:Int)(r:KS)(V:ql)(a:Kj)(n:sP E (nA m) z (K,d.val)=some ((r,V),a)):
  Y 120 #[gx,acY (oM m).toArray,U z] w fun e w'=>e=acK (U a.num)/\Kt x w w' E gx b d K r V:=by
 obtain⟨kind,s,view,inst,S,R,Q,W,T,bs,va,vn,vc,vs,ca,cn,Z,cs,pa,pc⟩:=m;simp only at G;subst G;obtain⟨H,P,o,L,J⟩:=j5 h hx I k i;obtain⟨c,f⟩:=acf (M:=nA _) rfl n;rw[aeM rfl f] at n;obtain⟨cd,t,g⟩: ∃cd,cs= [cd]/\pz cd=c:=by
  replace f:cs.map pz= [c]:=f
  cases cs with
  |nil=>simp at f
  |cons q l=>cases l with
   |nil=>
    simp only[bV,fu,gT,and_true] at f;exact⟨q,rfl,f⟩
   |cons q' l=>simp at f
 rw[<-g] at n;subst t;obtain⟨rfl,g0,O,rfl,y,D,a2,a3,F⟩:=adq k.c;have C:=F9 (CF x w cd) (k.c.is cd bJ);have N:=jj n;have A:=jj (⟨y,D,a2,a3,F⟩:_/\_/\_/\_/\_);clear y D a2 a3 F g;clear h hx I k i ff;show Y 120 #[gx,acY #[U 9,U s,U view,U inst,U S,U R,acX Q W T,acX va vn vc,acX (some (adZ g0 O)) 1 Z,acX pa 0 pc],U z] w _;go_enter func120,ntmps120;go_upto_region 1 with fail;generalize hw1:w.alloc _=w1;generalize hgm:w.heap.size=gm;replace hw1:=hw1.symm;replace hgm:=hgm.symm;obtain⟨B,X⟩:=nw hw1 hgm;clear hw1 hgm;have H1:=jj (H.below B);have M1:=jj (L.below B);have p:=F9 (x<w1.heap.size) (aB P B.size);obtain⟨y0,y1,y2,y3,y4,y5,y6,y7,y8,y9⟩:=X.zA;have b0:=kept B _ _ A.1;have b1:=kept B _ _ A.2.1;have b2:=kept B _ _ A.2.2.1;have b3:=kept B _ _ A.2.2.2.1;have b4:=kept B _ _ A.2.2.2.2;go_wp2_with fail;refine(abm x w1 E gx b d K H1 p h1 h4 o cd (C.below B) r V a N).mono ?_;rintro e w2 ⟨rfl,d2,v,u,j⟩;go_wp2_with fail;go_ret;exact⟨by trivial,d2,(H.step B).trans v,u,j⟩
theorem ael(x:Nat)(w:World)(E:Who)(gx b:Nat)(d:bK)(K:KS)(h:qE x w E.f E.n E.id gx b d K)(hx:x<w.heap.size)(g:1<=E.f)(i:E.f<=4)(l:(E.n:Int)=3*E.f+1)(H:E.id<E.n)(m:MD)(j:MF x w m)(f:nU E.f (nA m))(z:Int)(k:KS)(v:ql)(a:Kj)(n:sP E (nA m) z (K,d.val)=some ((k,v),a)):
  Y 120 #[gx,acY (oM m).toArray,U z] w fun e w'=>e=acK (U a.num)/\Kt x w w' E gx b d K k v:=by
 have c:m.kind=1\/m.kind=2\/m.kind=3\/m.kind=4\/m.kind=5\/m.kind=9:=f.kinds;rcases c with c|c|c|c|c|c
 ·exact aef x w E gx b d K h hx g i l H m j c f z k v a n
 ·exact aeg x w E gx b d K h hx g i l H m j c f z k v a n
 ·exact aeh x w E gx b d K h hx g i l H m j c f z k v a n
 ·exact aei x w E gx b d K h hx g i l H m j c f z k v a n
 ·exact aej x w E gx b d K h hx g i l H m j c f z k v a n
 exact aek x w E gx b d K h hx g i l H m j c f z k v a n
theorem Ya{id:Nat}{d:bK}(h:qE x w f n id gx b d K)(hx:x<w.heap.size)(k j:Nat)(i:Ba)(p:uo)(s:d.val.pl k j=some (i,p))(gi:Nat)(H:d.is[k]?.map Prod.fst=some gi)(z:Int)(q:z=(j:Int)+1):
  Y 230 #[gi,U z] w fun e w'=> ∃a m c,e=acK (ac2 #[acX a m c,p.has])/\(p.has=true->sK x w' a m c p.b)/\Be w w':=by
 obtain⟨g,I,P,E,o,rfl,rfl⟩:=sQ s;rw[E] at H;injection H with H;subst H;cases l:P.sl.has
 ·refine(TY (h.inst E) j P o l z q).mono ?_
  rintro e w' ⟨rfl,rfl⟩;exact⟨none,0,0,by simp[qm.val,l],fun t=>by simp[qm.val,l] at t,aC _ _⟩
 refine(Me (h.inst E) j P o l z q hx).mono ?_;rintro e w' ⟨A,C,rfl,u,_,r⟩;exact⟨A,_,C,by simp[qm.val,l],fun _=>u,r⟩
theorem Yb{id:Nat}{d:bK}(h:qE x w f n id gx b d K)(hx:x<w.heap.size)(k j:Nat)(i:Ba)(p:uo)(o:d.val.pl k j=some (i,p))(gi:Nat)(H:d.is[k]?.map Prod.fst=some gi)(z:Int)(m:z=(j:Int)+1):
  Y 174 #[gi,U z] w fun e w'=> ∃c0 C c2 ba bn bc va v vc,e=acK (ac2 #[acY #[U c0,U C,U c2,acX ba bn bc,acX va v vc],p.done.isSome])/\Be w w':=by
 obtain⟨g,I,P,E,l,rfl,rfl⟩:=sQ o;rw[E] at H;injection H with H;subst H;cases a:P.done
 ·refine(KF (h.inst E) j P l a z m hx).mono ?_
  rintro e w' ⟨rfl,c⟩;exact⟨0,0,0,none,0,0,none,0,0,by simp[qm.val,a],c⟩
 refine(Dt (h.inst E) j P l a z m hx).mono ?_;rintro e w' ⟨a6,q,A,r,rfl,_,c⟩;exact⟨_,_,_,_,_,_,_,_,_,by simp[qm.val,a];rfl,c⟩
theorem ahs(x:Nat)(w:World)(f:Int)(n id gx b:Nat)(d:bK)(K:KS)(h:qE x w f n id gx b d K)(t:d.is.length<=16)(k: ∀i∈d.val.is,i.on=true):
  Y 173 #[gx] w fun e w'=>e= .returned true/\w=w':=by
 have C:=h.blk.at_ 18;have H:=jj h;have o:=jj k;obtain⟨n0,c⟩:=ex d.is.length;have s:=jj c;rw[<-c] at C t;clear h k c;go_enter func173,ntmps173;go_wp2_with fail;go_loopw [10] (fun q wr=> ∃i:Nat,i<=n0/\q= U i/\wr=w) (fun q _=>n0 -(intOf q).toNat)
 case atStart=>exact⟨0,aR,by first|rfl|simp,by trivial⟩
 case round=>
  obtain⟨i,z,rfl,rfl⟩:=hrel;by_cases u:i<n0
  ·have v:(i:Int)<n0:=aR
   have A:(0:Int)<=i:=aR;have E:IntKind.i64.wrap ((i:Int)+1)=(i:Int)+1:=aH _ aR;obtain⟨⟨g,I⟩,l⟩: ∃p,d.is[i]?=some p:=⟨_,aj (tL s.out)⟩;have y:=H.ptr l;have a:d.val.is[i]?=some I.val:=by simp[bK.val,l]
   have j:d.is[i]?.map Prod.fst=some g:=by rw[l];rfl
   have O:=F9 (I.val.on=true) (o.out _ (ak a));have m:=jj a;have r:=jj j;clear a j l;go_wp2_with fail;refine(rV H i I.val m g r).mono ?_;rintro e w' ⟨rfl,rfl⟩;rw[O.out];go_wp2_with fail;go_roundw
   case rel=>exact⟨i+1,aR,by go_num,by trivial⟩
   simp[intOf];omega
  obtain rfl:i=n0:=aR;have v: ¬(i:Int)<i:=aR;go_wp2_with fail;go_ret;exact⟨by trivial,by trivial⟩
theorem Uo(x:Nat)(w:World)(f:Int)(n id gx b:Nat)(d:bK)(K:KS)(h:qE x w f n id gx b d K)(m:1<=f)(p:f<=4)(i:d.view=0)(k:Nat)(q:(k:Int)<=f)(o:Bool)(g:decide (k=id)=o):
  Y 165 #[gx,U k] w fun e w'=>e=acK o/\Be w w':=by
 have H:=jj h;have l:=jj i;have c:((k:Int)==(id:Int))=o:=by rw[<-g,kG];simp only[beq_iff_eq,decide_eq_true_eq];omega
 have j:=jj c;clear h i g c;go_enter func165,ntmps165;go_upto_region 1 with fail;have KS:=F9 (∀u,Be w u->J u gx 0 (U f)/\J u gx 29 (U 0)/\J u gx 15 (U id)) fun u o=>⟨(H.below o).blk.cell 0,by rw[<-l.out];exact(H.below o).blk.cell 29,(H.below o).blk.cell 15⟩;refine rD (fun u=>J u gx 0 (U f)/\J u gx 29 (U 0)/\J u gx 15 (U id)) 17 (tk 0 10 (tk 11 4 (.one 10 (.take 15 (.take 16 .done))))) (KS.out _ (aC _ _).drew) fun W B a=> ?_
 repeat refine' tT ?_
 refine pO fun KT bq=> ?_;go_simp;refine(MP f k W m p ⟨aR,q⟩).mono ?_;rintro e r ⟨rfl,rfl⟩;refine oH bq a ?_
 repeat refine' tT ?_
 refine aU ?_;clear a;go_wp2_with fail;go_ret;refine⟨?_,B⟩;show Ending.returned (Value.bool ((k:Int)==(id:Int)))=_;rw[j.out]
theorem Nj(r:Rq): ∀l:List qm,Ej r (l.map qm.val)=vK r l
 | []=>rfl
 |p::l=>by rw[bV,Ej,vK,Nj r l];cases hd:p.done<;>simp[qm.val,hd,pz]
theorem Jq: ∀l:List uo,nP l<=l.length
 | []=>aF _
 |p::l=>by
  have:=Jq l;simp only[nP,List.length_cons];split
  ·split<;>omega
  omega
theorem MH: ∀(l:List uo) (j:Nat) (p:uo),nP l<=j->l[j]?=some p->p.has=false
 | [],j,p,_,h=>by simp at h
 |q::l,j,p,hj,h=>by
  simp only[nP] at hj
  cases j with
  |zero=>
   simp only[List.getElem?_cons_zero,aD] at h;subst h;split at hj
   ·split at hj
    ·omega
    rename_i hh;simpa using hh
   omega
  |succ j=>
   refine MH l j p ?_ (mR h);split at hj
   ·omega
   omega
theorem QM: ∀(l:List uo),nP l=0\/ ∃p,l[nP l -1]?=some p/\p.has=true
 | []=> .inl rfl
 |q::l=>by
  rcases QM l with h|⟨p,hp,hh⟩
  ·simp only[nP,h,if_true]
   by_cases hq:q.has=true
   ·exact .inr ⟨q,by simp[hq],hq⟩
   exact .inl (by simp[hq])
  by_cases h0:nP l=0
  ·simp only[nP,h0,if_true]
   by_cases hq:q.has=true
   ·exact .inr ⟨q,by simp[hq],hq⟩
   exact .inl (by simp[hq])
  refine .inr ⟨p,?_,hh⟩;simp only[nP,h0,if_false];rw[show nP l+1 -1=(nP l -1)+1 by omega];simpa using hp
theorem aed{id:Nat}{d:bK}(h:qE x w f n id gx b d K)(hx:x<w.heap.size)(k:Nat)(i:Ba)(r:d.val.is[k]?=some i)(gi:Nat)(H:d.is[k]?.map Prod.fst=some gi):
  Y 164 #[gi] w fun e w'=>e=acK (U ((nP i.ps:Int)+1))/\Be w w':=by
 obtain⟨g,I,c,rfl⟩:=qd r;rw[c] at H;injection H with H;subst H;have u:I.ps.length=16:=(h.inst c).len;refine adS (h.inst c) _ (by have:=Jq I.val.ps;simp only[tJ.val,aT] at this;simp only[tJ.val];omega) ?_ (fun j p s l=> ?_) hx
 ·rcases QM I.val.ps with m|⟨p,l,o⟩
  ·exact .inl m
  right;have a:=l;simp only[tJ.val,aS,aK] at a;obtain⟨q,t,rfl⟩:=a;exact⟨q,t,o⟩
 have:=MH I.val.ps j p.val s (by simp[tJ.val,l]);exact this
theorem aen{id:Nat}{d:bK}(h:qE x w f n id gx b d K)(hx:x<w.heap.size)(k:Nat)(i:Ba)(c:d.val.is[k]?=some i)(gi:Nat)(H:d.is[k]?.map Prod.fst=some gi)(r:Rq)(o:Bool)(j:Ej r i.ps=o):
  Y 168 #[gi,acY (rA r).toArray] w fun e w'=>e=acK o/\Be w w':=by obtain⟨g,I,a,rfl⟩:=qd c;rw[a] at H;injection H with H;subst H;exact adT (h.inst a) r o (by rw[<-j,tJ.val];exact(Nj r I.ps).symm) hx
theorem abp(x:Nat)(w:World)(E:Who)(gx b:Nat)(d:bK)(K:KS)(h:qE x w E.f E.n E.id gx b d K)(hx:x<w.heap.size)(M:1<=E.f)(h4:E.f<=4)(hn:(E.n:Int)=3*E.f+1)(I0:d.view=0)(k:Nat)(U0:(k:Int)<=E.f)(i:Ba)(hi:d.val.is[k]?=some i)(E0:i.on=true)(hl:i.ps.length=16)(K':KS)(v':ql)(hv:lI E k 16 0 (K,d.val)=some (K',v')):
  Y 172 #[gx,U k] w fun e w'=>e= .returned (.tuple #[])/\ ∃A c L,mP x w w' E.f E.n E.id gx b d K (d.outs A c L) K'/\(d.outs A c L).val=v':=by
 obtain⟨gi,I,hI,T0⟩:=qd hi;have z0:d.is[k]?.map Prod.fst=some gi:=by rw[hI];rfl
 have k0:(0:Int)<=k:=aR;have k1:(k:Int)<d.is.length:=by have:=zZ hI;omega
 have t0:=h.blk.at_ 18;have u0:=h.ptr hI;obtain⟨H,HX,HI,HG,J0,HL⟩:=j6 h hx hi z0 E0 hl;obtain⟨p0,P0,HV⟩:=j3 hn I0 hv;clear h hx hi z0 hI T0 E0 hl hn I0 hv;go_enter func172,ntmps172;go_wp2_with fail;refine(rV H k i HI gi HG).mono ?_;rintro e w' ⟨rfl,rfl⟩;rw[J0.out];clear k1;go_wp2_with fail;go_loopw [5] (fun q wr=> ∃(s:Nat) (A:OA) (c:Nat) (L:List wN) (G:KS),1<=s/\s<=17/\q= U s/\mP x w wr E.f E.n E.id gx b d K (d.outs A c L) G/\lI E k (17 -s) (s -1) (G,(d.outs A c L).val)=some (K',v')) (fun q _=>17 -(intOf q).toNat)
 case atStart=>exact⟨1,d.oa,d.oc,d.ol,K,aR,aR,by first|rfl|simp,Step.refl H,HV⟩
 case round=>
  obtain⟨s,A0,R,L0,G,X0,V0,rfl,t,j⟩:=hrel;by_cases hs:s<=16
  ·obtain⟨r,C⟩:=ex (d.outs A0 R L0)
   rw[<-C] at t j;obtain⟨SW,HW,DW⟩:=j3 t t.sys C;have e0:=F9 (x<wr.heap.size) (aB HX t.size);have s1:(s:Int)<=16:=aR;have e2:IntKind.i64.wrap ((s:Int)+1)=(s:Int)+1:=aH _ aR;obtain⟨p,hp⟩: ∃p,i.ps[s -1]?=some p:=⟨_,aj (tL HL.out)⟩;have j0:r.val.pl k (s -1)=some (i,p):=by rw[C];show(d.val.is[k]?.bind fun i=>i.ps[s -1]?.map fun p=>(i,p))=_;rw[HI.out];simp[hp]
   have q0:=jj j0;have o0:=F9 (r.is[k]?.map Prod.fst=some gi) (by rw[C];exact HG.out);have SZ:=F9 ((s:Int)=((s -1:Nat):Int)+1) aR;have VW:=F9 (r.view=0) (by rw[C];exact P0.out);rw[show 17 -s=(17 -(s+1))+1 by omega,lI,show s -1+1=s+1 -1 by omega] at j;simp only[aA] at j;obtain⟨⟨KX,vX⟩,f,j⟩:=j;have Q:=jj j;unfold aiq at f;rw[show((G,r.val):KN).2.pl k (s -1)=some (i,p) from j0] at f;simp only[Option.bind_some] at f;rw[<-SZ.out,show r.val.view=0 from VW.out] at f;have r0:=jj f;clear t j f j0 hp C t0 u0;go_wp2_with fail;refine(Ya HW e0 k (s -1) i p q0 gi o0 s SZ).mono ?_;rintro e w1 ⟨a,m,c,rfl,F0,v0⟩;have B1:=jj v0;have RQ:=jj F0;clear v0 F0;go_wp2_with fail;refine(Yb (HW.below B1) (aB e0 B1.size) k (s -1) i p q0 gi o0 s SZ).mono ?_;rintro e w2 ⟨c0,c1,c2,ba,bn,bc,va,vn,vc,rfl,w0⟩;have B2:=jj w0;clear w0;go_upto_region 7 with fail;generalize hw3:w2.alloc _=w3;replace hw3:=hw3.symm;have B3:=GN B2 hw3;have BW:=F9 (Be wr w3) (B1.trans (B3.mono B1.size));clear hw3;by_cases F:p.has=true/\p.done.isSome=false
   ·rw[F.1,F.2]
    have f:=r0.out;rw[if_pos F] at f;simp only[aA] at f;obtain⟨u,hu,z,⟨l,i0,C0⟩,⟨⟨Z,v5⟩,z5⟩,G0,o⟩:=f;obtain⟨D0,W0⟩:=mI hu;have R1:=jj (RQ.out F.1);have ML:=F9 (m=p.b.length) (R1.row.len).symm;have R3:=jj (R1.below B3);have K0:=jj G0;have M0:=jj o;have NE:=F9 (decide (k=E.id)=false) (decide_eq_false D0);have H3:=jj (HW.below BW);obtain⟨gl,B0⟩: ∃gl,r.nG[k]?=some (gl,l):=by simp only[bK.val,aS,aK] at i0;obtain⟨⟨g,l'⟩,M,rfl⟩:=i0;exact⟨g,M⟩
    have GL:=jj B0;have LZ:=F9 (l[s]?=some z) (by rw[show s=s -1+1 by omega];exact C0);have S0:J w3 gx 29 (U 0):=by rw[<-VW.out];exact H3.blk.cell 29
    clear hu G0 o i0 B0 C0 D0;go_upto_region 9 with fail;generalize hw4:w3.alloc _=w4;generalize hgm:w3.heap.size=gm;replace hw4:=hw4.symm;replace hgm:=hgm.symm;have B4:=tQ hw4;have X4:=F9 (sV (nu E.f E.n E.id gx b r G) w4 gm 82 #[U 3,U 0,U 0,U k,U s,U 0,.slice a m c,(),(),()]) (sV.new H3 (by rw[hw4,hgm];exact aZ.new _ _ _) aR);have GM:=F9 (w3.heap.size<=gm) aR;clear hw4 hgm S0;refine rP (fun _=>True) 21 (.take 0 (.take 1 (.one 2 (tk 3 18 .done)))) trivial ?_;intro B;obtain⟨u4,V⟩:=ex w4.drew;have Bu:=F9 (Be w3 u4) (by rw[V];exact B4.drew);have Xu:=F9 (sV (nu E.f E.n E.id gx b r G) u4 gm 82 #[U 3,U 0,U 0,U k,U s,U 0,.slice a m c,(),(),()]) (by rw[V];exact X4.drew);rw[<-V];clear V
    repeat refine' tT ?_
    refine pO fun KT bq=> ?_;go_simp;refine(Uo x u4 E.f E.n E.id gx b r G (H3.below Bu) M h4 VW k U0 _ rfl).mono ?_;rintro e w5 ⟨rfl,S⟩;rw[NE.out];have B5:=jj (BW.trans ((Bu.trans (S.mono Bu.size)).mono BW.size));have X5:=jj (Xu.below S);have R5:=jj ((R3.below Bu).below S);clear S;refine oH bq B ?_;clear B;have B:True:=trivial
    repeat(first|refine' tT ?_|refine' tS ?_)
    refine aU ?_;clear B;have m0:=X5.blk.at_ 0;have f0:=X5.blk.frozen 0;go_upto_region 12 with fail;obtain⟨w6,W⟩:=ex (w5.setCell ⟨gm,0,none⟩ (U 4));rw[<-W];have H5:=jj (HW.below B5);have O6:=F9 (Only [gm] w5 w6) (by rw[W];exact(Only.refl [gm] _).setCell (p:=⟨gm,0,none⟩) (.inl bJ) _);have B6:=F9 (Be wr w6) (O6.below B5 B5.size (by have:=GM.out;have:=BW.size;simp only[au,forall_eq];omega));have X6:=F9 (sV (nu E.f E.n E.id gx b r G) w6 gm 82 #[U 4,U 0,U 0,U k,U s,U 0,.slice a m c,(),(),()]) ⟨by rw[W];exact X5.blk.fU 0 _,X5.far⟩;have R6:=F9 (sK x w6 a m c p.b) (R5.only O6 (mR (nV.of X5.blk aV)));have H6:=jj (HW.below B6);clear W m0 f0;have a0:=F9 (Y 170 #[gx,.agg #[U 4,U 0,U 0,U k,U s,U 0,.slice a m c,(),(),()]] w6 fun e w'=>e= .returned (.tuple #[U z5,true])/\ ∃A' c' L,mP x w6 w' E.f E.n E.id gx b r G (r.outs A' c' L) Z/\(r.outs A' c' L).val=v5) (GV x w6 E gx b r G H6 (aB e0 B6.size) M h4 p0 ⟨4,0,0,k,s,0,a,m,c,p.b,none,0,0,[],none,0,0,[],none,0⟩ ⟨R6,Ez.nil _ _,Gz.nil _ _⟩ Z v5 z5 K0);obtain⟨y0,y1,y2,y3,y4,y5,y6,y7,y8,y9⟩:=X6.blk.zA;go_wp2_with fail;refine a0.mono ?_;rintro e w7 ⟨rfl,A7,c7,L7,n,v⟩;obtain⟨D,T⟩:=ex (r.outs A7 c7 L7);rw[<-T] at n v;have S7:=jj ((SW.below B6).trans n);have X7:=jj (X6.step n);have R7:=jj (R6.step H6 n);obtain⟨V7,H7,D7⟩:=j3 v n.sys T;have C7:=F9 (D.nG[k]?=some (gl,l)) (by rw[T];exact GL.out);clear n v T y0 y1 y2 y3 y4 y5 y6 y7 y8 y9;have Q7:=F9 (J w7.drew gx 27 (O D.xK D.nG.length D.zR)/\J w7.drew D.xK k (O gl l.length l.length)/\J w7.drew gl s (U z)/\J w7.drew gx 29 (U 0)) ⟨H7.blk.drew.cell 27,(NH H7 C7).1,by
     have e:=(H7.nG.KI _ (ak C7)).cell s;have M:=(ah.1 LZ);rw[Du l s M.1,bE,LZ.out] at e;exact e,by have e:=H7.blk.drew.at_ 29;rw[show D.view=0 by rw[D7.out];exact VW.out] at e;exact e⟩
    have kc:(k:Int)<D.nG.length:=by have:=(ah.1 C7).1;omega
    have sl:(s:Int)<l.length:=by have:=(ah.1 LZ).1;omega
    have s0:(0:Int)<=s:=aR;go_upto_region 13 with fail;refine rD (fun u=>J u gx 27 (O D.xK D.nG.length D.zR)/\J u D.xK k (O gl l.length l.length)/\J u gl s (U z)/\J u gx 29 (U 0)) 16 (tk 0 16 .done) Q7 fun u7 P B=> ?_
    repeat refine' tT ?_
    refine aU ?_;clear B;have S8:=jj (S7.below P);have X8:=jj (X7.below P);have R8:=jj (R7.below P);have H8:=jj (H7.below P);have o:=M0.out;by_cases l0:z=1
    ·subst l0
     rw[if_pos (show(1:Int)=0+1 by decide)] at o;simp only[aK] at o;obtain⟨⟨⟨K9,v9⟩,z9⟩,H0,x0⟩:=o;simp only[aM] at x0;obtain⟨rfl,rfl⟩:=x0;have N0:=jj H0;have m0:=X8.blk.at_ 0;have f0:=X8.blk.frozen 0;clear H0 kc sl s0;go_upto_region 15 with fail;obtain⟨w9,X⟩:=ex (u7.setCell ⟨gm,0,none⟩ (U 5));rw[<-X];have O9:=F9 (Only [gm] u7 w9) (by rw[X];exact(Only.refl [gm] _).setCell (p:=⟨gm,0,none⟩) (.inl bJ) _);have X9:=F9 (sV (nu E.f E.n E.id gx b D Z) w9 gm 82 #[U 5,U 0,U 0,U k,U s,U 0,.slice a m c,(),(),()]) ⟨by rw[X];exact X8.blk.fU 0 _,X8.far⟩;have sf: ∀g∈ [gm],nV x u7 g:=by simpa using nV.of X8.blk aV
     have R9:=F9 (sK x w9 a m c p.b) (R8.only O9 sf);have H9:=F9 (qE x w9 E.f E.n E.id gx b D Z) (H8.only O9 sf (fun g hg cs hc=>by simp only[au] at hg;subst hg;exact absurd (sN hc X8.blk) aV) (fun g hg hm=>by simp only[au] at hm;subst hm;exact X8.far hg));have S9:=F9 (mP x w w9 E.f E.n E.id gx b d K D Z) ⟨H9,S8.only.then O9 (fun g hg=>by simp only[au] at hg;subst hg;exact .inr (by have:=GM.out;have:=BW.size;have:=SW.size;omega)),S8.new⟩;clear X m0 f0 sf;have b0:=F9 (Y 170 #[gx,.agg #[U 5,U 0,U 0,U k,U s,U 0,.slice a m c,(),(),()]] w9 fun e w'=>e= .returned (.tuple #[U z9,true])/\ ∃A' c' L,mP x w9 w' E.f E.n E.id gx b D Z (D.outs A' c' L) K9/\(D.outs A' c' L).val=v9) (GV x w9 E gx b D Z H9 (aB HX S9.size) M h4 p0 ⟨5,0,0,k,s,0,a,m,c,p.b,none,0,0,[],none,0,0,[],none,0⟩ ⟨R9,Ez.nil _ _,Gz.nil _ _⟩ K9 v9 z9 (by rw[V7.out];exact N0.out));obtain⟨y0,y1,y2,y3,y4,y5,y6,y7,y8,y9⟩:=X9.blk.zA;go_wp2_with fail;refine b0.mono ?_;rintro e Z0 ⟨rfl,d0,h0,g0,N,y⟩;have Q0:=jj (S9.trans N);have n0:=F9 (D.outs d0 h0 g0=d.outs d0 h0 g0) (by rw[D7.out,DW.out]);have R0:=jj y;clear N y y0 y1 y2 y3 y4 y5 y6 y7 y8 y9;go_wp2_with fail;go_roundw
     case rel=>exact⟨s+1,d0,h0,g0,K9,aR,aR,by go_num,by rw[<-n0.out];exact Q0.out,by rw[<-n0.out,R0.out];exact Q.out⟩
     simp[intOf];omega
    rw[if_neg (show ¬z=0+1 from l0)] at o;simp only[aD,aM] at o;obtain⟨rfl,rfl⟩:=o;have E7:=F9 (D=d.outs A7 c7 L7) (by rw[D7.out,DW.out]);have ew:(z==IntKind.i64.wrap 1)=false:=by rw[show IntKind.i64.wrap 1=1 from aH _ aV];simpa using l0
    clear kc sl s0;go_wp2_with fail;go_roundw
    case rel=>exact⟨s+1,A7,c7,L7,Z,aR,aR,by go_num,by rw[<-E7.out];exact S8.out,by rw[<-E7.out,V7.out];exact Q.out⟩
    simp[intOf];omega
   have f:=r0.out;rw[if_neg F] at f;injection f with f;injection f with e1 e2;subst e1;subst e2;have S3:=jj (SW.below BW);have key:(!p.has||p.done.isSome)=true:=by
    cases M:p.has
    ·rfl
    cases h2:p.done.isSome
    ·exact absurd ⟨M,h2⟩ F
    rfl
   obtain⟨tb,Y0⟩:=ex ((!p.has||p.done.isSome));cases M:p.has
   ·go_wp2_with fail
    go_roundw
    case rel=>exact⟨s+1,A0,R,L0,G,aR,aR,by go_num,by rw[<-DW.out];exact S3.out,by rw[<-DW.out];exact Q.out⟩
    simp[intOf];omega
   rw[M] at key;have h2:p.done.isSome=true:=by simpa using key
   rw[h2];go_wp2_with fail;go_roundw
   case rel=>exact⟨s+1,A0,R,L0,G,aR,aR,by go_num,by rw[<-DW.out];exact S3.out,by rw[<-DW.out];exact Q.out⟩
   simp[intOf];omega
  obtain rfl:s=17:=aR;have s1: ¬((17:Nat):Int)<=16:=aR;rw[fJ,lI] at j;injection j with j;injection j with e1 e2;obtain⟨O0,E1,E2⟩:=j3 t e1 e2;clear t e1 e2 t0 u0;go_wp2_with fail;go_end0
  exact⟨by trivial,A0,R,L0,by rw[<-E1.out];exact O0.out,E2⟩
def zy:List Value:= [U 0,U 0,U 0,U 0,U 0,U 0,U 0,(),(),(),()]
theorem Xq(m i j:Nat)(h:i<m)(a:j<11):(List.flatten (List.replicate m zy))[i*11+j]?=zy[j]?:=by
 have key: ∀(m i:Nat),i<m->(List.flatten (List.replicate m zy))[i*11+j]?=zy[j]?:=by
  intro m
  induction m with
  |zero=>intro i h;omega
  |succ m ih=>
   intro i h;rw[List.replicate_succ,List.flatten_cons];have H:zy.length=11:=rfl
   cases i with
   |zero=>rw[bC (by rw[H];omega)];simp
   |succ i=>
    rw[bN (by rw[H];omega),H,show(i+1)*11+j -11=i*11+j by omega];exact ih i aR
 exact key m i h
theorem Xr(m:Nat):(List.flatten (List.replicate m zy)).length=m*11:=by
 induction m with
 |zero=>rfl
 |succ m ih=>rw[List.replicate_succ,List.flatten_cons,av,ih,show zy.length=11 from rfl];omega
structure Ku(w w':World)(a:OA)(m c:Nat)(l:List Rq):Prop where
 own:w'.ownsRow w.heap.size 49 6 (acX a m c) m (l.flatMap rA)
 len:l.length=m
theorem Ku.below{l:List Rq}(h:Ku w w1 a m c l)(H:Be w1 w2):Ku w w2 a m c l:=⟨own_below h.own H,h.len⟩
theorem Ku.step{l:List Rq}{L L':List ni}(h:Ku w w1 a m c l)(hx:x<w.heap.size)(H:Sys x w1 L)(st:Step x w1 w2 L L'):Ku w w2 a m c l:=⟨abx h.own hx aV H st,h.len⟩
theorem Ku.row{l:List Rq}(h:Ku w w1 a m c l):qc w1 a m c l:=⟨fH h.own,h.len,qB h.own,uO h.own⟩
theorem aeH(now:Int)(h:0<=now)(c:now<=1000000)(dn:Nat)(a:0<dn)(H:dn<=16):IntKind.i64.wrap (1+(IntKind.i64.wrap (now.tdiv 2)).tmod dn)=((now.toNat/2%dn:Nat):Int)+1:=by obtain⟨m,rfl⟩:=bB h;have e:((m:Int)).tdiv 2=((m/2:Nat):Int):=Int.ofNat_tdiv m 2;have b:m/2%dn<dn:=ji _ a;have w:IntKind.i64.wrap ((m/2:Nat):Int)=((m/2:Nat):Int):=aH _ aR;rw[e,w];have E:((m/2:Nat):Int).tmod (dn:Int)=((m/2%dn:Nat):Int):=Int.ofNat_tmod (m/2) dn;rw[E,aH _ aR,Int.toNat_natCast];omega
theorem aa9(x:Nat)(w:World)(E:Who)(gx b:Nat)(d:bK)(K:KS)(h:qE x w E.f E.n E.id gx b d K)(hx:x<w.heap.size)(h1:1<=E.f)(h4:E.f<=4)(hn:(E.n:Int)=3*E.f+1)(G1:E.id<E.n)(K':KS)(v':ql)(hv:EB E (K,d.val)=some (K',v')):
  Y 125 #[gx] w fun e w'=>e= .returned (.tuple #[])/\Kt x w w' E gx b d K K' v':=by
 unfold EB at hv;simp only[aA] at hv;obtain⟨u,hu,⟨K0,v0⟩,M1,⟨K1,v1⟩,l,r⟩:=hv;have af:=mI hu;obtain⟨n0,I0⟩:=ex d.is.length;have Q0:=jj I0;have h0:d.val.is.length=n0:=by rw[I0];simp[bK.val]
 have n5:n0<=5:=by have:=af.n;rw[h0] at this;omega
 obtain⟨AF,H,HX,C0,Z1⟩:=j5 af h hx hn G1;have c2:=F9 (wX E n0 0 (K0,v0)=some (K1,v1)) (by rw[<-h0];exact l);have f2:=F9 (iW E n0 0 (K,d.val)=some (K0,v0)) (by rw[<-h0];exact M1);have j2:=jj r;have w0:d.view=0:=af.v;have Q1:d.vk≠0:=af.vk;have D0:=jj w0;have l2:=jj Q1;have l1:=F9 (d.vZ=List.flatten (List.replicate n0 zy)) (by have:=af.vZ;rw[h0] at this;exact this);have E0:J w gx 18 (O d.gr n0 d.rX):=by rw[I0];exact h.blk.cell 18
 have M2:(n0:Int)=E.f+1:=by have:=af.n;rw[h0] at this;exact this
 clear h hx hn G1 hu M1 l r af w0 Q1 h0 I0;go_enter func125,ntmps125;go_wp2_with fail;go_loopw [18] (fun q wr=> ∃(i:Nat) (A:OA) (c:Nat) (L:List wN) (S:KS),i<=n0/\q= U i/\mP x w wr E.f E.n E.id gx b d K (d.outs A c L) S/\iW E (n0 -i) i (S,(d.outs A c L).val)=some (K0,v0)) (fun q _=>n0 -(intOf q).toNat)
 case atStart=>exact⟨0,d.oa,d.oc,d.ol,K,aR,by first|rfl|simp,Step.refl H,f2⟩
 case round=>
  obtain⟨i,A0,c0,L0,S,hi,rfl,y,t⟩:=hrel;have SW:=jj y;have N:=jj y.sys;have g0:=F9 (x<wr.heap.size) (aB HX y.size);have m1:=jj t;clear y t E0;by_cases I1:i<n0
  ·have i1:(i:Int)<n0:=aR
   have e2:IntKind.i64.wrap ((i:Int)+1)=(i:Int)+1:=aH _ aR;obtain⟨iv,M⟩: ∃iv,(d.outs A0 c0 L0).val.is[i]?=some iv:=⟨_,aj (by have:=Q0.out;simp[bK.val];omega)⟩;have ON:=F9 (iv.on=true/\iv.ps.length=16) (AF.on iv (ak M));have Z:=jj M;have t:=m1.out;rw[show n0 -i=(n0 -(i+1))+1 by omega,iW] at t;simp only[aA] at t;obtain⟨⟨KX,vX⟩,O1,t⟩:=t;have i2:=jj O1;have l0:=jj t;clear M O1 t;go_wp2_with fail;refine(abp x wr E gx b (d.outs A0 c0 L0) S N g0 h1 h4 C0 D0 i aR iv Z ON.1 ON.2 KX vX i2).mono ?_;rintro e w2 ⟨rfl,A1,c1,L1,u0,d0⟩;have S2:=jj (SW.trans u0);have V2:=jj d0;clear u0 d0;go_wp2_with fail;go_roundw
   case rel=>exact⟨i+1,A1,c1,L1,KX,aR,by go_num,S2,by rw[<-V2.out] at l0;exact l0.out⟩
   simp[intOf];omega
  obtain rfl:i=n0:=aR;have i1: ¬(i:Int)<i:=aR;have t:=m1.out;rw[fJ,iW] at t;simp only[aD,aM] at t;obtain⟨rfl,rfl⟩:=t;go_upto_region 5 with fail;have p2:=F9 (J wr.drew gx 30 (U d.vk)/\J wr.drew gx 29 (U 0)) ⟨N.blk.drew.cell 30,by rw[<-D0.out];exact N.blk.drew.cell 29⟩;refine rD (fun u=>J u gx 30 (U d.vk)/\J u gx 29 (U 0)) 9 (tk 0 9 .done) p2 fun w1 B1 f=> ?_;have H2:=l2.out
  repeat refine' tT ?_
  refine aU ?_;clear f;have S1:=jj (SW.below B1);have H1:=jj S1.sys;have J2:=F9 (x<w1.heap.size) (aB HX S1.size);go_wp2_with fail;refine(ahs x w1 E.f E.n E.id gx b (d.outs A0 c0 L0) S H1 (by have:=Q0.out;show d.is.length<=16;omega) (fun iv M=>(AF.on iv M).1)).mono ?_;rintro e w2 ⟨rfl,rfl⟩;have bl:d.vZ.length/11=i:=by rw[l1.out,Xr];omega
  have D2:J w1 gx 25 (O d.gb i i):=by rw[<-bl];exact H1.blk.cell 25
  clear H2;go_wp2_with fail;go_loopw [71] (fun q wr=> ∃j:Nat,j<=i/\q= U j/\Be w1 wr) (fun q _=>i -(intOf q).toNat)
  case atStart=>exact⟨0,aR,by first|rfl|simp,aC _ _⟩
  case round=>
   obtain⟨j,hj,rfl,hb⟩:=hrel;have M0:=jj hb;have T0:=jj (H1.below hb);clear hb D2;by_cases G2:j<i
   ·have j1:(j:Int)<i:=aR
    have j0:(0:Int)<=j:=aR;have e2:IntKind.i64.wrap ((j:Int)+1)=(j:Int)+1:=aH _ aR;have bc: ∀q,q<11->wr.cell? ⟨d.gb,j*11+q,none⟩=zy[q]?:=fun q hq=>by rw[T0.begun.cell (j*11+q),cZ,l1.out];exact Xq i j q G2 hq
    have a0:J wr d.gb (j*11) (U 0):=bc 0 aR;have a1:J wr d.gb (j*11+1) (U 0):=bc 1 aR;have a2:J wr d.gb (j*11+2) (U 0):=bc 2 aR;have a3:J wr d.gb (j*11+3) (U 0):=bc 3 aR;have a4:J wr d.gb (j*11+4) (U 0):=bc 4 aR;have a5:J wr d.gb (j*11+5) (U 0):=bc 5 aR;have a6:J wr d.gb (j*11+6) (U 0):=bc 6 aR;have a7:J wr d.gb (j*11+7) ():=bc 7 aR;have a8:J wr d.gb (j*11+8) ():=bc 8 aR;have a9:J wr d.gb (j*11+9) ():=bc 9 aR;have zA:J wr d.gb (j*11+10) ():=bc 10 aR;clear bc;go_upto_region 13 with fail;generalize hv1:wr.alloc _=v1;generalize hg1:wr.heap.size=g1;replace hv1:=hv1.symm;replace hg1:=hg1.symm;obtain⟨B2,X1⟩:=nw hv1 hg1;clear hv1 hg1 a0 a1 a2 a3 a4 a5 a6 a7 a8 a9 zA;have k2:=jj (T0.below B2);have q2:=F9 (J v1.drew g1 0 (U 0)/\J v1.drew gx 29 (U 0)) ⟨X1.drew.cell 0,by rw[<-D0.out];exact k2.blk.drew.cell 29⟩;refine rP (fun u=>J u g1 0 (U 0)/\J u gx 29 (U 0)) 12 (tk 0 12 .done) q2 ?_;intro f;obtain⟨v2,d1⟩:=ex v1.drew;have B3:=F9 (Be wr v2) (by rw[d1];exact B2.drew);rw[<-d1] at f|-;clear d1
    repeat refine' tT ?_
    refine aU ?_;clear f;go_wp2_with fail;go_roundw
    case rel=>exact⟨j+1,aR,by go_num,M0.trans (B3.mono M0.size)⟩
    simp[intOf];omega
   obtain rfl:j=i:=aR;have j1: ¬(j:Int)<j:=aR;have E0:J wr gx 18 (O d.gr j d.rX):=by rw[Q0.out];exact T0.blk.cell 18
   have S2:=jj (S1.below M0);obtain⟨w2,R1⟩:=ex wr;rw[<-R1] at S2 E0|-;clear R1;go_wp2_with fail;go_loopw [97] (fun q wr=> ∃(i:Nat) (D:bK) (S:KS),i<=j/\q= U i/\mP x w wr E.f E.n E.id gx b d K D S/\Fix d D/\D.view=0/\D.T=d.T/\D.now=d.now/\wX E (j -i) i (S,D.val)=some (K1,v1)) (fun q _=>j -(intOf q).toNat)
   case atStart=>exact⟨0,d.outs A0 c0 L0,S,aR,by first|rfl|simp,S2,Fix.Bo _ _ _ _,D0,rfl,rfl,c2⟩
   case round=>
    obtain⟨i,D,S,hi,rfl,y,r0,w0,hT,t0,l⟩:=hrel;obtain⟨SW,N,FX,s1,TW,NW⟩:=j6 y y.sys r0 w0 hT t0;have PF:=jj l;clear y r0 w0 hT t0 l E0;by_cases L2:i<j
    ·have i1:(i:Int)<j:=aR
     have i0:(0:Int)<=i:=aR;have e2:IntKind.i64.wrap ((i:Int)+1)=(i:Int)+1:=aH _ aR;have l:=PF.out;rw[show j -i=(j -(i+1))+1 by omega,wX] at l;simp only[aA] at l;obtain⟨iv,M,⟨KX,vX⟩,C,l⟩:=l;obtain⟨gi,I,hI,t1⟩:=qd M;have F1:D.is[i]?.map Prod.fst=some gi:=by rw[hI];rfl
     have E2:J wr d.gr i gi:=by rw[<-FX.gr];exact N.ptr hI
     obtain⟨Z,HG,b2,o1⟩:=j4 M F1 C l;have q0:oh iv.ps<=16:=by have h1:I.ps.length=16:=(N.inst hI).len;have h2:=Db iv.ps;rw[<-t1] at h2|-;simp only[tJ.val,aT] at h2|-;omega
     clear M F1 C l hI t1;go_wp2_with fail;refine(Ov N i iv Z gi HG).mono ?_;rintro e w3 ⟨rfl,rfl⟩;have C:=b2.out;clear E2;by_cases p0:oh iv.ps=0
     ·rw[if_pos p0] at C
      injection C with C;injection C with hf1 hf2;rw[p0];have r2:=jj hf1;have A2:=jj hf2;clear hf1 hf2 p0;go_wp2_with fail;go_roundw
      case rel=>exact⟨i+1,D,S,aR,by go_num,SW,FX,s1,TW,NW,by rw[A2.out,r2.out];exact o1.out⟩
      simp[intOf];omega
     have X0:(0:Int)<(oh iv.ps:Int):=aR;have b0:0<oh iv.ps:=aR;rw[if_neg p0] at C;simp only[aA,aK] at C;obtain⟨c,hc,⟨⟨KY,vY⟩,zY⟩,N1,U1⟩:=C;obtain⟨HC,g2,o2⟩:=j3 hc N1 U1;clear hc N1 U1 p0;obtain⟨dn,Y0⟩:=ex (oh iv.ps);have W1:=jj Y0;rw[<-Y0] at X0 b0 q0|-;clear Y0;have K2: ¬dn=0:=aR;go_upto_region 21 with fail;have ZE:=F9 (IntKind.i64.wrap (1+(IntKind.i64.wrap (d.now.tdiv 2)).tmod dn)=((d.now.toNat/2%dn:Nat):Int)+1) (aeH d.now AF.now.1 AF.now.2 dn b0 q0);have O0:=F9 (iv.ps[d.now.toNat/2%dn]?.bind uo.done=some c) (by rw[W1.out,<-NW.out];exact aA.2 HC);have g0:=F9 (x<wr.heap.size) (aB HX SW.size)
     go_cut [9,10] from 105 to 123 (fun q9 I2 wx=>I2= .bool true/\ ∃(cd:CD) (G:Nat),q9= .pointer (some ⟨G,0,none⟩)/\pz cd=c/\aZ wx G 228 #[U cd.view,U cd.inst,U cd.seq,.slice cd.ba cd.bn cd.bc,.slice cd.va cd.vn cd.vc]/\wr.heap.size<=G/\CF x wx cd/\Be wr wx)
     case first=>
      have KS:=F9 (∀u,Be wr u->J u gx 17 D.gt/\J u gx 13 (U 2)) fun u o=>⟨(N.below o).blk.cell 17,(N.below o).blk.cell 13⟩;refine rD (fun u=>J u gx 17 D.gt/\J u gx 13 (U 2)) 22 (tk 0 5 (tk 6 5 (.take 12 (.two 5 (.take 11 (.take 13 (.take 14 (.two 15 (tk 16 3 (.one 19 (.one 20 (.take 21 .done)))) 19 (.one 15 (tk 16 3 (.one 20 (.take 21 .done)))))))) 19 (.one 5 (.take 11 (.take 13 (.take 14 (.one 15 (tk 16 3 (.one 20 (.take 21 .done)))))))))))) (KS.out _ (aC _ _).drew) fun v2 Bd f=> ?_
      repeat refine' tT ?_
      refine qN ?_ ?_
      ·refine pO fun KT bq=> ?_
       go_simp;refine(vF (N.below Bd)).mono ?_;rintro e v3 ⟨rfl,rfl⟩;rw[NW.out];refine oH bq f ?_
       repeat refine' tT ?_
       refine qN ?_ ?_
       ·refine pO fun KT bq=> ?_
        go_simp;rw[ZE.out];refine(tX (N.below Bd) (aB g0 Bd.size) i (d.now.toNat/2%dn) iv Z c O0 gi HG _ rfl).mono ?_;rintro e v4 ⟨cd,rfl,B,v,-,-,z⟩;have F:=jj ((Bd).trans (z.mono (Bd).size));obtain⟨HB,N0,CE⟩:=j3 z v B;clear v B z;have S4:=KS.out _ F;rw[show(nS cd).toArray=#[U cd.view,U cd.inst,U cd.seq,.slice cd.ba cd.bn cd.bc,.slice cd.va cd.vn cd.vc] from rfl];refine oH bq S4 ?_;clear f;have f:=S4
        repeat refine' tT ?_
        refine pO fun KT bq=> ?_;go_simp;generalize hva:v4.alloc _=v5;generalize qP:v4.heap.size=G;replace hva:=hva.symm;replace qP:=qP.symm;have X:=xNew hva qP;have GQ:=F9 (wr.heap.size<=G) (by rw[qP];exact(F).size);have Q:=F9 (Be wr v5) (by rw[hva];exact(F).alloc (F).size _);have S0:=jj hva;clear hva qP;have S5:=KS.out _ Q;refine oH bq S5 ?_;clear f;have f:=S5;have R:=F9 (CF x v5 cd) (N0.below (show Be v4 v5 by rw[S0.out];exact nC))
        repeat refine' tT ?_
        refine pO fun KT bq=> ?_;have y0:=X.at_ 0;have z0:=X.frozen 0;have y1:=X.at_ 1;have z1:=X.frozen 1;have y2:=X.at_ 2;have z2:=X.frozen 2;have y3:=X.at_ 3;have z3:=X.frozen 3;have y4:=X.at_ 4;have z4:=X.frozen 4;go_simp;obtain⟨w9,p⟩:=ex (setW v5 G 0 [U cd.view,U cd.inst,U cd.seq,.slice cd.ba cd.bn cd.bc,.slice cd.va cd.vn cd.vc]);have K9:=jj (uL p X);have O9:=jj (vM p);simp only[setW,aO,Nat.reduceAdd] at p;rw[<-p];clear p y0 z0 y1 z1 y2 z2 y3 z3 y4 z4;have B9:=F9 (Be wr w9) (O9.below Q Q.size (mR GQ.out));have k0:=F9 (CF x w9 cd) (R.out.Aj O9 X);have S9:=KS.out _ B9;refine oH bq S9 ?_;clear f;have f:=S9
        repeat refine' tT ?_
        refine aU ?_;go_wp2_with fail;go_meet;exact⟨rfl,cd,G,rfl,CE,K9,GQ,k0,B9⟩
       refine pO fun KT bq=> ?_;go_simp;generalize hva:v2.alloc _=v4;generalize qP:v2.heap.size=G;replace hva:=hva.symm;replace qP:=qP.symm;have X4:=xNew hva qP;have GQ:=F9 (wr.heap.size<=G) (by rw[qP];exact(Bd).size);have F:=F9 (Be wr v4) (by rw[hva];exact(Bd).alloc (Bd).size _);have S0:=jj hva;clear hva qP;have S5:=KS.out _ F;refine oH bq S5 ?_;clear f;have f:=S5
       repeat refine' tT ?_
       refine pO fun KT bq=> ?_;go_simp;rw[ZE.out];refine(tX (N.below F) (aB g0 F.size) i (d.now.toNat/2%dn) iv Z c O0 gi HG _ rfl).mono ?_;rintro e v5 ⟨cd,rfl,B,v,-,-,z⟩;have Q:=jj ((F).trans (z.mono (F).size));obtain⟨HB,e0,CE⟩:=j3 z v B;clear v B z;have S4:=KS.out _ Q;rw[show(nS cd).toArray=#[U cd.view,U cd.inst,U cd.seq,.slice cd.ba cd.bn cd.bc,.slice cd.va cd.vn cd.vc] from rfl];refine oH bq S4 ?_;clear f;have f:=S4;have X:=jj (X4.below HB X4.lt);have R:=e0
       repeat refine' tT ?_
       refine pO fun KT bq=> ?_;have y0:=X.at_ 0;have z0:=X.frozen 0;have y1:=X.at_ 1;have z1:=X.frozen 1;have y2:=X.at_ 2;have z2:=X.frozen 2;have y3:=X.at_ 3;have z3:=X.frozen 3;have y4:=X.at_ 4;have z4:=X.frozen 4;go_simp;obtain⟨w9,p⟩:=ex (setW v5 G 0 [U cd.view,U cd.inst,U cd.seq,.slice cd.ba cd.bn cd.bc,.slice cd.va cd.vn cd.vc]);have K9:=jj (uL p X);have O9:=jj (vM p);simp only[setW,aO,Nat.reduceAdd] at p;rw[<-p];clear p y0 z0 y1 z1 y2 z2 y3 z3 y4 z4;have B9:=F9 (Be wr w9) (O9.below Q Q.size (mR GQ.out));have k0:=F9 (CF x w9 cd) (R.out.Aj O9 X);have S9:=KS.out _ B9;refine oH bq S9 ?_;clear f;have f:=S9
       repeat refine' tT ?_
       refine aU ?_;go_wp2_with fail;go_meet;exact⟨rfl,cd,G,rfl,CE,K9,GQ,k0,B9⟩
      refine pO fun KT bq=> ?_;go_simp;generalize hva:v2.alloc _=v4;generalize qP:v2.heap.size=G;replace hva:=hva.symm;replace qP:=qP.symm;have X4:=xNew hva qP;have GQ:=F9 (wr.heap.size<=G) (by rw[qP];exact(Bd).size);have F:=F9 (Be wr v4) (by rw[hva];exact(Bd).alloc (Bd).size _);have S0:=jj hva;clear hva qP;have S5:=KS.out _ F;refine oH bq S5 ?_;clear f;have f:=S5
      repeat refine' tT ?_
      refine pO fun KT bq=> ?_;go_simp;refine(vF (N.below F)).mono ?_;rintro e v3 ⟨rfl,rfl⟩;rw[NW.out];refine oH bq f ?_
      repeat refine' tT ?_
      refine pO fun KT bq=> ?_;go_simp;rw[ZE.out];refine(tX (N.below F) (aB g0 F.size) i (d.now.toNat/2%dn) iv Z c O0 gi HG _ rfl).mono ?_;rintro e v5 ⟨cd,rfl,B,v,-,-,z⟩;have Q:=jj ((F).trans (z.mono (F).size));obtain⟨HB,e0,CE⟩:=j3 z v B;clear v B z;have S4:=KS.out _ Q;rw[show(nS cd).toArray=#[U cd.view,U cd.inst,U cd.seq,.slice cd.ba cd.bn cd.bc,.slice cd.va cd.vn cd.vc] from rfl];refine oH bq S4 ?_;clear f;have f:=S4;have X:=jj (X4.below HB X4.lt);have R:=e0
      repeat refine' tT ?_
      refine pO fun KT bq=> ?_;have y0:=X.at_ 0;have z0:=X.frozen 0;have y1:=X.at_ 1;have z1:=X.frozen 1;have y2:=X.at_ 2;have z2:=X.frozen 2;have y3:=X.at_ 3;have z3:=X.frozen 3;have y4:=X.at_ 4;have z4:=X.frozen 4;go_simp;obtain⟨w9,p⟩:=ex (setW v5 G 0 [U cd.view,U cd.inst,U cd.seq,.slice cd.ba cd.bn cd.bc,.slice cd.va cd.vn cd.vc]);have K9:=jj (uL p X);have O9:=jj (vM p);simp only[setW,aO,Nat.reduceAdd] at p;rw[<-p];clear p y0 z0 y1 z1 y2 z2 y3 z3 y4 z4;have B9:=F9 (Be wr w9) (O9.below Q Q.size (mR GQ.out));have k0:=F9 (CF x w9 cd) (R.out.Aj O9 X);have S9:=KS.out _ B9;refine oH bq S9 ?_;clear f;have f:=S9
      repeat refine' tT ?_
      refine aU ?_;go_wp2_with fail;go_meet;exact⟨rfl,cd,G,rfl,CE,K9,GQ,k0,B9⟩
     case rest=>
      obtain⟨rfl,cd,G,rfl,B,qP,F2,v,hb⟩:=hcut;obtain⟨w4,T1⟩:=ex wc;rw[<-T1] at qP v hb|-;clear T1;obtain⟨F,X4,V1,CE⟩:=j4 hb qP v B;have H4:=jj (N.below hb);have S4:=jj (SW.below hb);obtain⟨y0,y1,y2,y3,y4⟩:=X4.a5;clear qP v hb B F2;obtain⟨w5,f1⟩:=ex (w4.alloc (.cells #[U cd.view,U cd.inst,U cd.seq,.slice cd.ba cd.bn cd.bc,.slice cd.va cd.vn cd.vc] 228));obtain⟨gs,H0⟩:=ex w4.heap.size;obtain⟨Q,X⟩:=nw f1 H0;have GS:=F9 (x<gs) (by rw[H0];exact aB g0 F.size);have H5:=jj (H4.below Q);have S5:=jj (S4.out.below Q);have R:=jj (V1.below Q);have s2:=F9 (MF x w5 ⟨9,0,0,0,0,0,none,0,0,[],none,0,0,[],some ⟨gs,0,none⟩,1,1,[cd],none,0⟩) ⟨sK.nil _ _,Ez.nil _ _,⟨gD.nR (n:=1) (s:=5) X rfl,rfl,aF _,by show 1<=maxLen;unfold maxLen;omega,fun q hq=>by
       simp only[au] at hq;subst hq;exact R.out,fun q hq=>by simp only[Option.map_some,aD] at hq;subst hq;exact⟨by have:=GS.out;omega,_,X⟩⟩⟩
      have U0:=F9 (Y 170 #[gx,.agg #[U 9,U 0,U 0,U 0,U 0,U 0,(),(),O gs 1 1,()]] w5 fun e w'=>e= .returned (.tuple #[U zY,true])/\ ∃A' c' L,mP x w5 w' E.f E.n E.id gx b D S (D.outs A' c' L) KY/\(D.outs A' c' L).val=vY) (GV x w5 E gx b D S H5 (aB HX S5.out.size) h1 h4 C0 ⟨9,0,0,0,0,0,none,0,0,[],none,0,0,[],some ⟨gs,0,none⟩,1,1,[cd],none,0⟩ s2 KY vY zY (by have e:=g2.out;rw[<-CE.out] at e;exact e))
      have m2:=jj f1;have Y1:=jj H0;clear f1 H0;go_wp2_with fail;rw[<-m2.out,<-Y1.out];refine U0.mono ?_;rintro e w6 ⟨rfl,A',c',L,f0,V⟩;obtain⟨d6,G0⟩:=ex (D.outs A' c' L);rw[<-G0] at f0 V;have S6:=jj (S5.out.trans f0);have F6:=F9 (Fix d d6) (FX.trans (by rw[G0];exact Fix.Bo _ _ _ _));have Q6:=F9 (d6.view=0/\d6.T=d.T/\d6.now=d.now) (by rw[G0];exact⟨s1,TW,NW⟩);have V6:=jj V;clear f0 V G0 y0 y1 y2 y3 y4;go_wp2_with fail;go_roundw
      case rel=>
       refine⟨i+1,d6,KY,aR,by go_num,S6,F6,Q6.1,Q6.2.1,Q6.2.2,?_⟩;have e:=o2.out;injection e with e1 e2;rw[V6.out,e1,e2];exact o1.out
      case measure=>simp[intOf];omega
    obtain rfl:i=j:=aR;have i1: ¬(i:Int)<i:=aR;have l:=PF.out;rw[fJ,wX] at l;injection l with l;injection l with hp1 hp2;have KE:=jj hp1;have VE:=jj hp2;have C2:=N.blk.at_ 19;have W0:=F9 (D.T.length<=58) (by rw[TW.out];exact AF.T);clear hp1 hp2;go_wp2_with fail;refine(aeO N.tab (tL W0.out)).mono ?_;rintro e w3 ⟨⟨a,m,c,rfl,hlen,b1⟩,C1⟩;have OW:=jj b1;have HL:=jj hlen;have HM:=F9 (m<=58) (by rw[<-hlen,aT];exact W0.out);have S3:=jj (SW.below C1);have r1:=F9 (Ku wr w3 a m c (D.T.map oO.r)) ⟨b1,hlen⟩;have n2:=F9 (x<wr.heap.size) (aB HX SW.size);have m0:=F9 (Fj E (D.T.map oO.r) (S,D.val)=some (K',v')) (by have e:=j2.out;rw[<-KE.out,<-VE.out] at e;exact e)
    clear b1 hlen C1 C2;obtain⟨rl,J1⟩:=ex (D.T.map oO.r);rw[<-J1] at m0 r1 HL;clear J1;go_wp2_with fail;go_loopw [136] (fun q wz=> ∃(i:Nat) (dZ:bK) (KZ:KS),i<=m/\q= U i/\mP x w wz E.f E.n E.id gx b d K dZ KZ/\Fix d dZ/\dZ.T.length<=58/\Fj E (rl.drop i) (KZ,dZ.val)=some (K',v')/\Ku wr wz a m c rl) (fun q _=>m -(intOf q).toNat)
    case atStart=>exact⟨0,D,S,aR,by first|rfl|simp,S3,FX,W0,by rw[jf];exact m0.out,r1⟩
    case round=>
     obtain⟨i,dZ,KZ,hi,rfl,y,r0,hT,r,P1⟩:=hrel;obtain⟨SZ,HZ,FZ,TZ,TL,TR⟩:=j6 y y.sys r0 hT r P1;clear y r0 hT r P1;by_cases I1:i<m
     ·have i1:(i:Int)<m:=aR
      have i0:(0:Int)<=i:=aR;have e2:IntKind.i64.wrap ((i:Int)+1)=(i:Int)+1:=aH _ (tL HM.out);obtain⟨g,N2,rfl,Z0,x0,x1,x2,x3,x4,x5,D1,a0,a1,a2,a3,a4,a5⟩:=TR.row.get (k:=i) I1;have E1:rl.drop i=(x0,x1,x2,x3,x4,x5)::rl.drop (i+1):=by obtain⟨hl,e⟩:=ah.1 D1;rw[<-e];exact(dY hl).symm
      have r:=TL.out;rw[E1,Fj] at r;simp only[aA] at r;obtain⟨hh,s0,⟨KV,vV⟩,P,r⟩:=r;obtain⟨P0,d2,q1⟩:=j3 s0 P r;clear r s0 P E1 D1;go_upto_region 27 with fail;generalize hu1:wr.alloc _=u1;generalize qP:wr.heap.size=G;replace hu1:=hu1.symm;replace qP:=qP.symm;obtain⟨B0,X1⟩:=nw hu1 qP;clear hu1 qP a0 a1 a2 a3 a4 a5 Z0;have KS:=F9 (∀u,Be u1 u->J u gx 19 dZ.nH/\J u gx 15 (U E.id)/\J u G 0 (U x0)/\J u G 1 (U x1)/\J u G 2 (U x2)/\J u G 3 (U x3)/\J u G 4 (U x4)/\J u G 5 (U x5)) fun u o=>by have hh:=(HZ.below B0).below o;have xx:=X1.below o X1.lt;exact⟨hh.blk.cell 19,hh.blk.cell 15,xx.cell 0,xx.cell 1,xx.cell 2,xx.cell 3,xx.cell 4,xx.cell 5⟩
      refine rD (fun u=>J u gx 19 dZ.nH/\J u gx 15 (U E.id)/\J u G 0 (U x0)/\J u G 1 (U x1)/\J u G 2 (U x2)/\J u G 3 (U x3)/\J u G 4 (U x4)/\J u G 5 (U x5)) 10 (tk 0 9 (.one 9 .done)) (KS.out _ (aC _ _).drew) fun u2 k1 f=> ?_
      repeat refine' tT ?_
      refine pO fun KT bq=> ?_;go_simp;refine(Jr ((HZ.below B0).below k1) (tL TZ.out) (x0,x1,x2,x3,x4,x5) E.id (VZ Z1.out C0.out) hh P0).mono ?_;rintro e u3 ⟨rfl,hb⟩;have J0:=nO k1 hb;clear hb;have p1:=KS.out _ J0;refine oH bq p1 ?_;clear f;have f:=p1
      repeat refine' tT ?_
      refine aU ?_;clear f;have BZ:=jj (B0.trans (J0.mono B0.size));have n1:=jj (HZ.below BZ);have V0:=jj (SZ.below BZ);have o0:=jj (TR.below BZ);have X3:=jj (X1.below J0 X1.lt);have P:=d2.out;cases hh
      ·simp only[dz,if_false,aD,aM] at P
       obtain⟨rfl,rfl⟩:=P;go_wp2_with fail;go_roundw
       case rel=>exact⟨i+1,dZ,KZ,aR,by go_num,V0,FZ,TZ,q1,o0⟩
       simp[intOf];omega
      simp only[if_true] at P;have R0:=jj P;clear P;obtain⟨y0,y1,y2,y3,y4,y5⟩:=X3.a6;go_wp2_with fail;refine(yV x u3 E gx b dZ KZ n1 (aB HX V0.size) h1 h4 C0 (x0,x1,x2,x3,x4,x5) KV vV R0).mono ?_;rintro e u4 ⟨rfl,A',c',L,W,T⟩;obtain⟨d4,F0⟩:=ex (dZ.outs A' c' L);rw[<-F0] at W T;have S4:=jj (V0.trans W);have F4:=F9 (Fix d d4) (FZ.trans (by rw[F0];exact Fix.Bo _ _ _ _));have T4:=F9 (d4.T.length<=58) (by rw[F0];exact TZ.out);have V4:=jj T;have t2:=jj (o0.step n2 n1 W);clear W T F0 y0 y1 y2 y3 y4 y5;go_wp2_with fail;go_roundw
      case rel=>exact⟨i+1,d4,KV,aR,by go_num,S4.out,F4,T4,by rw[V4.out];exact q1.out,t2⟩
      simp[intOf];omega
     obtain rfl:i=m:=aR;have i1: ¬(i:Int)<i:=aR;have r:=TL.out;rw[eP (tL TR.len),Fj] at r;simp only[aD,aM] at r;obtain⟨rfl,rfl⟩:=r;go_wp2_with fail;go_end0
     exact⟨by trivial,dZ,SZ,FZ,rfl⟩
theorem abH{d:bK}(h:d.val.nN[k]?=some l): ∃g,d.nN[k]?=some (g,l):=by simp only[bK.val,aS,aK] at h;obtain⟨⟨g,L⟩,H,rfl⟩:=h;exact⟨g,H⟩
theorem OD{id:Nat}{d:bK}(h:qE x w f n id gx b d K)(H:d.nN[k]?=some p):J w d.xL k (O p.1 p.2.length p.2.length)/\k<d.nN.length/\ ∀i,w.frozen? ⟨p.1,i,none⟩=false:=by refine⟨h.nN.out.cell (by rw[aS,H];rfl),(ah.1 H).1,fun i=>(h.nN.KI p (ak H)).frozen i⟩
theorem abE{d:bK}(a:d.nN[k]?=some (g,l))(z:Int):(d.pred k (g,l) s z).val={d.val with nN:=d.val.nN.modify k fun l=>l.set s z}:=by
 have h:k<d.nN.length:=(ah.1 a).1;simp only[bK.val,ql.mk.injEq,true_and,and_true];refine dD fun q=> ?_;rw[aS,eY,aS];by_cases H:k=q
 ·subst H
  rw[aL h,a];simp
 rw[aX H];simp[H]
theorem Uq(x:Nat)(w:World)(E:Who)(gx b:Nat)(d:bK)(K:KS)(h:qE x w E.f E.n E.id gx b d K)(hx:x<w.heap.size)(h1:1<=E.f)(h4:E.f<=4)(hn:(E.n:Int)=3*E.f+1)(k:Nat)(K':KS)(v':ql)(p:Au E k (K,d.val)=some (K',v')):
  Y 124 #[gx,U k] w fun e w'=>e= .returned (.tuple #[])/\Kt x w w' E gx b d K K' v':=by
 unfold Au at p;simp only[aA] at p;obtain⟨i,hi,u,hu,p⟩:=p;have pf:=mI hu;obtain⟨gi,I,hI,O1⟩:=qd hi;have e1:d.is[k]?.map Prod.fst=some gi:=by rw[hI];rfl
 have PT:=F9 (∀u,qE x u E.f E.n E.id gx b d K->J u d.gr k gi) fun u hu=>hu.ptr hI;obtain⟨s,hs⟩: ∃s:Nat,(s:Int)=(nP i.ps:Int)+1:=⟨nP i.ps+1,aR⟩;have hT:d.T.length<=58:=pf.T;have q1:d.view=0:=pf.v;have l1:nP i.ps<=16:=by have:=Jq i.ps;rw[pf.len] at this;exact this
 have Z1:oh i.ps<=16:=by have:=Db i.ps;rw[pf.len] at this;exact this
 have k0:(0:Int)<=k:=aR;have k1:(k:Int)<d.is.length:=by have:=zZ hI;omega
 have K1:=h.blk.at_ 18;have N1:=PT.out w h;obtain⟨H,HX,Q0,HI,HG,PF⟩:=j6 h hx hn hi e1 pf;obtain⟨HS,HV,W1,R0⟩:=j4 hs p l1 q1;clear h hx hn hi e1 pf hu p hI O1 hs l1 q1;go_enter func124,ntmps124;go_wp2_with fail;refine(aed H HX k i HI gi HG).mono ?_;rintro e w1 ⟨rfl,Y0⟩;rw[<-HS.out];have B1:=jj Y0;clear Y0 K1 N1;have H1:=jj (H.below B1);go_upto_region 2 with fail;have KS:=F9 (∀u,Be w1 u->J u gx 3 (U 4)) fun u o=>(H1.below o).blk.cell 3;refine rD (fun u=>J u gx 3 (U 4)) 25 (.take 0 (.one 1 (tk 2 4 (.one 6 (tk 7 9 (tk 17 5 (.one 16 (tk 22 3 .done)))))))) (KS.out _ (aC _ _).drew) fun w2 B2 r=> ?_;have H2:=jj (H1.below B2)
 repeat(first|refine' tT ?_|refine' tS ?_)
 refine pO fun KT bq=> ?_;go_simp;refine(rV H2 k i HI gi HG).mono ?_;rintro e w3 ⟨rfl,rfl⟩;rw[PF.on];refine oH bq r ?_
 repeat(first|refine' tT ?_|refine' tS ?_)
 refine pO fun KT bq=> ?_;go_simp;refine(Uo x w2 E.f E.n E.id gx b d K H2 h1 h4 R0 k PF.kf _ rfl).mono ?_;rintro e w3 ⟨rfl,Z0⟩;have B3:=nO B2 Z0;clear Z0;have S3:=KS.out _ B3;refine oH bq S3 ?_;clear r;have r:=S3;have p:=HV.out;by_cases L0:k=E.id
 ·subst L0
  rw[decide_eq_true rfl];by_cases M0:16<(s:Int)
  ·have B:16<s:=aR
   rw[if_pos (.inr (.inl (tL HS.out)))] at p;injection p with p;injection p with hv1 hv2;subst hv1;subst hv2
   repeat(first|refine' tT ?_|refine' tS ?_)
   refine pO fun KT bq=> ?_;go_simp;refine oH bq r ?_
   repeat(first|refine' tT ?_|refine' tS ?_)
   refine aU ?_;clear r;go_wp2_with fail;((try simp only[Exit.inBlock,Exit.then]);refine bodyPost_ret (results_none rfl _ _ _) rfl ?_)
   exact⟨by trivial,d,(H.step B1).below B3,Fix.refl d,rfl⟩
  have B: ¬16<s:=aR
  repeat(first|refine' tT ?_|refine' tS ?_)
  refine pO fun KT bq=> ?_;go_simp;have e4:IntKind.i64.wrap ((oh i.ps:Int)+4)=(oh i.ps:Int)+4:=aH _ aR;refine(Ov (H1.below B3) E.id i HI gi HG).mono ?_;rintro e w4 ⟨rfl,rfl⟩;refine oH bq r ?_;by_cases r0:(oh i.ps:Int)+4<(s:Int)
  ·have T:oh i.ps+4<s:=aR
   rw[if_pos (.inr (.inr (tL HS.out)))] at p;injection p with p;injection p with hv1 hv2;subst hv1;subst hv2
   repeat(first|refine' tT ?_|refine' tS ?_)
   refine aU ?_;clear r;go_wp2_with fail;((try simp only[Exit.inBlock,Exit.then]);refine bodyPost_ret (results_none rfl _ _ _) rfl ?_)
   exact⟨by trivial,d,(H.step B1).below B3,Fix.refl d,rfl⟩
  have T: ¬oh i.ps+4<s:=aR;rw[if_neg (by rintro(h|h|h)<;>first|exact h rfl|(have:=HS.out;omega))] at p
  repeat(first|refine' tT ?_|refine' tS ?_)
  refine aU ?_;have E1:=jj p;have H3:=jj (H1.below B3);have T0:=jj ((H.step B1).below B3);have Y1:=jj T;have b0:=jj B;clear r p e4 r0 T M0 B;obtain⟨wa,r1⟩:=ex w3;rw[<-r1] at H3 T0|-;clear r1;have L1:=H3.blk.at_ 19;go_wp2_with fail;refine(RJ H3.tab aR).mono ?_;rintro e w4 ⟨⟨a,m,c,rfl,hlen,m1⟩,q0⟩;have OW:=jj m1;have HL:=F9 ((oZ d.T).length=m) hlen;have HM:=F9 (m<=64) (by have e:=HL.out;unfold oZ at e;rw[aT] at e;have:=fB oO.ready d.T;omega)
  have B4:=jj q0;have H4:=jj (H3.below q0);have v0:=jj (T0.below q0);have p0:=F9 (x<w4.heap.size) (aB HX v0.size);clear q0 m1 hlen L1;obtain⟨j0,P1,R1,T1,U1⟩:=info_parts rT;obtain⟨bb,E0⟩:=ex (FT i.ps (oZ d.T) []);have F1:=F9 ((if bb= [] then some (K,d.val) else(Oz E.id (nP i.ps) bb (K,d.val)).bind fun S1=>(yI E ⟨3,0,d.view,E.id,nP i.ps+1,0,bb,[],[]⟩ (S1.1,{S1.2 with nN:=S1.2.nN.modify E.id fun l=>l.set (nP i.ps+1) (d.view+1)})).bind fun q=>Nu E E.id (nP i.ps) q.1)=some (K',v')) (by rw[E0];exact E1.out);have u1:=jj E0;clear E0;go_wp2_with fail;go_loopw [6,49] (fun q6 q wr=> ∃(j:Nat) (A:List Rq) (a6:OA) (W t:Nat),j<=m/\q= U j/\q6= .slice a6 t W/\A.length=t/\t<=2/\wr.ownsRow w4.heap.size 49 6 (.slice a6 t W) t (A.flatMap rA)/\FT i.ps ((oZ d.T).drop j) A=bb/\Be w4 wr) (fun _ q _=>m -(intOf q).toNat)
  case atStart=>exact⟨0,[],none,0,0,aR,by first|rfl|simp,by first|rfl|simp,rfl,aR,⟨bJ,.inl ⟨rfl,rfl⟩⟩,by rw[jf];exact u1.symm,aC _ _⟩
  case round=>
   obtain⟨j,A,a6,W,t,b2,rfl,rfl,X0,e0,g0,f,F0⟩:=hrel;obtain⟨N,P,PK,v⟩:=j4 F0 g0 f X0;have HW:=jj (H4.below F0);clear F0 g0 f X0;have c2:=HW.blk.at_ 2;by_cases Q1:j<m
   ·have j1:(j:Int)<m:=aR
    have d2:(0:Int)<=j:=aR;have e2:IntKind.i64.wrap ((j:Int)+1)=(j:Int)+1:=aH _ (tL HM.out);have l0:qc wr a m c (oZ d.T):=⟨fH (own_below OW N),HL,qB OW,uO OW⟩;obtain⟨g,f2,rfl,K0,x0,x1,x2,x3,x4,x5,b1,a0,a1,a2,a3,a4,a5⟩:=l0.get (k:=j) Q1;have d1:(oZ d.T).drop j=(x0,x1,x2,x3,x4,x5)::(oZ d.T).drop (j+1):=by obtain⟨hl,e⟩:=ah.1 b1;rw[<-e];exact(dY hl).symm
    have f:=PK.out;rw[d1,FT] at f;have S0:=jj f;clear f d1 b1 l0;go_upto_region 7 with fail;generalize hv1:wr.alloc _=v1;generalize hg1:wr.heap.size=g1;replace hv1:=hv1.symm;replace hg1:=hg1.symm;obtain⟨B5,X1⟩:=nw hv1 hg1;clear hv1 hg1 a0 a1 a2 a3 a4 a5 K0;replace c2:=kept B5 _ _ c2;obtain⟨y0,y1,y2,y3,y4,y5⟩:=X1.a6;have I1:=jj (HW.below B5);by_cases V0:t<2
    ·have D0:(t:Int)<2:=aR
     go_wp2_with fail;refine(aen I1 (aB p0 (aG N.size B5.size)) E.id i HI gi HG (x0,x1,x2,x3,x4,x5) _ rfl).mono ?_;rintro e v2 ⟨rfl,y⟩;have Z:=nO B5 y;have X2:=jj (X1.below y X1.lt);have z0:=kept y _ _ y0;have z1:=kept y _ _ y1;have z2:=kept y _ _ y2;have z3:=kept y _ _ y3;have z4:=kept y _ _ y4;have z5:=kept y _ _ y5;clear y c2 y0 y1 y2 y3 y4 y5;have f:=S0.out;cases o1:Ej (x0,x1,x2,x3,x4,x5) i.ps
     ·rw[o1,v.out] at f
      simp only[V0,decide_true,mo,jU,if_true] at f;have Q:=jj f;clear f;obtain⟨v3,O0⟩:=ex (v2.alloc (.cells #[U x0,U x1,U x2,U x3,U x4,U x5] 49));obtain⟨g3,J0⟩:=ex v2.heap.size;obtain⟨B6,X3⟩:=nw O0 J0;have o0:=jj (Z.trans (B6.mono Z.size));have c0:=jj (own_below P o0);have u0:=jj O0;have A1:=jj J0;clear O0 J0
      go_wp2_with(at_builtin;rw[<-u0.out,<-A1.out];refine fD rfl _ _ _ rfl w4.heap.size 49 j0 _ 6 48 underlying46 P1 R1 T1 U1 rfl aR a6 t W (A.flatMap rA) (by rfl) c0 (some ⟨g3,0,none⟩) 1 1 (rA (x0,x1,x2,x3,x4,x5)) (by rfl) (gD.nR (n:=1) (s:=6) X3 rfl) (fun u hu=>Bt [(x0,x1,x2,x3,x4,x5)] u (mR hu)) (by unfold maxLen;omega) aR (aG N.size o0.size) ?_;intro a8 c8 v8 h8;refine Hid.out ?_)
      refine jj ?_;have BX:=F9 (Be w4 v8) (h8.below c0 (N.trans (o0.mono N.size)) (aF _) (aG N.size o0.size));have OX:=F9 (v8.ownsRow w4.heap.size 49 6 (.slice a8 (t+1) c8) (t+1) ((A++ [(x0,x1,x2,x3,x4,x5)]).flatMap rA)) (by rw[bS];simpa using h8.own);clear h8 z0 z1 z2 z3 z4 z5;go_wp2_with fail;go_roundw
      case rel=>exact⟨j+1,A++ [(x0,x1,x2,x3,x4,x5)],a8,c8,t+1,aR,by go_num,by first|rfl|simp,by simp[v.out],aR,OX,Q,BX⟩
      simp[intOf];omega
     rw[o1] at f;simp only[lq,kR,dz,if_false] at f;have Q:=jj f;clear f z0 z1 z2 z3 z4 z5;go_wp2_with fail;go_roundw
     case rel=>exact⟨j+1,A,a6,W,t,aR,by go_num,by first|rfl|simp,v,e0,own_below P Z,Q,N.trans (Z.mono N.size)⟩
     simp[intOf];omega
    have D0: ¬(t:Int)<2:=aR;have f:=S0.out;rw[v.out] at f;simp only[V0,decide_false,kN,dz,if_false] at f;have Q:=jj f;clear f;go_wp2_with fail;go_roundw
    case rel=>exact⟨j+1,A,a6,W,t,aR,by go_num,by first|rfl|simp,v,e0,own_below P B5,Q,N.trans (B5.mono N.size)⟩
    simp[intOf];omega
   obtain rfl:j=m:=aR;have j1: ¬(j:Int)<j:=aR;have f:=PK.out;rw[eP (tL HL.out)] at f;replace f:A=bb:=f;subst f;have p:=F1.out;by_cases z:A= []
   ·rw[if_pos z] at p
    injection p with p;injection p with hv1 hv2;subst hv1;subst hv2;have R:t=0:=by have:=v.out;rw[z] at this;exact this.symm
    subst R;go_wp2_with fail;((try simp only[Exit.inBlock,Exit.then]);refine bodyPost_ret (results_none rfl _ _ _) rfl ?_)
    exact⟨by trivial,d,v0.below N,Fix.refl d,rfl⟩
   rw[if_neg z] at p;simp only[aA] at p;obtain⟨⟨Kp,vp⟩,hp,⟨⟨K6,v6⟩,z6⟩,r0,W0⟩:=p;have R: ¬t=0:=by intro h0;have:=v.out;exact z (dA aR)
   have d0: ¬(t:Int)=0:=aR;obtain⟨HP,t0,t1⟩:=j3 hp r0 W0;have G1:=jj (v0.below N);obtain⟨l,c1,i1⟩:=PF.nN;obtain⟨gl,f1⟩:=abH (d:=d) c1;have GL:=jj f1;have C1:=jj i1;clear hp r0 W0 z c2 c1 f1 i1;go_wp2_with fail;refine(abk HW (aB p0 N.size) E.id (nP i.ps) s HS a6 t W A (sK.own P p0 v) aR Kp vp HP gi HG).mono ?_;rintro e w5 ⟨rfl,U0,D,F,f0,V,G0,i0,n0⟩;have S5:=jj (G1.trans F);obtain⟨H5,F5,V5,KK⟩:=j4 F.sys f0 V U0;have R5:=jj ((sK.own (x:=x) P p0 v).step HW F);have G:=F9 (D.nN[E.id]?=some (gl,l)) (by rw[i0];exact GL.out);have C0:=F9 (D.view=d.view) n0;clear F f0 V U0 G0 i0 n0;have p1:(E.id:Int)<D.nN.length:=by have:=(OD H5 G).2.1;omega
   have s0:(0:Int)<=s:=aR;have s1:(s:Int)<l.length:=by have:=b0.out;have:=C1.out;omega
   have V1:IntKind.i64.wrap (D.view+1)=D.view+1:=aH _ (by rw[C0.out,R0.out];omega);clear k1;go_upto_region 11 with fail;have SC:=F9 (J w5.drew gx 26 (O D.xL D.nN.length D.Aq)/\J w5.drew D.xL E.id (O gl l.length l.length)/\J w5.drew gx 29 (U D.view)) ⟨H5.blk.drew.cell 26,(OD H5 G).1,H5.blk.drew.cell 29⟩;refine rD (fun u=>J u gx 26 (O D.xL D.nN.length D.Aq)/\J u D.xL E.id (O gl l.length l.length)/\J u gx 29 (U D.view)) 14 (tk 0 14 (.one 14 .done)) SC fun w6 B6 r=> ?_;have S6:=jj (S5.below B6);have H6:=jj S6.sys;have R6:=jj (R5.below B6);have fr:=(OD H6 G).2.2 s;have there:J w6 gl s (U (l.getD s 0)):=by have e:=(H6.nN.KI _ (ak G)).cell s;exact e.trans (Du l s (tL s1))
   repeat refine' tT ?_
   refine pL fun KT bq=> ?_;go_simp;refine oL bq ?_;refine aU ?_;clear r fr there;obtain⟨w7,P0⟩:=ex (w6.setCell ⟨gl,s,none⟩ (U (D.view+1)));rw[<-P0];obtain⟨X,S⟩:=ex (D.pred E.id (gl,l) s (D.view+1));have A0:=F9 (mP x w6 w7 E.f E.n E.id gx b D K X K) (by rw[P0,S];exact(Step.refl H6).pre G (D.view+1));have F7:=F9 (Fix D X) (by rw[S];exact Fix.aer G _ _);have B0:=F9 (X.val={D.val with nN:=D.val.nN.modify E.id fun l=>l.set (nP i.ps+1) (d.view+1)}) (by rw[S,abE G,show s=nP i.ps+1 by have:=HS.out;omega,C0.out]);have J1:=F9 (X.view=d.view) (by rw[S];exact C0.out);clear P0 S;have S7:=jj (S6.trans A0);have H7:=jj A0.sys;have R7:=jj (R6.step H6 A0);have M1:J w7 gx 29 (U d.view):=by rw[<-J1.out];exact H7.blk.cell 29
   have n1:yI E (nA ⟨3,0,d.view,E.id,s,0,a6,t,W,A,none,0,0,[],none,0,0,[],none,0⟩) (K,X.val)=some ((K6,v6),z6):=by rw[B0.out,V5.out,HS.out];have e:=t0.out;rw[KK.out] at e;exact e
   clear p1 s0 s1 V1 R d0;have D1:=jj n1;clear n1;have w0:=F9 (Y 170 #[gx,.agg #[U 3,U 0,U d.view,U E.id,U s,U 0,.slice a6 t W,(),(),()]] w7 fun e w'=>e= .returned (.tuple #[U z6,true])/\ ∃A' c' L,mP x w7 w' E.f E.n E.id gx b X K (X.outs A' c' L) K6/\(X.outs A' c' L).val=v6) (GV x w7 E gx b X K H7 (aB HX S7.size) h1 h4 Q0 ⟨3,0,d.view,E.id,s,0,a6,t,W,A,none,0,0,[],none,0,0,[],none,0⟩ ⟨R7,Ez.nil _ _,Gz.nil _ _⟩ K6 v6 z6 D1);go_wp2_with fail;refine w0.mono ?_;rintro e w8 ⟨rfl,A',c',L,M,C⟩;obtain⟨d8,H0⟩:=ex (X.outs A' c' L);rw[<-H0] at M C;have S8:=jj (S7.trans M);have H8:=jj M.sys;have F8:=F9 (Fix d d8) ((F5.trans F7).trans (by rw[H0];exact Fix.Bo _ _ _ _));have V8:=jj C;clear M C H0 M1;go_wp2_with fail;refine(FK x w8 E gx b d8 K6 H8 (aB HX S8.size) h1 h4 Q0 E.id (nP i.ps) (tL PF.kf) (VZ b0.out HS.out) s HS K' v' (by rw[V8.out];exact t1.out)).mono ?_;rintro e w9 ⟨rfl,d9,N0,I0,m0⟩;go_wp2_with fail;go_end0
   exact⟨by trivial,d9,S8.trans N0,F8.trans I0,m0⟩
 rw[decide_eq_false L0];rw[if_pos (.inl L0)] at p;injection p with p;injection p with hv1 hv2;subst hv1;subst hv2
 repeat(first|refine' tT ?_|refine' tS ?_)
 refine pO fun KT bq=> ?_;go_simp;refine oH bq r ?_
 repeat(first|refine' tT ?_|refine' tS ?_)
 refine aU ?_;clear r;go_wp2_with fail;((try simp only[Exit.inBlock,Exit.then]);refine bodyPost_ret (results_none rfl _ _ _) rfl ?_)
 exact⟨by trivial,d,(H.step B1).below B3,Fix.refl d,rfl⟩
abbrev bK.starts(d:bK)(z:Int):bK:={d with start:=z}
theorem adF{cap:Nat}{m:Int×Int}{l:List (Int×Int)}(h:Row w g 301 1 (n+1) cap ((m::l).map FJ))(a:l.length=n)(b:n+1<=5)(H:Hy (m::l)):Half w g 0 cap n m.1 m.2 l:=
 ⟨a,aR,H,fH h,h.EI⟩
theorem aeb(x:Nat)(w:World)(E:Who)(gx b:Nat)(d:bK)(K:KS)(h:qE x w E.f E.n E.id gx b d K)(hx:x<w.heap.size)(h1:1<=E.f)(h4:E.f<=4)(hn:(E.n:Int)=3*E.f+1)(o0:E.id<E.n)(K':KS)(v':ql)(r:Ni E (K,d.val)=some (K',v')):
  Y 90 #[gx] w fun e w'=>e= .returned (.tuple #[])/\Kt x w w' E gx b d K K' v':=by
 unfold Ni at r;simp only[aA,aK] at r;obtain⟨u,hu,⟨K1,v1⟩,f,u3,u0,⟨K2,v2⟩,p,u2,t0,r⟩:=r;have L0:=jj (mI u0);have tf:=mI hu;have lf:=mI t0;obtain⟨n0,S⟩:=ex d.is.length;have Z:d.val.is.length=n0:=by rw[S];simp[bK.val]
 have n5:n0<=5/\1<=n0:=by have:=tf.n;rw[Z] at this;omega
 have T:d.stopped=false:=tf.stop;have b0:0<=d.now/\d.now<1000000:=tf.now;obtain⟨H,HX,e0,A0,B0⟩:=j5 h hx hn o0 S;have f0:=F9 (tN E n0 0 (K,(d.GU (d.now+1)).val)=some (K1,v1)) (by rw[<-Z];exact f);obtain⟨z0,LF,HV⟩:=j3 p lf r;have F0:J w gx 33 false:=by rw[<-T];exact h.blk.cell 33
 have h0:=h.blk.at_ 17;have x0:=jj h.Bc;clear h hx hn o0 hu t0 u0 f p lf r tf Z S;go_enter func90,ntmps90;go_wp2_with fail;refine(Vy w d.gt d.now x0 b0.1 aR).mono ?_;rintro e w1 ⟨rfl,l0,q0⟩;have S1:=jj ((Step.refl H).Bc l0 q0);have H1:=jj S1.sys;clear l0 q0 F0 h0;obtain⟨d1,Q⟩:=ex (d.GU (d.now+1));rw[<-Q] at S1 H1 f0;have F1:=F9 (Fix d d1) (by rw[Q];exact Fix.Uu _ _);clear Q;have P:J w1 gx 18 (O d.gr n0 d.rX):=by rw[B0.out];exact(H1.blk.cell 18).trans (F1.cell _ _ 18 aV)
 go_wp2_with fail;go_loopw [21] (fun q wr=> ∃(i:Nat) (t:bK) (KW:KS),i<=n0/\q= U i/\mP x w wr E.f E.n E.id gx b d K t KW/\Fix d t/\tN E (n0 -i) i (KW,t.val)=some (K1,v1)) (fun q _=>n0 -(intOf q).toNat)
 case atStart=>exact⟨0,d1,K,aR,by first|rfl|simp,S1,F1,f0⟩
 case round=>
  obtain⟨i,t,KW,hi,rfl,a,n,f⟩:=hrel;obtain⟨SW,HW,FW,PS⟩:=j4 a a.sys n f;have M:=F9 (x<wr.heap.size) (aB HX a.size);clear a n f P;by_cases Q0:i<n0
  ·have i1:(i:Int)<n0:=aR
   have e2:IntKind.i64.wrap ((i:Int)+1)=(i:Int)+1:=aH _ aR;have f:=PS.out;rw[show n0 -i=(n0 -(i+1))+1 by omega,tN] at f;simp only[aA] at f;obtain⟨⟨KX,vX⟩,hp,f⟩:=f;have HP:=jj hp;have C0:=jj f;clear hp f;go_wp2_with fail;refine(Uq x wr E gx b t KW HW M h1 h4 e0 i KX vX HP).mono ?_;rintro e w2 ⟨rfl,D,a,n,j⟩;have S2:=jj (SW.trans a);have F2:=jj (FW.trans n);have V2:=jj j;clear a n j;go_wp2_with fail;go_roundw
   case rel=>exact⟨i+1,D,KX,aR,by go_num,S2,F2,by rw[V2.out];exact C0.out⟩
   simp[intOf];omega
  obtain rfl:i=n0:=aR;have i1: ¬(i:Int)<i:=aR;have f:=PS.out;rw[fJ,tN] at f;simp only[aD,aM] at f;obtain⟨rfl,rfl⟩:=f;obtain⟨wa,w0⟩:=ex wr;rw[<-w0] at SW HW M|-;clear w0;go_upto_region 8 with fail;refine rD (fun u=>J u gx 17 t.gt/\J u gx 13 (U 2)) 12 (tk 0 4 (tk 5 5 (.one 4 (.take 10 (.take 11 .done))))) ⟨HW.blk.drew.cell 17,HW.blk.drew.cell 13⟩ fun w2 B2 c=> ?_;have H2:=jj (HW.below B2);have S2:=jj (SW.below B2)
  repeat refine' tT ?_
  refine pO fun KT bq=> ?_;go_simp;refine(vF H2).mono ?_;rintro e w3 ⟨rfl,rfl⟩;refine oH bq c ?_
  repeat refine' tT ?_
  refine aU ?_;clear c;obtain⟨tb,V⟩:=ex ((t.now.tmod 2==0));have TB:=F9 (tb=decide (t.now%2=0)) (by have n0:0<=t.now:=L0.1;rw[V,gN n0];rfl)
  rw[<-V];clear V
  go_upto_if 39 with fail
  go_cut [] from 40 to 41 (fun wx=> ∃D,mP x w wx E.f E.n E.id gx b d K D K2/\Fix d D/\D.val=v2)
  case first=>
   have p:=z0.out;cases tb
   ·have B: ¬t.val.now%2=0:=by have e:=TB.out;intro hc;have J0:t.now%2=0:=hc;simp[J0] at e
    rw[if_neg B] at p;simp only[aD,aM] at p;obtain⟨rfl,rfl⟩:=p;go_wp2_with fail;go_meet;exact⟨t,S2,FW,rfl⟩
   have B:t.val.now%2=0:=by have e:=TB.out;exact of_decide_eq_true e.symm
   rw[if_pos B] at p;have a0:=jj p;clear p B;go_wp2_with fail;refine(aa9 x w2 E gx b t KW H2 (aB M B2.size) h1 h4 e0 A0 K2 v2 a0).mono ?_;rintro e w3 ⟨rfl,d3,a,n,j⟩;go_wp2_with fail;go_meet;exact⟨d3,S2.trans a,FW.trans n,j⟩
  case rest=>
   obtain⟨D,a,n,j⟩:=hcut;obtain⟨w3,v0⟩:=ex wc;rw[<-v0] at a|-;clear v0;obtain⟨S3,H3,F3,V3⟩:=j4 a a.sys n j;have M0:=F9 (x<w3.heap.size) (aB HX a.size);have L:=F9 (GJ D.val) (by rw[j];exact LF.out);clear a n j;obtain⟨iv,R,r0⟩:=L.on;obtain⟨g0,I0,v,H0⟩:=qd R;have m0:D.is[0]?.map Prod.fst=some g0:=by rw[v];rfl
   obtain⟨C,F,G⟩:=j3 m0 R r0;have P0:=F9 (∀u,qE x u E.f E.n E.id gx b D K2->J u D.gr 0 g0) fun u hu=>hu.ptr v;have i1:(0:Int)<D.is.length:=by have:=zZ v;omega
   have R0:0<D.is.length:=zZ v;clear m0 R r0 v H0;have KS:=F9 (∀u,Be w3 u->J u gx 18 (O D.gr D.is.length D.rX)/\J u D.gr 0 g0/\J u gx 17 D.gt/\J u gx 31 (U D.since)/\J u gx 12 (U 6)/\J u gx 32 (U D.start)/\J u gx 7 (U 8)) fun u o=>by have k:=H3.below o;exact⟨k.blk.cell 18,P0.out _ k,k.blk.cell 17,k.blk.cell 31,k.blk.cell 12,k.blk.cell 32,k.blk.cell 7⟩
   go_upto_region 10 with fail;refine rD (fun u=>J u gx 18 (O D.gr D.is.length D.rX)/\J u D.gr 0 g0/\J u gx 17 D.gt/\J u gx 31 (U D.since)/\J u gx 12 (U 6)/\J u gx 32 (U D.start)/\J u gx 7 (U 8)) 26 (tk 0 6 (.one 6 (tk 7 6 (tk 14 10 (.one 13 (.take 24 (.take 25 .done))))))) (KS.out _ (aC _ _).drew) fun w4 B4 c=> ?_;have H4:=jj (H3.below B4)
   repeat(first|refine' tT ?_|refine' tS ?_)
   refine pO fun KT bq=> ?_;go_simp;refine(rV H4 0 iv F g0 C).mono ?_;rintro e w5 ⟨rfl,rfl⟩;rw[G.out];refine oH bq c ?_
   repeat(first|refine' tT ?_|refine' tS ?_)
   refine pO fun KT bq=> ?_;go_simp;refine oH bq c ?_
   repeat(first|refine' tT ?_|refine' tS ?_)
   refine aU ?_;clear c;have P:=H4.blk.at_ 18;have c0:=P0.out _ H4;go_wp2_with fail;refine(rV H4 0 iv F g0 C).mono ?_;rintro e w5 ⟨rfl,rfl⟩;rw[G.out];clear P c0;go_wp2_with fail;refine(ahy x w4 E.f E.n E.id gx b D K2 H4 (by have:=L.T;have e:D.T.length<=58:=this;omega) L.now L.since L.rdy false L.old).mono ?_;rintro e w5 ⟨rfl,i0⟩;have B5:=nO B4 i0;clear i0;have e8:IntKind.i64.wrap (D.start+8)=D.start+8:=aH _ (by have:=L.start;have e:0<=D.start/\D.start<=1000000:=this;omega);go_upto_region 14 with fail;refine rP (fun u=>J u gx 18 (O D.gr D.is.length D.rX)/\J u D.gr 0 g0/\J u gx 17 D.gt/\J u gx 31 (U D.since)/\J u gx 12 (U 6)/\J u gx 32 (U D.start)/\J u gx 7 (U 8)) 16 (tk 0 4 (tk 5 10 (.one 4 (.take 15 .done)))) (KS.out _ B5.drew) ?_;intro c;obtain⟨w6,W⟩:=ex w5.drew;have B6:=F9 (Be w3 w6) (by rw[W];exact B5.drew);rw[<-W] at c|-;clear W;have H6:=jj (H3.below B6)
   repeat(first|refine' tT ?_|refine' tS ?_)
   refine pO fun KT bq=> ?_;go_simp;refine(vF H6).mono ?_;rintro e w7 ⟨rfl,rfl⟩;refine oH bq c ?_
   repeat(first|refine' tT ?_|refine' tS ?_)
   refine aU ?_;clear c e8;have r:=HV.out;by_cases a:D.start+8<=D.now
   ·have s:v2.start+8<=v2.now:=by rw[<-V3.out];exact a
    rw[if_pos s] at r;simp only[aM] at r;obtain⟨rfl,r⟩:=r;have I:=jj r;clear r s;obtain⟨m,l,y⟩: ∃m l,D.ga=m::l:=by
     have e:1<=D.ga.length:=L.ga.1
     cases hq:D.ga with
     |nil=>rw[hq] at e;simp at e
     |cons m l=>exact⟨m,l,rfl⟩
    have VB:=F9 (rH 1 2 8 m.1 m.2 l=false) (L.fair a m l y);have d0:=jj y;have g5:l.length+1<=5:=by have e:D.ga.length<=5:=L.ga.2.1;rw[y] at e;exact e
    have y0:=F9 (Hy (m::l)) (by rw[<-y];exact L.ga.2.2);clear y;go_upto_region 15 with fail;have N:=F9 (∀u,Be w3 u->(J u gx 18 (O D.gr D.is.length D.rX)/\J u D.gr 0 g0/\J u gx 17 D.gt/\J u gx 31 (U D.since)/\J u gx 12 (U 6)/\J u gx 32 (U D.start)/\J u gx 7 (U 8))/\J u gx 0 (U E.f)/\J u gx 1 (U 2)/\J u gx 2 (U 2)/\J u gx 3 (U 4)/\J u gx 4 (U 64)/\J u gx 5 (U 8)/\J u gx 6 (U 8)/\J u gx 8 (U 1)/\J u gx 9 (U 2)/\J u gx 10 (U 12)/\J u gx 11 (U 8)/\J u gx 13 (U 2)/\J u gx 14 (U 6)/\J u gx 23 D.gm) fun u o=>by have k:=H3.below o;exact⟨KS.out u o,k.blk.cell 0,k.blk.cell 1,k.blk.cell 2,k.blk.cell 3,k.blk.cell 4,k.blk.cell 5,k.blk.cell 6,k.blk.cell 8,k.blk.cell 9,k.blk.cell 10,k.blk.cell 11,k.blk.cell 13,k.blk.cell 14,k.blk.cell 23⟩
    refine rP (fun u=>(J u gx 18 (O D.gr D.is.length D.rX)/\J u D.gr 0 g0/\J u gx 17 D.gt/\J u gx 31 (U D.since)/\J u gx 12 (U 6)/\J u gx 32 (U D.start)/\J u gx 7 (U 8))/\J u gx 0 (U E.f)/\J u gx 1 (U 2)/\J u gx 2 (U 2)/\J u gx 3 (U 4)/\J u gx 4 (U 64)/\J u gx 5 (U 8)/\J u gx 6 (U 8)/\J u gx 8 (U 1)/\J u gx 9 (U 2)/\J u gx 10 (U 12)/\J u gx 11 (U 8)/\J u gx 13 (U 2)/\J u gx 14 (U 6)/\J u gx 23 D.gm) 19 (tk 0 6 (.one 6 (tk 7 9 (.one 16 (.one 17 (.take 18 .done)))))) (N.out _ B6.drew) ?_;intro c;obtain⟨w7,X⟩:=ex w6.drew;have B7:=F9 (Be w3 w7) (by rw[X];exact B6.drew);rw[<-X] at c|-;clear X;have H7:=jj (H3.below B7)
    repeat(first|refine' tT ?_|refine' tS ?_)
    refine pO fun KT bq=> ?_;go_simp;refine(rV H7 0 iv F g0 C).mono ?_;rintro e w8 ⟨rfl,rfl⟩;rw[G.out];refine oH bq c ?_
    repeat(first|refine' tT ?_|refine' tS ?_)
    refine pO fun KT bq=> ?_;go_simp;refine(aa4 D.gm D.Dl D.ga w7 H7.met L.ga.1 L.ga.2.1).mono ?_;rintro e w8 ⟨g,G0,rfl,z,K0,j0⟩;have HF:=F9 (Half w8 g 0 G0 l.length m.1 m.2 l) (adF (by rw[d0.out] at z;exact z) rfl g5 y0);rw[show D.ga.length=l.length+1 by rw[d0.out];rfl];have B8:=nO B7 j0;clear j0 z K0;have S8:=N.out _ B8;refine oH bq S8 ?_;clear c;have c:=S8
    repeat(first|refine' tT ?_|refine' tS ?_)
    refine pO fun KT bq=> ?_;go_simp;refine(YG E.f 2 4 64 8 8 8 2 12 6 2 6 1 2 8 w8 HF aR aR aR).mono ?_;rintro e w9 ⟨rfl,k0⟩;rw[VB.out];have B9:=nO B8 k0;clear k0;have S9:=N.out _ B9;refine oH bq S9 ?_;clear c;have c:=S9
    repeat(first|refine' tT ?_|refine' tS ?_)
    refine aU ?_;clear c;have H9:=jj (H3.below B9);have D0:=jj (S3.below B9);have E0:=H9.blk.at_ 23;go_wp2_with fail;refine(aeE D.gm D.Dl D.ga w9 H9.met L.ga.2.1).mono ?_;rintro e wx ⟨rfl,p0,s0⟩;have SX:=jj (D0.met p0 s0);have A:=jj SX.sys;clear p0 s0 E0;have h0:=A.blk.at_ 17;go_wp2_with fail;refine(vF A).mono ?_;rintro e wy ⟨rfl,rfl⟩;have N0:=A.blk.at_ 32;have O0:=A.blk.frozen 32;go_wp2_with fail;go_end0
    refine⟨by trivial,_,SX.aeu (d'':=(D.yS (List.replicate D.ga.length (0,0))).starts D.now) rfl (by rfl),F3.trans (by constructor<;>rfl),?_⟩;rw[<-I.out,<-V3.out];rfl
   have s: ¬v2.start+8<=v2.now:=by rw[<-V3.out];exact a
   rw[if_neg s] at r;simp only[aM] at r;obtain⟨rfl,r⟩:=r;have I:=jj r;clear r s;go_wp2_with fail;go_end0
   exact⟨by trivial,D,S3.below B6,F3,V3.trans I⟩
end Go.Proofs.YtgnhecmnlddjhaaGreat
