/- TopAlone, part 18 of 24: a proof squeezed by a program. -/
import Derived.Test.YtgnhecmnlddjhaaGreatZ16
set_option linter.unusedVariables false
set_option linter.unusedSimpArgs false
set_option linter.defProp false
set_option maxRecDepth 100000
set_option maxHeartbeats 6400000
namespace Go.Proofs.YtgnhecmnlddjhaaGreat
open Go.RowKit Go.Proofs.Tryz
variable{D:qb}{K:KS}{a b g k n:Nat}{ps:LI}{w:World}
theorem QV(n:Nat):(pE n).length=n+2:=by simp[pE]
theorem uZ(h:a<n+2):(pE n)[a]?=some (zI n a):=by
 unfold pE zI;by_cases e:a<n
 ·rw[bC (mR e),aV e]
  simp[e]
 rw[bN (mR (Nat.le_of_not_lt e)),aU e];rcases(by omega:a=n\/a=n+1) with rfl|rfl
 ·simp
 simp;omega
theorem Ws(hn:n<=100)(ha:a<n+2)(hb:b<n+2)(h:zI n a=zI n b):a=b:=by
 unfold zI at h;split at h<;>split at h<;>omega
theorem QK(hn:n<=100)(ha:a<n+2)(hb:b<n+2)(h:a≠b):Lnk (n+2) (pE n) (zI n a) (zI n b) (a*(n+2)+b):=by
 have key: ∀a,a<n+2->agl (n+2) (pE n) (zI n a) a:=fun a ha=>⟨ha,uZ ha,fun m hm e=>by
  rw[uZ lK] at e;have:=Ws hn lK ha (dh e);omega⟩
 exact⟨a,b,key a ha,key b hb,h,rfl⟩
section
variable{x:Nat}{w w':World}{D:qb}{K:KS}
theorem Z9(h:mJ x w D K)(a b:Nat)(ha:a<D.C.n+2)(hb:b<D.C.n+2)(hab:a≠b)(bs:LI)(rest:List LI)(hM:(D.val K).M (a*(D.C.n+2)+b)=bs::rest)(src dst:Int)(hs:src=zI D.C.n a)(hd:dst=zI D.C.n b):
  Y 85 #[D.C.cd.gn,U src,U dst,U 0] w fun e w'=> ∃A c,e= .returned (.tuple #[.slice A bs.length c,true])/\w'.ownsRow w.heap.size 5 1 (.slice A bs.length c) bs.length (mZ bs)/\
   ∃D',mJ x w' D' K/\pW w w' D K D' K/\D'.C.nodes=D.C.nodes/\D'.d1=D.d1/\D'.val K={D.val K with M:=ru (D.val K).M (a*(D.C.n+2)+b) rest}:=by
 have n4:=h.fx.n;have f4:=h.fx.f4;have np:=h.fx.np;have hk:a*(D.C.n+2)+b<D.C.nd.n*D.C.nd.n:=by rw[np];exact ZN ha hb
 obtain⟨k,hkk⟩:=ex (a*(D.C.n+2)+b);have hl:Lnk D.C.nd.n D.C.nd.ps src dst k:=by rw[h.fx.ps,np,hs,hd,hkk];exact QK lK ha hb hab
 rw[<-hkk] at hM hk|-;have hM':(D.C.nd.ms k).map Prod.snd=bs::rest:=hM;obtain⟨q,ms,hms,hq1,hq2⟩: ∃q ms,D.C.nd.ms k=q::ms/\q.2=bs/\ms.map Prod.snd=rest:=by
  cases e:D.C.nd.ms k with
  |nil=>rw[e] at hM';simp at hM'
  |cons q ms=>
   rw[e] at hM';simp only[bV,gT] at hM';exact⟨q,ms,rfl,hM'.1,hM'.2⟩
 refine(Ye src dst 0 w h.afH.nt lK k hl 0 (by rw[hms];simp) rfl).mono ?_;rintro e w' ⟨g',v,rfl,ht,hN,ho,hg⟩;have e0:((D.C.nd.ms k)[0]'(by rw[hms];simp)).2=bs:=by simp only[hms,List.getElem_cons_zero];exact hq1
 rw[e0] at ht;obtain⟨A,c,rfl,hown⟩:=ht;rw[RU] at hN;have st:=(Step.refl h.BJ.sys).net (j:=2) (d:=D.C.nd) (gn:=D.C.cd.gn) (room:=64) rfl hk hN ho hg;refine⟨A,c,rfl,hown,D.net (D.C.nd.qs (ru D.C.nd.g k g') D.C.nd.lost (ru D.C.nd.ms k (Wh (D.C.nd.ms k) 0))),h.abe st,Hf ⟨rfl,rfl,rfl,rfl,rfl,rfl,rfl,rfl⟩ st rfl,rfl,rfl,?_⟩;show CV.mk _ _ _ _ _=CV.mk _ _ _ _ _
 congr 1
 funext j
 show((ru D.C.nd.ms k (Wh (D.C.nd.ms k) 0)) j).map Prod.snd=ru (fun k=>(D.C.nd.ms k).map Prod.snd) k rest j;unfold ru;split
 ·rw[hms]
  simp[Wh,hq2]
 rfl
end
theorem Gm.inv{f:Int}: ∀{a b:Nat} {X X':CV},Gm f n a b X X'-> ∃bs rest,a<n+2/\b<n+2/\a≠b/\X.M (a*(n+2)+b)=bs::rest/\
   ((∃v M z S,b<n/\X.nodes[b]?=some (some v)/\JD ⟨f,n,b⟩ M z bs (X.K,v)=some S/\S.2.out.length<=4096/\DF n b S {X with M:=ru X.M (a*(n+2)+b) rest}=some X')\/
    (b<n/\X.nodes[b]?=some none/\X'={X with M:=ru X.M (a*(n+2)+b) rest})\/
    (b=n+1/\ ∃sr res z s,yN f X.K sr res z bs X.ck=some s/\bs.length<=65536/\X'={X with ck:=s,M:=ru X.M (a*(n+2)+b) rest}))
 |_,_,_,_,.node a b bs rest v M z S X X' h1 h2 h3 h4 h5 h6 h7 h8=>⟨bs,rest,h1,lK,h3,h4,.inl ⟨v,M,z,S,h2,h5,h6,h7,h8⟩⟩
 |_,_,_,_,.dead a b bs rest X h1 h2 h3 h4 h5=>⟨bs,rest,h1,lK,h3,h4,.inr (.inl ⟨h2,h5,rfl⟩)⟩
 |_,_,_,_,.ck a bs rest sr res z s X h1 h2 h3 h4=>⟨bs,rest,lK,lK,lK,h2,.inr (.inr ⟨rfl,sr,res,z,s,h3,h4,rfl⟩)⟩
theorem last_at{α:Type}{l:List α}{r:α}(h:l.getLast?=some r): ∃j,l.length=j+1/\l[j]?=some r:=by
 cases l with
 |nil=>simp at h
 |cons a l=>
  refine⟨l.length,rfl,?_⟩;rw[jO] at h;simpa using h
theorem Tc(x:Nat)(w:World)(D:qb)(K:KS)(h:mJ x w D K)(a b:Nat)(X':CV)(hv:Gm D.C.cd.f D.C.n a b (D.val K) X')(src dst:Int)(hs:src=zI D.C.n a)(hd:dst=zI D.C.n b):
  Y 51 #[D.C.gc,U src,U dst,U 0] w fun e w'=>e= .returned true/\ ∃D',mJ x w' D' X'.K/\pW w w' D K D' X'.K/\D'.val X'.K=X':=by
 have n4:=h.fx.n;have f4:=h.fx.f4;have f1:=h.fx.f1;have hK:(D.val K).K=K:=rfl;obtain⟨bs,rest,ha,hb,hab,hM,hcase⟩: ∃bs rest,a<D.C.n+2/\b<D.C.n+2/\a≠b/\(D.val K).M (a*(D.C.n+2)+b)=bs::rest/\
   ((∃v M z S,b<D.C.n/\(D.val K).nodes[b]?=some (some v)/\JD ⟨D.C.cd.f,D.C.n,b⟩ M z bs (K,v)=some S/\S.2.out.length<=4096/\DF D.C.n b S {D.val K with M:=ru (D.val K).M (a*(D.C.n+2)+b) rest}=some X')\/
    (b<D.C.n/\(D.val K).nodes[b]?=some none/\X'={D.val K with M:=ru (D.val K).M (a*(D.C.n+2)+b) rest})\/
    (b=D.C.n+1/\ ∃sr res z s,yN D.C.cd.f K sr res z bs (D.val K).ck=some s/\bs.length<=65536/\X'={D.val K with ck:=s,M:=ru (D.val K).M (a*(D.C.n+2)+b) rest})):=by
  exact hv.inv
 obtain⟨H,HM,HC⟩:=j3 h hM hcase;have HSD:=jj (dH hs hd);have HAB:=jj (dH ha (dH hb hab));have c17:=h.blk.at_ 17;clear h hv hM hcase hs hd ha hb hab;go_enter func51,ntmps51
 go_wp2_with fail
 refine(Z9 H a b HAB.1 HAB.2.1 HAB.2.2 bs rest HM src dst HSD.1 HSD.2).mono ?_;rintro e w1 ⟨A,c,rfl,hown,D1,hA1,hS1,hnd,hd1,hV1⟩;obtain⟨A1,S1,V1⟩:=j3 hA1 hS1 hV1;have ND:=jj (dH hnd hd1);have OWN:=jj hown;clear hA1 hS1 hV1 hown hnd hd1;clear c17;have BL:=jj (show mo w1 A bs.length 1 (mZ bs) from l9 OWN);have CAP:Hid (bs.length<=c):=jj (qB OWN);obtain⟨bl,hbl⟩:=ex bs.length;rw[<-hbl] at BL CAP|-;have HBL:=jj hbl;clear hbl OWN;have GC:Hid (D1.C.gc=D.C.gc):=jj S1.same.gc;obtain⟨gc,hgc⟩:=ex D.C.gc;rw[<-hgc] at GC|-;have HGC:=jj hgc;clear hgc;obtain⟨r,hr⟩:=ex ((qM.wI D1.C.cd.f 2 dst&&!decide (dst∈D1.C.fl)));have HR:=jj hr;clear hr;have go1: ∀wz,mJ x wz D1 K->Y 86 #[gc,U dst] wz fun e w'=>e= .returned r/\mJ x w' D1 K/\Be wz w':=fun wz hz=>by
  rw[<-GC.out];refine(Te wz D1.C.gc D1.C.cd hz.blk hz.fx.f1 hz.fx.f4 D1.C.fl (l9 hz.OI) (by rw[hz.fx.fm];exact hz.fx.few) dst r HR).mono ?_;rintro e w' ⟨rfl,hb⟩;exact⟨rfl,hz.below hb,hb⟩
 have GO1:=jj go1;clear go1;have nn1:Hid (D1.C.n=D.C.n):=jj S1.same.n;rcases HC.out with⟨v,M,z,S,hbn,VH,Po,hol,hout⟩|⟨hbn,VH,hX⟩|⟨hbn,sr,res,z,s,hck,akj,hX⟩
 ·
  have BK:(D1.C.nodes.map fun o=>o.map fun p=>p.d.val)[b]?=some (some v):=by rw[ND.1];exact VH
  rw[aS] at BK;obtain⟨p,hp,hpv⟩: ∃p,D1.C.nodes[b]?=some (some p)/\p.d.val=v:=by
   cases e:D1.C.nodes[b]? with
   |none=>rw[e] at BK;cases BK
   |some o=>cases o with
    |none=>rw[e] at BK;simp at BK
    |some p=>rw[e] at BK;simp only[Option.map_some,aD] at BK;exact⟨p,rfl,BK⟩
  have HP:=jj hp;have HPV:=jj hpv;have dv:dst=(b:Int):=by rw[HSD.2,zI,aV hbn]
  subst dv;have rt:r=true:=by
   rw[HR.out,S1.same.f];have nb: ¬(b:Int)∈D1.C.fl:=fun hm=>by
    have:=(A1.fx.bad b (by rw[nn1.out];exact hbn)).2 hm;rw[HP.out] at this;cases this
   rw[aR nb,qM.Fa D.C.cd.f 2 b true (by simp;left;omega)];rfl
  subst rt;have i1:(b:Int)<100:=lK;have i2:(0:Int)<=b:=lK;obtain⟨HB,HRV,HOL,aiY⟩:=j4 hbn Po hol hout;have HHR:=HR;clear VH Po hol hout HC HR BK hp hpv hbn n4 f4 f1
  go_wp2_with fail
  refine(GO1.out _ A1).mono ?_;rintro e w2 ⟨rfl,hA2,hB2⟩;have A2:=jj hA2;have B2:=jj hB2;clear hA2 hB2;have BL2:=jj (BL.below B2);clear BL A1;have c18:J w2 gc 18 (.slice D1.C.cd.na D1.C.n D1.C.cd.nc):=by
   have:=A2.blk.cell 18;rw[GC.out] at this;have e:=A2.fx.nl;rw[<-e];exact this
  obtain⟨nl,hnl⟩:=ex D1.C.n;have i3:(b:Int)<nl:=by rw[hnl,nn1.out];have:=HB.out;omega
  have RW:Hid (w2.ownsRow 0 52 1 (.slice D1.C.cd.na nl D1.C.cd.nc) nl (D1.C.nodes.map tY)):=jj (by
   have:=A2.yG;rw[A2.fx.nl,<-hnl] at this;exact this)
  rw[<-hnl] at c18;have HNL:=jj hnl;clear hnl;obtain⟨b0,hb0,d0⟩:=tu RW (k:=b) lK (v:=tY (some p)) (by rw[aS,HP.out];rfl);have d1:J w2 b0 b p.gx:=d0;rw[hb0] at c18;clear d0 RW hb0;have EF:Hid (D1.C.cd.f=D.C.cd.f):=jj (by rw[S1.same.f]);obtain⟨K2,v2⟩:=S
  go_wp2_with fail
  refine(aea x _ ⟨D1.C.cd.f,D1.C.n,b⟩ p.gx D1.C.b p.d K (A2.nat HP) A2.xlt A2.fx.f1 A2.fx.f4 A2.fx.n (by rw[nn1.out];exact HB.out) src A bl c CAP bs BL2 HBL.symm M z K2 v2 (by rw[EF.out,nn1.out,HPV.out];exact HRV.out)).mono ?_;rintro e w3 ⟨rfl,hgo⟩;have GO:=jj hgo;clear hgo;clear c18 d1;obtain⟨d',hst,hfx,hval⟩:=GO.out;have A3:=jj (A2.go HP hfx.nn hst).1;have T3:=jj (A2.go HP hfx.nn hst).2;have hp2:(D1.node b ⟨p.gx,d'⟩).C.nodes[b]?=some (some ⟨p.gx,d'⟩):=aL (ah.1 HP).1;have HP2:=jj hp2;have Ko:=jj hval;clear hst hfx hval GO hp2
  go_wp2_with fail
  refine(Vw A3 HP2).mono ?_;rintro e w4 ⟨rfl,FD,hT4,hO4⟩;have e4:(D1.node b ⟨p.gx,d'⟩).node b ⟨p.gx,d'.outs none 0 []⟩=D1.node b ⟨p.gx,d'.outs none 0 []⟩:=by simp[qb.node,Eu.node]
  simp only[] at FD hO4;rw[e4] at FD hT4;obtain⟨T4,A4,O4⟩:=j3 hT4 FD hO4;clear FD hO4 e4 hT4;obtain⟨MM,hMM,hMX⟩:=RL (D:=D1) (K:=K) HP Ko (by rw[nn1.out,V1.out];exact aiY.out);have HMM:=jj hMM;have HMX:=jj hMX;clear hMM hMX
  go_wp2_with fail
  have LO:Hid (d'.ol.length<=4096):=jj (by
   have:=HOL.out;rw[show(v2:ql)=d'.val from Ko.symm] at this;simpa[lU.val,uy] using this)
  rw[<-GC.out];refine(wh A4 b d'.oa d'.ol.length d'.oc d'.ol O4 LO MM HMM).mono ?_;rintro e w5 ⟨rfl,D5,Qp,hS5,Qr⟩;have A5:=jj Qp;have S5:=jj hS5;have V5:=jj (Qr.trans HMX);clear Qp hS5 Qr
  go_wp2_with fail
  go_ret;have KX:X'.K=K2:=by
   have:=aiY.out;unfold DF at this;simp only[aK] at this;obtain⟨_,_,rfl⟩:=this;rfl
  rw[KX];exact⟨by trivial,D5,A5,((((S1.below B2).trans T3)).trans T4).trans S5,V5⟩
 ·
  have BK:(D1.C.nodes.map fun o=>o.map fun p=>p.d.val)[b]?=some none:=by rw[ND.1];exact VH
  rw[aS] at BK;have hp:D1.C.nodes[b]?=some none:=by
   cases e:D1.C.nodes[b]? with
   |none=>rw[e] at BK;cases BK
   |some o=>cases o with
    |none=>rfl
    |some p=>rw[e] at BK;simp at BK
  have rt:r=false:=by
   rw[HR.out];have nb:dst∈D1.C.fl:=by
    have dv:dst=(b:Int):=by rw[HSD.2,zI,aV hbn]
    rw[dv];exact(A1.fx.bad b (by rw[nn1.out];exact hbn)).1 hp
   rw[aZ nb];simp
  subst rt;have HX:=jj hX;clear VH BK hX HC HR hp hbn n4 f4 f1
  go_wp2_with fail
  refine(GO1.out _ A1).mono ?_;rintro e w2 ⟨rfl,hA2,hB2⟩;have A2:=jj hA2;have B2:=jj hB2;clear hA2 hB2
  go_wp2_with fail
  go_ret;have e:=HX.out;rw[<-V1.out] at e;have KX:X'.K=K:=by rw[e];rfl
  rw[KX];exact⟨by trivial,D1,A2,S1.below B2,e.symm⟩
 ·
  have dv:dst=101:=by rw[HSD.2,hbn,zI,aU lK];omega
  subst dv;have rt:r=true:=by
   rw[HR.out];have nb: ¬(101:Int)∈D1.C.fl:=fun hm=>by have:=A1.fx.flt _ hm;omega
   rw[aR nb,qM.Fa D1.C.cd.f 2 101 true lT];rfl
  subst rt;obtain⟨HX,HCK,HB5⟩:=j3 hX hck akj;have HHR:=HR;clear hX hck akj HC HR hbn n4 f4 f1
  go_wp2_with fail
  refine(GO1.out _ A1).mono ?_;rintro e w2 ⟨rfl,hA2,hB2⟩;have A2:=jj hA2;have B2:=jj hB2;clear hA2 hB2;have BL2:=jj (BL.below B2);clear BL A1;have c19:J w2 gc 19 (.slice D1.C.cd.ka 2 D1.C.cd.kc):=by
   have:=A2.blk.cell 19;rw[GC.out] at this;have e:=A2.fx.kl;rw[<-e];exact this
  have RW:Hid (w2.ownsRow 0 41 1 (.slice D1.C.cd.ka 2 D1.C.cd.kc) 2 D1.C.kp):=jj (by
   have:=A2.wO;rw[A2.fx.kl] at this;exact this)
  obtain⟨b0,hb0,d1⟩:=tu RW (k:=1) lK (v:= .pointer (some ⟨D1.g1,0,none⟩)) (by rw[A2.fx.kp];rfl);rw[hb0] at c19;clear RW hb0;obtain⟨g1,hg1⟩:=ex D1.g1;rw[<-hg1] at d1;have HG1:=jj hg1;clear hg1;have ckd:Hid (D1.d1.val=(D.val K).ck):=jj (by rw[ND.2];rfl);have EF:Hid (D1.C.cd.f=D.C.cd.f):=jj (by rw[S1.same.f]);have go2: ∀wz,mJ x wz D1 K->mo wz A bl 1 (mZ bs)->Y 89 #[g1,.slice A bl c] wz fun e w'=>(∃t,e= .returned t)/\ ∃D2,mJ x w' D2 K/\pW wz w' D1 K D2 K/\D2.val K=X':=fun wz hz hbz=>by
   have hx:=HX.out;have hc:=HCK.out;rw[<-ckd.out] at hc;rw[HG1.out];unfold yN at hc;by_cases hwt:D1.d1.waits=false
   ·rw[aV (show D1.d1.val.waits=false from hwt)] at hc
    injection hc with hc;refine(Uj wz x D1.g1 D1.C.cd.f 1 D1.d1 hz.BJ.ck hwt A bl c).mono ?_;rintro e w' ⟨rfl,rfl⟩;refine⟨⟨_,rfl⟩,D1,hz,pW.refl _ _ _,?_⟩;rw[hx,V1.out,<-hc,ckd.out]
   rw[aU (show ¬D1.d1.val.waits=false from hwt)] at hc;simp only[aA,aK] at hc;obtain⟨q,hq,_,hmu,hsv⟩:=hc;have F:=mI hmu;obtain⟨j,hj,hqj⟩:=last_at hq;refine(adY wz x D1.g1 D1.C.b D1.C.cd.f 1 D1.d1 hz.BJ.ck hz.fx.f1 hz.fx.f4 lK K (by rw[hz.fx.n1];exact hz.Pt) (mR hwt) hz.xlt F.il F.al F.el j hj q hqj q.2.1 rfl sr res F.aaB A bl c bs z F.z40 F.ab2 F.bytes HBL.symm (by rw[HBL.out];exact HB5.out) CAP hbz (by rw[EF.out];exact F.ao2) lN F.it F.ao1).mono ?_;rintro e w' ⟨rfl,d2,hk2,w2,i2,a2,n2,l2,e2,o2,nn2,gt2,ho2,hf2⟩;have q2:d2.quiet:=o2.trans hz.fx.q1;have tt:=hz.acv hk2 ho2 hf2 nn2 q2;refine⟨⟨_,rfl⟩,D1.k1 d2,tt.1,tt.2,?_⟩;rw[hx,show(D1.k1 d2).val K={D1.val K with ck:=d2.val} from rfl,V1.out,<-hsv];show CV.mk _ _ _ _ _=CV.mk _ _ _ _ _
   congr 1
   show U2.mk _ _ _ _ _ _=U2.mk _ _ _ _ _ _;rw[w2,i2,a2,n2,l2,e2,EF.out];rfl
  have GO2:=jj go2;clear go2
  go_wp2_with fail
  refine(GO2.out _ A2 BL2).mono ?_;rintro e w3 ⟨⟨t,rfl⟩,D3,hA3,hS3,hV3⟩;obtain⟨A3,S3,V3⟩:=j3 hA3 hS3 hV3;clear hA3 hS3 hV3;clear c19 d1;have HG3:Hid (g1=D3.g1):=jj (by rw[S3.same.g1];exact HG1.out);have HC3:Hid (gc=D3.C.gc):=jj (by rw[S3.same.gc];exact GC.symm);rw[HG3.out,HC3.out]
  go_wp2_with fail
  refine(Oj A3).mono ?_;rintro e w4 ⟨Ao,co,rfl,hO4,D4,FD,Gs,Qq⟩;obtain⟨A4,S4,V4,O4⟩:=j4 FD Gs Qq hO4;clear FD Gs Qq hO4
  go_wp2_with fail
  rw[<-S4.same.gc];refine(wh A4 101 Ao 0 co [] O4 lK _ rfl).mono ?_;rintro e w5 ⟨rfl,D5,Qp,hS5,Qr⟩;obtain⟨A5,S5,V5⟩:=j3 Qp hS5 Qr;clear Qp hS5 Qr
  go_wp2_with fail
  go_ret;have KX:X'.K=K:=by rw[HX.out];rfl
  rw[KX];exact⟨by trivial,D5,A5,(((S1.below B2).trans S3).trans S4).trans S5,by rw[V5.out,V4.out];exact V3.out⟩
theorem Ji{ms:Nat->List (Value×List Int)}: ∀N,(∀j,j<N->ms j= [])->tK n ps ms N= []
 |0,_=>rfl
 |N+1,h=>by rw[wE,h N lK,aU lT,Ji N fun j hj=>h j lK]
theorem Mt{ms:Nat->List (Value×List Int)}(hk:ms k≠ [])(h0: ∀j,j<k->ms j= []): ∀d,∃r,tK n ps ms (k+1+d)=(ps.getD (k/n) 0,ps.getD (k%n) 0)::r
 |0=>⟨[],by rw[Nat.add_zero,wE,aV (List.length_pos_iff.2 hk),Ji k h0];rfl⟩
 |d+1=>by
  obtain⟨r,hr⟩:=Mt hk h0 d;rw[show k+1+(d+1)=(k+1+d)+1 by omega,wE,hr];split
  ·exact⟨r++ [_],rfl⟩
  exact⟨r,rfl⟩
theorem Rf(h:a<n+2):(pE n).getD a 0=zI n a:=by
 rw[bE,uZ h];rfl
theorem OZ:(D.val K).M k= []↔D.C.nd.ms k= []:=by
 show(D.C.nd.ms k).map _= []↔_;simp
theorem Xw{x:Nat}(h:mJ x w D K): ∃L:List (Int×Int),(∀k,Hz D.C.n (D.val K).M k-> ∃r,L=(zI D.C.n (k/(D.C.n+2)),zI D.C.n (k%(D.C.n+2)))::r)/\((∀k,k<(D.C.n+2)*(D.C.n+2)->(D.val K).M k= [])->L= [])/\
  Y 50 #[D.C.cd.gn] w fun e w'=> ∃A c,e= .returned (.slice A L.length c)/\Xh w' w.heap.size (.slice A L.length c) L/\Be w w':=by
 have n4:=h.fx.n;have f4:=h.fx.f4;have np:=h.fx.np;refine⟨tK D.C.nd.n D.C.nd.ps D.C.nd.ms (D.C.nd.n*D.C.nd.n),fun k hk=> ?_,fun h0=> ?_,abf w h.afH.nt lK _ rfl⟩
 ·obtain⟨h1,h2,h3⟩:=hk
  rw[np,h.fx.ps];obtain⟨r,hr⟩:=Mt (n:=D.C.n+2) (ps:=pE D.C.n) (ms:=D.C.nd.ms) (k:=k) (fun e=>h2 (OZ.2 e)) (fun j hj=>OZ.1 (h3 j hj)) ((D.C.n+2)*(D.C.n+2) -(k+1));rw[show k+1+((D.C.n+2)*(D.C.n+2) -(k+1))=(D.C.n+2)*(D.C.n+2) by omega] at hr;refine⟨r,?_⟩;rw[hr,Rf,Rf]
  ·exact ji _ lK
  exact(eB lK).2 h1
 rw[np];exact Ji _ fun j hj=>OZ.1 (h0 j hj)
theorem ZY(x:Nat)(w:World)(D:qb)(K:KS)(h:mJ x w D K)(X':CV)(hv:zP D.C.cd.f D.C.n (D.val K) X')(most:Int)(hm:1950<=most/\most<=1000000):
  Y 13 #[D.C.gc,U most] w fun e w'=>(∃z,e= .returned (U z))/\ ∃D',mJ x w' D' X'.K/\pW w w' D K D' X'.K/\D'.val X'.K=X':=by
 obtain⟨tot,X1,htot,hdr,htk⟩:=hv;obtain⟨HD,HT,H⟩:=j3 hdr htk h;obtain⟨gc,hgc⟩:=ex D.C.gc;rw[<-hgc];have GC:=jj hgc;clear h hdr htk hgc;obtain⟨m1,m2⟩:=hm;go_enter func13,ntmps13
 go_wp2_with fail
 go_loopw [5] (fun z wr=> ∃i m:Nat,i+m=tot/\z= U i/\ ∃D' K',mJ x wr D' K'/\pW w wr D K D' K'/\Ch D.C.cd.f D.C.n m (D'.val K') X1) (fun z _=>tot+1 -(intOf z).toNat)
 case atStart=>exact⟨0,tot,lK,by first|rfl|simp,D,K,H,pW.refl _ D K,HD⟩
 case round=>
  obtain⟨i,m,him,rfl,D1,K1,hA,hS,hT⟩:=hrel;obtain⟨AT,SM,DR⟩:=j3 hA hS hT;clear hA hS hT;have i1:(i:Int)<most:=lK;have i2:(0:Int)<=i:=lK;have GC1:Hid (D1.C.gc=gc):=jj (by rw[SM.same.gc,GC.out]);have c17:J wr gc 17 D1.C.cd.gn:=by have:=AT.blk.cell 17;rwa [GC1.out] at this
  obtain⟨L,hL1,hL2,hcall⟩:=Xw AT;obtain⟨LF,LN,LC⟩:=j3 hL1 hL2 hcall;clear hL1 hL2 hcall;obtain⟨ll,hll⟩:=ex L.length;rw[<-hll] at LC;have HLL:=jj hll;clear hll;have drc:=DR.out
  cases m with
  |zero=>
   obtain⟨e1,e0⟩:D1.val K1=X1/\ ∀k,k<(D.C.n+2)*(D.C.n+2)->(D1.val K1).M k= []:=by
    generalize D1.val K1=Y0 at drc
    cases drc with
    |done _ h=>exact⟨rfl,h⟩
   have l0:ll=0:=by rw[HLL.out,LN.out (by rw[SM.same.n];exact e0)];rfl
   subst l0;have E1:=jj e1;clear drc e0 e1
   go_wp2_with fail
   refine LC.mono ?_;rintro e w2 ⟨A,c,rfl,hp2,hb2⟩;have A2:=jj (AT.below hb2);have SM2:=jj (SM.below hb2);clear hp2 hb2
   go_wp2_with fail
   rw[<-GC1.out];refine(adn x _ D1 K1 A2 X' (by rw[E1.out,SM.same.n,SM.same.f];exact HT.out)).mono ?_;rintro e w3 ⟨rfl,D3,hA3,hS3,hV3⟩;obtain⟨A3,S3,V3⟩:=j3 hA3 hS3 hV3;clear hA3 hS3 hV3
   go_wp2_with fail
   go_ret;exact⟨⟨_,by trivial⟩,D3,A3,SM2.trans S3,V3⟩
  |succ m=>
   obtain⟨k,Y0,hf,hd,hr⟩: ∃k Y0,Hz D.C.n (D1.val K1).M k/\Gm D.C.cd.f D.C.n (k/(D.C.n+2)) (k%(D.C.n+2)) (D1.val K1) Y0/\Ch D.C.cd.f D.C.n m Y0 X1:=by
    generalize D1.val K1=Y0 at drc
    cases drc with
    |step _ k _ Y1 _ h1 h2 h3=>exact⟨k,Y1,h1,h2,h3⟩
   obtain⟨rl,hrl⟩:=LF.out k (by rw[SM.same.n];exact hf);have amL:=jj hd;have ai1:=jj hr;obtain⟨l1,hl1⟩: ∃l1,ll=l1+1:=⟨rl.length,by rw[HLL.out,hrl];rfl⟩;subst hl1;have HRL:=jj hrl;clear drc hf hd hr hrl;have q1: ¬((l1+1:Nat):Int)=0:=lK;have q2:((l1+1:Nat):Int)≠0:=lK
   go_wp2_with fail
   refine LC.mono ?_;rintro e w2 ⟨A,c,rfl,hp2,hb2⟩;have A2:=jj (AT.below hb2);have SM2:=jj (SM.below hb2);have P2:=jj hp2;clear hp2 hb2
   go_upto_region 5 with fail
   clear c17 LC q1 q2;obtain⟨xa,hxa⟩:=ex (zI D1.C.n (k/(D1.C.n+2)));obtain⟨xb,hxb⟩:=ex (zI D1.C.n (k%(D1.C.n+2)));have P3:=P2.out;rw[HRL.out,<-hxa,<-hxb] at P3;have HXA:=jj hxa;have HXB:=jj hxb;clear hxa hxb;have hlen:l1+1=(((xa,xb):Int×Int)::rl).length:=by rw[<-HLL.symm,HRL.out];rfl
   have P4:w2.ownsRow wr.heap.size 115 2 (.slice A (l1+1) c) (l1+1) ((((xa,xb):Int×Int)::rl).flatMap Il):=by
    unfold Xh at P3;rw[<-hlen] at P3;exact P3
   obtain⟨b,rfl⟩: ∃b,A=some ⟨b,0,none⟩:=by
    rcases rF P4 with⟨_,h,_⟩|h
    ·omega
    exact h
   have RR:=Row.sG P4;have bge:wr.heap.size<=b:=(dG P4 b (by rw[lV];rfl)).1;have BNF:Hid (b∉D1.nE K1):=jj (fun hm=>by have:=AT.lt b hm;omega);have d0:J w2 b 0 (U xa):=RR.cell (by simp[Il]);have d1:J w2 b 1 (U xb):=RR.cell (by simp[Il]);have DD:=jj (dH d0 d1);have j0:(0:Int)<((l1+1:Nat):Int):=lK;have j1:0<l1+1:=lK;clear P3 P4 RR d0 d1 P2 HRL hlen HLL bge;have KS: ∀u,Be w2 u->J u b 0 (U xa)/\J u b 1 (U xb):=fun u hu=>⟨kept hu _ _ DD.1,kept hu _ _ DD.2⟩;refine rP (fun u=>J u b 0 (U xa)/\J u b 1 (U xb)) 10 (tk 0 9 (.one 9 .done)) (KS _ ((aC _ _).drew)) ?_;intro hS0;obtain⟨w3,hw3⟩:=ex w2.drew;have A3:Hid (mJ x w3 D1 K1):=jj (by rw[hw3];exact A2.below (aC _ _).drew);have SM3:Hid (pW w w3 D K D1 K1):=jj (by rw[hw3];exact SM2.below (aC _ _).drew);rw[<-hw3] at hS0|-;clear hw3 KS
   repeat refine' tT ?_
   refine pO fun KT lS=> ?_;go_simp;rw[<-GC1.out];refine(Tc x w3 D1 K1 A3 (k/(D1.C.n+2)) (k%(D1.C.n+2)) Y0 (by rw[SM.same.n,SM.same.f];exact amL.out) xa xb HXA HXB).mono ?_;rintro e w4 ⟨rfl,D4,FD,Gs,Qq⟩;obtain⟨A4,S4,V4⟩:=j3 FD Gs Qq;clear FD Gs Qq;rw[GC1.out];have Gs:J w4 b 0 (U xa)/\J w4 b 1 (U xb):=⟨S4.only.cell_ hS0.1 BNF,S4.only.cell_ hS0.2 BNF⟩;refine oH lS Gs ?_;clear hS0;refine lM ?_;clear Gs
   go_wp2_with fail
   go_roundw
   case rel=>exact⟨i+1,m,lK,by go_num,D4,Y0.K,A4,SM3.trans S4,by rw[V4.out];exact ai1.out⟩
   simp[intOf];omega
theorem aaW (w:World) (x gk b:Nat) (f id:Int) (d:sI) (h:qF x w f id gk d) (h1:1<=f) (h4:f<=4) (hid:0<=id/\id<2) (K:List (Int×List Int)) (hN:vC w d.nn b K) (hw:d.waits=false) (hx:x<w.heap.size) (hl:d.il.length<=1000) (ho:d.ol.length<=1000) (hlen:K.length+1<1048576)
  (kd ky vl:Int) (hv:mq 2 (id,(d.il.length:Int)+1,kd,ky,vl,0)=true) (hok:xH (id,(d.il.length:Int)+1,kd,ky,vl,0)) (q:Int×List Int) (hq:q=(100+id,pq (id,(d.il.length:Int)+1,kd,ky,vl,0))) (hq2:Ns q) (r:Rq) (hr:r=(id,(d.il.length:Int)+1,kd,ky,vl,num (sealed K q) q))
  (q':Int×List Int) (hq':q'=(100+id,lX (mU id r))) (bs:LI) (hbs:bs=mD (num (sealed (sealed K q) q') q').toNat++lX (mU id r)) (n:Nat) (hn:(n:Int)=3*f+1):
  Y 47 #[gk,.agg #[U kd,U ky,U vl]] w fun e w'=>e= .returned (.tuple #[Kh r,U 0])/\ ∃d' x',qF x' w' f id gk d'/\d'.waits=true/\d'.il=d.il++ [r]/\d'.at_=d.now/\d'.now=d.now/\d'.al= []/\d'.el=d.el/\d'.nn=d.nn/\d'.gt=d.gt/\
   uy d'.ol=uy d.ol++(List.range n).map (fun i:Nat=>((i:Int),bs))/\vC w' d.nn b (sealed (sealed K q) q')/\Only (b::d.foot gk) w w'/\(∀g∈d'.foot gk,g∈d.foot gk\/w.heap.size<=g)/\(x'=x\/w.heap.size<=x'):=by
 obtain⟨i0,hi0,hz0,hz1,hz2⟩:=bq rT;obtain⟨r0,r1,r2,r3,r4,r5⟩:=r;obtain⟨nn,gt,waits,ia,ic,il,at_,aa,ac,al,ea,ec,el,oa,oc,ol,now⟩:=d;simp only at hN hw hl ho hv hok hq hr hq' hbs;subst hw;obtain⟨m,hm⟩:=ex il.length;obtain⟨om,hom⟩:=ex ol.length;obtain⟨am,ham⟩:=ex al.length;obtain⟨em,hem⟩:=ex el.length;rw[<-hm] at hl hv hok hq hr;rw[<-hom] at ho;have HB:Hid (lQ w gk 120 #[U f,U 2,U 2,U 4,U 64,U 8,U 8,U 8,U 1,U 2,U 12,U 8,U 6,U 2,U 6,
 U id,nn,gt,false,.slice ia m ic,U at_,.slice aa am ac,.slice ea em ec,.slice oa om oc]):=jj (by rw[hm,hom,ham,hem];exact h.blk)
 obtain⟨H,HN,HV,Nq,HQ,HQ2⟩:=j6 h hN hv hok hq hq2;obtain⟨HR,HQ',Lf,vB,HX,HM⟩:=j6 hr hq' hbs hn hx hm;have HOM:=jj hom;have HEM:=jj hem;have BLT:Hid (b<w.heap.size):=jj (by obtain⟨es,cl',hb,_⟩:=hN.map.ex;exact(eX.1 hb).1);have FB:Hid (∀g∈(⟨nn,gt,false,ia,ic,il,at_,aa,ac,al,ea,ec,el,oa,oc,ol,now⟩:sI).foot gk,g≠b/\g≠nn):=jj (fun g hg=>by
  have key: ∀{t:TypeId} {cs:AV},lQ w g t cs->t≠155->g≠b/\g≠nn:=fun hb ht=>⟨fun e=>hN.far hb e.symm,fun e=>hb.nY hN.obj ht e⟩;simp only[sI.foot,ay,aQ] at hg;rcases hg with rfl|rfl|hg|hg|hg|hg
  ·exact key h.blk lN
  ·exact key h.Bc lN
  ·obtain⟨_,cs,hc⟩:=lW h.yK g hg;exact key hc lN
  ·obtain⟨_,cs,hc⟩:=lW h.ans g hg;exact key hc lN
  ·obtain⟨_,cs,hc⟩:=lW h.acc g hg;exact key hc lN
  obtain⟨_,cs,hc⟩:=lW h.out.own g hg;exact key hc lN)
 have c18:=HB.at_ 18;clear hN hv hok hq hq2 hr hq' hbs hn hx hm hom ham hem h;go_enter func47,ntmps47
 go_upto_region 1 with fail
 generalize hv1:w.alloc _=v1;generalize hg3:w.heap.size=g3;replace hv1:=hv1.symm;replace hg3:=hg3.symm;obtain⟨v2,hv2⟩:=ex (v1.alloc (.cells #[U 0,U 0,U 0,U 0,U 0,U 0] 49));obtain⟨g4,hg4⟩:=ex v1.heap.size;have eg:g3+1=g4:=by rw[hg4,hv1,hg3];simp
 rw[<-hv2]
 try rw[eg]
 try rw[<-hg4]
 have X3:Hid (lQ v2 g3 38 #[U kd,U ky,U vl]):=jj (by rw[hv2];refine lQ.alloc ?_ _;rw[hv1,hg3];exact lQ.new _ _ _);have X4:=xNew hv2 hg4;have B2:Hid (Be w v2):=jj (by rw[hv2,hv1];exact(nC.alloc lT _));have GE:Hid (w.heap.size<=g3/\w.heap.size<=g4):=jj ⟨lK,lK⟩;clear hv1 hv2 hg3 hg4 eg c18;have c18:J v2 gk 18 false:=kept B2 _ _ (HB.cell 18)
 go_upto_region 3 with fail
 go_cut [6,7] from 13 to 36 (fun q6 q7 wx=>q7= U 0/\ ∃g6,q6= .pointer (some ⟨g6,0,none⟩)/\lQ wx g6 49 #[U r0,U r1,U r2,U r3,U r4,U r5]/\v2.heap.size<=g6/\vC wx nn b (sealed K q)/\Only [b] v2 wx)
 case first=>
  have KS:Hid (∀w',Only [b] v2 w'->J w' gk 16 nn/\J w' gk 1 (U 2)/\J w' gk 15 (U id)/\J w' gk 19 (.slice ia m ic)/\J w' g3 0 (U kd)/\J w' g3 1 (U ky)/\J w' g3 2 (U vl)):=jj fun w' o=>by
   have k1:=(HB.below B2 HB.lt).only o (by simpa using(FB.out gk (by simp[sI.foot])).1);have k2:=X3.only o (by have:=BLT.out;have:=GE.1;simp;omega);exact⟨k1.cell 16,k1.cell 1,k1.cell 15,k1.cell 19,k2.cell 0,k2.cell 1,k2.cell 2⟩
  have e1:IntKind.i64.wrap ((m:Int)+1)=(m:Int)+1:=aH _ lK;refine rP (fun w'=>J w' gk 16 nn/\J w' gk 1 (U 2)/\J w' gk 15 (U id)/\J w' gk 19 (.slice ia m ic)/\J w' g3 0 (U kd)/\J w' g3 1 (U ky)/\J w' g3 2 (U vl)) 27 (tk 0 20 (.two 20 (tk 21 3 (.one 24 (.one 25 (.take 26 .done)))) 24 (.one 20 (tk 21 3 (.one 25 (.take 26 .done)))))) (KS.out _ (Only.refl _ _).drew) ?_;intro hS0;obtain⟨v3,hv3⟩:=ex v2.drew;have O3:Hid (Only [b] v2 v3):=jj (by rw[hv3];exact(Only.refl _ _).drew);have B3:Hid (Be w v3):=jj (by rw[hv3];exact B2.drew);have Z3:Hid (v3.heap.size=v2.heap.size):=jj (by rw[hv3];rfl);rw[<-hv3] at hS0|-;clear hv3 c18
  repeat refine' tT ?_
  refine qN ?_ ?_
  ·refine pO fun KT lS=> ?_
   go_simp;refine(aa3 v3 nn b K (HN.below B3) 2 id ((m:Int)+1) kd ky vl HV Nq lK lK q HQ HQ2 _ rfl).mono ?_;rintro e v4 ⟨rfl,hn4,xQ⟩;rw[<-HR.out,show Kh (r0,r1,r2,r3,r4,r5)= .agg #[U r0,U r1,U r2,U r3,U r4,U r5] from rfl];have N4:=jj hn4;have O4:Hid (Only [b] v2 v4):=jj (O3.trans xQ);clear hn4 xQ;have S4:=KS.out _ O4;refine oH lS S4 ?_;clear hS0;have hS0:=S4
   repeat refine' tT ?_
   refine pO fun KT lS=> ?_;go_simp;generalize hv5:v4.alloc _=v5;generalize BR:v4.heap.size=g6;replace hv5:=hv5.symm;replace BR:=BR.symm;have X6:=xNew hv5 BR;have YR:Hid (v2.heap.size<=g6):=jj (by rw[BR];exact O4.size);have O5:Hid (Only [b] v2 v5):=jj (by rw[hv5];exact O4.alloc _);have N5:Hid (vC v5 nn b (sealed K q)):=jj (N4.below (by rw[hv5];exact nC));clear hv5 BR N4;have S5:=KS.out _ O5;refine oH lS S5 ?_;clear hS0 S4;have hS0:=S5
   repeat refine' tT ?_
   refine pO fun KT lS=> ?_;have y0:=X6.at_ 0;have z0:=X6.frozen 0;have y1:=X6.at_ 1;have z1:=X6.frozen 1;have y2:=X6.at_ 2;have z2:=X6.frozen 2;have y3:=X6.at_ 3;have z3:=X6.frozen 3;have y4:=X6.at_ 4;have z4:=X6.frozen 4;have y5:=X6.at_ 5;have z5:=X6.frozen 5;go_simp;obtain⟨w9,mE⟩:=ex (setW v5 g6 0 [U r0,U r1,U r2,U r3,U r4,U r5]);have K9:=jj (uL mE X6);have Ow9:=vM mE;simp only[setW,aO,Nat.reduceAdd] at mE;rw[<-mE];clear mE y0 z0 y1 z1 y2 z2 y3 z3 y4 z4 y5 z5;have O9:Only [b] v2 w9:=O5.then Ow9 (by simpa using .inr YR);have N9:=N5.only Ow9 (mR (N5.obj.nY X6 lN)) (mR (N5.far X6));have S9:=KS.out _ O9;refine oH lS S9 ?_;clear hS0 S5;have hS0:=S9
   repeat refine' tT ?_
   refine lM ?_
   go_wp2_with fail
   go_meet;exact⟨rfl,g6,rfl,K9,YR,N9,O9⟩
  refine pO fun KT lS=> ?_;go_simp;generalize hv4:v3.alloc _=v4;generalize BR:v3.heap.size=g6;replace hv4:=hv4.symm;replace BR:=BR.symm;have X4':=xNew hv4 BR;have YR:Hid (v2.heap.size<=g6):=jj (by rw[BR,Z3.out];exact aF _);have O4:Hid (Only [b] v2 v4):=jj (by rw[hv4];exact O3.alloc _);have B4:=GN B3 hv4;clear hv4 BR;have S4:=KS.out _ O4;refine oH lS S4 ?_;clear hS0;have hS0:=S4
  repeat refine' tT ?_
  refine pO fun KT lS=> ?_;go_simp;refine(aa3 v4 nn b K (HN.below B4) 2 id ((m:Int)+1) kd ky vl HV Nq lK lK q HQ HQ2 _ rfl).mono ?_;rintro e v5 ⟨rfl,hn4,xQ⟩;rw[<-HR.out,show Kh (r0,r1,r2,r3,r4,r5)= .agg #[U r0,U r1,U r2,U r3,U r4,U r5] from rfl];have N5:=jj hn4;have X6:Hid (lQ v5 g6 49 #[U 0,U 0,U 0,U 0,U 0,U 0]):=jj (X4'.only xQ (by have:=BLT.out;have:=YR.out;have:=B2.size;simp;omega));have O5:Hid (Only [b] v2 v5):=jj (O4.trans xQ);clear hn4 xQ;have S5:=KS.out _ O5;refine oH lS S5 ?_;clear hS0 S4;have hS0:=S5
  repeat refine' tT ?_
  refine pO fun KT lS=> ?_;have y0:=X6.at_ 0;have z0:=X6.frozen 0;have y1:=X6.at_ 1;have z1:=X6.frozen 1;have y2:=X6.at_ 2;have z2:=X6.frozen 2;have y3:=X6.at_ 3;have z3:=X6.frozen 3;have y4:=X6.at_ 4;have z4:=X6.frozen 4;have y5:=X6.at_ 5;have z5:=X6.frozen 5;go_simp;obtain⟨w9,mE⟩:=ex (setW v5 g6 0 [U r0,U r1,U r2,U r3,U r4,U r5]);have K9:=jj (uL mE X6);have Ow9:=vM mE;simp only[setW,aO,Nat.reduceAdd] at mE;rw[<-mE];clear mE y0 z0 y1 z1 y2 z2 y3 z3 y4 z4 y5 z5;have O9:Only [b] v2 w9:=O5.then Ow9 (by simpa using .inr YR);have N9:=N5.only Ow9 (mR (N5.obj.nY X6 lN)) (mR (N5.far X6));have S9:=KS.out _ O9;refine oH lS S9 ?_;clear hS0 S5;have hS0:=S9
  repeat refine' tT ?_
  refine lM ?_
  go_wp2_with fail
  go_meet;exact⟨rfl,g6,rfl,K9,YR,N9,O9⟩
 case rest=>
  obtain⟨rfl,g6,rfl,BR,hge,hn6,KC⟩:=hcut;obtain⟨w3,hw3⟩:=ex wc;rw[<-hw3];rw[<-hw3] at BR hn6 KC;clear hw3;have N3:=jj hn6;have X6:=jj BR;have O3:Hid (Only [b] w w3):=jj ((Only.of_below B2).trans KC);have YR:Hid (w.heap.size<=g6):=jj (aG B2.size hge);have K3:Hid (qF x w3 f id gk ⟨nn,gt,false,ia,ic,il,at_,aa,ac,al,ea,ec,el,oa,oc,ol,now⟩):=jj (H.only O3 (fun g hg=>by simp only[au] at hg;subst hg;exact .inr fun t cs hc=>absurd rfl (HN.far hc)) fun g hg=>by simpa using(FB.out g hg).1);have HB3:=jj (HB.only O3 (by simpa using(FB.out gk (by simp[sI.foot])).1));have X4':=jj (X4.only KC (by have:=BLT.out;have:=GE.2;simp;omega));have atM:Hid (g4≠g6):=jj (tL X4.lt);clear BR hge hn6 KC c18
  go_upto_region 6 with fail
  refine rD (fun w'=>J w' gk 19 (.slice ia m ic)/\J w' g6 0 (U r0)/\J w' g6 1 (U r1)/\J w' g6 2 (U r2)/\J w' g6 3 (U r3)/\J w' g6 4 (U r4)/\J w' g6 5 (U r5)) 10 (tk 0 6 (.one 6 (.one 7 (.one 8 (.take 9 (.one 10 .done)))))) ⟨HB3.drew.cell 19,X6.drew.cell 0,X6.drew.cell 1,X6.drew.cell 2,X6.drew.cell 3,X6.drew.cell 4,X6.drew.cell 5⟩ fun v5 E5 hS0=> ?_;have KS:Hid (∀w',Only [] w3 w'->J w' gk 19 (.slice ia m ic)/\J w' g6 0 (U r0)/\J w' g6 1 (U r1)/\J w' g6 2 (U r2)/\J w' g6 3 (U r3)/\J w' g6 4 (U r4)/\J w' g6 5 (U r5)):=jj fun w' o=>by
   have k1:=HB3.only o lT;have k2:=X6.only o lT;exact⟨k1.cell 19,k2.cell 0,k2.cell 1,k2.cell 2,k2.cell 3,k2.cell 4,k2.cell 5⟩
  repeat refine' tT ?_
  refine pO fun KT lS=> ?_;go_simp;generalize hv7:v5.alloc _=v7;generalize sM:v5.heap.size=g7;replace hv7:=hv7.symm;replace sM:=sM.symm;have E7:=GN E5 hv7;have X7:=xNew hv7 sM;clear hv7 sM;have S7:=KS.out _ (Only.of_below E7);refine oH lS S7 ?_;clear hS0;have hS0:=S7
  repeat refine' tT ?_
  refine pO fun KT lS=> ?_;refine oo (by rfl) _ _ _ (by rfl) 0 49 i0 _ 6 48 underlying46 hi0 hz0 hz1 hz2 rfl lK ia m ic (il.flatMap rA) (by rfl) (by rw[HM.out];exact own_below K3.yK E7) (some ⟨g7,0,none⟩) 1 1 (rA (r0,r1,r2,r3,r4,r5)) (by rfl) (mo.nR (n:=1) (s:=6) X7 rfl) (fun u hu=>Bt [(r0,r1,r2,r3,r4,r5)] u (mR hu)) (by unfold maxLen;omega) lK (bF _) ?_;intro a8 c8 v8 h8;have NEK: ∀k∈(ia.map (·.block)).toList,k=x:=fun k hk=>K3.isx k (aJ.1 hk);have NE6: ∀k∈(ia.map (·.block)).toList,k≠g6:=fun k hk e=>by have:=NEK k hk;have:=HX.out;have:=YR.out;omega
  have NE4:Hid (g4∉(ia.map (·.block)).toList):=jj fun hm=>by have:=NEK g4 hm;have:=HX.out;have:=GE.2;omega
  have NEg: ∀k∈(ia.map (·.block)).toList,k≠gk:=oJ K3.yK HB3 lN;have o8:=h8.only;have P8:Hid (Only (ia.map (·.block)).toList w3 v8):=jj ((Only.of_below E7).trans o8);have K8:=jj (HB3.only P8 fun hm=>NEg _ hm rfl);have X68:=jj (X6.only P8 fun hm=>NE6 _ hm rfl);have X48:=jj (X4'.only P8 NE4);have afN: ∀g∈(ia.map (·.block)).toList,nV x w3 g:=fun g hg=> .inl ⟨NEK g hg,fun t cs hc=>by
   obtain⟨_,cs',hc'⟩:=lW K3.yK g hg;exact sN hc' hc⟩
  have afZ:Hid (vT v8 gt now):=jj (lQ.only K3.Bc P8 fun hm=>oJ K3.yK K3.Bc lN _ hm rfl);have amo:=jj (wF K3.ans P8 fun g hg hm=>uP K3.ans K3.yK lN g hg hm);have amm:=jj (wF K3.acc P8 fun g hg hm=>uP K3.acc K3.yK lN g hg hm);have agq:Hid (nJ x v8 oa ol.length oc ol):=jj (K3.out.out.only P8 afN fun g hg hm=>uP K3.out.out.own K3.yK lN g (aJ.2 hg) hm);have N8:Hid (vC v8 nn b (sealed K q)):=jj (N3.only P8 (fun hm=>oJ K3.yK N3.obj lN _ hm rfl) (fun hm=>by obtain⟨_,cs',hc⟩:=lW K3.yK _ hm;exact N3.far hc rfl));obtain⟨x',hx',ISX⟩: ∃x',(x'=x\/w3.heap.size<=x')/\Hid (∀g,a8.map (·.block)=some g->g=x'):=by
   cases ha:a8.map (·.block) with
   |none=>exact⟨x,.inl rfl,jj fun g hg=>by cases hg⟩
   |some k=>
    refine⟨k,?_,jj fun g hg=>(dh hg).symm⟩;rcases h8.at_ k ha with h|h
    ·exact .inl (K3.isx k h)
    exact .inr (aG E7.size h)
  have afj:Hid (nJ x' v8 oa ol.length oc ol):=by
   rcases hx' with rfl|hx'
   ·exact agq
   exact jj (agq.both (K3.out.out.re hx'))
  have XLT:Hid (x'<v8.heap.size):=by
   have:a8.map (·.block)=some x'\/a8=none:=by
    cases a8 with
    |none=>exact .inr rfl
    |some a=>exact .inl (by have:=ISX.out a.block rfl;simp[this])
   rcases this with h|h
   ·exact jj (h8.own.lt x' (by rw[lV];exact h)).2
   subst h;have:=rF h8.own;simp at this
  have ai8:Hid (v8.ownsRow 0 49 6 (.slice a8 (m+1) c8) (m+1) ((il++ [(r0,r1,r2,r3,r4,r5)]).flatMap rA)):=jj (by rw[bS];simpa using h8.own);have WQ:Hid (∀k,a8.map (·.block)=some k->ia.map (·.block)=some k\/w3.heap.size<=k):=jj fun k hk=>by
   rcases h8.at_ k hk with h|h
   ·exact .inl h
   exact .inr (aG E7.size h)
  have HX':=jj hx';clear h8 o8 NEK NEg afN hx' agq;have S8:J v8 gk 19 (.slice ia m ic)/\J v8 g6 0 (U r0)/\J v8 g6 1 (U r1)/\J v8 g6 2 (U r2)/\J v8 g6 3 (U r3)/\J v8 g6 4 (U r4)/\J v8 g6 5 (U r5):=⟨K8.cell 19,X68.cell 0,X68.cell 1,X68.cell 2,X68.cell 3,X68.cell 4,X68.cell 5⟩;refine oH lS S8 ?_;clear hS0 S7;have hS0:=S8
  repeat refine' tT ?_
  refine pO fun KT lS=> ?_;go_simp;refine oH lS S8 ?_
  repeat refine' tT ?_
  have f8:=K8.frozen 19;refine pL fun KT lS=> ?_;go_simp;refine oL lS ?_;refine lM ?_;clear hS0 S8 f8 NE6;obtain⟨v9,CR⟩:=ex (v8.setCell ⟨gk,19,none⟩ (.slice a8 (m+1) c8));rw[<-CR];have o9:Hid (Only [gk] v8 v9):=jj (by rw[CR];exact(Only.refl [gk] _).setCell (.inl lT) _);have K9:Hid (lQ v9 gk 120 #[U f,U 2,U 2,U 4,U 64,U 8,U 8,U 8,U 1,U 2,U 12,U 8,U 6,U 2,U 6,U id,nn,gt,false,.slice a8 (m+1) c8,U at_,.slice aa am ac,.slice ea em ec,.slice oa om oc]):=jj (by rw[CR];exact K8.mg 19 _);clear CR;have c17:=K9.at_ 17
  go_wp2_with fail
  refine(Tj _ gt now (lQ.only afZ o9 (by simpa using(K8.nY afZ lN).symm))).mono ?_;rintro e w' ⟨rfl,rfl⟩;have c18:=K9.at_ 18;have c20:=K9.at_ 20;have c21:=K9.at_ 21;have f18:=K9.frozen 18;have f20:=K9.frozen 20;have f21:=K9.frozen 21
  go_upto_region 8 with fail
  obtain⟨va,hva⟩:=ex (((v9.setCell ⟨gk,18,none⟩ true).setCell ⟨gk,20,none⟩ (U now)).setCell ⟨gk,21,none⟩ ());rw[<-hva];have oa':Hid (Only [gk] v8 va):=jj (by rw[hva];exact(((o9.setCell (.inl lT) _).setCell (.inl lT) _).setCell (.inl lT) _));have KA:Hid (lQ va gk 120 #[U f,U 2,U 2,U 4,U 64,U 8,U 8,U 8,U 1,U 2,U 12,U 8,U 6,U 2,U 6,U id,nn,gt,true,.slice a8 (m+1) c8,U now,(),.slice ea em ec,.slice oa om oc]):=jj (by
   rw[hva];have t1:lQ (v9.setCell ⟨gk,18,none⟩ true) gk 120 #[U f,U 2,U 2,U 4,U 64,U 8,U 8,U 8,U 1,U 2,U 12,U 8,U 6,U 2,U 6,U id,nn,gt,true,.slice a8 (m+1) c8,U at_,.slice aa am ac,.slice ea em ec,.slice oa om oc]:=K9.mg 18 _;have t2:lQ ((v9.setCell ⟨gk,18,none⟩ true).setCell ⟨gk,20,none⟩ (U now)) gk 120 #[U f,U 2,U 2,U 4,U 64,U 8,U 8,U 8,U 1,U 2,U 12,U 8,U 6,U 2,U 6,U id,nn,gt,true,.slice a8 (m+1) c8,U now,.slice aa am ac,.slice ea em ec,.slice oa om oc]:=t1.mg 20 _;exact t2.mg 21 _)
  clear hva c17 c18 c20 c21 f18 f20 f21;have afO: ∀g∈ [gk],nV x' v8 g:=by simpa using nV.of K8 lN
  have adb:=jj (afj.only oa' afO fun g hg hm=>oJ afj.own K8 lN g (aJ.2 hg) (mR hm));have NA:=jj (N8.only oa' (mR (N8.obj.nY K8 lN)) (mR (N8.far K8)));have agh:=jj (mh ai8 oa' K8 lN)
  go_wp2_with fail
  refine(adX va gk nn b (sealed K q) NA _ KA f id h1 h4 lK rfl rfl rfl a8 (m+1) c8 (il++ [(r0,r1,r2,r3,r4,r5)]) rfl ⟨l9 agh,by simp[HM.out],qB agh,uO agh⟩ m rfl lK (r0,r1,r2,r3,r4,r5) (by rw[HM.out];simp) (by
   rw[HR.out];have ok:=Nq.out;have np:=Cu K q;refine⟨ok.1,ok.2.1,ok.2.2.1,ok.2.2.2.1,ok.2.2.2.2.1,?_⟩;have:=aem K q hlen;exact⟨by simp only;omega,by simp only;omega⟩) oa om oc rfl ol x' (by rw[HOM.out];exact adb.out) lK (aB XLT oa'.size) (tL (JG K q)) q' HQ' bs Lf n vB).mono ?_
  rintro e vb ⟨rfl,A',c',L',hkb,Dm,hvb,hnb,oob,akg⟩;have GKB:gk∉(oa.map (·.block)).toList:=fun hm=>oJ adb.own KA lN _ hm rfl;obtain⟨OOB,HNB,HOB,HKB,HVB,ATB⟩:=j6 oob hnb Dm hkb hvb akg;have key: ∀(g t:Nat) (cs:AV),lQ v8 g t cs->t≠120->t≠179->lQ vb g t cs:=fun g t cs hb h1 h2=>by
   have ha:=hb.only oa' (mR (hb.nY K8 h1));refine ha.only oob fun hm=> ?_;simp only[ay] at hm;rcases hm with rfl|rfl|hm
   ·exact NA.far ha rfl
   ·exact ha.nY KA h1 rfl
   exact oJ adb.own ha h2.symm _ hm rfl
  have adV: ∀{t s n c:Nat} {a:OA} {xs:LV},v8.ownsRow 0 t s (.slice a n c) n xs->t≠120->t≠179->vb.ownsRow 0 t s (.slice a n c) n xs:=fun ho h1 h2=>by
   have ha:=mh ho oa' K8 h1;refine wF ha oob fun g hg hm=> ?_;simp only[ay] at hm;rcases hm with rfl|rfl|hm
   ·obtain⟨_,cs',hc⟩:=lW ha _ hg;exact NA.far hc rfl
   ·exact oJ ha KA h1 _ hg rfl
   exact uP ha adb.own h2 _ hg hm
  have X6B:=jj (key g6 _ _ X68 lN lN);have Pm:=jj (key g4 _ _ X48 lN lN);have amE:Hid (vT vb gt now):=jj (key gt _ _ afZ lN lN);have anc:=jj (adV ai8 lN lN);have ar9:=jj (adV amo lN lN);have amn:=jj (adV amm lN lN);clear key adV hkb Dm hvb hnb oob akg afO;have y0:=Pm.at_ 0;have z0:=Pm.frozen 0;have q0:=X6B.at_ 0;have y1:=Pm.at_ 1;have z1:=Pm.frozen 1;have q1:=X6B.at_ 1;have y2:=Pm.at_ 2;have z2:=Pm.frozen 2;have q2:=X6B.at_ 2;have y3:=Pm.at_ 3;have z3:=Pm.frozen 3;have q3:=X6B.at_ 3;have y4:=Pm.at_ 4;have z4:=Pm.frozen 4;have q4:=X6B.at_ 4;have y5:=Pm.at_ 5;have z5:=Pm.frozen 5;have q5:=X6B.at_ 5
  go_wp2_with fail
  obtain⟨w9,mE⟩:=ex (setW vb g4 0 [U r0,U r1,U r2,U r3,U r4,U r5]);have K9:=jj (uL mE Pm);have og:=jj (vM mE);simp only[setW,aO,Nat.reduceAdd] at mE;rw[<-mE];clear mE y0 y1 y2 y3 y4 y5 z0 z1 z2 z3 z4 z5 q0 q1 q2 q3 q4 q5;have S4g: ∀k∈ [g4],k∈(b::(⟨nn,gt,false,ia,ic,il,at_,aa,ac,al,ea,ec,el,oa,oc,ol,now⟩:sI).foot gk)\/w.heap.size<=k:=by simpa using .inr GE.2
  have F1:Only (b::(⟨nn,gt,false,ia,ic,il,at_,aa,ac,al,ea,ec,el,oa,oc,ol,now⟩:sI).foot gk) w w3:=O3.mono lT;have F2:=F1.then P8 (fun k hk=> .inl (by simp only[sI.foot,ay,aQ];exact .inr (.inr (.inr (.inl hk)))));have F3:=F2.then oa' (by simp[sI.foot]);have F4:=F3.then OOB (fun k hk=>by
   simp only[ay] at hk;rcases hk with rfl|rfl|hk
   ·exact .inl lT
   ·exact .inl (by simp[sI.foot])
   exact .inl (by simp only[sI.foot,ay,aQ];exact .inr (.inr (.inr (.inr (.inr (.inr hk)))))))
  have F5:=F4.then og S4g;have g4s: ∀g∈ [g4],g=g4:=fun g hg=>by simpa using hg
  have n9: ∀(g t:Nat) (cs:AV),lQ vb g t cs->t≠49->lQ w9 g t cs:=fun g t cs hb ht=>hb.only og (mR (hb.nY Pm ht));have G4X:g4≠x':=by
   rcases HX'.out with h|h
   ·have:=HX.out;have:=GE.2;omega
   have:=X4'.lt;omega
  refine dF (v:= .tuple #[.agg #[U r0,U r1,U r2,U r3,U r4,U r5],U 0]) ?_ rfl ⟨rfl,⟨nn,gt,true,a8,c8,il++ [(r0,r1,r2,r3,r4,r5)],now,none,0,[],ea,ec,el,A',c',L',now⟩,x',⟨?_,n9 _ _ _ amE lN,?_,ISX.out,⟨rfl,.inl ⟨rfl,rfl⟩⟩,mh amn og Pm lN,?_⟩,rfl,rfl,rfl,rfl,rfl,rfl,rfl,rfl,HVB,HNB.only og (mR (HNB.obj.nY Pm lN)) (mR (HNB.far Pm)),F5,?_,?_⟩
  ·exact mV Tryz.results47 _ w9 g4 _ _ _ _ (by rfl) K9 underlying49 rfl (by kernel_rfl)
  ·have e:Nz f id ⟨nn,gt,true,a8,c8,il++ [(r0,r1,r2,r3,r4,r5)],now,none,0,[],ea,ec,el,A',c',L',now⟩=#[U f,U 2,U 2,U 4,U 64,U 8,U 8,U 8,U 1,U 2,U 12,U 8,U 6,U 2,U 6,U id,.pointer (some ⟨nn,0,none⟩),.pointer (some ⟨gt,0,none⟩),.bool true,.slice a8 (m+1) c8,U now,.slice none 0 0,.slice ea em ec,.slice A' (om+n) c']:=by
    simp[Nz,HOB.len,HM.out,HEM.out]
   rw[e];exact n9 _ _ _ HKB lN
  ·have e:(il++ [(r0,r1,r2,r3,r4,r5)]).length=m+1:=by simp[HM.out]
   simp only[e];exact wF anc og fun g hg hm=>by
    rw[g4s g hm] at hg;exact G4X (ISX.out g4 (aJ.1 hg))
  ·simp only[HOB.len]
   exact HOB.Ak og Pm lN lN
  ·intro g hg
   simp only[sI.foot,ay,aQ] at hg|-;have OS:w.heap.size<=w3.heap.size:=O3.size;have OS2:w3.heap.size<=va.heap.size:=aG P8.size oa'.size;rcases hg with rfl|rfl|hg|hg|hg|hg
   ·exact .inl (.inl rfl)
   ·exact .inl (.inr (.inl rfl))
   ·rcases WQ.out g (aJ.1 hg) with h|h
    ·exact .inl (.inr (.inr (.inl (aJ.2 h))))
    exact .inr (aG OS h)
   ·simp at hg
   ·exact .inl (.inr (.inr (.inr (.inr (.inl hg)))))
   rcases ATB.out g (aJ.1 hg) with h|h
   ·exact .inl (.inr (.inr (.inr (.inr (.inr (aJ.2 h))))))
   exact .inr (aG (aG OS OS2) h)
  rcases HX'.out with h|h
  ·exact .inl h
  exact .inr (aG O3.size h)
abbrev Zb:Array Value:=#[U 0,U 0,U 0,U 0,U 0,U 0]
theorem YO(h:lQ w g 49 Zb)(i:Nat)(hi:i<6):lQ (w.setCell ⟨g,i,none⟩ (U 0)) g 49 Zb:=by
 have:=h.mg i (U 0);rcases(by omega:i=0\/i=1\/i=2\/i=3\/i=4\/i=5) with rfl|rfl|rfl|rfl|rfl|rfl<;>exact this
theorem afR(h:lQ w g 49 Zb):lQ ((((((w.setCell ⟨g,0,none⟩ (U 0)).setCell ⟨g,1,none⟩ (U 0)).setCell ⟨g,2,none⟩ (U 0)).setCell ⟨g,3,none⟩ (U 0)).setCell ⟨g,4,none⟩ (U 0)).setCell ⟨g,5,none⟩ (U 0)) g 49 Zb:=
 YO (YO (YO (YO (YO (YO h 0 lN) 1 lN) 2 lN) 3 lN) 4 lN) 5 lN
theorem Pk{w0:World}{B:Nat}(h:Below B w0 w)(hg:B<=g):Below B w0 ((((((w.setCell ⟨g,0,none⟩ (U 0)).setCell ⟨g,1,none⟩ (U 0)).setCell ⟨g,2,none⟩ (U 0)).setCell ⟨g,3,none⟩ (U 0)).setCell ⟨g,4,none⟩ (U 0)).setCell ⟨g,5,none⟩ (U 0)):=
 ((((((h.setCell (p:=⟨g,0,none⟩) hg _).setCell (p:=⟨g,1,none⟩) hg _).setCell (p:=⟨g,2,none⟩) hg _).setCell (p:=⟨g,3,none⟩) hg _).setCell (p:=⟨g,4,none⟩) hg _).setCell (p:=⟨g,5,none⟩) hg _)
theorem VR(w:World)(nn:Nat)(cl c t kd ky vl:Int)(hv:mq cl (c,t,kd,ky,vl,0)=false):
  Y 80 #[nn,U cl,U c,U t,.agg #[U kd,U ky,U vl]] w fun e w'=>e= .returned (.tuple #[.agg Zb,U 1])/\Be w w':=by
 have HV:=jj hv;clear hv;go_enter func80,ntmps80
 go_upto_region 2 with fail
 generalize hv1:w.alloc _=v1;generalize vE:w.heap.size=g9;replace hv1:=hv1.symm;replace vE:=vE.symm;obtain⟨v2,hv2⟩:=ex (v1.alloc (.cells #[U 0,U 0,U 0,U 0,U 0,U 0] 49));obtain⟨g10,IC⟩:=ex v1.heap.size;have eg:g9+1=g10:=by rw[IC,hv1,vE];simp
 rw[<-hv2]
 try rw[eg]
 try rw[<-IC]
 obtain⟨v3,hv3⟩:=ex (v2.alloc (.cells #[U c,U t,U kd,U ky,U vl,U 0] 49));obtain⟨g12,TD⟩:=ex v2.heap.size;have eg2:g10+1=g12:=by rw[TD,hv2,IC];simp
 have eg3:g9+1+1=g12:=by rw[eg,eg2]
 rw[<-hv3,eg2];have X12:=xNew hv3 TD;have X10:Hid (lQ v3 g10 49 Zb):=jj (by rw[hv3];refine lQ.alloc ?_ _;rw[hv2,IC];exact lQ.new _ _ _);have B3:Hid (Be w v3):=jj (by rw[hv3,hv2,hv1];exact((nC.alloc lT _).alloc (by simp;omega) _));have GE:Hid (w.heap.size<=g10):=jj lK;clear hv1 hv2 hv3 vE IC TD eg eg2 eg3;obtain⟨d0,d1,d2,d3,d4,d5⟩:=X12.a6
 go_wp2_with fail
 refine(D8 _ cl (c,t,kd,ky,vl,0) false HV).mono ?_;rintro e w4 ⟨rfl,hb⟩;have B4:=nO B3 hb;have Sj:=jj (X10.below hb X10.lt);clear hb d0 d1 d2 d3 d4 d5 X12 X10;have y0:=Sj.at_ 0;have z0:=Sj.frozen 0;have y1:=Sj.at_ 1;have z1:=Sj.frozen 1;have y2:=Sj.at_ 2;have z2:=Sj.frozen 2;have y3:=Sj.at_ 3;have z3:=Sj.frozen 3;have y4:=Sj.at_ 4;have z4:=Sj.frozen 4;have y5:=Sj.at_ 5;have z5:=Sj.frozen 5
 go_wp2_with fail
 (try simp only[Exit.inBlock,Exit.then])
 obtain⟨w9,mE⟩:=ex (((((((w4.setCell ⟨g10,0,none⟩ (U 0)).setCell ⟨g10,1,none⟩ (U 0)).setCell ⟨g10,2,none⟩ (U 0)).setCell ⟨g10,3,none⟩ (U 0)).setCell ⟨g10,4,none⟩ (U 0)).setCell ⟨g10,5,none⟩ (U 0)));rw[<-mE];have K9:lQ w9 g10 49 Zb:=by rw[mE];exact afR Sj
 have B9:Be w w9:=by rw[mE];exact Pk B4 GE
 clear mE;refine dF (v:= .tuple #[.agg Zb,U 1]) ?_ rfl ⟨rfl,B9⟩;exact(mV Tryz.results80 _ w9 g10 _ _ _ _ (by rfl) K9 underlying49 rfl (by kernel_rfl)).trans rfl
theorem XR(w:World)(x gk:Nat)(f id:Int)(d:sI)(h:qF x w f id gk d)(hw:d.waits=false)(hl:d.il.length<=1000)(kd ky vl:Int)(hv:mq 2 (id,(d.il.length:Int)+1,kd,ky,vl,0)=false):
  Y 47 #[gk,.agg #[U kd,U ky,U vl]] w fun e w'=>e= .returned (.tuple #[.agg Zb,U 1])/\Be w w':=by
 obtain⟨nn,gt,waits,ia,ic,il,at_,aa,ac,al,ea,ec,el,oa,oc,ol,now⟩:=d;simp only at hw hl hv;subst hw;obtain⟨m,hm⟩:=ex il.length;rw[<-hm] at hl hv;have hb:=h.blk;have HB:Hid (∃cs,lQ w gk 120 cs/\cs[18]?=some (.bool false)/\cs[16]?=some (.pointer (some ⟨nn,0,none⟩))/\cs[1]?=some (U 2)/\cs[15]?=some (U id)/\cs[19]?=some (.slice ia m ic)):=jj ⟨_,hb,rfl,rfl,rfl,rfl,by rw[hm];rfl⟩;clear hb h hm;have HV:=jj hv;clear hv;have CELL:Hid (∀w',Be w w'->J w' gk 18 false/\J w' gk 16 nn/\J w' gk 1 (U 2)/\J w' gk 15 (U id)/\J w' gk 19 (.slice ia m ic)):=jj (fun w' hb=>by
  obtain⟨cs,h0,h1,h2,h3,h4,h5⟩:=HB.out;have k:=h0.below hb h0.lt;exact⟨(k.cell 18).trans h1,(k.cell 16).trans h2,(k.cell 1).trans h3,(k.cell 15).trans h4,(k.cell 19).trans h5⟩)
 have c18:J w gk 18 false:=(CELL.out _ (aC _ _)).1;go_enter func47,ntmps47
 go_upto_region 1 with fail
 generalize hv1:w.alloc _=v1;generalize hg3:w.heap.size=g3;replace hv1:=hv1.symm;replace hg3:=hg3.symm;obtain⟨v2,hv2⟩:=ex (v1.alloc (.cells #[U 0,U 0,U 0,U 0,U 0,U 0] 49));obtain⟨g4,hg4⟩:=ex v1.heap.size;have eg:g3+1=g4:=by rw[hg4,hv1,hg3];simp
 rw[<-hv2]
 try rw[eg]
 try rw[<-hg4]
 have X3:Hid (lQ v2 g3 38 #[U kd,U ky,U vl]):=jj (by rw[hv2];refine lQ.alloc ?_ _;rw[hv1,hg3];exact lQ.new _ _ _);have X4:=xNew hv2 hg4;have B2:Hid (Be w v2):=jj (by rw[hv2,hv1];exact(nC.alloc lT _));have GE:Hid (w.heap.size<=g3/\w.heap.size<=g4):=jj ⟨lK,lK⟩;clear hv1 hv2 hg3 hg4 eg c18;have c18:J v2 gk 18 false:=(CELL.out _ B2).1
 go_upto_region 3 with fail
 go_cut [7] from 13 to 36 (fun q7 wx=>q7= U 1/\Be v2 wx)
 case first=>
  have KS:Hid (∀w',Be v2 w'->J w' gk 16 nn/\J w' gk 1 (U 2)/\J w' gk 15 (U id)/\J w' gk 19 (.slice ia m ic)/\J w' g3 0 (U kd)/\J w' g3 1 (U ky)/\J w' g3 2 (U vl)):=jj (fun w' o=>by
   have k1:=CELL.out _ (B2.trans (o.mono B2.size));have k2:=X3.below o X3.lt;exact⟨k1.2.1,k1.2.2.1,k1.2.2.2.1,k1.2.2.2.2,k2.cell 0,k2.cell 1,k2.cell 2⟩)
  have e1:IntKind.i64.wrap ((m:Int)+1)=(m:Int)+1:=aH _ lK;refine rD (fun w'=>J w' gk 16 nn/\J w' gk 1 (U 2)/\J w' gk 15 (U id)/\J w' gk 19 (.slice ia m ic)/\J w' g3 0 (U kd)/\J w' g3 1 (U ky)/\J w' g3 2 (U vl)) 27 (tk 0 20 (.two 20 (tk 21 3 (.one 24 (.one 25 (.take 26 .done)))) 24 (.one 20 (tk 21 3 (.one 25 (.take 26 .done)))))) (KS.out _ ((aC _ _).drew)) fun v3 B3 hS0=> ?_;clear c18
  repeat refine' tT ?_
  refine qN ?_ ?_
  ·refine pO fun KT lS=> ?_
   go_simp;refine(VR v3 nn 2 id ((m:Int)+1) kd ky vl HV).mono ?_;rintro e v4 ⟨rfl,hb4⟩;have B4:=nO B3 hb4;clear hb4;have S4:=KS.out _ B4;refine oH lS S4 ?_;clear hS0;have hS0:=S4
   repeat refine' tT ?_
   refine pO fun KT lS=> ?_;go_simp;generalize hv5:v4.alloc _=v5;generalize BR:v4.heap.size=g6;replace hv5:=hv5.symm;replace BR:=BR.symm;have X6:=xNew hv5 BR;have YR:Hid (v2.heap.size<=g6):=jj (by rw[BR];exact B4.size);have B5:=GN B4 hv5;clear hv5 BR;have S5:=KS.out _ B5;refine oH lS S5 ?_;clear hS0 S4;have hS0:=S5
   repeat refine' tT ?_
   refine pO fun KT lS=> ?_;have y0:=X6.at_ 0;have z0:=X6.frozen 0;have y1:=X6.at_ 1;have z1:=X6.frozen 1;have y2:=X6.at_ 2;have z2:=X6.frozen 2;have y3:=X6.at_ 3;have z3:=X6.frozen 3;have y4:=X6.at_ 4;have z4:=X6.frozen 4;have y5:=X6.at_ 5;have z5:=X6.frozen 5;go_simp;have B9:=Pk B5 YR;clear y0 z0 y1 z1 y2 z2 y3 z3 y4 z4 y5 z5;have S9:=KS.out _ B9;refine oH lS S9 ?_;clear hS0 S5;have hS0:=S9
   repeat refine' tT ?_
   refine lM ?_
   go_wp2_with fail
   go_meet;exact⟨rfl,B9⟩
  refine pO fun KT lS=> ?_;go_simp;generalize hv4:v3.alloc _=v4;generalize BR:v3.heap.size=g6;replace hv4:=hv4.symm;replace BR:=BR.symm;have X6a:=xNew hv4 BR;have YR:Hid (v2.heap.size<=g6):=jj (by rw[BR];exact B3.size);have B4:=GN B3 hv4;clear hv4 BR;have S4:=KS.out _ B4;refine oH lS S4 ?_;clear hS0;have hS0:=S4
  repeat refine' tT ?_
  refine pO fun KT lS=> ?_;go_simp;refine(VR v4 nn 2 id ((m:Int)+1) kd ky vl HV).mono ?_;rintro e v5 ⟨rfl,hb5⟩;have X6:Hid (lQ v5 g6 49 Zb):=jj (X6a.below hb5 X6a.lt);have B5:=nO B4 hb5;clear hb5 X6a;have S5:=KS.out _ B5;refine oH lS S5 ?_;clear hS0 S4;have hS0:=S5
  repeat refine' tT ?_
  refine pO fun KT lS=> ?_;have y0:=X6.at_ 0;have z0:=X6.frozen 0;have y1:=X6.at_ 1;have z1:=X6.frozen 1;have y2:=X6.at_ 2;have z2:=X6.frozen 2;have y3:=X6.at_ 3;have z3:=X6.frozen 3;have y4:=X6.at_ 4;have z4:=X6.frozen 4;have y5:=X6.at_ 5;have z5:=X6.frozen 5;go_simp;have B9:=Pk B5 YR;clear y0 z0 y1 z1 y2 z2 y3 z3 y4 z4 y5 z5;have S9:=KS.out _ B9;refine oH lS S9 ?_;clear hS0 S5;have hS0:=S9
  repeat refine' tT ?_
  refine lM ?_
  go_wp2_with fail
  go_meet;exact⟨rfl,B9⟩
 case rest=>
  obtain⟨rfl,hbc⟩:=hcut;have B3:=nO B2 hbc;have Y4:=jj (X4.below hbc X4.lt);clear hbc;have y0:=Y4.at_ 0;have z0:=Y4.frozen 0;have y1:=Y4.at_ 1;have z1:=Y4.frozen 1;have y2:=Y4.at_ 2;have z2:=Y4.frozen 2;have y3:=Y4.at_ 3;have z3:=Y4.frozen 3;have y4:=Y4.at_ 4;have z4:=Y4.frozen 4;have y5:=Y4.at_ 5;have z5:=Y4.frozen 5
  go_wp2_with fail
  (try simp only[Exit.inBlock,Exit.then])
  obtain⟨w9,mE⟩:=ex (((((((wc.setCell ⟨g4,0,none⟩ (U 0)).setCell ⟨g4,1,none⟩ (U 0)).setCell ⟨g4,2,none⟩ (U 0)).setCell ⟨g4,3,none⟩ (U 0)).setCell ⟨g4,4,none⟩ (U 0)).setCell ⟨g4,5,none⟩ (U 0)));rw[<-mE];have K9:lQ w9 g4 49 Zb:=by rw[mE];exact afR Y4
  have B9:Be w w9:=by rw[mE];exact Pk B3 GE.2
  clear mE;refine dF (v:= .tuple #[.agg Zb,U 1]) ?_ rfl ⟨rfl,B9⟩;exact(mV Tryz.results47 _ w9 g4 _ _ _ _ (by rfl) K9 underlying49 rfl (by kernel_rfl)).trans rfl
section
variable{x:Nat}{w:World}{D:qb}{K:KS}
theorem ZX(h:mJ x w D K)(kd ky vl:Int)(X':CV)(hv:Zp D.C.n kd ky vl (D.val K) X'):
  Y 11 #[D.C.gc,U 1,.agg #[U kd,U ky,U vl]] w fun e w'=>e= .returned (U 0)/\ ∃x' D',mJ x' w' D' X'.K/\pW w w' D K D' X'.K/\D'.val X'.K=X':=by
 obtain⟨r,q,q',bs,M,F,hM,hX⟩:=hv;obtain⟨r0,r1,r2,r3,r4,r5⟩:=r;obtain⟨HM,HX,HF,H⟩:=j4 hM hX F h;have c19:J w D.C.gc 19 (.slice D.C.cd.ka 2 D.C.cd.kc):=by have:=h.blk.cell 19;have e:=h.fx.kl;rw[<-e];exact this
 have RW:Hid (w.ownsRow 0 41 1 (.slice D.C.cd.ka 2 D.C.cd.kc) 2 D.C.kp):=jj (by have:=h.wO;rw[h.fx.kl] at this;exact this);obtain⟨b0,hb0,d1⟩:=tu RW (k:=1) lK (v:= .pointer (some ⟨D.g1,0,none⟩)) (by rw[h.fx.kp];rfl);rw[hb0] at c19;have KEEP:Hid (∀u,Be w u->J u D.C.gc 19 (O b0 2 D.C.cd.kc)/\J u b0 1 D.g1):=jj fun u hu=>⟨kept hu _ _ c19,kept hu _ _ d1⟩;obtain⟨gc,hgc⟩:=ex D.C.gc;obtain⟨g1,hg1⟩:=ex D.g1;obtain⟨kc,hkc⟩:=ex D.C.cd.kc;rw[<-hgc,<-hg1,<-hkc] at KEEP;rw[<-hgc];have GC:=jj hgc;have G1:=jj hg1;clear hM hX F h RW c19 d1 hb0 hgc hg1 hkc;go_enter func11,ntmps11
 go_upto_region 1 with fail
 generalize hv1:w.alloc _=v1;generalize hg5:w.heap.size=g5;replace hv1:=hv1.symm;replace hg5:=hg5.symm;have X5:=xNew hv1 hg5;have B1:=tQ hv1;clear hv1 hg5;have A1:=jj (H.below B1);obtain⟨c19,d1⟩:=KEEP.out _ B1;obtain⟨o0,o1,o2⟩:=X5.a3;have fx:=H.fx;have q1:=fx.q1;have call:Y 47 #[g1,.agg #[U kd,U ky,U vl]] v1 fun e w'=>e= .returned (.tuple #[.agg #[U r0,U r1,U r2,U r3,U r4,U r5],U 0])/\ ∃d' x',Only (D.C.b::D.d1.foot D.g1) v1 w'/\(∀g∈d'.foot g1,g∈D.d1.foot D.g1\/v1.heap.size<=g)/\UY x' w' ((D.C.cs K).set 0 (tZ D.C.cd.nn D.C.b (sealed (sealed K q) q'))) D.C.cd.f 1 g1 d'/\x'<w'.heap.size/\d'.val=X'.ck/\d'.nn=D.d1.nn/\uy d'.ol=(List.range D.C.n).map (fun i:Nat=>((i:Int),bs)):=by
  have f:=HF.out;rw[G1.out];refine(aaW v1 x D.g1 D.C.b D.C.cd.f 1 D.d1 A1.BJ.ck fx.f1 fx.f4 lK K (by rw[fx.n1];exact A1.Pt) f.waits A1.xlt f.il (by rw[q1];simp) f.K kd ky vl f.valid f.ok q f.hq f.hq2 (r0,r1,r2,r3,r4,r5) f.hr q' f.hq' bs f.hbs D.C.n fx.n).mono ?_;rintro e w' ⟨rfl,d',x',hc,k1,k2,k3,k4,k5,k6,k7,k8,ho,hn,hon,hf,hx⟩;rw[fx.n1] at hn;have bi:=A1.BJ.issue (nn:=D.C.cd.nn) (b:=D.C.b) (K:=K) rfl hn hc hon hf hx;refine⟨rfl,d',x',hon,hf,bi,?_,?_,k7,by rw[ho,q1];rfl⟩
  ·have il:0<d'.il.length:=by rw[k2];simp
   rcases rF hc.yK with⟨_,h0,_⟩|⟨g,hg⟩
   ·omega
   have e:g=x':=hc.isx g (by rw[hg];rfl);rw[<-e];exact hc.lt g (by simp[sI.foot,hg])
  have ck:(X':CV).ck={(D.val K).ck with waits:=true,il:=(D.val K).ck.il++ [(r0,r1,r2,r3,r4,r5)],at_:=(D.val K).ck.now,al:= []}:=by rw[HX.out]
  rw[ck];show U2.mk _ _ _ _ _ _=U2.mk _ _ _ _ _ _;rw[k1,k2,k3,k4,k5,k6];rfl
 have CALL:=jj call;clear call fx q1
 go_wp2_with fail
 refine CALL.mono ?_;rintro e w2 ⟨rfl,d',x',akH,akn,hb2,hx2,akl,akD,akI⟩;obtain⟨ON2,FN2,B2,X2,CK2,NN2⟩:=j6 akH akn hb2 hx2 akl akD;have OV2:=jj akI;clear akH akn hb2 hx2 akl akD akI c19 d1 o0 o1 o2 CALL
 go_upto_region 5 with fail
 generalize hw3:w2.alloc _=w3;replace hw3:=hw3.symm;have L3:=tQ hw3;clear hw3;have B3:=jj (B2.below L3);have ol:Hid (d'.ol.length=D.C.n):=jj (by have:=congrArg List.length OV2;simpa[uy] using this);obtain⟨l,hl0⟩:=ex d'.ol.length;have HL0:=jj hl0;clear hl0
 go_wp2_with fail
 refine(Ui w3 g1 _ B3.ck.blk d'.oa l d'.oc (by rw[HL0.out];rfl)).mono ?_;rintro e w4 ⟨rfl,hb4,xQ⟩;have c4:=B3.ck.abv hb4 xQ;have O4:Hid (nJ x' w4 d'.oa l d'.oc d'.ol):=jj (by rw[HL0.out];exact B3.ck.out.Ak xQ B3.ck.blk lN lN);have B4:=B3.own c4 (xQ.mono (by simp[sI.foot])) (fun k hk=> .inl (by
  simp only[sI.foot,ay,aQ,Option.map_none,Option.toList_none,aI,bK] at hk|-;rcases hk with hk|hk|hk|hk|hk
  ·exact .inl hk
  ·exact .inr (.inl hk)
  ·exact .inr (.inr (.inl hk))
  ·exact .inr (.inr (.inr (.inl hk)))
  exact .inr (.inr (.inr (.inr (.inl hk))))))
 have K2:Hid (X'.K=sealed (sealed K q) q'):=jj (by rw[HX.out];rfl);have A4:Hid (mJ x' w4 (D.k1 {d' with oa:=none,oc:=0,ol:= []}) X'.K):=jj ⟨by
  rw[K2.out];have e:=B4;rw[G1.out] at e;exact e,{H.fx with n1:=NN2.trans H.fx.n1,q1:=rfl},aB X2 (aG L3.size xQ.size)⟩
 have T4:Hid (pW w w4 D K (D.k1 {d' with oa:=none,oc:=0,ol:= []}) X'.K):=jj (by
  have bm:D.C.b∈Go.Proofs.YtgnhecmnlddjhaaGreat.nE (D.C.cs K):=pY (j:=0) (c:=tZ D.C.cd.nn D.C.b K) rfl (by simp[tZ,nM]);have t2:Only (D.nE K) w w2:=((Only.of_below B1).trans (ON2.mono fun k hk=> .inl (by
   rcases ay.1 hk with rfl|hk
   ·exact bL _ bm
   exact bH _ hk)))
  have g1f:g1∈D.d1.foot D.g1:=by rw[G1.out];exact jL
  have t4:Only (D.nE K) w w4:=(t2.belows L3).trans (xQ.mono fun k hk=> .inl (by
   rw[au] at hk;rw[hk];exact bH _ g1f))
  refine⟨afM D _,t4,fun k hk=> ?_⟩;rcases aQ.1 hk with hk|hk
  ·refine .inl (bL _ ?_)
   exact hk
  have hk':k∈d'.foot g1:=by
   rw[G1.out];simp only[sI.foot,ay,aQ,Option.map_none,Option.toList_none,aI,bK] at hk|-;rcases hk with hk|hk|hk|hk|hk
   ·exact .inl hk
   ·exact .inr (.inl hk)
   ·exact .inr (.inr (.inl hk))
   ·exact .inr (.inr (.inr (.inl hk)))
   exact .inr (.inr (.inr (.inr (.inl hk))))
  rcases FN2.out k hk' with h|h
  ·exact .inl (bH _ h)
  exact .inr (aG B1.size h))
 have V4:Hid ((D.k1 {d' with oa:=none,oc:=0,ol:= []}).val X'.K={X' with M:=(D.val K).M}):=jj (by
  have ck:=CK2.out;have hx:=HX.out;rw[hx] at ck|-;show CV.mk _ _ _ _ _=CV.mk _ _ _ _ _
  congr 1)
 clear hb4 xQ c4 B4
 go_wp2_with fail
 rw[GC.out];refine(wh A4 101 d'.oa l d'.oc d'.ol O4 (by have:=ol.out;have:=H.fx.n;have:=H.fx.f4;have:=HL0.out;omega) M (by rw[V4.out,OV2.out];exact HM.out)).mono ?_;rintro e w5 ⟨rfl,D5,Qp,hS5,Qr⟩;obtain⟨A5,S5,V5⟩:=j3 Qp hS5 Qr;clear Qp hS5 Qr
 go_wp2_with fail
 go_ret;refine⟨by trivial,x',D5,A5,T4.trans S5,?_⟩;rw[V5.out,V4.out];have hx:=HX.out;rw[hx]
theorem Xu(h:mJ x w D K)(kd ky vl:Int)(hwt:(D.val K).ck.waits=false)(hil:(D.val K).ck.il.length<=1000)(hv:mq 2 (1,((D.val K).ck.il.length:Int)+1,kd,ky,vl,0)=false):
  Y 11 #[D.C.gc,U 1,.agg #[U kd,U ky,U vl]] w fun e w'=>e= .returned (U 1)/\ ∃D',mJ x w' D' K/\pW w w' D K D' K/\D'.val K=D.val K:=by
 obtain⟨HV,WT,IL,H⟩:=j4 hv hwt hil h;have c19:J w D.C.gc 19 (.slice D.C.cd.ka 2 D.C.cd.kc):=by have:=h.blk.cell 19;have e:=h.fx.kl;rw[<-e];exact this
 have RW:Hid (w.ownsRow 0 41 1 (.slice D.C.cd.ka 2 D.C.cd.kc) 2 D.C.kp):=jj (by have:=h.wO;rw[h.fx.kl] at this;exact this);obtain⟨b0,hb0,d1⟩:=tu RW (k:=1) lK (v:= .pointer (some ⟨D.g1,0,none⟩)) (by rw[h.fx.kp];rfl);rw[hb0] at c19;have KEEP:Hid (∀u,Be w u->J u D.C.gc 19 (O b0 2 D.C.cd.kc)/\J u b0 1 D.g1):=jj fun u hu=>⟨kept hu _ _ c19,kept hu _ _ d1⟩;obtain⟨gc,hgc⟩:=ex D.C.gc;obtain⟨g1,hg1⟩:=ex D.g1;obtain⟨kc,hkc⟩:=ex D.C.cd.kc;rw[<-hgc,<-hg1,<-hkc] at KEEP;rw[<-hgc];have GC:=jj hgc;have G1:=jj hg1;clear hv hwt hil h RW c19 d1 hb0 hgc hg1 hkc;go_enter func11,ntmps11
 go_upto_region 1 with fail
 generalize hv1:w.alloc _=v1;generalize hg5:w.heap.size=g5;replace hv1:=hv1.symm;replace hg5:=hg5.symm;have X5:=xNew hv1 hg5;have B1:=tQ hv1;clear hv1 hg5;obtain⟨c19,d1⟩:=KEEP.out _ B1;obtain⟨o0,o1,o2⟩:=X5.a3
 go_wp2_with fail
 rw[G1.out];refine(XR v1 x D.g1 D.C.cd.f 1 D.d1 (H.below B1).BJ.ck WT IL kd ky vl HV).mono ?_;rintro e w2 ⟨rfl,hb2⟩;rw[<-G1.out];have B2:=nO B1 hb2;clear hb2 c19 d1 o0 o1 o2
 go_upto_region 5 with fail
 generalize hw3:w2.alloc _=w3;replace hw3:=hw3.symm;have B3:=GN B2 hw3;clear hw3;have A3:=jj (H.below B3)
 go_wp2_with fail
 rw[G1.out];refine(Oj A3).mono ?_;rintro e w4 ⟨Ao,co,rfl,hO4,D4,FD,Gs,Qq⟩;obtain⟨A4,S4,V4,O4⟩:=j4 FD Gs Qq hO4;clear FD Gs Qq hO4
 go_wp2_with fail
 rw[GC.out,<-S4.same.gc];refine(wh A4 101 Ao 0 co [] O4 lK _ rfl).mono ?_;rintro e w5 ⟨rfl,D5,Qp,hS5,Qr⟩;obtain⟨A5,S5,V5⟩:=j3 Qp hS5 Qr;clear Qp hS5 Qr
 go_wp2_with fail
 go_ret;exact⟨by trivial,D5,A5,(((pW.refl w D K).below B3).trans S4).trans S5,by rw[V5.out,V4.out]⟩
end
end Go.Proofs.YtgnhecmnlddjhaaGreat
