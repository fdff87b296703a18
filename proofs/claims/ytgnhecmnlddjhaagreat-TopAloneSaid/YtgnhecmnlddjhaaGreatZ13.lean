/- TopAlone, part 14 of 24: a proof squeezed by a program. -/
import Derived.Test.YtgnhecmnlddjhaaGreatZ12
import Derived.BigRegion
import Derived.WalkMore
import Derived.Deep.RegionWith
set_option linter.unusedVariables false
set_option linter.unusedSimpArgs false
set_option linter.defProp false
set_option maxRecDepth 100000
set_option maxHeartbeats 6400000
namespace Go.Proofs.YtgnhecmnlddjhaaGreat
open Go.RowKit Go.Proofs.Tryz
variable{K K':KS}{b:LN}{b2 c2 gk k n seq x:Nat}{f m0 m1:Int}{q:Int×List Int}{w w' w'':World}{z:Int×Int}{zs:List (Int×Int)}
theorem Vl(r:Rq): ∀(l pre:List oO) (k:Nat) (is:Bool),(∀(j:Nat) (d:oO),pre[j]?=some d->zT d.r r= -1)->Xp r l pre.length=some (k,is)->AtR (pre++l) r k is
 | [],pre,k,is,hp,h=>by
  simp only[Xp,aD,aM] at h;obtain⟨rfl,rfl⟩:=h;rw[eG];exact⟨aF _,fun j d _ hd=>hp j d hd,.inr ⟨rfl,rfl⟩⟩
 |d::l,pre,k,is,hp,h=>by
  rw[Xp] at h;split at h
  ·rename_i hr
   simp only[aD,aM] at h;obtain⟨rfl,rfl⟩:=h;refine⟨lT,fun j e hj he=>hp j e ?_,.inl ⟨rfl,d,lT,hr⟩⟩
   rwa [bC hj] at he
  split at h
  ·rename_i hc
   have ih:=Vl r l (pre++ [d]) k is (fun j e he=>by
    by_cases hj:j<pre.length
    ·rw[bC hj] at he
     exact hp j e he
    rw[bN lK] at he;rcases Nat.eq_zero_or_pos (j -pre.length) with h0|h0
    ·rw[h0] at he
     simp only[List.getElem?_cons_zero,aD] at he;exact he▸hc
    obtain⟨m,hm⟩: ∃m,j -pre.length=m+1:=⟨j -pre.length -1,lK⟩;rw[hm] at he;simp at he) (mR h)
   simpa using ih
  cases h
theorem SY{r:Rq}{T:List oO}{is:Bool}(h:Xp r T 0=some (k,is)):AtR T r k is:=Vl r T [] k is (fun j d hd=>by simp at hd) h
section
variable{x:Nat}{w:World}{f:Int}{n id gx b:Nat}{d:lU}{K:KS}
theorem QO(h:qE x w f n id gx b d K)(hT:d.T.length<=64)(r:Rq)(o:Option Int)(hs:AA d.T r=some o):
  Y 181 #[d.nH,Kh r] w fun e w'=>e= .returned (.tuple #[U (o.getD 0),o.isSome])/\Be w w':=by
 unfold AA at hs;simp only[aK] at hs;obtain⟨⟨k,is⟩,ha,hs⟩:=hs;have at_:=SY ha;cases is
 ·simp only[dz,gH] at hs
  subst hs;exact YF h.tab hT r k at_
 simp only[fH] at hs;obtain⟨td,htd,_⟩:=at_.yes;rw[htd] at hs;simp only at hs;cases hr:td.ready
 ·rw[hr] at hs
  simp only[dz,gH] at hs;subst hs;exact JW h.tab hT r k at_ fun e he=>by rw[htd] at he;injection he with he;exact he▸hr
 rw[hr] at hs;simp only[fH] at hs;subst hs;exact UO h.tab hT r k at_ td.since fun e he=>by rw[htd] at he;injection he with he;exact he▸⟨hr,rfl⟩
theorem Jr(h:qE x w f n id gx b d K)(hT:d.T.length<=64)(r:Rq)(j:Nat)(hj:j<13)(o:Bool)(hs:NR d.T r j=some o):
  Y 176 #[d.nH,Kh r,U j] w fun e w'=>e= .returned o/\Be w w':=by
 unfold NR at hs;simp only[aK] at hs;obtain⟨⟨k,is⟩,ha,hs⟩:=hs;have at_:=SY ha;cases is
 ·simp only[dz,gH] at hs
  subst hs;exact aeQ h.tab hT r k at_ j
 simp only[fH] at hs;obtain⟨td,htd,_⟩:=at_.yes;rw[htd] at hs;simp only at hs;exact acj h.tab hT r k at_ j hj o fun e he=>by rw[htd] at he;injection he with he;exact he▸hs
theorem GX(h:qE x w f n id gx b d K)(h1:1<=f)(h4:f<=4)(hT:d.T.length<=60)(r:Rq)(hr:0<=r.1/\r.1<2)(j:Nat)(hj:(j:Int)<=3*f)(now:Int)(T':List oO)(hs:zH f j now r d.T=some T'):
  Y 215 #[d.nH,Kh r,U j,U now] w fun e w'=> ∃p q ST',e= .returned (.tuple #[p,q,U 0])/\mP x w w' f n id gx b d K (d.tabled T' ST') K:=by
 unfold zH at hs;split at hs
 ·rename_i k ha
  have at_:=SY ha;simp only[aA] at hs;obtain⟨td,htd,hs⟩:=hs;split at hs
  ·cases hs
  rename_i hb;injection hs with hs;subst hs;refine(YE h.tab h1 h4 lK r hr k at_ td htd j hj (mR hb) now).mono ?_;rintro e w' ⟨rfl,ht,ho⟩;exact⟨_,_,d.ST,rfl,(Step.refl h).tab ht ho (fun k hk=>hk) fun k hk=> .inl hk⟩
 ·split at hs
  ·rename_i h0
   injection hs with hs;subst hs;refine(UN h.tab h1 h4 (dA h0) r hr j hj now).mono ?_;rintro e w' ⟨rfl,ST',ht,ho,hn⟩;exact⟨_,_,ST',rfl,(Step.refl h).tab ht ho (fun k hk=>hk) hn⟩
  cases hs
 cases hs
theorem aec(h:qE x w f n id gx b d K)(hT:d.T.length<=64)(c t:Int):
  Y 269 #[d.nH,U c,U t] w fun e w'=> ∃m ST',e= .returned (U m)/\mP x w w' f n id gx b d K (d.tabled (LH d.T c t) ST') K:=by
 have hgt:d.nH∈d.ST:=by
  obtain⟨a,cap,hS,_⟩:=h.tab.ex;rw[hS];simp
 refine(aeP h.tab hT c t (LH d.T c t) rfl).mono ?_;rintro e w' ⟨rfl,ST',ht,ho,hn⟩;exact⟨_,ST',rfl,(Step.refl h).tab ht ho (fun k hk=>by simp only[au] at hk;exact hk▸hgt) fun k hk=>(hn k hk).imp (fun e:k=d.nH=>e.symm▸hgt) fun e=>e⟩
theorem ahr(h:qE x w f n id gx b d K)(hn:d.ga.length<=5)(hr:Roomy d.ga)(k t:Int)(hk:qX k)(ht:qX t):
  Y 267 #[d.gm,U k,U t] w fun e w'=> ∃o,e= .returned o/\mP x w w' f n id gx b d K (d.yS (C8 d.ga k t)) K:=by
 refine(ajE d.gm d.Dl d.ga k t w h.met hn hr hk ht _ rfl _ rfl).mono ?_;rintro e w' ⟨rfl,hm,ho⟩;exact⟨_,rfl,(Step.refl h).met hm ho⟩
theorem EL: ∀l:List qm,oh (l.map qm.val)=yt l
 | []=>rfl
 |p::l=>by
  simp only[bV,oh,yt,EL l];cases hd:p.done<;>simp[qm.val,hd]
theorem qd{i:Ba}(h:d.val.is[k]?=some i): ∃g I,d.is[k]?=some (g,I)/\I.val=i:=by
 simp only[lU.val,aS,aK] at h;obtain⟨⟨g,I⟩,h1,h2⟩:=h;exact⟨g,I,h1,h2⟩
theorem Ov(h:qE x w f n id gx b d K)(k:Nat)(i:Ba)(hi:d.val.is[k]?=some i)(gi:Nat)(hgi:d.is[k]?.map Prod.fst=some gi):
  Y 166 #[gi] w fun e w'=>e= .returned (U (oh i.ps:Nat))/\w=w':=by
 obtain⟨g,I,h1,rfl⟩:=qd hi;rw[h1] at hgi;injection hgi with hgi;subst hgi;exact VJ (h.inst h1) _ (by simp only[tJ.val];rw[EL])
theorem rV(h:qE x w f n id gx b d K)(k:Nat)(i:Ba)(hi:d.val.is[k]?=some i)(gi:Nat)(hgi:d.is[k]?.map Prod.fst=some gi):
  Y 126 #[gi] w fun e w'=>e= .returned i.on/\w=w':=by
 obtain⟨g,I,h1,rfl⟩:=qd hi;rw[h1] at hgi;injection hgi with hgi;subst hgi;exact adQ (h.inst h1)
theorem tX(h:qE x w f n id gx b d K)(hx:x<w.heap.size)(k j:Nat)(i:Ba)(hi:d.val.is[k]?=some i)(c:Ce)(hc:i.ps[j]?.bind uo.done=some c)(gi:Nat)(hgi:d.is[k]?.map Prod.fst=some gi)(z:Int)(hz:z=(j:Int)+1):
  Y 174 #[gi,U z] w fun e w'=> ∃cd:CD,e= .returned (.tuple #[.agg (nS cd).toArray,true])/\pz cd=c/\CF x w' cd/\cd.bn<=4096/\cd.vn<=4096/\Be w w':=by
 obtain⟨g,I,h1,rfl⟩:=qd hi;rw[h1] at hgi;injection hgi with hgi;subst hgi;simp only[tJ.val,aS,aA,aK] at hc;obtain⟨p,⟨P,hP,rfl⟩,hc⟩:=hc;simp only[qm.val] at hc;split at hc
 ·rename_i hd
  injection hc with hc;have sh:=((h.inst h1).at_ P (ak hP)).short;refine(Dt (h.inst h1) j P hP hd z hz hx).mono ?_;rintro e w' ⟨a6,k6,a7,k7,rfl,hcf,hb⟩;exact⟨_,rfl,hc▸rfl,hcf,sh.d.1,sh.d.2,hb⟩
 cases hc
theorem vF(h:qE x w f n id gx b d K):Y 81 #[d.gt] w fun e w'=>e= .returned (U d.now)/\w=w':=Tj w d.gt d.now h.Bc
theorem ahA(h:qE x w f n id gx b d K)(hx:x<w.heap.size)(a:OA)(m c:Nat)(rs:List Rq)(hr:sK x w a m c rs)(hn:d.es.length+m<=4096)(hi: ∀r∈rs,RqI r)(out:List CY)(st':List (Bool×Int))(YW:List (Int×Int))(hs:qL ([],d.st,d.ct) rs=(out,st',YW)):
  Y 268 #[d.gd,.slice a m c] w fun e w'=> ∃SL' a' c',e= .returned (.slice a' out.length c')/\mP x w w' f n id gx b d K (d.booked SL' (d.es++out) st' YW) K/\
   PO (nu f n id gx b (d.booked SL' (d.es++out) st' YW) K) w' w.heap.size 51 7 out.length (.slice a' out.length c') (out.flatMap pF):=by
 refine(ala d.SL d.gd 2 d.es d.st d.ct a m c rs w h.led hr.row.row (fun hm p hp hq=> ?_) hr.row.len hn hi out st' YW hs _ rfl).mono ?_
 ·obtain⟨h2,cs,h3⟩:=hr.fix p.block (by rw[hp];rfl)
  rcases h.soft p.block (pY (j:=7) rfl hq) with h4|h4
  ·exact h2 h4.1
  exact h4 _ _ h3 lN
 rintro e w' ⟨SL',a',c',rfl,hl,ow,hsep,ho,hf⟩;refine⟨SL',a',c',rfl,(Step.refl h).led hl ho hf,ow,fun g hg hm=> ?_⟩;have hge:=(dG ow g hg).1;replace hm:g∈nE ((nu f n id gx b d K).set 7 (ET SL' d.gd 2 (d.es++out) st' YW)):=hm;obtain⟨c0,hc0,hm⟩:=bg.1 hm;rcases cB hc0 with hc0|rfl
 ·have:=(h.good c0 hc0).lt (h.at_ c0 hc0) g hm
  omega
 exact hsep g hg hm
end
section
open Go.RowKit Go.Proofs.Tryz F
theorem GY(a b:Int)(w:World)(ha:Small a)(hb:Small b):Y 239 #[.complex .f64 (fw a) (fw b)] w fun e w'=>e= .returned (.tuple #[U a,U b])/\w=w':=by
 have h1:=fun w=>run_convert_float_int (P:=prog) (w:=w) 396 3 .f64 .i64 (fw a) a (by kernel_rfl) underlying3 (LZ a ha);have h2:=fun w=>run_convert_float_int (P:=prog) (w:=w) 396 3 .f64 .i64 (fw b) b (by kernel_rfl) underlying3 (LZ b hb);go_enter func239,ntmps239
 go_wp2
 go_ret2
 exact⟨rfl,rfl⟩
end
section
open Go.RowKit Go.Proofs.Tryz F
theorem Ct{a b A B:Int}(h1:0<=a)(h2:a<=A)(h3:0<=b)(h4:b<=B):0<=a*b/\a*b<=A*B:=
 ⟨Int.mul_nonneg h1 h3,Int.le_trans (Int.mul_le_mul_of_nonneg_right h2 h3) (Int.mul_le_mul_of_nonneg_left h4 (Int.le_trans h1 h2))⟩
def Rt(num den:Int)(m:Int)(zs:List (Int×Int)):Bool:=decide (0<zs.length)&&decide (m*den*(zs.length:Int)<num*uh zs)
def zC(omega n t:Int)(zs:List (Int×Int)):Bool:=
 decide (0<n)&&decide (0<uh zs)&&decide (zK zs*n+omega*n*uh zs<t*uh zs)
theorem UJ (num den mn mt:Int) (a:OA) (n c:Nat) (zs:List (Int×Int)) (w:World) (hr:Kk w a n zs) (hu:Usual zs) (hn:n<=64)
  (adN:0<=num/\num<=64) (hden:0<=den/\den<=64) (hm:0<=mn/\mn<=134217728) (ht:Small mt):
  Y 183 #[U num,U den,.complex .f64 (fw mn) (fw mt),.slice a n c] w fun e w'=>e= .returned (Rt num den mn zs)/\w=w':=by
 have hlen:zs.length=n:=by have:=hr.1;simpa using this
 obtain⟨hu1,hu2⟩:=adN;obtain⟨hd1,hd2⟩:=hden;obtain⟨hm1,hm2⟩:=hm;unfold Rt;rw[hlen];clear hlen;by_cases h0:n=0
 ·subst h0
  go_enter func183,ntmps183
  go_wp2
  go_ret;exact⟨rfl,rfl⟩
 have hs:=UK zs hu;have hlen:zs.length=n:=by have:=hr.1;simpa using this
 rw[hlen] at hs;clear hlen;have S1:Small (uh zs):=Small.of lK lK;have S2:Small (zK zs):=Small.of lK lK;have S3:Small mn:=Small.of lK lK;obtain⟨p1,p2⟩:=Ct hm1 hm2 hd1 hd2;obtain⟨p3,p4⟩:=Ct p1 p2 (show(0:Int)<=(n:Int) by omega) (show(n:Int)<=64 by omega);obtain⟨p5,p6⟩:=Ct hu1 hu2 hs.1 (show uh zs<=134217728*64 by omega);have h1:0<n:=lK;have hd:decide (0<n)=true:=aZ h1;rw[hd,iw];have h0':((n:Int)==0)=false:=by simp;omega
 clear hd h0 hs;go_enter func183,ntmps183
 go_wp2_with(first
  |(go_at_call 240;refine(Hg a n c zs _ hr hu lK).mono ?_;rintro e w' ⟨rfl,rfl⟩)
  |(go_at_call 239;refine(GY _ _ _ (by assumption) (by assumption)).mono ?_;rintro e w' ⟨rfl,rfl⟩))
 go_ret;exact⟨rfl,rfl⟩
theorem aaZ (om mn mt:Int) (a:OA) (n c:Nat) (zs:List (Int×Int)) (w:World) (hr:Kk w a n zs) (hu:Usual zs) (hn:n<=64)
  (hom:0<=om/\om<=64) (hm:0<=mn/\mn<=1048576) (ht:0<=mt/\mt<=134217728):
  Y 184 #[U om,.complex .f64 (fw mn) (fw mt),.slice a n c] w fun e w'=>e= .returned (zC om mn mt zs)/\w=w':=by
 have hlen:zs.length=n:=by have:=hr.1;simpa using this
 obtain⟨hu1,hu2⟩:=hom;obtain⟨hm1,hm2⟩:=hm;obtain⟨ht1,ht2⟩:=ht;by_cases h0:n=0
 ·have e:zC om mn mt zs=false:=by
   have:zs= []:=dA lK;subst this;simp[zC,uh]
  rw[e];clear e;subst h0;go_enter func184,ntmps184
  go_wp2
  refine gD 0 (fun a' w'=>w'=w/\ ∃u0 u1 u2 u3 u4 u5 u6 u7 u8 u9 AP Gc Gd Gf CS CX u16 Fp Fq yL u20 u21 u22 u23 u24 u25 u26 u27 u28 u29 u30 u31 u32 u33 u34 u35 u36 u37 u38 u39 u40 u41 u42 u43:Value,a'={tmps:=#[u0,u1,u2,u3,u4,u5,u6,u7,u8,u9,AP,Gc,Gd,Gf,CS,CX,u16,Fp,Fq,yL,u20,u21,u22,u23,u24,u25,u26,u27,u28,u29,u30,u31,u32,u33,u34,u35,u36,u37,u38,u39,u40,u41,u42,u43],defers:= []}) (fun _ _=>0) rfl ?_ ?_
  ·go_wp2
   go_step3
   exact⟨rfl,rfl,_,_,_,_,_,_,_,_,_,_,_,_,_,_,_,_,_,_,_,_,_,_,_,_,_,_,_,_,_,_,_,_,_,_,_,_,_,_,_,_,_,_,_,_,rfl⟩
  rintro a' w' ⟨rfl,u0,u1,u2,u3,u4,u5,u6,u7,u8,u9,AP,Gc,Gd,Gf,CS,CX,u16,Fp,Fq,yL,u20,u21,u22,u23,u24,u25,u26,u27,u28,u29,u30,u31,u32,u33,u34,u35,u36,u37,u38,u39,u40,u41,u42,u43,rfl⟩
  go_wp2
  simp only[Exit.jump];go_ret;exact⟨rfl,rfl⟩
 have hs:=UK zs hu;rw[hlen] at hs;have S1:Small (uh zs):=Small.of lK lK;have S2:Small (zK zs):=Small.of lK lK;have S3:Small mn:=Small.of lK lK;have S4:Small mt:=Small.of lK lK;obtain⟨p1,p2⟩:=Ct ht1 ht2 hs.1 (show uh zs<=134217728*64 by omega);obtain⟨p3,p4⟩:=Ct hs.2.2.1 (show zK zs<=134217728*64 by omega) hm1 hm2;obtain⟨p5,p6⟩:=Ct hu1 hu2 hm1 hm2;obtain⟨p7,p8⟩:=Ct p5 p6 hs.1 (show uh zs<=134217728*64 by omega);have h0':((n:Int)==0)=false:=by simp;omega
 by_cases hmn:mn<=0
 ·have e:zC om mn mt zs=false:=by simp[zC];omega
  rw[e];have d1:decide (mn<=0)=true:=aZ hmn;clear e hs h0 hlen;go_enter func184,ntmps184
  go_wp2
  refine gD 0 (fun a' w'=>w'=w/\ ∃u0 u1 u2 u3 u4 u5 u6 u7 u8 u9 AP Gc Gd Gf CS CX u16 Fp Fq yL u20 u21 u22 u23 u24 u25 u26 u27 u28 u29 u30 u31 u32 u33 u34 u35 u36 u37 u38 u39 u40 u41 u42 u43:Value,a'={tmps:=#[u0,u1,u2,u3,u4,u5,u6,u7,u8,u9,AP,Gc,Gd,Gf,CS,CX,u16,Fp,Fq,yL,u20,u21,u22,u23,u24,u25,u26,u27,u28,u29,u30,u31,u32,u33,u34,u35,u36,u37,u38,u39,u40,u41,u42,u43],defers:= []}) (fun _ _=>0) rfl ?_ ?_
  ·go_wp2_with(first
    |(go_at_call 240;refine(Hg a n c zs _ hr hu lK).mono ?_;rintro e w' ⟨rfl,rfl⟩)
    |(go_at_call 239;refine(GY _ _ _ (by assumption) (by assumption)).mono ?_;rintro e w' ⟨rfl,rfl⟩))
   go_step3
   exact⟨rfl,rfl,_,_,_,_,_,_,_,_,_,_,_,_,_,_,_,_,_,_,_,_,_,_,_,_,_,_,_,_,_,_,_,_,_,_,_,_,_,_,_,_,_,_,_,_,rfl⟩
  rintro a' w' ⟨rfl,u0,u1,u2,u3,u4,u5,u6,u7,u8,u9,AP,Gc,Gd,Gf,CS,CX,u16,Fp,Fq,yL,u20,u21,u22,u23,u24,u25,u26,u27,u28,u29,u30,u31,u32,u33,u34,u35,u36,u37,u38,u39,u40,u41,u42,u43,rfl⟩
  go_wp2
  simp only[Exit.jump];go_ret;exact⟨rfl,rfl⟩
 have d1:decide (mn<=0)=false:=aR hmn;by_cases hsn:uh zs<=0
 ·have e:zC om mn mt zs=false:=by simp[zC];omega
  rw[e];have d2:decide (uh zs<=0)=true:=aZ hsn;clear e hs h0 hlen;go_enter func184,ntmps184
  go_wp2
  refine gD 0 (fun a' w'=>w'=w/\ ∃u0 u1 u2 u3 u4 u5 u6 u7 u8 u9 AP Gc Gd Gf CS CX u16 Fp Fq yL u20 u21 u22 u23 u24 u25 u26 u27 u28 u29 u30 u31 u32 u33 u34 u35 u36 u37 u38 u39 u40 u41 u42 u43:Value,a'={tmps:=#[u0,u1,u2,u3,u4,u5,u6,u7,u8,u9,AP,Gc,Gd,Gf,CS,CX,u16,Fp,Fq,yL,u20,u21,u22,u23,u24,u25,u26,u27,u28,u29,u30,u31,u32,u33,u34,u35,u36,u37,u38,u39,u40,u41,u42,u43],defers:= []}) (fun _ _=>0) rfl ?_ ?_
  ·go_wp2_with(first
    |(go_at_call 240;refine(Hg a n c zs _ hr hu lK).mono ?_;rintro e w' ⟨rfl,rfl⟩)
    |(go_at_call 239;refine(GY _ _ _ (by assumption) (by assumption)).mono ?_;rintro e w' ⟨rfl,rfl⟩))
   go_step3
   exact⟨rfl,rfl,_,_,_,_,_,_,_,_,_,_,_,_,_,_,_,_,_,_,_,_,_,_,_,_,_,_,_,_,_,_,_,_,_,_,_,_,_,_,_,_,_,_,_,_,rfl⟩
  rintro a' w' ⟨rfl,u0,u1,u2,u3,u4,u5,u6,u7,u8,u9,AP,Gc,Gd,Gf,CS,CX,u16,Fp,Fq,yL,u20,u21,u22,u23,u24,u25,u26,u27,u28,u29,u30,u31,u32,u33,u34,u35,u36,u37,u38,u39,u40,u41,u42,u43,rfl⟩
  go_wp2
  simp only[Exit.jump];go_ret;exact⟨rfl,rfl⟩
 have d2:decide (uh zs<=0)=false:=aR hsn;have e:zC om mn mt zs=decide (zK zs*mn+om*mn*uh zs<mt*uh zs):=by
  unfold zC;rw[aZ (show 0<mn by omega),aZ (show 0<uh zs by omega),iw,iw]
 rw[e];clear e hs h0 hlen;go_enter func184,ntmps184
 go_wp2
 apply jd
 go_wp2_with(first
  |(go_at_call 240;refine(Hg a n c zs _ hr hu lK).mono ?_;rintro e w' ⟨rfl,rfl⟩)
  |(go_at_call 239;refine(GY _ _ _ (by assumption) (by assumption)).mono ?_;rintro e w' ⟨rfl,rfl⟩))
 try rw[Exit.noGoto_ret]
 go_ret;exact⟨rfl,rfl⟩
end
section
open Go.RowKit Go.Proofs.Tryz F
def Hy(zs:List (Int×Int)):Prop:= ∀z∈zs,0<=z.1/\z.1<1048576/\0<=z.2/\z.2<1048576
theorem Hy.usual(h:Hy zs):Usual zs:=fun z hz=>by have:=h z hz;omega
theorem Hy.head(h:Hy (z::zs)):0<=z.1/\z.1<1048576/\0<=z.2/\z.2<1048576:=h z lT
theorem Hy.tail(h:Hy (z::zs)):Hy zs:=fun x hx=>h x (by simp[hx])
theorem aaw{P:Program}(T E s:Nat)(hT:P.underlying T=some (.slice E))(hE:P.elem T=E)(hs: ∀w:World,(sizeOf E).run P w= .ok s w)(b o n c:Nat)(hc:n+1<=c):
  ∃A,(∀w:World,(Instr.slice T (.slice (some ⟨b,o,none⟩) (n+1) c) (some (U 1)) none none).run P w= .ok (.slice A n (c -1)) w)/\
   ∀(w:World) (vs:LV),mo w (some ⟨b,o,none⟩) (n+1) s vs->mo w A n s (vs.drop s):=by
 refine⟨if c=1 then some ⟨b,o,none⟩ else some ⟨b,o+s,none⟩,fun w=> ?_,fun w vs h=> ?_⟩
 ·have h:=lH (P:=P) (w:=w) T (some ⟨b,o,none⟩) (n+1) c (by rw[hE];exact hT) .i64 1 lK lK
  rw[h,hE,hs w];show Result.ok (sliced (some ⟨b,o,none⟩) 1 (n+1) c s) w=_;simp only[sliced,Option.map_some,addr_add,Nat.one_mul,fF]
 by_cases h1:n=0
 ·subst h1
  refine⟨?_,fun h=>absurd h lK⟩;rw[jm,h.1];omega
 rw[aU lK];obtain⟨b',o',e,hv⟩:=h.from_ (k:=1) lK;injection e with e;injection e with e1 e2;subst e1 e2;simpa using hv
theorem Yz(w:World):(sizeOf 301).run prog w= .ok 1 w:=by kernel_rfl
theorem ak4(s n l:Int)(w:World)(hs:0<=s/\s<=1048576)(hn:0<=n/\n<=1048576):Y 182 #[U s,U n,U l] w fun e w'=>e= .returned (decide (l<n -s))/\w=w':=by
 obtain⟨hs1,hs2⟩:=hs;obtain⟨hn1,hn2⟩:=hn;go_enter func182,ntmps182
 go_wp2
 go_ret;exact⟨rfl,rfl⟩
def rH(num den om m0 m1:Int)(rest:List (Int×Int)):Bool:=Rt num den m0 rest||zC om m0 m1 rest
structure Half(w:World)(b2 o2 c2 n:Nat)(m0 m1:Int)(rest:List (Int×Int)):Prop where
 len:rest.length=n
 few:n<=5
 fine:Hy ((m0,m1)::rest)
 z:Kk w (some ⟨b2,o2,none⟩) (n+1) ((m0,m1)::rest)
 cz:n+1<=c2
theorem Half.below{o2:Nat}{rest:List (Int×Int)}(h:Half w b2 o2 c2 n m0 m1 rest)(hb:Be w w'):Half w' b2 o2 c2 n m0 m1 rest:=
 ⟨h.len,h.few,h.fine,mo.below h.z hb,h.cz⟩
theorem Half.z0{o2:Nat}{rest:List (Int×Int)}(h:Half w b2 o2 c2 n m0 m1 rest):J w b2 o2 (.complex .f64 (fw m0) (fw m1)):=by
 obtain⟨b,o,e,_,hc⟩:=h.z.2 lK;injection e with e;injection e with e1 e2;subst e1 e2;exact hc 0 (Qh m0 m1) rfl
theorem Half.rest{o2:Nat}{rest:List (Int×Int)}(h:Half w b2 o2 c2 n m0 m1 rest):
  ∃A2,(∀w:World,(Instr.slice 242 (.slice (some ⟨b2,o2,none⟩) (n+1) c2) (some (U 1)) none none).run prog w= .ok (.slice A2 n (c2 -1)) w)/\Kk w A2 n rest:=by
 obtain⟨A2,r2,v2⟩:=aaw (P:=prog) 242 301 1 underlying242 (by kernel_rfl) Yz b2 o2 n c2 h.cz;exact⟨A2,r2,v2 _ _ h.z⟩
theorem C9{a b c:World}(h:Be a b)(k:Be b c):Be a c:=h.trans (k.mono h.size)
theorem YG(c0 c1 c3 c4 c5 c6 c7 cx c10 c12 c13 c14 num den om:Int){o2:Nat}{rest:List (Int×Int)}(w:World)(B:Half w b2 o2 c2 n m0 m1 rest)(h1:0<=num/\num<=64)(h2:0<=den/\den<=64)(h3:0<=om/\om<=64):
  Y 129 #[.agg #[U c0,U c1,U cx,U c3,U c4,U c5,U c6,U c7,U num,U den,U c10,U om,U c12,U c13,U c14],.slice (some ⟨b2,o2,none⟩) (n+1) c2] w fun e w'=>e= .returned (rH num den om m0 m1 rest)/\Be w w':=by
 obtain⟨w1,hw1⟩:=ex (w.alloc (.cells #[U c0,U c1,U cx,U c3,U c4,U c5,U c6,U c7,U num,U den,U c10,U om,U c12,U c13,U c14] 24));have hb1:=(tQ hw1).out;have B1:=B.below hb1;have hk:lQ w1 w.heap.size 24 #[U c0,U c1,U cx,U c3,U c4,U c5,U c6,U c7,U num,U den,U c10,U om,U c12,U c13,U c14]:=by rw[hw1];exact lQ.new _ _ _
 have x8:=fun(x:Later w1)=>hk.ER (i:=8) (v:= U num) rfl x;have x9:=fun(x:Later w1)=>hk.ER (i:=9) (v:= U den) rfl x;have x11:=fun(x:Later w1)=>hk.ER (i:=11) (v:= U om) rfl x;obtain⟨A2,r2,hZ⟩:=B1.rest;have k3:=B1.z0;have q3:=fun(x:Later w1)=>x.cell k3;have hf:=B1.fine.head;have hF:=jj B1.fine;have hlen:=B1.few;have hZ':=jj hZ;have i1:(0:Int)<(n:Int)+1:=lK;have i2:((n:Int)+1==0)=false:=by simp;omega
 cases hs:Rt num den m0 rest
 ·cases hl:zC om m0 m1 rest
  ·have hv:=jj (show rH num den om m0 m1 rest=false by simp[rH,hs,hl])
   have Cs:=jj (show∀w':World,Kk w' A2 n rest->Y 183 #[U num,U den,.complex .f64 (fw m0) (fw m1),.slice A2 n (c2 -1)] w' fun e w''=>e= .returned false/\w'=w'' from fun w' h=>by have k:=UJ num den m0 m1 A2 n (c2 -1) rest w' h hF.tail.usual lK lK lK lK (Small.of lK lK);rw[hs] at k;exact k);have Cl:=jj (show∀w':World,Kk w' A2 n rest->Y 184 #[U om,.complex .f64 (fw m0) (fw m1),.slice A2 n (c2 -1)] w' fun e w''=>e= .returned false/\w'=w'' from fun w' h=>by have k:=aaZ om m0 m1 A2 n (c2 -1) rest w' h hF.tail.usual lK lK lK lK;rw[hl] at k;exact k);clear hs hl;clear hZ k3 hk B B1;go_enter func129,ntmps129
   go_wp2_with fail
   rw[<-hw1];have HW:=jj hw1;clear hw1;apply jd
   go_wp2_with fail
   refine pU (by kernel_rfl) (by kernel_rfl) ?_
   repeat(go_big_quiet_step ((go_at_call 183;exact Later.same (Cs.out _ (mo.later hZ' _)))))
   refine iW ?_;rintro _ ⟨x,rfl⟩;have y3:=fun(y:Later x.w)=>y.cell (q3 x);have y11:=fun(y:Later x.w)=>y.cell (x11 x);have hZx:=jj (mo.later hZ' x)
   go_wp2_with fail
   refine pU (by kernel_rfl) (by kernel_rfl) ?_
   repeat(go_big_quiet_step ((go_at_call 184;exact Later.same (Cl.out _ (mo.later hZx _)))))
   refine iW ?_;rintro _ ⟨y,rfl⟩
   go_wp2
   go_step3
   go_wp2
   try rw[Exit.noGoto_ret]
   go_ret;exact⟨by rw[hv.out];rfl,hb1.trans ((C9 x.b y.b).mono hb1.size)⟩
  have hv:=jj (show rH num den om m0 m1 rest=true by simp[rH,hl]);have Cs:=jj (show∀w':World,Kk w' A2 n rest->Y 183 #[U num,U den,.complex .f64 (fw m0) (fw m1),.slice A2 n (c2 -1)] w' fun e w''=>e= .returned false/\w'=w'' from fun w' h=>by have k:=UJ num den m0 m1 A2 n (c2 -1) rest w' h hF.tail.usual lK lK lK lK (Small.of lK lK);rw[hs] at k;exact k);have Cl:=jj (show∀w':World,Kk w' A2 n rest->Y 184 #[U om,.complex .f64 (fw m0) (fw m1),.slice A2 n (c2 -1)] w' fun e w''=>e= .returned true/\w'=w'' from fun w' h=>by have k:=aaZ om m0 m1 A2 n (c2 -1) rest w' h hF.tail.usual lK lK lK lK;rw[hl] at k;exact k);clear hs hl;clear hZ k3 hk B B1;go_enter func129,ntmps129
  go_wp2_with fail
  rw[<-hw1];have HW:=jj hw1;clear hw1;refine gD 1 (fun a' w'=>(∃x:Later w1,w'=x.w)/\ ∃u0 u1 u2 u3 u4 u5 u6 u7 u8 u9 AP Gc Gd Gf CS CX u16 Fp Fq yL u20 u21 u22 u23 u24 u25:Value,a'={tmps:=#[u0,u1,u2,u3,u4,u5,u6,u7,u8,u9,AP,Gc,Gd,Gf,CS,CX,u16,Fp,Fq,yL,u20,u21,u22,u23,u24,u25],defers:= []}) (fun _ _=>0) rfl ?_ ?_
  ·go_wp2_with fail
   refine pU (by kernel_rfl) (by kernel_rfl) ?_
   repeat(go_big_quiet_step ((go_at_call 183;exact Later.same (Cs.out _ (mo.later hZ' _)))))
   refine iW ?_;rintro _ ⟨x,rfl⟩;have y3:=fun(y:Later x.w)=>y.cell (q3 x);have y11:=fun(y:Later x.w)=>y.cell (x11 x);have hZx:=jj (mo.later hZ' x)
   go_wp2_with fail
   refine pU (by kernel_rfl) (by kernel_rfl) ?_
   repeat(go_big_quiet_step ((go_at_call 184;exact Later.same (Cl.out _ (mo.later hZx _)))))
   refine iW ?_;rintro _ ⟨y,rfl⟩
   go_wp2
   go_step3
   exact⟨rfl,⟨⟨_,C9 x.b y.b⟩,rfl⟩,_,_,_,_,_,_,_,_,_,_,_,_,_,_,_,_,_,_,_,_,_,_,_,_,_,_,rfl⟩
  rintro a' w' ⟨⟨z,rfl⟩,u0,u1,u2,u3,u4,u5,u6,u7,u8,u9,AP,Gc,Gd,Gf,CS,CX,u16,Fp,Fq,yL,u20,u21,u22,u23,u24,u25,rfl⟩
  go_wp2
  simp only[Exit.jump];go_ret;exact⟨by rw[hv.out];rfl,hb1.trans (z.b.mono hb1.size)⟩
 have hv:=jj (show rH num den om m0 m1 rest=true by simp[rH,hs]);have Cs:=jj (show∀w':World,Kk w' A2 n rest->Y 183 #[U num,U den,.complex .f64 (fw m0) (fw m1),.slice A2 n (c2 -1)] w' fun e w''=>e= .returned true/\w'=w'' from fun w' h=>by have k:=UJ num den m0 m1 A2 n (c2 -1) rest w' h hF.tail.usual lK lK lK lK (Small.of lK lK);rw[hs] at k;exact k);clear hs;clear hZ k3 hk B B1;go_enter func129,ntmps129
 go_wp2_with fail
 rw[<-hw1];have HW:=jj hw1;clear hw1;refine gD 1 (fun a' w'=>(∃x:Later w1,w'=x.w)/\ ∃u0 u1 u2 u3 u4 u5 u6 u7 u8 u9 AP Gc Gd Gf CS CX u16 Fp Fq yL u20 u21 u22 u23 u24 u25:Value,a'={tmps:=#[u0,u1,u2,u3,u4,u5,u6,u7,u8,u9,AP,Gc,Gd,Gf,CS,CX,u16,Fp,Fq,yL,u20,u21,u22,u23,u24,u25],defers:= []}) (fun _ _=>0) rfl ?_ ?_
 ·go_wp2_with fail
  refine pU (by kernel_rfl) (by kernel_rfl) ?_
  repeat(go_big_quiet_step ((go_at_call 183;exact Later.same (Cs.out _ (mo.later hZ' _)))))
  refine iW ?_;rintro _ ⟨x,rfl⟩
  go_wp2
  go_step3
  exact⟨rfl,⟨x,rfl⟩,_,_,_,_,_,_,_,_,_,_,_,_,_,_,_,_,_,_,_,_,_,_,_,_,_,_,rfl⟩
 rintro a' w' ⟨⟨z,rfl⟩,u0,u1,u2,u3,u4,u5,u6,u7,u8,u9,AP,Gc,Gd,Gf,CS,CX,u16,Fp,Fq,yL,u20,u21,u22,u23,u24,u25,rfl⟩
 go_wp2
 simp only[Exit.jump];go_ret;exact⟨by rw[hv.out];rfl,hb1.trans (z.b.mono hb1.size)⟩
end
def abL(T:List oO)(r:Rq):Int:=match AA T r with
 |some (some t)=>t
 |_=>0
def Uv(now since:Int)(T:List oO)(l:List Rq):Bool:=l.any fun r=>decide (12<now -max (abL T r) since)
def oZ(T:List oO):List Rq:=(T.filter oO.ready).map oO.r
def SH(T:List oO):Prop:= ∀r∈oZ T,∃t,AA T r=some (some t)/\0<=t/\t<=1000000
theorem ahy(x:Nat)(w:World)(f:Int)(n id gx b:Nat)(d:lU)(K:KS)(h:qE x w f n id gx b d K)(hT:d.T.length<=64)(hn:0<=d.now/\d.now<=1000000)(hs:0<=d.since/\d.since<=1000000)(hr:SH d.T)(o:Bool)(ho:Uv d.now d.since d.T (oZ d.T)=o):
  Y 128 #[gx] w fun e w'=>e= .returned o/\Be w w':=by
 obtain⟨H,HR,HO⟩:=j3 h hr ho;have c19:=h.blk.at_ 19;clear h hr ho;go_enter func128,ntmps128
 go_wp2_with fail
 refine(RJ H.tab hT).mono ?_;rintro e w1 ⟨⟨a,m,c,rfl,hlen,how⟩,hb1⟩;have B1:=jj hb1;have OW:=jj how;have HL:Hid ((oZ d.T).length=m):=jj hlen;have HM:Hid (m<=64):=jj (by
  have e:=HL.out;unfold oZ at e;rw[aT] at e;have:=fB oO.ready d.T;omega)
 clear hb1 how hlen c19
 go_wp2_with fail
 go_loopw [13] (fun q wr=> ∃i:Nat,i<=m/\q= U i/\Be w1 wr/\Uv d.now d.since d.T ((oZ d.T).drop i)=o) (fun q _=>m -(intOf q).toNat)
 case atStart=>exact⟨0,lK,by first|rfl|simp,aC _ _,by rw[jf];exact HO.out⟩
 case round=>
  obtain⟨i,hi,rfl,hb,Dm⟩:=hrel;have BW:=jj hb;have OB:=jj Dm;have HW:=jj (H.below (B1.trans (hb.mono B1.size)));clear hb Dm;by_cases hlt:i<m
  ·have i1:(i:Int)<m:=lK
   have i0:(0:Int)<=i:=lK;have e2:IntKind.i64.wrap ((i:Int)+1)=(i:Int)+1:=aH _ (tL HM.out);have hrow:qc wr a m c (oZ d.T):=⟨l9 (own_below OW BW),HL,qB OW,uO OW⟩;obtain⟨g,off,rfl,IE,x0,x1,x2,x3,x4,x5,hbx,a0,a1,a2,a3,a4,a5⟩:=hrow.get (k:=i) hlt;have hdr:(oZ d.T).drop i=(x0,x1,x2,x3,x4,x5)::(oZ d.T).drop (i+1):=by
    obtain⟨hl,e⟩:=ah.1 hbx;rw[<-e];exact(dY hl).symm
   obtain⟨t,ht,ht0,ht1⟩:=HR.out _ (ak hbx);have Dm:=OB.out;rw[hdr] at Dm;unfold Uv at Dm;rw[List.any_cons,show abL d.T (x0,x1,x2,x3,x4,x5)=t by unfold abL;rw[ht]] at Dm;have OBI:=jj Dm;have HT':=jj ht;clear Dm ht hdr hbx hrow
   go_upto_region 4 with fail
   generalize hv1:wr.alloc _=v1;generalize hg1:wr.heap.size=g1;replace hv1:=hv1.symm;replace hg1:=hg1.symm;obtain⟨B2,X1⟩:=nw hv1 hg1;clear hv1 hg1 a0 a1 a2 a3 a4 a5 IE;have KS:Hid (∀u,Be v1 u->J u gx 19 d.nH/\J u g1 0 (U x0)/\J u g1 1 (U x1)/\J u g1 2 (U x2)/\J u g1 3 (U x3)/\J u g1 4 (U x4)/\J u g1 5 (U x5)/\J u gx 31 (U d.since)/\J u gx 17 d.gt/\J u gx 10 (U 12)):=jj fun u o=>by
    have hh:=(HW.below B2).below o;have xx:=X1.below o X1.lt;exact⟨hh.blk.cell 19,xx.cell 0,xx.cell 1,xx.cell 2,xx.cell 3,xx.cell 4,xx.cell 5,hh.blk.cell 31,hh.blk.cell 17,hh.blk.cell 10⟩
   refine rD (fun u=>J u gx 19 d.nH/\J u g1 0 (U x0)/\J u g1 1 (U x1)/\J u g1 2 (U x2)/\J u g1 3 (U x3)/\J u g1 4 (U x4)/\J u g1 5 (U x5)/\J u gx 31 (U d.since)/\J u gx 17 d.gt/\J u gx 10 (U 12)) 11 (tk 0 5 (.one 5 (tk 6 5 .done))) (KS.out _ (aC _ _).drew) fun v2 B3 hS0=> ?_
   repeat refine' tT ?_
   refine pO fun KT lS=> ?_;go_simp;refine(QO ((HW.below B2).below B3) hT (x0,x1,x2,x3,x4,x5) (some t) HT').mono ?_;rintro e v3 ⟨rfl,hb3⟩;have B4:=nO B3 hb3;clear hb3;have S3:=KS.out _ B4;refine oH lS S3 ?_;clear hS0;have hS0:=S3
   repeat refine' tT ?_
   refine lM ?_;clear hS0 S3
   go_upto_region 5 with fail
   refine rP (fun u=>J u gx 19 d.nH/\J u g1 0 (U x0)/\J u g1 1 (U x1)/\J u g1 2 (U x2)/\J u g1 3 (U x3)/\J u g1 4 (U x4)/\J u g1 5 (U x5)/\J u gx 31 (U d.since)/\J u gx 17 d.gt/\J u gx 10 (U 12)) 17 (tk 0 10 (tk 11 5 (.one 10 (.one 16 .done)))) (KS.out _ B4.drew) ?_;intro hS0;obtain⟨v4,hv4⟩:=ex v3.drew;have B5:Hid (Be v1 v4):=jj (by rw[hv4];exact B4.drew);rw[<-hv4] at hS0|-;clear hv4
   repeat refine' tT ?_
   refine pO fun KT lS=> ?_;go_simp;refine(vF ((HW.below B2).below B5)).mono ?_;rintro e v5 ⟨rfl,rfl⟩;refine oH lS hS0 ?_
   repeat refine' tT ?_
   refine pO fun KT lS=> ?_;go_simp;rw[show(if t<d.since then d.since else t)=max t d.since by split<;>omega];have hmx:0<=max t d.since/\max t d.since<=1048576:=lK;refine(ak4 (max t d.since) d.now 12 v4 hmx ⟨hn.1,lK⟩).mono ?_;rintro e v5 ⟨rfl,rfl⟩;refine oH lS hS0 ?_
   repeat refine' tT ?_
   refine lM ?_;clear hS0 hmx;have Dm:=OBI.out;by_cases hq:12<d.now -max t d.since
   ·have adO:true=o:=by rw[<-Dm];simp[hq]
    clear OBI Dm;subst adO
    go_wp2_with fail
    go_ret;exact⟨by trivial,(B1.trans (BW.mono B1.size)).trans ((B2.trans (B5.mono B2.size)).mono (aG B1.size BW.size))⟩
   have adO:Uv d.now d.since d.T ((oZ d.T).drop (i+1))=o:=by rw[<-Dm];simp only[hq,jE,jV];rfl
   have OB2:=jj adO;clear OBI Dm adO
   go_wp2_with fail
   go_roundw
   case rel=>exact⟨i+1,lK,by go_num,(BW.trans ((B2.trans (B5.mono B2.size)).mono BW.size)),OB2⟩
   simp[intOf];omega
  obtain rfl:i=m:=lK;have i1: ¬(i:Int)<i:=lK;have Dm:=OB.out;rw[eP (tL HL.out)] at Dm;replace Dm:false=o:=Dm;subst Dm
  go_wp2_with fail
  go_ret;exact⟨by trivial,B1.trans (BW.mono B1.size)⟩
section
open Classical
def nP:List uo->Nat
 | []=>0
 |p::l=>if nP l=0 then(if p.has then 1 else 0) else nP l+1
def Ej(r:Rq):List uo->Bool
 | []=>false
 |p::l=>(p.has&&decide (r∈p.b))||(match p.done with
  |some c=>decide (r∈c.batch)
  |none=>false)||Ej r l
def FT(ps:List uo):List Rq->List Rq->List Rq
 | [],acc=>acc
 |r::l,acc=>FT ps l (if acc.length<2&&!Ej r ps then acc++ [r] else acc)
structure Vg(E:Who)(s:ql)(i:Ba)(k:Nat):Prop where
 on:i.on=true
 v:s.view=0
 kf:(k:Int)<=E.f
 T:s.T.length<=58
 len:i.ps.length=16
 nN: ∃l,s.nN[k]?=some l/\l.length=17
noncomputable def Au(E:Who)(k:Nat)(S:KN):Option KN:=
 S.2.is[k]?.bind fun i=>(must (Vg E S.2 i k)).bind fun _=>
  let t:=nP i.ps
  if k≠E.id\/16<=t\/oh i.ps+4<=t then some S else
  let b:=FT i.ps (oZ S.2.T) []
  if b= [] then some S else
  (Oz k t b S).bind fun S1=>(yI E ⟨3,0,S.2.view,k,t+1,0,b,[],[]⟩ (S1.1,{S1.2 with nN:=S1.2.nN.modify k fun l=>l.set (t+1) (S.2.view+1)})).bind fun q=>Nu E k t q.1
noncomputable def tN(E:Who):Nat->Nat->KN->Option KN
 |0,_,S=>some S
 |m+1,k,S=>(Au E k S).bind fun S1=>tN E m (k+1) S1
def Vq(ps:List uo):Prop:= ∀p∈ps,p.has=true->p.done.isSome=true
noncomputable def wX(E:Who):Nat->Nat->KN->Option KN
 |0,_,S=>some S
 |m+1,k,S=>S.2.is[k]?.bind fun i=>
  (if oh i.ps=0 then some S else(i.ps[S.2.now.toNat/2%oh i.ps]?.bind uo.done).bind fun c=>(yI E ⟨9,0,0,0,0,0,[],[],[c]⟩ S).map fun q=>q.1).bind fun S1=>wX E m (k+1) S1
noncomputable def Fj(E:Who):List Rq->KN->Option KN
 | [],S=>some S
 |r::l,S=>(NR S.2.T r E.id).bind fun h=>(if h then Jy E r S else some S).bind fun S1=>Fj E l S1
structure Px(E:Who)(s:ql):Prop where
 on: ∀i∈s.is,i.on=true/\Vq i.ps/\i.ps.length=16
 v:s.view=0
 vk:s.vk≠0
 T:s.T.length<=58
 now:0<=s.now/\s.now<=1000000
 n:(s.is.length:Int)=E.f+1
 vZ:s.vZ=List.flatten (List.replicate s.is.length [U 0,U 0,U 0,U 0,U 0,U 0,U 0,(),(),(),()])
noncomputable def EB(E:Who)(S:KN):Option KN:=
 (must (Px E S.2)).bind fun _=>(wX E S.2.is.length 0 S).bind fun S1=>Fj E (S1.2.T.map oO.r) S1
structure Vj(E:Who)(s:ql):Prop where
 stop:s.stopped=false
 now:0<=s.now/\s.now<1000000
 n:(s.is.length:Int)=E.f+1
structure GJ(s:ql):Prop where
 on: ∃i,s.is[0]?=some i/\i.on=true
 now:0<=s.now/\s.now<=1000000
 T:s.T.length<=58
 since:0<=s.since/\s.since<=1000000
 start:0<=s.start/\s.start<=1000000
 rdy:SH s.T
 old:Uv s.now s.since s.T (oZ s.T)=false
 ga:1<=s.ga.length/\s.ga.length<=5/\Hy s.ga
 fair:s.start+8<=s.now-> ∀m l,s.ga=m::l->rH 1 2 8 m.1 m.2 l=false
noncomputable def Ni(E:Who)(S:KN):Option KN:=
 (must (Vj E S.2)).bind fun _=>(tN E S.2.is.length 0 (S.1,{S.2 with now:=S.2.now+1})).bind fun S1=>(must (0<=S1.2.now/\S1.2.now<=1000000)).bind fun _=>
 (if S1.2.now%2=0 then EB E S1 else some S1).bind fun S2=>(must (GJ S2.2)).map fun _=>
  if S2.2.start+8<=S2.2.now then(S2.1,{S2.2 with ga:=List.replicate S2.2.ga.length (0,0),start:=S2.2.now}) else S2
end
section
open Tok (TM)
structure mF where
 f:Nat
 nD:List Rq
 res:List Int
 K:List (Int×List Int)
def rq0:Rq:=(0,0,0,0,0,0)
def mF.rq(G:mF)(t:Nat):Rq:=G.nD.getD (t -1) rq0
def mF.qR(G:mF)(b:LN):List Rq:=b.map G.rq
def mF.wL(G:mF)(kind:Int)(i k seq:Nat)(b:LN):Ms:=⟨kind,i,0,k,seq,0,G.qR b,[],[]⟩
def mF.BO(G:mF)(kind:Int)(i k seq:Nat)(b:LN):Int×List Int:=((i:Int),lX (G.wL kind i k seq b))
def mF.vo(G:mF)(kind:Int)(k seq:Nat)(b:LN)(i:Nat):Vo:=(i,num G.K (G.BO kind i k seq b))
def mF.ce(G:mF)(k seq:Nat)(b vs:LN):Ce:=⟨0,k,seq,G.qR b,vs.map (G.vo 5 k seq b)⟩
def mF.ms(G:mF):TM->Ms
 | .req t=>⟨1,101,0,0,0,0,[G.rq t],[],[]⟩
 | .prop src t=>⟨2,src,0,0,0,0,[G.rq t],[],[]⟩
 | .pp src k seq b=>⟨3,src,0,k,seq,0,G.qR b,[],[]⟩
 | .uf src k seq b=>G.wL 4 src k seq b
 | .com src k seq b=>G.wL 5 src k seq b
 | .proof src k seq b vs=>⟨9,src,0,0,0,0,[],[],[G.ce k seq b vs]⟩
 | .rep src t=>⟨10,src,0,1,t,G.res.getD (t -1) 0,[],[],[]⟩
def mF.key(G:mF)(m:TM):Int×List Int:=((G.ms m).sender,lX (G.ms m))
def mF.bytes(G:mF)(m:TM):List Int:=mD (num G.K (G.key m)).toNat++lX (G.ms m)
def upto(n:Nat):TM->Prop
 | .req t=>1<=t/\t<=n
 | .prop _ t=>1<=t/\t<=n
 | .pp _ _ _ b=> ∀t∈b,1<=t/\t<=n
 | .uf _ _ _ b=> ∀t∈b,1<=t/\t<=n
 | .com _ _ _ b=> ∀t∈b,1<=t/\t<=n
 | .proof _ _ _ b _=> ∀t∈b,1<=t/\t<=n
 | .rep _ t=>1<=t/\t<=n
def mF.has(G:mF):TM->Prop
 | .proof src k seq b vs=>G.key (.proof src k seq b vs)∈G.K/\ ∀i∈vs,G.BO 5 i k seq b∈G.K
 |m=>G.key m∈G.K
theorem mF.NU{G:mF}{m:TM}(h:G.has m):G.key m∈G.K:=by
 cases m<;>first|exact h|exact h.1
structure mF.Le(G H:mF):Prop where
 f:H.f=G.f
 nD: ∃l,H.nD=G.nD++l
 res: ∃l,H.res=G.res++l
 len:G.res.length=G.nD.length
 K: ∃l,H.K=G.K++l
section
variable{G H I:mF}
theorem VX{K l:List (Int×List Int)}(h:q∈K):num (K++l) q=num K q:=by
 unfold num;rw[aV h,aV (bL _ h),List.idxOf_append,aV h]
theorem zf(K:List (Int×List Int))(q:Int×List Int):q∈sealed K q:=by
 unfold sealed;split
 ·assumption
 simp
theorem CJ(K:List (Int×List Int))(q:Int×List Int): ∃l,sealed K q=K++l:=by
 unfold sealed;split
 ·exact⟨[],lT⟩
 exact⟨[q],rfl⟩
theorem Iy{α:Type}{l m:List α}{d:α}(h:k<l.length):(l++m).getD k d=l.getD k d:=by
 simp[List.getD,bC h]
theorem mF.Le.rq(h:G.Le H){t:Nat}(h1:1<=t)(h2:t<=G.nD.length):H.rq t=G.rq t:=by
 obtain⟨l,hl⟩:=h.nD;unfold mF.rq;rw[hl,Iy lK]
theorem mF.Le.qR(h:G.Le H)(hb: ∀t∈b,1<=t/\t<=G.nD.length):H.qR b=G.qR b:=
 dX fun t ht=>h.rq (hb t ht).1 (hb t ht).2
theorem mF.Le.wL(h:G.Le H)(hb: ∀t∈b,1<=t/\t<=G.nD.length)(kind:Int)(i k seq:Nat):H.wL kind i k seq b=G.wL kind i k seq b:=by
 unfold mF.wL;rw[h.qR hb]
theorem mF.Le.BO(h:G.Le H)(hb: ∀t∈b,1<=t/\t<=G.nD.length)(kind:Int)(i k seq:Nat):H.BO kind i k seq b=G.BO kind i k seq b:=by
 unfold mF.BO;rw[h.wL hb]
theorem mF.Le.num(h:G.Le H)(hq:q∈G.K):num H.K q=num G.K q/\q∈H.K:=by
 obtain⟨l,hl⟩:=h.K;rw[hl];exact⟨VX hq,bL _ hq⟩
theorem mF.Le.vo(h:G.Le H)(hb: ∀t∈b,1<=t/\t<=G.nD.length){kind:Int}{i:Nat}(hq:G.BO kind i k seq b∈G.K):H.vo kind k seq b i=G.vo kind k seq b i:=by
 unfold mF.vo;rw[h.BO hb,(h.num hq).1]
theorem mF.Le.ce(h:G.Le H){vs:LN}(hb: ∀t∈b,1<=t/\t<=G.nD.length)(hq: ∀i∈vs,G.BO 5 i k seq b∈G.K):H.ce k seq b vs=G.ce k seq b vs:=by
 unfold mF.ce;rw[h.qR hb,dX fun i hi=>h.vo hb (hq i hi)]
theorem mF.Le.ms(h:G.Le H){m:TM}(hu:upto G.nD.length m)(hh:G.has m):H.ms m=G.ms m:=by
 cases m with
 |req t=>simp only[mF.ms,h.rq hu.1 hu.2]
 |prop s t=>simp only[mF.ms,h.rq hu.1 hu.2]
 |pp s k q b=>simp only[mF.ms,h.qR hu]
 |uf s k q b=>exact h.wL hu _ _ _ _
 |com s k q b=>exact h.wL hu _ _ _ _
 |proof s k q b vs=>simp only[mF.ms,h.ce hu hh.2]
 |rep s t=>
  obtain⟨l,hl⟩:=h.res;simp only[mF.ms];rw[hl,Iy (by have:=h.len;have:=hu.1;have:=hu.2;omega)]
theorem mF.Le.bytes(h:G.Le H){m:TM}(hu:upto G.nD.length m)(hh:G.has m):H.bytes m=G.bytes m/\H.key m=G.key m:=by
 have e:=h.ms hu hh;have k:H.key m=G.key m:=by unfold mF.key;rw[e]
 refine⟨?_,k⟩;unfold mF.bytes;rw[k,e,(h.num (mF.NU hh)).1]
theorem mF.Le.has(h:G.Le H){m:TM}(hu:upto G.nD.length m)(hh:G.has m):H.has m:=by
 have k:=(h.num (mF.NU hh)).2;rw[<-(h.bytes hu hh).2] at k
 cases m with
 |proof s k' q b vs=>exact⟨k,fun i hi=>by rw[h.BO hu];exact(h.num (hh.2 i hi)).2⟩
 |_=>exact k
def mF.zL(G:mF)(kind:Int)(k seq:Nat):List (Option LN)->Nat->List Xk
 | [],_=> []
 |none::l,i=>none::G.zL kind k seq l (i+1)
 |some b::l,i=>some (num G.K (G.BO kind i k seq b),G.qR b)::G.zL kind k seq l (i+1)
end
def zI(n d:Nat):Int:=if d<n then(d:Int) else 100+((d:Int) -n)
end
def DV(src id t res:Int):Ms:=⟨10,src,0,id,t,res,[],[],[]⟩
theorem QU (w:World) (nn b:Nat) (K:List (Int×List Int)) (hN:vC w nn b K) (f cl:Int) (h1:1<=f) (h4:f<=4) (hc:1<=cl/\cl<=4) (A:OA) (m c:Nat) (bs:LI) (src id t res z:Int) (hz:qh z) (hs:xE K (DV src id t res) z) (hbs:bs=mD z.toNat++lX (DV src id t res)) (hm:bs.length=m) (hm2:m<=65536) (hcp:m<=c)
  (hv:mo w A m 1 (mZ bs)) (x:Nat) (hx:x<w.heap.size) (hsrc:qU src 0 (3*f)=true) (hk:qU id 0 (cl -1)=true) (hq:qU t 1 1048576=true) (hr:qU res (-549755813887) 549755813887=true):
  Y 119 #[.slice A m c,U f,U cl,nn] w fun e w'=>(∃p6 c6 p7 c7 p8 c8 p9 c9,e= .returned (.tuple #[.agg #[U 10,U src,U 0,U id,U t,U res,.slice p6 0 c6,.slice p7 0 c7,.slice p8 0 c8,.slice p9 0 c9],U z,U 0]))/\Be w w':=by
 have key: ∀d:MD,nA d=DV src id t res-> ∀w',d.Is w'->d.kind=10/\d.sender=src/\d.view=0/\d.inst=id/\d.seq=t/\d.res=res/\d.bn=0/\d.vn=0/\d.cn=0:=fun d e w' h=>by
  simp only[nA,DV,Ms.mk.injEq,gI] at e;obtain⟨e1,e2,e3,e4,e5,e6,e7,e8,e9⟩:=e;exact⟨e1,e2,e3,e4,e5,e6,by rw[<-h.b.len,e7];rfl,by rw[<-h.v.len,e8];rfl,by rw[<-h.c.len,e9];rfl⟩
 refine(abt w nn b K hN f cl A m c bs (DV src id t res) z hz hs hbs hm hm2 hcp hv x hx fun w' d e h=> ?_).mono ?_
 ·obtain⟨e1,e2,e3,e4,e5,e6,e7,e8,e9⟩:=key d e w' h
  have:=aat w' f cl h1 h4 d.ba d.va d.ca d.pa d.bc d.vc d.cc d.pc src id t res hsrc hc hk hq hr;simp only[oM,e1,e2,e3,e4,e5,e6,e7,e8,e9];exact this
 rintro e w' ⟨d,rfl,hd,TF,hb⟩;obtain⟨e1,e2,e3,e4,e5,e6,e7,e8,e9⟩:=key d hd w' TF.md;exact⟨⟨_,_,_,_,_,_,_,_,by simp only[oM,e1,e2,e3,e4,e5,e6,e7,e8,e9];rfl⟩,hb⟩
theorem Uj(w:World)(x gk:Nat)(f id:Int)(d:sI)(h:qF x w f id gk d)(hw:d.waits=false)(A:OA)(m c:Nat):
  Y 89 #[gk,.slice A m c] w fun e w'=>e= .returned false/\w=w':=by
 have c18:J w gk 18 false:=by have:=h.blk.cell 18;simp only[Nz,hw] at this;exact this
 clear h;go_enter func89,ntmps89
 go_wp2_with fail
 go_ret;exact⟨by trivial,by trivial⟩
theorem adg{A:OA}{l:List (Int×Int)}(h:mo w A n 2 (l.flatMap Kw))(hl:l.length=n)(hk:k<n): ∃(p:Int×Int) (b off:Nat),l[k]?=some p/\A=some ⟨b,off,none⟩/\J w b (off+k*2) (U p.1)/\J w b (off+k*2+1) (U p.2):=by
 obtain⟨b,off,rfl,hlt,hc⟩:=h.2 lK;have hk':k<l.length:=lK;have key: ∀j v,j<2->(Kw l[k])[j]?=some v->J w b (off+k*2+j) v:=fun j v hj hv=>by
  rw[dL];exact hc _ _ (nT Kw 2 (fun _=>rfl) l k j hj hk' v hv)
 exact⟨l[k],b,off,aj hk',rfl,key 0 _ lK rfl,key 1 _ lK rfl⟩
theorem qF.an1{id:Int}{d:sI}(h:qF x w f id gk d){aa':OA}{ac':Nat}{al':List (Int×Int)}(hb:lQ w' gk 120 (Nz f id {d with aa:=aa',ac:=ac',al:=al'}))(ho:w'.ownsRow 0 253 2 (.slice aa' al'.length ac') al'.length (al'.flatMap Kw))(o:Only (gk::(d.aa.map (·.block)).toList) w w'):qF x w' f id gk {d with aa:=aa',ac:=ac',al:=al'}:=by
 have far: ∀{base t s n c:Nat} {a:OA} {xs:LV},w.ownsRow base t s (.slice a n c) n xs->t≠120->t≠253-> ∀g∈(a.map (·.block)).toList,g∉gk::(d.aa.map (·.block)).toList:=fun hr h1 h2 g hg hm=>by
  simp only[ay] at hm;rcases hm with rfl|hm
  ·exact oJ hr h.blk h1 _ hg rfl
  exact uP hr h.ans h2 g hg hm
 refine⟨hb,lQ.only h.Bc o ?_,wF h.yK o (far h.yK lN lN),h.isx,ho,wF h.acc o (far h.acc lN lN),h.out.only o ?_ fun b hb=>far h.out.own lN lN b (aJ.2 hb)⟩
 ·simp only[ay]
  rintro(hm|hm)
  ·exact lQ.nY h.Bc h.blk lN hm
  exact oJ h.ans h.Bc lN _ hm rfl
 intro g hg;simp only[ay] at hg;rcases hg with rfl|hg
 ·exact nV.of h.blk lN
 exact wH h.ans lN g hg
theorem qF.anZ{id:Int}{d:sI}(h:qF x w f id gk d){wt:Bool}{ea':OA}{ec':Nat}{el':List (Rq×Int)}(hb:lQ w' gk 120 (Nz f id {d with waits:=wt,ea:=ea',ec:=ec',el:=el'}))(ho:w'.ownsRow 0 51 7 (.slice ea' el'.length ec') el'.length (el'.flatMap EO))(o:Only (gk::(d.ea.map (·.block)).toList) w w'):qF x w' f id gk {d with waits:=wt,ea:=ea',ec:=ec',el:=el'}:=by
 have far: ∀{base t s n c:Nat} {a:OA} {xs:LV},w.ownsRow base t s (.slice a n c) n xs->t≠120->t≠51-> ∀g∈(a.map (·.block)).toList,g∉gk::(d.ea.map (·.block)).toList:=fun hr h1 h2 g hg hm=>by
  simp only[ay] at hm;rcases hm with rfl|hm
  ·exact oJ hr h.blk h1 _ hg rfl
  exact uP hr h.acc h2 g hg hm
 refine⟨hb,lQ.only h.Bc o ?_,wF h.yK o (far h.yK lN lN),h.isx,wF h.ans o (far h.ans lN lN),ho,h.out.only o ?_ fun b hb=>far h.out.own lN lN b (aJ.2 hb)⟩
 ·simp only[ay]
  rintro(hm|hm)
  ·exact lQ.nY h.Bc h.blk lN hm
  exact oJ h.acc h.Bc lN _ hm rfl
 intro g hg;simp only[ay] at hg;rcases hg with rfl|hg
 ·exact nV.of h.blk lN
 exact wH h.acc lN g hg
theorem adY (w:World) (x gk b:Nat) (f id:Int) (d:sI) (h:qF x w f id gk d) (h1:1<=f) (h4:f<=4) (hid:0<=id/\id<2) (K:List (Int×List Int)) (hN:vC w d.nn b K) (hw:d.waits=true) (hx:x<w.heap.size) (hl:d.il.length<=1000) (hal:d.al.length<=1000) (hel:d.el.length<=1000)
  (j:Nat) (hj:d.il.length=j+1) (r:Rq) (hr:d.il[j]?=some r) (t:Int) (ht:r.2.1=t) (src res:Int) (aaB: ∀p∈d.al,p.1≠src/\p.2=res)
  (A:OA) (m c:Nat) (bs:LI) (z:Int) (hz:qh z) (hs:xE K (DV src id t res) z) (hbs:bs=mD z.toNat++lX (DV src id t res)) (hm:bs.length=m) (hm2:m<=65536) (hcp:m<=c)
  (hv:mo w A m 1 (mZ bs)) (hsrc:qU src 0 (3*f)=true) (hk:qU id 0 (2 -1)=true) (hq:qU t 1 1048576=true) (hres:qU res (-549755813887) 549755813887=true):
  Y 89 #[gk,.slice A m c] w fun e w'=>e= .returned true/\ ∃d',qF x w' f id gk d'/\d'.waits=decide ((d.al.length:Int)<f)/\d'.il=d.il/\d'.at_=d.at_/\d'.now=d.now/\d'.al=d.al++ [(src,res)]/\d'.el=(if(d.al.length:Int)<f then d.el else d.el++ [(r,res)])/\d'.ol=d.ol/\d'.nn=d.nn/\d'.gt=d.gt/\
   Only (d.foot gk) w w'/\(∀g∈d'.foot gk,g∈d.foot gk\/w.heap.size<=g):=by
 obtain⟨i0,hi0,hz0,hz1,hz2⟩:=bq Mf;obtain⟨j0,hj0,hy0,hy1,hy2⟩:=bq Mh;obtain⟨nn,gt,waits,ia,ic,il,at_,aa,ac,al,ea,ec,el,oa,oc,ol,now⟩:=d;obtain⟨r0,r1,r2,r3,r4,r5⟩:=r;simp only at hN hw hl hj hr ht aaB hal hel;subst hw;subst ht;obtain⟨im,him⟩:=ex il.length;obtain⟨om,hom⟩:=ex ol.length;obtain⟨am,ham⟩:=ex al.length;obtain⟨em,hem⟩:=ex el.length;rw[<-him] at hl hj;rw[<-ham] at hal;rw[<-hem] at hel;have HB:Hid (lQ w gk 120 #[U f,U 2,U 2,U 4,U 64,U 8,U 8,U 8,U 1,U 2,U 12,U 8,U 6,U 2,U 6,U id,nn,gt,true,.slice ia im ic,U at_,.slice aa am ac,.slice ea em ec,.slice oa om oc]):=jj (by rw[him,hom,ham,hem];exact h.blk);have c18:=HB.at_ 18;obtain⟨H,HN,HR,HA,HS,Lf⟩:=j6 h hN hr aaB hs hbs;obtain⟨HV,HX,HIM,HAM,HEM,HOM⟩:=j6 hv hx him ham hem hom;have HJ:=jj hj;have HM:=jj hm;have HF:=jj (⟨hsrc,hk,hq,hres⟩:_/\_/\_/\_);clear h hN hr aaB hs hbs hv hx him ham hem hom hj hm hsrc hk hq hres;go_enter func89,ntmps89
 go_upto_region 3 with fail
 go_cut [5,6,7] from 16 to 35 (fun q5 q6 q7 wx=>q6= U z/\q7= U 0/\ ∃g5 p6 c6 p7 c7 p8 c8 p9 c9,q5= .pointer (some ⟨g5,0,none⟩)/\lQ wx g5 82 #[U 10,U src,U 0,U id,U r1,U res,.slice p6 0 c6,.slice p7 0 c7,.slice p8 0 c8,.slice p9 0 c9]/\w.heap.size<=g5/\Be w wx)
 case first=>
  have KS:Hid (∀w',Only [] w w'->J w' gk 0 (U f)/\J w' gk 1 (U 2)/\J w' gk 16 nn):=jj fun w' o=>by
   have k1:=HB.only o lT;exact⟨k1.cell 0,k1.cell 1,k1.cell 16⟩
  refine rD (fun w'=>J w' gk 0 (U f)/\J w' gk 1 (U 2)/\J w' gk 16 nn) 24 (tk 0 15 (.two 15 (tk 16 4 (.one 20 (.one 21 (.take 22 (.take 23 .done))))) 20 (.one 15 (tk 16 4 (.one 21 (.take 22 (.take 23 .done))))))) (KS.out _ (Only.refl _ _).drew) fun v3 B3 hS0=> ?_;clear c18
  repeat refine' tT ?_
  refine qN ?_ ?_
  ·refine pO fun KT lS=> ?_
   go_simp;refine(QU v3 nn b K (HN.below B3) f 2 h1 h4 lK A m c bs src id r1 res z hz HS Lf HM hm2 hcp (HV.below B3) x (aB HX B3.size) HF.1 HF.2.1 HF.2.2.1 HF.2.2.2).mono ?_;rintro e v4 ⟨⟨p6,c6,p7,c7,p8,c8,p9,c9,rfl⟩,hb4⟩;have B4:=nO B3 hb4;clear hb4;have S4:=KS.out _ (Only.of_below B4);refine oH lS S4 ?_;clear hS0;have hS0:=S4
   repeat refine' tT ?_
   refine pO fun KT lS=> ?_;go_simp;generalize hv5:v4.alloc _=v5;generalize hg5:v4.heap.size=g5;replace hv5:=hv5.symm;replace hg5:=hg5.symm;have X5:=xNew hv5 hg5;have YQ:Hid (w.heap.size<=g5):=jj (by rw[hg5];exact B4.size);have B5:=GN B4 hv5;clear hv5 hg5;have S5:=KS.out _ (Only.of_below B5);refine oH lS S5 ?_;clear hS0 S4;have hS0:=S5
   repeat refine' tT ?_
   refine pO fun KT lS=> ?_;have y0:=X5.at_ 0;have z0:=X5.frozen 0;have y1:=X5.at_ 1;have z1:=X5.frozen 1;have y2:=X5.at_ 2;have z2:=X5.frozen 2;have y3:=X5.at_ 3;have z3:=X5.frozen 3;have y4:=X5.at_ 4;have z4:=X5.frozen 4;have y5:=X5.at_ 5;have z5:=X5.frozen 5;have y6:=X5.at_ 6;have z6:=X5.frozen 6;have y7:=X5.at_ 7;have z7:=X5.frozen 7;have y8:=X5.at_ 8;have z8:=X5.frozen 8;have y9:=X5.at_ 9;have z9:=X5.frozen 9;go_simp;obtain⟨w9,mE⟩:=ex (setW v5 g5 0 [U 10,U src,U 0,U id,U r1,U res,.slice p6 0 c6,.slice p7 0 c7,.slice p8 0 c8,.slice p9 0 c9]);have K9:=jj (uL mE X5);have O9:=jj (vM mE);simp only[setW,aO,Nat.reduceAdd] at mE;rw[<-mE];clear mE y0 z0 y1 z1 y2 z2 y3 z3 y4 z4 y5 z5 y6 z6 y7 z7 y8 z8 y9 z9;have B9:Be w w9:=O9.below B5 B5.size (mR YQ.out);have S9:=KS.out _ (Only.of_below B9);refine oH lS S9 ?_;clear hS0;have hS0:=S9
   repeat refine' tT ?_
   refine lM ?_
   go_wp2_with fail
   go_meet;exact⟨rfl,rfl,g5,p6,c6,p7,c7,p8,c8,p9,c9,rfl,K9,YQ,B9⟩
  refine pO fun KT lS=> ?_;go_simp;generalize hv5:v3.alloc _=v4;generalize hg5:v3.heap.size=g5;replace hv5:=hv5.symm;replace hg5:=hg5.symm;have X4:=xNew hv5 hg5;have YQ:Hid (w.heap.size<=g5):=jj (by rw[hg5];exact B3.size);have B4:=GN B3 hv5;clear hv5 hg5;have S4:=KS.out _ (Only.of_below B4);refine oH lS S4 ?_;clear hS0;have hS0:=S4
  repeat refine' tT ?_
  refine pO fun KT lS=> ?_;go_simp;refine(QU v4 nn b K (HN.below B4) f 2 h1 h4 lK A m c bs src id r1 res z hz HS Lf HM hm2 hcp (HV.below B4) x (aB HX B4.size) HF.1 HF.2.1 HF.2.2.1 HF.2.2.2).mono ?_;rintro e v5 ⟨⟨p6,c6,p7,c7,p8,c8,p9,c9,rfl⟩,hb4⟩;have B5:=nO B4 hb4;have X5:=jj (X4.below hb4 X4.lt);clear hb4;have S5:=KS.out _ (Only.of_below B5);refine oH lS S5 ?_;clear hS0 S4;have hS0:=S5
  repeat refine' tT ?_
  refine pO fun KT lS=> ?_;have y0:=X5.at_ 0;have z0:=X5.frozen 0;have y1:=X5.at_ 1;have z1:=X5.frozen 1;have y2:=X5.at_ 2;have z2:=X5.frozen 2;have y3:=X5.at_ 3;have z3:=X5.frozen 3;have y4:=X5.at_ 4;have z4:=X5.frozen 4;have y5:=X5.at_ 5;have z5:=X5.frozen 5;have y6:=X5.at_ 6;have z6:=X5.frozen 6;have y7:=X5.at_ 7;have z7:=X5.frozen 7;have y8:=X5.at_ 8;have z8:=X5.frozen 8;have y9:=X5.at_ 9;have z9:=X5.frozen 9;go_simp;obtain⟨w9,mE⟩:=ex (setW v5 g5 0 [U 10,U src,U 0,U id,U r1,U res,.slice p6 0 c6,.slice p7 0 c7,.slice p8 0 c8,.slice p9 0 c9]);have K9:=jj (uL mE X5);have O9:=jj (vM mE);simp only[setW,aO,Nat.reduceAdd] at mE;rw[<-mE];clear mE y0 z0 y1 z1 y2 z2 y3 z3 y4 z4 y5 z5 y6 z6 y7 z7 y8 z8 y9 z9;have B9:Be w w9:=O9.below B5 B5.size (mR YQ.out);have S9:=KS.out _ (Only.of_below B9);refine oH lS S9 ?_;clear hS0;have hS0:=S9
  repeat refine' tT ?_
  refine lM ?_
  go_wp2_with fail
  go_meet;exact⟨rfl,rfl,g5,p6,c6,p7,c7,p8,c8,p9,c9,rfl,K9,YQ,B9⟩
 case rest=>
  obtain⟨rfl,rfl,g5,p6,c6,p7,c7,p8,c8,p9,c9,rfl,hg5,hge,hb3⟩:=hcut;obtain⟨w3,hw3⟩:=ex wc;rw[<-hw3];rw[<-hw3] at hg5 hb3;clear hw3 c18;obtain⟨X5,B3,YQ⟩:=j3 hg5 hb3 hge;have K3:=jj (H.below hb3);have HB3:=jj (HB.below hb3 HB.lt);clear hg5 hge hb3;have LAST:Hid (∀(u:World),qF x u f id gk ⟨nn,gt,true,ia,ic,il,at_,aa,ac,al,ea,ec,el,oa,oc,ol,now⟩->Y 57 #[gk] u fun e w'=>e= .returned (.agg #[U r0,U r1,U r2,U r3,U r4,U r5])/\Be u w'):=jj fun u hu=>(Oi u gk _ hu.blk ia im ic il (by simp[Nz,HIM.out]) ⟨by have:=l9 hu.yK;rwa [<-HIM.out] at this,HIM.symm,by have:=qB hu.yK;rwa [<-HIM.out] at this,uO hu.yK⟩ j HJ lK (r0,r1,r2,r3,r4,r5) HR)
  go_upto_region 4 with fail
  have hfd: ∀w:World,(Instr.field 49 (.agg #[U r0,U r1,U r2,U r3,U r4,U r5]) 1).run prog w= .ok (U r1) w:=fun _=>by kernel_rfl
  refine rD (fun w'=>J w' gk 15 (U id)/\J w' g5 0 (U 10)/\J w' g5 3 (U id)/\J w' g5 4 (U r1)) 24 (tk 0 20 (.one 20 (tk 21 3 .done))) ⟨HB3.drew.cell 15,X5.drew.cell 0,X5.drew.cell 3,X5.drew.cell 4⟩ fun v4 E4 hS0=> ?_
  repeat refine' tT ?_
  refine pO fun KT lS=> ?_;go_simp;refine(LAST.out v4 (K3.below E4)).mono ?_;rintro e v6 ⟨rfl,hb6⟩;have E6:=nO E4 hb6;clear hb6;have S6:J v6 gk 15 (U id)/\J v6 g5 0 (U 10)/\J v6 g5 3 (U id)/\J v6 g5 4 (U r1):=⟨kept E6 _ _ (HB3.cell 15),kept E6 _ _ (X5.cell 0),kept E6 _ _ (X5.cell 3),kept E6 _ _ (X5.cell 4)⟩;refine oH lS S6 ?_;clear hS0;have hS0:=S6
  repeat refine' tT ?_
  refine lM ?_;clear hS0 S6;have K6:=jj (K3.below E6);have HB6:=jj (HB3.below E6 HB3.lt);have X6:=jj (X5.below E6 X5.lt);have B6:=jj (B3.trans (E6.mono B3.size));have c21:=HB6.at_ 21
  go_wp2_with fail
  go_loopw [8,65] (fun s q wr=> ∃k:Nat,k<=am/\q= U k/\s= U ((k:Int)+1)/\Be v6 wr) (fun _ q _=>am -(intOf q).toNat)
  case atStart=>exact⟨0,lK,by first|rfl|simp,by first|rfl|simp,aC _ _⟩
  case round=>
   obtain⟨k,hk,rfl,rfl,hb⟩:=hrel;have BW:=jj hb;clear hb c21;by_cases hlt:k<am
   ·have i1:(k:Int)<am:=lK
    have i0:(0:Int)<=k:=lK;have e2:IntKind.i64.wrap ((k:Int)+1)=(k:Int)+1:=aH _ lK;have e3:IntKind.i64.wrap ((k:Int)+1+1)=(k:Int)+1+1:=aH _ lK;obtain⟨a,a',off,hla,haa,y0,y1⟩:=adg (k:=k) (l9 (own_below K6.ans BW)) rfl (by have:=HAM.out;simp only;omega);simp only at hla haa;subst haa;obtain⟨n1,n2⟩:=HA.out a (ak hla);rw[n2] at y1;have i2: ¬a.1=src:=n1;have X5R:=X6.below BW X6.lt;have d1:=X5R.at_ 1;have d5:=X5R.at_ 5;obtain⟨a1,a2⟩:=a;simp only at y0 y1 i2 n2;subst n2;clear n1 hla X5R
    go_upto_region 10 with fail
    obtain⟨v7,hv7⟩:=ex ((wr.alloc (.cells #[U a1,U a2] 253)));obtain⟨g7,sM⟩:=ex wr.heap.size;rw[<-hv7,<-sM];have E7:=(tQ hv7).out;have X7:=xNew hv7 sM;have d1':=kept E7 _ _ d1;have d5':=kept E7 _ _ d5;obtain⟨x0,x1⟩:=X7.a2;have B7:=nO BW E7;clear hv7 sM y0 y1 d1 d5 E7
    go_wp2_with fail
    go_roundw
    case rel=>exact⟨k+1,lK,by go_num,by go_num,B7⟩
    simp[intOf];omega
   obtain rfl:k=am:=lK;have i1: ¬(k:Int)<k:=lK
   go_upto_region 15 with fail
   have KW:=jj (K6.below BW);have HBW:=jj (HB6.below BW HB6.lt);have XW:=jj (X6.below BW X6.lt);have B7:=jj (B6.trans (BW.mono B6.size));obtain⟨wo,hwo⟩:=ex wr;rw[<-hwo] at KW HBW XW B7|-;clear hwo BW;have Zd:Hid (wo.ownsRow 0 253 2 (.slice aa k ac) k (al.flatMap Kw)):=jj (by have:=KW.ans;simp only at this;rwa [<-HAM.out] at this);have KS:Hid (∀w',Only [] wo w'->J w' gk 21 (.slice aa k ac)/\J w' g5 1 (U src)/\J w' g5 5 (U res)):=jj fun w' o=>by
    have k1:=HBW.only o lT;have k2:=XW.only o lT;exact⟨k1.cell 21,k2.cell 1,k2.cell 5⟩
   refine rD (fun w'=>J w' gk 21 (.slice aa k ac)/\J w' g5 1 (U src)/\J w' g5 5 (U res)) 14 (tk 0 10 (.one 10 (.one 11 (.one 12 (.take 13 (.one 14 .done)))))) (KS.out _ (Only.refl _ _).drew) fun v5 E5 hS0=> ?_
   repeat refine' tT ?_
   refine pO fun KT lS=> ?_;go_simp;obtain⟨v7,hv7⟩:=ex (v5.alloc (.cells #[U src,U res] 253));obtain⟨g7,sM⟩:=ex v5.heap.size;rw[<-hv7,<-sM];have E7:=GN E5 hv7;have X7:=xNew hv7 sM;clear hv7 sM;have S7:=KS.out _ (Only.of_below E7.out);refine oH lS S7 ?_;clear hS0;have hS0:=S7
   repeat refine' tT ?_
   refine pO fun KT lS=> ?_;refine oo (by rfl) _ _ _ (by rfl) 0 253 i0 _ 2 16 underlying118 hi0 hz0 hz1 hz2 rfl lK aa k ac (al.flatMap Kw) (by rfl) (own_below (Zd) E7.out) (some ⟨g7,0,none⟩) 1 1 (Kw (src,res)) (by rfl) (mo.nR (n:=1) (s:=2) X7 rfl) (fun u hu=>PX [(src,res)] u (mR hu)) (by unfold maxLen;omega) lK (bF _) ?_;intro a8 c8 v8 h8;have P8:Hid (Only (aa.map (·.block)).toList wo v8):=jj ((Only.of_below E7.out).trans h8.only);have Ngk: ∀k∈(aa.map (·.block)).toList,k≠gk:=oJ (Zd) HBW lN;have K8:=jj (HBW.only P8 fun hm=>Ngk _ hm rfl);have Zw:=jj h8.own;have WQ:Hid (∀k,a8.map (·.block)=some k->aa.map (·.block)=some k\/wo.heap.size<=k):=jj fun k hk=>by
    rcases h8.at_ k hk with h|h
    ·exact .inl h
    exact .inr (aG E7.out.size h)
   clear h8;have S8:=(show J v8 gk 21 (.slice aa k ac)/\J v8 g5 1 (U src)/\v8.cell? ⟨g5,5,none⟩=some (U res) from⟨K8.cell 21,(XW.only P8 fun hm=>oJ Zd XW lN _ hm rfl).cell 1,(XW.only P8 fun hm=>oJ Zd XW lN _ hm rfl).cell 5⟩);refine oH lS S8 ?_;clear hS0 S7;have hS0:=S8
   repeat refine' tT ?_
   refine pO fun KT lS=> ?_;go_simp;refine oH lS S8 ?_
   repeat refine' tT ?_
   have f8:=K8.frozen 21;refine pL fun KT lS=> ?_;go_simp;refine oL lS ?_;refine lM ?_;clear hS0 S8 f8;obtain⟨wp,mE⟩:=ex (v8.setCell ⟨gk,21,none⟩ (.slice a8 (k+1) c8));rw[<-mE];have op:Hid (Only [gk] v8 wp):=jj (by rw[mE];exact(Only.refl [gk] _).setCell (.inl lT) _);have Kp:Hid (lQ wp gk 120 #[U f,U 2,U 2,U 4,U 64,U 8,U 8,U 8,U 1,U 2,U 12,U 8,U 6,U 2,U 6,U id,nn,gt,true,.slice ia im ic,U at_,.slice a8 (k+1) c8,.slice ea em ec,.slice oa om oc]):=jj (by rw[mE];exact K8.mg 21 _);have anq:=jj (mh Zw op K8 lN);have Pp:Hid (Only (gk::(aa.map (·.block)).toList) wo wp):=jj ((P8.mono (fun k hk=> .inl (by simp only[ay];exact .inr hk))).then op lT);have ATp:=WQ;clear mE Zw Ngk WQ;obtain⟨d1,hd1⟩: ∃d1:sI,d1=⟨nn,gt,true,ia,ic,il,at_,a8,c8,al++ [(src,res)],ea,ec,el,oa,oc,ol,now⟩:=⟨_,rfl⟩;have LA:Hid ((al++ [(src,res)]).length=k+1):=jj (by simp[HAM.out]);have aoz:=jj hd1;have CK1:Hid (qF x wp f id gk d1):=jj (by
    rw[hd1];exact KW.an1 (aa':=a8) (ac':=c8) (al':=al++ [(src,res)]) (by
     have e:Nz f id ⟨nn,gt,true,ia,ic,il,at_,a8,c8,al++ [(src,res)],ea,ec,el,oa,oc,ol,now⟩=#[U f,U 2,U 2,U 4,U 64,U 8,U 8,U 8,U 1,U 2,U 12,U 8,U 6,U 2,U 6,U id,.pointer (some ⟨nn,0,none⟩),.pointer (some ⟨gt,0,none⟩),.bool true,.slice ia im ic,U at_,.slice a8 (k+1) c8,.slice ea em ec,.slice oa om oc]:=by
      simp only[Nz,LA.out,HIM.out,HEM.out,HOM.out]
     rw[e];exact Kp.out) (by
     rw[LA.out,bS];simpa using anq.out) Pp)
   have FT1:Hid (∀g∈d1.foot gk,g∈(⟨nn,gt,true,ia,ic,il,at_,aa,ac,al,ea,ec,el,oa,oc,ol,now⟩:sI).foot gk\/wo.heap.size<=g):=jj (by
    rw[hd1];intro g hg;simp only[sI.foot,ay,aQ] at hg|-;rcases hg with rfl|rfl|hg|hg|hg|hg
    ·exact .inl (.inl rfl)
    ·exact .inl (.inr (.inl rfl))
    ·exact .inl (.inr (.inr (.inl hg)))
    ·rcases ATp.out g (aJ.1 hg) with h|h
     ·exact .inl (.inr (.inr (.inr (.inl (aJ.2 h)))))
     exact .inr h
    ·exact .inl (.inr (.inr (.inr (.inr (.inl hg)))))
    exact .inl (.inr (.inr (.inr (.inr (.inr hg))))))
   have OW1:Hid (Only ((⟨nn,gt,true,ia,ic,il,at_,aa,ac,al,ea,ec,el,oa,oc,ol,now⟩:sI).foot gk) w wp):=jj ((Only.of_below B7).then (Pp.mono fun g hg=>by
    simp only[ay] at hg;rcases hg with rfl|hg
    ·exact .inl (by simp[sI.foot])
    exact .inl (by simp only[sI.foot,ay,aQ];exact .inr (.inr (.inr (.inl hg))))) fun g hg=> .inl hg)
   have XP:=jj (XW.only Pp (by
    simp only[ay];rintro(hm|hm)
    ·exact XW.nY HBW lN hm
    exact oJ Zd XW lN _ hm rfl))
   have Ey:Hid (d1.al=al++ [(src,res)]/\d1.nn=nn/\d1.gt=gt/\d1.il=il/\d1.at_=at_/\d1.now=now/\d1.el=el/\d1.ol=ol/\d1.waits=true/\d1.ea=ea/\d1.ec=ec):=jj (by rw[hd1];exact⟨rfl,rfl,rfl,rfl,rfl,rfl,rfl,rfl,rfl,rfl,rfl⟩);have cf0:=Kp.at_ 0
   go_wp2_with fail
   refine(UR f wp h1 h4).mono ?_;rintro e w' ⟨rfl,rfl⟩;have WS:Hid (wo.heap.size<=wp.heap.size):=jj Pp.size;have WSO:Hid (w.heap.size<=wo.heap.size):=jj B7.size;by_cases hgf:(f:Int)<=k
   ·have aoF:f+1<=(k:Int)+1:=lK
    have aoG: ¬(k:Int)<f:=lK;have adK: ¬(al.length:Int)<f:=by have:=HAM.out;omega
    have avo:f<=(al.length:Int):=lK;clear cf0;have ac6:Hid (lQ wp gk 120 #[U f,U 2,U 2,U 4,U 64,U 8,U 8,U 8,U 1,U 2,U 12,U 8,U 6,U 2,U 6,U id,nn,gt,true,.slice ia im ic,U at_,.slice a8 (k+1) c8,.slice ea em ec,.slice oa om oc]):=Kp;obtain⟨a8_,h8a⟩:=ex a8;obtain⟨c8_,h8c⟩:=ex c8;rw[<-h8a,<-h8c] at ac6;have H8A:=jj h8a;have H8C:=jj h8c;clear h8a h8c;have Zj:Hid (wp.ownsRow 0 51 7 (.slice ea em ec) em (el.flatMap EO)):=jj (by
     have e:=CK1.acc;rw[Ey.2.2.2.2.2.2.2.2.2.1,Ey.2.2.2.2.2.2.2.2.2.2,Ey.2.2.2.2.2.2.1,<-HEM.out] at e;exact e)
    have ajd:Hid (∀(u:World),Be wp u->Y 57 #[gk] u fun e w'=>e= .returned (.agg #[U r0,U r1,U r2,U r3,U r4,U r5])/\Be u w'):=jj fun u hu=>(Oi u gk _ (CK1.below hu).blk d1.ia im d1.ic d1.il (by simp[Nz,Ey.2.2.2.1,HIM.out]) ⟨by have e:=l9 (CK1.below hu).yK;rw[Ey.2.2.2.1,<-HIM.out] at e;rw[Ey.2.2.2.1];exact e,by rw[Ey.2.2.2.1];exact HIM.symm,by have e:=qB (CK1.below hu).yK;rw[Ey.2.2.2.1,<-HIM.out] at e;exact e,uO (CK1.below hu).yK⟩ j HJ lK (r0,r1,r2,r3,r4,r5) (by rw[Ey.2.2.2.1];exact HR.out))
    go_upto_region 17 with fail
    have KS:Hid (∀w',Only [] wp w'->J w' gk 22 (.slice ea em ec)/\J w' g5 5 (U res)):=jj fun w' o=>by
     have k1:=ac6.only o lT;have k2:=XP.only o lT;exact⟨k1.cell 22,k2.cell 5⟩
    refine rD (fun w'=>J w' gk 22 (.slice ea em ec)/\J w' g5 5 (U res)) 14 (tk 0 6 (.take 7 (.take 8 (.one 6 (.take 9 (.one 10 (.one 11 (.one 12 (.take 13 (.one 14 .done)))))))))) (KS.out _ (Only.refl _ _).drew) fun v4 E4 hS0=> ?_
    repeat refine' tT ?_
    refine pO fun KT lS=> ?_;go_simp;refine(ajd.out v4 E4).mono ?_;rintro e v5 ⟨rfl,hb5⟩;have E5:=nO E4 hb5;clear hb5;have S5:=KS.out _ (Only.of_below E5);refine oH lS S5 ?_;clear hS0;have hS0:=S5
    repeat refine' tT ?_
    refine pO fun KT lS=> ?_;go_simp;generalize hv7:v5.alloc _=v7;generalize sM:v5.heap.size=g7;replace hv7:=hv7.symm;replace sM:=sM.symm;have E7:=GN E5 hv7;have X7:=xNew hv7 sM;clear hv7 sM;have S7:=KS.out _ (Only.of_below E7.out);refine oH lS S7 ?_;clear hS0;have hS0:=S7
    repeat refine' tT ?_
    refine pO fun KT lS=> ?_;refine oo (by rfl) _ _ _ (by rfl) 0 51 j0 _ 7 56 underlying44 hj0 hy0 hy1 hy2 rfl lK ea em ec (el.flatMap EO) (by rfl) (own_below (Zj) E7.out) (some ⟨g7,0,none⟩) 1 1 (EO ((r0,r1,r2,r3,r4,r5),res)) (by rfl) (mo.nR (n:=1) (s:=7) X7 rfl) (fun u hu=>Ql [((r0,r1,r2,r3,r4,r5),res)] u (mR hu)) (by unfold maxLen;omega) lK (bF _) ?_;intro a8 c8 v8 h8;have P8:Hid (Only (ea.map (·.block)).toList wp v8):=jj ((Only.of_below E7.out).trans h8.only);have Ngk: ∀k∈(ea.map (·.block)).toList,k≠gk:=oJ (Zj) ac6 lN;have K8:=jj (ac6.only P8 fun hm=>Ngk _ hm rfl);have Zw:=jj h8.own;have WQ:Hid (∀k,a8.map (·.block)=some k->ea.map (·.block)=some k\/wp.heap.size<=k):=jj fun k hk=>by
     rcases h8.at_ k hk with h|h
     ·exact .inl h
     exact .inr (aG E7.out.size h)
    clear h8;have S8:=(show J v8 gk 22 (.slice ea em ec)/\v8.cell? ⟨g5,5,none⟩=some (U res) from⟨K8.cell 22,(XP.only P8 fun hm=>oJ Zj XP lN _ hm rfl).cell 5⟩);refine oH lS S8 ?_;clear hS0 S7;have hS0:=S8
    repeat refine' tT ?_
    refine pO fun KT lS=> ?_;go_simp;refine oH lS S8 ?_
    repeat refine' tT ?_
    have f8:=K8.frozen 22;refine pL fun KT lS=> ?_;go_simp;refine oL lS ?_;refine lM ?_;clear hS0 S8 f8;obtain⟨wq,mE⟩:=ex (v8.setCell ⟨gk,22,none⟩ (.slice a8 (em+1) c8));rw[<-mE];have oq:Hid (Only [gk] v8 wq):=jj (by rw[mE];exact(Only.refl [gk] _).setCell (.inl lT) _);have Kq:Hid (lQ wq gk 120 #[U f,U 2,U 2,U 4,U 64,U 8,U 8,U 8,U 1,U 2,U 12,U 8,U 6,U 2,U 6,U id,nn,gt,true,.slice ia im ic,U at_,.slice a8_ (k+1) c8_,.slice a8 (em+1) c8,.slice oa om oc]):=jj (by rw[mE];exact K8.mg 22 _);have anr:=jj (mh Zw oq K8 lN);have Pq:Hid (Only (gk::(ea.map (·.block)).toList) wp wq):=jj ((P8.mono (fun k hk=> .inl (by simp only[ay];exact .inr hk))).then oq lT);have ATq:=WQ;clear mE Zw Ngk WQ;have cq:=Kq.at_ 18;have fq:=Kq.frozen 18;have K9:Hid (lQ (wq.setCell ⟨gk,18,none⟩ false) gk 120 #[U f,U 2,U 2,U 4,U 64,U 8,U 8,U 8,U 1,U 2,U 12,U 8,U 6,U 2,U 6,U id,nn,gt,false,.slice ia im ic,U at_,.slice a8_ (k+1) c8_,.slice a8 (em+1) c8,.slice oa om oc]):=jj (Kq.mg 18 _);have O9:Hid (Only [gk] wq (wq.setCell ⟨gk,18,none⟩ false)):=jj ((Only.refl [gk] _).setCell (.inl lT) _);obtain⟨w9,mE⟩:=ex (wq.setCell ⟨gk,18,none⟩ false);have HW9:=jj mE;rw[<-mE] at K9 O9;clear mE
    go_wp2_with fail
    go_ret;rw[<-HW9.out];have LE:Hid ((el++ [((r0,r1,r2,r3,r4,r5),res)]).length=em+1):=jj (by simp[HEM.out]);have ea1:d1.ea=ea:=Ey.2.2.2.2.2.2.2.2.2.1;have el1:d1.el=el:=Ey.2.2.2.2.2.2.1;have CK2:qF x w9 f id gk {d1 with waits:=false,ea:=a8,ec:=c8,el:=el++ [((r0,r1,r2,r3,r4,r5),res)]}:=CK1.anZ (by
     have e:Nz f id {d1 with waits:=false,ea:=a8,ec:=c8,el:=el++ [((r0,r1,r2,r3,r4,r5),res)]}=#[U f,U 2,U 2,U 4,U 64,U 8,U 8,U 8,U 1,U 2,U 12,U 8,U 6,U 2,U 6,U id,.pointer (some ⟨nn,0,none⟩),.pointer (some ⟨gt,0,none⟩),.bool false,.slice ia im ic,U at_,.slice a8_ (k+1) c8_,.slice a8 (em+1) c8,.slice oa om oc]:=by
      rw[aoz.out];simp only[Nz,LA.out,HIM.out,LE.out,HOM.out,H8A.out,H8C.out]
     rw[e];exact K9.out) (by
     rw[LE.out,bS];simpa using mh anr O9 Kq lN) (by
     rw[ea1];exact Pq.trans (O9.mono fun g hg=> .inl (by simp only[au] at hg;subst hg;simp)))
    refine⟨by trivial,_,CK2,?_,Ey.2.2.2.1,Ey.2.2.2.2.1,Ey.2.2.2.2.2.1,Ey.1,?_,Ey.2.2.2.2.2.2.2.1,Ey.2.1,Ey.2.2.1,?_,?_⟩
    ·first|rfl|simp[adK]
    ·first|rfl|simp[adK]
    ·refine OW1.then (Pq.trans (O9.mono (T:=gk::(ea.map (·.block)).toList) fun g hg=> .inl (by simp only[au] at hg;subst hg;simp))) fun g hg=> .inl ?_
     simp only[ay] at hg;rcases hg with rfl|hg
     ·simp[sI.foot]
     simp only[sI.foot,ay,aQ];exact .inr (.inr (.inr (.inr (.inl hg))))
    intro g hg;have key:g∈d1.foot gk\/wp.heap.size<=g:=by
     simp only[sI.foot,ay,aQ] at hg|-;rcases hg with rfl|rfl|hg|hg|hg|hg
     ·exact .inl (.inl rfl)
     ·exact .inl (.inr (.inl rfl))
     ·exact .inl (.inr (.inr (.inl hg)))
     ·exact .inl (.inr (.inr (.inr (.inl hg))))
     ·rcases ATq.out g (aJ.1 hg) with h|h
      ·exact .inl (.inr (.inr (.inr (.inr (.inl (by rw[ea1];exact aJ.2 h))))))
      exact .inr h
     exact .inl (.inr (.inr (.inr (.inr (.inr hg)))))
    rcases key with h|h
    ·exact(FT1.out g h).imp (fun h=>h) fun h=>aG WSO h
    exact .inr (aG WSO (aG WS h))
   have aoF: ¬f+1<=(k:Int)+1:=lK;have aoG:(k:Int)<f:=lK;have adK:(al.length:Int)<f:=by have:=HAM.out;omega
   clear cf0
   go_wp2_with fail
   go_ret;refine⟨by trivial,d1,CK1,?_,Ey.2.2.2.1,Ey.2.2.2.2.1,Ey.2.2.2.2.2.1,Ey.1,?_,Ey.2.2.2.2.2.2.2.1,Ey.2.1,Ey.2.2.1,OW1,fun g hg=>(FT1.out g hg).imp (fun h=>h) fun h=>aG WSO h⟩
   ·rw[Ey.2.2.2.2.2.2.2.2.1];try simp[adK]
   exact Ey.2.2.2.2.2.2.1
section
open Classical
structure U2 where
 waits:Bool
 il:List Rq
 at_:Int
 al:List (Int×Int)
 el:List (Rq×Int)
 now:Int
def sI.val(d:sI):U2:=⟨d.waits,d.il,d.at_,d.al,d.el,d.now⟩
structure CV where
 K:KS
 nodes:List (Option ql)
 t0:Int
 ck:U2
 M:Nat->List LI
def pE(n:Nat):List Int:=(List.range n).map (fun i:Nat=>(i:Int))++ [100,101]
def DF(n i:Nat)(S:KN)(X:CV):Option CV:=
 (zD (pE n) i S.2.out X.M).map fun M=>{X with K:=S.1,nodes:=X.nodes.set i (some {S.2 with out:= []}),M:=M}
noncomputable def zm(f:Int)(n:Nat):Nat->Nat->CV->Option CV
 |0,_,X=>some X
 |m+1,i,X=>match X.nodes[i]? with
  |some (some v)=>(Ni ⟨f,n,i⟩ (X.K,v)).bind fun S=>(must (S.2.out.length<=4096)).bind fun _=>(DF n i S X).bind fun X1=>zm f n m (i+1) X1
  |some none=>zm f n m (i+1) X
  |none=>none
noncomputable def NJ(X:CV):Option CV:=
 (must (0<=X.t0/\X.t0<1048000/\(X.ck.waits=false\/(X.ck.now+1 -X.ck.at_)%6≠0)/\0<=X.ck.at_/\X.ck.at_<=X.ck.now/\X.ck.now<1048000)).map fun _=>
  {X with t0:=X.t0+1,ck:={X.ck with now:=X.ck.now+1}}
noncomputable def Ei(f:Int)(n:Nat)(X:CV):Option CV:=(zm f n n 0 X).bind NJ
structure afb(f:Int)(K:KS)(s:U2)(t src res z:Int)(bs:LI):Prop where
 il:s.il.length<=1000
 al:s.al.length<=1000
 el:s.el.length<=1000
 aaB: ∀p∈s.al,p.1≠src/\p.2=res
 z40:qh z
 ab2:xE K (DV src 1 t res) z
 bytes:bs=mD z.toNat++lX (DV src 1 t res)
 ao2:qU src 0 (3*f)=true
 it:qU t 1 1048576=true
 ao1:qU res (-549755813887) 549755813887=true
noncomputable def yN(f:Int)(K:KS)(src res z:Int)(bs:LI)(s:U2):Option U2:=
 if s.waits=false then some s else s.il.getLast?.bind fun r=>(must (afb f K s r.2.1 src res z bs)).map fun _=>
  {s with waits:=decide ((s.al.length:Int)<f),al:=s.al++ [(src,res)],el:=if(s.al.length:Int)<f then s.el else s.el++ [(r,res)]}
inductive Gm(f:Int)(n:Nat):Nat->Nat->CV->CV->Prop
 |node (a b:Nat) (bs:LI) (rest:List LI) (v:ql) (M:Ms) (z:Int) (S:KN) (X X':CV):a<n+2->b<n->a≠b->X.M (a*(n+2)+b)=bs::rest->X.nodes[b]?=some (some v)->JD ⟨f,n,b⟩ M z bs (X.K,v)=some S->S.2.out.length<=4096->
   DF n b S {X with M:=ru X.M (a*(n+2)+b) rest}=some X'->Gm f n a b X X'
 |dead (a b:Nat) (bs:LI) (rest:List LI) (X:CV):a<n+2->b<n->a≠b->X.M (a*(n+2)+b)=bs::rest->X.nodes[b]?=some none->Gm f n a b X {X with M:=ru X.M (a*(n+2)+b) rest}
 |ck (a:Nat) (bs:LI) (rest:List LI) (src res z:Int) (s:U2) (X:CV):a<n+1->X.M (a*(n+2)+(n+1))=bs::rest->yN f X.K src res z bs X.ck=some s->bs.length<=65536->Gm f n a (n+1) X {X with ck:=s,M:=ru X.M (a*(n+2)+(n+1)) rest}
def Hz(n:Nat)(M:Nat->List LI)(k:Nat):Prop:=k<(n+2)*(n+2)/\M k≠ []/\ ∀j,j<k->M j= []
inductive Ch(f:Int)(n:Nat):Nat->CV->CV->Prop
 |done (X:CV):(∀k,k<(n+2)*(n+2)->X.M k= [])->Ch f n 0 X X
 |step (m k:Nat) (X X1 X':CV):Hz n X.M k->Gm f n (k/(n+2)) (k%(n+2)) X X1->Ch f n m X1 X'->Ch f n (m+1) X X'
def zP(f:Int)(n:Nat)(X X':CV):Prop:= ∃m X1,m<1950/\Ch f n m X X1/\Ei f n X1=some X'
structure agj(X:CV)(n:Nat)(r:Rq)(kd ky vl:Int)(q q':Int×List Int)(bs:LI):Prop where
 waits:X.ck.waits=false
 il:X.ck.il.length<=1000
 K:X.K.length+1<1048576
 valid:mq 2 (1,(X.ck.il.length:Int)+1,kd,ky,vl,0)=true
 ok:xH (1,(X.ck.il.length:Int)+1,kd,ky,vl,0)
 hq:q=(100+1,pq (1,(X.ck.il.length:Int)+1,kd,ky,vl,0))
 hq2:Ns q
 hr:r=(1,(X.ck.il.length:Int)+1,kd,ky,vl,num (sealed X.K q) q)
 hq':q'=(100+1,lX (mU 1 r))
 hbs:bs=mD (num (sealed (sealed X.K q) q') q').toNat++lX (mU 1 r)
def Zp(n:Nat)(kd ky vl:Int)(X X':CV):Prop:= ∃r q q' bs M,agj X n r kd ky vl q q' bs/\zD (pE n) 101 ((List.range n).map fun i:Nat=>((i:Int),bs)) X.M=some M/\
 X'={X with K:=sealed (sealed X.K q) q',ck:={X.ck with waits:=true,il:=X.ck.il++ [r],at_:=X.ck.now,al:= []},M:=M}
structure qb where
 C:Eu
 g0:Nat
 d0:sI
 g1:Nat
 d1:sI
abbrev sI.quiet(d:sI):Prop:=d.ol= []
structure Nn(D:qb):Prop where
 f1:1<=D.C.cd.f
 f4:D.C.cd.f<=4
 n:(D.C.n:Int)=3*D.C.cd.f+1
 ks:D.C.ks= [Gp D.C.cd.f 0 D.g0 D.d0,uM []]
 kp:D.C.kp= [.pointer (some ⟨D.g0,0,none⟩),.pointer (some ⟨D.g1,0,none⟩)]
 nl:D.C.cd.nl=D.C.n
 len:D.C.nodes.length=D.C.n
 kl:D.C.cd.kl=2
 fm:D.C.cd.fm=D.C.fl.length
 few:D.C.fl.length<=4096
 bad: ∀i,i<D.C.n->(D.C.nodes[i]?=some none↔(i:Int)∈D.C.fl)
 flt: ∀z∈D.C.fl,z<100
 nn: ∀(i:Nat) (p:Ka),D.C.nodes[i]?=some (some p)->p.d.nn=D.C.cd.nn
 n0:D.d0.nn=D.C.cd.nn
 n1:D.d1.nn=D.C.cd.nn
 np:D.C.nd.n=D.C.n+2
 ps:D.C.nd.ps=pE D.C.n
 w0:D.d0.waits=false
 a0:D.d0.at_=0
 q0:D.d0.quiet
 q1:D.d1.quiet
def qb.val(D:qb)(K:KS):CV:=⟨K,D.C.nodes.map fun o=>o.map fun p=>p.d.val,D.d0.now,D.d1.val,D.C.nd.val⟩
structure mJ(x:Nat)(w:World)(D:qb)(K:KS):Prop where
 BJ:UY x w (D.C.cs K) D.C.cd.f 1 D.g1 D.d1
 fx:Nn D
 xlt:x<w.heap.size
structure rO(D D':qb):Prop where
 gc:D'.C.gc=D.C.gc
 f:D'.C.cd=D.C.cd
 n:D'.C.n=D.C.n
 b:D'.C.b=D.C.b
 g0:D'.g0=D.g0
 g1:D'.g1=D.g1
 fl:D'.C.fl=D.C.fl
 gx:D'.C.nodes.map tY=D.C.nodes.map tY
theorem rO.refl(D:qb):rO D D:=⟨rfl,rfl,rfl,rfl,rfl,rfl,rfl,rfl⟩
theorem rO.trans{D D' D'':qb}(h:rO D D')(k:rO D' D''):rO D D'':=⟨k.gc.trans h.gc,k.f.trans h.f,k.n.trans h.n,k.b.trans h.b,k.g0.trans h.g0,k.g1.trans h.g1,k.fl.trans h.fl,k.gx.trans h.gx⟩
def qb.nE(D:qb)(K:KS):List Nat:=Go.Proofs.YtgnhecmnlddjhaaGreat.nE (D.C.cs K)++D.d1.foot D.g1
structure pW(w w':World)(D:qb)(K:KS)(D':qb)(K':KS):Prop where
 same:rO D D'
 only:Only (D.nE K) w w'
 new: ∀k∈D'.nE K',k∈D.nE K\/w.heap.size<=k
theorem pW.refl(w:World)(D:qb)(K:KS):pW w w D K D K:=⟨rO.refl D,Only.refl _ _,fun k hk=> .inl hk⟩
theorem pW.trans{D D' D'':qb}{K'':KS}(h:pW w w' D K D' K')(k:pW w' w'' D' K' D'' K''):pW w w'' D K D'' K'':=
 ⟨h.same.trans k.same,h.only.then k.only h.new,fun b hb=>by
  rcases k.new b hb with hb|hb
  ·exact h.new b hb
  exact .inr (aG h.only.size hb)⟩
theorem pW.below{D D':qb}(h:pW w w' D K D' K')(hb:Be w' w''):pW w w'' D K D' K':=⟨h.same,h.only.belows hb,h.new⟩
end
end Go.Proofs.YtgnhecmnlddjhaaGreat
