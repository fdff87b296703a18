/- TopAlone, part 3 of 24: a proof squeezed by a program. -/
import Derived.Test.YtgnhecmnlddjhaaGreatZ01
import Derived.Laws.Build
import Derived.ScopeJumps
set_option linter.unusedVariables false
set_option linter.unusedSimpArgs false
set_option linter.defProp false
set_option maxRecDepth 100000
set_option maxHeartbeats 6400000
namespace Go.Proofs.YtgnhecmnlddjhaaGreat
open Go.RowKit Go.Proofs.Tryz
variable{B c gw k n s:Nat}{P:Program}{Q:Exit->Act->World->Prop}{a:OA}{bs xs ys:LI}{o:Oper}{ops:Array Oper}{st:List (Bool×Int)}{w w' w0:World}
def sH(v:Int):Bool:=decide (-2147483648<v/\v<2147483648)
def Pv(key val:Int):Bool:=decide (0<=key/\key<64)&&sH val
def valOf(st:List (Bool×Int))(key:Int):Int:=(st.getD key.toNat (false,0)).2
def uj(st:List (Bool×Int)):Int:=(st.map (·.2)).sum
def Pw(st:List (Bool×Int))(kind key val:Int):Int:=
 if Pv key val then
  if kind=1 then valOf st key else if kind=2 then valOf st key
  else if kind=3 then(if sH (valOf st key+val) then valOf st key+val else valOf st key)
  else if kind=4 then valOf st key else if kind=5 then uj st else 0
 else 0
def yD(st:List (Bool×Int))(kind key val:Int):List (Bool×Int):=
 if Pv key val then
  if kind=1 then st.set key.toNat (true,val)
  else if kind=3 then(if sH (valOf st key+val) then st.set key.toNat (true,valOf st key+val) else st)
  else if kind=4 then st.set key.toNat (false,0) else st
 else st
def oQ(st:List (Bool×Int)):Prop:= ∀c∈st,-2147483648<c.2/\c.2<2147483648
theorem oQ.zero:oQ st0:=by
 intro c hc;rw[dO hc]
 decide
theorem oQ.get(h:oQ st)(key:Int): -2147483648<valOf st key/\valOf st key<2147483648:=by
 unfold valOf;by_cases hk:key.toNat<st.length
 ·rw[bE,aj hk]
  exact h _ (bY hk)
 rw[bE,fT lK]
 decide
theorem oQ.set(h:oQ st)(k:Nat)(b:Bool){v:Int}(hv: -2147483648<v/\v<2147483648):oQ (st.set k (b,v)):=by
 intro c hc;rcases cB hc with h1|h1
 ·exact h _ h1
 subst h1;exact hv
theorem abr(st:List (Bool×Int))(kind key val:Int):(yD st kind key val).length=st.length:=by
 unfold yD
 repeat(first|rfl|split|simp)
theorem oQ.op(h:oQ st)(kind key val:Int):oQ (yD st kind key val):=by
 unfold yD;by_cases hb:Pv key val=true
 ·rw[aV hb]
  have hv: -2147483648<val/\val<2147483648:=by
   unfold Pv sH at hb;simp only[bX,dQ] at hb;exact hb.2
  by_cases h1:kind=1
  ·rw[aV h1];exact h.set _ _ hv
  rw[aU h1];by_cases h3:kind=3
  ·rw[aV h3]
   by_cases hs:sH (valOf st key+val)=true
   ·rw[aV hs];exact h.set _ _ (eU hs)
   rw[aU hs];exact h
  rw[aU h3];by_cases h4:kind=4
  ·rw[aV h4];exact h.set _ _ lN
  rw[aU h4];exact h
 rw[aU hb];exact h
theorem JO(st:List (Bool×Int))(k:Nat)(hk:k<st.length):uj (st.take (k+1))=uj (st.take k)+st[k].2:=by
 rw[bA hk];simp only[uj,bR,List.sum_append,bV,fu,jr,List.sum_nil,Int.add_zero]
theorem AJ(h:oQ st): ∀k:Nat,-2147483648*(k:Int)<=uj (st.take k)/\uj (st.take k)<=2147483648*(k:Int)
 |0=>by simp[uj]
 |k+1=>by
  have ih:=AJ h k;by_cases hk:k<st.length
  ·have:=h _ (bY hk)
   rw[JO st k hk];omega
  rw[dB lK] at ih|-;omega
theorem ZL(gs:Nat)(st:List (Bool×Int))(kind key val:Int)(w:World)(h:Store w gs st)(hk:qX kind)(h2:qX key)(h3:qX val)(hb:Pv key val=false):
  Y 291 #[gs,.agg #[U kind,U key,U val]] w fun e w'=>e= .returned (U 0)/\Be w w':=by
 have hcase:key<0\/(¬key<0/\64<=key)\/(¬key<0/\ ¬64<=key/\sH val=false):=by
  unfold Pv at hb;by_cases hk:0<=key/\key<64
  ·rw[aZ hk,iw] at hb
   exact .inr (.inr ⟨lK,lK,hb⟩)
  omega
 clear hb h;rcases hcase with h1|⟨h1,h2⟩|⟨h1,h2,hs⟩
 ·go_enter func291,ntmps291
  go_wp2
  go_ret;exact⟨rfl,nC⟩
 ·go_enter func291,ntmps291
  go_wp2
  go_ret;exact⟨rfl,nC⟩
 have HS:=jj hs;clear hs;go_enter func291,ntmps291
 go_wp2_with(go_at_call 296;refine(G9 val _ false HS).mono ?_;rintro e w' ⟨rfl,rfl⟩)
 go_ret;exact⟨rfl,nC⟩
theorem Xo(gs:Nat)(st:List (Bool×Int))(kind val:Int)(n:Nat)(w:World)(h:Store w gs st)(hsm:oQ st)(hk:qX kind)(h3:qX val)(hn:n<64)(hv:sH val=true):
  Y 291 #[gs,.agg #[U kind,U n,U val]] w fun e w'=>e= .returned (U (Pw st kind n val))/\Store w' gs (yD st kind n val)/\Only [gs] w w':=by
 have H:=jj h;have HV:=jj hv;have hlt:n<st.length:=by rw[h.n];exact hn
 have hval:valOf st n=st[n].2:=by simp[valOf,List.getD,hlt]
 have hbd:=hsm.get n;have hvb:=eU hv;have hgs:=h.lt;have Dm:Pv n val=true:=by
  unfold Pv;rw[hv,jU];exact aZ ⟨lK,lK⟩
 obtain⟨T,hT⟩:=ex (valOf st n);rw[<-hT] at hbd hval;have hR:Pw st kind n val=if kind=1 then T else if kind=2 then T else if kind=3 then(if sH (T+val) then T+val else T) else if kind=4 then T else if kind=5 then uj st else 0:=by
  unfold Pw;rw[aV Dm,hT]
 have hS:yD st kind n val=if kind=1 then st.set n (true,val) else if kind=3 then(if sH (T+val) then st.set n (true,T+val) else st) else if kind=4 then st.set n (false,0) else st:=by
  unfold yD;rw[aV Dm,hT];rfl
 obtain⟨HR,HS,HT,Ko⟩:=j4 hR hS hT hval;have i0:(0:Int)<=n:=lK;have i1:(n:Int)<64:=lK;have HSM:=jj hsm;clear h hv hT hval Dm hR hS hsm;go_enter func291,ntmps291
 go_wp2_with fail
 refine(G9 val _ true HV).mono ?_;rintro e w' ⟨rfl,rfl⟩
 go_wp2_with fail
 generalize hw1:w.alloc _=w1;generalize hga:w.heap.size=ga;replace hw1:=hw1.symm;replace hga:=hga.symm;have hA:lQ w1 ga 38 #[U kind,U n,U val]:=by rw[hw1,hga];exact lQ.new _ _ _
 have hb1:=(tQ hw1).out;have H1:=jj (H.below hb1);obtain⟨a0,a1,a2⟩:=hA.a3;have o1:=jj (Only.of_below (S:= [gs]) hb1);have hgg:ga≠gs:=by rw[hga];omega
 clear hw1 hga hA hb1
 go_quiet(fail)
 have H2:=jj (H1.drewN nq);have o2:=jj (o1.drewN nq);have b0:(w1.drewN nq).cell? ⟨ga,0,none⟩=_:=a0;have b2:(w1.drewN nq).cell? ⟨ga,2,none⟩=_:=a2;clear a0 a1 a2 H1 o1;generalize w1.drewN nq=w2 at H2 o2 b0 b2|-;have t1:=H2.ZM n hlt;rw[<-Ko.out] at t1;have t0:=H2.EC n hlt;have f0:=H2.b.frozen (n*2);have f1:=H2.b.frozen (n*2+1);rcases(show kind=1\/kind=2\/kind=3\/kind=4\/kind=5\/(kind≠1/\kind≠2/\kind≠3/\kind≠4/\kind≠5) by omega) with rfl|rfl|rfl|rfl|rfl|⟨k1,k2,k3,k4,k5⟩
 ·have HR':=jj (HR.trans (aV rfl))
  have Fx:=jj (HS.trans (aV rfl))
  go_wp2
  go_ret;refine⟨by rw[HR'.out];rfl,by rw[Fx.out];exact H2.set hlt true val,(o2.setCell (.inl lT) _).setCell (.inl lT) _⟩
 ·have HR':=jj (HR.trans ((aU lN).trans (aV rfl)))
  have Fx:=jj (HS.trans ((aU lN).trans ((aU lN).trans (aU lN))))
  go_wp2
  go_ret;exact⟨by rw[HR'.out];rfl,by rw[Fx.out];exact H2.out,o2⟩
 ·have hR':=HR.trans ((aU lN).trans ((aU lN).trans (aV rfl)))
  have hS':=HS.trans ((aU lN).trans (aV rfl));obtain⟨bb,hbb⟩: ∃bb,sH (T+val)=bb:=⟨_,rfl⟩;rw[hbb] at hR' hS';obtain⟨HR',Fx,WX⟩:=j3 hR' hS' hbb;clear hR' hS' hbb
  cases bb with
  |true=>
   go_wp2_with(go_at_call 296;refine(G9 (T+val) _ true WX).mono ?_;rintro e w' ⟨rfl,rfl⟩)
   go_ret;refine⟨by rw[HR'.out];rfl,by rw[Fx.out];exact H2.set hlt true (T+val),(o2.setCell (.inl lT) _).setCell (.inl lT) _⟩
  |false=>
   go_wp2_with(go_at_call 296;refine(G9 (T+val) _ false WX).mono ?_;rintro e w' ⟨rfl,rfl⟩)
   go_ret;exact⟨by rw[HR'.out];rfl,by rw[Fx.out];exact H2.out,o2⟩
 ·have HR':=jj (HR.trans ((aU lN).trans ((aU lN).trans ((aU lN).trans (aV rfl)))))
  have Fx:=jj (HS.trans ((aU lN).trans ((aU lN).trans (aV rfl))))
  go_wp2
  go_ret;refine⟨by rw[HR'.out];rfl,by rw[Fx.out];exact H2.set hlt false 0,(o2.setCell (.inl lT) _).setCell (.inl lT) _⟩
 ·have HR':=jj (HR.trans ((aU lN).trans ((aU lN).trans ((aU lN).trans ((aU lN).trans (aV rfl))))))
  have Fx:=jj (HS.trans ((aU lN).trans ((aU lN).trans (aU lN))));clear t0 f0 f1;have hg1:=jj (show w2.heap[gs]?=some (.cells (oU st) 197 (0,0)) from H2.b);have hsz1:=jj (show(prog.info? 195).map (·.size)=some (oU st).size by rw[uV,H2.n];exact FI)
  go_wp2_with(refine gU rfl 195 (.tmp 77) rfl gs rfl 197 (oU st) (0,0) _ hg1 underlying195 rfl hsz1 ?_)
  have hgw:=o2.size;clear t1 b0 b2
  go_loopw [7,79] (fun s i wr=> ∃k:Nat,k<=64/\i= U k/\s= U (uj (st.take k))/\Be w2 wr) (fun _ i _=>64 -(intOf i).toNat)
  case atStart=>exact⟨0,lK,rfl,rfl,aC _ _⟩
  case round=>
   obtain⟨k,aoJ,rfl,rfl,hb⟩:=hrel;have HB:=jj hb;by_cases hlt':k<64
   ·have hkl:k<st.length:=by rw[H2.n];exact hlt'
    have hidx:=adR st H2.n k hkl;have hsn:=jj (JO st k hkl);have agX:=AJ HSM k;have NY:=HSM.out st[k] (bY hkl);obtain⟨c,hc⟩:=ex st[k];rw[<-hc] at hidx NY;obtain⟨c1,c2⟩:=c;have HC:=jj hc;clear hc hb;have hsz:=HB.size;have u0: -2147483648*64<=uj (st.take k):=lK;have u1:uj (st.take k)<=2147483648*64:=lK;have v0: -2147483648<c2:=NY.1;have v1:c2<2147483648:=NY.2;clear agX NY
    go_wp2
    go_roundw
    case rel=>exact⟨k+1,lK,by go_num,by rw[hsn.out,<-HC.out],HB.alloc hsz _⟩
    simp[intOf];omega
   have hk':k=64:=lK;subst hk';have ht:st.take 64=st:=dB (by rw[H2.n];omega);rw[ht];have H4:=jj (H2.below HB);have o4:=jj (o2.belows HB);clear ht
   go_wp2
   go_ret;exact⟨by rw[HR'.out];rfl,by rw[Fx.out];exact H4.out,o4⟩
 have HR':=jj (HR.trans ((aU k1).trans ((aU k2).trans ((aU k3).trans ((aU k4).trans (aU k5))))));have Fx:=jj (HS.trans ((aU k1).trans ((aU k3).trans (aU k4))));have e1:(kind==1)=false:=bJ.2 k1;have e2:(kind==2)=false:=bJ.2 k2;have e3:(kind==3)=false:=bJ.2 k3;have e4:(kind==4)=false:=bJ.2 k4;have e5:(kind==5)=false:=bJ.2 k5
 go_wp2
 go_ret;exact⟨by rw[HR'.out];rfl,by rw[Fx.out];exact H2.out,o2⟩
theorem adh(gs:Nat)(st:List (Bool×Int))(kind key val:Int)(w:World)(h:Store w gs st)(hsm:oQ st)(hk:qX kind)(h2:qX key)(h3:qX val)(r:Int)(hr:Pw st kind key val=r)(st':List (Bool×Int))(hs:yD st kind key val=st'):
  Y 291 #[gs,.agg #[U kind,U key,U val]] w fun e w'=>e= .returned (U r)/\Store w' gs st'/\Only [gs] w w':=by
 subst hr;subst hs;by_cases hb:Pv key val=true
 ·have hb':=hb
  unfold Pv at hb';simp only[bX,dQ] at hb';obtain⟨⟨k0,k1⟩,hv⟩:=hb';obtain⟨n,rfl⟩:=bB k0;exact Xo gs st kind val n w h hsm hk h3 lK hv
 have hb':Pv key val=false:=by simpa using hb
 have e1:Pw st kind key val=0:=by unfold Pw;rw[hb'];rfl
 have e2:yD st kind key val=st:=by unfold yD;rw[hb'];rfl
 rw[e1,e2];exact(ZL gs st kind key val w h hk h2 h3 hb').mono fun e w' ⟨he,hb⟩=>⟨he,h.below hb,Only.of_below hb⟩
def Il(p:Int×Int):List Value:= [U p.1,U p.2]
theorem aaS:(prog.info? 115).map (fun i=>(i.zero,i.size,i.bytes))=some (some (.agg #[U 0,U 0]),2,16):=by kernel_rfl
def Xh(w:World)(base:Nat)(v:Value)(l:List (Int×Int)):Prop:=w.ownsRow base 115 2 v l.length (l.flatMap Il)
theorem Dj: ∀(L:LV) (i:Nat) (A:AV) (j:Nat),i+L.length<=A.size->
  ((L.zipIdx i).foldl (fun c x=>c.setIfInBounds x.2 x.1) A)[j]?=if i<=j/\j<i+L.length then L[j -i]? else A[j]?
 | [],i,A,j,h=>by
  rw[aU (by rw[dK];omega)];rfl
 |v::L,i,A,j,h=>by
  simp only[aY] at h;rw[List.zipIdx_cons,List.foldl_cons,Dj L (i+1) _ j (by simp;omega)];simp only[aY];by_cases h1:i+1<=j/\j<i+1+L.length
  ·rw[aV h1,aV lK,show j -i=(j -(i+1))+1 by omega,dU]
  rw[aU h1];by_cases hij:j=i
  ·subst hij
   rw[aV lK,fJ,dV,fZ lK]
  rw[aU lK,aW (dR hij)]
theorem aan(A:AV)(L:LV)(h:A.size=L.length):Array.foldl (fun cs x=>cs.setIfInBounds x.2 x.1) A L.toArray.zipIdx 0 L.toArray.size=L.toArray:=by
 rw[show L.toArray.size=L.toArray.zipIdx.size by simp,<-Array.foldl_toList,Array.toList_zipIdx];apply gP;intro j;rw[Dj L 0 A j lK];by_cases hj:j<L.length
 ·rw[aV lK,jc];simp
 rw[aU lK,gK lK];simp;omega
theorem ab0(gs:Nat)(st:List (Bool×Int))(w:World)(h:Store w gs st):
  Y 98 #[gs] w fun e w'=> ∃gt,e= .returned (gt:Nat)/\Store w' gt st/\w.heap.size<=gt/\Be w w':=by
 have H:=jj h;have hg1:=jj (show w.heap[gs]?=some (.cells (oU st) 197 (0,0)) from h.b);have hsz1:=jj (show(prog.info? 195).map (·.size)=some (oU st).size by rw[uV,h.n];exact FI);clear h;have hz0: ∀w:World,(zeroValue 197).run prog w= .ok (.agg (oU st0)) w:=fun w=>by kernel_rfl
 have hs1:(oU st).size=128:=by rw[uV,H.n]
 have hs0:(oU st0).size=128:=by rw[uV];rfl
 have hf:Array.foldl (fun cs x=>cs.setIfInBounds x.2 x.1) (oU st0) (oU st).zipIdx 0 128=oU st:=by
  have:=aan (oU st0) (st.flatMap Ab) (by rw[hs0,qj Ab 2 uH,H.n]);have e:(st.flatMap Ab).toArray.size=128:=hs1;rw[e] at this;exact this
 obtain⟨Z0,hZ0⟩:=ex (oU st0);rw[<-hZ0] at hz0 hs0 hf;have HN:=jj H.n;clear hZ0;go_enter func98,ntmps98
 go_wp2_with(refine gU rfl 195 (.tmp 5) rfl gs rfl 197 (oU st) (0,0) _ hg1 underlying195 rfl hsz1 ?_)
 go_ret;exact⟨w.heap.size,rfl,⟨lQ.new _ _ _,HN⟩,aF _,nC⟩
section
variable{P:Program}(w:World)
end

theorem ahT(T E s:Nat)(hT:P.underlying T=some (.slice E))(hE:P.elem T=E)(hs: ∀w:World,(sizeOf E).run P w= .ok s w)(a:OA)(n c k:Nat)(hk:k<=n)(hn:n<=c)(w:World):
  (Instr.slice T (.slice a n c) none (some (U k)) none).run P w= .ok (.slice a k c) w:=by
 have h:=run_slice_h (P:=P) (w:=w) T a n c (by rw[hE];exact hT) .i64 k lK lK;rw[h,hE,hs w];show Result.ok (sliced a 0 ((k:Int).toNat) c s) w=_;rw[bI];have e:a.map (·.add (0*s))=a:=by
  cases a with
  |none=>rfl
  |some p=>simp[Addr.add]
 simp only[sliced,e,jc];split<;>rfl
theorem mo.take{vs:LV}(h:mo w a n s vs)(hk:k<=n):mo w a k s (vs.take (k*s)):=
 ⟨by rw[cO,h.1];exact fO (dN s hk),fun h0=>by
  obtain⟨b,off,rfl,hlt,hc⟩:=h.2 lK;exact⟨b,off,rfl,hlt,fun i v hv=>hc i v (by
   rw[iP] at hv;split at hv
   ·exact hv
   cases hv)⟩⟩
theorem Cb{row:Option Nat}(h:w.grownBy w' row):Only row.toList w w':=
 (Only.refl _ w).grown h fun k hk=>by subst hk;simp
structure qQ(w w':World)(base:Nat)(e:TypeId)(s:Nat)(a0 a':OA)(n cap:Nat)(xs:LV):Prop where
 own:w'.ownsRow base e s (.slice a' n cap) n xs
 only:Only (a0.map (·.block)).toList w w'
 at_: ∀k,a'.map (·.block)=some k->a0.map (·.block)=some k\/w.heap.size<=k
theorem lV:(Value.slice a n c).ownBlock=a.map (·.block):=by cases a<;>rfl
theorem qC(w:World)(t:TypeId)(u:Value):mo (w.alloc (.cells #[u] t)) (some ⟨w.heap.size,0,none⟩) 1 1 [u]:=mo.nR (n:=1) (s:=1) (lQ.new w t #[u]) rfl
theorem mO{base base':Nat}{e:TypeId}{v:Value}{xs:LV}(h:w.ownsRow base e s v n xs)(hle:base'<=base):w.ownsRow base' e s v n xs:=
 DI h fun g hg=>aG hle (dG h g hg).1
theorem qQ.below{v:World}{base:Nat}{e:TypeId}{n0 c0 cap:Nat}{a0 a':OA}{xs0 xs:LV}(h:qQ w w' base e s a0 a' n cap xs)(ho:w.ownsRow base e s (.slice a0 n0 c0) n0 xs0)(hb:Below B v w)(hB:B<=base)(hB2:B<=w.heap.size):Below B v w':=by
 refine h.only.below hb hB2 fun k hk=> ?_;have hk':a0.map (·.block)=some k:=aJ.1 hk;exact aG hB (dG ho k (by rw[lV];exact hk')).1
theorem aax{base T E:Nat}{xs:LV}(h:w.ownsRow base E s (.slice a n c) n xs)(hT:P.underlying T=some (.slice E))(hE:P.elem T=E)(hs: ∀w:World,(sizeOf E).run P w= .ok s w)(k:Nat)(hk:k<=n)(i:Int)(hi:i=k):
  ∃A,(∀(w:World),(Instr.slice T (.slice a n c) (some (U i)) none none).run P w= .ok (.slice A (n -k) (c -k)) w)/\mo w A (n -k) s (xs.drop (k*s)):=by
 obtain⟨A,h1,h2⟩:=Iw (P:=P) (T:=T) (Loose.sG h) hT hE hs k hk i hi;refine⟨A,h1,?_⟩;by_cases hlt:k<n
 ·obtain⟨g,rfl,rfl⟩:=h2 hlt
  obtain⟨b,off,e,hv⟩:=(l9 h).from_ hlt;injection e with e;injection e with e1 e2;subst e1;subst e2
  rwa [aO] at hv
 have e:n -k=0:=lK;have e2:xs.drop (k*s)= []:=eP (by rw[h.1];exact dN s lK);rw[e,e2];exact mo.nil _ _ _
theorem lZ    {rest:List Oper}  {a:Act}  (hgd:o.guard=none) (s x:Operand) (t:TypeId)
  (ho:o.op= .call {callee:= .builtin .append,args:=#[s,x],argTypes:=#[t,t]})
  (base:Nat) (e:TypeId) (i:TypeInfo) (z:Value) (size bytes:Nat) (ht:P.underlying t=some (.slice e)) (hi:P.info? e=some i) (hz:i.zero=some z)
  (hsize:i.size=size) (hby:i.bytes=bytes) (hzs:z.cells.size=size) (hsz:0<size)
  (a0:OA) (n c0:Nat) (xs:LV) (hs:a.eval s= .slice a0 n c0) (hown:w.ownsRow base e size (.slice a0 n c0) n xs)
  (A:OA) (m c:Nat) (ys:LV) (hx:a.eval x= .slice A m c) (hr:mo w A m size ys) (h1: ∀u∈ys,u.oneCell'=true)
  (h63:n+m<=maxLen) (hbytes:(n+m)*bytes<=140737488355328) (hbase:base<=w.heap.size)
  (h: ∀a' cap w',qQ w w' base e size a0 a' (n+m) cap (xs++ys)->wpList P ops Q rest (a.put o.dst (.slice a' (n+m) cap)) w'):wpList P ops Q (o::rest) a w:=by
 by_cases h0:m=0
 ·subst h0
  obtain rfl:ys= []:=dA (by rw[hr.1];simp);refine rZ hgd s x t ho e i ht hi a0 A n c0 c (rF hown) (qB hown) hs hx ?_;exact h a0 c0 w ⟨by rw[eG];exact hown,Only.refl _ _,fun k hk=> .inl hk⟩
 obtain⟨b,off,rfl,hlt,hc⟩:=hr.2 lK;refine fU _ hgd s x t ho base e i z size bytes ht hi hz hsize hby hzs hsz (.slice a0 n c0) n xs hs hown ⟨b,off,none⟩ m c ys hx hr.1 (fun j u hj=>by rw[addr_add];exact hc j u hj) h1 lK h63 hbytes hbase _ rfl ?_;intro g cap w' k1 k2 k3 k4;refine h _ cap w' ⟨k1,by rw[<-lV (n:=n) (c:=c0)];exact Cb k2,fun k hk=> ?_⟩;simp only[bP,aD] at hk;subst hk;rw[lV] at k3;rcases k3 with k3|k3
 ·exact .inl k3
 exact .inr lK
theorem oo     {a:Act} {K:Act->World->Prop}  {E:Prop} (hgd:o.guard=none) (s x:Operand) (t:TypeId)
  (ho:o.op= .call {callee:= .builtin .append,args:=#[s,x],argTypes:=#[t,t]})
  (base:Nat) (e:TypeId) (i:TypeInfo) (z:Value) (size bytes:Nat) (ht:P.underlying t=some (.slice e)) (hi:P.info? e=some i) (hz:i.zero=some z)
  (hsize:i.size=size) (hby:i.bytes=bytes) (hzs:z.cells.size=size) (hsz:0<size)
  (a0:OA) (n c0:Nat) (xs:LV) (hs:a.eval s= .slice a0 n c0) (hown:w.ownsRow base e size (.slice a0 n c0) n xs)
  (A:OA) (m c:Nat) (ys:LV) (hx:a.eval x= .slice A m c) (hr:mo w A m size ys) (h1: ∀u∈ys,u.oneCell'=true)
  (h63:n+m<=maxLen) (hbytes:(n+m)*bytes<=140737488355328) (hbase:base<=w.heap.size)
  (h: ∀a' cap w',qQ w w' base e size a0 a' (n+m) cap (xs++ys)->K (a.put o.dst (.slice a' (n+m) cap)) w'):
  if Region.wanted o (yielded ops a.tmps)=true then Oper.wp P o a w K Q else E:=by
 by_cases h0:m=0
 ·subst h0
  obtain rfl:ys= []:=dA (by rw[hr.1];simp);refine rY hgd s x t ho e i ht hi a0 A n c0 c (rF hown) (qB hown) hs hx ?_;exact h a0 c0 w ⟨by rw[eG];exact hown,Only.refl _ _,fun k hk=> .inl hk⟩
 obtain⟨b,off,rfl,hlt,hc⟩:=hr.2 lK;refine step_append_lies _ hgd s x t ho base e i z size bytes ht hi hz hsize hby hzs hsz (.slice a0 n c0) n xs hs hown ⟨b,off,none⟩ m c ys hx hr.1 (fun j u hj=>by rw[addr_add];exact hc j u hj) h1 lK h63 hbytes hbase _ rfl ?_;intro g cap w' k1 k2 k3 k4;refine h _ cap w' ⟨k1,by rw[<-lV (n:=n) (c:=c0)];exact Cb k2,fun k hk=> ?_⟩;simp only[bP,aD] at hk;subst hk;rw[lV] at k3;rcases k3 with k3|k3
 ·exact .inl k3
 exact .inr lK
def tK(n:Nat)(ps:LI)(ms:Nat->List (Value×List Int)):Nat->List (Int×Int)
 |0=> []
 |N+1=>if 0<(ms N).length then tK n ps ms N++ [(ps.getD (N/n) 0,ps.getD (N%n) 0)] else tK n ps ms N
theorem wE(n:Nat)(ps:LI)(ms:Nat->List (Value×List Int))(N:Nat):tK n ps ms (N+1)=if 0<(ms N).length then tK n ps ms N++ [(ps.getD (N/n) 0,ps.getD (N%n) 0)] else tK n ps ms N:=rfl
theorem Mr(n:Nat)(ps:LI)(ms:Nat->List (Value×List Int)): ∀k,(tK n ps ms k).length<=k
 |0=>aF _
 |k+1=>by
  have:=Mr n ps ms k;rw[wE];split
  ·rw[av];simp;omega
  omega
theorem abf{gn:Nat}{ps:LI}{q g:Nat->Nat}{room:Int}{lost:Nat->Int}{ms:Nat->List (Value×List Int)}(w:World)(h:Nt B w gn n ps q g room lost ms)(hn:n<=64)(L:List (Int×Int))(hL:tK n ps ms (n*n)=L):
  Y 50 #[gn] w fun e w'=> ∃A c,e= .returned (.slice A L.length c)/\Xh w' w.heap.size (.slice A L.length c) L/\Be w w':=by
 obtain⟨t0,hi0,hz0,hz1,hz2⟩:=bq aaS;obtain⟨ap,cp,al,cl,ra,rc,h1,h2,h3,h4⟩:=h.ex;have c1:=h1.at_ 1;have hlen:ps.length=n:=by have:=h2.1;simpa using this
 obtain⟨H1,H2,H3,H4,QS,HLL⟩:=j6 h1 h2 h3 h4 h.qs hL;have PL:=jj hlen;clear h h1 h2 h3 h4 hL hlen;go_enter func50,ntmps50
 go_wp2_with fail
 go_loopw [3,13] (fun v i wr=> ∃a:Nat,a<=n/\i= U a/\(∃A c,v= .slice A (tK n ps ms (a*n)).length c/\Xh wr w.heap.size (.slice A (tK n ps ms (a*n)).length c) (tK n ps ms (a*n)))/\Be w wr) (fun _ i _=>n -(intOf i).toNat)
 case atStart=>exact⟨0,lK,rfl,⟨none,0,by simp[tK],by simp only[fI,tK];exact World.ownsRow_nil _ _ _ _⟩,aC _ _⟩
 case round=>
  obtain⟨a,ha,rfl,⟨A,c,rfl,hown⟩,hb⟩:=hrel;have HB:=jj hb;have HO:=jj hown;clear hb hown;by_cases hlt:a<n
  ·obtain⟨gl,hgl,r0⟩:=tu (own_below H3 HB) hlt (v:= .slice (ra a) n (rc a)) (by simp[hlt])
   subst hgl;have R4:=jj (H4.out a hlt);obtain⟨xa,hxa⟩:=ex (ra a);obtain⟨xc,hxc⟩:=ex (rc a);rw[<-hxa,<-hxc] at r0 R4;have i0:(0:Int)<=a:=lK;have i1:(a:Int)<n:=lK;clear hxa hxc;obtain⟨wo,rfl⟩:=ex wr;obtain⟨l0,hl0⟩:=ex (tK n ps ms (a*n));rw[<-hl0] at HO|-;have HL0:=jj hl0;clear hl0
   go_wp2_with fail
   clear r0
   go_loopw [3,20] (fun v i wr=> ∃b:Nat,b<=n/\i= U b/\(∃A c,v= .slice A (tK n ps ms (a*n+b)).length c/\Xh wr w.heap.size (.slice A (tK n ps ms (a*n+b)).length c) (tK n ps ms (a*n+b)))/\Be w wr) (fun _ i _=>n -(intOf i).toNat)
   case atStart=>exact⟨0,lK,rfl,⟨A,c,by rw[fA,<-HL0.out],by rw[fA,<-HL0.out];exact HO.out⟩,HB⟩
   case round=>
    obtain⟨b,hb,rfl,⟨A,c,rfl,hown⟩,hb2⟩:=hrel;have HB2:=jj hb2;have HO2:=jj hown;have hsz:=hb2.size;clear hb2 hown;by_cases hlt2:b<n
    ·obtain⟨gr,hgr,r1⟩:=tu (own_below R4 HB2) hlt2 (v:= .pointer (some ⟨q (a*n+b),0,none⟩)) (by simp[hlt2])
     subst hgr;have hk1:=Mr n ps ms (a*n+b);have hk2:=ZN hlt hlt2;have hk3:n*n<=64*64:=jK hn hn;have hnn:0<n:=lK;have S0:=wE n ps ms (a*n+b);rw[show(a*n+b)/n=a by rw[gX,Nat.mul_add_div hnn,iJ hlt2,fA],show(a*n+b)%n=b by rw[gX,Nat.mul_add_mod,dJ hlt2]] at S0;have Q:=jj ((QS.below HB2).DU _ hk2);obtain⟨k,hk⟩:=ex (a*n+b);rw[<-hk] at Q r1 hk1 hk2 S0 HO2|-;obtain⟨l1,hl1⟩:=ex (tK n ps ms k);rw[<-hl1] at hk1 HO2 S0|-;obtain⟨qk,hqk⟩:=ex (q k);rw[<-hqk] at Q r1;obtain⟨m,hm⟩:=ex ((ms k).length);rw[<-hm] at S0;have HM:=jj hm.symm;have HS:=jj S0;have i2:(0:Int)<=b:=lK;have i3:(b:Int)<n:=lK;have hn1:l1.length<=4096:=lK;have hka:k+1=a*n+(b+1):=lK;have HKA:=jj hka;clear hk hqk hm S0 hl1 hk1 hk2 hk3 hka
     go_wp2_with fail
     refine(aa2 qk (g k) room (lost k) (ms k) _ Q m HM).mono ?_;rintro e w' ⟨rfl,rfl⟩;by_cases hm0:0<m
     ·have i4:(0:Int)<m:=lK
      rw[aV hm0] at HS;obtain⟨gp,hgp,pa⟩:=tu H2 hlt (v:= U (ps.getD a 0)) (by simp[PL.out,hlt,List.getD]);subst hgp;obtain⟨_,aaG,pb⟩:=tu H2 hlt2 (v:= U (ps.getD b 0)) (by simp[PL.out,hlt2,List.getD]);injection aaG with aaG;injection aaG with aaG;subst aaG;obtain⟨x,hx⟩:=ex (ps.getD a 0);obtain⟨y,hy⟩:=ex (ps.getD b 0);rw[<-hx] at HS pa;rw[<-hy] at HS pb;have c0:=H1.at_ 0;have KS: ∀w',Be w w'->J w' gn 0 (O gp n cp)/\J w' gp a (U x)/\J w' gp b (U y):=fun w' o=>⟨kept o _ _ c0,kept o _ _ pa,kept o _ _ pb⟩;clear hx hy
      go_upto_region 9 with fail
      refine rP (fun w'=>J w' gn 0 (O gp n cp)/\J w' gp a (U x)/\J w' gp b (U y)) 19 (tk 0 16 (.one 16 (.one 17 (.take 18 .done)))) (KS _ HB2.drew) ?_;intro hS0;clear c0 pa pb
      repeat refine' tT ?_
      refine pO fun KT lS=> ?_;go_simp;refine oI lS (KS _ (HB2.alloc hsz _).drew) fun _=> ?_;refine pO fun KT lS=> ?_;refine oo (by rfl) _ _ _ (by rfl) w.heap.size 115 t0 _ 2 16 underlying112 hi0 hz0 hz1 hz2 rfl lK A l1.length c (l1.flatMap Il) (by rfl) (dM HO2 _) (some ⟨wr.heap.size,0,none⟩) 1 1 (Il (x,y)) (by rfl) (mo.nR (n:=1) (s:=2) ((lQ.new wr 115 #[U x,U y]).drew) rfl) (by simp[Il,Value.oneCell']) (by unfold maxLen;omega) lK (by simp;omega) ?_;intro A8 c8 w8 h8;have e1:Be w (wr.alloc (.cells #[U x,U y] 115)).drew:=(HB2.alloc hsz _).drew;have B8:=h8.below (dM HO2 _) e1 (aF _) e1.size;have O8:=jj h8.own;have BB8:=jj B8;refine oI lS (KS _ B8) fun _=> ?_
      repeat refine' tT ?_
      refine lM ?_;clear KS B8 e1 h8
      go_wp2_with fail
      go_roundw
      case rel=>
       refine⟨b+1,lK,by go_num,⟨A8,c8,?_,?_⟩,BB8⟩
       ·rw[<-HKA.out,HS.out,av];rfl
       rw[<-HKA.out,HS.out];have e:=O8.out;unfold Xh;rw[av,bS];simpa using e
      case measure=>simp[intOf];omega
     have i4: ¬(0:Int)<m:=lK;rw[aU hm0] at HS
     go_wp2_with fail
     go_roundw
     case rel=>exact⟨b+1,lK,by go_num,⟨A,c,by rw[<-HKA.out,HS.out],by rw[<-HKA.out,HS.out];exact HO2.out⟩,HB2⟩
     simp[intOf];omega
    have hbn:b=n:=lK;subst hbn;have i3: ¬(b:Int)<b:=lK
    go_wp2_with fail
    go_roundw
    case rel=>exact⟨a+1,lK,by go_num,⟨A,c,by rw[gY],by rw[gY];exact HO2.out⟩,HB2⟩
    simp[intOf];omega
  have han:a=n:=lK;subst han;rw[HLL.out] at HO|-;have i1: ¬(a:Int)<a:=lK
  go_wp2_with fail
  go_ret;exact⟨A,c,rfl,HO,HB⟩
abbrev Rq:=Int×Int×Int×Int×Int×Int
instance ahI:DecidableEq Rq:=fun a b=>inferInstance
instance aeF:DecidableEq (List Rq):= @instDecidableEqList Rq ahI
instance ajJ:DecidableEq (List (List Rq)):= @instDecidableEqList (List Rq) aeF
def rA(r:Rq):List Value:= [U r.1,U r.2.1,U r.2.2.1,U r.2.2.2.1,U r.2.2.2.2.1,U r.2.2.2.2.2]
theorem OJ(r:Rq):(rA r).length=6:=rfl
theorem Bt(rs:List Rq): ∀v∈rs.flatMap rA,v.oneCell'=true:=by
 intro v hv;obtain⟨p,_,hp⟩:=bg.1 hv;simp only[rA,ay,aI,bK] at hp;rcases hp with rfl|rfl|rfl|rfl|rfl|rfl<;>rfl
def RqI(r:Rq):Prop:=qX r.1/\qX r.2.1/\qX r.2.2.1/\qX r.2.2.2.1/\qX r.2.2.2.2.1/\qX r.2.2.2.2.2
abbrev Vo:=Int×Int
def Cg(v:Vo):List Value:= [U v.1,U v.2]
theorem aeV(v:Vo):(Cg v).length=2:=rfl
theorem aeW(rs:List Vo): ∀v∈rs.flatMap Cg,v.oneCell'=true:=by
 intro v hv;obtain⟨p,_,hp⟩:=bg.1 hv;simp only[Cg,ay,aI,bK] at hp;rcases hp with rfl|rfl<;>rfl
structure qc(w:World)(a:OA)(n c:Nat)(bs:List Rq):Prop where
 row:mo w a n 6 (bs.flatMap rA)
 len:bs.length=n
 cap:n<=c
 max:c<=maxLen
structure uz(w:World)(a:OA)(n c:Nat)(vs:List Vo):Prop where
 row:mo w a n 2 (vs.flatMap Cg)
 len:vs.length=n
 cap:n<=c
 max:c<=maxLen
section
variable{w w':World}{a:OA}{n c:Nat}{bs:List Rq}{vs:List Vo}
theorem qc.below(h:qc w a n c bs)(hb:Be w w'):qc w' a n c bs:=⟨h.row.below hb,h.len,h.cap,h.max⟩
theorem uz.below(h:uz w a n c vs)(hb:Be w w'):uz w' a n c vs:=⟨h.row.below hb,h.len,h.cap,h.max⟩
theorem qc.nil(w:World)(a:OA)(h:c<=maxLen):qc w a 0 c []:=⟨mo.nil _ _ _,rfl,bF _,h⟩
theorem uz.nil(w:World)(a:OA)(h:c<=maxLen):uz w a 0 c []:=⟨mo.nil _ _ _,rfl,bF _,h⟩
theorem uz.get(h:uz w a n c vs)(hk:k<n): ∃b off,a=some ⟨b,off,none⟩/\b<w.heap.size/\ ∃x0 x1,vs[k]?=some (x0,x1)/\J w b (off+k*2) (U x0)/\J w b (off+k*2+1) (U x1):=by
 obtain⟨b,off,rfl,hlt,hc⟩:=h.row.2 lK;have hk':k<vs.length:=by have:=h.len;omega
 have key: ∀j v,j<2->(Cg vs[k])[j]?=some v->J w b (off+k*2+j) v:=fun j v hj hv=>by
  rw[dL];exact hc _ _ (nT Cg 2 aeV vs k j hj hk' v hv)
 exact⟨b,off,rfl,hlt,_,_,aj hk',key 0 _ lK rfl,key 1 _ lK rfl⟩
theorem qc.get(h:qc w a n c bs)(hk:k<n): ∃b off,a=some ⟨b,off,none⟩/\b<w.heap.size/\ ∃x0 x1 x2 x3 x4 x5,bs[k]?=some (x0,x1,x2,x3,x4,x5)/\
  J w b (off+k*6) (U x0)/\J w b (off+k*6+1) (U x1)/\J w b (off+k*6+2) (U x2)/\
  J w b (off+k*6+3) (U x3)/\J w b (off+k*6+4) (U x4)/\J w b (off+k*6+5) (U x5):=by
 obtain⟨b,off,rfl,hlt,hc⟩:=h.row.2 lK;have hk':k<bs.length:=by have:=h.len;omega
 have key: ∀j v,j<6->(rA bs[k])[j]?=some v->J w b (off+k*6+j) v:=fun j v hj hv=>by
  rw[dL];exact hc _ _ (nT rA 6 OJ bs k j hj hk' v hv)
 exact⟨b,off,rfl,hlt,_,_,_,_,_,_,aj hk',key 0 _ lK rfl,key 1 _ lK rfl,key 2 _ lK rfl,key 3 _ lK rfl,key 4 _ lK rfl,key 5 _ lK rfl⟩
end
theorem Tm{α:Type}{l l':List α}(h1:l.length=n)(h2:l'.length=n)(h: ∀j,j<n->l[j]?=l'[j]?):l=l':=by
 refine dD fun j=> ?_;by_cases hj:j<n
 ·exact h j hj
 rw[fT lK,fT lK]
structure CD where
 view:Int
 inst:Int
 seq:Int
 ba:Option Addr
 bn:Nat
 bc:Nat
 bs:List Rq
 va:Option Addr
 vn:Nat
 vc:Nat
 vs:List Vo
deriving Inhabited
def nS(c:CD):List Value:= [U c.view,U c.inst,U c.seq,.slice c.ba c.bn c.bc,.slice c.va c.vn c.vc]
theorem Xv(c:CD):(nS c).length=5:=rfl
structure CD.Is(w:World)(c:CD):Prop where
 b:qc w c.ba c.bn c.bc c.bs
 v:uz w c.va c.vn c.vc c.vs
 i0:qX c.view
 i1:qX c.inst
 i2:qX c.seq
theorem CD.Is.below{c:CD}(h:c.Is w)(hb:Be w w'):c.Is w':=⟨h.b.below hb,h.v.below hb,h.i0,h.i1,h.i2⟩
structure Hu(w:World)(a:OA)(n c:Nat)(cs:List CD):Prop where
 row:mo w a n 5 (cs.flatMap nS)
 len:cs.length=n
 cap:n<=c
 max:c<=maxLen
 is: ∀c∈cs,c.Is w
def qo:Nat->Nat->List Int
 |0,n=> [(n:Int)]
 |k+1,n=>if n<128 then [(n:Int)] else((n%128+128:Nat):Int)::qo k (n/128)
def mD(n:Nat):List Int:=qo 5 n
def zig(z:Int):Nat:=if z<0 then(-2*z -1).toNat else(2*z).toNat
def vg(z:Int):List Int:=mD (zig z)
def nI{α:Type}(f:α->List Int)(l:List α):List Int:=mD l.length++l.flatMap f
theorem qV: ∀(k n:Nat),1<=(qo k n).length/\(qo k n).length<=k+1
 |0,n=>by simp[qo]
 |k+1,n=>by
  unfold qo;split
  ·simp
  have:=qV k (n/128);simp only[aY];omega
theorem qz(n:Nat):1<=(mD n).length/\(mD n).length<=6:=qV 5 n
theorem MJ: ∀(k n:Nat),n<128^(k+1)-> ∀x∈qo k n,0<=x/\x<=255
 |0,n=>by
  intro h x hx;simp[qo] at hx;subst hx;omega
 |k+1,n=>by
  intro h x hx;unfold qo at hx;split at hx
  ·simp at hx;subst hx;omega
  simp only[ay] at hx;rcases hx with rfl|hx
  ·omega
  refine MJ k (n/128) ?_ x hx;rw[eB lK];rw[iK] at h;exact h
theorem Bn(h:n<1099511627776): ∀x∈mD n,0<=x/\x<=255:=MJ 5 n lK
theorem vQ(k n:Nat)(h:128<=n):qo (k+1) n=((n%128+128:Nat):Int)::qo k (n/128):=by
 rw[qo,aU lK]
theorem uI(k n:Nat)(h:n<128):qo k n= [(n:Int)]:=by
 cases k with
 |zero=>rfl
 |succ k=>rw[qo,aV h]
def At(bs:LI)(k:Nat)(xs:LI):Prop:= ∃rest,bs.drop k=xs++rest
theorem At.app(h:At bs k (xs++ys)):At bs k xs/\At bs (k+xs.length) ys:=by
 obtain⟨r,h⟩:=h;refine⟨⟨ys++r,by rw[h,bW]⟩,⟨r,?_⟩⟩;rw[<-List.drop_drop,h,bW,List.drop_left]
theorem At.left(h:At bs k (xs++ys)):At bs k xs:=h.app.1
theorem At.right(h:At bs k (xs++ys)):At bs (k+xs.length) ys:=h.app.2
theorem At.head{x:Int}(h:At bs k (x::xs)):bs[k]?=some x/\At bs (k+1) xs:=by
 have h2:=h.app (xs:= [x]);obtain⟨r,h1⟩:=h;refine⟨?_,by simpa using h2.2⟩;have:=congrArg (fun l=>l[0]?) h1;simpa using this
theorem At.le(h:At bs k xs)(hx:0<xs.length):k+xs.length<=bs.length:=by
 obtain⟨r,h⟩:=h;have:=congrArg List.length h;rw[jm,av] at this;omega
theorem At.all(xs:LI):At xs 0 xs:=⟨[],lT⟩
def oK(r:Rq):List Int:=mD r.1.toNat++(mD r.2.1.toNat++(mD r.2.2.1.toNat++(vg r.2.2.2.1++(vg r.2.2.2.2.1++mD r.2.2.2.2.2.toNat))))
def uQ(v:Vo):List Int:=mD v.1.toNat++mD v.2.toNat
structure Ce where
 view:Int
 inst:Int
 seq:Int
 batch:List Rq
 sw:List Vo
deriving DecidableEq
def uG(c:Ce):List Int:=mD c.view.toNat++(mD c.inst.toNat++(mD c.seq.toNat++(nI oK c.batch++nI uQ c.sw)))
structure Ms where
 kind:Int
 sender:Int
 view:Int
 inst:Int
 seq:Int
 res:Int
 batch:List Rq
 sw:List Vo
 vI:List Ce
deriving DecidableEq
def lX(m:Ms):List Int:=mD m.kind.toNat++(mD m.sender.toNat++(mD m.view.toNat++(mD m.inst.toNat++(mD m.seq.toNat++(vg m.res++(nI oK m.batch++(nI uQ m.sw++(nI uG m.vI++mD 0))))))))
def qh(z:Int):Prop:=0<=z/\z<1099511627776
def wP(z:Int):Prop:= -549755813888<=z/\z<549755813888
def xH(r:Rq):Prop:=qh r.1/\qh r.2.1/\qh r.2.2.1/\wP r.2.2.2.1/\wP r.2.2.2.2.1/\qh r.2.2.2.2.2
def Kv(v:Vo):Prop:=qh v.1/\qh v.2
structure Et(c:Ce):Prop where
 view:qh c.view
 inst:qh c.inst
 seq:qh c.seq
 batch: ∀r∈c.batch,xH r
 sw: ∀v∈c.sw,Kv v
 nb:c.batch.length<=256
 nv:c.sw.length<=256
structure Ev(m:Ms):Prop where
 kind:qh m.kind
 sender:qh m.sender
 view:qh m.view
 inst:qh m.inst
 seq:qh m.seq
 res:wP m.res
 batch: ∀r∈m.batch,xH r
 sw: ∀v∈m.sw,Kv v
 vI: ∀c∈m.vI,Et c
 nb:m.batch.length<=256
 nv:m.sw.length<=256
 nc:m.vI.length<=256
theorem J9{z:Int}(h:wP z):zig z<1099511627776:=by
 unfold zig;obtain⟨h1,h2⟩:=h;split<;>omega
theorem nK(n:Nat):(mD n).length<=6:=(qz n).2
theorem wR(xs ys:LI):mZ (xs++ys)=mZ xs++mZ ys:=by simp[mZ]
theorem uX(z:Int)(hz:qh z)(w:World):
  Y 134 #[U z] w fun e w'=> ∃a c,e= .returned (.tuple #[.slice a (mD z.toNat).length c,true])/\w'.ownsRow w.heap.size 5 1 (.slice a (mD z.toNat).length c) (mD z.toNat).length (mZ (mD z.toNat))/\Be w w':=by
 obtain⟨i0,hi0,hz0,hz1,hz2⟩:=bq wU;obtain⟨h1,h2⟩:=hz;obtain⟨n,rfl⟩:=bB h1;rw[bI];have i1:(0:Int)<=n:=h1;have i2: ¬(1099511627776:Int)<=n:=lK;have i3: ¬(n:Int)<0:=lK;go_enter func134,ntmps134
 go_wp2_with fail
 clear i2 i3
 go_loopw [0,4] (fun v o wr=> ∃(k m:Nat) (pre:LI) (a:OA) (c:Nat),v= U m/\o= .slice a pre.length c/\mD n=pre++qo k m/\m<128^(k+1)/\pre.length+k=5/\m<1099511627776/\wr.ownsRow w.heap.size 5 1 (.slice a pre.length c) pre.length (mZ pre)/\Be w wr) (fun v _ _=>(intOf v).toNat)
 case atStart=>exact⟨5,n,[],none,0,rfl,rfl,rfl,lK,rfl,lK,⟨rfl,.inl ⟨rfl,rfl⟩⟩,aC _ _⟩
 case round=>
  obtain⟨k,m,pre,a,c,rfl,rfl,hn,hm,hk,hm4,ho,hb⟩:=hrel;obtain⟨wo,rfl⟩:=ex wr;obtain⟨HO,HB,HN⟩:=j3 ho hb hn;have sz:=hb.size;have i0':(0:Int)<=m:=lK;clear ho hb hn;by_cases hlt:128<=m
  ·have j1:(128:Int)<=m:=lK
   obtain⟨k,rfl⟩: ∃j,k=j+1:=⟨k -1,by
    have:k≠0:=fun e=>by subst e;simp at hm;omega
    omega⟩
   have E:=jj (vQ k m hlt);have HM:Hid (m/128<128^(k+1)):=jj (by
    rw[eB lK];rw[iK] at hm;exact hm)
   have e1:IntKind.i64.wrap ((m:Int)%128+128)=((m%128+128:Nat):Int):=by rw[aH _ lK];omega
   have e2:IntKind.u8.wrap ((m%128+128:Nat):Int)=((m%128+128:Nat):Int):=by simp[IntKind.wrap,IntKind.signed,IntKind.bits];omega
   obtain⟨x,hx⟩:=ex (((m%128+128:Nat):Int));rw[<-hx] at e1 e2;have HX:=jj hx;have e3:IntKind.i64.wrap ((m:Int)/128)=((m/128:Nat):Int):=by rw[aH _ lK];omega
   clear hx hm
   go_wp2_with(at_builtin;refine lZ rfl _ _ _ rfl w.heap.size 5 i0 _ 1 1 underlying140 hi0 hz0 hz1 hz2 rfl lK a pre.length c (mZ pre) rfl (own_below HO nC) (some ⟨wo.heap.size,0,none⟩) 1 1 [.int .u8 x] rfl (qC _ _ _) (by simp[Value.oneCell']) (by unfold maxLen;omega) lK (by simp;omega) ?_;intro a5 c5 w5 h5)
   have B5:=h5.below (own_below HO nC) (HB.alloc sz _) (aF _) (by simp;omega);have O5:=h5.own;rw[show mZ pre++ [Value.int .u8 x]=mZ (pre++ [x]) by simp[mZ]] at O5;refine⟨⟨k,m/128,pre++ [x],a5,c5,congrArg (Value.int .i64) lK,lT,?_,HM,by simp;omega,lK,by simpa using O5,B5⟩,by simp[intOf];omega⟩;rw[HN.out,E.out,<-HX.out,bW];rfl
  have j1: ¬(128:Int)<=m:=lK;have E:=jj (uI k m lK);have e2:IntKind.u8.wrap (m:Int)=(m:Int):=by simp[IntKind.wrap,IntKind.signed,IntKind.bits];omega
  have L:Hid ((mD n).length=pre.length+1):=jj (by rw[HN.out,E.out];simp);clear hm
  go_wp2_with(at_builtin;refine lZ rfl _ _ _ rfl w.heap.size 5 i0 _ 1 1 underlying140 hi0 hz0 hz1 hz2 rfl lK a pre.length c (mZ pre) rfl (own_below HO nC) (some ⟨wo.heap.size,0,none⟩) 1 1 [.int .u8 m] rfl (qC _ _ _) (by simp[Value.oneCell']) (by unfold maxLen;omega) lK (by simp;omega) ?_;intro a5 c5 w5 h5)
  go_ret2
  have B5:=h5.below (own_below HO nC) (HB.alloc sz _) (aF _) (by simp;omega);have O5:=h5.own;rw[show mZ pre++ [Value.int .u8 (m:Int)]=mZ (mD n) by rw[HN.out,E.out];simp[mZ]] at O5;exact⟨a5,c5,by rw[L.out];rfl,by rw[L.out];exact O5,B5⟩
theorem alg(z:Int)(hz:wP z)(w:World):Y 185 #[U z] w fun e w'=>e= .returned (U (zig z))/\w=w':=by
 obtain⟨h1,h2⟩:=hz;have i1: ¬z< -549755813888:=lK;have i2: ¬(549755813888:Int)<=z:=lK;by_cases h:z<0
 ·have E:Hid ((zig z:Int)= -2*z -1):=jj (by unfold zig;rw[aV h];omega)
  have e1:IntKind.i64.wrap (-2*z)= -2*z:=aH _ lK;have e2:IntKind.i64.wrap (-2*z -1)= -2*z -1:=aH _ lK;clear h1 h2;go_enter func185,ntmps185
  go_wp2_with fail
  go_ret;exact⟨by rw[E.out];rfl,by trivial⟩
 have E:Hid ((zig z:Int)=2*z):=jj (by unfold zig;rw[aU h];omega);have e1:IntKind.i64.wrap (2*z)=2*z:=aH _ lK;clear h1 h2;go_enter func185,ntmps185
 go_wp2_with fail
 go_ret;exact⟨by rw[E.out];rfl,by trivial⟩
theorem Rs(z:Int)(hz:wP z)(w:World):
  Y 135 #[U z] w fun e w'=> ∃a c,e= .returned (.tuple #[.slice a (vg z).length c,true])/\w'.ownsRow w.heap.size 5 1 (.slice a (vg z).length c) (vg z).length (mZ (vg z))/\Be w w':=by
 obtain⟨h1,h2⟩:=hz;have i1: ¬z< -549755813888:=lK;have i2: ¬(549755813888:Int)<=z:=lK;have hzz:Hid (wP z):=jj ⟨h1,h2⟩;have hn:Hid (qh (zig z:Int)):=jj ⟨lK,by have:=J9 hzz;omega⟩;clear h1 h2;go_enter func135,ntmps135
 go_wp2_with fail
 refine(alg z hzz _).mono ?_;rintro e w' ⟨rfl,rfl⟩
 go_wp2_with fail
 refine(uX _ hn _).mono ?_;rintro e w2 ⟨a,c,rfl,ho,hb⟩;rw[bI] at ho|-;have HO:=jj ho;have HB:=jj hb;clear ho hb
 go_wp2_with fail
 go_ret2
 exact⟨a,c,rfl,HO,HB⟩
def zag(n:Nat):Int:=if n%2=1 then -((n:Int)+1)/2 else(n:Int)/2
theorem ae1(z:Int):zag (zig z)=z:=by
 unfold zag zig;split
 ·rename_i h;rw[aV lK];omega
 rw[aU lK];omega
theorem afQ(z:Int)(hz:wP z)(w:World):Y 243 #[U (zig z)] w fun e w'=>e= .returned (U z)/\w=w':=by
 have hlt:=J9 hz;obtain⟨n,hn⟩:=ex (zig z);have E:Hid (zag n=z):=jj (by rw[hn];exact ae1 z);rw[<-hn] at hlt|-;have i1: ¬(n:Int)<0:=lK;have i2: ¬(1099511627776:Int)<=n:=lK;have i3:(0:Int)<=n:=lK;clear hn hz;by_cases h:n%2=1
 ·have h2:(n:Int)%2=1:=lK
  have e1:IntKind.i64.wrap ((n:Int)+1)=(n:Int)+1:=aH _ lK;have e2:IntKind.i64.wrap (-((n:Int)+1))= -((n:Int)+1):=aH _ lK;have q:((n:Int)+1).tdiv 2=((n:Int)+1)/2:=Int.tdiv_eq_ediv_of_nonneg lK;have q0:0<=((n:Int)+1).tdiv 2:=by rw[q];omega
  have q1:((n:Int)+1).tdiv 2<=1099511627776:=by rw[q];omega
  have q2:wrap64 (-(((n:Int)+1).tdiv 2))= -(((n:Int)+1).tdiv 2):=IntWalk.wrap64_in _ lK;have Z:Hid (-(((n:Int)+1).tdiv 2)=z):=jj (by rw[<-E.out,q];unfold zag;rw[aV h];omega);clear q;go_enter func243,ntmps243
  go_wp2_with fail
  go_ret;exact⟨by rw[<-Z.out];first|rfl|(simp[q2];done),by first|rfl|trivial⟩
 have h2: ¬(n:Int)%2=1:=lK;have Z:Hid (z=(n:Int)/2):=jj (by rw[<-E.out];unfold zag;rw[aU h]);go_enter func243,ntmps243
 go_wp2_with fail
 go_ret;exact⟨by rw[Z.out];rfl,by first|rfl|trivial⟩
theorem abu(a b s:Nat)(h:a<2^s):a|||(b<<<s)=a+b*2^s:=by
 rw[Nat.or_comm,iL,gX,<-Nat.two_pow_add_eq_or_of_lt h,Nat.add_comm]
theorem vW: ∀n:Nat,n<256->bits .and .u8 (n:Int) 127=((n%128:Nat):Int):=by decide+kernel
theorem zB(a b:Nat)(h:a|||b<9223372036854775808)(ha:a<18446744073709551616)(hb:b<18446744073709551616):
  bits .or .i64 (a:Int) (b:Int)=((a|||b:Nat):Int):=by
 have h1:(BitVec.ofInt 64 (a:Int)).toNat=a:=by
  rw[kM,BitVec.toNat_ofNat];exact dJ lK
 have h2:(BitVec.ofInt 64 (b:Int)).toNat=b:=by
  rw[kM,BitVec.toNat_ofNat];exact dJ lK
 show IntKind.i64.wrap ((BitVec.ofInt 64 (a:Int)|||BitVec.ofInt 64 (b:Int)).toNat:Int)=_;rw[BitVec.toNat_or,h1,h2];exact aH _ lK
theorem bor(a b s:Nat)(h:a<2^s)(hs:a+b*2^s<1099511627776):bits .or .i64 (a:Int) ((b:Int)*2^s)=((a+b*2^s:Nat):Int):=by
 have e:=abu a b s h;rw[iL] at e;have e2:(b:Int)*2^s=((b*2^s:Nat):Int):=by simp
 rw[e2,zB a (b*2^s) (by rw[e];omega) lK lK,e]
theorem ajM(b:Nat)(hb:b<256):bits .or .i64 0 (b:Int)=(b:Int):=by
 have:=zB 0 b (by simp;omega) lK lK;simpa using this
theorem AL(a:OA)(l c:Nat)(bs:LI)(k:Nat)(n:Nat)(hn:n<1099511627776)(hl:bs.length=l)(hm:l<=1048576)(w:World)(hv:mo w a l 1 (mZ bs))(hat:At bs k (mD n)):
  Y 153 #[.slice a l c,U k] w fun e w'=>e= .returned (.tuple #[U n,U ((k+(mD n).length:Nat):Int),true])/\w=w':=by
 have nl:=qz n;have hle:=hat.le lK;obtain⟨g,off,rfl,hg,hc⟩:=hv.2 lK;have HAT:=jj hat;have CELL:Hid (∀j x,bs[j]?=some x->J w g (off+j) (.int .u8 x)):=jj fun j x hx=>hc j _ (by simp[mZ,hx]);have i1:(0:Int)<=k:=lK;have i2: ¬(k:Int)<0:=lK;clear hat hc hv;go_enter func153,ntmps153
 go_wp2_with fail
 obtain⟨J0,hJ⟩: ∃J0:Act->World->Prop,J0=(fun a' w'=>w'=w/\ ∃(i k' m v:Nat) (u2 u3 u7 u9 AP Gc Gd Gf CS CX u16 Fp Fq yL u20 u21 u22 u23 u24 u25 u26 u27 u28 u29 u30 u31 u32 u33 u34 u35 u36 u37 u38 u39 u40 u41 u42 u43 u44 u45 u46 u47 u48:Value),1<=i/\i+k'=5/\1<=m/\m<128^(k'+1)/\At bs (k+i) (qo k' m)/\v<2^(7*i)/\n=v+m*2^(7*i)/\(mD n).length=i+(qo k' m).length/\a'={tmps:=#[.slice (some ⟨g,off,none⟩) l c,U ((k+i:Nat):Int),u2,u3,U (v:Int),U 0,.bool false,u7,U ((7*i:Nat):Int),u9,AP,Gc,Gd,Gf,CS,CX,u16,Fp,Fq,yL,u20,u21,u22,u23,u24,u25,u26,u27,u28,u29,u30,u31,u32,u33,u34,u35,u36,u37,u38,u39,u40,u41,u42,u43,u44,u45,u46,u47,u48],defers:= []}):=⟨_,rfl⟩;have HJ:=jj hJ;clear hJ;refine gD 1 J0 (fun a' _=>42 -(intOf (a'.tmps.getD 8 undef)).toNat) rfl ?_ ?_
 ·have i3: ¬(l:Int)<=k:=lK
  have i4:(k:Int)<l:=lK;have e1:IntKind.i64.wrap ((k:Int)+1)=(k:Int)+1:=aH _ lK;by_cases h:n<128
  ·have E:Hid (mD n= [(n:Int)]):=jj (uI 5 n h)
   have b0:=CELL.out k (n:Int) (by have:=HAT.out;rw[E.out] at this;exact this.head.1);have L:Hid ((k+(mD n).length:Nat)=k+1):=jj (by rw[E.out];rfl);obtain⟨x,hx⟩: ∃x:Int,x=(n:Int):=⟨_,rfl⟩;have HX:=jj hx;have x0:bits .and .u8 x 127=x:=by rw[hx,vW n lK,dJ h]
   have x1:bits .or .i64 0 x=x:=by rw[hx];exact ajM n lK
   rw[<-hx] at b0;have x2:0<=x:=lK;have x3:x<128:=lK;clear hx h hn
   go_wp2_with fail
   go_step3
   go_wp2_with fail
   all_goals
    simp only[Exit.jump]
    go_ret3
    exact⟨by first|(rw[L.out,<-HX.out];rfl)|(rw[L.out,<-HX.out,‹x=0›];rfl),by trivial⟩
  have E:Hid (mD n=((n%128+128:Nat):Int)::qo 4 (n/128)):=jj (vQ 4 n lK);have A2:=HAT.out;rw[E.out] at A2;obtain⟨A3,A4⟩:=A2.head;have b0:=CELL.out k _ A3;have L:(mD n).length=1+(qo 4 (n/128)).length:=by rw[E.out,aY];omega
  obtain⟨x,hx⟩: ∃x:Int,x=((n%128+128:Nat):Int):=⟨_,rfl⟩;obtain⟨y,hy⟩: ∃y:Int,y=((n%128:Nat):Int):=⟨_,rfl⟩;have HY:=jj hy;have x0:bits .and .u8 x 127=y:=by rw[hx,vW _ lK,hy];congr 1;omega
  have x1:bits .or .i64 0 y=y:=by rw[hy];exact ajM _ lK
  rw[<-hx] at b0;have x2:128<=x:=lK;have x3:x<256:=lK;have y2:0<=y:=lK;have y3:y<128:=lK;have FIN:Hid (1<=n/128/\n/128<128^(4+1)/\At bs (k+1) (qo 4 (n/128))/\n%128<2^(7*1)/\n=n%128+n/128*2^(7*1)/\(mD n).length=1+(qo 4 (n/128)).length):=jj ⟨lK,lK,A4,lK,lK,L⟩;clear hx hy h hn A2 A3 A4 L
  go_wp2_with fail
  go_step3
  go_wp2_with fail
  go_step3
  refine dH rfl ?_;rw[HJ.out];obtain⟨r1,r2,r3,r4,r5,r6⟩:=FIN.out;rw[HY.out];exact⟨rfl,1,4,n/128,n%128,_,_,_,_,_,_,_,_,_,_,_,_,_,_,_,_,_,_,_,_,_,_,_,_,_,_,_,_,_,_,_,_,_,_,_,_,_,_,_,_,_,_,_,lK,rfl,r1,r2,r3,r4,r5,r6,rfl⟩
 rintro a' w' hJJ;rw[HJ.out] at hJJ;obtain⟨rfl,i,k',m,v,u2,u3,u7,u9,AP,Gc,Gd,Gf,CS,CX,u16,Fp,Fq,yL,u20,u21,u22,u23,u24,u25,u26,u27,u28,u29,u30,u31,u32,u33,u34,u35,u36,u37,u38,u39,u40,u41,u42,u43,u44,u45,u46,u47,u48,j1,j2,j3,j4,j5,j6,j7,j8,rfl⟩:=hJJ;rcases(show i=1\/i=2\/i=3\/i=4\/i=5 by omega) with rfl|rfl|rfl|rfl|rfl
 ·have e8:((7*1:Nat):Int)=7:=rfl
  rw[e8];rw[show 2^(7*1)=128 from rfl] at j6 j7;obtain⟨p,hp⟩:=ex (k+1);rw[<-hp] at j5|-;have HP:=jj hp;have pl:=j5.le (tL (qV k' m));have kl:=qV k' m;have i3: ¬(l:Int)<=p:=lK;have i4:(p:Int)<l:=lK;have i5:(0:Int)<=p:=lK;have e1:IntKind.i64.wrap ((p:Int)+1)=(p:Int)+1:=aH _ lK;clear hp;by_cases h:m<128
  ·have E:Hid (qo k' m= [(m:Int)]):=jj (uI _ m h)
   have A2:=j5;rw[E.out] at A2;have b0:=CELL.out p _ A2.head.1;have L:Hid ((k+(mD n).length:Nat)=p+1):=jj (by rw[j8,E.out,HP.out];simp<;>omega);obtain⟨x,hx⟩: ∃x:Int,x=(m:Int):=⟨_,rfl⟩;obtain⟨z,hz⟩: ∃x:Int,x=(n:Int):=⟨_,rfl⟩;obtain⟨vv,hvv⟩: ∃x:Int,x=(v:Int):=⟨_,rfl⟩;have HZ:=jj hz;have x0:bits .and .u8 x 127=x:=by rw[hx,vW m lK,dJ h]
   have x1:bits .or .i64 vv (x*128)=z:=by
    have e:=bor v m 7 j6 lK;rw[show(2:Int)^7=128 by decide,show 2^7=128 from rfl] at e;rw[hvv,hx,e,hz,j7]
   rw[<-hx] at b0;rw[<-hvv];have x2:0<=x:=lK;have x3:x<128:=lK;have x4:x≠0:=lK;have z0:0<=z:=lK;have z1:z<1099511627776:=lK;clear hx h j1 j2 j3 j4 j5 j6 j7 j8 A2 hvv hz hn
   go_wp2_with fail
   simp only[Exit.jump]
   go_ret3
   exact⟨by rw[L.out,<-HZ.out];rfl,by trivial⟩
  obtain⟨k2,rfl⟩: ∃j,k'=j+1:=⟨k' -1,lK⟩;have E:Hid (qo (k2+1) m=((m%128+128:Nat):Int)::qo k2 (m/128)):=jj (vQ k2 m lK);have A2:=j5;rw[E.out] at A2;obtain⟨A3,A4⟩:=A2.head;have b0:=CELL.out p _ A3;have L:(mD n).length=2+(qo k2 (m/128)).length:=by rw[j8,E.out,aY];omega
  obtain⟨x,hx⟩: ∃x:Int,x=((m%128+128:Nat):Int):=⟨_,rfl⟩;obtain⟨y,hy⟩: ∃y:Int,y=((m%128:Nat):Int):=⟨_,rfl⟩;obtain⟨vv,hvv⟩: ∃x:Int,x=(v:Int):=⟨_,rfl⟩;obtain⟨v2,hv2⟩: ∃x:Nat,x=v+(m%128)*128:=⟨_,rfl⟩;obtain⟨z,hz⟩: ∃x:Int,x=(v2:Int):=⟨_,rfl⟩;have HZ:=jj hz;have x0:bits .and .u8 x 127=y:=by rw[hx,vW _ lK,hy];congr 1;omega
  have x1:bits .or .i64 vv (y*128)=z:=by
   have e:=bor v (m%128) 7 j6 lK;rw[show(2:Int)^7=128 by decide,show 2^7=128 from rfl] at e;rw[hvv,hy,e,hz,hv2]
  rw[<-hx] at b0;rw[<-hvv];have x2:128<=x:=lK;have x3:x<256:=lK;have y2:0<=y:=lK;have y3:y<128:=lK;have FIN:Hid (1<=m/128/\m/128<128^(k2+1)/\At bs (k+2) (qo k2 (m/128))/\v2<2^(7*2)/\n=v2+m/128*2^(7*2)/\(mD n).length=2+(qo k2 (m/128)).length/\2+k2=5):=jj ⟨lK,by
   rw[eB lK];rw[iK] at j4;exact j4,by rw[show k+2=p+1 by rw[HP.out]];exact A4,by rw[show 2^(7*2)=16384 from rfl];omega,by rw[show 2^(7*2)=16384 from rfl];omega,L,lK⟩
  have PE:Hid ((p:Int)+1=((k+2:Nat):Int)):=jj (by rw[HP.out];omega);clear hx hy hvv hv2 hz h j1 j2 j3 j4 j5 j6 j7 j8 A2 A3 A4 L hn
  go_wp2_with fail
  go_step3
  refine dH rfl (dH ?_ (by simp[intOf]));rw[HJ.out];obtain⟨r1,r2,r3,r4,r5,r6,r7⟩:=FIN.out;rw[PE.out,HZ.out];exact⟨rfl,2,k2,m/128,v2,_,_,_,_,_,_,_,_,_,_,_,_,_,_,_,_,_,_,_,_,_,_,_,_,_,_,_,_,_,_,_,_,_,_,_,_,_,_,_,_,_,_,_,lK,r7,r1,r2,r3,r4,r5,r6,rfl⟩
 ·have e8:((7*2:Nat):Int)=14:=rfl
  rw[e8];rw[show 2^(7*2)=16384 from rfl] at j6 j7;obtain⟨p,hp⟩:=ex (k+2);rw[<-hp] at j5|-;have HP:=jj hp;have pl:=j5.le (tL (qV k' m));have kl:=qV k' m;have i3: ¬(l:Int)<=p:=lK;have i4:(p:Int)<l:=lK;have i5:(0:Int)<=p:=lK;have e1:IntKind.i64.wrap ((p:Int)+1)=(p:Int)+1:=aH _ lK;clear hp;by_cases h:m<128
  ·have E:Hid (qo k' m= [(m:Int)]):=jj (uI _ m h)
   have A2:=j5;rw[E.out] at A2;have b0:=CELL.out p _ A2.head.1;have L:Hid ((k+(mD n).length:Nat)=p+1):=jj (by rw[j8,E.out,HP.out];simp<;>omega);obtain⟨x,hx⟩: ∃x:Int,x=(m:Int):=⟨_,rfl⟩;obtain⟨z,hz⟩: ∃x:Int,x=(n:Int):=⟨_,rfl⟩;obtain⟨vv,hvv⟩: ∃x:Int,x=(v:Int):=⟨_,rfl⟩;have HZ:=jj hz;have x0:bits .and .u8 x 127=x:=by rw[hx,vW m lK,dJ h]
   have x1:bits .or .i64 vv (x*16384)=z:=by
    have e:=bor v m 14 j6 lK;rw[show(2:Int)^14=16384 by decide,show 2^14=16384 from rfl] at e;rw[hvv,hx,e,hz,j7]
   rw[<-hx] at b0;rw[<-hvv];have x2:0<=x:=lK;have x3:x<128:=lK;have x4:x≠0:=lK;have z0:0<=z:=lK;have z1:z<1099511627776:=lK;clear hx h j1 j2 j3 j4 j5 j6 j7 j8 A2 hvv hz hn
   go_wp2_with fail
   simp only[Exit.jump]
   go_ret3
   exact⟨by rw[L.out,<-HZ.out];rfl,by trivial⟩
  obtain⟨k2,rfl⟩: ∃j,k'=j+1:=⟨k' -1,lK⟩;have E:Hid (qo (k2+1) m=((m%128+128:Nat):Int)::qo k2 (m/128)):=jj (vQ k2 m lK);have A2:=j5;rw[E.out] at A2;obtain⟨A3,A4⟩:=A2.head;have b0:=CELL.out p _ A3;have L:(mD n).length=3+(qo k2 (m/128)).length:=by rw[j8,E.out,aY];omega
  obtain⟨x,hx⟩: ∃x:Int,x=((m%128+128:Nat):Int):=⟨_,rfl⟩;obtain⟨y,hy⟩: ∃y:Int,y=((m%128:Nat):Int):=⟨_,rfl⟩;obtain⟨vv,hvv⟩: ∃x:Int,x=(v:Int):=⟨_,rfl⟩;obtain⟨v2,hv2⟩: ∃x:Nat,x=v+(m%128)*16384:=⟨_,rfl⟩;obtain⟨z,hz⟩: ∃x:Int,x=(v2:Int):=⟨_,rfl⟩;have HZ:=jj hz;have x0:bits .and .u8 x 127=y:=by rw[hx,vW _ lK,hy];congr 1;omega
  have x1:bits .or .i64 vv (y*16384)=z:=by
   have e:=bor v (m%128) 14 j6 lK;rw[show(2:Int)^14=16384 by decide,show 2^14=16384 from rfl] at e;rw[hvv,hy,e,hz,hv2]
  rw[<-hx] at b0;rw[<-hvv];have x2:128<=x:=lK;have x3:x<256:=lK;have y2:0<=y:=lK;have y3:y<128:=lK;have FIN:Hid (1<=m/128/\m/128<128^(k2+1)/\At bs (k+3) (qo k2 (m/128))/\v2<2^(7*3)/\n=v2+m/128*2^(7*3)/\(mD n).length=3+(qo k2 (m/128)).length/\3+k2=5):=jj ⟨lK,by
   rw[eB lK];rw[iK] at j4;exact j4,by rw[show k+3=p+1 by rw[HP.out]];exact A4,by rw[show 2^(7*3)=2097152 from rfl];omega,by rw[show 2^(7*3)=2097152 from rfl];omega,L,lK⟩
  have PE:Hid ((p:Int)+1=((k+3:Nat):Int)):=jj (by rw[HP.out];omega);clear hx hy hvv hv2 hz h j1 j2 j3 j4 j5 j6 j7 j8 A2 A3 A4 L hn
  go_wp2_with fail
  go_step3
  refine dH rfl (dH ?_ (by simp[intOf]));rw[HJ.out];obtain⟨r1,r2,r3,r4,r5,r6,r7⟩:=FIN.out;rw[PE.out,HZ.out];exact⟨rfl,3,k2,m/128,v2,_,_,_,_,_,_,_,_,_,_,_,_,_,_,_,_,_,_,_,_,_,_,_,_,_,_,_,_,_,_,_,_,_,_,_,_,_,_,_,_,_,_,_,lK,r7,r1,r2,r3,r4,r5,r6,rfl⟩
 ·have e8:((7*3:Nat):Int)=21:=rfl
  rw[e8];rw[show 2^(7*3)=2097152 from rfl] at j6 j7;obtain⟨p,hp⟩:=ex (k+3);rw[<-hp] at j5|-;have HP:=jj hp;have pl:=j5.le (tL (qV k' m));have kl:=qV k' m;have i3: ¬(l:Int)<=p:=lK;have i4:(p:Int)<l:=lK;have i5:(0:Int)<=p:=lK;have e1:IntKind.i64.wrap ((p:Int)+1)=(p:Int)+1:=aH _ lK;clear hp;by_cases h:m<128
  ·have E:Hid (qo k' m= [(m:Int)]):=jj (uI _ m h)
   have A2:=j5;rw[E.out] at A2;have b0:=CELL.out p _ A2.head.1;have L:Hid ((k+(mD n).length:Nat)=p+1):=jj (by rw[j8,E.out,HP.out];simp<;>omega);obtain⟨x,hx⟩: ∃x:Int,x=(m:Int):=⟨_,rfl⟩;obtain⟨z,hz⟩: ∃x:Int,x=(n:Int):=⟨_,rfl⟩;obtain⟨vv,hvv⟩: ∃x:Int,x=(v:Int):=⟨_,rfl⟩;have HZ:=jj hz;have x0:bits .and .u8 x 127=x:=by rw[hx,vW m lK,dJ h]
   have x1:bits .or .i64 vv (x*2097152)=z:=by
    have e:=bor v m 21 j6 lK;rw[show(2:Int)^21=2097152 by decide,show 2^21=2097152 from rfl] at e;rw[hvv,hx,e,hz,j7]
   rw[<-hx] at b0;rw[<-hvv];have x2:0<=x:=lK;have x3:x<128:=lK;have x4:x≠0:=lK;have z0:0<=z:=lK;have z1:z<1099511627776:=lK;clear hx h j1 j2 j3 j4 j5 j6 j7 j8 A2 hvv hz hn
   go_wp2_with fail
   simp only[Exit.jump]
   go_ret3
   exact⟨by rw[L.out,<-HZ.out];rfl,by trivial⟩
  obtain⟨k2,rfl⟩: ∃j,k'=j+1:=⟨k' -1,lK⟩;have E:Hid (qo (k2+1) m=((m%128+128:Nat):Int)::qo k2 (m/128)):=jj (vQ k2 m lK);have A2:=j5;rw[E.out] at A2;obtain⟨A3,A4⟩:=A2.head;have b0:=CELL.out p _ A3;have L:(mD n).length=4+(qo k2 (m/128)).length:=by rw[j8,E.out,aY];omega
  obtain⟨x,hx⟩: ∃x:Int,x=((m%128+128:Nat):Int):=⟨_,rfl⟩;obtain⟨y,hy⟩: ∃y:Int,y=((m%128:Nat):Int):=⟨_,rfl⟩;obtain⟨vv,hvv⟩: ∃x:Int,x=(v:Int):=⟨_,rfl⟩;obtain⟨v2,hv2⟩: ∃x:Nat,x=v+(m%128)*2097152:=⟨_,rfl⟩;obtain⟨z,hz⟩: ∃x:Int,x=(v2:Int):=⟨_,rfl⟩;have HZ:=jj hz;have x0:bits .and .u8 x 127=y:=by rw[hx,vW _ lK,hy];congr 1;omega
  have x1:bits .or .i64 vv (y*2097152)=z:=by
   have e:=bor v (m%128) 21 j6 lK;rw[show(2:Int)^21=2097152 by decide,show 2^21=2097152 from rfl] at e;rw[hvv,hy,e,hz,hv2]
  rw[<-hx] at b0;rw[<-hvv];have x2:128<=x:=lK;have x3:x<256:=lK;have y2:0<=y:=lK;have y3:y<128:=lK;have FIN:Hid (1<=m/128/\m/128<128^(k2+1)/\At bs (k+4) (qo k2 (m/128))/\v2<2^(7*4)/\n=v2+m/128*2^(7*4)/\(mD n).length=4+(qo k2 (m/128)).length/\4+k2=5):=jj ⟨lK,by
   rw[eB lK];rw[iK] at j4;exact j4,by rw[show k+4=p+1 by rw[HP.out]];exact A4,by rw[show 2^(7*4)=268435456 from rfl];omega,by rw[show 2^(7*4)=268435456 from rfl];omega,L,lK⟩
  have PE:Hid ((p:Int)+1=((k+4:Nat):Int)):=jj (by rw[HP.out];omega);clear hx hy hvv hv2 hz h j1 j2 j3 j4 j5 j6 j7 j8 A2 A3 A4 L hn
  go_wp2_with fail
  go_step3
  refine dH rfl (dH ?_ (by simp[intOf]));rw[HJ.out];obtain⟨r1,r2,r3,r4,r5,r6,r7⟩:=FIN.out;rw[PE.out,HZ.out];exact⟨rfl,4,k2,m/128,v2,_,_,_,_,_,_,_,_,_,_,_,_,_,_,_,_,_,_,_,_,_,_,_,_,_,_,_,_,_,_,_,_,_,_,_,_,_,_,_,_,_,_,_,lK,r7,r1,r2,r3,r4,r5,r6,rfl⟩
 ·have e8:((7*4:Nat):Int)=28:=rfl
  rw[e8];rw[show 2^(7*4)=268435456 from rfl] at j6 j7;obtain⟨p,hp⟩:=ex (k+4);rw[<-hp] at j5|-;have HP:=jj hp;have pl:=j5.le (tL (qV k' m));have kl:=qV k' m;have i3: ¬(l:Int)<=p:=lK;have i4:(p:Int)<l:=lK;have i5:(0:Int)<=p:=lK;have e1:IntKind.i64.wrap ((p:Int)+1)=(p:Int)+1:=aH _ lK;clear hp;by_cases h:m<128
  ·have E:Hid (qo k' m= [(m:Int)]):=jj (uI _ m h)
   have A2:=j5;rw[E.out] at A2;have b0:=CELL.out p _ A2.head.1;have L:Hid ((k+(mD n).length:Nat)=p+1):=jj (by rw[j8,E.out,HP.out];simp<;>omega);obtain⟨x,hx⟩: ∃x:Int,x=(m:Int):=⟨_,rfl⟩;obtain⟨z,hz⟩: ∃x:Int,x=(n:Int):=⟨_,rfl⟩;obtain⟨vv,hvv⟩: ∃x:Int,x=(v:Int):=⟨_,rfl⟩;have HZ:=jj hz;have x0:bits .and .u8 x 127=x:=by rw[hx,vW m lK,dJ h]
   have x1:bits .or .i64 vv (x*268435456)=z:=by
    have e:=bor v m 28 j6 lK;rw[show(2:Int)^28=268435456 by decide,show 2^28=268435456 from rfl] at e;rw[hvv,hx,e,hz,j7]
   rw[<-hx] at b0;rw[<-hvv];have x2:0<=x:=lK;have x3:x<128:=lK;have x4:x≠0:=lK;have z0:0<=z:=lK;have z1:z<1099511627776:=lK;clear hx h j1 j2 j3 j4 j5 j6 j7 j8 A2 hvv hz hn
   go_wp2_with fail
   simp only[Exit.jump]
   go_ret3
   exact⟨by rw[L.out,<-HZ.out];rfl,by trivial⟩
  obtain⟨k2,rfl⟩: ∃j,k'=j+1:=⟨k' -1,lK⟩;have E:Hid (qo (k2+1) m=((m%128+128:Nat):Int)::qo k2 (m/128)):=jj (vQ k2 m lK);have A2:=j5;rw[E.out] at A2;obtain⟨A3,A4⟩:=A2.head;have b0:=CELL.out p _ A3;have L:(mD n).length=5+(qo k2 (m/128)).length:=by rw[j8,E.out,aY];omega
  obtain⟨x,hx⟩: ∃x:Int,x=((m%128+128:Nat):Int):=⟨_,rfl⟩;obtain⟨y,hy⟩: ∃y:Int,y=((m%128:Nat):Int):=⟨_,rfl⟩;obtain⟨vv,hvv⟩: ∃x:Int,x=(v:Int):=⟨_,rfl⟩;obtain⟨v2,hv2⟩: ∃x:Nat,x=v+(m%128)*268435456:=⟨_,rfl⟩;obtain⟨z,hz⟩: ∃x:Int,x=(v2:Int):=⟨_,rfl⟩;have HZ:=jj hz;have x0:bits .and .u8 x 127=y:=by rw[hx,vW _ lK,hy];congr 1;omega
  have x1:bits .or .i64 vv (y*268435456)=z:=by
   have e:=bor v (m%128) 28 j6 lK;rw[show(2:Int)^28=268435456 by decide,show 2^28=268435456 from rfl] at e;rw[hvv,hy,e,hz,hv2]
  rw[<-hx] at b0;rw[<-hvv];have x2:128<=x:=lK;have x3:x<256:=lK;have y2:0<=y:=lK;have y3:y<128:=lK;have FIN:Hid (1<=m/128/\m/128<128^(k2+1)/\At bs (k+5) (qo k2 (m/128))/\v2<2^(7*5)/\n=v2+m/128*2^(7*5)/\(mD n).length=5+(qo k2 (m/128)).length/\5+k2=5):=jj ⟨lK,by
   rw[eB lK];rw[iK] at j4;exact j4,by rw[show k+5=p+1 by rw[HP.out]];exact A4,by rw[show 2^(7*5)=34359738368 from rfl];omega,by rw[show 2^(7*5)=34359738368 from rfl];omega,L,lK⟩
  have PE:Hid ((p:Int)+1=((k+5:Nat):Int)):=jj (by rw[HP.out];omega);clear hx hy hvv hv2 hz h j1 j2 j3 j4 j5 j6 j7 j8 A2 A3 A4 L hn
  go_wp2_with fail
  go_step3
  refine dH rfl (dH ?_ (by simp[intOf]));rw[HJ.out];obtain⟨r1,r2,r3,r4,r5,r6,r7⟩:=FIN.out;rw[PE.out,HZ.out];exact⟨rfl,5,k2,m/128,v2,_,_,_,_,_,_,_,_,_,_,_,_,_,_,_,_,_,_,_,_,_,_,_,_,_,_,_,_,_,_,_,_,_,_,_,_,_,_,_,_,_,_,_,lK,r7,r1,r2,r3,r4,r5,r6,rfl⟩
 have e8:((7*5:Nat):Int)=35:=rfl;rw[e8];rw[show 2^(7*5)=34359738368 from rfl] at j6 j7;obtain⟨p,hp⟩:=ex (k+5);rw[<-hp] at j5|-;have HP:=jj hp;have pl:=j5.le (tL (qV k' m));have kl:=qV k' m;have i3: ¬(l:Int)<=p:=lK;have i4:(p:Int)<l:=lK;have i5:(0:Int)<=p:=lK;have e1:IntKind.i64.wrap ((p:Int)+1)=(p:Int)+1:=aH _ lK;clear hp;by_cases h:m<128
 ·have E:Hid (qo k' m= [(m:Int)]):=jj (uI _ m h)
  have A2:=j5;rw[E.out] at A2;have b0:=CELL.out p _ A2.head.1;have L:Hid ((k+(mD n).length:Nat)=p+1):=jj (by rw[j8,E.out,HP.out];simp<;>omega);obtain⟨x,hx⟩: ∃x:Int,x=(m:Int):=⟨_,rfl⟩;obtain⟨z,hz⟩: ∃x:Int,x=(n:Int):=⟨_,rfl⟩;obtain⟨vv,hvv⟩: ∃x:Int,x=(v:Int):=⟨_,rfl⟩;have HZ:=jj hz;have x0:bits .and .u8 x 127=x:=by rw[hx,vW m lK,dJ h]
  have x1:bits .or .i64 vv (x*34359738368)=z:=by
   have e:=bor v m 35 j6 lK;rw[show(2:Int)^35=34359738368 by decide,show 2^35=34359738368 from rfl] at e;rw[hvv,hx,e,hz,j7]
  rw[<-hx] at b0;rw[<-hvv];have x2:0<=x:=lK;have x3:x<128:=lK;have x4:x≠0:=lK;have z0:0<=z:=lK;have z1:z<1099511627776:=lK;clear hx h j1 j2 j3 j4 j5 j6 j7 j8 A2 hvv hz hn
  go_wp2_with fail
  simp only[Exit.jump]
  go_ret3
  exact⟨by rw[L.out,<-HZ.out];rfl,by trivial⟩
 have:k'=0:=lK;subst this;exact absurd j4 lK
theorem lW{base e:Nat}{xs:LV}(h:w.ownsRow base e s (.slice a n c) n xs): ∀k∈(a.map (·.block)).toList,base<=k/\ ∃cs,lQ w k e cs:=by
 intro k hk;have hk':a.map (·.block)=some k:=aJ.1 hk;refine⟨(dG h k (by rw[lV];exact hk')).1,?_⟩;rcases h.2 with⟨hv,_⟩|⟨g,cap,cur,hv,_,hh,_⟩
 ·injection hv with hv
  subst hv;cases hk'
 injection hv with hv;subst hv;simp at hk';subst hk';exact⟨cur,hh⟩
structure xY(w w':World):Prop where
 blk: ∀{k t:Nat} {cs:AV},lQ w k t cs->t≠305->t≠5->lQ w' k t cs
 size:w.heap.size<=w'.heap.size
theorem xY.refl(w:World):xY w w:=⟨fun h _ _=>h,aF _⟩
theorem xY.trans{w'':World}(h:xY w w')(k:xY w' w''):xY w w'':=⟨fun hb h1 h2=>k.blk (h.blk hb h1 h2) h1 h2,aG h.size k.size⟩
theorem xY.below(h:Be w w'):xY w w':=⟨fun hb _ _=>hb.below h hb.lt,h.size⟩
structure Wr(w0 w:World)(gw:Nat)(bs:LI):Prop where
 ex: ∃a c,lQ w gw 305 #[.slice a bs.length c,false]/\w.ownsRow w0.heap.size 5 1 (.slice a bs.length c) bs.length (mZ bs)
 below:Be w0 w
 ge:w0.heap.size<=gw
theorem Wr.keep(h:Wr w0 w gw bs)(hb:Be w w'):Wr w0 w' gw bs:=by
 obtain⟨a,c,h1,h2⟩:=h.ex;exact⟨⟨a,c,h1.below hb h1.lt,own_below h2 hb⟩,h.below.trans (hb.mono h.below.size),h.ge⟩
theorem acG(h:Wr w0 w gw bs)(A:OA)(m c:Nat)(ys:LI)(hv:mo w A m 1 (mZ ys))(hm:ys.length=m)(hl:bs.length+m<=4194304):
  Y 272 #[gw,.slice A m c,true] w fun e w'=>e= .returned (.tuple #[])/\Wr w0 w' gw (bs++ys)/\xY w w':=by
 obtain⟨i0,hi0,hz0,hz1,hz2⟩:=bq wU;obtain⟨a,c0,h1,h2⟩:=h.ex;have c1:=h1.at_ 1;have f1:=h1.frozen 1;have hk2:lQ (w.setCell ⟨gw,1,none⟩ false) gw 305 #[.slice a bs.length c0,false]:=h1.mg 1 _;obtain⟨w1,hw1⟩:=ex (w.setCell ⟨gw,1,none⟩ false);have o1:Only [gw] w w1:=by rw[hw1];exact(Only.refl [gw] w).setCell (.inl lT) _
 have abw:w1.ownsRow w0.heap.size 5 1 (.slice a bs.length c0) bs.length (mZ bs):=mK h2 o1 (fun g hg=>by
  have:=mG h2 h1 lN;rw[hg] at this;simpa using fun e=>this (by rw[e]))
 rw[<-hw1] at hk2;have K1:=jj hk2;have O1:=jj abw;have b1:Be w0 w1:=o1.below h.below h.below.size (mR h.ge);have hv1:mo w1 A m 1 (mZ ys):=by
  refine⟨hv.1,fun hn=> ?_⟩;obtain⟨g,off,e,hlt,hc⟩:=hv.2 hn;refine⟨g,off,e,by rw[hw1];simpa using hlt,fun i v hi=> ?_⟩;by_cases hg:g=gw
  ·subst hg
   have:=hc i v hi;rw[h1.cell] at this;rw[hk2.cell];exact this
  rw[hw1];exact nL (hc i v hi) hg
 have V1:=jj hv1;have x0:=hk2.at_ 0;obtain⟨HM,K,OO,BB,GE⟩:=j5 hm h1 o1 b1 h.ge;have sz:=b1.size;have HW:=jj hw1;have B0:=jj h.below;clear h h1 h2 hk2 abw hv hv1 hm o1 b1 hw1;go_enter func272,ntmps272
 go_upto_region 1 with fail
 rw[<-HW.out];clear c1 f1
 go_wp2_with(first|(at_builtin;refine lZ rfl _ _ _ rfl w0.heap.size 5 i0 _ 1 1 underlying140 hi0 hz0 hz1 hz2 rfl lK a bs.length c0 (mZ bs) rfl O1 A m c (mZ ys) rfl V1 (yh ys) (by unfold maxLen;omega) lK sz ?_;intro a5 c5 w5 h5;have nb: ∀k∈(a.map (·.block)).toList,k≠gw:=(fun k hk e=>mG O1 K1 lN (by rw[lV,aJ.1 hk,e]));have K5:=K1.only h5.only (fun hm=>nb gw hm rfl);have HK5:=jj K5;have f0:=K5.frozen 0;have y0:=(K5.cell 0).trans (show _=some (.slice a bs.length c0) from rfl);have HA5:=jj h5;clear K5 h5))
 clear f0 y0 x0 nb
 go_end0
 have e1:(bs++ys).length=bs.length+m:=by rw[av,HM.out]
 have o9:Only [gw] w5 (w5.setCell ⟨gw,0,none⟩ (.slice a5 (bs.length+m) c5)):=(Only.refl _ _).setCell (.inl lT) _;have b5:=HA5.below O1 BB (aF _) sz;have KM:=HA5.own;rw[<-wR] at KM;have S5:=lW O1;refine⟨by trivial,⟨⟨a5,c5,by rw[e1];exact HK5.mg 0 _,?_⟩,o9.below b5 b5.size (mR GE.out),GE⟩,⟨fun{k t cs} hb h1 h2=> ?_,aG OO.size (aG HA5.only.size o9.size)⟩⟩
 ·rw[e1]
  exact mK KM o9 (fun g hg=>by
   have:=mG KM HK5 lN;rw[hg] at this;simpa using fun e=>this (by rw[e]))
 have n1:k≠gw:=hb.nY K h1;have hb1:=hb.only OO (mR n1);refine(hb1.only HA5.only fun hm=> ?_).only o9 (mR n1);obtain⟨_,cs2,hcs⟩:=S5 _ hm;exact hb1.nY hcs h2 rfl
def qp(l:LI):List Int:=l.flatMap fun z=>mD z.toNat
def zG(l:LI):List Int:=l.flatMap vg
theorem rW(l:LI):(qp l).length<=6*l.length:=by
 induction l with
 |nil=>simp[qp]
 |cons z l ih=>
  have:=nK z.toNat;simp only[qp,bQ,av,aY] at*;omega
theorem Na(l:LI):(zG l).length<=6*l.length:=by
 induction l with
 |nil=>simp[zG]
 |cons z l ih=>
  have:=nK (zig z);simp only[zG,bQ,av,aY,vg] at*;omega
theorem Ah(h:Wr w0 w gw bs)(ga n c:Nat)(l:LI)(hA:lQ w ga 3 (ints l))(hn:l.length=n)(hok: ∀z∈l,qh z)(hl:bs.length+6*n<=4194304):
  Y 241 #[gw,O ga n c] w fun e w'=>e= .returned (.tuple #[])/\Wr w0 w' gw (bs++qp l)/\xY w w':=by
 obtain⟨H,HA,HN,HO⟩:=j4 h hA hn hok;clear h hA hn hok;go_enter func241,ntmps241
 go_wp2_with fail
 go_loopw [8] (fun i wr=> ∃k:Nat,k<=n/\i= U k/\Wr w0 wr gw (bs++qp (l.take k))/\xY w wr) (fun i _=>n -(intOf i).toNat)
 case atStart=>exact⟨0,lK,rfl,by simpa[qp] using H.out,xY.refl _⟩
 case round=>
  obtain⟨k,hk,rfl,hw,hk2⟩:=hrel;obtain⟨wo,rfl⟩:=ex wr;have HW:=jj hw;have KK:=jj hk2;clear hw hk2;by_cases hlt:k<n
  ·have hkl:k<l.length:=by rw[HN.out];exact hlt
   have i0:(0:Int)<=k:=lK;have i1:(k:Int)<n:=lK;obtain⟨z,hz⟩:=ex l[k];have ha:J wo ga k (U z):=by
    rw[(KK.blk HA lN lN).cell];simp[ints,hkl,hz]
   have ZO:=jj (HO.out z (by rw[hz];exact bY hkl));have T:Hid (qp (l.take (k+1))=qp (l.take k)++mD z.toNat):=jj (by
    rw[bA hkl,<-hz];simp[qp])
   have bl:(bs++qp (l.take k)).length+6<=4194304:=by
    have:=rW (l.take k);rw[av];rw[cO] at this;omega
   have e0:IntKind.i64.wrap ((k:Int)+1)=(k:Int)+1:=aH _ lK;clear hz hkl
   go_wp2_with fail
   refine(uX z ZO _).mono ?_;rintro e w2 ⟨a2,c2,rfl,ho,hb⟩;have W2:=jj (HW.keep hb);have V2:=jj (l9 ho);have K2:=jj (KK.trans (xY.below hb));clear ho hb ha
   go_wp2_with fail
   refine(acG W2 a2 _ c2 _ V2 rfl (tL (nK z.toNat))).mono ?_;rintro e w3 ⟨rfl,hw3,hk3⟩;rw[bW,<-T.out] at hw3;have W3:=jj hw3;have K3:=jj (K2.trans hk3);clear hw3 hk3
   go_wp2_with fail
   go_roundw
   case rel=>exact⟨k+1,lK,by go_num,W3,K3⟩
   simp[intOf];omega
  have hkn:k=n:=lK;subst hkn;have E:Hid (l.take k=l):=jj (by rw[<-HN.out];exact dP)
  go_wp2_with fail
  go_end0
  rw[E.out] at HW;exact⟨by trivial,HW,KK⟩
theorem ahL(h:Wr w0 w gw bs)(ga n c:Nat)(l:LI)(hA:lQ w ga 3 (ints l))(hn:l.length=n)(hok: ∀z∈l,wP z)(hl:bs.length+6*n<=4194304):
  Y 242 #[gw,O ga n c] w fun e w'=>e= .returned (.tuple #[])/\Wr w0 w' gw (bs++zG l)/\xY w w':=by
 obtain⟨H,HA,HN,HO⟩:=j4 h hA hn hok;clear h hA hn hok;go_enter func242,ntmps242
 go_wp2_with fail
 go_loopw [8] (fun i wr=> ∃k:Nat,k<=n/\i= U k/\Wr w0 wr gw (bs++zG (l.take k))/\xY w wr) (fun i _=>n -(intOf i).toNat)
 case atStart=>exact⟨0,lK,rfl,by simpa[zG] using H.out,xY.refl _⟩
 case round=>
  obtain⟨k,hk,rfl,hw,hk2⟩:=hrel;obtain⟨wo,rfl⟩:=ex wr;have HW:=jj hw;have KK:=jj hk2;clear hw hk2;by_cases hlt:k<n
  ·have hkl:k<l.length:=by rw[HN.out];exact hlt
   have i0:(0:Int)<=k:=lK;have i1:(k:Int)<n:=lK;obtain⟨z,hz⟩:=ex l[k];have ha:J wo ga k (U z):=by
    rw[(KK.blk HA lN lN).cell];simp[ints,hkl,hz]
   have ZO:=jj (HO.out z (by rw[hz];exact bY hkl));have T:Hid (zG (l.take (k+1))=zG (l.take k)++vg z):=jj (by
    rw[bA hkl,<-hz];simp[zG])
   have bl:(bs++zG (l.take k)).length+6<=4194304:=by
    have:=Na (l.take k);rw[av];rw[cO] at this;omega
   have e0:IntKind.i64.wrap ((k:Int)+1)=(k:Int)+1:=aH _ lK;clear hz hkl
   go_wp2_with fail
   refine(Rs z ZO _).mono ?_;rintro e w2 ⟨a2,c2,rfl,ho,hb⟩;have W2:=jj (HW.keep hb);have V2:=jj (l9 ho);have K2:=jj (KK.trans (xY.below hb));clear ho hb ha
   go_wp2_with fail
   refine(acG W2 a2 _ c2 _ V2 rfl (by have:=nK (zig z);unfold vg;omega)).mono ?_;rintro e w3 ⟨rfl,hw3,hk3⟩;rw[bW,<-T.out] at hw3;have W3:=jj hw3;have K3:=jj (K2.trans hk3);clear hw3 hk3
   go_wp2_with fail
   go_roundw
   case rel=>exact⟨k+1,lK,by go_num,W3,K3⟩
   simp[intOf];omega
  have hkn:k=n:=lK;subst hkn;have E:Hid (l.take k=l):=jj (by rw[<-HN.out];exact dP)
  go_wp2_with fail
  go_end0
  rw[E.out] at HW;exact⟨by trivial,HW,KK⟩
end Go.Proofs.YtgnhecmnlddjhaaGreat
