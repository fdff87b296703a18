/- TopSplit, part 2 of 12: a proof squeezed by a program. -/
import Derived.Test.YtgnhecmnlddjhaaGreatZ00
import Derived.OneCell
import Derived.ProofKit
import Derived.Carry
import Derived.SizedLaws
import Derived.Deep.Slices
import Derived.Deep.Fields
import Derived.ChangeSame
import Derived.Test.YtgnhecmnlddjhaaGreatProg
import Derived.StillTailTactics
import Derived.Deep.QuietTactic
import Derived.Laws.MakeOwn
import Derived.Laws.StructEq
import Derived.StillTactics
import Derived.Deep.DeepCutAuto
import Derived.Deep.CutBlock
import Derived.Deep.RegionLawGrows
import Derived.Laws.IdiomCopy
import Derived.Deep.CutRange
import Derived.Laws.Build
set_option linter.all false
set_option maxRecDepth 100000
set_option maxHeartbeats 6400000
namespace Go.Proofs.YtgnhecmnlddjhaaGreat
open Go.RowKit Go.Proofs.Tryz
variable{A a:OA}{B C b0 c cp2 g g' g2 gc gl gn j k n n' q s:Nat}{E:Prop}{K:Act->World->Prop}{P:Program}{Q:Exit->Act->World->Prop}{S:LN}{bs ps ys:LI}{ms':List (Value×List Int)}{o:Oper}{ops:Array Oper}{p:Addr}{r:Reach}{st:List (Int×Int)}{v:Value}{w w' w2 wa:World}{x:Int}{xs:LV}
section
variable{α β:Type}
theorem qj(f:α->List β)(s:Nat)(hs: ∀x,(f x).length=s): ∀st:List α,(st.flatMap f).length=st.length*s
 | []=>by simp
 |y::ys=>by simp[qj f s hs ys,hs,iH,Nat.add_comm]
theorem flat_get(f:α->List β)(s:Nat)(hs: ∀x,(f x).length=s): ∀(st:List α) (k j:Nat),j<s->(st.flatMap f)[k*s+j]?=st[k]?.bind fun x=>(f x)[j]?
 | [],k,j,hj=>by simp
 |y::ys,0,j,hj=>by rw[bQ,bC (by rw[hs];omega)];simp
 |y::ys,k+1,j,hj=>by
  have e:(k+1)*s+j=s+(k*s+j):=by rw[iH];omega
  rw[bQ,bN (by rw[hs,e];omega),hs,e,fG,flat_get f s hs ys k j hj];simp
def setMany:List β->Nat->List β->List β
 |L,_,[]=>L
 |L,i,v::vs=>setMany (L.set i v) (i+1) vs
theorem xV(A:List β): ∀(B R:List β) (i:Nat),setMany (A++R) (A.length+i) B=A++setMany R i B
 | [],R,i=>rfl
 |v::vs,R,i=>by unfold setMany;rw[iD _ _ aR,fG,dL,xV A vs _ (i+1)]
theorem zh: ∀(B A R:List β),A.length=B.length->setMany (A++R) 0 B=B++R
 | [],[],R,h=>rfl
 |v::vs,a::az,R,h=>by
  have e:=xV [v] vs (az++R) 0;unfold setMany;show setMany (v::(az++R)) (0+1) vs=_;have e':setMany (v::(az++R)) (0+1) vs=v::setMany (az++R) 0 vs:=by simpa using e
  rw[e',zh vs az R (mR h)];rfl
theorem zV(f:α->List β)(s:Nat)(hs: ∀x,(f x).length=s)(x:α): ∀(st:List α) (k:Nat),k<st.length->setMany (st.flatMap f) (k*s) (f x)=(st.set k x).flatMap f
 |y::ys,0,_=>by rw[bQ,fI,zh _ _ _ (by rw[hs,hs])];rfl
 |y::ys,k+1,h=>by
  have e:(k+1)*s=(f y).length+k*s:=by rw[hs,iH];omega
  rw[bQ,e,xV,zV f s hs x ys k (mR h)];rfl
theorem LY(f:α->List β)(H: ∀x,(f x).length=2)(x:α)(a b:β)(hx:f x= [a,b])(st:List α)(k:Nat)(h:k<st.length):
  ((st.flatMap f).set (k*2) a).set (k*2+1) b=(st.set k x).flatMap f:=by rw[<-zV f 2 H x st k h,hx];rfl
theorem XE(f:α->List β)(H: ∀x,(f x).length=3)(x:α)(a b c:β)(hx:f x= [a,b,c])(st:List α)(k:Nat)(h:k<st.length):
  (((st.flatMap f).set (k*3) a).set (k*3+1) b).set (k*3+1+1) c=(st.set k x).flatMap f:=by rw[<-zV f 3 H x st k h,hx];rfl
theorem nT(f:α->List β)(s:Nat)(a: ∀x,(f x).length=s)(st:List α)(k j:Nat)(h:j<s)(H:k<st.length)(v:β)(b:(f st[k])[j]?=some v):(st.flatMap f)[k*s+j]?=some v:=by rw[flat_get f s a st k j h,aj H];exact b
end
def Row(w:World)(g:Nat)(e:TypeId)(s n cap:Nat)(xs:LV):Prop:=w.ownsRow 0 e s (O g n cap) n xs
section
variable{w w':World}{g:Nat}{e:TypeId}{s n cap:Nat}{xs:LV}{S:LN}
theorem DI{base base':Nat}(h:w.ownsRow base e s v n xs)(H: ∀g,v.ownBlock=some g->base'<=g):w.ownsRow base' e s v n xs:=by
 refine⟨h.1,?_⟩;rcases h.2 with a|⟨g,c,C,rfl,_,rest⟩
 ·exact .inl a
 exact .inr ⟨g,c,C,rfl,H g rfl,rest⟩
theorem Row.sG{base:Nat}(h:w.ownsRow base e s (O g n cap) n xs):Row w g e s n cap xs:=DI h fun _ _=>bF _
theorem Row.len(h:Row w g e s n cap xs):xs.length=n*s:=h.1
theorem Row.lt(h:Row w g e s n cap xs):g<w.heap.size:=(dG h g rfl).2
theorem Row.parts(h:Row w g e s n cap xs): ∃c,aZ w g e c/\n<=cap/\cap<=maxLen/\c.size=cap*s/\c.toList.take (n*s)=xs:=by
 rcases h.2 with⟨H,_⟩|⟨G,C,c,H,_,i,a,b,d,f⟩
 ·simp at H
 simp only[Value.slice.injEq,aD,Addr.mk.injEq,and_true,true_and] at H;obtain⟨rfl,rfl⟩:=H;exact⟨c,i,a,b,d,f⟩
theorem Row.EI(h:Row w g e s n cap xs):n<=cap:=by obtain⟨_,_,H,_⟩:=h.parts;exact H
theorem Row.Vr(h:Row w g e s n cap xs):cap<=maxLen:=by obtain⟨_,_,_,H,_⟩:=h.parts;exact H
theorem Row.cell(h:Row w g e s n cap xs)(H:xs[j]?=some v):J w g j v:=by
 have a:j<n*s:=by rw[<-h.1];exact(ah.1 H).1
 rw[World.ownsRow.cellAt h j a,H]
theorem Row.frozen(h:Row w g e s n cap xs)(j:Nat):w.frozen? (adZ g j)=false:=World.ownsRow.frozenAt h j
theorem Row.drew(h:Row w g e s n cap xs):Row w.drew g e s n cap xs:=h
theorem Row.only(h:Row w g e s n cap xs)(b:Only S w w')(a:g∉S):Row w' g e s n cap xs:=mK h b fun k H=>by simp[Value.ownBlock] at H;subst H;exact a
theorem Row.below(h:Row w g e s n cap xs)(H:Be w w'):Row w' g e s n cap xs:=h.only (Only.of_below (S:= []) H) (aI)
theorem Row.alloc(h:Row w g e s n cap xs)(o:Obj):Row (w.alloc o) g e s n cap xs:=dM h o
theorem Row.fU(h:Row w g e s n cap xs)(j:Nat)(u:Value):Row (w.setCell (adZ g j) u) g e s n cap (xs.set j u):=(World.ownsRow.stored h j u).1
theorem Row.far(h:Row w g e s n cap xs)(H:g≠p.block)(u:Value):Row (w.setCell p u) g e s n cap xs:=ownsRow_setCell_other h (fun e=>H (dh e)) u
theorem Row.nR{cs:AV}(h:aZ w g e cs)(H:cs.size=n*s)(a:n<=maxLen):Row w g e s n n cs.toList:=
 ⟨by simpa using H,.inr ⟨g,n,cs,rfl,bF _,h,aF _,a,H,dB (by rw[<-H];exact lC Array.length_toList)⟩⟩
theorem Row.ne(h:Row w g e s n cap xs){t:TypeId}{cs:AV}(a:aZ w g' t cs)(H:e≠t):g≠g':=by obtain⟨c,b,_⟩:=h.parts;exact b.nY a H
theorem Row.news(h:Row w g e s n cap xs): ∀j u,xs[j]?=some u->w.cell? (((adZ g 0):Addr).add j)=some u:=by
 intro j u a;have e:(((adZ g 0):Addr).add j)=adZ g j:=by
  unfold Addr.add;by_cases H:j=0
  ·subst H;simp
  simp[H]
 rw[e];exact h.cell a
end
section
open Go.ChangeShapes Go.WideShapes Go.ChangeAt Go.RowKit
section
variable{H:Type}{enc:TypeId×Value->H}{P:Program}
theorem Cc(hl:laidOutB P=true){W W':World}(hb:Be W W'): ∀{ts:List TypeId} {vs:LV} {ds:List (DataW H)} {ps:List MemPlace},
  ts.all (fun t=>P.readableRec t&&decide (t<P.types.size))=true->DataW.TrodAll enc P W 0 (fun _=>true) true ts vs ds ps->(∀x∈ps,x.block<W.heap.size)->
  DataW.TrodAll enc P W' 0 (fun b=>decide (b<W.heap.size)) true ts vs ds ps
 | [],vs,ds,ps,_,h,_=>by obtain⟨rfl,rfl,rfl⟩:=trodAll_nil h;exact trodAll_mk0
 |t::ts,vs,ds,ps,ht,h,hlt=>by
  obtain⟨v,vs',d,ds',p,q,rfl,rfl,rfl,h1,h2⟩:=trodAll_cons h;simp only[List.all_cons,bX,decide_eq_true_eq] at ht;exact trodAll_cons_mk (Below.trod hl ht.1.1 ht.1.2 h1 hb (fun x hx=>hlt x (bL _ hx)))
   (Cc hl hb (mR ht.2) h2 (fun x hx=>hlt x (bH _ hx)))
def Vd(C:Checked)(F:FuncId)(fn:Func):Prop:=
 ∀(H:Type) (enc:TypeId×Value->H) (W:World) (base:Nat) (args:AV) (ds:List (DataW H)) (p:List MemPlace),
  (∀(j:Nat) t v,fn.params[j]?=some t->args[j]?=some v->Value.okWide C.prog W .any base t v)->
  DataW.TrodAll enc C.prog W 0 (fun _=>true) true fn.params.toList args.toList ds p->
  (DataW.weightsEach C.prog fn.params.toList ds).all (· <=reachBytes)=true->
  Calls C.prog F args W fun e w=>e=acK true/\Be W w
theorem aa1 {C:Checked} {os:Os} {F:FuncId} {fn:Func} {s:ChangeSpec} {tb:TypeId}
  (own:ownKnob C.prog.godebug=none) (started:os.Started) (n:C.prog.inits.idxOf? F=none) (m:C.prog.funcs[F]?=some fn)
  (witness: ∃(w:World) (tape:Tape) (i:Input),w.os=os/\(w.forCall tape i).Shaped C.prog/\i.vars= []/\Input.okWide C.prog (w.forCall tape i) .any w.heap.size F i/\
   s.pre6 enc C.prog fn [] false (w.forCall tape i).memory i.args/\({}:Assume).holds C.prog (lone (Frame.enter C.prog F i.args .normal) [] (w.forCall tape i)))
  (r:s.vars= []) (M: ∀(H:Type) (ds:List (DataW H)),ds.length=fn.params.size->s.fn H ds={results:= [.lit (.bool true)],args:=ds})
  (I:laidOutB C.prog=true) (K:fn.params.toList.all (fun t=>C.prog.readableRec t&&decide (t<C.prog.types.size))=true)
  (L:fn.resultTypes=#[tb]) (B:C.prog.underlying tb=some .bool)
  (walk:Vd C F fn):
  ReturnsInHanded {} C os F .any (s.pre6 enc C.prog fn [] false) (s.post enc C.prog fn false true false false):=by
 refine returnsInHanded_of_change_sized own started n m witness ?_;intro W base args ds Q before j z _ f _;have c:=z;obtain⟨p,q,k,y,rfl,G,J⟩:=z;rw[r] at y;obtain⟨rfl,rfl⟩:=trodVars_none y;have hlen: ∀{T:List TypeId} {V:LV} {ds:List (DataW H)} {P:List MemPlace},DataW.TrodAll enc C.prog W 0 (fun _=>true) true T V ds P->ds.length=T.length:=by
  intro T
  induction T with
  |nil=>intro V ds P h;obtain⟨_,rfl,_⟩:=trodAll_nil h;rfl
  |cons t T ih=>
   intro V ds P h;obtain⟨v,N,d,D,p,q,rfl,rfl,rfl,R,A⟩:=trodAll_cons h;simp[ih A]
 have l:ds.length=fn.params.size:=by simpa using hlen k
 have o: ∀x∈p,x.block<W.heap.size:=fun x hx=>c.lt x (mR hx);have g:(DataW.weightsEach C.prog fn.params.toList ds).all (· <=reachBytes)=true:=by
  have u:s.plain.varTypes C.prog= []:=by simp[ChangeSpec.plain,DataSpec.varTypes,r]
  rw[u] at f;simpa using f
 refine(walk H enc W base args ds p j k g).mono fun e O ⟨E,b⟩=> ?_;subst E;have a:s.fn H (ds++ [])={results:= [.lit (.bool true)],args:=ds}:=by rw[eG];exact M H ds l
 refine⟨_,rfl,_,_,_,[],p,[],c,?_,?_,?_,b.frame _,fun h=>by cases h⟩
 ·rw[a,L]
  exact trodAll_mk1 (shut_bool B _)
 ·rw[a]
  exact Cc I b K k o
 rw[a,r];exact rfl
end
end
section
open Go.ChangeShapes Go.WideShapes Go.ChangeAt Go.RowKit Go.Deep
section
variable{H:Type}{enc:TypeId×Value->H}{P:Program}{w:World}{base:Nat}{spare:Nat->Bool}{held:Bool}
def qX(n:Int):Prop:= -9223372036854775808<=n/\n<=9223372036854775807
theorem qX.afK{n:Int}(h:(Lit.int .i64 n).wf=true):qX n:=by simp[Lit.wf,IntKind.min,IntKind.max,IntKind.signed,IntKind.bits] at h;exact⟨aR,aR⟩
theorem qX.zero:qX 0:=by unfold qX;omega
theorem addr_add(b o:Nat)(k:Nat):((adZ b o):Addr).add k=adZ b (o+k):=by
 unfold Addr.add;by_cases h:k=0
 ·subst h;simp
 simp[h]
theorem lt_of_cell(h:w.cell? p=some v):p.block<w.heap.size:=by
 rcases iZ p.block w.heap.size with a|H
 ·exact a
 have:w.heap[p.block]?=none:=gK H;simp[World.cell?,this] at h
theorem acS {t e:TypeId}    {d:DataW H} {p:List MemPlace} (q:P.underlying t=some (.slice e)) (u:P.underlying e=some (.int .i64)) (s:P.cellsOf e=1)
  (D:Value.okWide P w r b0 t v) (h:DataW.Trod enc P w base (fun _=>true) held t v d p):
  ∃a n c xs,v= .slice a n c/\n<=c/\c<=maxLen/\acA w a n xs/\ ∀x∈xs,qX x:=by
 obtain⟨G,n,c,rfl⟩:=okWide_slice q D;obtain⟨fuel,y⟩:=h;rcases open_ints q u s y with⟨g,_⟩|⟨a,len,C,z,g,_,A,B,E,_,f,l⟩
 ·simp[Value.cells] at g
  obtain⟨rfl,rfl,rfl⟩:=g;exact⟨none,0,0,[],rfl,aR,by simp[maxLen],⟨rfl,fun h=>absurd h aR⟩,bJ⟩
 simp[Value.cells] at g;obtain⟨rfl,rfl,rfl⟩:=g;have F:z.length=c:=by simpa using E
 refine⟨some a,n,c,z.take n,rfl,A,B,⟨by simp;omega,fun I=> ?_⟩,fun x hx=>qX.afK (l x (jv hx))⟩;have m:=f 0 aR;obtain⟨b,o,spot⟩:=a;have j:spot=none:=by simpa[Addr.add] using World.cell?_spot m
 subst j;refine⟨b,o,rfl,by simpa[Addr.add] using lt_of_cell m,fun i k=> ?_⟩;have:=f i aR;rw[addr_add] at this;rw[this];simp[List.getD,k]
end
end
def vJ(r:Int×Int):List Value:= [U r.1,U r.2]
theorem yE(r:Int×Int):(vJ r).length=2:=rfl
structure Cache(w:World)(gc gl:Nat)(st:List (Int×Int)):Prop where
 ex: ∃cap,aZ w gc 200 #[O gl st.length cap]/\Row w gl 202 2 st.length cap (st.flatMap vJ)
theorem Cache.clt(h:Cache w gc gl st):gc<w.heap.size:=by obtain⟨c,H,a⟩:=h.ex;exact H.lt
theorem Cache.llt(h:Cache w gc gl st):gl<w.heap.size:=by obtain⟨c,a,H⟩:=h.ex;exact H.lt
theorem Cache.only(h:Cache w gc gl st)(H:Only S w w')(a:gc∉S)(b:gl∉S):Cache w' gc gl st:=by obtain⟨c,k1,k⟩:=h.ex;exact⟨c,k1.only H a,k.only H b⟩
theorem Cache.below(h:Cache w gc gl st)(H:Be w w'):Cache w' gc gl st:=h.only (Only.of_below (S:= []) H) aI aI
theorem Cache.drew(h:Cache w gc gl st):Cache w.drew gc gl st:=⟨h.ex⟩
theorem Cache.ne(h:Cache w gc gl st):gc≠gl:=by obtain⟨c,H,a⟩:=h.ex;exact(a.ne H aV).symm
theorem Cache.EC(h:Cache w gc gl st)(k:Nat)(a:k<st.length):J w gl (k*2) (.int .i64 st[k].1):=by obtain⟨c,b,H⟩:=h.ex;exact H.cell (nT vJ 2 yE st k 0 aR a _ rfl)
theorem Cache.ZM(h:Cache w gc gl st)(k:Nat)(a:k<st.length):J w gl (k*2+1) (.int .i64 st[k].2):=by obtain⟨c,b,H⟩:=h.ex;exact H.cell (nT vJ 2 yE st k 1 aR a _ rfl)
theorem Cache.fr(h:Cache w gc gl st)(k:Nat):w.frozen? (adZ gl k)=false:=by obtain⟨c,a,H⟩:=h.ex;exact H.frozen k
theorem Cache.head(h:Cache w gc gl st): ∃cap,st.length<=cap/\cap<=maxLen/\J w gc 0 (O gl st.length cap):=by obtain⟨cap,a,H⟩:=h.ex;exact⟨cap,H.EI,H.Vr,a.cell 0⟩
theorem Qt(gc g:Nat)(st:List (Int×Int))(k:Int)(w:World)(h:Cache w gc g st)(i:st.length<=4)(d:qX k)(b:Bool)(H:decide (0<=k/\k<st.length)=b):
  Y 280 #[gc,U k] w fun e w'=>e=acK b/\w=w':=by
 obtain⟨C,_,_,f⟩:=h.head;clear h;unfold qX at d;by_cases a:0<=k
 ·by_cases c:k<st.length
  ·obtain rfl:b=true:=by rw[<-H];exact decide_eq_true ⟨a,c⟩
   clear H;go_enter func280,ntmps280
   go_wp2
   go_ret;exact⟨rfl,rfl⟩
  obtain rfl:b=false:=by rw[<-H];exact decide_eq_false fun h=>c h.2
  clear H;go_enter func280,ntmps280
  go_wp2
  go_ret;exact⟨rfl,rfl⟩
 obtain rfl:b=false:=by rw[<-H];exact decide_eq_false fun h=>a h.1
 clear H;go_enter func280,ntmps280
 go_wp2
 go_ret;exact⟨rfl,rfl⟩
def hasB(st:List (Int×Int))(k:Int):Bool:=decide (0<=k/\k<st.length)
def adU(st:List (Int×Int))(k t:Int):Bool:=hasB st k&&decide ((st.getD k.toNat (0,0)).1<t)
def Aw(st:List (Int×Int))(k t r:Int):List (Int×Int):=if adU st k t then st.set k.toNat (t,r) else st
def lastOf(st:List (Int×Int))(k:Int):Int:=if hasB st k then(st.getD k.toNat (0,0)).1 else 0
theorem Cache.set(h:Cache w gc gl st)(b:n<st.length)(t r:Int):
  Cache ((w.setCell (adZ gl (n*2)) (U t)).setCell (adZ gl (n*2+1)) (U r)) gc gl (st.set n (t,r)):=by
 obtain⟨c,H,a⟩:=h.ex;refine⟨c,?_,?_⟩
 ·rw[bG]
  exact(H.far (p:=adZ gl (n*2)) h.ne _).far (p:=adZ gl (n*2+1)) h.ne _
 have e:=(a.fU (n*2) (U t)).fU (n*2+1) (U r);rw[LY vJ yE (t,r) (U t) (U r) rfl st n b] at e;rw[bG];exact e
theorem ak8(gc G:Nat)(st:List (Int×Int))(k t r:Int)(w:World)(h:Cache w gc G st)(o:st.length<=4)(m:qX k)(b:Bool)(d:adU st k t=b)(st':List (Int×Int))(i:Aw st k t r=st'):
  Y 292 #[gc,U k,U t,U r] w fun e w'=>e=acK b/\Cache w' gc G st'/\Only [G] w w':=by
 have H:=jj h;obtain⟨p,_,_,v⟩:=h.head;by_cases g:0<=k/\k<st.length
 ·obtain⟨n,rfl⟩:=bB g.1
  have f:n<st.length:=aR;have l:st.getD n (0,0)=st[n]:=by simp[List.getD,f]
  have C:=h.EC n f;have s:=h.ZM n f;have F:=h.fr (n*2);have u:=h.fr (n*2+1);have c:hasB st n=true:=decide_eq_true g;clear h;obtain⟨L,a⟩:=ex st[n].1;rw[<-a] at C;have I:(0:Int)<=n:=g.1;have x:(n:Int)<st.length:=g.2;have j:=jj c;by_cases q:t<=L
  ·obtain rfl:b=false:=by rw[<-d];simp only[adU,c,iw,bI,l,<-a];exact decide_eq_false aR
   obtain rfl:st'=st:=by rw[<-i];unfold Aw;rw[d];rfl
   clear d i l a c g;go_enter func292,ntmps292
   go_wp2_with(go_at_call 280;refine(Qt gc G st' _ _ H o m true j).mono ?_;rintro e w' ⟨rfl,rfl⟩)
   go_ret;exact⟨rfl,H,Only.refl _ _⟩
  obtain rfl:b=true:=by rw[<-d];simp only[adU,c,iw,bI,l,<-a];exact decide_eq_true aR
  obtain rfl:st'=st.set n (t,r):=by rw[<-i];unfold Aw;rw[d];rfl
  clear d i l a c g;go_enter func292,ntmps292
  go_wp2_with(go_at_call 280;refine(Qt gc G st _ _ H o m true j).mono ?_;rintro e w' ⟨rfl,rfl⟩)
  go_ret;exact⟨rfl,H.set f t r,((Only.refl _ _).setCell (.inl bJ) _).setCell (.inl bJ) _⟩
 have c:hasB st k=false:=decide_eq_false g;obtain rfl:b=false:=by rw[<-d];simp only[adU,c,kN]
 obtain rfl:st'=st:=by rw[<-i];unfold Aw;rw[d];rfl
 have j:=jj c;clear d i g c h;go_enter func292,ntmps292
 go_wp2_with(go_at_call 280;refine(Qt gc G st' _ _ H o m false j).mono ?_;rintro e w' ⟨rfl,rfl⟩)
 go_ret;exact⟨rfl,H,Only.refl _ _⟩
theorem Uk(gc G:Nat)(st:List (Int×Int))(k:Int)(w:World)(h:Cache w gc G st)(j:st.length<=4)(i:qX k)(t:Int)(f:lastOf st k=t):
  Y 253 #[gc,U k] w fun e w'=>e=acK (U t)/\w=w':=by
 have H:=jj h;obtain⟨l,_,_,m⟩:=h.head;by_cases b:0<=k/\k<st.length
 ·obtain⟨n,rfl⟩:=bB b.1
  have d:n<st.length:=aR;have a:hasB st n=true:=decide_eq_true b;have C:=h.EC n d;obtain rfl:t=st[n].1:=by rw[<-f];simp[lastOf,a,List.getD,d]
  obtain⟨L,c⟩:=ex st[n].1;rw[<-c] at C|-;have I:(0:Int)<=n:=b.1;have o:(n:Int)<st.length:=b.2;have g:=jj a;clear f c a b h;go_enter func253,ntmps253
  go_wp2_with(go_at_call 280;refine(Qt gc G st _ _ H j i true g).mono ?_;rintro e w' ⟨rfl,rfl⟩)
  go_ret;exact⟨rfl,rfl⟩
 have a:hasB st k=false:=decide_eq_false b;obtain rfl:t=0:=by rw[<-f];simp[lastOf,a]
 have g:=jj a;clear f b a h;go_enter func253,ntmps253
 go_wp2_with(go_at_call 280;refine(Qt gc G st _ _ H j i false g).mono ?_;rintro e w' ⟨rfl,rfl⟩)
 go_ret;exact⟨rfl,rfl⟩
theorem IZ:(prog.info? 202).map (fun i=>(i.zero,i.size,i.bytes))=some (some (acY #[U 0,U 0]),2,16):=by kernel_rfl
theorem Gv(n:Nat):madeCells #[U 0,U 0] (n*2)=((List.replicate n ((0,0):Int×Int)).flatMap vJ).toArray:=by
 apply gP;intro i;simp only[cZ];have b:i=i/2*2+i%2:=aR;rw[show((List.replicate n ((0,0):Int×Int)).flatMap vJ)[i]?=((List.replicate n ((0,0):Int×Int)).flatMap vJ)[i/2*2+i%2]? by rw[<-b],flat_get vJ 2 yE _ _ _ (ji _ aR)];by_cases H:i<n*2
 ·have h:i/2<n:=aR
  rcases Nat.mod_two_eq_zero_or_one i with a|a
  ·simp[madeCells,H,h,a,vJ]
  simp[madeCells,H,h,a,vJ]
 have h: ¬i/2<n:=aR;simp[madeCells,H,h]
theorem ahv(n:Nat)(d:1<=n)(f:n<=4)(w:World):
  Y 111 #[U n] w fun e w'=> ∃gc g,e=acK (ac2 #[(gc:Nat),U 0])/\Cache w' gc g (List.replicate n (0,0))/\w.heap.size<=gc/\w.heap.size<=g/\Be w w':=by
 obtain⟨i,h,a,b,c⟩:=info_parts IZ;have H:=fun W=>run_make (P:=prog) W 198 202 i _ underlying198 h a .i64 .i64 n n aR aR (by rw[c];omega) aR;rw[b] at H;simp only[bI,Value.cells,Gv] at H;clear h a b c;go_enter func111,ntmps111
 go_wp2
 go_ret2
 refine⟨w.heap.size+1,w.heap.size,rfl,⟨n,?_,?_⟩,?_,?_,nC.alloc bJ _⟩
 ·simp only[fC]
  exact aZ.new' _ _ _ bJ
 ·simp only[fC]
  have e:=Row.nR (n:=n) (s:=2) ((aZ.new w 202 ((List.replicate n ((0,0):Int×Int)).flatMap vJ).toArray).alloc (.cells #[O w.heap.size n n] 200)) (by simp[qj vJ 2 yE]) (by unfold maxLen;omega);exact e
 ·simp
 simp
theorem MR(st:List (Int×Int))(k t r:Int):(Aw st k t r).length=st.length:=by unfold Aw;split<;>simp
theorem Yn(st:List (Int×Int)): ∀u∈st.flatMap vJ,u.oneCell'=true:=by intro u h;simp only[bg,vJ,ay,aI,or_false] at h;obtain⟨p,_,rfl|rfl⟩:=h<;>rfl
theorem ah4(gc o:Nat)(st:List (Int×Int))(w:World)(h:Cache w gc o st)(v:1<=st.length)(t:st.length<=4):
  Y 99 #[gc] w fun e w'=> ∃G n,e=acK (G:Nat)/\Cache w' G n st/\w.heap.size<=G/\w.heap.size<=n/\Be w w':=by
 obtain⟨I,i,j,l,m⟩:=info_parts IZ;obtain⟨d,k1,K⟩:=h.ex;have y:=k1.at_ 0;have hlen:=jj K.len;have c:=jj K.news;have x:st.length<=4:=t;clear k1 K h;go_enter func99,ntmps99
 go_wp2_with(at_builtin;refine wpList_append_lies _ rfl (.const ()) (.tmp 6) _ rfl 0 202 I _ 2 16 underlying198 i j l m rfl aR () 0 [] rfl ⟨bJ,.inl ⟨rfl,rfl⟩⟩ (adZ o 0) st.length d (st.flatMap vJ) rfl hlen c (Yn st) aR (by unfold maxLen;omega) aR (bF _) w.heap.size rfl ?_;intro g C w1 H a b p)
 have r:g=w.heap.size:=by
  rcases b with h|h
  ·cases h
  exact h
 subst r;simp only[aO,bU] at H;have u:Only [] w w1:=(Only.refl [] w).grown a (fun k s=>by cases s);have f:Be w w1:=u.mY;have q:=jj H;clear H a b
 go_wp2
 go_ret;refine⟨w1.heap.size,w.heap.size,rfl,⟨C,aZ.new _ _ _,(Row.sG q).alloc _⟩,f.size,aF _,f.alloc f.size _⟩
abbrev Rq:=Int×Int×Int×Int×Int×Int
instance ahI:DecidableEq Rq:=fun a b=>inferInstance
instance aeF:DecidableEq (List Rq):= @instDecidableEqList Rq ahI
instance ajJ:DecidableEq (List (List Rq)):= @instDecidableEqList (List Rq) aeF
def rA(r:Rq):List Value:= [U r.1,U r.2.1,U r.2.2.1,U r.2.2.2.1,U r.2.2.2.2.1,U r.2.2.2.2.2]
theorem OJ(r:Rq):(rA r).length=6:=rfl
theorem Bt(r:List Rq): ∀v∈r.flatMap rA,v.oneCell'=true:=by intro v H;obtain⟨p,_,h⟩:=bg.1 H;simp only[rA,ay,aI,or_false] at h;rcases h with rfl|rfl|rfl|rfl|rfl|rfl<;>rfl
def RqI(r:Rq):Prop:=qX r.1/\qX r.2.1/\qX r.2.2.1/\qX r.2.2.2.1/\qX r.2.2.2.2.1/\qX r.2.2.2.2.2
abbrev Vo:=Int×Int
def Cg(v:Vo):List Value:= [U v.1,U v.2]
theorem aeV(v:Vo):(Cg v).length=2:=rfl
theorem aeW(r:List Vo): ∀v∈r.flatMap Cg,v.oneCell'=true:=by intro v H;obtain⟨p,_,h⟩:=bg.1 H;simp only[Cg,ay,aI,or_false] at h;rcases h with rfl|rfl<;>rfl
structure qc(w:World)(a:OA)(n c:Nat)(bs:List Rq):Prop where
 row:gD w a n 6 (bs.flatMap rA)
 len:bs.length=n
 cap:n<=c
 max:c<=maxLen
structure uz(w:World)(a:OA)(n c:Nat)(vs:List Vo):Prop where
 row:gD w a n 2 (vs.flatMap Cg)
 len:vs.length=n
 cap:n<=c
 max:c<=maxLen
section
variable{w w':World}{a:OA}{n c:Nat}{bs:List Rq}{vs:List Vo}
theorem qc.below(h:qc w a n c bs)(H:Be w w'):qc w' a n c bs:=⟨h.row.below H,h.len,h.cap,h.max⟩
theorem uz.below(h:uz w a n c vs)(H:Be w w'):uz w' a n c vs:=⟨h.row.below H,h.len,h.cap,h.max⟩
theorem qc.nil(w:World)(a:OA)(h:c<=maxLen):qc w a 0 c []:=⟨gD.nil _ _ _,rfl,bF _,h⟩
theorem uz.nil(w:World)(a:OA)(h:c<=maxLen):uz w a 0 c []:=⟨gD.nil _ _ _,rfl,bF _,h⟩
theorem uz.get(h:uz w a n c vs)(i:k<n): ∃b o,a=some ⟨b,o,none⟩/\b<w.heap.size/\ ∃x X,vs[k]?=some (x,X)/\J w b (o+k*2) (U x)/\J w b (o+k*2+1) (U X):=by
 obtain⟨b,o,rfl,d,e⟩:=h.row.2 aR;have H:k<vs.length:=by have:=h.len;omega
 have key: ∀j v,j<2->(Cg vs[k])[j]?=some v->J w b (o+k*2+j) v:=fun j v f g=>by rw[dL];exact e _ _ (nT Cg 2 aeV vs k j f H v g)
 exact⟨b,o,rfl,d,_,_,aj H,key 0 _ aR rfl,key 1 _ aR rfl⟩
theorem qc.get(h:qc w a n c bs)(q:k<n): ∃b o,a=some ⟨b,o,none⟩/\b<w.heap.size/\ ∃x X e f g i,bs[k]?=some (x,X,e,f,g,i)/\
  J w b (o+k*6) (U x)/\J w b (o+k*6+1) (U X)/\J w b (o+k*6+2) (U e)/\
  J w b (o+k*6+3) (U f)/\J w b (o+k*6+4) (U g)/\J w b (o+k*6+5) (U i):=by
 obtain⟨b,o,rfl,d,l⟩:=h.row.2 aR;have H:k<bs.length:=by have:=h.len;omega
 have key: ∀j v,j<6->(rA bs[k])[j]?=some v->J w b (o+k*6+j) v:=fun j v m p=>by rw[dL];exact l _ _ (nT rA 6 OJ bs k j m H v p)
 exact⟨b,o,rfl,d,_,_,_,_,_,_,aj H,key 0 _ aR rfl,key 1 _ aR rfl,key 2 _ aR rfl,key 3 _ aR rfl,key 4 _ aR rfl,key 5 _ aR rfl⟩
end
theorem Tm{α:Type}{l l':List α}(a:l.length=n)(b:l'.length=n)(h: ∀j,j<n->l[j]?=l'[j]?):l=l':=by
 refine dD fun j=> ?_;by_cases H:j<n
 ·exact h j H
 rw[fT aR,fT aR]
def Ab(c:Bool×Int):List Value:= [c.1,U c.2]
theorem uH(c:Bool×Int):(Ab c).length=2:=rfl
def oU(st:List (Bool×Int)):Array Value:=(st.flatMap Ab).toArray
theorem uV(st:List (Bool×Int)):(oU st).size=st.length*2:=by unfold oU;rw[gZ,qj Ab 2 uH]
def st0:List (Bool×Int):=List.replicate 64 (false,0)
structure Store(w:World)(gs:Nat)(st:List (Bool×Int)):Prop where
 b:aZ w gs 197 (oU st)
 n:st.length=64
section
variable{w w':World}{gs:Nat}{st:List (Bool×Int)}{S:LN}
theorem Store.lt(h:Store w gs st):gs<w.heap.size:=h.b.lt
theorem Store.only(h:Store w gs st)(a:Only S w w')(H:gs∉S):Store w' gs st:=⟨h.b.only a H,h.n⟩
theorem Store.below(h:Store w gs st)(H:Be w w'):Store w' gs st:=⟨h.b.below H h.b.lt,h.n⟩
theorem Store.drew(h:Store w gs st):Store w.drew gs st:=⟨h.b,h.n⟩
theorem Store.drewN(h:Store w gs st)(n:Nat):Store (w.drewN n) gs st:=⟨h.b,h.n⟩
theorem Store.alloc(h:Store w gs st)(o:Obj):Store (w.alloc o) gs st:=⟨h.b.alloc o,h.n⟩
theorem Store.EC(h:Store w gs st)(k:Nat)(H:k<st.length):J w gs (k*2) (.bool st[k].1):=
 (h.b.cell (k*2)).trans (by unfold oU;rw[cZ];exact nT Ab 2 uH st k 0 aR H _ rfl)
theorem Store.ZM(h:Store w gs st)(k:Nat)(H:k<st.length):J w gs (k*2+1) (.int .i64 st[k].2):=
 (h.b.cell (k*2+1)).trans (by unfold oU;rw[cZ];exact nT Ab 2 uH st k 1 aR H _ rfl)
theorem Store.set(h:Store w gs st)(H:k<st.length)(a:Bool)(v:Int):Store ((w.setCell (adZ gs (k*2)) a).setCell (adZ gs (k*2+1)) (U v)) gs (st.set k (a,v)):=by refine⟨?_,by rw[bG];exact h.n⟩;have e:=(h.b.fU (k*2) a).fU (k*2+1) (U v);unfold oU at e|-;rw[<-LY Ab uH (a,v) a (U v) rfl st k H];simpa only[jJ] using e
end
theorem XJ:(prog.info? 194).map (fun i=>(i.zero,i.size,i.bytes))=some (some (acY #[false,U 0]),2,16):=by kernel_rfl
theorem Jg(st:List (Bool×Int))(k:Nat)(h:k<st.length):(oU st).extract (k*2) (k*2+2)=#[.bool st[k].1,.int .i64 st[k].2]:=by
 apply gP;intro i;rw[Array.getElem?_extract];have H:=nT Ab 2 uH st k 0 aR h (.bool st[k].1) rfl;have a:=nT Ab 2 uH st k 1 aR h (.int .i64 st[k].2) rfl;have b:k*2+2<=(oU st).size:=by rw[uV];omega
 have e:min (k*2+2) (oU st).size -k*2=2:=aR;rw[e]
 match i with
 |0=>rw[if_pos aR];unfold oU;rw[cZ];exact H
 |1=>rw[if_pos aR];unfold oU;rw[cZ];exact a
 |i+2=>rw[if_neg aR];simp
theorem adR(st:List (Bool×Int))(c:st.length=64)(k:Nat)(b:k<st.length)(w:World):
  (Instr.index 195 (acY (oU st)) (U k)).run prog w= .ok (acY #[.bool st[k].1,.int .i64 st[k].2]) w:=by obtain⟨i,h,_,H,_⟩:=info_parts XJ;have a:(0:Int)<=(k:Int)/\(k:Int)<(64:Nat):=aR;simp only[Instr.index,jD,asIntOf,lD,gF,run_underlying underlying195,if_pos a,sizeOf,typeInfo,part,bI];simp[h,H,Jg st k b]
theorem FI:(prog.info? 195).map (·.size)=some 128:=by kernel_rfl
theorem ak0(w:World):Y 112 #[] w fun e w'=> ∃gs,e=acK (gs:Nat)/\Store w' gs st0/\w.heap.size<=gs/\Be w w':=by
 have c: ∀w:World,(zeroValue 197).run prog w= .ok (acY (oU st0)) w:=fun w=>by kernel_rfl
 have H:st0.length=64:=rfl;obtain⟨Z,h⟩:=ex (oU st0);rw[<-h] at c;have b:=jj h;have a:=jj H;clear h H;go_enter func112,ntmps112
 go_wp2
 go_ret;exact⟨w.heap.size,rfl,⟨by rw[<-b.out];exact aZ.new _ _ _,a⟩,aF _,nC⟩
theorem G9(v:Int)(w:World)(b:Bool)(H:decide (-2147483648<v/\v<2147483648)=b):
  Y 296 #[U v] w fun e w'=>e=acK b/\w=w':=by
 by_cases a: -2147483648<v
 ·by_cases c:v<2147483648
  ·obtain rfl:b=true:=by rw[<-H];exact decide_eq_true ⟨a,c⟩
   clear H;go_enter func296,ntmps296
   go_wp2
   go_ret;exact⟨rfl,rfl⟩
  obtain rfl:b=false:=by rw[<-H];exact decide_eq_false fun h=>c h.2
  clear H;go_enter func296,ntmps296
  go_wp2
  go_ret;exact⟨rfl,rfl⟩
 obtain rfl:b=false:=by rw[<-H];exact decide_eq_false fun h=>a h.1
 clear H;go_enter func296,ntmps296
 go_wp2
 go_ret;exact⟨rfl,rfl⟩
def sH(v:Int):Bool:=decide (-2147483648<v/\v<2147483648)
def Pv(key val:Int):Bool:=decide (0<=key/\key<64)&&sH val
def valOf(st:List (Bool×Int))(key:Int):Int:=(st.getD key.toNat (false,0)).2
def uj(st:List (Bool×Int)):Int:=(st.map (·.2)).sum
def Pw(st:List (Bool×Int))(kind key val:Int):Int:=
 if Pv key val then
  if kind=1 then valOf st key else if kind=2 then valOf st key
  else if kind=3 then(if sH (valOf st key+val) then valOf st key+val else valOf st key)
  else if kind=4 then valOf st key else if kind=5 then uj st else 0
 else 0
def yD(st:List (Bool×Int))(kind key val:Int):List (Bool×Int):=
 if Pv key val then
  if kind=1 then st.set key.toNat (true,val)
  else if kind=3 then(if sH (valOf st key+val) then st.set key.toNat (true,valOf st key+val) else st)
  else if kind=4 then st.set key.toNat (false,0) else st
 else st
def oQ(st:List (Bool×Int)):Prop:= ∀c∈st,-2147483648<c.2/\c.2<2147483648
theorem oQ.zero:oQ st0:=by
 intro c h;rw[dO h]
 decide
theorem oQ.get{st:List (Bool×Int)}(h:oQ st)(key:Int): -2147483648<valOf st key/\valOf st key<2147483648:=by
 unfold valOf;by_cases H:key.toNat<st.length
 ·rw[bE,aj H]
  exact h _ (bY H)
 rw[bE,fT aR]
 decide
theorem oQ.set{st:List (Bool×Int)}(h:oQ st)(k:Nat)(b:Bool){v:Int}(d: -2147483648<v/\v<2147483648):oQ (st.set k (b,v)):=by
 intro c a;rcases cB a with H|H
 ·exact h _ H
 subst H;exact d
theorem abr(st:List (Bool×Int))(kind key val:Int):(yD st kind key val).length=st.length:=by
 unfold yD
 repeat(first|rfl|split|simp)
theorem oQ.op{st:List (Bool×Int)}(h:oQ st)(kind key val:Int):oQ (yD st kind key val):=by
 unfold yD;by_cases H:Pv key val=true
 ·rw[if_pos H]
  have e: -2147483648<val/\val<2147483648:=by unfold Pv sH at H;simp only[bX,decide_eq_true_eq] at H;exact H.2
  by_cases b:kind=1
  ·rw[if_pos b];exact h.set _ _ e
  rw[if_neg b];by_cases c:kind=3
  ·rw[if_pos c]
   by_cases a:sH (valOf st key+val)=true
   ·rw[if_pos a];exact h.set _ _ (of_decide_eq_true a)
   rw[if_neg a];exact h
  rw[if_neg c];by_cases d:kind=4
  ·rw[if_pos d];exact h.set _ _ aV
  rw[if_neg d];exact h
 rw[if_neg H];exact h
theorem JO(st:List (Bool×Int))(k:Nat)(h:k<st.length):uj (st.take (k+1))=uj (st.take k)+st[k].2:=by rw[bA h];simp only[uj,bR,lQ,bV,fu,jr,lV,Int.add_zero]
theorem AJ{st:List (Bool×Int)}(h:oQ st): ∀k:Nat,-2147483648*(k:Int)<=uj (st.take k)/\uj (st.take k)<=2147483648*(k:Int)
 |0=>by simp[uj]
 |k+1=>by
  have ih:=AJ h k;by_cases hk:k<st.length
  ·have:=h _ (bY hk)
   rw[JO st k hk];omega
  rw[dB aR] at ih|-;omega
theorem ZL(gs:Nat)(st:List (Bool×Int))(kind key val:Int)(w:World)(h:Store w gs st)(d:qX kind)(c:qX key)(i:qX val)(a:Pv key val=false):
  Y 291 #[gs,acY #[U kind,U key,U val]] w fun e w'=>e=acK (U 0)/\Be w w':=by
 have H:key<0\/(¬key<0/\64<=key)\/(¬key<0/\ ¬64<=key/\sH val=false):=by
  unfold Pv at a;by_cases d:0<=key/\key<64
  ·rw[decide_eq_true d,iw] at a
   exact .inr (.inr ⟨aR,aR,a⟩)
  omega
 clear a h;rcases H with b|⟨b,c⟩|⟨b,c,f⟩
 ·go_enter func291,ntmps291
  go_wp2
  go_ret;exact⟨rfl,nC⟩
 ·go_enter func291,ntmps291
  go_wp2
  go_ret;exact⟨rfl,nC⟩
 have g:=jj f;clear f;go_enter func291,ntmps291
 go_wp2_with(go_at_call 296;refine(G9 val _ false g).mono ?_;rintro e w' ⟨rfl,rfl⟩)
 go_ret;exact⟨rfl,nC⟩
theorem Xo(gs:Nat)(st:List (Bool×Int))(kind val:Int)(n:Nat)(w:World)(h:Store w gs st)(t:oQ st)(hk:qX kind)(h3:qX val)(hn:n<64)(G:sH val=true):
  Y 291 #[gs,.agg #[U kind,U n,U val]] w fun e w'=>e= .returned (U (Pw st kind n val))/\Store w' gs (yD st kind n val)/\Only [gs] w w':=by
 have H:=jj h;have HV:=jj G;have g:n<st.length:=by rw[h.n];exact hn
 have j:valOf st n=st[n].2:=by simp[valOf,List.getD,g]
 have I:=t.get n;have g0:=of_decide_eq_true G;have d0:=h.lt;have r:Pv n val=true:=by unfold Pv;rw[G,jU];exact decide_eq_true ⟨aR,aR⟩
 obtain⟨T,A⟩:=ex (valOf st n);rw[<-A] at I j;have V:Pw st kind n val=if kind=1 then T else if kind=2 then T else if kind=3 then(if sH (T+val) then T+val else T) else if kind=4 then T else if kind=5 then uj st else 0:=by unfold Pw;rw[if_pos r,A]
 have W:yD st kind n val=if kind=1 then st.set n (true,val) else if kind=3 then(if sH (T+val) then st.set n (true,T+val) else st) else if kind=4 then st.set n (false,0) else st:=by unfold yD;rw[if_pos r,A];rfl
 obtain⟨u,v,HT,z⟩:=j4 V W A j;have i0:(0:Int)<=n:=aR;have i1:(n:Int)<64:=aR;have y:=jj t;clear h G A j r V W t;go_enter func291,ntmps291;go_wp2_with fail;refine(G9 val _ true HV).mono ?_;rintro e w' ⟨rfl,rfl⟩;go_wp2_with fail;generalize hw1:w.alloc _=w1;generalize hga:w.heap.size=ga;replace hw1:=hw1.symm;replace hga:=hga.symm;have R:aZ w1 ga 38 #[U kind,U n,U val]:=by rw[hw1,hga];exact aZ.new _ _ _
 have o:=(tQ hw1).out;have H1:=jj (H.below o);obtain⟨O,a1,a2⟩:=R.a3;have o1:=jj (Only.of_below (S:= [gs]) o);have c0:ga≠gs:=by rw[hga];omega
 clear hw1 hga R o
 go_quiet(fail)
 have d:=jj (H1.drewN nq);have o2:=jj (o1.drewN nq);have P:(w1.drewN nq).cell? ⟨ga,0,none⟩=_:=O;have Q:(w1.drewN nq).cell? ⟨ga,2,none⟩=_:=a2;clear O a1 a2 o1;generalize w1.drewN nq=w2 at d o2 P Q|-;have t1:=d.ZM n g;rw[<-z.out] at t1;have t0:=d.EC n g;have f0:=d.b.frozen (n*2);have f1:=d.b.frozen (n*2+1);rcases(show kind=1\/kind=2\/kind=3\/kind=4\/kind=5\/(kind≠1/\kind≠2/\kind≠3/\kind≠4/\kind≠5) by omega) with rfl|rfl|rfl|rfl|rfl|⟨k1,k2,k3,k4,k5⟩
 ·have a:=jj (u.trans (if_pos rfl))
  have b:=jj (v.trans (if_pos rfl))
  go_wp2
  go_ret;refine⟨by rw[a.out];rfl,by rw[b.out];exact d.set g true val,(o2.setCell (.inl bJ) _).setCell (.inl bJ) _⟩
 ·have a:=jj (u.trans ((if_neg aV).trans (if_pos rfl)))
  have b:=jj (v.trans ((if_neg aV).trans ((if_neg aV).trans (if_neg aV))))
  go_wp2
  go_ret;exact⟨by rw[a.out];rfl,by rw[b.out];exact d.out,o2⟩
 ·have l:=u.trans ((if_neg aV).trans ((if_neg aV).trans (if_pos rfl)))
  have m:=v.trans ((if_neg aV).trans (if_pos rfl));obtain⟨bb,p⟩: ∃bb,sH (T+val)=bb:=⟨_,rfl⟩;rw[p] at l m;obtain⟨a,b,x⟩:=j3 l m p;clear l m p
  cases bb with
  |true=>
   go_wp2_with(go_at_call 296;refine(G9 (T+val) _ true x).mono ?_;rintro e w' ⟨rfl,rfl⟩)
   go_ret;refine⟨by rw[a.out];rfl,by rw[b.out];exact d.set g true (T+val),(o2.setCell (.inl bJ) _).setCell (.inl bJ) _⟩
  |false=>
   go_wp2_with(go_at_call 296;refine(G9 (T+val) _ false x).mono ?_;rintro e w' ⟨rfl,rfl⟩)
   go_ret;exact⟨by rw[a.out];rfl,by rw[b.out];exact d.out,o2⟩
 ·have a:=jj (u.trans ((if_neg aV).trans ((if_neg aV).trans ((if_neg aV).trans (if_pos rfl)))))
  have b:=jj (v.trans ((if_neg aV).trans ((if_neg aV).trans (if_pos rfl))))
  go_wp2
  go_ret;refine⟨by rw[a.out];rfl,by rw[b.out];exact d.set g false 0,(o2.setCell (.inl bJ) _).setCell (.inl bJ) _⟩
 ·have a:=jj (u.trans ((if_neg aV).trans ((if_neg aV).trans ((if_neg aV).trans ((if_neg aV).trans (if_pos rfl))))))
  have b:=jj (v.trans ((if_neg aV).trans ((if_neg aV).trans (if_neg aV))));clear t0 f0 f1;have K:=jj (show w2.heap[gs]?=some (.cells (oU st) 197 (0,0)) from d.b);have E:=jj (show(prog.info? 195).map (·.size)=some (oU st).size by rw[uV,d.n];exact FI)
  go_wp2_with(refine wpList_load_row rfl 195 (.tmp 77) rfl gs rfl 197 (oU st) (0,0) _ K underlying195 rfl E ?_)
  have e0:=o2.size;clear t1 P Q
  go_loopw [7,79] (fun s i wr=> ∃k:Nat,k<=64/\i= U k/\s= U (uj (st.take k))/\Be w2 wr) (fun _ i _=>64 -(intOf i).toNat)
  case atStart=>exact⟨0,aR,rfl,rfl,aC _ _⟩
  case round=>
   obtain⟨k,Z,rfl,rfl,X⟩:=hrel;have F:=jj X;by_cases D:k<64
   ·have q:k<st.length:=by rw[d.n];exact D
    have C:=adR st d.n k q;have M:=jj (JO st k q);have B:=AJ y k;have f:=y.out st[k] (bY q);obtain⟨c,J⟩:=ex st[k];rw[<-J] at C f;obtain⟨c1,c2⟩:=c;have HC:=jj J;clear J X;have N:=F.size;have u0: -2147483648*64<=uj (st.take k):=aR;have u1:uj (st.take k)<=2147483648*64:=aR;have v0: -2147483648<c2:=f.1;have v1:c2<2147483648:=f.2;clear B f
    go_wp2
    go_roundw
    case rel=>exact⟨k+1,aR,by go_num,by rw[M.out,<-HC.out],F.alloc N _⟩
    simp[intOf];omega
   have L:k=64:=aR;subst L;have ht:st.take 64=st:=dB (by rw[d.n];omega);rw[ht];have H4:=jj (d.below F);have o4:=jj (o2.belows F);clear ht
   go_wp2
   go_ret;exact⟨by rw[a.out];rfl,by rw[b.out];exact H4.out,o4⟩
 have a:=jj (u.trans ((if_neg k1).trans ((if_neg k2).trans ((if_neg k3).trans ((if_neg k4).trans (if_neg k5))))));have b:=jj (v.trans ((if_neg k1).trans ((if_neg k3).trans (if_neg k4))));have e1:(kind==1)=false:=beq_eq_false_iff_ne.2 k1;have e2:(kind==2)=false:=beq_eq_false_iff_ne.2 k2;have e3:(kind==3)=false:=beq_eq_false_iff_ne.2 k3;have e4:(kind==4)=false:=beq_eq_false_iff_ne.2 k4;have e5:(kind==5)=false:=beq_eq_false_iff_ne.2 k5
 go_wp2
 go_ret;exact⟨by rw[a.out];rfl,by rw[b.out];exact d.out,o2⟩
theorem adh(gs:Nat)(st:List (Bool×Int))(kind key val:Int)(w:World)(h:Store w gs st)(b:oQ st)(d:qX kind)(g:qX key)(c:qX val)(r:Int)(j:Pw st kind key val=r)(st':List (Bool×Int))(k:yD st kind key val=st'):
  Y 291 #[gs,acY #[U kind,U key,U val]] w fun e w'=>e=acK (U r)/\Store w' gs st'/\Only [gs] w w':=by
 subst j;subst k;by_cases a:Pv key val=true
 ·have H:=a
  unfold Pv at H;simp only[bX,decide_eq_true_eq] at H;obtain⟨⟨k0,k1⟩,l⟩:=H;obtain⟨n,rfl⟩:=bB k0;exact Xo gs st kind val n w h b d c aR l
 have H:Pv key val=false:=by simpa using a
 have E:Pw st kind key val=0:=by unfold Pw;rw[H];rfl
 have f:yD st kind key val=st:=by unfold yD;rw[H];rfl
 rw[E,f];exact(ZL gs st kind key val w h d g c H).mono fun e w' ⟨i,a⟩=>⟨i,h.below a,Only.of_below a⟩
def Il(p:Int×Int):List Value:= [U p.1,U p.2]
theorem aaS:(prog.info? 115).map (fun i=>(i.zero,i.size,i.bytes))=some (some (acY #[U 0,U 0]),2,16):=by kernel_rfl
def Xh(w:World)(base:Nat)(v:Value)(l:List (Int×Int)):Prop:=w.ownsRow base 115 2 v l.length (l.flatMap Il)
theorem Dj: ∀(L:LV) (i:Nat) (A:AV) (j:Nat),i+L.length<=A.size->
  ((L.zipIdx i).foldl (fun c x=>c.setIfInBounds x.2 x.1) A)[j]?=if i<=j/\j<i+L.length then L[j -i]? else A[j]?
 | [],i,A,j,h=>by rw[if_neg (by rw[dK];omega)];rfl
 |v::L,i,A,j,h=>by
  simp only[aY] at h;rw[List.zipIdx_cons,List.foldl_cons,Dj L (i+1) _ j (by simp;omega)];simp only[aY];by_cases h1:i+1<=j/\j<i+1+L.length
  ·rw[if_pos h1,if_pos aR,show j -i=(j -(i+1))+1 by omega,dU]
  rw[if_neg h1];by_cases hij:j=i
  ·subst hij
   rw[if_pos aR,fJ,dV,fZ aR]
  rw[if_neg aR,aW (dR hij)]
theorem aan(A:AV)(L:LV)(h:A.size=L.length):Array.foldl (fun cs x=>cs.setIfInBounds x.2 x.1) A L.toArray.zipIdx 0 L.toArray.size=L.toArray:=by
 rw[show L.toArray.size=L.toArray.zipIdx.size by simp,<-Array.foldl_toList,Array.toList_zipIdx];apply gP;intro j;rw[Dj L 0 A j aR];by_cases H:j<L.length
 ·rw[if_pos aR,jc];simp
 rw[if_neg aR,gK aR];simp;omega
theorem ab0(gs:Nat)(st:List (Bool×Int))(w:World)(h:Store w gs st):
  Y 98 #[gs] w fun e w'=> ∃g,e=acK (g:Nat)/\Store w' g st/\w.heap.size<=g/\Be w w':=by
 have H:=jj h;have d:=jj (show w.heap[gs]?=some (.cells (oU st) 197 (0,0)) from h.b);have c:=jj (show(prog.info? 195).map (·.size)=some (oU st).size by rw[uV,h.n];exact FI);clear h;have i: ∀w:World,(zeroValue 197).run prog w= .ok (acY (oU st0)) w:=fun w=>by kernel_rfl
 have f:(oU st).size=128:=by rw[uV,H.n]
 have b:(oU st0).size=128:=by rw[uV];rfl
 have k:Array.foldl (fun cs x=>cs.setIfInBounds x.2 x.1) (oU st0) (oU st).zipIdx 0 128=oU st:=by have:=aan (oU st0) (st.flatMap Ab) (by rw[b,qj Ab 2 uH,H.n]);have e:(st.flatMap Ab).toArray.size=128:=f;rw[e] at this;exact this
 obtain⟨Z,a⟩:=ex (oU st0);rw[<-a] at i b k;have j:=jj H.n;clear a;go_enter func98,ntmps98
 go_wp2_with(refine wpList_load_row rfl 195 (.tmp 5) rfl gs rfl 197 (oU st) (0,0) _ d underlying195 rfl c ?_)
 go_ret;exact⟨w.heap.size,rfl,⟨aZ.new _ _ _,j⟩,aF _,nC⟩
abbrev CY:=Rq×Int
def pF(e:CY):List Value:= [U e.1.1,U e.1.2.1,U e.1.2.2.1,U e.1.2.2.2.1,U e.1.2.2.2.2.1,U e.1.2.2.2.2.2,U e.2]
theorem vP(e:CY):(pF e).length=7:=rfl
theorem ac1(es:List CY): ∀v∈es.flatMap pF,v.oneCell'=true:=by intro v H;obtain⟨p,_,h⟩:=bg.1 H;simp only[pF,ay,aI,or_false] at h;rcases h with rfl|rfl|rfl|rfl|rfl|rfl|rfl<;>rfl
def Yf(ct:List (Int×Int))(r:Rq):Bool:=hasB ct r.1&&decide (lastOf ct r.1<r.2.1)
abbrev Kr:=List CY×List (Bool×Int)×List (Int×Int)
def uK(s:Kr)(r:Rq):Int:=Pw s.2.1 r.2.2.1 r.2.2.2.1 r.2.2.2.2.1
def qg(s:Kr)(r:Rq):Kr:=if Yf s.2.2 r then(s.1++ [(r,uK s r)],yD s.2.1 r.2.2.1 r.2.2.2.1 r.2.2.2.2.1,Aw s.2.2 r.1 r.2.1 (uK s r)) else s
def qL(s:Kr)(rs:List Rq):Kr:=rs.foldl qg s
theorem Yw(s:Kr)(r:List Rq)(k:Nat)(h:k<r.length):qL s (r.take (k+1))=qg (qL s (r.take k)) r[k]:=by unfold qL;rw[fM,aj h,jR];rfl
theorem Ru(s:Kr)(r:Rq):(qg s r).2.2.length=s.2.2.length:=by
 unfold qg;split
 ·exact MR _ _ _ _
 rfl
theorem Rv{s:Kr}(h:oQ s.2.1)(r:Rq):oQ (qg s r).2.1:=by
 unfold qg;split
 ·exact h.op _ _ _
 exact h
theorem Nf(s:Kr)(r:Rq):(qg s r).1.length<=s.1.length+1:=by
 unfold qg;split
 ·simp
 exact Nat.le_succ _
theorem abW{s:Kr}(h:oQ s.2.1): ∀rs:List Rq,oQ (qL s rs).2.1/\(qL s rs).2.2.length=s.2.2.length/\(qL s rs).1.length<=s.1.length+rs.length:=by
 intro rs
 induction rs generalizing s with
 |nil=>exact⟨h,rfl,by simp[qL]⟩
 |cons r rs ih=>
  have H:=ih (Rv h r);have e:qL s (r::rs)=qL (qg s r) rs:=rfl;rw[e];refine⟨H.1,by rw[H.2.1,Ru],?_⟩;have:=H.2.2;have:=Nf s r;simp only[aY];omega
def blks(a:OA):List Nat:=match a with|none=> []|some p=> [p.block]
structure Er(w:World)(S:LN)(gd:Nat)(C:Nat)(es:List CY)(st:List (Bool×Int))(ct:List (Int×Int)):Prop where
 ex: ∃gs gc gl a cap,S=gd::gs::gc::gl::blks a/\aZ w gd 135 #[U C,acX a es.length cap,(gs:Nat),(gc:Nat)]/\
  w.ownsRow 0 51 7 (acX a es.length cap) es.length (es.flatMap pF)/\Store w gs st/\Cache w gc gl ct
 c:1<=C/\C<=4
 len:ct.length=C
 sm:oQ st
section
variable{w w':World}{S T:LN}{gd C:Nat}{es:List CY}{st:List (Bool×Int)}{ct:List (Int×Int)}
theorem yg(h:(Value.slice a n c).ownBlock=some g):g∈blks a:=by
 cases a with
 |none=>cases h
 |some p=>
  have:p.block=g:=by simpa[Value.ownBlock] using h
  simp[blks,this]
theorem Er.only(h:Er w S gd C es st ct)(b:Only T w w')(H: ∀k∈S,k∉T):Er w' S gd C es st ct:=by obtain⟨e,G,d,a,c,rfl,f,i,j,l⟩:=h.ex;refine⟨⟨e,G,d,a,c,rfl,f.only b (H _ bJ),mK i b (fun g m=>H g ?_),j.only b (H _ bJ),l.only b (H _ bJ) (H _ bJ)⟩,h.c,h.len,h.sm⟩;have:=yg m;simp[this]
theorem Er.below(h:Er w S gd C es st ct)(H:Be w w'):Er w' S gd C es st ct:=h.only (Only.of_below (S:= []) H) fun _ _=>aI
theorem Er.lt(h:Er w S gd C es st ct): ∀k∈S,k<w.heap.size:=by
 obtain⟨o,G,n,a,d,rfl,f,i,j,c⟩:=h.ex;intro k H;simp only[ay] at H;rcases H with rfl|rfl|rfl|rfl|H
 ·exact f.lt
 ·exact j.lt
 ·exact c.clt
 ·exact c.llt
 rcases i.2 with⟨b,_⟩|⟨g,m,e,b,_,l,_⟩
 ·injection b with e1 _ _
  subst e1;cases H
 injection b with e1 _ _;subst e1;simp only[blks,au] at H;subst H;exact(eX.1 l).1
end
theorem ad4(n:Nat)(m:1<=n)(o:n<=4)(w:World):
  Y 78 #[U n] w fun e w'=> ∃S gd,e=acK (ac2 #[(gd:Nat),U 0])/\Er w' S gd n [] st0 (List.replicate n (0,0))/\(∀k∈S,w.heap.size<=k)/\Be w w':=by
 go_enter func78,ntmps78;go_wp2_with fail;refine(ahv n m o _).mono ?_;rintro e v ⟨g,j,rfl,p,a,b,H⟩;have s:=jj p;have f:=jj H;have G:=jj (show w.heap.size<=g/\w.heap.size<=j from⟨a,b⟩);clear p H a b;go_wp2_with fail;refine(ak0 _).mono ?_;rintro e W ⟨l,rfl,q,c,h⟩;have t:=jj q;have d:=jj (s.below h);have B:=nO f h;have r:=jj (aG f.size c);clear q h c
 go_wp2
 go_ret2
 have i:Be W (W.alloc (.cells #[U n,(),l,g] 135)):=nC;refine⟨_,W.heap.size,rfl,⟨⟨l,g,j,none,0,rfl,aZ.new _ _ _,⟨bJ,.inl ⟨rfl,rfl⟩⟩,t.below i,d.below i⟩,⟨m,o⟩,bJ,oQ.zero⟩,?_,B.alloc B.size _⟩;intro k u;simp only[blks,ay,aI,or_false] at u;have:=G.out;have:=r.out;have:=B.size;omega
theorem zF(w:World)(t T e:TypeId)(i:TypeInfo)(b:P.underlying t=some (.slice e))(h:P.info? e=some i)(a A:OA)(n cap c:Nat)(d:a=none/\n=0/\cap=0\/ ∃g,a=some ⟨g,0,none⟩)(f:n<=cap):
  (Builtin.append_ #[t,t] T #[.slice a n cap,.slice A 0 c]).run P w= .ok (.slice a n cap) w:=by
 have H: ∀(x:Addr),(loadCells x 0).run P w= .ok #[] w:=fun x=>by simpa using run_loadCells_list (P:=P) w x [] bJ
 rcases d with⟨rfl,rfl,rfl⟩|⟨g,rfl⟩
 ·cases A<;>simp[Builtin.append_,run_underlying b,sizeOf,typeInfo,h,Builtin.lenOf,Builtin.firstCells,storeCells,H]
 cases A<;>simp[Builtin.append_,run_underlying b,sizeOf,typeInfo,h,Builtin.lenOf,Builtin.firstCells,f,storeCells,H]
theorem rF{base:Nat}{e:TypeId}(h:w.ownsRow base e s (acX a n c) n xs):a=none/\n=0/\c=0\/ ∃g,a=some ⟨g,0,none⟩:=by
 rcases h.2 with⟨H,d⟩|⟨g,C,b,H,_⟩
 ·injection H with e1 e2 e3
  exact .inl ⟨e1,d,e3⟩
 injection H with e1 e2 e3;exact .inr ⟨g,e1⟩
theorem rZ    {rest:List Oper}  {a:Act}  (d:o.guard=none) (s x:Operand) (t:TypeId)
  (m:o.op= .call {callee:= .builtin .append,args:=#[s,x],argTypes:=#[t,t]}) (e:TypeId) (i:TypeInfo) (q:P.underlying t=some (.slice e)) (k:P.info? e=some i) (b A:OA) (n cap c:Nat)
  (j:b=none/\n=0/\cap=0\/ ∃g,b=some ⟨g,0,none⟩) (l:n<=cap) (p:a.eval s= .slice b n cap) (hx:a.eval x= .slice A 0 c) (h:wpList P ops Q rest (a.put o.dst (.slice b n cap)) w):wpList P ops Q (o::rest) a w:=
 wpList_plain d fun _ f=>by have H:=zF (P:=P) w t o.type e i q k b A n cap c j l;unfold Oper.wp;simp[execOp,m,resolve,invoke,builtin,p,hx,H,Result.andThen];exact f _ _ h
theorem Wj{base:Nat}{e t:TypeId}{cs:AV}(h:w.ownsRow base e s (acX a n c) n xs)(b:aZ w g t cs)(H:e≠t): ∀p,a=some p->p.block≠g:=by rintro p rfl rfl;exact mG h b H (by simp[Value.ownBlock])
theorem IW:(prog.info? 51).map (fun i=>(i.zero,i.size,i.bytes))=some (some (acY #[U 0,U 0,U 0,U 0,U 0,U 0,U 0]),7,56):=by kernel_rfl
theorem Tn{q:Addr}{a0 a1 a2 a3 a4 a5 a6:Value}(h:w.cell? q=some v)(H:q.block≠g):
  (((((((w.setCell (adZ g 0) a0).setCell (adZ g 1) a1).setCell (adZ g 2) a2).setCell (adZ g 3) a3).setCell (adZ g 4) a4).setCell (adZ g 5) a5).setCell (adZ g 6) a6).cell? q=some v:=
 nL (nL (nL (nL (nL (nL (nL h H) H) H) H) H) H) H
structure PN(w wr:World)(gs gc gl:Nat)(C:Nat)(s:Kr)(a1:OA)(c1:Nat):Prop where
 o:wr.ownsRow w.heap.size 51 7 (acX a1 s.1.length c1) s.1.length (s.1.flatMap pF)
 sto:Store wr gs s.2.1
 cac:Cache wr gc gl s.2.2
 sm:oQ s.2.1
 len:s.2.2.length=C
 only:Only [gs,gl] w wr
theorem Vn {wb w4 wx:World} {ge gt gd gs:Nat} {s:Kr} {a1:OA} {c1:Nat} {st2:List (Bool×Int)} {cs:AV} (A:PN w wb gs gc gl C s a1 c1) (T:aZ wb gt 49 cs)
  (a:J wb gd 3 gc) (Q:Only [gs] wb w4) (R:Only [ge] w4 wx) (h:Store w4 gs st2) (b:wb.heap.size<=ge) (n1:gt≠gs) (n:gd≠gs) (N:gc≠gs) (c:gl≠gs):
  w.heap.size<=ge/\aZ wx gt 49 cs/\J wx gd 3 gc/\
  wx.ownsRow w.heap.size 51 7 (acX a1 s.1.length c1) s.1.length (s.1.flatMap pF)/\Store wx gs st2/\Cache wx gc gl s.2.2/\Only [gs,gl] w wx:=by
 have z:=A.only.size;have tl:=T.lt;have D:gd<wb.heap.size:=wV (p:=adZ gd 3) a;have S:=A.sto.lt;have d:=A.cac.clt;have l:=A.cac.llt;refine⟨aR,(T.only Q (mR n1)).only R (by simp;omega),R.cell_ (Q.cell_ a (mR n)) (by simp;omega),?_,h.only R (by simp;omega),(A.cac.only Q (mR N) (mR c)).only R (by simp;omega) (by simp;omega),(A.only.then Q bJ).then R (by simp;omega)⟩;have o4:=mK A.o Q (fun g H=>by have:=mG A.o A.sto.b aV;rw[H] at this;simpa using fun e=>this (by rw[e]))
 exact mK o4 R (fun g H=>by have:=(A.o.lt g H).2;simp;omega)
theorem ala (S:LN) (G C:Nat) (es:List CY) (st:List (Bool×Int)) (ct:List (Int×Int)) (a:OA) (n c:Nat) (E:List Rq) (w:World) (h:Er w S G C es st ct) (hv:gD w a n 6 (E.flatMap rA)) (C0:0<n-> ∀p,a=some p->p.block∉S) (hl:E.length=n) (hn:es.length+n<=4096)
  (hi: ∀r∈E,RqI r) (out:List CY) (st':List (Bool×Int)) (m1:List (Int×Int)) (hs:qL ([],st,ct) E=(out,st',m1)) (m:Nat) (F:out.length=m):
  Y 268 #[G,.slice a n c] w fun e w'=> ∃S' a' c',e= .returned (.slice a' m c')/\Er w' S' G C (es++out) st' m1/\
   w'.ownsRow w.heap.size 51 7 (.slice a' m c') m (out.flatMap pF)/\(∀g,(Value.slice a' m c').ownBlock=some g->g∉S')/\Only S w w'/\(∀k∈S',k∈S\/w.heap.size<=k):=by
 obtain⟨i0,I0,R0,S0,T0⟩:=info_parts IW;obtain⟨gs,gc,gl,al,cl,hS,k1,k2,k3,k4⟩:=h.ex;have L0:=h.c;obtain⟨K1,K2,K3,K4,LE,y0⟩:=j6 k1 k2 k3 k4 h.lt hS;obtain⟨z1,CL,SM⟩:=j3 C0 h.len h.sm;have C4:=L0.2;have C1:=L0.1;have e0:=k1.at_ 0;have e2:=k1.at_ 2;have e3:=k1.at_ 3;have n1:G≠gs:=aZ.nY k1 k3.b aV;have n2:G≠gl:=by obtain⟨cp,Z,h2⟩:=k4.ex;exact(h2.ne k1 aV).symm
 have n3:gs≠gl:=by obtain⟨cp,Z,h2⟩:=k4.ex;exact(h2.ne k3.b aV).symm
 have n4:gc≠gs:=by obtain⟨cp,Z,h2⟩:=k4.ex;exact aZ.nY Z k3.b aV
 have n5:gc≠gl:=k4.ne;have NE:=jj (show G≠gs/\G≠gl/\gs≠gl/\gc≠gs/\gc≠gl from⟨n1,n2,n3,n4,n5⟩);obtain⟨GD,HV,HI,HS,HM⟩:=j5 k1.lt hv hi hs F;subst hl;have E0:=jj (show Only [gs,gl] w w from Only.refl _ _);clear k1 k2 k3 k4 h hS C0 L0 n1 n2 n3 n4 n5 hv hi hs F;go_enter func268,ntmps268;go_wp2_with fail;go_loopw [5,11] (fun o i wr=> ∃k:Nat,k<=E.length/\i= U k/\ ∃s a1 c1,s=qL ([],st,ct) (E.take k)/\o= .slice a1 s.1.length c1/\PN w wr gs gc gl C s a1 c1) (fun _ i _=>E.length -(intOf i).toNat)
 case atStart=>
  exact⟨0,aR,rfl,([],st,ct),none,0,rfl,rfl,⟨bJ,.inl ⟨rfl,rfl⟩⟩,K3.out,K4.out,SM.out,CL.out,E0.out⟩
 case round=>
  obtain⟨k,hk,rfl,s,a1,c1,w0,rfl,hA⟩:=hrel;have A:=jj hA;have SK:=jj w0;have dl:s.1.length<=k:=by have:=(abW (s:=([],st,ct)) SM.out (E.take k)).2.2;rw[<-w0,cO] at this;simp only[dK] at this;omega
  have zr:=hA.only.size;have f0:=hA.only.cell_ e0 (by have:=NE.out;simp;omega);have f2:=hA.only.cell_ e2 (by have:=NE.out;simp;omega);have f3:=hA.only.cell_ e3 (by have:=NE.out;simp;omega);by_cases N0:k<E.length
  ·obtain⟨b,p0,rfl,b2,b0⟩:=HV.2 aR
   have A0:=z1.out aR _ rfl;rw[y0.out] at A0;simp only[ay,not_or] at A0;have bs:=jj (show b≠gs/\b≠gl from⟨A0.2.1,A0.2.2.2.1⟩);have cw: ∀j v,j<6->(rA E[k])[j]?=some v->J wr b (p0+k*6+j) v:=fun j v hj hv=>by refine hA.only.cell_ ?_ (by have:=bs.out;simp;omega);rw[dL];exact b0 _ _ (nT rA 6 OJ E k j hj N0 v hv)
   obtain⟨r,hr⟩:=ex E[k];have w1:=HI.out _ (bY N0);have K:=Yw ([],st,ct) E k N0;rw[<-hr] at cw w1 K;rw[<-w0] at K;obtain⟨d,l,z,B,D,V⟩:=r;have q0:J wr b (p0+k*6) (U d):=cw 0 _ aR rfl;have q1:J wr b (p0+k*6+1) (U l):=cw 1 _ aR rfl;have q2:J wr b (p0+k*6+2) (U z):=cw 2 _ aR rfl;have q3:J wr b (p0+k*6+3) (U B):=cw 3 _ aR rfl;have q4:J wr b (p0+k*6+4) (U D):=cw 4 _ aR rfl;have q5:J wr b (p0+k*6+5) (U V):=cw 5 _ aR rfl;obtain⟨x0,x1,x2,x3,x4,x5⟩:=w1;simp only at x0 x1 x2 x3 x4 x5;have ST:=jj K;have i1:(0:Int)<=k:=aR;have i2:(k:Int)<E.length:=aR;clear b0 A0 cw hr K w0 hA;go_wp2_with fail;obtain⟨y,H0⟩:=ex wr.heap.size;obtain⟨wa,J0⟩:=ex (wr.alloc (.cells #[U d,U l,U z,U B,U D,U V] 49));rw[<-J0,<-H0];have T:=jj (show aZ wa y 49 #[U d,U l,U z,U B,U D,U V] by rw[J0,H0];exact aZ.new _ _ _);have B2:=jj (show Be wr wa by rw[J0];exact nC);have u:=jj (show PN w wa gs gc gl C s a1 c1 from⟨own_below A.o B2.out,A.sto.below B2.out,A.cac.below B2.out,A.sm,A.len,A.only.belows B2.out⟩);have GT:=jj (show w.heap.size<=y/\y<wa.heap.size from⟨by rw[H0];exact zr,T.lt⟩);have g0:J wa G 0 (U C):=kept B2.out _ _ f0;have g2:J wa G 2 gs:=kept B2.out _ _ f2;have g3:J wa G 3 gc:=kept B2.out _ _ f3;clear J0 H0 f0 f2 f3 q0 q1 q2 q3 q4 q5;obtain⟨t0,t1⟩:=T.a2;have X0:=fun(x:Later wa)=>x.cell t0;have X1:=fun(x:Later wa)=>x.cell t1;have Y0:=fun(x:Later wa)=>x.cell g0;have Y3:=fun(x:Later wa)=>x.cell g3;obtain⟨lt,m0⟩: ∃lt,lastOf s.2.2 d=lt:=⟨_,rfl⟩;have LT:=jj m0;have hC:=u.len;have F0:=jj (show Yf s.2.2 (d,l,z,B,D,V)=(decide (0<=d/\d<(C:Int))&&decide (lt<l)) by unfold Yf hasB;rw[hC,m0]);clear m0 hC;rcases(show d<0\/(0<=d/\(C:Int)<=d)\/(0<=d/\d<(C:Int)/\l<=lt)\/(0<=d/\d<(C:Int)/\lt<l) by omega) with hc|⟨hc,hc2⟩|⟨hc,hc2,v0⟩|⟨hc,hc2,v0⟩
   case' inl=>
    have NO:=jj (show qL ([],st,ct) (E.take (k+1))=s by rw[ST.out];unfold qg;rw[F0.out,decide_eq_false aR];rfl);have d0:decide (d<0)=true:=decide_eq_true hc
   case' inr.inl=>
    have NO:=jj (show qL ([],st,ct) (E.take (k+1))=s by rw[ST.out];unfold qg;rw[F0.out,decide_eq_false aR];rfl);have d0:decide (d<0)=false:=decide_eq_false aR;have d1:decide ((C:Int)<=d)=true:=decide_eq_true hc2;have G0:decide (d≥(C:Int))=true:=decide_eq_true hc2
   case' inr.inr.inl=>
    have NO:=jj (show qL ([],st,ct) (E.take (k+1))=s by rw[ST.out];unfold qg;rw[F0.out,decide_eq_false (show ¬lt<l by omega),kR];rfl);have d0:decide (d<0)=false:=decide_eq_false aR;have d1:decide ((C:Int)<=d)=false:=decide_eq_false aR;have G0:decide (d≥(C:Int))=false:=decide_eq_false aR;have d2:decide (l<=lt)=true:=decide_eq_true v0
   case' inr.inr.inr=>
    have d0:decide (d<0)=false:=decide_eq_false aR;have d1:decide ((C:Int)<=d)=false:=decide_eq_false aR;have G0:decide (d≥(C:Int))=false:=decide_eq_false aR;have d2:decide (l<=lt)=false:=decide_eq_false aR
   case inr.inr.inr=>
    obtain⟨re,Q0⟩: ∃re,Pw s.2.1 z B D=re:=⟨_,rfl⟩;obtain⟨st2,o0⟩: ∃st2,yD s.2.1 z B D=st2:=⟨_,rfl⟩;obtain⟨ct2,j0⟩: ∃ct2,Aw s.2.2 d l re=ct2:=⟨_,rfl⟩;have n0:Yf s.2.2 (d,l,z,B,D,V)=true:=by rw[F0.out,decide_eq_true (show 0<=d/\d<(C:Int) from⟨hc,hc2⟩),decide_eq_true v0];rfl
    have NX:=jj (show qL ([],st,ct) (E.take (k+1))=(s.1++ [((d,l,z,B,D,V),re)],st2,ct2) by rw[ST.out];unfold qg;rw[if_pos n0];unfold uK;simp only[Q0,o0,j0])
    obtain⟨RE,B1,V0⟩:=j3 Q0 o0 j0;have PB:=jj (show adU s.2.2 d l=true by
     unfold Yf at n0;unfold adU;simp only[bX,decide_eq_true_eq] at n0|-;refine⟨n0.1,?_⟩;have:=n0.2;unfold lastOf at this
     rwa [if_pos n0.1] at this)
    clear Q0 o0 j0 n0;refine pU (by kernel_rfl) (by kernel_rfl) ?_
    repeat(go_big_quiet_step (first
     |(go_at_call 253;exact Later.same (Uk gc gl s.2.2 d _ (u.cac.below (Later.b _)) (by rw[u.len];exact C4) x0 lt LT.out))))
    refine wpQuiet_nil ?_;rintro _ ⟨x,rfl⟩;have A3:=jj (show PN w x.w gs gc gl C s a1 c1 from⟨own_below u.o x.b,u.sto.below x.b,u.cac.below x.b,u.sm,u.len,u.only.belows x.b⟩);have T3:=jj (T.later x);have h2:x.w.cell? ⟨G,2,none⟩=_:=x.cell g2;have h3:x.w.cell? ⟨G,3,none⟩=_:=x.cell g3;have zx:=jj x.b.size;clear t0 t1 g0 g2 g3;obtain⟨W,y1⟩:=ex x.w;rw[<-y1] at A3 T3 h2 h3 zx|-;clear y1;obtain⟨t0,t1,t2,t3,t4,t5⟩:=T3.a6;have P:=jj (show y≠gs/\y≠gl by have:=K3.lt;have:=K4.llt;have:=GT.out;omega);go_wp2_with fail;go_cut [8] (fun s8 wx=> ∃ge,s8= .pointer (some ⟨ge,0,none⟩)/\aZ wx ge 51 #[U d,U l,U z,U B,U D,U V,U re]/\w.heap.size<=ge/\aZ wx y 49 #[U d,U l,U z,U B,U D,U V]/\J wx G 3 gc/\
     wx.ownsRow w.heap.size 51 7 (.slice a1 s.1.length c1) s.1.length (s.1.flatMap pF)/\Store wx gs st2/\Cache wx gc gl s.2.2/\Only [gs,gl] w wx)
    case first=>
     clear e0 e2 e3 d0 d1 G0 d2 v0 x0 x1 x5 zr dl i1 i2 I0 R0 S0 T0;have ng:y≠W.heap.size/\G≠W.heap.size:=by have:=T3.lt;have:=GD.out;have:=A3.only.size;omega
     go_region_held3 (fun w'=>J w' y 0 (U d)/\J w' y 1 (U l)/\J w' y 2 (U z)/\J w' y 3 (U B)/\J w' y 4 (U D)/\J w' y 5 (U V)/\J w' G 2 gs)
      (first|with_reducible exact⟨s0,s1,s2,s3,s4,s5,s6⟩|with_reducible exact⟨Tn s0 ng.1,Tn s1 ng.1,Tn s2 ng.1,Tn s3 ng.1,Tn s4 ng.1,Tn s5 ng.1,Tn s6 ng.2⟩|go_keep)
      (first|(go_at_call 291;refine(adh gs s.2.1 z B D _ (by first|exact A3.sto.drew|exact(A3.sto.alloc _).drew) A3.sm x2 x3 x4 re RE.out st2 B1.out).mono ?_;rintro e w4 ⟨rfl,v1,q⟩;have s0:=q.cell_ (p:=⟨y,0,none⟩) (by first|exact t0|exact rE _ t0) (by have:=P.1;simpa using this);have s1:=q.cell_ (p:=⟨y,1,none⟩) (by first|exact t1|exact rE _ t1) (by have:=P.1;simpa using this);have s2:=q.cell_ (p:=⟨y,2,none⟩) (by first|exact t2|exact rE _ t2) (by have:=P.1;simpa using this);have s3:=q.cell_ (p:=⟨y,3,none⟩) (by first|exact t3|exact rE _ t3) (by have:=P.1;simpa using this);have s4:=q.cell_ (p:=⟨y,4,none⟩) (by first|exact t4|exact rE _ t4) (by have:=P.1;simpa using this);have s5:=q.cell_ (p:=⟨y,5,none⟩) (by first|exact t5|exact rE _ t5) (by have:=P.1;simpa using this);have s6:=q.cell_ (p:=⟨G,2,none⟩) (by first|exact h2|exact rE _ h2) (by have:=NE.1;simpa using this);try(have X:=aZ.only (show aZ (W.alloc (.cells #[U 0,U 0,U 0,U 0,U 0,U 0,U 0] 51)).drew W.heap.size 51 #[U 0,U 0,U 0,U 0,U 0,U 0,U 0] from aZ.new W 51 #[U 0,U 0,U 0,U 0,U 0,U 0,U 0]) q (by have:=A3.sto.lt;simp;omega);have u0:=X.cell 0;have L1:=X.frozen 0;have u1:=X.cell 1;have M1:=X.frozen 1;have u2:=X.cell 2;have N1:=X.frozen 2;have u3:=X.cell 3;have O1:=X.frozen 3;have u4:=X.cell 4;have P1:=X.frozen 4;have u5:=X.cell 5;have Q1:=X.frozen 5;have u6:=X.cell 6;have o1:=X.frozen 6)))
     all_goals
      have AX:=jj A3.out;have N:=jj (show y≠gs/\G≠gs/\gc≠gs/\gl≠gs from⟨P.1,NE.1,NE.2.2.2.1,NE.2.2.1.symm⟩);obtain⟨H3,e1,g1⟩:=j3 h3 q v1
      try have BE:=jj X
      clear s0 s1 s2 s3 s4 s5 s6 t0 t1 t2 t3 t4 t5 h2 h3 q v1 x2 x3 x4
      try clear X u0 u1 u2 u3 u4 u5 u6 L1 M1 N1 O1 P1 Q1 o1
      go_wp2_with fail;go_meet
     ·have Q:Only [gs] W w4:=((Only.refl [gs] W).drew).trans e1.out
      have hz:W.heap.size<=w4.heap.size:=Q.size;have hc:=Vn A3.out T3.out H3.out Q (Only.of_below (S:= [w4.heap.size]) ((aC w4.heap.size w4).alloc (aF _) (.cells #[U d,U l,U z,U B,U D,U V,U re] 51))) g1.out hz N.1 N.2.1 N.2.2.1 N.2.2.2;exact⟨w4.heap.size,rfl,aZ.new _ _ _,hc⟩
     have Q:Only [gs] W w4:=(((Only.refl [gs] W).alloc _).drew).trans e1.out;have R:=((((((((Only.refl [W.heap.size] w4).setCell (p:=⟨W.heap.size,0,none⟩) (.inl bJ) (U d)).setCell (p:=⟨W.heap.size,1,none⟩) (.inl bJ) (U l)).setCell (p:=⟨W.heap.size,2,none⟩) (.inl bJ) (U z)).setCell (p:=⟨W.heap.size,3,none⟩) (.inl bJ) (U B)).setCell (p:=⟨W.heap.size,4,none⟩) (.inl bJ) (U D)).setCell (p:=⟨W.heap.size,5,none⟩) (.inl bJ) (U V)).setCell (p:=⟨W.heap.size,6,none⟩) (.inl bJ) (U re));have hc:=Vn A3.out T3.out H3.out Q R g1.out (aF _) N.1 N.2.1 N.2.2.1 N.2.2.2;have bb:=((((((BE.fU 0 (U d)).fU 1 (U l)).fU 2 (U z)).fU 3 (U B)).fU 4 (U D)).fU 5 (U V)).fU 6 (U re);exact⟨W.heap.size,rfl,bb,hc⟩
    case rest=>
     obtain⟨ge,rfl,M0,c2,hT,v0,ho,hS,hC,hO⟩:=hcut;obtain⟨GE,OO,SS,CC,ON⟩:=j5 M0 ho hS hC hO;have CN:=jj (show s.2.2.length<=4 by rw[u.len];exact C4);have A1:=jj (Rv u.sm (d,l,z,B,D,V));obtain⟨t0,t1⟩:=hT.a2;have e6:=M0.at_ 6;clear M0 hT ho hS hC hO P d0 d1 G0 d2;go_wp2_with fail;go_still_tail 10,(by kernel_rfl)
     change wpList _ _ _ _ _ wc.drew;go_wp2_with fail;refine(ak8 gc gl s.2.2 d l re _ CC.drew CN.out x0 true PB.out ct2 V0.out).mono ?_;rintro e w5 ⟨rfl,p1,B0⟩;have S1: ∃cur,aZ wc gl 202 cur:=by obtain⟨cp,Z,h2⟩:=CC.ex;obtain⟨cur,h3,_⟩:=h2.parts;exact⟨cur,h3⟩
     obtain⟨cur,k0⟩:=S1;have l0:aZ w5 ge 51 _:=GE.drew.only B0 (by have:=aZ.nY GE.out k0 aV;simpa using this);obtain⟨u0,u1,u2,u3,u4,u5⟩:=l0.a6;have u6:=l0.at_ 6;have o5:w5.ownsRow w.heap.size 51 7 (.slice a1 s.1.length c1) s.1.length (s.1.flatMap pF):=mK OO.drew B0 (fun g hg=>by have:=mG OO.out k0 aV;rw[hg] at this;simpa using fun e=>this (by rw[e]))
     have O5:=jj o5;have S5:=jj (SS.drew.only B0 (by have:=NE.2.2.1;simpa using this));have C5:=jj p1;have N5:=jj (ON.drew.then B0 bJ);have z5:=N5.size;have j2:(s.1.flatMap pF).length=s.1.length*7:=qj pF 7 vP s.1;clear t0 t1 e6 v0 B0 k0 l0 o5 p1
     go_wp2_with(at_builtin;refine wpList_append_lies _ rfl (.tmp 59) (.tmp 61) _ rfl w.heap.size 51 i0 _ 7 56 underlying44 I0 R0 S0 T0 rfl aR (.slice a1 s.1.length c1) s.1.length (s.1.flatMap pF) rfl (dM O5.out _) ⟨w5.heap.size,0,none⟩ 1 1 [U d,U l,U z,U B,U D,U V,U re] rfl rfl (World.news_of_block (cs:=#[U d,U l,U z,U B,U D,U V,U re]) (t:=51) (fr:=(0,0)) (aZ.new _ _ _)) (by simp[Value.oneCell']) aR (by unfold maxLen;omega) aR (by simp;omega) (w5.heap.size+1) bJ ?_;intro g5 M w6 I H c0 O0)
     have Rg:Only (blks a1) (w5.alloc (.cells #[U d,U l,U z,U B,U D,U V,U re] 51)) w6:=(Only.refl (blks a1) _).grown H (fun k hk=> .inl (yg hk));have nb: ∀g t cs,aZ w5 g t cs->51≠t->g∉blks a1:=fun g t cs hb P0 F=>by
      cases a1 with
      |none=>cases F
      |some p=>
       simp only[blks,au] at F;exact Wj O5.out hb P0 p rfl F.symm
     refine⟨⟨k+1,aR,by go_num,(s.1++ [((d,l,z,B,D,V),re)],st2,ct2),some ⟨g5,0,none⟩,M,NX.symm,by rw[av];rfl,?_⟩,by simp[intOf];omega⟩;obtain⟨Z1,E1,F1⟩:=C5.ex;obtain⟨I1,G1,_⟩:=F1.parts;refine⟨?_,(S5.alloc _).only Rg (nb _ _ _ S5.b aV),(C5.below nC).only Rg (nb _ _ _ E1 aV) (nb _ _ _ G1 aV),?_,by rw[<-V0.out,MR];exact u.len,?_⟩
     ·rw[av,bS]
      exact I
     ·have e:=A1.out
      rw[<-ST.out,NX.out] at e;exact e
     exact(N5.alloc _).grown H (fun g hg=> .inr (O5.lt g hg).1)
   all_goals
    refine pU (by kernel_rfl) (by kernel_rfl) ?_
    repeat(go_big_quiet_step (first
     |(go_at_call 253;exact Later.same (Uk gc gl s.2.2 d _ (u.cac.below (Later.b _)) (by rw[u.len];exact C4) x0 lt LT.out))))
    refine wpQuiet_nil ?_;rintro _ ⟨x,rfl⟩;have A3:=jj (show PN w x.w gs gc gl C s a1 c1 from⟨own_below u.o x.b,u.sto.below x.b,u.cac.below x.b,u.sm,u.len,u.only.belows x.b⟩);clear t0 t1 g0 g2 g3;go_wp2_with fail;refine⟨⟨k+1,aR,by go_num,s,a1,c1,NO.symm,rfl,A3.out⟩,by simp[intOf];omega⟩
  have V1:k=E.length:=aR;subst V1;rw[dP,HS.out] at w0;subst w0;have L:=jj hA.o;have RA:=jj hA;have Z:=K1.only hA.only (by have:=NE.out;simp;omega);have H1:=jj Z;have g0:=Z.at_ 1;have fz:=Z.frozen 1;have kl:wr.ownsRow 0 51 7 (.slice al es.length cl) es.length (es.flatMap pF):=mK K2.out hA.only (fun g hg=>by have F:=yg hg;have j1:=mG K2.out K3.b aV;obtain⟨cp,a2,T1⟩:=K4.ex;obtain⟨cur,U1,_⟩:=T1.parts;have l1:=mG K2.out U1 aV;rw[hg] at j1 l1;simp only[ay,aI,or_false,not_or];exact⟨fun e=>j1 (by rw[e]),fun e=>l1 (by rw[e])⟩)
  have KL:=jj kl;have KB:=jj (show∀g,(Value.slice al es.length cl).ownBlock=some g->g<w.heap.size from fun g hg=>(K2.lt g hg).2);have zo:out.length<=E.length:=dl;have W1:=qB kl;have ol:es.length<=4096:=aR;have D1:=rF kl;have MM:=HM.out;clear Z kl hA e0 e2 e3 f0 f2 f3;have f:=jj (show G∈S/\gs∈S/\gl∈S/\ ∀k∈blks al,k∈S by rw[y0.out];exact⟨bJ,bJ,bJ,fun k hk=>by simp[hk]⟩)
  have MO:=jj (RA.only.mono (T:=S) (fun k hk=> .inl (by
   simp only[ay,aI,or_false] at hk;rcases hk with rfl|rfl
   ·exact f.2.1
   exact f.2.2.1)))
  have a0:=jj (show∀g t cs,aZ w g t cs->51≠t->g∉blks al from fun g t cs hb P0 F=>by
   cases al with
   |none=>cases F
   |some p=>
    simp only[blks,au] at F;exact Wj K2.out hb P0 p rfl F.symm)
  have SG:=jj (show G∉blks al/\gs∉blks al/\gc∉blks al/\gl∉blks al by obtain⟨cp,cb,cr⟩:=K4.ex;obtain⟨cur,cu,_⟩:=cr.parts;exact⟨a0.out _ _ _ K1.out aV,a0.out _ _ _ K3.b aV,a0.out _ _ _ cb aV,a0.out _ _ _ cu aV⟩)
  have W0:=jj (show gc≠G by obtain⟨cp,cb,cr⟩:=K4.ex;exact aZ.nY cb K1.out aV)
  have Y1:=c;by_cases h0:out.length=0
  ·obtain rfl:out= []:=jX.1 h0
   obtain rfl:m=0:=MM.symm;clear h0 zo
   go_wp2_with(at_builtin;refine rZ rfl (.tmp 68) (.tmp 69) _ rfl 51 i0 underlying44 I0 al a1 es.length cl c1 D1 W1 rfl rfl ?_)
   go_ret;have R:=(Only.refl [G] wr).setCell (p:=⟨G,1,none⟩) (.inl bJ) (.slice al es.length cl);refine⟨S,a1,c1,rfl,⟨⟨gs,gc,gl,al,cl,y0.out,?_,?_,RA.sto.only R (by have:=NE.1;simp;omega),RA.cac.only R (by have:=W0.out;simpa using this) (by have:=NE.2.1;simp;omega)⟩,⟨C1,C4⟩,RA.len,RA.sm⟩,?_,?_,MO.setCell (p:=⟨G,1,none⟩) (.inl f.1) _,fun k hk=> .inl hk⟩
   ·have:=H1.fU 1 (.slice al es.length cl)
    exact this
   ·exact ownsRow_setCell_other KL.out (mG KL.out H1.out aV) _
   ·exact ownsRow_setCell_other L.out (mG L.out H1.out aV) _
   intro g hg F;have Z:=(L.lt g hg).1;have h2:=LE.out g F;omega
  have z0:=rF L.out;obtain⟨go,rfl⟩: ∃go,a1=some ⟨go,0,none⟩:=by
   rcases z0 with⟨_,Z,_⟩|Z
   ·exact absurd Z h0
   exact Z
  have K0:=jj (Row.sG L.out);have D0:(out.flatMap pF).length=out.length*7:=qj pF 7 vP out;have J1:(es.flatMap pF).length=es.length*7:=qj pF 7 vP es;have U0:0<out.length:=aR;clear z0 h0
  go_wp2_with(at_builtin;refine wpList_append_lies _ rfl (.tmp 68) (.tmp 69) _ rfl 0 51 i0 _ 7 56 underlying44 I0 R0 S0 T0 rfl aR (.slice al es.length cl) es.length (es.flatMap pF) rfl KL.out ⟨go,0,none⟩ out.length c1 (out.flatMap pF) rfl D0 K0.news (ac1 out) U0 (by unfold maxLen;omega) aR (bF _) wr.heap.size rfl ?_;intro g5 M w6 I H c0 O0;have H6:=jj (H1.grown H (aev KL.out H1.out aV));have c6:=H6.cell 1;have o1:=H6.frozen 1;obtain⟨Z0,b1,f1⟩:=j3 c0 H I;clear c0 H I g0 fz)
  go_ret;have R1:=(Only.refl (blks al) wr).grown b1.out (fun k hk=> .inl (yg hk));have R2:=(Only.refl [G] w6).setCell (p:=⟨G,1,none⟩) (.inl bJ) (O g5 (es.length+out.length) M);have F:=HM.out;subst F;refine⟨G::gs::gc::gl:: [g5],some ⟨go,0,none⟩,c1,rfl,⟨⟨gs,gc,gl,some ⟨g5,0,none⟩,M,rfl,?_,?_,(RA.sto.only R1 SG.2.1).only R2 (by have:=NE.1;simp;omega),(RA.cac.only R1 SG.2.2.1 SG.2.2.2).only R2 (by have:=W0.out;simpa using this) (by have:=NE.2.1;simp;omega)⟩,⟨C1,C4⟩,RA.len,RA.sm⟩,?_,?_,(MO.grown b1.out (fun k hk=> .inl (f.2.2.2 k (yg hk)))).setCell (p:=⟨G,1,none⟩) (.inl f.1) _,?_⟩
  ·have:=H6.fU 1 (O g5 (es.length+out.length) M)
   rw[av];exact this
  ·rw[av,bS]
   exact ownsRow_setCell_other f1.out (mG f1.out H6.out aV) _
  ·have o6:=mK L.out R1 (fun g hg F=>by have Z:=(L.lt g hg).1;have h2:=LE.out g (f.2.2.2 g F);omega)
   exact ownsRow_setCell_other o6 (mG o6 H6.out aV) _
  ·intro g hg F
   have Z:=L.lt g hg;have hb: ∀k∈S,k<w.heap.size:=LE.out;have h2:G<w.heap.size/\gs<w.heap.size/\gl<w.heap.size:=⟨hb _ f.1,hb _ f.2.1,hb _ f.2.2.1⟩;have h3:gc<w.heap.size:=hb _ (by rw[y0.out];simp);have h4:g5<w.heap.size\/g5=wr.heap.size:=by
    rcases Z0.out with h|h
    ·exact .inl (KB.out _ h)
    exact .inr h
   simp only[ay,aI,or_false] at F;omega
  intro k hk;simp only[ay,aI,or_false] at hk;rcases hk with rfl|rfl|rfl|rfl|rfl
  ·exact .inl f.1
  ·exact .inl f.2.1
  ·exact .inl (by rw[y0.out];simp)
  ·exact .inl f.2.2.1
  rcases Z0.out with h|h
  ·exact .inl (f.2.2.2 _ (yg h))
  have:=RA.only.size;exact .inr aR
theorem aaY(S:LN)(G C:Nat)(es:List CY)(st:List (Bool×Int))(ct:List (Int×Int))(w:World)(h:Er w S G C es st ct)(n:Nat)(B:es.length=n)(P:n<=4096):
  Y 21 #[G] w fun e w'=> ∃a c,e=acK (acX a n c)/\w'.ownsRow w.heap.size 51 7 (acX a n c) n (es.flatMap pF)/\Be w w':=by
 obtain⟨I,g,o,p,q⟩:=info_parts IW;obtain⟨N,L,M,r,s,y,k1,K,D,F⟩:=h.ex;have J:=k1.at_ 1;have v:=jj K;have A:=rF K;subst B;clear k1 D F h y K;by_cases i:es.length=0
 ·obtain rfl:es= []:=jX.1 i
  clear A i;go_enter func21,ntmps21
  go_wp2_with(at_builtin;refine rZ rfl (.const ()) (.tmp 6) _ rfl 51 I underlying44 g none r 0 0 s (.inl ⟨rfl,rfl,rfl⟩) (aF _) rfl rfl ?_)
  go_ret;exact⟨none,0,rfl,⟨bJ,.inl ⟨rfl,rfl⟩⟩,aC _ _⟩
 obtain⟨go,rfl⟩: ∃go,r=some ⟨go,0,none⟩:=by
  rcases A with⟨_,l,_⟩|l
  ·exact absurd l i
  exact l
 have O:=jj (Row.sG v);have E:(es.flatMap pF).length=es.length*7:=qj pF 7 vP es;have m:0<es.length:=aR;clear A i;go_enter func21,ntmps21
 go_wp2_with(at_builtin;refine wpList_append_lies _ rfl (.const ()) (.tmp 6) _ rfl w.heap.size 51 I _ 7 56 underlying44 g o p q rfl aR () 0 [] rfl ⟨bJ,.inl ⟨rfl,rfl⟩⟩ (adZ go 0) es.length s (es.flatMap pF) rfl E O.news (ac1 es) m (by unfold maxLen;omega) aR (aF _) w.heap.size rfl ?_;intro x d W H b f t)
 simp only[aO,bU] at H;have j:=jj H;have u:=jj ((Only.refl [] w).grown b (fun k z=>by cases z)).mY;clear H b f
 go_wp2
 go_ret;exact⟨some (adZ x 0),d,rfl,j,u⟩
theorem amj(S:LN)(g C:Nat)(es:List CY)(st:List (Bool×Int))(ct:List (Int×Int))(w:World)(h:Er w S g C es st ct)(n:Nat)(a:es.length=n):
  Y 25 #[g] w fun e w'=>e=acK (U n)/\w=w':=by
 obtain⟨i,d,f,A,c,H,k1,k,K,b⟩:=h.ex;have G:=k1.at_ 1;subst a;clear k1 K b h H k;go_enter func25,ntmps25
 go_wp2
 go_ret;exact⟨rfl,rfl⟩
theorem VQ(S:LN)(g C:Nat)(es:List CY)(st:List (Bool×Int))(ct:List (Int×Int))(k:Int)(w:World)(h:Er w S g C es st ct)(i:qX k)(t:Int)(H:lastOf ct k=t):
  Y 212 #[g,U k] w fun e w'=>e=acK (U t)/\w=w':=by
 obtain⟨o,G,d,A,m,f,k1,j,l,K⟩:=h.ex;have n:=k1.at_ 3;have b:=jj K;have c:=jj (show ct.length<=4 by rw[h.len];exact h.c.2);have a:=jj H;clear k1 l K h f j H;go_enter func212,ntmps212;go_wp2_with fail;refine(Uk G d ct k _ b c i t a).mono ?_;rintro e w' ⟨rfl,rfl⟩
 go_wp2
 go_ret;exact⟨rfl,rfl⟩
theorem EN{es:List CY}(h:gD w a n 7 (es.flatMap pF))(l:es.length=n)(k:Nat)(i:k<n): ∃b o,a=some ⟨b,o,none⟩/\b<w.heap.size/\
  ∃e,es[k]?=some e/\J w b (o+k*7) (U e.1.1)/\J w b (o+k*7+1) (U e.1.2.1)/\J w b (o+k*7+2) (U e.1.2.2.1)/\J w b (o+k*7+3) (U e.1.2.2.2.1)/\
   J w b (o+k*7+4) (U e.1.2.2.2.2.1)/\J w b (o+k*7+5) (U e.1.2.2.2.2.2)/\J w b (o+k*7+6) (U e.2):=by
 obtain⟨b,o,rfl,c,d⟩:=h.2 aR;have H:k<es.length:=aR;have key: ∀j v,j<7->(pF es[k])[j]?=some v->J w b (o+k*7+j) v:=fun j v f g=>by rw[dL];exact d _ _ (nT pF 7 vP es k j f H v g)
 exact⟨b,o,rfl,c,es[k],aj H,key 0 _ aR rfl,key 1 _ aR rfl,key 2 _ aR rfl,key 3 _ aR rfl,key 4 _ aR rfl,key 5 _ aR rfl,key 6 _ aR rfl⟩
theorem afm{α:Type}(A B:List α):A.take B.length=B.take A.length↔ ∀j,j<A.length->j<B.length->A[j]?=B[j]?:=by
 constructor
 ·intro h j a H
  have:=congrArg (fun L=>L[j]?) h;simpa[iP,a,H] using this
 intro h;apply dD;intro j;rw[iP,iP];by_cases a:j<A.length
 ·by_cases H:j<B.length
  ·rw[if_pos H,if_pos a,h j a H]
  rw[if_neg H,if_pos a,fT aR]
 by_cases H:j<B.length
 ·rw[if_pos H,if_neg a,fT aR]
 rw[if_neg a,if_neg H]
theorem agU(a1:OA)(n1 c1:Nat)(a2:OA)(n2 c2:Nat)(E c:List CY)(w:World)(f:gD w a1 n1 7 (E.flatMap pF))(g:gD w a2 n2 7 (c.flatMap pF))(L:E.length=n1)(o:c.length=n2)(a0:n1<=4096)(b0:n2<=4096)(b:Bool)(Q:b=true↔E.take n2=c.take n1):
  Y 68 #[.slice a1 n1 c1,.slice a2 n2 c2] w fun e w'=>e= .returned b/\Be w w':=by
 obtain⟨H1,H2,L1,L2⟩:=j4 f g L o;have HT:=jj (show(∀j,j<n1->j<n2->E[j]?=c[j]?)->b=true from fun h=>by rw[Q,<-L,<-o];exact(afm E c).2 (by rw[L,o];exact h))
 have HF:=jj (show∀j,j<n1->j<n2->E[j]?≠c[j]?->b=false from fun j f g h3=>by
  cases b
  ·rfl
  have h:=Q.1 rfl;rw[<-L,<-o] at h;exact absurd ((afm E c).1 h j aR aR) h3)
 clear f g L o Q;go_enter func68,ntmps68;go_wp2_with fail;go_loopw [5] (fun i wr=> ∃k:Nat,k<=4096/\i= U k/\(∀j,j<k->j<n1->j<n2->E[j]?=c[j]?)/\Be w wr) (fun i _=>5000 -(intOf i).toNat)
 case atStart=>exact⟨0,aR,rfl,fun j Z=>absurd Z aR,aC _ _⟩
 case round=>
  obtain⟨k,hk,rfl,d,n⟩:=hrel;have V:=jj d;have B:=jj n;clear d n;rcases(show(k<n1/\k<n2)\/ ¬k<n1\/(k<n1/\ ¬k<n2) by omega) with⟨k1,k2⟩|k1|⟨k1,k2⟩
  ·obtain⟨b1,o1,rfl,R,⟨⟨x,X,p,q,r,s⟩,t⟩,l,p0,p1,p2,p3,p4,p5,p6⟩:=EN (H1.below B) L1 k k1
   obtain⟨b2,o2,rfl,S,⟨⟨y,u,v,A,C,D⟩,F⟩,m,q0,q1,q2,q3,q4,q5,q6⟩:=EN (H2.below B) L2 k k2;simp only at p0 p1 p2 p3 p4 p5 p6 q0 q1 q2 q3 q4 q5 q6;have i0:(0:Int)<=k:=aR;have i1:(k:Int)<n1:=aR;have i2:(k:Int)<n2:=aR;have a:=jj (show((((x,X,p,q,r,s),t):CY)≠((y,u,v,A,C,D),F))->b=false from fun T=>HF.out k k1 k2 (by rw[l,m];exact fun e=>T (dh e)));have G:=jj (show((((x,X,p,q,r,s),t):CY)=((y,u,v,A,C,D),F))-> ∀j,j<k+1->j<n1->j<n2->E[j]?=c[j]? from fun hh j Z f g=>by
    rcases iZ j k with h|h
    ·exact V.out j h f g
    obtain rfl:j=k:=aR;rw[l,m,hh])
   clear l m R S;by_cases I:x=y
   ·subst I
    by_cases J:X=u
    ·subst J
     by_cases K:p=v
     ·subst K
      by_cases M:q=A
      ·subst M
       by_cases N:r=C
       ·subst N
        by_cases O:s=D
        ·subst O
         by_cases P:t=F
         ·subst P
          have W:=G.out rfl;have HG:=jj W;clear W;go_wp2_with fail;go_quiet(fail);go_wp2_with fail;refine⟨⟨k+1,aR,by go_num,HG,below_drewN B nq⟩,by simp[intOf];omega⟩
         have H:=a.out (fun h=>P (congrArg (fun(z:CY)=>z.2) h));subst H;have ne:(t==F)=false:=beq_eq_false_iff_ne.2 P;go_wp2_with fail;go_quiet(fail);go_wp2_with fail;go_ret;exact⟨rfl,below_drewN B nq⟩
        have H:=a.out (fun h=>O (congrArg (fun(z:CY)=>z.1.2.2.2.2.2) h));subst H;have ne:(s==D)=false:=beq_eq_false_iff_ne.2 O;go_wp2_with fail;go_quiet(fail);go_wp2_with fail;go_ret;exact⟨rfl,below_drewN B nq⟩
       have H:=a.out (fun h=>N (congrArg (fun(z:CY)=>z.1.2.2.2.2.1) h));subst H;have ne:(r==C)=false:=beq_eq_false_iff_ne.2 N;go_wp2_with fail;go_quiet(fail);go_wp2_with fail;go_ret;exact⟨rfl,below_drewN B nq⟩
      have H:=a.out (fun h=>M (congrArg (fun(z:CY)=>z.1.2.2.2.1) h));subst H;have ne:(q==A)=false:=beq_eq_false_iff_ne.2 M;go_wp2_with fail;go_quiet(fail);go_wp2_with fail;go_ret;exact⟨rfl,below_drewN B nq⟩
     have H:=a.out (fun h=>K (congrArg (fun(z:CY)=>z.1.2.2.1) h));subst H;have ne:(p==v)=false:=beq_eq_false_iff_ne.2 K;go_wp2_with fail;go_quiet(fail);go_wp2_with fail;go_ret;exact⟨rfl,below_drewN B nq⟩
    have H:=a.out (fun h=>J (congrArg (fun(z:CY)=>z.1.2.1) h));subst H;have ne:(X==u)=false:=beq_eq_false_iff_ne.2 J;go_wp2_with fail;go_quiet(fail);go_wp2_with fail;go_ret;exact⟨rfl,below_drewN B nq⟩
   have H:=a.out (fun h=>I (congrArg (fun(z:CY)=>z.1.1) h));subst H;have ne:(x==y)=false:=beq_eq_false_iff_ne.2 I;go_wp2_with fail;go_quiet(fail);go_wp2_with fail;go_ret;exact⟨rfl,below_drewN B nq⟩
  all_goals
   have hT:=HT.out (fun j f g=>V.out j aR f g);subst hT;go_wp2_with fail;go_ret;exact⟨rfl,B⟩
theorem YD(v n:Int)(l:1<=n):(0<=v.tmod n->v%n=v.tmod n)/\(v.tmod n<0->v%n=v.tmod n+n)/\ -n<v.tmod n/\v.tmod n<n:=by
 have d:=jA v (show n≠0 by omega);have f:=iQ v (show 0<n by omega);have g:v.tmod n<n:=Int.tmod_lt_of_pos v aR;rcases Int.le_total 0 v with h|h
 ·have:v.tmod n=v%n:=gN h
  rw[this];omega
 have e:(-v).tmod n=(-v)%n:=gN aR;have E:v.tmod n= -((-v)%n):=by rw[<-e,Int.neg_tmod];omega
 have i:=jA (-v) (show n≠0 by omega);have j:=iQ (-v) (show 0<n by omega);have H:(v%n+(-v)%n)%n=0:=by rw[<-Int.add_emod,Int.add_right_neg,Int.zero_emod]
 rw[E];generalize v%n=a at*;generalize (-v)%n=b at*;have k:a+b=0\/a+b=n:=by
  rcases Int.lt_or_le (a+b) n with c|c
  ·left
   rw[jQ aR c] at H;exact H
  right;have:(a+b)%n=(a+b -n)%n:=by rw[Int.sub_emod_right]
  rw[this,jQ aR aR] at H;omega
 omega
theorem Sg(v n:Int)(w:World)(b:qX v)(H:1<=n)(a:n<=4611686018427387904):
  Y 9 #[U v,U n] w fun e w'=>e=acK (U (v%n))/\w=w':=by
 obtain⟨c,d⟩:=b;obtain⟨t,T,f,g⟩:=YD v n H;by_cases j:0<=v
 ·have E:=jA v (show n≠0 by omega)
  have i:=iQ v (show 0<n by omega);clear t T f g;go_enter func9,ntmps9
  go_wp2
  go_ret;exact⟨rfl,rfl⟩
 by_cases h:v.tmod n<0
 ·have e:=jj (T h)
  clear t T;go_enter func9,ntmps9
  go_wp2
  go_ret;exact⟨by rw[e.out];rfl,rfl⟩
 have e:=jj (t aR);clear t T;go_enter func9,ntmps9
 go_wp2
 go_ret;exact⟨by rw[e.out];rfl,rfl⟩
theorem acF(v n:Int)(w:World)(b:qX v)(a:1<=n)(h:n<=4611686018427387904):
  Y 9 #[U v,U n] w fun e w'=> ∃q,e=acK (U q)/\Hid (q=v%n)/\0<=q/\q<n/\w=w':=
 (Sg v n w b a h).mono fun e w' ⟨H,c⟩=>⟨_,H,jj rfl,jA v aR,iQ v aR,c⟩
section
open Go.RowKit Go.Proofs.Tryz Go.ChangeShapes Go.WideShapes Go.ChangeAt Go.Deep
def alf(w:World)(a:OA)(n:Nat)(g:Nat->Bool):Prop:=0<n-> ∃b o,a=some ⟨b,o,none⟩/\b<w.heap.size/\ ∀i,i<n->J w b (o+i) (g i)
section
variable{H:Type}{enc:TypeId×Value->H}{P:Program}{w:World}{base:Nat}{spare:Nat->Bool}{held:Bool}
def ah2(v:Option Value):Bool:=match v with|some (.bool z)=>z|_=>false
theorem open_bools {t e:TypeId}    {d:DataW H} {p:List MemPlace} (y:P.underlying t=some (.slice e)) (E:P.underlying e=some .bool) (B:P.cellsOf e=1)
  (L:Value.okWide P w r b0 t v) (h:DataW.Trod enc P w base (fun _=>true) held t v d p): ∃a n c g,v= .slice a n c/\n<=c/\c<=maxLen/\alf w a n g:=by
 obtain⟨N,n,c,rfl⟩:=okWide_slice y L;obtain⟨fuel,F⟩:=h;rcases open_slice y F with⟨f,_⟩|⟨a,len,C,m,Q,D,M,f,_,I,J,s,_,G⟩
 ·simp[Value.cells] at f
  obtain⟨rfl,rfl,rfl⟩:=f;exact⟨none,0,0,fun _=>false,rfl,aR,by simp[maxLen],fun h=>absurd h aR⟩
 simp[Value.cells] at f;obtain⟨rfl,rfl,rfl⟩:=f;have q:m=c:=by simpa using s
 subst q;have key: ∀i,i<n-> ∃z:Bool,w.cell? (a.add i)=some (.bool z):=by intro i k;obtain⟨A,x,u⟩:=G i aR;rw[B,fP] at x;obtain⟨z,rfl,_⟩:=DataW.trod_bool E u;obtain⟨_,_,o⟩:=World.cells?_some x;have:=o 0 aR;refine⟨z,?_⟩;rw[show(a.add i).add 0=a.add i by simp[Addr.add]] at this;exact this
 refine⟨some a,n,m,fun i=>ah2 (w.cell? (a.add i)),rfl,I,J,fun K=> ?_⟩;obtain⟨z,l⟩:=key 0 K;obtain⟨b,O,spot⟩:=a;have j:spot=none:=by simpa[Addr.add] using World.cell?_spot l
 subst j;refine⟨b,O,rfl,by simpa[Addr.add] using lt_of_cell l,fun i k=> ?_⟩;obtain⟨z,l⟩:=key i k;show w.cell? _=some (Value.bool (ah2 _));rw[l,<-addr_add,l];rfl
end
structure zw where
 a:Option Addr
 n:Nat
 c:Nat
 es:List CY
structure zw.Ok(w:World)(e:CY)(l:zw):Prop where
 row:gD w l.a l.n 7 (l.es.flatMap pF)
 len:l.es.length=l.n
 one:l.es= []\/l.es= [e]
def zw.val(l:zw):Value:=acX l.a l.n l.c
theorem zw.Ok.below{e:CY}{l:zw}(h:l.Ok w e)(H:Be w w'):l.Ok w' e:=⟨h.row.below H,h.len,h.one⟩
theorem ajr(w:World)(A:OA)(m c:Nat)(L:List zw)(e:CY)(N:L.length=m)(hm:m<=4096)(Q:gD w A m 1 (L.map zw.val))(ok: ∀l∈L,l.Ok w e):
  Y 35 #[.slice A m c] w fun x w'=>x= .returned true/\Be w w':=by
 obtain⟨T,I,G⟩:=j3 Q ok N;clear Q ok N;go_enter func35,ntmps35;go_wp2_with fail;go_loopw [7] (fun z wr=> ∃i:Nat,i<=m/\z= U i/\Be w wr) (fun z _=>m -(intOf z).toNat)
 case atStart=>exact⟨0,aR,by first|rfl|simp,aC _ _⟩
 case round=>
  obtain⟨i,hi,rfl,r⟩:=hrel;have B:=jj r;clear r;by_cases C:i<m
  ·have Z:(i:Int)<m:=aR
   have i0:(0:Int)<=i:=aR;go_wp2_with fail;go_loopw [4] (fun z wx=> ∃j:Nat,j<=i/\z= U j/\Be w wx) (fun z _=>i -(intOf z).toNat)
   case atStart=>exact⟨0,aR,by first|rfl|simp,B⟩
   case round=>
    obtain⟨j,hj,rfl,r⟩:=hrel;have n:=jj r;clear r;by_cases P:j<i
    ·have j1:(j:Int)<i:=aR
     have j0:(0:Int)<=j:=aR;have j2:(j:Int)<m:=aR;obtain⟨a,g⟩: ∃l,L[i]?=some l:=⟨_,aj (by rw[G.out];exact C)⟩;obtain⟨d,k⟩: ∃l,L[j]?=some l:=⟨_,aj (by rw[G.out];omega)⟩;have V:=jj ((I.out a (ak g)).below (by have:=n.out;exact this))
     have W:=jj ((I.out d (ak k)).below (by have:=n.out;exact this))
     obtain⟨b,o,rfl,H,y⟩:=T.2 aR;have F:=F9 (∀u,Be w u->J u b (o+i) (.slice a.a a.n a.c)/\J u b (o+j) (.slice d.a d.n d.c)) fun u R=>⟨(R.cell (p:=⟨b,o+i,none⟩) H).trans (y i _ (by rw[aS,g];rfl)),(R.cell (p:=⟨b,o+j,none⟩) H).trans (y j _ (by rw[aS,k];rfl))⟩;clear y H g k;go_upto_region 7 with fail;refine rP (fun u=>J u b (o+i) (.slice a.a a.n a.c)/\J u b (o+j) (.slice d.a d.n d.c)) 10 (tk 0 8 (.one 8 (.take 9 .done))) (F.out _ (n.trans (aC _ _).drew)) ?_;intro q;obtain⟨t,h⟩:=ex wr.drew;have S:=F9 (Be w t) (by rw[h];exact n.trans (aC _ _).drew);have O:=F9 (a.Ok t e) (by rw[h];exact V.below (aC _ _).drew);have f:=F9 (d.Ok t e) (by rw[h];exact W.below (aC _ _).drew);rw[<-h] at q|-;clear h
     repeat refine' tT ?_
     refine pO fun KT bq=> ?_;go_simp;have D:=F9 (a.n<=1/\d.n<=1/\(true=true↔a.es.take d.n=d.es.take a.n)) (by have v:=O.len;have a2:=f.len;rcases O.one with K|K<;>rcases f.one with M|M<;>rw[K] at v|- <;>rw[M] at a2|- <;>simp at v a2<;>rw[<-v,<-a2]<;>simp)
     refine(agU a.a a.n a.c d.a d.n d.c a.es d.es t O.row f.row O.len f.len (tL D.1) (tL D.2.1) true D.2.2).mono ?_;rintro x u8 ⟨rfl,s⟩;have E:=nO S s;have X:=F.out _ E;clear s;refine oH bq X ?_
     repeat refine' tT ?_
     refine aU ?_;clear q;go_wp2_with fail;go_roundw
     case rel=>exact⟨j+1,aR,by go_num,E⟩
     simp[intOf];omega
    have j1: ¬(j:Int)<i:=aR;go_wp2_with fail;go_roundw
    case rel=>exact⟨i+1,aR,by go_num,n⟩
    simp[intOf];omega
  have Z: ¬(i:Int)<m:=aR;go_wp2_with fail;go_ret;exact⟨by trivial,B⟩
end
def Loose(w:World)(a:OA)(e:TypeId)(s n c:Nat)(xs:LV):Prop:=
 xs.length=n*s/\n<=c/\c<=maxLen/\(a=none/\n=0/\c=0\/ ∃(g:Nat) (C:AV),a=some ⟨g,0,none⟩/\aZ w g e C/\c*s<=C.size/\ ∀(i:Nat) (v:Value),xs[i]?=some v->C[i]?=some v)
section
variable{w w':World}{a:OA}{e:TypeId}{s n c:Nat}{xs:LV}{S:LN}
theorem Loose.nil(w:World)(e:TypeId)(s:Nat):Loose w none e s 0 0 []:=⟨bJ,aF _,bF _,.inl ⟨rfl,rfl,rfl⟩⟩
theorem Loose.EI(h:Loose w a e s n c xs):n<=c:=h.2.1
theorem Loose.sG{base:Nat}(h:w.ownsRow base e s (acX a n c) n xs):Loose w a e s n c xs:=by
 rcases h.2 with⟨H,d⟩|⟨g,b,C,H,_,m,f,j,k,l⟩
 ·injection H with e1 e2 e3
  subst e1;subst d;subst e3;exact⟨h.1,aF _,bF _,.inl ⟨rfl,rfl,rfl⟩⟩
 injection H with e1 e2 e3;subst e1;subst e3;refine⟨h.1,f,j,.inr ⟨g,C,rfl,m,by rw[k];exact aF _,fun i v H=> ?_⟩⟩;rw[<-l,iP] at H;split at H
 ·simpa using H
 cases H
theorem Loose.blk(h:Loose w (some p) e s n c xs): ∃C:Array Value,p=⟨p.block,0,none⟩/\aZ w p.block e C/\c*s<=C.size/\ ∀(i:Nat) (v:Value),xs[i]?=some v->C[i]?=some v:=by
 rcases h.2.2.2 with⟨H,_⟩|⟨g,C,H,a,b,d⟩
 ·cases H
 injection H with H;subst H;exact⟨C,rfl,a,b,d⟩
theorem Loose.lt(h:Loose w (some p) e s n c xs):p.block<w.heap.size:=by obtain⟨C,_,H,_⟩:=h.blk;exact H.lt
theorem Loose.only(h:Loose w a e s n c xs)(i:Only S w w')(f: ∀p,a=some p->p.block∉S):Loose w' a e s n c xs:=by
 refine⟨h.1,h.2.1,h.2.2.1,?_⟩;rcases h.2.2.2 with j|⟨g,C,rfl,H,b,d⟩
 ·exact .inl j
 exact .inr ⟨g,C,rfl,H.only i (f _ rfl),b,d⟩
theorem Loose.below(h:Loose w a e s n c xs)(H:Be w w'):Loose w' a e s n c xs:=h.only (Only.of_below (S:= []) H) (fun _ _=>aI)
theorem Loose.drew(h:Loose w a e s n c xs):Loose w.drew a e s n c xs:=h
theorem Loose.drewN(h:Loose w a e s n c xs)(k:Nat):Loose (w.drewN k) a e s n c xs:=h
theorem Loose.alloc(h:Loose w a e s n c xs)(o:Obj):Loose (w.alloc o) a e s n c xs:=h.below nC
theorem Loose.far(h:Loose w a e s n c xs)(H: ∀q,a=some q->q.block≠p.block)(u:Value):Loose (w.setCell p u) a e s n c xs:=
 h.only (S:= [p.block]) ((Only.refl _ w).setCell (.inl bJ) u) fun q b=>by simpa using H q b
theorem Loose.news(h:Loose w (some p) e s n c xs): ∀j u,xs[j]?=some u->w.cell? (p.add j)=some u:=by
 obtain⟨C,b,H,f,a⟩:=h.blk;intro j u d;rw[b];have e:((⟨p.block,0,none⟩:Addr).add j)=⟨p.block,j,none⟩:=by rw[addr_add,aO]
 rw[e,H.cell];exact a j u d
theorem Loose.cut(h:Loose w a e s n c xs)(m:k<=n)(c':Nat)(f:k<=c')(b:c'<=c):Loose w a e s k c' (xs.take (k*s)):=by
 refine⟨by rw[cO,h.1];exact fO (dN s m),f,aG b h.2.2.1,?_⟩;rcases h.2.2.2 with⟨rfl,o,d⟩|⟨g,C,rfl,d,j,l⟩
 ·exact .inl ⟨rfl,aR,aR⟩
 refine .inr ⟨g,C,rfl,d,aG (dN s b) j,fun i v H=>l i v ?_⟩;rw[iP] at H;split at H
 ·exact H
 cases H
theorem Loose.ne(h:Loose w a e s n c xs){t:TypeId}{cs:AV}(b:aZ w g' t cs)(H:e≠t): ∀p,a=some p->p.block≠g':=by rintro p rfl;obtain⟨C,_,d,_⟩:=h.blk;exact d.nY b H
end
theorem BP{t:TypeId}: ∀(vs:LV) (o:Nat) (w:World) (cur:AV),aZ w g t cur-> ∃cur',aZ (w.setCells g o vs) g t cur'/\cur'.size=cur.size
 | [],o,w,cur,h=>⟨cur,h,rfl⟩
 |v::vs,o,w,cur,h=>by obtain⟨cur',h1,h2⟩:=BP vs (o+1) _ _ (h.fU o v);exact⟨cur',h1,by rw[h2];simp⟩
theorem Am(hg:g∈S): ∀(vs:LV) (o:Nat) (a w:World),Only S a w->Only S a (w.setCells g o vs)
 | [],o,a,w,h=>h
 |v::vs,o,a,w,h=>Am hg vs (o+1) a _ (h.setCell (.inl hg) v)
theorem xk    {a:Act}    
  (hg:o.guard=none) (s x:Operand) (t:TypeId) (J:o.op=Op.call {callee:=Callee.builtin Builtin.append,args:=#[s,x],argTypes:=#[t,t]})
  (e:TypeId) (i:TypeInfo) (z:Value) (size bytes:Nat) (X:P.underlying t=some (.slice e)) (Y:P.info? e=some i) (h3:i.zero=some z) (Z:i.size=size) (h5:i.bytes=bytes) (h6:z.cells.size=size) (h7:0<size)
  (A:OA) (n cap:Nat) (d:LV) (hs:a.eval s= .slice A n cap) (h:Loose w A e size n cap d)
  (N:Addr) (m c:Nat) (news:LV) (hx:a.eval x= .slice (some N) m c) (S:news.length=m*size) (hc: ∀j u,news[j]?=some u->w.cell? (N.add j)=some u) (B: ∀u∈news,u.oneCell'=true)
  (hm:0<m) (b1:n+m<=maxLen) (b2:(n+m)*bytes<=140737488355328)
  (hK: ∀g' c' w',Loose w' (some ⟨g',0,none⟩) e size (n+m) c' (d++news)->Only (A.map (·.block)).toList w w'->(A=some ⟨g',0,none⟩\/w.heap.size<=g')->K (a.put o.dst (O g' (n+m) c')) w'):
  if Region.wanted o (yielded ops a.tmps)=true then Oper.wp P o a w K Q else E:=by
 by_cases V:n+m<=cap
 ·obtain⟨q,rfl⟩: ∃q,A=some q:=by
   rcases h.2.2.2 with⟨_,r,y⟩|⟨g,_,rfl,_⟩
   ·omega
   exact⟨_,rfl⟩
  obtain⟨f,hq,R,F,T⟩:=h.blk;obtain⟨g,rfl⟩: ∃g,q=⟨g,0,none⟩:=⟨_,hq⟩;have a0:n*size+m*size<=f.size:=by rw[<-iH];exact aG (dN size V) F
  have L: ∀j,j<news.length->(w.cell? ⟨g,0+n*size+j,none⟩).isSome=true/\w.frozen? ⟨g,0+n*size+j,none⟩=false:=by intro j G;rw[S] at G;refine⟨?_,R.frozen _⟩;rw[R.cell];have:0+n*size+j<f.size:=aR;simp only[bD this,lW]
  refine step_append_room hg s x t J e i size X Y Z g 0 n cap hs N m c news hx S hc B V L ?_;refine hK g cap _ ⟨by rw[av,h.1,S,iH],V,h.2.2.1,.inr ?_⟩ (Am bJ _ _ _ _ (Only.refl _ w)) (.inl rfl);obtain⟨C,D,W⟩:=BP news (0+n*size) w f R;refine⟨g,C,rfl,D,by rw[W];exact F,fun j v M=> ?_⟩;rw[<-D.cell];by_cases G:j<n*size
  ·rw[World.cell?_setCells_out g news _ w _ (fun _ _=> .inl (by show j<_;omega)),R.cell]
   rw[bC (by rw[h.1];exact G)] at M;exact T j v M
  rw[bN (by rw[h.1];omega),h.1] at M;have I:j -n*size<news.length:=(ah.1 M).1;have:=World.cell?_setCells_in g news (0+n*size) w (fun j G=>(L j G).1) (j -n*size) I;rw[show 0+n*size+(j -n*size)=j by omega] at this;rw[this,<-M,aj I]
 refine step_append_grows hg s x t J e i z size bytes X Y h3 Z h5 h6 h7 A n cap d hs ?_ h.1 ?_ N m c news hx S hc B aR b1 b2 ?_
 ·intro r
  rcases h.2.2.2 with⟨_,r,y⟩|⟨g,_,rfl,_⟩
  ·exact⟨r,y⟩
  cases r
 ·rintro b rfl j u hu
  exact h.news j u hu
 intro v' w' H l;rcases H.2 with⟨rfl,r⟩|⟨g',p,C,rfl,U,_⟩
 ·omega
 exact hK g' p w' (Loose.sG H) ((Only.refl _ w).grown l (fun k hk=>by cases hk)) (.inr U)
theorem rY     {a:Act}    (d:o.guard=none) (s x:Operand) (t:TypeId)
  (l:o.op= .call {callee:= .builtin .append,args:=#[s,x],argTypes:=#[t,t]}) (e:TypeId) (i:TypeInfo) (p:P.underlying t=some (.slice e)) (j:P.info? e=some i) (b A:OA) (n cap c:Nat)
  (f:b=none/\n=0/\cap=0\/ ∃g,b=some ⟨g,0,none⟩) (k:n<=cap)
  (m:a.eval s= .slice b n cap) (hx:a.eval x= .slice A 0 c) (h:K (a.put o.dst (.slice b n cap)) w):
  if Region.wanted o (yielded ops a.tmps)=true then Oper.wp P o a w K Q else E:=by
 have q:Region.wanted o (yielded ops a.tmps)=true:=by simp[Region.wanted,d]
 rw[if_pos q];have H:=zF (P:=P) w t o.type e i p j b A n cap c f k;unfold Oper.wp;simp[execOp,l,resolve,invoke,builtin,m,hx,H,Result.andThen];exact h
theorem Loose.addr{e:TypeId}(h:Loose w a e s n c xs):a=none/\n=0/\c=0\/ ∃g,a=some ⟨g,0,none⟩:=by
 rcases h.2.2.2 with h|⟨g,_,h,_⟩
 ·exact .inl h
 exact .inr ⟨g,h⟩
theorem Iw{w0:World}{T E:Nat}(h:Loose w0 a E s n c xs)(b:P.underlying T=some (.slice E))(H:P.elem T=E)(f: ∀w:World,(sizeOf E).run P w= .ok s w)(k:Nat)(m:k<=n)(i:Int)(d:i=k):
  ∃A,(∀(w:World),(Instr.slice T (.slice a n c) (some (U i)) none none).run P w= .ok (.slice A (n -k) (c -k)) w)/\(k<n-> ∃g,a=some ⟨g,0,none⟩/\A=some ⟨g,k*s,none⟩):=by
 subst d;have l:=h.EI;refine⟨if c=k then a else a.map (·.add (k*s)),fun w=> ?_,fun e=> ?_⟩
 ·have h:=run_slice_l (P:=P) (w:=w) T a n c (by rw[H];exact b) .i64 k aR aR
  rw[h,H,f w];show Result.ok (sliced a ((k:Int).toNat) n c s) w=_;rw[bI];simp only[sliced]
 rcases h.addr with⟨_,j,_⟩|⟨g,rfl⟩
 ·omega
 exact⟨g,rfl,by rw[if_neg aR];simp[addr_add]⟩
theorem acs{T E:Nat}(b:P.underlying T=some (.slice E))(H:P.elem T=E)(d: ∀w:World,(sizeOf E).run P w= .ok s w)(k:Nat)(g:k<=n)(f:n<=c)(w:World):
  (Instr.slice T (.slice a n c) none (some (U k)) (some (U k))).run P w= .ok (.slice a k k) w:=by
 have h:=run_slice_hm (P:=P) (w:=w) T a n c (by rw[H];exact b) .i64 .i64 k k aR aR aR;rw[h,H,d w];show Result.ok (sliced a 0 ((k:Int).toNat) ((k:Int).toNat) s) w=_;simp only[sliced,bI,jc];have e:a.map (·.add (0*s))=a:=by
  cases a with
  |none=>rfl
  |some p=>simp[Addr.add]
 rw[e];split<;>rfl
def mZ(bs:LI):List Value:=bs.map (Value.int .u8)
theorem Io(bs:LI):(mZ bs).length=bs.length:=by simp[mZ]
theorem yh(bs:LI): ∀v∈mZ bs,v.oneCell'=true:=by intro v h;simp only[mZ,bM] at h;obtain⟨x,_,rfl⟩:=h;rfl
def Gn(w:World)(B:Nat)(v:Value)(bs:LI):Prop:= ∃a c,v=acX a bs.length c/\w.ownsRow B 5 1 (acX a bs.length c) bs.length (mZ bs)
section
variable{w w':World}{B B':Nat}{v:Value}{bs:LI}{S:LN}
theorem Gn.only(h:Gn w B v bs)(j:Only S w w')(f: ∀k∈S,∀cs,¬aZ w k 5 cs):Gn w' B v bs:=by
 obtain⟨a,c,rfl,d⟩:=h;refine⟨a,c,rfl,mK d j fun k H i=> ?_⟩;rcases d.2 with⟨b,_⟩|⟨K,C,e,b,_,g,_⟩
 ·rw[b] at H;simp[Value.ownBlock] at H
 rw[b] at H;simp only[Value.ownBlock,aD] at H;subst H;exact f _ i _ g
theorem Gn.below(h:Gn w B v bs)(H:Be w w'):Gn w' B v bs:=h.only (Only.of_below (S:= []) H) bJ
theorem Gn.drewN(h:Gn w B v bs)(k:Nat):Gn (w.drewN k) B v bs:=h
theorem Gn.alloc(h:Gn w B v bs)(o:Obj):Gn (w.alloc o) B v bs:=h.below nC
theorem Gn.base(h:Gn w B v bs)(b:B'<=B):Gn w B' v bs:=by obtain⟨a,c,rfl,H⟩:=h;exact⟨a,c,rfl,DI H fun g d=>aG b (H.lt g d).1⟩
end
structure xX(w:World)(q g:Nat)(room lost:Int)(ms:List (Value×List Int)):Prop where
 ex: ∃a c,aZ w q 217 #[U room,U lost,acX a ms.length c]/\Loose w a 140 1 ms.length c (ms.map Prod.fst)/\(a=none/\g=q\/a=some ⟨g,0,none⟩)
 tx: ∀m∈ms,Gn w 0 m.1 m.2/\m.2.length<=65536
 n:ms.length<=4096
section
variable{w w':World}{q g:Nat}{room lost:Int}{ms:List (Value×List Int)}{S:LN}
theorem xX.lt(h:xX w q g room lost ms):q<w.heap.size:=by obtain⟨a,c,H,_⟩:=h.ex;exact H.lt
theorem xX.glt(h:xX w q g room lost ms):g<w.heap.size:=by
 obtain⟨a,c,H,b,d⟩:=h.ex;rcases d with⟨_,rfl⟩|rfl
 ·exact H.lt
 exact b.lt
theorem xX.no8(h:xX w q g room lost ms): ∀k∈ [q,g],∀cs,¬aZ w k 5 cs:=by
 obtain⟨a,c,d,f,i⟩:=h.ex;intro k b cs H;have n:k≠q:=fun e=>by subst e;exact aZ.nY d H aV rfl
 simp only[ay,aI,or_false] at b;rcases b with rfl|rfl
 ·exact n rfl
 rcases i with⟨_,rfl⟩|rfl
 ·exact n rfl
 obtain⟨C,_,j,_⟩:=f.blk;exact aZ.nY j H aV rfl
theorem xX.only(h:xX w q g room lost ms)(b:Only S w w')(n:q∉S)(l:g∉S)(j: ∀k∈S,∀cs,¬aZ w k 5 cs):xX w' q g room lost ms:=by
 obtain⟨a,c,f,i,d⟩:=h.ex;refine⟨⟨a,c,f.only b n,i.only b ?_,d⟩,fun m e=>⟨(h.tx m e).1.only b j,(h.tx m e).2⟩,h.n⟩;rintro p rfl;rcases d with⟨H,_⟩|H
 ·cases H
 injection H with H;subst H;exact l
theorem xX.below(h:xX w q g room lost ms)(H:Be w w'):xX w' q g room lost ms:=h.only (Only.of_below (S:= []) H) bJ bJ bJ
theorem xX.drewN(h:xX w q g room lost ms)(k:Nat):xX (w.drewN k) q g room lost ms:=⟨h.ex,h.tx,h.n⟩
end
theorem wU:(prog.info? 5).map (fun i=>(i.zero,i.size,i.bytes))=some (some (.int .u8 0),1,1):=by kernel_rfl
theorem Og:(prog.info? 140).map (fun i=>(i.zero,i.size,i.bytes))=some (some (acX none 0 0),1,24):=by kernel_rfl
theorem WH(w:World):(sizeOf 140).run prog w= .ok 1 w:=by obtain⟨j,h,a,H,b⟩:=info_parts Og;simp[sizeOf,typeInfo,h,H]
theorem VF(a:OA)(n c:Nat)(bs:LI)(w:World)(h:gD w a n 1 (mZ bs))(D:n<=65537):
  Y 148 #[acX a n c] w fun e w'=> ∃v,e=acK v/\Gn w' w.heap.size v bs/\Be w w':=by
 obtain⟨I,g,m,p,q⟩:=info_parts wU;have A:n=bs.length:=by have:=h.1;rw[Io,fP] at this;exact this.symm
 subst A;by_cases t:bs.length=0
 ·obtain rfl:bs= []:=dA t
  clear h;go_enter func148,ntmps148
  go_wp2_with(at_builtin;refine rZ rfl _ _ _ rfl 5 I underlying140 g none a 0 0 c (.inl ⟨rfl,rfl,rfl⟩) (aF _) rfl rfl ?_)
  go_ret;exact⟨_,rfl,⟨none,0,rfl,⟨rfl,.inl ⟨rfl,rfl⟩⟩⟩,aC _ _⟩
 obtain⟨b,o,rfl,B,x⟩:=h.2 aR;have l:=Io bs;have i:=yh bs;have f: ∀j u,(mZ bs)[j]?=some u->w.cell? (((adZ b o):Addr).add j)=some u:=fun j u y=>by rw[addr_add];exact x j u y
 go_enter func148,ntmps148
 go_wp2_with(at_builtin;refine wpList_append_lies _ rfl _ _ _ rfl w.heap.size 5 I _ 1 1 underlying140 g m p q rfl aR () 0 [] rfl ⟨rfl,.inl ⟨rfl,rfl⟩⟩ (adZ b o) bs.length c (mZ bs) rfl (by rw[l,fP]) f i aR (by unfold maxLen;omega) aR (aF _) w.heap.size rfl ?_;intro G C W H d r s)
 go_ret;rw[aO,bU] at H;exact⟨_,rfl,⟨some (adZ G 0),C,rfl,H⟩,((Only.refl [] w).grown d (fun k z=>by cases z)).mY⟩
theorem XU(room:Int)(w:World)(h:1<=room)(H:room<=256):
  Y 71 #[U room] w fun e w'=> ∃q,e=acK (ac2 #[(q:Nat),U 0])/\xX w' q q room 0 []/\w.heap.size<=q/\Be w w':=by
 go_enter func71,ntmps71
 go_wp2
 go_ret2
 exact⟨w.heap.size,rfl,⟨⟨none,0,aZ.new _ _ _,Loose.nil _ _ _,.inl ⟨rfl,rfl⟩⟩,bJ,bJ⟩,aF _,nC⟩
theorem aa2(q g:Nat)(room lost:Int)(ms:List (Value×List Int))(w:World)(h:xX w q g room lost ms)(n:Nat)(f:ms.length=n):
  Y 84 #[q] w fun e w'=>e=acK (U n)/\w=w':=by
 subst f;obtain⟨a,c,H,b,d⟩:=h.ex;have C:=H.at_ 2;clear h H b d;go_enter func84,ntmps84
 go_wp2
 go_ret;exact⟨rfl,rfl⟩
theorem ad3(q g:Nat)(room lost:Int)(ms:List (Value×List Int))(k:Int)(w:World)(h:xX w q g room lost ms)(l:qX k)(b:Bool)(H:decide (0<=k/\k<ms.length)=b):
  Y 149 #[q,U k] w fun e w'=>e=acK b/\w=w':=by
 have m:=h.n;obtain⟨a,c,d,i,j⟩:=h.ex;have C:=d.at_ 2;clear h d i j;unfold qX at l;by_cases f:0<=k
 ·by_cases d:k<ms.length
  ·obtain rfl:b=true:=by rw[<-H];exact decide_eq_true ⟨f,d⟩
   clear H;go_enter func149,ntmps149
   go_wp2
   go_ret;exact⟨rfl,rfl⟩
  obtain rfl:b=false:=by rw[<-H];exact decide_eq_false (fun e=>d e.2)
  clear H;go_enter func149,ntmps149
  go_wp2
  go_ret;exact⟨rfl,rfl⟩
 obtain rfl:b=false:=by rw[<-H];exact decide_eq_false (fun e=>f e.1)
 clear H;go_enter func149,ntmps149
 go_wp2
 go_ret;exact⟨rfl,rfl⟩
theorem xX.next   {room lost:Int} {ms:List (Value×List Int)}  {c':Nat} (h:xX w q g room lost ms) (n:a=none/\g=q\/a=some ⟨g,0,none⟩)
  (u:aZ w q 217 #[U room,U lost,acX a ms.length c]) (f:Loose w' (some (adZ g' 0)) 140 1 n' c' (ms'.map Prod.fst)) (r:ms'.length=n') (s:Only [q,g] w w') (H:aZ w' q 217 #[U room,U lost,acX a ms.length c])
  (b: ∀m∈ms',Gn w' 0 m.1 m.2/\m.2.length<=65536) (l:n'<=4096) (j:Nat):
  xX ((w'.setCell (adZ q 2) (O g' n' c')).drewN j) q g' room lost ms'/\Only [q,g] w ((w'.setCell (adZ q 2) (O g' n' c')).drewN j):=by subst r;have o:Only [q,g] w (w'.setCell (adZ q 2) (O g' ms'.length c')):=s.setCell (.inl bJ) _;refine⟨xX.drewN ⟨⟨some (adZ g' 0),c',H.fU 2 _,f.far (fun p t=>f.ne H aV p t) _,.inr rfl⟩,fun m i=>⟨(b m i).1.only (S:= [q]) ((Only.refl _ _).setCell (.inl bJ) _) ?_,(b m i).2⟩,l⟩ j,o.drewN j⟩;intro k e cs d;simp only[ay,aI,or_false] at e;subst e;exact aZ.nY H d aV rfl
theorem Yl   {room lost:Int} {ms:List (Value×List Int)}     (h:xX w q g room lost ms) (y:aZ w q 217 #[U room,U lost,acX A ms.length C]) (e:A=none/\g=q\/A=some ⟨g,0,none⟩)
  (s:Only [q,g] w wa) (o:Loose wa A 140 1 ms.length C (ms.map Prod.fst)) (t:Gn wa B v bs) (n:Loose w2 (some (adZ g2 0)) 140 1 (ms.length+1) cp2 (ms.map Prod.fst++ [v]))
  (c:Only (A.map (·.block)).toList wa w2) (f:A=some ⟨g2,0,none⟩\/wa.heap.size<=g2) (K:aZ w2 q 217 #[U room,U lost,acX A ms.length C]) (l:bs.length<=65536) (E:ms.length+1<=4096) (j:Nat):
  xX ((w2.setCell (adZ q 2) (O g2 (ms.length+1) cp2)).drewN j) q g2 room lost (ms++ [(v,bs)])/\Only [q,g] w ((w2.setCell (adZ q 2) (O g2 (ms.length+1) cp2)).drewN j)/\(g2=g\/w.heap.size<=g2)/\Gn ((w2.setCell (adZ q 2) (O g2 (ms.length+1) cp2)).drewN j) B v bs:=by
 have d: ∀k∈(A.map (·.block)).toList,k=g/\ ∀cs,¬aZ wa k 5 cs:=by
  intro k a
  cases A with
  |none=>simp at a
  |some p=>
   simp only[bP,jH,ay,aI,or_false] at a;subst a;rcases e with⟨b,_⟩|b
   ·cases b
   injection b with b;refine⟨by rw[b],fun cs D=> ?_⟩;obtain⟨x,_,z,_⟩:=o.blk;exact aZ.nY z D aV rfl
 have o2:Only [q,g] w w2:=s.then c (fun k a=> .inl (by rw[(d k a).1];simp));have u:=h.next (ms':=ms++ [(v,bs)]) e y (by rw[bR];exact n) (by rw[av];rfl) o2 K (fun m r=>by
  rcases aQ.1 r with H|H
  ·exact⟨((h.tx m H).1.only s h.no8).only c (fun k a=>(d k a).2),(h.tx m H).2⟩
  simp only[ay,aI,or_false] at H;subst H;exact⟨(t.only c (fun k a=>(d k a).2)).base (bF _),l⟩) E j
 refine⟨u.1,u.2,?_,?_⟩
 ·rcases f with H|H
  ·rcases e with⟨b,_⟩|b
   ·rw[b] at H;cases H
   rw[b] at H;injection H with H;injection H with H;exact .inl H.symm
  exact .inr (aG s.size H)
 refine Gn.drewN ((t.only c (fun k a=>(d k a).2)).only (S:= [q]) ((Only.refl _ _).setCell (.inl bJ) _) ?_) j;intro k a cs i;simp only[ay,aI,or_false] at a;subst a;exact aZ.nY K i aV rfl
theorem aeB(q g:Nat)(room lost:Int)(ms:List (Value×List Int))(a:OA)(n c:Nat)(bs:LI)(w:World)(h:xX w q g room lost ms)(hr:1<=room/\room<=256)(D:gD w a n 1 (mZ bs))(hn:n<=65536)(e0:ms.length<room):
  Y 116 #[q,acX a n c] w fun e w'=> ∃G v,e=acK true/\xX w' q G room lost (ms++ [(v,bs)])/\Only [q,g] w w'/\(G=g\/w.heap.size<=G)/\Gn w' w.heap.size v bs:=by
 obtain⟨i0,y,E,F,I⟩:=info_parts Og;have f0:=h.n;have m:bs.length=n:=by have:=D.1;rw[Io,fP] at this;exact this
 obtain⟨A,C,j,L,M⟩:=h.ex;have T:=j.at_ 0;have V:=j.at_ 2;have f2:=j.frozen 2;have d1:decide ((ms.length:Int)≥room)=false:=decide_eq_false aR;have d2:decide ((n:Int)>65536)=false:=decide_eq_false aR;have d3: ¬(65536:Int)<n:=aR;obtain⟨H,H1,N,P,Q,u⟩:=j6 h j L M D m;have sz:=h.lt;clear h j L M D m;go_enter func116,ntmps116;go_wp2_with fail;go_quiet(fail);go_wp2_with fail;obtain⟨W,b⟩:=ex (w.drewN nq);rw[<-b];have K:Hid (aZ W q 217 #[U room,U lost,acX A ms.length C]):=by rw[b];exact jj (H1.drewN _)
 have x:Hid (Loose W A 140 1 ms.length C (ms.map Prod.fst)):=by rw[b];exact jj (N.drewN _)
 have S:Hid (gD W a n 1 (mZ bs)):=by rw[b];exact Q
 have R:Hid (Only [q,g] w W):=by rw[b];exact jj ((Only.refl _ w).drewN _)
 have KS:Hid (W.heap.size=w.heap.size):=by rw[b];exact jj rfl
 have X:=K.at_ 2;have d0:=K.frozen 2;clear b T V f2 d1 d2
 go_region_law (first
  |(refine xk (by rfl) _ _ _ (by rfl) 140 i0 _ 1 24 underlying215 y E F I rfl aR A ms.length C (ms.map Prod.fst) (by rfl) ((x.drew.below d).alloc _) ⟨s.heap.size,0,none⟩ 1 1 [acX f bs.length i] (by rfl) (by rfl) (World.news_of_block (cs:=#[acX f bs.length i]) (t:=140) (fr:=(0,0)) (heap_alloc_new s _)) (by simp[Value.oneCell']) aR (by unfold maxLen;omega) aR ?_;intro g2 Z w2 z o l;have k:=(((K.drew.below d (by exact K.lt)).alloc (.cells #[acX f bs.length i] 140))).only o (by cases A with|none=>exact aI|some p=>simpa using fun e=>(x.ne K aV p rfl) e.symm);have a0:=k.cell 2;have b0:=k.frozen 2)
  |(go_simp;refine(VF a n c bs W.drew S.drew aR).mono ?_;rintro e s ⟨v,rfl,r,d⟩;have B:=jj r;obtain⟨f,i,rfl,g0⟩:=r;have e2:J s q 2 (acX A ms.length C):=(K.drew.below d (by exact K.lt)).cell 2;have e3:=rE (.cells #[acX f bs.length i] 140) e2))
 all_goals
  go_wp2_with fail;go_ret;have ob:Only [q,g] w (s.alloc (.cells #[acX f bs.length i] 140)):=(((R.drew).trans (Only.of_below d)).alloc _);have O:=Yl H H1 P ob ((x.drew.below d).alloc _) ((B.alloc (.cells #[acX f bs.length i] 140))) z o l k (tL u.out) aR 0;exact⟨g2,acX f bs.length i,rfl,O.1,O.2.1,O.2.2.1,O.2.2.2.base (by rw[<-KS.out];exact aF _)⟩
theorem xX.at_{room lost:Int}{ms:List (Value×List Int)}(h:xX w q g room lost ms)(e:k<ms.length):
  ∃c A c',J w q 2 (O g ms.length c)/\J w g k (acX A ms[k].2.length c')/\ms[k].1=acX A ms[k].2.length c'/\gD w A ms[k].2.length 1 (mZ ms[k].2):=by
 obtain⟨a,c,f,b,i⟩:=h.ex;obtain⟨A,c',d,j⟩:=(h.tx _ (bY e)).1;rcases i with⟨rfl,_⟩|rfl
 ·rcases b.addr with⟨_,H,_⟩|⟨_,H⟩
  ·omega
  cases H
 refine⟨c,A,c',f.cell 2,?_,d,fH j⟩;have:=b.news k ms[k].1 (by simp[e]);rw[addr_add,aO,d] at this;exact this
theorem Rh   {room lost:Int} {ms:List (Value×List Int)}   (h:xX w q g room lost ms) (f:aZ w q 217 #[U room,U lost,.slice A ms.length C]) (t:Loose w A 140 1 ms.length C (ms.map Prod.fst)) (i:A=none/\g=q\/A=some ⟨g,0,none⟩)
  (u:Only [] w wa) (d: ∀m∈ms',Gn w 0 m.1 m.2/\m.2.length<=65536) (n:Loose w2 (some ⟨g2,0,none⟩) 140 1 n' cp2 (ms'.map Prod.fst)) (r:ms'.length=n')
  (s:Only (A.map (·.block)).toList wa w2) (l:A=some ⟨g2,0,none⟩\/wa.heap.size<=g2) (B:n'<=4096) (j:Nat):
  xX ((w2.setCell ⟨q,2,none⟩ (O g2 n' cp2)).drewN j) q g2 room lost ms'/\Only [q,g] w ((w2.setCell ⟨q,2,none⟩ (O g2 n' cp2)).drewN j)/\(g2=g\/w.heap.size<=g2):=by
 have o: ∀k∈(A.map (·.block)).toList,k=g/\k≠q/\ ∀cs,¬aZ w k 5 cs:=by
  intro k b
  cases A with
  |none=>simp at b
  |some p=>
   simp only[bP,jH,ay,aI,or_false] at b;subst b;rcases i with⟨a,_⟩|a
   ·cases a
   injection a with a;refine⟨by rw[a],t.ne f aV p rfl,fun cs z=> ?_⟩;obtain⟨x,_,y,_⟩:=t.blk;exact aZ.nY y z aV rfl
 have o3:Only (A.map (·.block)).toList w w2:=(u.mono (fun k b=>by cases b)).trans s;have o2:Only [q,g] w w2:=o3.mono (fun k b=> .inl (by rw[(o k b).1];simp));have v:=h.next (ms':=ms') i f n r o2 (f.only o3 (fun e=>(o q e).2.1 rfl)) (fun m c=>⟨(d m c).1.only o3 (fun k b=>(o k b).2.2),(d m c).2⟩) B j;refine⟨v.1,v.2,?_⟩;rcases l with H|H
 ·rcases i with⟨a,_⟩|a
  ·rw[a] at H;cases H
  rw[a] at H;injection H with H;injection H with H;exact .inl H.symm
 exact .inr (aG u.size H)
theorem aeC{α:Type}(ms:List α)(k:Nat)(h:k<ms.length):(ms.take k++ms.drop (k+1)).length=k+(ms.length -(k+1)):=by rw[av,cO,jm,fO aR]
theorem Wv(ms:List (Value×List Int))(k:Nat): ∀m∈ms.take k++ms.drop (k+1),m∈ms:=by
 intro m H;rcases aQ.1 H with h|h
 ·exact jv h
 exact kL h
theorem ak6(q g:Nat)(room lost:Int)(ms:List (Value×List Int))(k:Nat)(w:World)(h:xX w q g room lost ms)(M:k<ms.length)(i:Int)(hi:i=k):
  Y 150 #[q,U i] w fun e w'=> ∃W,e= .returned ms[k].1/\xX w' q W room lost (ms.take k++ms.drop (k+1))/\Only [q,g] w w'/\(W=g\/w.heap.size<=W):=by
 subst hi;obtain⟨i0,x,b0,c0,d0⟩:=info_parts Og;have h0:=h.n;obtain⟨A,C,L,p,h3⟩:=h.ex;have c2:=L.at_ 2;obtain⟨O,a',c',Q,q2,q3,_⟩:=h.at_ M;obtain⟨rfl,rfl⟩:A=some ⟨g,0,none⟩/\O=C:=by rw[c2] at Q;injection Q with Q;injection Q with V e2 e3;exact⟨V,e3.symm⟩
 have j0:(0:Int)<=k:=aR;have i1:(k:Int)<ms.length:=aR;have i2:IntKind.i64.wrap ((k:Int)+1)=(k:Int)+1:=aH _ aR;have t:=p.EI;have f2:=L.frozen 2;obtain⟨l',y⟩:=ex ms[k].2.length;rw[<-y] at q2 q3;have k0:=acs (P:=prog) (a:=some ⟨g,0,none⟩) (T:=215) (E:=140) (s:=1) underlying215 (by kernel_rfl) WH k (Nat.le_of_lt M) t;obtain⟨B,e0,X⟩:=Iw (P:=prog) (T:=215) p underlying215 (by kernel_rfl) WH (k+1) aR ((k:Int)+1) aR;have lc:=p.cut (Nat.le_of_lt M) k (aF _) aR;have G:=aeC ms k M;have I:(ms.take k++ms.drop (k+1)).map Prod.fst=(ms.map Prod.fst).take (k*1)++(ms.map Prod.fst).drop (k+1):=by rw[bR,List.map_take,List.map_drop,fP]
 obtain⟨H,H1,J,H3,Q3,LC⟩:=j6 h L p h3 q3 lc;have l:=jj G;have n:=jj I;clear h L p h3 Q q3 y lc G I;by_cases f:k+1<ms.length
 ·obtain⟨g1,Z,rfl⟩:=X f
  obtain rfl:g=g1:=by injection Z with e;injection e
  have D:((ms.map Prod.fst).drop (k+1)).length=(ms.length -(k+1))*1:=by rw[jm,aT,fP]
  have c: ∀j u,((ms.map Prod.fst).drop (k+1))[j]?=some u->w.cell? ((⟨g,(k+1),none⟩:Addr).add j)=some u:=by
   intro j u N;rw[List.getElem?_drop] at N;have:=J.news (k+1+j) u N;rw[addr_add,aO] at this
   rwa [addr_add]
  have d: ∀u∈(ms.map Prod.fst).drop (k+1),u.oneCell'=true:=by intro u N;obtain⟨m,z,rfl⟩:=bM.1 (kL N);obtain⟨a1,c1,V,_⟩:=(H.tx m z).1;rw[V];rfl
  obtain⟨HN,HO,S⟩:=j3 c d D;clear c d D X;go_enter func150,ntmps150;go_wp2_with fail;go_region_law (refine xk (by rfl) _ _ _ (by rfl) 140 i0 _ 1 24 underlying215 x b0 c0 d0 rfl aR (some ⟨g,0,none⟩) k k ((ms.map Prod.fst).take (k*1)) (by rfl) LC.drew ⟨g,k+1,none⟩ (ms.length -(k+1)) (O -(k+1)) ((ms.map Prod.fst).drop (k+1)) (by rfl) S HN HO aR (by unfold maxLen;omega) aR ?_;intro g2 cp2 w2 a0 F r;have K:=(H1.drew).only F (by simpa using fun e=>(J.ne H1 aV _ rfl) e.symm);have f0:=K.cell 2;have g0:=K.frozen 2)
  all_goals
   go_wp2_with fail;go_ret;have o:=Rh (ms':=ms.take k++ms.drop (k+1)) H H1 J (.inr rfl) ((Only.refl _ w).drew) (fun m z=>H.tx m (Wv ms k m z)) (by rw[n.out];exact a0) l F r aR 0;exact⟨g2,by rw[Q3.out];rfl,o.1,o.2.1,o.2.2⟩
 have b:ms.length -(k+1)=0:=aR;rw[b] at e0;have v:(ms.map Prod.fst).drop (k+1)= []:=eP (by rw[aT];omega);have R:=jj v;clear v X;go_enter func150,ntmps150;go_wp2_with fail;go_region_law (refine rY (by rfl) _ _ _ (by rfl) 140 i0 underlying215 x (some ⟨g,0,none⟩) B k k (O -(k+1)) (.inr ⟨g,rfl⟩) (aF _) (by rfl) (by rfl) ?_)
 all_goals
  go_wp2_with fail;go_ret;have o:=Rh (ms':=ms.take k++ms.drop (k+1)) (w2:=w.drew) (n':=k) (cp2:=k) (g2:=g) H H1 J (.inr rfl) ((Only.refl _ w).drew) (fun m z=>H.tx m (Wv ms k m z)) (by rw[n.out,R.out,eG];exact LC.drew) (by rw[l.out,b];rfl) (Only.refl _ _) (.inl rfl) aR 0;exact⟨g,by rw[Q3.out];rfl,o.1,o.2.1,o.2.2⟩
theorem aeN(q g:Nat)(room lost:Int)(ms:List (Value×List Int))(k:Nat)(w:World)(h:xX w q g room lost ms)(t:k<ms.length)(i:Int)(s:i=k):
  Y 117 #[q,U i] w fun e w'=> ∃G v,e= .returned (.tuple #[v,true])/\Gn w' w.heap.size v ms[k].2/\xX w' q G room lost (ms.take k++ms.drop (k+1))/\Only [q,g] w w'/\(G=g\/w.heap.size<=G)/\v.ownBlock≠some G:=by
 have V:=h.n;have m:=h.tx _ (bY t);have J:=m.2;obtain⟨N,P,r,I⟩:=m.1;have K:(0:Int)<=i:=aR;have L:i<ms.length:=aR;obtain⟨H,M,z,y⟩:=j4 h r m.1 s;clear h r I m s;go_enter func117,ntmps117;go_wp2_with fail;refine(ad3 q g room lost ms i _ H (by unfold qX;omega) true (decide_eq_true ⟨K,L⟩)).mono ?_;rintro e W ⟨rfl,rfl⟩;go_wp2_with fail;refine(ak6 q g room lost ms k _ H t i y).mono ?_;rintro e W ⟨G,rfl,f,b,d⟩;have A:=z.only b H.no8;obtain⟨Q,O,x⟩:=j3 f b d;clear f b d;obtain⟨C,D,p,u⟩:=A;have E:=jj p;have R:=jj (fH u);obtain⟨o,a⟩:=ex ms[k].2;obtain⟨X,l⟩:=ex ms[k].1;rw[<-l] at E|-;rw[<-a] at E R J;have n:=jj a;obtain rfl:=E.out;clear u p a l;go_wp2_with fail;refine(VF C o.length D o _ R aR).mono ?_;rintro e Z ⟨v,rfl,j,c⟩;have T:=jj j;have B:=jj c;clear j c;go_wp2_with fail;go_ret2
 refine⟨G,v,rfl,by rw[<-n.out];exact T.base O.size,Q.below B,O.belows B,x,fun e=> ?_⟩;obtain⟨a3,S,rfl,F⟩:=T.out;have:=(F.lt G e).1;have:=Q.glt;omega


section
variable{w0 w w':World}{q:Nat}{room lost:Int}{L:List LI}
end
def ru{α:Type}(f:Nat->α)(i:Nat)(x:α):Nat->α:=fun j=>if j=i then x else f j
theorem ou{α:Type}(f:Nat->α)(i:Nat)(x:α):ru f i x i=x:=if_pos rfl
theorem oP{α:Type}(f:Nat->α){i:Nat}(x:α)(h:j≠i):ru f i x j=f j:=if_neg h
structure Qs(w:World)(N:Nat)(q g:Nat->Nat)(room:Int)(lost:Nat->Int)(ms:Nat->List (Value×List Int)):Prop where
 DU: ∀k,k<N->xX w (q k) (g k) room (lost k) (ms k)
 apart: ∀i j,i<N->j<N->i≠j->q i≠q j/\q i≠g j/\g i≠q j/\g i≠g j
section
variable{w w':World}{N:Nat}{q g:Nat->Nat}{room:Int}{lost:Nat->Int}{ms:Nat->List (Value×List Int)}
theorem Qs.nil(w:World)(q g:Nat->Nat)(room:Int)(lost:Nat->Int)(ms:Nat->List (Value×List Int)):Qs w 0 q g room lost ms:=⟨fun k H=>absurd H aR,fun i j h=>absurd h aR⟩
theorem Qs.below(h:Qs w N q g room lost ms)(H:Be w w'):Qs w' N q g room lost ms:=⟨fun k a=>(h.DU k a).below H,h.apart⟩
theorem Qs.turn(h:Qs w N q g room lost ms)(l:k<N){uW:Int}(n:xX w' (q k) g' room uW ms')(m:Only [q k,g k] w w')(c:g'=g k\/w.heap.size<=g'):
  Qs w' N q (ru g k g') room (ru lost k uW) (ru ms k ms'):=by
 refine⟨fun j H=> ?_,fun i j f H b=> ?_⟩
 ·by_cases e:j=k
  ·subst e;rw[ou,ou,ou];exact n
  rw[oP _ _ e,oP _ _ e,oP _ _ e];obtain⟨a,a2,a3,A⟩:=h.apart j k H l e;exact(h.DU j H).only m (by simp[a,a2]) (by simp[a3,A]) (h.DU k l).no8
 obtain⟨a,a2,a3,A⟩:=h.apart i j f H b;have L:=(h.DU i f).lt;have o:=(h.DU i f).glt;have p:=(h.DU j H).lt;have r:=(h.DU j H).glt;by_cases d:i=k
 ·subst d
  have E:j≠i:=fun e=>b e.symm;rw[ou,oP _ _ E];rcases c with rfl|c
  ·exact⟨a,a2,a3,A⟩
  exact⟨a,a2,aR,aR⟩
 by_cases E:j=k
 ·subst E
  rw[ou,oP _ _ d];rcases c with rfl|c
  ·exact⟨a,a2,a3,A⟩
  exact⟨a,aR,a3,aR⟩
 rw[oP _ _ d,oP _ _ E];exact⟨a,a2,a3,A⟩
end
theorem xX.types{room lost:Int}{ms:List (Value×List Int)}(h:xX w q g room lost ms): ∀k∈ [q,g],∀cs t,aZ w k t cs->t=217\/t=140:=by
 obtain⟨a,c,b,f,i⟩:=h.ex;have same: ∀{k:Nat} {t T:TypeId} {cs C:AV},aZ w k t cs->aZ w k T C->T=t:=fun{k t T cs C} x y=>by unfold aZ at x y;rw[x] at y;injection y with y;injection y with _ y;exact y.symm
 intro k d cs t H;simp only[ay,aI,or_false] at d;rcases d with rfl|rfl
 ·exact .inl (same b H)
 rcases i with⟨_,rfl⟩|rfl
 ·exact .inl (same b H)
 obtain⟨e,_,j,_⟩:=f.blk;exact .inr (same j H)
theorem qK{base:Nat}{e t1 t2:TypeId}(h:w.ownsRow base e s v n xs)(j:Only S w w')(f: ∀k∈S,∀cs t,aZ w k t cs->t=t1\/t=t2)(b:e≠t1)(d:e≠t2):w'.ownsRow base e s v n xs:=by
 refine mK h j fun k H i=> ?_;rcases h.2 with⟨a,_⟩|⟨K,C,c,a,_,g,_⟩
 ·rw[a] at H;simp[Value.ownBlock] at H
 rw[a] at H;simp only[Value.ownBlock,aD] at H;subst H;rcases f _ i c e g with E|E
 ·exact b E
 exact d E
structure Nt(B:Nat)(w:World)(gn n:Nat)(ps:LI)(q g:Nat->Nat)(room:Int)(lost:Nat->Int)(ms:Nat->List (Value×List Int)):Prop where
 ex: ∃(ap:OA) (cp:Nat) (al:OA) (cl:Nat) (ra:Nat->Option Addr) (rc:Nat->Nat),
  aZ w gn 158 #[acX ap n cp,acX al n cl]/\w.ownsRow B 3 1 (acX ap n cp) n (ps.map fun(x:Int)=>Value.int .i64 x)/\
  w.ownsRow B 159 1 (acX al n cl) n ((List.range n).map fun a=>Value.slice (ra a) n (rc a))/\
  ∀a,a<n->w.ownsRow B 160 1 (acX (ra a) n (rc a)) n ((List.range n).map fun b=>Value.pointer (some ⟨q (a*n+b),0,none⟩))
 qs:Qs w (n*n) q g room lost ms
section
variable{B:Nat}{w w':World}{gn n:Nat}{ps:LI}{q g:Nat->Nat}{room:Int}{lost:Nat->Int}{ms:Nat->List (Value×List Int)}
theorem Nt.below(h:Nt B w gn n ps q g room lost ms)(H:Be w w'):Nt B w' gn n ps q g room lost ms:=by obtain⟨c,d,A,C,r,R,b,e,f,i⟩:=h.ex;exact⟨⟨c,d,A,C,r,R,b.below H b.lt,own_below e H,own_below f H,fun a j=>own_below (i a j) H⟩,h.qs.below H⟩
theorem Nt.turn(h:Nt B w gn n ps q g room lost ms)(c:k<n*n){uW:Int}(r:xX w' (q k) g' room uW ms')(H:Only [q k,g k] w w')(o:g'=g k\/w.heap.size<=g'):
  Nt B w' gn n ps q (ru g k g') room (ru lost k uW) (ru ms k ms'):=by
 obtain⟨d,f,A,C,R,s,b,i,j,l⟩:=h.ex;have T:=(h.qs.DU k c).types;refine⟨⟨d,f,A,C,R,s,b.only H fun p=> ?_,qK i H T aV aV,qK j H T aV aV,fun a m=>qK (l a m) H T aV aV⟩,h.qs.turn c r H o⟩;rcases T _ p _ _ b with e|e
 ·exact absurd e aV
 exact absurd e aV
end
theorem Wn   {q g:Nat->Nat} {room:Int} {lost:Nat->Int} {ms:Nat->List (Value×List Int)} (x:Int) (w:World) (h:Nt B w gn n ps q g room lost ms) (W:n<=4096) (j:Int)
  (A:(∃i:Nat,j=i/\ps[i]?=some x/\ ∀m,m<i->ps[m]?≠some x)\/(j= -1/\ ∀m,m<n->ps[m]?≠some x)):
  Y 147 #[gn,U x] w fun e w'=>e= .returned (U j)/\w=w':=by
 obtain⟨D,F,Q,S,Z,rc,z,p,K,M⟩:=h.ex;have len:ps.length=n:=by have:=p.1;simpa using this
 have R:=z.at_ 0;obtain⟨u,v,L⟩:=j3 p A len;clear h z p K M A len;go_enter func147,ntmps147;go_wp2_with fail;go_loopw [12] (fun i wr=> ∃k:Nat,k<=n/\i= U k/\wr=w/\ ∀m,m<k->ps[m]?≠some x) (fun i _=>n -(intOf i).toNat)
 case atStart=>exact⟨0,aR,rfl,rfl,fun m C=>absurd C aR⟩
 case round=>
  obtain⟨k,V,rfl,rfl,d⟩:=hrel;have N:=jj d;clear d;by_cases s:k<n
  ·obtain⟨G,rfl⟩: ∃G,D=some ⟨G,0,none⟩:=by
    rcases u.2 with⟨f,T⟩|⟨g,F,I,f,_⟩
    ·omega
    injection f with f;exact⟨g,f⟩
   have b:k<ps.length:=by have:=L.out;omega
   obtain⟨y,t⟩:=ex ps[k];have x0:J wr G k (U y):=(Row.sG u).cell (by rw[aS,aj b,t];rfl);have l:=jj (show ps[k]?=some y by rw[aj b,t]);have X:(0:Int)<=k:=aR;have P:(k:Int)<n:=aR;clear t b;by_cases H:y=x
   ·have e:j=k:=by
     subst H;rcases v.out with⟨i,rfl,c,o⟩|⟨_,o⟩
     ·rcases Nat.lt_trichotomy i k with a|rfl|a
      ·exact absurd c (N.out i a)
      ·rfl
      exact absurd l.out (o k a)
     exact absurd l.out (o k s)
    have E:=jj e;have O:(y==x)=true:=by rw[H];exact beq_self_eq_true x
    clear e;subst H;go_wp2_with fail;go_ret;exact⟨by rw[E.out];rfl,(by first|rfl|trivial)⟩
   have O:(y==x)=false:=beq_eq_false_iff_ne.2 H;go_wp2_with fail;go_roundw
   case rel=>exact⟨k+1,aR,by go_num,(by first|rfl|trivial),fun m C=>by
    by_cases e:m=k
    ·subst e;rw[l.out];exact fun h=>H (dh h)
    exact N.out m aR⟩
   simp[intOf];omega
  have r:k=n:=aR;have e:j= -1:=by
   rcases v.out with⟨i,_,c,_⟩|⟨c,_⟩
   ·have:=(ah.1 c).1
    have:=L.out;exact absurd c (N.out i aR)
   exact c
  have E:=jj e;have P: ¬(k:Int)<n:=aR;clear e r;go_wp2_with fail;go_ret;exact⟨by rw[E.out];rfl,(by first|rfl|trivial)⟩
theorem tu{base:Nat}{e:TypeId}(h:w.ownsRow base e 1 (acX a n c) n xs)(f:k<n)(H:xs[k]?=some v): ∃g,a=some ⟨g,0,none⟩/\J w g k v:=by
 obtain⟨g,rfl⟩: ∃g,a=some ⟨g,0,none⟩:=by
  rcases h.2 with⟨H,d⟩|⟨g,b,C,H,_⟩
  ·omega
  injection H with H;exact⟨g,H⟩
 exact⟨g,rfl,(Row.sG h).cell H⟩
theorem ad2   {q g:Nat->Nat} {room:Int} {lost:Nat->Int} {ms:Nat->List (Value×List Int)} (x y:Int) (w:World) (h:Nt B w gn n ps q g room lost ms) (s:n<=4096) (a b:Nat) (i:a<n) (p:b<n) (D:a≠b)
  (hx:ps[a]?=some x/\ ∀m,m<a->ps[m]?≠some x) (t:ps[b]?=some y/\ ∀m,m<b->ps[m]?≠some y) (k:Nat) (r:a*n+b=k):
  Y 115 #[gn,U x,U y] w fun e w'=>e=acK (q k)/\w=w':=by have H:=jj h;obtain⟨K,N,J,M,F,u,j,C,l,o⟩:=h.ex;have L:=j.at_ 1;obtain⟨O,rfl,R⟩:=tu l i (v:=acX (F a) n (u a)) (by simp[i]);obtain⟨P,c,E⟩:=tu (o a i) p (v:= .pointer (some ⟨q k,0,none⟩)) (by simp[p,r]);rw[c] at R;obtain⟨G,f⟩:=ex (u a);rw[<-f] at R;obtain⟨qk,d⟩:=ex (q k);rw[<-d] at E|-;have z:=jj hx;have A:=jj t;have Q:(0:Int)<=a:=aR;have S:(a:Int)<n:=aR;have T:(0:Int)<=b:=aR;have V:(b:Int)<n:=aR;have I: ¬(a:Int)=b:=aR;have W:((a:Int)==b)=false:=beq_eq_false_iff_ne.2 I;have X: ¬(a:Int)<0:=aR;have Z: ¬(b:Int)<0:=aR;clear h j C l o c f d hx t r;go_enter func115,ntmps115;go_wp2_with fail;refine(Wn x _ H s a (.inl ⟨a,rfl,z⟩)).mono ?_;rintro e w' ⟨rfl,rfl⟩;go_wp2_with fail;refine(Wn y _ H s b (.inl ⟨b,rfl,A⟩)).mono ?_;rintro e w' ⟨rfl,rfl⟩;go_wp2_with fail;go_ret;exact⟨by trivial,by trivial⟩
def agl(n:Nat)(ps:LI)(x:Int)(a:Nat):Prop:=a<n/\ps[a]?=some x/\ ∀m,m<a->ps[m]?≠some x
section
variable{B gn n:Nat}{ps:LI}{q g:Nat->Nat}{room:Int}{lost:Nat->Int}{ms:Nat->List (Value×List Int)}
end
section
variable{B gn n:Nat}{ps:LI}{q g:Nat->Nat}{room:Int}{lost:Nat->Int}{ms:Nat->List (Value×List Int)}
end
section
variable{B gn n:Nat}{ps:LI}{q g:Nat->Nat}{room:Int}{lost:Nat->Int}{ms:Nat->List (Value×List Int)}
end
theorem ZN{a b:Nat}(h:a<n)(d:b<n):a*n+b<n*n:=by have H:(a+1)*n<=n*n:=dN n h;have c:(a+1)*n=a*n+n:=gY a n;omega
section
variable{B gn n:Nat}{ps:LI}{q g:Nat->Nat}{room:Int}{lost:Nat->Int}{ms:Nat->List (Value×List Int)}
end
def XQ(n:Nat)(ps:LI)(x y:Int)(k:Nat):Prop:= ∃a b,agl n ps x a/\agl n ps y b/\a≠b/\a*n+b=k
theorem XQ.lt{y:Int}(h:XQ n ps x y k):k<n*n:=by obtain⟨a,b,H,c,_,rfl⟩:=h;exact ZN H.1 c.1
def Wh{α:Type}(l:List α)(i:Nat):List α:=l.take i++l.drop (i+1)
section
variable{B gn n:Nat}{ps:LI}{q g:Nat->Nat}{room:Int}{lost:Nat->Int}{ms:Nat->List (Value×List Int)}
theorem VP(x y:Int)(w:World)(h:Nt B w gn n ps q g room lost ms)(j:n<=4096)(k:Nat)(i:XQ n ps x y k):
  Y 115 #[gn,U x,U y] w fun e w'=>e=acK (q k)/\w=w':=by obtain⟨a,b,c,d,H,f⟩:=i;exact ad2 x y w h j a b c.1 d.1 H c.2 d.2 k f
theorem Ye(x y:Int)(z:Int)(w:World)(h:Nt B w gn n ps q g room lost ms)(r:n<=4096)(k:Nat)(f:XQ n ps x y k)(i:Nat)(p:i<(ms k).length)(j:z=i):
  Y 85 #[gn,U x,U y,U z] w fun e w'=> ∃G v,e=acK (ac2 #[v,true])/\Gn w' w.heap.size v (ms k)[i].2/\Nt B w' gn n ps q (ru g k G) room (ru lost k (lost k)) (ru ms k (Wh (ms k) i))/\Only [q k,g k] w w'/\(G=g k\/w.heap.size<=G):=by
 have H:=jj h;have m:=jj f;have c:=f.lt;have Q:=jj (h.qs.DU k c);have o:=jj j;clear h f j;go_enter func85,ntmps85;go_wp2_with fail;refine(VP x y _ H r k m).mono ?_;rintro e w' ⟨rfl,rfl⟩;go_wp2_with fail;refine(aeN (q k) (g k) room (lost k) (ms k) i _ Q p z o).mono ?_;rintro e W ⟨G,v,rfl,t,d,b,a,-⟩;have T:=jj t;have N:=jj (H.turn c d b a);have O:=jj b;have l:=jj a;clear t d b a;go_wp2_with fail;go_ret2
 exact⟨G,v,by trivial,T,N,O,l⟩
theorem abn(x y:Int)(v:OA)(m c:Nat)(bs:LI)(w:World)(h:Nt B w gn n ps q g room lost ms)(F:n<=4096)(r:1<=room/\room<=256)(k:Nat)(l:XQ n ps x y k)(s:gD w v m 1 (mZ bs))(E:m<=65536)(o:(ms k).length<room):
  Y 83 #[gn,U x,acY #[U y,acX v m c]] w fun e w'=> ∃G z,e=acK true/\Nt B w' gn n ps q (ru g k G) room (ru lost k (lost k)) (ru ms k (ms k++ [(z,bs)]))/\Only [q k,g k] w w'/\(G=g k\/w.heap.size<=G):=by
 obtain⟨W,a⟩:=ex (w.alloc (.cells #[U y,acX v m c] 179));have f:=(tQ a).out;have i:=l.lt;have H:=jj (h.below f);have u:=jj l;have C:=jj (s.below f);have A:=jj r;have Q:=jj ((h.below f).qs.DU k i);have p:=jj f;have K:J W w.heap.size 1 (acX v m c):=by rw[a];exact(aZ.new w _ _).cell 1
 have I:J W w.heap.size 0 (U y):=by rw[a];exact(aZ.new w _ _).cell 0
 have D:=jj a;clear h l s r a f;go_enter func83,ntmps83;go_upto_region 1 with fail;rw[<-D.out];go_wp2_with fail;refine(VP x y _ H F k u).mono ?_;rintro e w' ⟨rfl,rfl⟩;go_wp2_with fail;refine(aeB (q k) (g k) room (lost k) (ms k) v m c bs _ Q A C E o).mono ?_;rintro e L ⟨G,z,rfl,j,d,b,_⟩;have N:=jj (H.turn i j d b);have O:=jj ((Only.of_below (S:= [q k,g k]) p).trans d);have t:=F9 (G=g k\/w.heap.size<=G) (b.imp id (aG p.size));clear j d b;go_wp2_with fail;go_ret;exact⟨G,z,by trivial,N,O,t⟩
end
section
variable{P:Program}(w:World)
end

theorem ahT(T E s:Nat)(b:P.underlying T=some (.slice E))(H:P.elem T=E)(d: ∀w:World,(sizeOf E).run P w= .ok s w)(a:OA)(n c k:Nat)(f:k<=n)(g:n<=c)(w:World):
  (Instr.slice T (.slice a n c) none (some (U k)) none).run P w= .ok (.slice a k c) w:=by
 have h:=run_slice_h (P:=P) (w:=w) T a n c (by rw[H];exact b) .i64 k aR aR;rw[h,H,d w];show Result.ok (sliced a 0 ((k:Int).toNat) c s) w=_;rw[bI];have e:a.map (·.add (0*s))=a:=by
  cases a with
  |none=>rfl
  |some p=>simp[Addr.add]
 simp only[sliced,e,jc];split<;>rfl
theorem gD.take{vs:LV}(h:gD w a n s vs)(e:k<=n):gD w a k s (vs.take (k*s)):=
 ⟨by rw[cO,h.1];exact fO (dN s e),fun f=>by
  obtain⟨b,o,rfl,c,d⟩:=h.2 aR;exact⟨b,o,rfl,c,fun i v H=>d i v (by
   rw[iP] at H;split at H
   ·exact H
   cases H)⟩⟩
theorem Nb{row:Option Nat}(h:w.grownBy w' row):Only row.toList w w':=
 (Only.refl _ w).grown h fun k H=>by subst H;simp
structure qQ(w w':World)(base:Nat)(e:TypeId)(s:Nat)(a0 a':OA)(n cap:Nat)(xs:LV):Prop where
 own:w'.ownsRow base e s (acX a' n cap) n xs
 only:Only (a0.map (·.block)).toList w w'
 at_: ∀k,a'.map (·.block)=some k->a0.map (·.block)=some k\/w.heap.size<=k
theorem dQ:(Value.slice a n c).ownBlock=a.map (·.block):=by cases a<;>rfl
theorem qC(w:World)(t:TypeId)(u:Value):gD (w.alloc (.cells #[u] t)) (some ⟨w.heap.size,0,none⟩) 1 1 [u]:=gD.nR (n:=1) (s:=1) (aZ.new w t #[u]) rfl
theorem mO{base base':Nat}{e:TypeId}(h:w.ownsRow base e s v n xs)(H:base'<=base):w.ownsRow base' e s v n xs:=
 DI h fun g a=>aG H (dG h g a).1
theorem qQ.below{v:World}{base:Nat}{e:TypeId}{n0 c0 cap:Nat}{a0 a':OA}{xs0:LV}(h:qQ w w' base e s a0 a' n cap xs)(f:w.ownsRow base e s (acX a0 n0 c0) n0 xs0)(c:Below B v w)(b:B<=base)(H:B<=w.heap.size):Below B v w':=by refine h.only.below c H fun k d=> ?_;have a:a0.map (·.block)=some k:=aJ.1 d;exact aG b (dG f k (by rw[dQ];exact a)).1
theorem aax{base T E:Nat}(h:w.ownsRow base E s (.slice a n c) n xs)(m:P.underlying T=some (.slice E))(l:P.elem T=E)(q: ∀w:World,(sizeOf E).run P w= .ok s w)(k:Nat)(p:k<=n)(i:Int)(o:i=k):
  ∃A,(∀(w:World),(Instr.slice T (.slice a n c) (some (U i)) none none).run P w= .ok (.slice A (n -k) (c -k)) w)/\gD w A (n -k) s (xs.drop (k*s)):=by
 obtain⟨A,f,j⟩:=Iw (P:=P) (T:=T) (Loose.sG h) m l q k p i o;refine⟨A,f,?_⟩;by_cases H:k<n
 ·obtain⟨g,rfl,rfl⟩:=j H
  obtain⟨b,O,e,r⟩:=(fH h).from_ H;injection e with e;injection e with e1 d;subst e1;subst d
  rwa [aO] at r
 have e:n -k=0:=aR;have d:xs.drop (k*s)= []:=eP (by rw[h.1];exact dN s aR);rw[e,d];exact gD.nil _ _ _
theorem fD    {rest:List Oper}  {a:Act}  (q:o.guard=none) (s x:Operand) (t:TypeId)
  (G:o.op= .call {callee:= .builtin .append,args:=#[s,x],argTypes:=#[t,t]})
  (base:Nat) (e:TypeId) (i:TypeInfo) (z:Value) (size bytes:Nat) (J:P.underlying t=some (.slice e)) (F:P.info? e=some i) (T:i.zero=some z)
  (l:i.size=size) (B:i.bytes=bytes) (E:z.cells.size=size) (D:0<size)
  (p:OA) (n c0:Nat) (xs:LV) (I:a.eval s= .slice p n c0) (H:w.ownsRow base e size (.slice p n c0) n xs)
  (A:OA) (m c:Nat) (y:LV) (hx:a.eval x= .slice A m c) (C:gD w A m size y) (M: ∀u∈y,u.oneCell'=true)
  (v:n+m<=maxLen) (d:(n+m)*bytes<=140737488355328) (f:base<=w.heap.size)
  (h: ∀a' cap w',qQ w w' base e size p a' (n+m) cap (xs++y)->wpList P ops Q rest (a.put o.dst (.slice a' (n+m) cap)) w'):wpList P ops Q (o::rest) a w:=by
 by_cases L:m=0
 ·subst L
  obtain rfl:y= []:=dA (by rw[C.1];simp);refine rZ q s x t G e i J F p A n c0 c (rF H) (qB H) I hx ?_;exact h p c0 w ⟨by rw[eG];exact H,Only.refl _ _,fun k r=> .inl r⟩
 obtain⟨b,O,rfl,S,N⟩:=C.2 aR;refine wpList_append_lies _ q s x t G base e i z size bytes J F T l B E D (.slice p n c0) n xs I H ⟨b,O,none⟩ m c y hx C.1 (fun j u R=>by rw[addr_add];exact N j u R) M aR v d f _ rfl ?_;intro g cap w' k1 U K V;refine h _ cap w' ⟨k1,by rw[<-dQ (n:=n) (c:=c0)];exact Nb U,fun k r=> ?_⟩;simp only[bP,aD] at r;subst r;rw[dQ] at K;rcases K with K|K
 ·exact .inl K
 exact .inr aR
theorem oo     {a:Act}    (q:o.guard=none) (s x:Operand) (t:TypeId)
  (J:o.op= .call {callee:= .builtin .append,args:=#[s,x],argTypes:=#[t,t]})
  (base:Nat) (e:TypeId) (i:TypeInfo) (z:Value) (size bytes:Nat) (M:P.underlying t=some (.slice e)) (I:P.info? e=some i) (V:i.zero=some z)
  (l:i.size=size) (C:i.bytes=bytes) (G:z.cells.size=size) (F:0<size)
  (p:OA) (n c0:Nat) (xs:LV) (L:a.eval s= .slice p n c0) (H:w.ownsRow base e size (.slice p n c0) n xs)
  (A:OA) (m c:Nat) (y:LV) (hx:a.eval x= .slice A m c) (D:gD w A m size y) (R: ∀u∈y,u.oneCell'=true)
  (B:n+m<=maxLen) (d:(n+m)*bytes<=140737488355328) (f:base<=w.heap.size)
  (h: ∀a' cap w',qQ w w' base e size p a' (n+m) cap (xs++y)->K (a.put o.dst (.slice a' (n+m) cap)) w'):
  if Region.wanted o (yielded ops a.tmps)=true then Oper.wp P o a w K Q else E:=by
 by_cases N:m=0
 ·subst N
  obtain rfl:y= []:=dA (by rw[D.1];simp);refine rY q s x t J e i M I p A n c0 c (rF H) (qB H) L hx ?_;exact h p c0 w ⟨by rw[eG];exact H,Only.refl _ _,fun k v=> .inl v⟩
 obtain⟨b,O,rfl,U,S⟩:=D.2 aR;refine step_append_lies _ q s x t J base e i z size bytes M I V l C G F (.slice p n c0) n xs L H ⟨b,O,none⟩ m c y hx D.1 (fun j u T=>by rw[addr_add];exact S j u T) R aR B d f _ rfl ?_;intro g cap w' k1 W r X;refine h _ cap w' ⟨k1,by rw[<-dQ (n:=n) (c:=c0)];exact Nb W,fun k v=> ?_⟩;simp only[bP,aD] at v;subst v;rw[dQ] at r;rcases r with r|r
 ·exact .inl r
 exact .inr aR
def tK(n:Nat)(ps:LI)(ms:Nat->List (Value×List Int)):Nat->List (Int×Int)
 |0=> []
 |N+1=>if 0<(ms N).length then tK n ps ms N++ [(ps.getD (N/n) 0,ps.getD (N%n) 0)] else tK n ps ms N
theorem wE(n:Nat)(ps:LI)(ms:Nat->List (Value×List Int))(N:Nat):tK n ps ms (N+1)=if 0<(ms N).length then tK n ps ms N++ [(ps.getD (N/n) 0,ps.getD (N%n) 0)] else tK n ps ms N:=rfl
theorem Mr(n:Nat)(ps:LI)(ms:Nat->List (Value×List Int)): ∀k,(tK n ps ms k).length<=k
 |0=>aF _
 |k+1=>by
  have:=Mr n ps ms k;rw[wE];split
  ·rw[av];simp;omega
  omega
theorem abf{q g:Nat->Nat}{room:Int}{lost:Nat->Int}{ms:Nat->List (Value×List Int)}(w:World)(h:Nt B w gn n ps q g room lost ms)(hn:n<=64)(L:List (Int×Int))(hL:tK n ps ms (n*n)=L):
  Y 50 #[gn] w fun e w'=> ∃A c,e= .returned (.slice A L.length c)/\Xh w' w.heap.size (.slice A L.length c) L/\Be w w':=by
 obtain⟨t0,g0,k0,m0,n0⟩:=info_parts aaS;obtain⟨ap,cp,al,cl,ra,rc,h1,h2,h3,h4⟩:=h.ex;have c1:=h1.at_ 1;have hlen:ps.length=n:=by have:=h2.1;simpa using this
 obtain⟨H1,H2,H3,H4,QS,X⟩:=j6 h1 h2 h3 h4 h.qs hL;have PL:=jj hlen;clear h h1 h2 h3 h4 hL hlen;go_enter func50,ntmps50;go_wp2_with fail;go_loopw [3,13] (fun v i wr=> ∃a:Nat,a<=n/\i= U a/\(∃A c,v= .slice A (tK n ps ms (a*n)).length c/\Xh wr w.heap.size (.slice A (tK n ps ms (a*n)).length c) (tK n ps ms (a*n)))/\Be w wr) (fun _ i _=>n -(intOf i).toNat)
 case atStart=>exact⟨0,aR,rfl,⟨none,0,by simp[tK],by simp only[fI,tK];exact World.ownsRow_nil _ _ _ _⟩,aC _ _⟩
 case round=>
  obtain⟨a,ha,rfl,⟨A,c,rfl,f⟩,hb⟩:=hrel;have W:=jj hb;have T:=jj f;clear hb f;by_cases p:a<n
  ·obtain⟨gl,d0,r0⟩:=tu (own_below H3 W) p (v:= .slice (ra a) n (rc a)) (by simp[p])
   subst d0;have R4:=jj (H4.out a p);obtain⟨xa,P⟩:=ex (ra a);obtain⟨xc,R⟩:=ex (rc a);rw[<-P,<-R] at r0 R4;have i0:(0:Int)<=a:=aR;have i1:(a:Int)<n:=aR;clear P R;obtain⟨wo,rfl⟩:=ex wr;obtain⟨l0,D⟩:=ex (tK n ps ms (a*n));rw[<-D] at T|-;have E:=jj D;clear D;go_wp2_with fail;clear r0
   go_loopw [3,20] (fun v i wr=> ∃b:Nat,b<=n/\i= U b/\(∃A c,v= .slice A (tK n ps ms (a*n+b)).length c/\Xh wr w.heap.size (.slice A (tK n ps ms (a*n+b)).length c) (tK n ps ms (a*n+b)))/\Be w wr) (fun _ i _=>n -(intOf i).toNat)
   case atStart=>exact⟨0,aR,rfl,⟨A,c,by rw[fA,<-E.out],by rw[fA,<-E.out];exact T.out⟩,W⟩
   case round=>
    obtain⟨b,hb,rfl,⟨A,c,rfl,f⟩,u⟩:=hrel;have j:=jj u;have l:=jj f;have N:=u.size;clear u f;by_cases H:b<n
    ·obtain⟨gr,f0,r1⟩:=tu (own_below R4 j) H (v:= .pointer (some ⟨q (a*n+b),0,none⟩)) (by simp[H])
     subst f0;have z:=Mr n ps ms (a*n+b);have C:=ZN p H;have h0:n*n<=64*64:=jK hn hn;have j0:0<n:=aR;have S:=wE n ps ms (a*n+b);rw[show(a*n+b)/n=a by rw[gX,mg j0,iJ H,fA],show(a*n+b)%n=b by rw[gX,mh,dJ H]] at S;have Q:=jj ((QS.below j).DU _ C);obtain⟨k,hk⟩:=ex (a*n+b);rw[<-hk] at Q r1 z C S l|-;obtain⟨l1,I⟩:=ex (tK n ps ms k);rw[<-I] at z l S|-;obtain⟨qk,M⟩:=ex (q k);rw[<-M] at Q r1;obtain⟨m,hm⟩:=ex ((ms k).length);rw[<-hm] at S;have HM:=jj hm.symm;have t:=jj S;have i2:(0:Int)<=b:=aR;have i3:(b:Int)<n:=aR;have p0:l1.length<=4096:=aR;have F:k+1=a*n+(b+1):=aR;have r:=jj F;clear hk M hm I z C h0 F;go_wp2_with fail;refine(aa2 qk (g k) room (lost k) (ms k) _ Q m HM).mono ?_;rintro e w' ⟨rfl,rfl⟩;by_cases K:0<m
     ·have i4:(0:Int)<m:=aR
      rw[if_pos K] at t;obtain⟨G,e0,pa⟩:=tu H2 p (v:= U (ps.getD a 0)) (by simp[PL.out,p,List.getD]);subst e0;obtain⟨_,d,pb⟩:=tu H2 H (v:= U (ps.getD b 0)) (by simp[PL.out,H,List.getD]);injection d with d;injection d with d;subst d;obtain⟨x,hx⟩:=ex (ps.getD a 0);obtain⟨y,hy⟩:=ex (ps.getD b 0);rw[<-hx] at t pa;rw[<-hy] at t pb;have c0:=H1.at_ 0;have KS: ∀w',Be w w'->J w' gn 0 (O G n cp)/\J w' G a (U x)/\J w' G b (U y):=fun w' o=>⟨kept o _ _ c0,kept o _ _ pa,kept o _ _ pb⟩;clear hx hy;go_upto_region 9 with fail;refine rP (fun w'=>J w' gn 0 (O G n cp)/\J w' G a (U x)/\J w' G b (U y)) 19 (tk 0 16 (.one 16 (.one 17 (.take 18 .done)))) (KS _ j.drew) ?_;intro o0;clear c0 pa pb
      repeat refine' tT ?_
      refine pO fun KT bq=> ?_;go_simp;refine oI bq (KS _ (j.alloc N _).drew) fun _=> ?_;refine pO fun KT bq=> ?_;refine oo (by rfl) _ _ _ (by rfl) w.heap.size 115 t0 _ 2 16 underlying112 g0 k0 m0 n0 rfl aR A l1.length c (l1.flatMap Il) (by rfl) (dM l _) (some ⟨wr.heap.size,0,none⟩) 1 1 (Il (x,y)) (by rfl) (gD.nR (n:=1) (s:=2) ((aZ.new wr 115 #[U x,U y]).drew) rfl) (by simp[Il,Value.oneCell']) (by unfold maxLen;omega) aR (by simp;omega) ?_;intro A8 c8 w8 h8;have Z:Be w (wr.alloc (.cells #[U x,U y] 115)).drew:=(j.alloc N _).drew;have B8:=h8.below (dM l _) Z (aF _) Z.size;have O8:=jj h8.own;have V:=jj B8;refine oI bq (KS _ B8) fun _=> ?_
      repeat refine' tT ?_
      refine aU ?_;clear Z h8;go_wp2_with fail;go_roundw
      case rel=>
       refine⟨b+1,aR,by go_num,⟨A8,c8,?_,?_⟩,V⟩
       ·rw[<-r.out,t.out,av];rfl
       rw[<-r.out,t.out];have e:=O8.out;unfold Xh;rw[av,bS];simpa using e
      case measure=>simp[intOf];omega
     have i4: ¬(0:Int)<m:=aR;rw[if_neg K] at t;go_wp2_with fail;go_roundw
     case rel=>exact⟨b+1,aR,by go_num,⟨A,c,by rw[<-r.out,t.out],by rw[<-r.out,t.out];exact l.out⟩,j⟩
     simp[intOf];omega
    have b0:b=n:=aR;subst b0;have i3: ¬(b:Int)<b:=aR;go_wp2_with fail;go_roundw
    case rel=>exact⟨a+1,aR,by go_num,⟨A,c,by rw[gY],by rw[gY];exact l.out⟩,j⟩
    simp[intOf];omega
  have a0:a=n:=aR;subst a0;rw[X.out] at T|-;have i1: ¬(a:Int)<a:=aR;go_wp2_with fail;go_ret;exact⟨A,c,rfl,T,W⟩
structure CD where
 view:Int
 inst:Int
 seq:Int
 ba:Option Addr
 bn:Nat
 bc:Nat
 bs:List Rq
 va:Option Addr
 vn:Nat
 vc:Nat
 vs:List Vo
deriving Inhabited
def nS(c:CD):List Value:= [U c.view,U c.inst,U c.seq,acX c.ba c.bn c.bc,acX c.va c.vn c.vc]
theorem Xv(c:CD):(nS c).length=5:=rfl
structure CD.Is(w:World)(c:CD):Prop where
 b:qc w c.ba c.bn c.bc c.bs
 v:uz w c.va c.vn c.vc c.vs
 i0:qX c.view
 i1:qX c.inst
 i2:qX c.seq
theorem CD.Is.below{c:CD}(h:c.Is w)(H:Be w w'):c.Is w':=⟨h.b.below H,h.v.below H,h.i0,h.i1,h.i2⟩
structure Hu(w:World)(a:OA)(n c:Nat)(cs:List CD):Prop where
 row:gD w a n 5 (cs.flatMap nS)
 len:cs.length=n
 cap:n<=c
 max:c<=maxLen
 is: ∀c∈cs,c.Is w
def qo:Nat->Nat->List Int
 |0,n=> [(n:Int)]
 |k+1,n=>if n<128 then [(n:Int)] else((n%128+128:Nat):Int)::qo k (n/128)
def mD(n:Nat):List Int:=qo 5 n
def zig(z:Int):Nat:=if z<0 then(-2*z -1).toNat else(2*z).toNat
def vg(z:Int):List Int:=mD (zig z)
def nI{α:Type}(f:α->List Int)(l:List α):List Int:=mD l.length++l.flatMap f
theorem qV: ∀(k n:Nat),1<=(qo k n).length/\(qo k n).length<=k+1
 |0,n=>by simp[qo]
 |k+1,n=>by
  unfold qo;split
  ·simp
  have:=qV k (n/128);simp only[aY];omega
theorem qz(n:Nat):1<=(mD n).length/\(mD n).length<=6:=qV 5 n
theorem MJ: ∀(k n:Nat),n<128^(k+1)-> ∀x∈qo k n,0<=x/\x<=255
 |0,n=>by intro h x hx;simp[qo] at hx;subst hx;omega
 |k+1,n=>by
  intro h x hx;unfold qo at hx;split at hx
  ·simp at hx;subst hx;omega
  simp only[ay] at hx;rcases hx with rfl|hx
  ·omega
  refine MJ k (n/128) ?_ x hx;rw[eB aR];rw[iK] at h;exact h
theorem Bn(h:n<1099511627776): ∀x∈mD n,0<=x/\x<=255:=MJ 5 n aR
theorem vQ(k n:Nat)(h:128<=n):qo (k+1) n=((n%128+128:Nat):Int)::qo k (n/128):=by rw[qo,if_neg aR]
theorem uI(k n:Nat)(h:n<128):qo k n= [(n:Int)]:=by
 cases k with
 |zero=>rfl
 |succ k=>rw[qo,if_pos h]
def At(bs:LI)(k:Nat)(xs:LI):Prop:= ∃rest,bs.drop k=xs++rest
theorem At.app{xs:LI}(h:At bs k (xs++ys)):At bs k xs/\At bs (k+xs.length) ys:=by obtain⟨r,h⟩:=h;refine⟨⟨ys++r,by rw[h,bW]⟩,⟨r,?_⟩⟩;rw[<-lX,h,bW,List.drop_left]
theorem At.left{xs:LI}(h:At bs k (xs++ys)):At bs k xs:=h.app.1
theorem At.right{xs:LI}(h:At bs k (xs++ys)):At bs (k+xs.length) ys:=h.app.2
theorem At.head{xs:LI}(h:At bs k (x::xs)):bs[k]?=some x/\At bs (k+1) xs:=by have a:=h.app (xs:= [x]);obtain⟨r,H⟩:=h;refine⟨?_,by simpa using a.2⟩;have:=congrArg (fun l=>l[0]?) H;simpa using this
theorem At.le{xs:LI}(h:At bs k xs)(hx:0<xs.length):k+xs.length<=bs.length:=by obtain⟨r,h⟩:=h;have:=congrArg List.length h;rw[jm,av] at this;omega
theorem At.all(xs:LI):At xs 0 xs:=⟨[],bJ⟩
def oK(r:Rq):List Int:=mD r.1.toNat++(mD r.2.1.toNat++(mD r.2.2.1.toNat++(vg r.2.2.2.1++(vg r.2.2.2.2.1++mD r.2.2.2.2.2.toNat))))
def uQ(v:Vo):List Int:=mD v.1.toNat++mD v.2.toNat
structure Ce where
 view:Int
 inst:Int
 seq:Int
 batch:List Rq
 sw:List Vo
deriving DecidableEq
def uG(c:Ce):List Int:=mD c.view.toNat++(mD c.inst.toNat++(mD c.seq.toNat++(nI oK c.batch++nI uQ c.sw)))
structure Ms where
 kind:Int
 sender:Int
 view:Int
 inst:Int
 seq:Int
 res:Int
 batch:List Rq
 sw:List Vo
 vI:List Ce
deriving DecidableEq
def dF(m:Ms):List Int:=mD m.kind.toNat++(mD m.sender.toNat++(mD m.view.toNat++(mD m.inst.toNat++(mD m.seq.toNat++(vg m.res++(nI oK m.batch++(nI uQ m.sw++(nI uG m.vI++mD 0))))))))
def qh(z:Int):Prop:=0<=z/\z<1099511627776
def wP(z:Int):Prop:= -549755813888<=z/\z<549755813888
def xH(r:Rq):Prop:=qh r.1/\qh r.2.1/\qh r.2.2.1/\wP r.2.2.2.1/\wP r.2.2.2.2.1/\qh r.2.2.2.2.2
def Kv(v:Vo):Prop:=qh v.1/\qh v.2
structure Et(c:Ce):Prop where
 view:qh c.view
 inst:qh c.inst
 seq:qh c.seq
 batch: ∀r∈c.batch,xH r
 sw: ∀v∈c.sw,Kv v
 nb:c.batch.length<=256
 nv:c.sw.length<=256
structure Ev(m:Ms):Prop where
 kind:qh m.kind
 sender:qh m.sender
 view:qh m.view
 inst:qh m.inst
 seq:qh m.seq
 res:wP m.res
 batch: ∀r∈m.batch,xH r
 sw: ∀v∈m.sw,Kv v
 vI: ∀c∈m.vI,Et c
 nb:m.batch.length<=256
 nv:m.sw.length<=256
 nc:m.vI.length<=256
theorem J9{z:Int}(h:wP z):zig z<1099511627776:=by unfold zig;obtain⟨H,a⟩:=h;split<;>omega
theorem nK(n:Nat):(mD n).length<=6:=(qz n).2
theorem wR(xs y:LI):mZ (xs++y)=mZ xs++mZ y:=by simp[mZ]
theorem uX(z:Int)(J:qh z)(w:World):
  Y 134 #[U z] w fun e w'=> ∃a c,e= .returned (.tuple #[.slice a (mD z.toNat).length c,true])/\w'.ownsRow w.heap.size 5 1 (.slice a (mD z.toNat).length c) (mD z.toNat).length (mZ (mD z.toNat))/\Be w w':=by
 obtain⟨I,H,d,f,g⟩:=info_parts wU;obtain⟨t,T⟩:=J;obtain⟨n,rfl⟩:=bB t;rw[bI];have X:(0:Int)<=n:=t;have M: ¬(1099511627776:Int)<=n:=aR;have N: ¬(n:Int)<0:=aR;go_enter func134,ntmps134;go_wp2_with fail;clear M N
 go_loopw [0,4] (fun v o wr=> ∃(k m:Nat) (pre:LI) (a:OA) (c:Nat),v= U m/\o= .slice a pre.length c/\mD n=pre++qo k m/\m<128^(k+1)/\pre.length+k=5/\m<1099511627776/\wr.ownsRow w.heap.size 5 1 (.slice a pre.length c) pre.length (mZ pre)/\Be w wr) (fun v _ _=>(intOf v).toNat)
 case atStart=>exact⟨5,n,[],none,0,rfl,rfl,rfl,aR,rfl,aR,⟨rfl,.inl ⟨rfl,rfl⟩⟩,aC _ _⟩
 case round=>
  obtain⟨k,m,pre,a,c,rfl,rfl,u,b,V,G,y,p⟩:=hrel;obtain⟨W,rfl⟩:=ex wr;obtain⟨i,r,l⟩:=j3 y p u;have S:=p.size;have K:(0:Int)<=m:=aR;clear y p u;by_cases q:128<=m
  ·have P:(128:Int)<=m:=aR
   obtain⟨k,rfl⟩: ∃j,k=j+1:=⟨k -1,by
    have:k≠0:=fun e=>by subst e;simp at b;omega
    omega⟩
   have E:=jj (vQ k m q);have A:=F9 (m/128<128^(k+1)) (by rw[eB aR];rw[iK] at b;exact b)
   have F:IntKind.i64.wrap ((m:Int)%128+128)=((m%128+128:Nat):Int):=by rw[aH _ aR];omega
   have s:IntKind.u8.wrap ((m%128+128:Nat):Int)=((m%128+128:Nat):Int):=by simp[IntKind.wrap,IntKind.signed,IntKind.bits];omega
   obtain⟨x,hx⟩:=ex (((m%128+128:Nat):Int));rw[<-hx] at F s;have D:=jj hx;have R:IntKind.i64.wrap ((m:Int)/128)=((m/128:Nat):Int):=by rw[aH _ aR];omega
   clear hx b
   go_wp2_with(at_builtin;refine fD rfl _ _ _ rfl w.heap.size 5 I _ 1 1 underlying140 H d f g rfl aR a pre.length c (mZ pre) rfl (own_below i nC) (some ⟨W.heap.size,0,none⟩) 1 1 [.int .u8 x] rfl (qC _ _ _) (by simp[Value.oneCell']) (by unfold maxLen;omega) aR (by simp;omega) ?_;intro a5 C Q h)
   have B:=h.below (own_below i nC) (r.alloc S _) (aF _) (by simp;omega);have O:=h.own;rw[show mZ pre++ [Value.int .u8 x]=mZ (pre++ [x]) by simp[mZ]] at O;refine⟨⟨k,m/128,pre++ [x],a5,C,congrArg (Value.int .i64) aR,bJ,?_,A,by simp;omega,aR,by simpa using O,B⟩,by simp[intOf];omega⟩;rw[l.out,E.out,<-D.out,bW];rfl
  have P: ¬(128:Int)<=m:=aR;have E:=jj (uI k m aR);have s:IntKind.u8.wrap (m:Int)=(m:Int):=by simp[IntKind.wrap,IntKind.signed,IntKind.bits];omega
  have L:=F9 ((mD n).length=pre.length+1) (by rw[l.out,E.out];simp);clear b
  go_wp2_with(at_builtin;refine fD rfl _ _ _ rfl w.heap.size 5 I _ 1 1 underlying140 H d f g rfl aR a pre.length c (mZ pre) rfl (own_below i nC) (some ⟨W.heap.size,0,none⟩) 1 1 [.int .u8 m] rfl (qC _ _ _) (by simp[Value.oneCell']) (by unfold maxLen;omega) aR (by simp;omega) ?_;intro a5 C Q h)
  go_ret2
  have B:=h.below (own_below i nC) (r.alloc S _) (aF _) (by simp;omega);have O:=h.own;rw[show mZ pre++ [Value.int .u8 (m:Int)]=mZ (mD n) by rw[l.out,E.out];simp[mZ]] at O;exact⟨a5,C,by rw[L.out];rfl,by rw[L.out];exact O,B⟩
theorem alg(z:Int)(c:wP z)(w:World):Y 185 #[U z] w fun e w'=>e=acK (U (zig z))/\w=w':=by
 obtain⟨H,a⟩:=c;have i: ¬z< -549755813888:=aR;have I: ¬(549755813888:Int)<=z:=aR;by_cases h:z<0
 ·have E:=F9 ((zig z:Int)= -2*z -1) (by unfold zig;rw[if_pos h];omega)
  have b:IntKind.i64.wrap (-2*z)= -2*z:=aH _ aR;have d:IntKind.i64.wrap (-2*z -1)= -2*z -1:=aH _ aR;clear H a;go_enter func185,ntmps185;go_wp2_with fail;go_ret;exact⟨by rw[E.out];rfl,by trivial⟩
 have E:=F9 ((zig z:Int)=2*z) (by unfold zig;rw[if_neg h];omega);have b:IntKind.i64.wrap (2*z)=2*z:=aH _ aR;clear H a;go_enter func185,ntmps185;go_wp2_with fail;go_ret;exact⟨by rw[E.out];rfl,by trivial⟩
theorem Rs(z:Int)(k:wP z)(w:World):
  Y 135 #[U z] w fun e w'=> ∃a c,e=acK (ac2 #[acX a (vg z).length c,true])/\w'.ownsRow w.heap.size 5 1 (acX a (vg z).length c) (vg z).length (mZ (vg z))/\Be w w':=by
 obtain⟨b,d⟩:=k;have I: ¬z< -549755813888:=aR;have l: ¬(549755813888:Int)<=z:=aR;have h:=F9 (wP z) ⟨b,d⟩;have j:=F9 (qh (zig z:Int)) ⟨aR,by have:=J9 h;omega⟩;clear b d;go_enter func135,ntmps135;go_wp2_with fail;refine(alg z h _).mono ?_;rintro e w' ⟨rfl,rfl⟩;go_wp2_with fail;refine(uX _ j _).mono ?_;rintro e W ⟨a,c,rfl,H,f⟩;rw[bI] at H|-;have i:=jj H;have g:=jj f;clear H f;go_wp2_with fail;go_ret2
 exact⟨a,c,rfl,i,g⟩
def zag(n:Nat):Int:=if n%2=1 then -((n:Int)+1)/2 else(n:Int)/2
theorem ae1(z:Int):zag (zig z)=z:=by
 unfold zag zig;split
 ·rename_i h;rw[if_pos aR];omega
 rw[if_neg aR];omega
theorem afQ(z:Int)(b:wP z)(w:World):Y 243 #[U (zig z)] w fun e w'=>e=acK (U z)/\w=w':=by
 have H:=J9 b;obtain⟨n,a⟩:=ex (zig z);have E:=F9 (zag n=z) (by rw[a];exact ae1 z);rw[<-a] at H|-;have i: ¬(n:Int)<0:=aR;have I: ¬(1099511627776:Int)<=n:=aR;have g:(0:Int)<=n:=aR;clear a b;by_cases h:n%2=1
 ·have c:(n:Int)%2=1:=aR
  have d:IntKind.i64.wrap ((n:Int)+1)=(n:Int)+1:=aH _ aR;have f:IntKind.i64.wrap (-((n:Int)+1))= -((n:Int)+1):=aH _ aR;have q:((n:Int)+1).tdiv 2=((n:Int)+1)/2:=Int.tdiv_eq_ediv_of_nonneg aR;have j:0<=((n:Int)+1).tdiv 2:=by rw[q];omega
  have k:((n:Int)+1).tdiv 2<=1099511627776:=by rw[q];omega
  have Q:wrap64 (-(((n:Int)+1).tdiv 2))= -(((n:Int)+1).tdiv 2):=IntWalk.wrap64_in _ aR;have Z:=F9 (-(((n:Int)+1).tdiv 2)=z) (by rw[<-E.out,q];unfold zag;rw[if_pos h];omega);clear q;go_enter func243,ntmps243;go_wp2_with fail;go_ret;exact⟨by rw[<-Z.out];first|rfl|(simp[Q];done),by first|rfl|trivial⟩
 have c: ¬(n:Int)%2=1:=aR;have Z:=F9 (z=(n:Int)/2) (by rw[<-E.out];unfold zag;rw[if_neg h]);go_enter func243,ntmps243;go_wp2_with fail;go_ret;exact⟨by rw[Z.out];rfl,by first|rfl|trivial⟩
theorem abu(a b s:Nat)(h:a<2^s):a|||(b<<<s)=a+b*2^s:=by rw[Nat.or_comm,iL,gX,<-Nat.two_pow_add_eq_or_of_lt h,Nat.add_comm]
end Go.Proofs.YtgnhecmnlddjhaaGreat
