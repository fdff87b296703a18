/- TopAlone, part 2 of 24: a proof squeezed by a program. -/
import Derived.Test.YtgnhecmnlddjhaaGreatZ00
import Derived.OneCell
import Derived.ProofKit
import Derived.Carry
import Derived.SizedLaws
import Derived.Deep.Slices
import Derived.Deep.Fields
import Derived.ChangeSame
import Derived.Deep.RegionLawGrows
import Derived.Laws.IdiomCopy
import Derived.Test.YtgnhecmnlddjhaaGreatProg
import Derived.StillTailTactics
import Derived.Deep.CutRange
import Derived.Deep.DeepCutAuto
import Derived.Deep.CutBlock
import Derived.Deep.QuietTactic
import Derived.Laws.StructEq
set_option linter.unusedVariables false
set_option linter.unusedSimpArgs false
set_option linter.defProp false
set_option maxRecDepth 100000
set_option maxHeartbeats 6400000
namespace Go.Proofs.YtgnhecmnlddjhaaGreat
open Go.RowKit Go.Proofs.Tryz
variable{A a:OA}{B C T c cp2 g g' g2 gn j k n n' q s:Nat}{E:Prop}{K:Act->World->Prop}{P:Program}{Q:Exit->Act->World->Prop}{S:LN}{fs:Array Field}{ms':List (Value×List Int)}{o:Oper}{ops:Array Oper}{p:Addr}{ps:LI}{v:Value}{w w' w2 wa:World}{xs:LV}
section
variable{α β:Type}
theorem qj(f:α->List β)(s:Nat)(hs: ∀x,(f x).length=s): ∀st:List α,(st.flatMap f).length=st.length*s
 | []=>by simp
 |y::ys=>by simp[qj f s hs ys,hs,iH,Nat.add_comm]
theorem flat_get(f:α->List β)(s:Nat)(hs: ∀x,(f x).length=s): ∀(st:List α) (k j:Nat),j<s->(st.flatMap f)[k*s+j]?=st[k]?.bind fun x=>(f x)[j]?
 | [],k,j,hj=>by simp
 |y::ys,0,j,hj=>by
  rw[bQ,bC (by rw[hs];omega)];simp
 |y::ys,k+1,j,hj=>by
  have e:(k+1)*s+j=s+(k*s+j):=by rw[iH];omega
  rw[bQ,bN (by rw[hs,e];omega),hs,e,fG,flat_get f s hs ys k j hj];simp
def setMany:List β->Nat->List β->List β
 |L,_,[]=>L
 |L,i,v::vs=>setMany (L.set i v) (i+1) vs
theorem xV(A:List β): ∀(B R:List β) (i:Nat),setMany (A++R) (A.length+i) B=A++setMany R i B
 | [],R,i=>rfl
 |v::vs,R,i=>by
  unfold setMany;rw[iD _ _ lK,fG,dL,xV A vs _ (i+1)]
theorem zh: ∀(B A R:List β),A.length=B.length->setMany (A++R) 0 B=B++R
 | [],[],R,h=>rfl
 |v::vs,a::az,R,h=>by
  have e:=xV [v] vs (az++R) 0;unfold setMany;show setMany (v::(az++R)) (0+1) vs=_;have e':setMany (v::(az++R)) (0+1) vs=v::setMany (az++R) 0 vs:=by simpa using e
  rw[e',zh vs az R (mR h)];rfl
theorem zV(f:α->List β)(s:Nat)(hs: ∀x,(f x).length=s)(x:α): ∀(st:List α) (k:Nat),k<st.length->setMany (st.flatMap f) (k*s) (f x)=(st.set k x).flatMap f
 |y::ys,0,_=>by
  rw[bQ,fI,zh _ _ _ (by rw[hs,hs])];rfl
 |y::ys,k+1,h=>by
  have e:(k+1)*s=(f y).length+k*s:=by rw[hs,iH];omega
  rw[bQ,e,xV,zV f s hs x ys k (mR h)];rfl
theorem LY(f:α->List β)(hs: ∀x,(f x).length=2)(x:α)(a b:β)(hx:f x= [a,b])(st:List α)(k:Nat)(h:k<st.length):
  ((st.flatMap f).set (k*2) a).set (k*2+1) b=(st.set k x).flatMap f:=by
 rw[<-zV f 2 hs x st k h,hx];rfl
theorem XE(f:α->List β)(hs: ∀x,(f x).length=3)(x:α)(a b c:β)(hx:f x= [a,b,c])(st:List α)(k:Nat)(h:k<st.length):
  (((st.flatMap f).set (k*3) a).set (k*3+1) b).set (k*3+1+1) c=(st.set k x).flatMap f:=by
 rw[<-zV f 3 hs x st k h,hx];rfl
theorem nT(f:α->List β)(s:Nat)(hs: ∀x,(f x).length=s)(st:List α)(k j:Nat)(hj:j<s)(hk:k<st.length)(v:β)(hv:(f st[k])[j]?=some v):(st.flatMap f)[k*s+j]?=some v:=by
 rw[flat_get f s hs st k j hj,aj hk];exact hv
end
def Row(w:World)(g:Nat)(e:TypeId)(s n cap:Nat)(xs:LV):Prop:=w.ownsRow 0 e s (O g n cap) n xs
section
variable{w w':World}{g:Nat}{e:TypeId}{s n cap:Nat}{xs:LV}{S:LN}
theorem DI{base base':Nat}(h:w.ownsRow base e s v n xs)(hb: ∀g,v.ownBlock=some g->base'<=g):w.ownsRow base' e s v n xs:=by
 refine⟨h.1,?_⟩;rcases h.2 with hv|⟨g,cap,cur,rfl,_,rest⟩
 ·exact .inl hv
 exact .inr ⟨g,cap,cur,rfl,hb g rfl,rest⟩
theorem Row.sG{base:Nat}(h:w.ownsRow base e s (O g n cap) n xs):Row w g e s n cap xs:=DI h fun _ _=>bF _
theorem Row.len(h:Row w g e s n cap xs):xs.length=n*s:=h.1
theorem Row.lt(h:Row w g e s n cap xs):g<w.heap.size:=(dG h g rfl).2
theorem Row.parts(h:Row w g e s n cap xs): ∃cur,lQ w g e cur/\n<=cap/\cap<=maxLen/\cur.size=cap*s/\cur.toList.take (n*s)=xs:=by
 rcases h.2 with⟨h',_⟩|⟨g',cap',cur,h',_,hg,h1,h2,h3,h4⟩
 ·simp at h'
 simp only[Value.slice.injEq,aD,Addr.mk.injEq,iY,lJ] at h';obtain⟨rfl,rfl⟩:=h';exact⟨cur,hg,h1,h2,h3,h4⟩
theorem Row.EI(h:Row w g e s n cap xs):n<=cap:=by
 obtain⟨_,_,h1,_⟩:=h.parts;exact h1
theorem Row.Vr(h:Row w g e s n cap xs):cap<=maxLen:=by
 obtain⟨_,_,_,h1,_⟩:=h.parts;exact h1
theorem Row.cell(h:Row w g e s n cap xs)(hv:xs[j]?=some v):J w g j v:=by
 have hj:j<n*s:=by
  rw[<-h.1];exact(ah.1 hv).1
 rw[World.ownsRow.cellAt h j hj,hv]
theorem Row.frozen(h:Row w g e s n cap xs)(j:Nat):w.frozen? ⟨g,j,none⟩=false:=World.ownsRow.frozenAt h j
theorem Row.drew(h:Row w g e s n cap xs):Row w.drew g e s n cap xs:=h
theorem Row.only(h:Row w g e s n cap xs)(ho:Only S w w')(hn:g∉S):Row w' g e s n cap xs:=mK h ho fun k hk=>by
 simp[Value.ownBlock] at hk;subst hk;exact hn
theorem Row.below(h:Row w g e s n cap xs)(hb:Be w w'):Row w' g e s n cap xs:=h.only (Only.of_below (S:= []) hb) (aI)
theorem Row.alloc(h:Row w g e s n cap xs)(o:Obj):Row (w.alloc o) g e s n cap xs:=dM h o
theorem Row.mg(h:Row w g e s n cap xs)(j:Nat)(u:Value):Row (w.setCell ⟨g,j,none⟩ u) g e s n cap (xs.set j u):=(World.ownsRow.stored h j u).1
theorem Row.far(h:Row w g e s n cap xs)(hp:g≠p.block)(u:Value):Row (w.setCell p u) g e s n cap xs:=gQ h (fun e=>hp (dh e)) u
theorem Row.nR{cs:AV}(h:lQ w g e cs)(hs:cs.size=n*s)(hm:n<=maxLen):Row w g e s n n cs.toList:=
 ⟨by simpa using hs,.inr ⟨g,n,cs,rfl,bF _,h,aF _,hm,hs,dB (by rw[<-hs];exact lC Array.length_toList)⟩⟩
theorem Row.ne(h:Row w g e s n cap xs){t:TypeId}{cs:AV}(h':lQ w g' t cs)(hne:e≠t):g≠g':=by
 obtain⟨cur,hb,_⟩:=h.parts;exact hb.nY h' hne
theorem Row.news(h:Row w g e s n cap xs): ∀j u,xs[j]?=some u->w.cell? ((⟨g,0,none⟩:Addr).add j)=some u:=by
 intro j u hu;have e:((⟨g,0,none⟩:Addr).add j)=⟨g,j,none⟩:=by
  unfold Addr.add;by_cases hj:j=0
  ·subst hj;simp
  simp[hj]
 rw[e];exact h.cell hu
end
theorem zF(w:World)(t ty e:TypeId)(i:TypeInfo)(ht:P.underlying t=some (.slice e))(hi:P.info? e=some i)(a A:OA)(n cap c:Nat)(ha:a=none/\n=0/\cap=0\/ ∃g,a=some ⟨g,0,none⟩)(hn:n<=cap):
  (Builtin.append_ #[t,t] ty #[.slice a n cap,.slice A 0 c]).run P w= .ok (.slice a n cap) w:=by
 have hl: ∀(x:Addr),(loadCells x 0).run P w= .ok #[] w:=fun x=>by simpa using jG (P:=P) w x [] lT
 rcases ha with⟨rfl,rfl,rfl⟩|⟨g,rfl⟩
 ·cases A<;>simp[Builtin.append_,fD ht,sizeOf,typeInfo,hi,Builtin.lenOf,Builtin.firstCells,storeCells,hl]
 cases A<;>simp[Builtin.append_,fD ht,sizeOf,typeInfo,hi,Builtin.lenOf,Builtin.firstCells,hn,storeCells,hl]
theorem rF{base:Nat}{e:TypeId}(h:w.ownsRow base e s (.slice a n c) n xs):a=none/\n=0/\c=0\/ ∃g,a=some ⟨g,0,none⟩:=by
 rcases h.2 with⟨hv,h0⟩|⟨g,cap,cur,hv,_⟩
 ·injection hv with e1 e2 e3
  exact .inl ⟨e1,h0,e3⟩
 injection hv with e1 e2 e3;exact .inr ⟨g,e1⟩
theorem rZ    {rest:List Oper}  {a:Act}  (hgd:o.guard=none) (s x:Operand) (t:TypeId)
  (ho:o.op= .call {callee:= .builtin .append,args:=#[s,x],argTypes:=#[t,t]}) (e:TypeId) (i:TypeInfo) (ht:P.underlying t=some (.slice e)) (hi:P.info? e=some i) (b A:OA) (n cap c:Nat)
  (hb:b=none/\n=0/\cap=0\/ ∃g,b=some ⟨g,0,none⟩) (hn:n<=cap) (hs:a.eval s= .slice b n cap) (hx:a.eval x= .slice A 0 c) (h:wpList P ops Q rest (a.put o.dst (.slice b n cap)) w):wpList P ops Q (o::rest) a w:=
 kr hgd fun _ hK=>by
  have hrun:=zF (P:=P) w t o.type e i ht hi b A n cap c hb hn;unfold Oper.wp;simp[execOp,ho,resolve,invoke,builtin,hs,hx,hrun,Result.andThen];exact hK _ _ h
theorem Wj{base:Nat}{e t:TypeId}{cs:AV}(h:w.ownsRow base e s (.slice a n c) n xs)(hg:lQ w g t cs)(hne:e≠t): ∀p,a=some p->p.block≠g:=by
 rintro p rfl rfl;exact mG h hg hne (by simp[Value.ownBlock])
section
open Go.ChangeShapes Go.WideShapes Go.ChangeAt Go.RowKit
section
variable{H:Type}{enc:TypeId×Value->H}{P:Program}
theorem Cc(hl:laidOutB P=true){W W':World}(hb:Be W W'): ∀{ts:List TypeId} {vs:LV} {ds:List (DataW H)} {ps:List MemPlace},
  ts.all (fun t=>P.readableRec t&&decide (t<P.types.size))=true->DataW.TrodAll enc P W 0 (fun _=>true) true ts vs ds ps->(∀x∈ps,x.block<W.heap.size)->
  DataW.TrodAll enc P W' 0 (fun b=>decide (b<W.heap.size)) true ts vs ds ps
 | [],vs,ds,ps,_,h,_=>by
  obtain⟨rfl,rfl,rfl⟩:=trodAll_nil h;exact trodAll_mk0
 |t::ts,vs,ds,ps,ht,h,hlt=>by
  obtain⟨v,vs',d,ds',p,q,rfl,rfl,rfl,h1,h2⟩:=trodAll_cons h;simp only[List.all_cons,bX,dQ] at ht;exact trodAll_cons_mk (Below.trod hl ht.1.1 ht.1.2 h1 hb (fun x hx=>hlt x (bL _ hx)))
   (Cc hl hb (mR ht.2) h2 (fun x hx=>hlt x (bH _ hx)))
def Vd(C:Checked)(F:FuncId)(fn:Func):Prop:=
 ∀(H:Type) (enc:TypeId×Value->H) (W:World) (base:Nat) (args:AV) (ds:List (DataW H)) (p:List MemPlace),
  (∀(j:Nat) t v,fn.params[j]?=some t->args[j]?=some v->Value.okWide C.prog W .any base t v)->
  DataW.TrodAll enc C.prog W 0 (fun _=>true) true fn.params.toList args.toList ds p->
  (DataW.weightsEach C.prog fn.params.toList ds).all (· <=reachBytes)=true->
  Calls C.prog F args W fun e W'=>e= .returned true/\Be W W'
theorem aa1 {C:Checked} {os:Os} {F:FuncId} {fn:Func} {s:ChangeSpec} {tb:TypeId}
  (own:ownKnob C.prog.godebug=none) (started:os.Started) (noInit:C.prog.inits.idxOf? F=none) (hfn:C.prog.funcs[F]?=some fn)
  (witness: ∃(w:World) (tape:Tape) (i:Input),w.os=os/\(w.forCall tape i).Shaped C.prog/\i.vars= []/\Input.okWide C.prog (w.forCall tape i) .any w.heap.size F i/\
   s.pre6 enc C.prog fn [] false (w.forCall tape i).memory i.args/\({}:Assume).holds C.prog (lone (Frame.enter C.prog F i.args .normal) [] (w.forCall tape i)))
  (hv:s.vars= []) (hs: ∀(H:Type) (ds:List (DataW H)),ds.length=fn.params.size->s.fn H ds={results:= [.lit (.bool true)],args:=ds})
  (hl:laidOutB C.prog=true) (hp:fn.params.toList.all (fun t=>C.prog.readableRec t&&decide (t<C.prog.types.size))=true)
  (hr:fn.resultTypes=#[tb]) (hb:C.prog.underlying tb=some .bool)
  (walk:Vd C F fn):
  ReturnsInHanded {} C os F .any (s.pre6 enc C.prog fn [] false) (s.post enc C.prog fn false true false false):=by
 refine returnsInHanded_of_change_sized own started noInit hfn witness ?_;intro W base args ds gs before hval hW _ hsz _;have hW':=hW;obtain⟨p,q,hA,hV,rfl,hfz,hnd⟩:=hW;rw[hv] at hV;obtain⟨rfl,rfl⟩:=trodVars_none hV;have hlen: ∀{ts:List TypeId} {vs:LV} {ds:List (DataW H)} {ps:List MemPlace},DataW.TrodAll enc C.prog W 0 (fun _=>true) true ts vs ds ps->ds.length=ts.length:=by
  intro ts
  induction ts with
  |nil=>intro vs ds ps h;obtain⟨_,rfl,_⟩:=trodAll_nil h;rfl
  |cons t ts ih=>
   intro vs ds ps h;obtain⟨v,vs',d,ds',p,q,rfl,rfl,rfl,h1,h2⟩:=trodAll_cons h;simp[ih h2]
 have hdl:ds.length=fn.params.size:=by simpa using hlen hA
 have hlt: ∀x∈p,x.block<W.heap.size:=fun x hx=>hW'.lt x (mR hx);have hsz':(DataW.weightsEach C.prog fn.params.toList ds).all (· <=reachBytes)=true:=by
  have hvt:s.plain.varTypes C.prog= []:=by simp[ChangeSpec.plain,DataSpec.varTypes,hv]
  rw[hvt] at hsz;simpa using hsz
 refine(walk H enc W base args ds p hval hA hsz').mono fun e W' ⟨he,bel⟩=> ?_;subst he;have hfn':s.fn H (ds++ [])={results:= [.lit (.bool true)],args:=ds}:=by rw[eG];exact hs H ds hdl
 refine⟨_,rfl,_,_,_,[],p,[],hW',?_,?_,?_,bel.frame _,fun h=>by cases h⟩
 ·rw[hfn',hr]
  exact trodAll_mk1 (shut_bool hb _)
 ·rw[hfn']
  exact Cc hl bel hp hA hlt
 rw[hfn',hv];exact rfl
end
end
section
open Go.ChangeShapes Go.WideShapes Go.ChangeAt Go.RowKit Go.Deep
section
variable{H:Type}{enc:TypeId×Value->H}{P:Program}{w:World}{base:Nat}{spare:Nat->Bool}{held:Bool}
def qX(n:Int):Prop:= -9223372036854775808<=n/\n<=9223372036854775807
theorem qX.afK{n:Int}(h:(Lit.int .i64 n).wf=true):qX n:=by
 simp[Lit.wf,IntKind.min,IntKind.max,IntKind.signed,IntKind.bits] at h;exact⟨lK,lK⟩
theorem qX.zero:qX 0:=by unfold qX;omega
def Je(P:Program)(f:Field):Bool:=match P.underlying f.type with|some (.int .i64)=>true|_=>false
theorem QF{f:Field}(h:Je P f=true):P.underlying f.type=some (.int .i64):=by
 unfold Je at h;split at h
 ·assumption
 cases h
def intIn(v:Option Value):Int:=match v with|some (.int .i64 z)=>z|_=>0
theorem DC {t e:TypeId}  {fuel:Nat} {cs:LV} {x:DataW H×List MemPlace} (ht:P.underlying t=some (.slice e)) (he:P.underlying e=some (.struct fs))
  (hone:oneCellFields P fs=true) (hC:P.cellsOf e=fs.size) (h:DataW.trod enc P w base spare held fuel t cs=some x):
  (cs= [.slice none 0 0]/\x=(.nil,[]))\/
  ∃(a:Addr) (len cap m:Nat) (D:Nat->DataW H) (Pl:Nat->List MemPlace),cs= [.slice (some a) len cap]/\base<=a.block/\len<=cap/\cap<=maxLen/\m=(if spare a.block then cap else len)/\
   x=(.slice ((List.range len).map D) ((List.range (m -len)).map fun j=>D (len+j)),MemPlace.row a (m*fs.size)++(List.range m).flatMap Pl)/\
   ∀i,i<m-> ∃(ys:List (DataW H×List MemPlace)) (n:Nat),D i= .agg (ys.map (·.1))/\Pl i=ys.flatMap (·.2)/\ys.length=fs.size/\
    ∀(j:Nat) (f:Field),fs[j]?=some f-> ∃(v:Value) (y:DataW H×List MemPlace),w.cell? (a.add (i*fs.size+j))=some v/\ys[j]?=some y/\DataW.trod enc P w base spare held n f.type [v]=some y:=by
 rcases open_slice ht h with h0|⟨a,len,cap,m,n,D,Pl,hcs,hb,hl,hm,hmm,hx,hi⟩
 ·exact .inl h0
 refine .inr ⟨a,len,cap,m,D,Pl,hcs,hb,hl,hm,hmm,by rw[hC] at hx;exact hx,fun i him=> ?_⟩;obtain⟨cs',hc,ht'⟩:=hi i him;rw[hC] at hc;obtain⟨ys,n',hn',hy,hlen,hyl,hf⟩:=DataW.trod_struct he ht';obtain⟨_,hcl,hat⟩:=World.cells?_some hc;simp only[aM] at hy;refine⟨ys,n',hy.1,hy.2,hyl,fun j f hj=> ?_⟩;obtain⟨ho,hk⟩:=hone_of hone j f hj;have hjl:j<fs.size:=(eX.1 hj).1;have hcell:=hat j hjl;have hv:cs'[j]?=some (cs'[j]' lK):=aj lK;have h1:=hf j f hj;rw[ho,hk] at h1;have hone':(cs'.drop j).take 1= [cs'[j]' lK]:=by
  rw[jN lK];rfl
 rw[hone'] at h1;have hys:ys[j]?=some (ys[j]' lK):=aj lK;refine⟨_,_,?_,hys,h1.trans hys⟩;rw[<-Go.Deep.add_add,hcell,hv]
theorem addr_add(b off:Nat)(k:Nat):(⟨b,off,none⟩:Addr).add k=⟨b,off+k,none⟩:=by
 unfold Addr.add;by_cases h:k=0
 ·subst h;simp
 simp[h]
def Flat(w:World)(a:OA)(n k:Nat)(g:Nat->Int):Prop:=
 (∀i,qX (g i))/\(0<n-> ∃b off,a=some ⟨b,off,none⟩/\b<w.heap.size/\ ∀i,i<n*k->J w b (off+i) (U (g i)))
theorem lt_of_cell(h:w.cell? p=some v):p.block<w.heap.size:=by
 rcases iZ p.block w.heap.size with hlt|hge
 ·exact hlt
 have:w.heap[p.block]?=none:=gK hge;simp[World.cell?,this] at h
theorem Yg {t e:TypeId}   {r:Reach} {b0:Nat} {d:DataW H} {p:List MemPlace} (ht:P.underlying t=some (.slice e)) (he:P.underlying e=some (.struct fs))
  (hone:oneCellFields P fs=true) (hC:P.cellsOf e=fs.size) (hpos:0<fs.size) (hint:fs.toList.all (Je P)=true)
  (hv:Value.okWide P w r b0 t v) (h:DataW.Trod enc P w base (fun _=>true) held t v d p):
  ∃a n c g,v= .slice a n c/\n<=c/\c<=maxLen/\Flat w a n fs.size g:=by
 obtain⟨a0,n,c,rfl⟩:=okWide_slice ht hv;obtain⟨fuel,hf⟩:=h;rcases DC ht he hone hC hf with⟨hcs,_⟩|⟨a,len,cap,m,D,Pl,hcs,_,hl,hm,hmm,_,hi⟩
 ·simp[Value.cells] at hcs
  obtain⟨rfl,rfl,rfl⟩:=hcs;exact⟨none,0,0,fun _=>0,rfl,lK,by simp[maxLen],fun _=>qX.zero,fun h=>absurd h lK⟩
 simp[Value.cells] at hcs;obtain⟨rfl,rfl,rfl⟩:=hcs;have hmc:m=c:=by simpa using hmm
 subst hmc;have key: ∀i,i<n*fs.size-> ∃z:Int,w.cell? (a.add i)=some (U z)/\qX z:=by
  intro i hin;have h1:i/fs.size<n:=(eB hpos).2 hin;have h2:i%fs.size<fs.size:=ji _ hpos;obtain⟨ys,nn,_,_,_,hj⟩:=hi (i/fs.size) lK;obtain⟨v,y,hc,_,hy⟩:=hj (i%fs.size) _ (bD h2);have hty:P.underlying fs[i%fs.size].type=some (.int .i64):=QF (jk.1 hint fs[i%fs.size] lT);obtain⟨z,hz,_,hw⟩:=DataW.trod_int hty hy;simp only[gT,iY] at hz;subst hz;have e:i/fs.size*fs.size+i%fs.size=i:=by rw[gX];exact Nat.div_add_mod i fs.size
  rw[e] at hc;exact⟨z,hc,qX.afK hw⟩
 refine⟨some a,n,m,fun i=>if i<n*fs.size then intIn (w.cell? (a.add i)) else 0,rfl,hl,hm,?_,?_⟩
 ·intro i
  by_cases hin:i<n*fs.size
  ·obtain⟨z,hz,hw⟩:=key i hin
   simp only[aV hin,hz,intIn];exact hw
  simp only[aU hin];exact qX.zero
 intro hn;have h0:0<n*fs.size:=lG hn hpos;obtain⟨z,hz,_⟩:=key 0 h0;obtain⟨b,off,spot⟩:=a;have hspot:spot=none:=by simpa[Addr.add] using World.cell?_spot hz
 subst hspot;refine⟨b,off,rfl,by simpa[Addr.add] using lt_of_cell hz,fun i hin=> ?_⟩;obtain⟨z,hz,_⟩:=key i hin;simp only[aV hin,hz,intIn];rw[<-hz,addr_add]
end
end
def Loose(w:World)(a:OA)(e:TypeId)(s n c:Nat)(xs:LV):Prop:=
 xs.length=n*s/\n<=c/\c<=maxLen/\(a=none/\n=0/\c=0\/ ∃(g:Nat) (cur:AV),a=some ⟨g,0,none⟩/\lQ w g e cur/\c*s<=cur.size/\ ∀(i:Nat) (v:Value),xs[i]?=some v->cur[i]?=some v)
section
variable{w w':World}{a:OA}{e:TypeId}{s n c:Nat}{xs:LV}{S:LN}
theorem Loose.nil(w:World)(e:TypeId)(s:Nat):Loose w none e s 0 0 []:=⟨lT,aF _,bF _,.inl ⟨rfl,rfl,rfl⟩⟩
theorem Loose.EI(h:Loose w a e s n c xs):n<=c:=h.2.1
theorem Loose.sG{base:Nat}(h:w.ownsRow base e s (.slice a n c) n xs):Loose w a e s n c xs:=by
 rcases h.2 with⟨hv,h0⟩|⟨g,cap,cur,hv,_,hh,h1,h2,h3,h4⟩
 ·injection hv with e1 e2 e3
  subst e1;subst h0;subst e3;exact⟨h.1,aF _,bF _,.inl ⟨rfl,rfl,rfl⟩⟩
 injection hv with e1 e2 e3;subst e1;subst e3;refine⟨h.1,h1,h2,.inr ⟨g,cur,rfl,hh,by rw[h3];exact aF _,fun i v hv=> ?_⟩⟩;rw[<-h4,iP] at hv;split at hv
 ·simpa using hv
 cases hv
theorem Loose.blk(h:Loose w (some p) e s n c xs): ∃cur:Array Value,p=⟨p.block,0,none⟩/\lQ w p.block e cur/\c*s<=cur.size/\ ∀(i:Nat) (v:Value),xs[i]?=some v->cur[i]?=some v:=by
 rcases h.2.2.2 with⟨hv,_⟩|⟨g',cur,hv,h1,h2,h3⟩
 ·cases hv
 injection hv with hv;subst hv;exact⟨cur,rfl,h1,h2,h3⟩
theorem Loose.lt(h:Loose w (some p) e s n c xs):p.block<w.heap.size:=by
 obtain⟨cur,_,h1,_⟩:=h.blk;exact h1.lt
theorem Loose.only(h:Loose w a e s n c xs)(ho:Only S w w')(hn: ∀p,a=some p->p.block∉S):Loose w' a e s n c xs:=by
 refine⟨h.1,h.2.1,h.2.2.1,?_⟩;rcases h.2.2.2 with hv|⟨g,cur,rfl,h1,h2,h3⟩
 ·exact .inl hv
 exact .inr ⟨g,cur,rfl,h1.only ho (hn _ rfl),h2,h3⟩
theorem Loose.below(h:Loose w a e s n c xs)(hb:Be w w'):Loose w' a e s n c xs:=h.only (Only.of_below (S:= []) hb) (fun _ _=>aI)
theorem Loose.drew(h:Loose w a e s n c xs):Loose w.drew a e s n c xs:=h
theorem Loose.drewN(h:Loose w a e s n c xs)(k:Nat):Loose (w.drewN k) a e s n c xs:=h
theorem Loose.alloc(h:Loose w a e s n c xs)(o:Obj):Loose (w.alloc o) a e s n c xs:=h.below nC
theorem Loose.far(h:Loose w a e s n c xs)(hp: ∀q,a=some q->q.block≠p.block)(u:Value):Loose (w.setCell p u) a e s n c xs:=
 h.only (S:= [p.block]) ((Only.refl _ w).setCell (.inl lT) u) fun q hq=>by simpa using hp q hq
theorem Loose.news(h:Loose w (some p) e s n c xs): ∀j u,xs[j]?=some u->w.cell? (p.add j)=some u:=by
 obtain⟨cur,hp,h1,h2,h3⟩:=h.blk;intro j u hu;rw[hp];have e:((⟨p.block,0,none⟩:Addr).add j)=⟨p.block,j,none⟩:=by
  rw[addr_add,aO]
 rw[e,h1.cell];exact h3 j u hu
theorem Loose.cut(h:Loose w a e s n c xs)(hk:k<=n)(c':Nat)(h1:k<=c')(h2:c'<=c):Loose w a e s k c' (xs.take (k*s)):=by
 refine⟨by rw[cO,h.1];exact fO (dN s hk),h1,aG h2 h.2.2.1,?_⟩;rcases h.2.2.2 with⟨rfl,h0,h3⟩|⟨g,cur,rfl,h3,h4,h5⟩
 ·exact .inl ⟨rfl,lK,lK⟩
 refine .inr ⟨g,cur,rfl,h3,aG (dN s h2) h4,fun i v hv=>h5 i v ?_⟩;rw[iP] at hv;split at hv
 ·exact hv
 cases hv
theorem Loose.ne(h:Loose w a e s n c xs){t:TypeId}{cs:AV}(h':lQ w g' t cs)(hne:e≠t): ∀p,a=some p->p.block≠g':=by
 rintro p rfl;obtain⟨cur,_,h1,_⟩:=h.blk;exact h1.nY h' hne
end
theorem BP{t:TypeId}: ∀(vs:LV) (o:Nat) (w:World) (cur:AV),lQ w g t cur-> ∃cur',lQ (w.setCells g o vs) g t cur'/\cur'.size=cur.size
 | [],o,w,cur,h=>⟨cur,h,rfl⟩
 |v::vs,o,w,cur,h=>by
  obtain⟨cur',h1,h2⟩:=BP vs (o+1) _ _ (h.mg o v);exact⟨cur',h1,by rw[h2];simp⟩
theorem Am(hg:g∈S): ∀(vs:LV) (o:Nat) (a w:World),Only S a w->Only S a (w.setCells g o vs)
 | [],o,a,w,h=>h
 |v::vs,o,a,w,h=>Am hg vs (o+1) a _ (h.setCell (.inl hg) v)
theorem xk    {a:Act}    
  (hg:o.guard=none) (s x:Operand) (t:TypeId) (hop:o.op=Op.call {callee:=Callee.builtin Builtin.append,args:=#[s,x],argTypes:=#[t,t]})
  (e:TypeId) (i:TypeInfo) (z:Value) (size bytes:Nat) (h1:P.underlying t=some (.slice e)) (h2:P.info? e=some i) (h3:i.zero=some z) (h4:i.size=size) (h5:i.bytes=bytes) (h6:z.cells.size=size) (h7:0<size)
  (ao:OA) (n cap:Nat) (olds:LV) (hs:a.eval s= .slice ao n cap) (hl:Loose w ao e size n cap olds)
  (ad:Addr) (m c:Nat) (news:LV) (hx:a.eval x= .slice (some ad) m c) (hn:news.length=m*size) (hc: ∀j u,news[j]?=some u->w.cell? (ad.add j)=some u) (h1c: ∀u∈news,u.oneCell'=true)
  (hm:0<m) (b1:n+m<=maxLen) (b2:(n+m)*bytes<=140737488355328)
  (hK: ∀g' c' w',Loose w' (some ⟨g',0,none⟩) e size (n+m) c' (olds++news)->Only (ao.map (·.block)).toList w w'->(ao=some ⟨g',0,none⟩\/w.heap.size<=g')->K (a.put o.dst (O g' (n+m) c')) w'):
  if Region.wanted o (yielded ops a.tmps)=true then Oper.wp P o a w K Q else E:=by
 by_cases hr:n+m<=cap
 ·obtain⟨q,rfl⟩: ∃q,ao=some q:=by
   rcases hl.2.2.2 with⟨_,h0,h00⟩|⟨g,_,rfl,_⟩
   ·omega
   exact⟨_,rfl⟩
  obtain⟨cur,hq,hb,hcs,hat⟩:=hl.blk;obtain⟨g,rfl⟩: ∃g,q=⟨g,0,none⟩:=⟨_,hq⟩;have hcs':n*size+m*size<=cur.size:=by rw[<-iH];exact aG (dN size hr) hcs
  have hsp: ∀j,j<news.length->(w.cell? ⟨g,0+n*size+j,none⟩).isSome=true/\w.frozen? ⟨g,0+n*size+j,none⟩=false:=by
   intro j hj;rw[hn] at hj;refine⟨?_,hb.frozen _⟩;rw[hb.cell];have:0+n*size+j<cur.size:=lK;simp only[bD this,Option.isSome_some]
  refine step_append_room hg s x t hop e i size h1 h2 h4 g 0 n cap hs ad m c news hx hn hc h1c hr hsp ?_;refine hK g cap _ ⟨by rw[av,hl.1,hn,iH],hr,hl.2.2.1,.inr ?_⟩ (Am lT _ _ _ _ (Only.refl _ w)) (.inl rfl);obtain⟨cur',hb',hsz⟩:=BP news (0+n*size) w cur hb;refine⟨g,cur',rfl,hb',by rw[hsz];exact hcs,fun j v hv=> ?_⟩;rw[<-hb'.cell];by_cases hj:j<n*size
  ·rw[World.cell?_setCells_out g news _ w _ (fun _ _=> .inl (by show j<_;omega)),hb.cell]
   rw[bC (by rw[hl.1];exact hj)] at hv;exact hat j v hv
  rw[bN (by rw[hl.1];omega),hl.1] at hv;have hjn:j -n*size<news.length:=(ah.1 hv).1;have:=World.cell?_setCells_in g news (0+n*size) w (fun j hj=>(hsp j hj).1) (j -n*size) hjn;rw[show 0+n*size+(j -n*size)=j by omega] at this;rw[this,<-hv,aj hjn]
 refine step_append_grows hg s x t hop e i z size bytes h1 h2 h3 h4 h5 h6 h7 ao n cap olds hs ?_ hl.1 ?_ ad m c news hx hn hc h1c lK b1 b2 ?_
 ·intro h0
  rcases hl.2.2.2 with⟨_,h0,h00⟩|⟨g,_,rfl,_⟩
  ·exact⟨h0,h00⟩
  cases h0
 ·rintro b rfl j u hu
  exact hl.news j u hu
 intro v' w' hown hgrow;rcases hown.2 with⟨rfl,h0⟩|⟨g',cap',cur',rfl,hge,_⟩
 ·omega
 exact hK g' cap' w' (Loose.sG hown) ((Only.refl _ w).grown hgrow (fun k hk=>by cases hk)) (.inr hge)
theorem rY     {a:Act}    (hgd:o.guard=none) (s x:Operand) (t:TypeId)
  (ho:o.op= .call {callee:= .builtin .append,args:=#[s,x],argTypes:=#[t,t]}) (e:TypeId) (i:TypeInfo) (ht:P.underlying t=some (.slice e)) (hi:P.info? e=some i) (b A:OA) (n cap c:Nat)
  (hb:b=none/\n=0/\cap=0\/ ∃g,b=some ⟨g,0,none⟩) (hn:n<=cap)
  (hs:a.eval s= .slice b n cap) (hx:a.eval x= .slice A 0 c) (h:K (a.put o.dst (.slice b n cap)) w):
  if Region.wanted o (yielded ops a.tmps)=true then Oper.wp P o a w K Q else E:=by
 have hw:Region.wanted o (yielded ops a.tmps)=true:=by simp[Region.wanted,hgd]
 rw[aV hw];have hrun:=zF (P:=P) w t o.type e i ht hi b A n cap c hb hn;unfold Oper.wp;simp[execOp,ho,resolve,invoke,builtin,hs,hx,hrun,Result.andThen];exact h
theorem Loose.addr{e:TypeId}(h:Loose w a e s n c xs):a=none/\n=0/\c=0\/ ∃g,a=some ⟨g,0,none⟩:=by
 rcases h.2.2.2 with h|⟨g,_,h,_⟩
 ·exact .inl h
 exact .inr ⟨g,h⟩
theorem Iw{w0:World}{E:Nat}(h:Loose w0 a E s n c xs)(hT:P.underlying T=some (.slice E))(hE:P.elem T=E)(hs: ∀w:World,(sizeOf E).run P w= .ok s w)(k:Nat)(hk:k<=n)(i:Int)(hi:i=k):
  ∃A,(∀(w:World),(Instr.slice T (.slice a n c) (some (U i)) none none).run P w= .ok (.slice A (n -k) (c -k)) w)/\(k<n-> ∃g,a=some ⟨g,0,none⟩/\A=some ⟨g,k*s,none⟩):=by
 subst hi;have hc:=h.EI;refine⟨if c=k then a else a.map (·.add (k*s)),fun w=> ?_,fun hlt=> ?_⟩
 ·have h:=lH (P:=P) (w:=w) T a n c (by rw[hE];exact hT) .i64 k lK lK
  rw[h,hE,hs w];show Result.ok (sliced a ((k:Int).toNat) n c s) w=_;rw[bI];simp only[sliced]
 rcases h.addr with⟨_,h0,_⟩|⟨g,rfl⟩
 ·omega
 exact⟨g,rfl,by rw[aU lK];simp[addr_add]⟩
theorem acs{E:Nat}(hT:P.underlying T=some (.slice E))(hE:P.elem T=E)(hs: ∀w:World,(sizeOf E).run P w= .ok s w)(k:Nat)(hk:k<=n)(hc:n<=c)(w:World):
  (Instr.slice T (.slice a n c) none (some (U k)) (some (U k))).run P w= .ok (.slice a k k) w:=by
 have h:=run_slice_hm (P:=P) (w:=w) T a n c (by rw[hE];exact hT) .i64 .i64 k k lK lK lK;rw[h,hE,hs w];show Result.ok (sliced a 0 ((k:Int).toNat) ((k:Int).toNat) s) w=_;simp only[sliced,bI,jc];have e:a.map (·.add (0*s))=a:=by
  cases a with
  |none=>rfl
  |some p=>simp[Addr.add]
 rw[e];split<;>rfl
def mZ(bs:LI):List Value:=bs.map (Value.int .u8)
theorem Io(bs:LI):(mZ bs).length=bs.length:=by simp[mZ]
theorem yh(bs:LI): ∀v∈mZ bs,v.oneCell'=true:=by
 intro v hv;simp only[mZ,bM] at hv;obtain⟨x,_,rfl⟩:=hv;rfl
def Gn(w:World)(B:Nat)(v:Value)(bs:LI):Prop:= ∃a c,v= .slice a bs.length c/\w.ownsRow B 5 1 (.slice a bs.length c) bs.length (mZ bs)
section
variable{w w':World}{B B':Nat}{v:Value}{bs:LI}{S:LN}
theorem Gn.only(h:Gn w B v bs)(ho:Only S w w')(hS: ∀k∈S,∀cs,¬lQ w k 5 cs):Gn w' B v bs:=by
 obtain⟨a,c,rfl,h1⟩:=h;refine⟨a,c,rfl,mK h1 ho fun k hk hm=> ?_⟩;rcases h1.2 with⟨hv,_⟩|⟨k',cap,cur,hv,_,hb,_⟩
 ·rw[hv] at hk;simp[Value.ownBlock] at hk
 rw[hv] at hk;simp only[Value.ownBlock,aD] at hk;subst hk;exact hS _ hm _ hb
theorem Gn.below(h:Gn w B v bs)(hb:Be w w'):Gn w' B v bs:=h.only (Only.of_below (S:= []) hb) lT
theorem Gn.drewN(h:Gn w B v bs)(k:Nat):Gn (w.drewN k) B v bs:=h
theorem Gn.alloc(h:Gn w B v bs)(o:Obj):Gn (w.alloc o) B v bs:=h.below nC
theorem Gn.base(h:Gn w B v bs)(hb:B'<=B):Gn w B' v bs:=by
 obtain⟨a,c,rfl,h1⟩:=h;exact⟨a,c,rfl,DI h1 fun g hg=>aG hb (h1.lt g hg).1⟩
end
structure xX(w:World)(q g:Nat)(room lost:Int)(ms:List (Value×List Int)):Prop where
 ex: ∃a c,lQ w q 217 #[U room,U lost,.slice a ms.length c]/\Loose w a 140 1 ms.length c (ms.map Prod.fst)/\(a=none/\g=q\/a=some ⟨g,0,none⟩)
 tx: ∀m∈ms,Gn w 0 m.1 m.2/\m.2.length<=65536
 n:ms.length<=4096
section
variable{w w':World}{q g:Nat}{room lost:Int}{ms:List (Value×List Int)}{S:LN}
theorem xX.lt(h:xX w q g room lost ms):q<w.heap.size:=by
 obtain⟨a,c,h1,_⟩:=h.ex;exact h1.lt
theorem xX.glt(h:xX w q g room lost ms):g<w.heap.size:=by
 obtain⟨a,c,h1,h2,h3⟩:=h.ex;rcases h3 with⟨_,rfl⟩|rfl
 ·exact h1.lt
 exact h2.lt
theorem xX.no8(h:xX w q g room lost ms): ∀k∈ [q,g],∀cs,¬lQ w k 5 cs:=by
 obtain⟨a,c,h1,h2,h3⟩:=h.ex;intro k hk cs hb;have n1:k≠q:=fun e=>by subst e;exact lQ.nY h1 hb lN rfl
 simp only[ay,aI,bK] at hk;rcases hk with rfl|rfl
 ·exact n1 rfl
 rcases h3 with⟨_,rfl⟩|rfl
 ·exact n1 rfl
 obtain⟨cur,_,h4,_⟩:=h2.blk;exact lQ.nY h4 hb lN rfl
theorem xX.only(h:xX w q g room lost ms)(ho:Only S w w')(hq:q∉S)(hg:g∉S)(hS: ∀k∈S,∀cs,¬lQ w k 5 cs):xX w' q g room lost ms:=by
 obtain⟨a,c,h1,h2,h3⟩:=h.ex;refine⟨⟨a,c,h1.only ho hq,h2.only ho ?_,h3⟩,fun m hm=>⟨(h.tx m hm).1.only ho hS,(h.tx m hm).2⟩,h.n⟩;rintro p rfl;rcases h3 with⟨h0,_⟩|h0
 ·cases h0
 injection h0 with h0;subst h0;exact hg
theorem xX.below(h:xX w q g room lost ms)(hb:Be w w'):xX w' q g room lost ms:=h.only (Only.of_below (S:= []) hb) lT lT lT
theorem xX.drewN(h:xX w q g room lost ms)(k:Nat):xX (w.drewN k) q g room lost ms:=⟨h.ex,h.tx,h.n⟩
end
theorem wU:(prog.info? 5).map (fun i=>(i.zero,i.size,i.bytes))=some (some (.int .u8 0),1,1):=by kernel_rfl
theorem Og:(prog.info? 140).map (fun i=>(i.zero,i.size,i.bytes))=some (some (.slice none 0 0),1,24):=by kernel_rfl
theorem WH(w:World):(sizeOf 140).run prog w= .ok 1 w:=by
 obtain⟨j0,hj0,hy0,hy1,hy2⟩:=bq Og;simp[sizeOf,typeInfo,hj0,hy1]
theorem VF(a:OA)(n c:Nat)(bs:LI)(w:World)(h:mo w a n 1 (mZ bs))(hm:n<=65537):
  Y 148 #[.slice a n c] w fun e w'=> ∃v,e= .returned v/\Gn w' w.heap.size v bs/\Be w w':=by
 obtain⟨i0,hi0,hz0,hz1,hz2⟩:=bq wU;have hl:n=bs.length:=by have:=h.1;rw[Io,fP] at this;exact this.symm
 subst hl;by_cases h0:bs.length=0
 ·obtain rfl:bs= []:=dA h0
  clear h;go_enter func148,ntmps148
  go_wp2_with(at_builtin;refine rZ rfl _ _ _ rfl 5 i0 underlying140 hi0 none a 0 0 c (.inl ⟨rfl,rfl,rfl⟩) (aF _) rfl rfl ?_)
  go_ret;exact⟨_,rfl,⟨none,0,rfl,⟨rfl,.inl ⟨rfl,rfl⟩⟩⟩,aC _ _⟩
 obtain⟨b,off,rfl,hlt,hc⟩:=h.2 lK;have hbl:=Io bs;have hb1:=yh bs;have hnews: ∀j u,(mZ bs)[j]?=some u->w.cell? ((⟨b,off,none⟩:Addr).add j)=some u:=fun j u hj=>by rw[addr_add];exact hc j u hj
 go_enter func148,ntmps148
 go_wp2_with(at_builtin;refine fU _ rfl _ _ _ rfl w.heap.size 5 i0 _ 1 1 underlying140 hi0 hz0 hz1 hz2 rfl lK () 0 [] rfl ⟨rfl,.inl ⟨rfl,rfl⟩⟩ ⟨b,off,none⟩ bs.length c (mZ bs) rfl (by rw[hbl,fP]) hnews hb1 lK (by unfold maxLen;omega) lK (aF _) w.heap.size rfl ?_;intro g5 cap5 w5 hown5 ag3 avl avr)
 go_ret;rw[aO,bU] at hown5;exact⟨_,rfl,⟨some ⟨g5,0,none⟩,cap5,rfl,hown5⟩,((Only.refl [] w).grown ag3 (fun k hk=>by cases hk)).mY⟩
theorem XU(room:Int)(w:World)(h1:1<=room)(h2:room<=256):
  Y 71 #[U room] w fun e w'=> ∃q,e= .returned (.tuple #[(q:Nat),U 0])/\xX w' q q room 0 []/\w.heap.size<=q/\Be w w':=by
 go_enter func71,ntmps71
 go_wp2
 go_ret2
 exact⟨w.heap.size,rfl,⟨⟨none,0,lQ.new _ _ _,Loose.nil _ _ _,.inl ⟨rfl,rfl⟩⟩,lT,lT⟩,aF _,nC⟩
theorem aa2(q g:Nat)(room lost:Int)(ms:List (Value×List Int))(w:World)(h:xX w q g room lost ms)(n:Nat)(hn:ms.length=n):
  Y 84 #[q] w fun e w'=>e= .returned (U n)/\w=w':=by
 subst hn;obtain⟨a,c,h1,h2,h3⟩:=h.ex;have c2:=h1.at_ 2;clear h h1 h2 h3;go_enter func84,ntmps84
 go_wp2
 go_ret;exact⟨rfl,rfl⟩
theorem ad3(q g:Nat)(room lost:Int)(ms:List (Value×List Int))(k:Int)(w:World)(h:xX w q g room lost ms)(hk:qX k)(b:Bool)(hb:decide (0<=k/\k<ms.length)=b):
  Y 149 #[q,U k] w fun e w'=>e= .returned b/\w=w':=by
 have hn:=h.n;obtain⟨a,c,h1,h2,h3⟩:=h.ex;have c2:=h1.at_ 2;clear h h1 h2 h3;unfold qX at hk;by_cases h0:0<=k
 ·by_cases h1:k<ms.length
  ·obtain rfl:b=true:=by rw[<-hb];exact aZ ⟨h0,h1⟩
   clear hb;go_enter func149,ntmps149
   go_wp2
   go_ret;exact⟨rfl,rfl⟩
  obtain rfl:b=false:=by rw[<-hb];exact aR (fun e=>h1 e.2)
  clear hb;go_enter func149,ntmps149
  go_wp2
  go_ret;exact⟨rfl,rfl⟩
 obtain rfl:b=false:=by rw[<-hb];exact aR (fun e=>h0 e.1)
 clear hb;go_enter func149,ntmps149
 go_wp2
 go_ret;exact⟨rfl,rfl⟩
theorem xX.next   {room lost:Int} {ms:List (Value×List Int)}  {c':Nat} (h:xX w q g room lost ms) (hg3:a=none/\g=q\/a=some ⟨g,0,none⟩)
  (hb:lQ w q 217 #[U room,U lost,.slice a ms.length c]) (hl:Loose w' (some ⟨g',0,none⟩) 140 1 n' c' (ms'.map Prod.fst)) (hn:ms'.length=n') (ho:Only [q,g] w w') (ho2:lQ w' q 217 #[U room,U lost,.slice a ms.length c])
  (htx: ∀m∈ms',Gn w' 0 m.1 m.2/\m.2.length<=65536) (hc:n'<=4096) (j:Nat):
  xX ((w'.setCell ⟨q,2,none⟩ (O g' n' c')).drewN j) q g' room lost ms'/\Only [q,g] w ((w'.setCell ⟨q,2,none⟩ (O g' n' c')).drewN j):=by
 subst hn;have o:Only [q,g] w (w'.setCell ⟨q,2,none⟩ (O g' ms'.length c')):=ho.setCell (.inl lT) _;refine⟨xX.drewN ⟨⟨some ⟨g',0,none⟩,c',ho2.mg 2 _,hl.far (fun p hp=>hl.ne ho2 lN p hp) _,.inr rfl⟩,fun m hm=>⟨(htx m hm).1.only (S:= [q]) ((Only.refl _ _).setCell (.inl lT) _) ?_,(htx m hm).2⟩,hc⟩ j,o.drewN j⟩;intro k hk cs hb8;simp only[ay,aI,bK] at hk;subst hk;exact lQ.nY ho2 hb8 lN rfl
theorem Yl   {room lost:Int} {ms:List (Value×List Int)}    {bs:LI} (h:xX w q g room lost ms) (h1:lQ w q 217 #[U room,U lost,.slice A ms.length C]) (h3:A=none/\g=q\/A=some ⟨g,0,none⟩)
  (ob:Only [q,g] w wa) (hla:Loose wa A 140 1 ms.length C (ms.map Prod.fst)) (ht:Gn wa B v bs) (hl2:Loose w2 (some ⟨g2,0,none⟩) 140 1 (ms.length+1) cp2 (ms.map Prod.fst++ [v]))
  (ho2:Only (A.map (·.block)).toList wa w2) (hat:A=some ⟨g2,0,none⟩\/wa.heap.size<=g2) (kb2:lQ w2 q 217 #[U room,U lost,.slice A ms.length C]) (hbs:bs.length<=65536) (hn:ms.length+1<=4096) (j:Nat):
  xX ((w2.setCell ⟨q,2,none⟩ (O g2 (ms.length+1) cp2)).drewN j) q g2 room lost (ms++ [(v,bs)])/\Only [q,g] w ((w2.setCell ⟨q,2,none⟩ (O g2 (ms.length+1) cp2)).drewN j)/\(g2=g\/w.heap.size<=g2)/\Gn ((w2.setCell ⟨q,2,none⟩ (O g2 (ms.length+1) cp2)).drewN j) B v bs:=by
 have hm: ∀k∈(A.map (·.block)).toList,k=g/\ ∀cs,¬lQ wa k 5 cs:=by
  intro k hk
  cases A with
  |none=>simp at hk
  |some p=>
   simp only[bP,jH,ay,aI,bK] at hk;subst hk;rcases h3 with⟨h0,_⟩|h0
   ·cases h0
   injection h0 with h0;refine⟨by rw[h0],fun cs hb=> ?_⟩;obtain⟨cur,_,h4,_⟩:=hla.blk;exact lQ.nY h4 hb lN rfl
 have o2:Only [q,g] w w2:=ob.then ho2 (fun k hk=> .inl (by rw[(hm k hk).1];simp));have ok:=h.next (ms':=ms++ [(v,bs)]) h3 h1 (by rw[bR];exact hl2) (by rw[av];rfl) o2 kb2 (fun m hmm=>by
  rcases aQ.1 hmm with h5|h5
  ·exact⟨((h.tx m h5).1.only ob h.no8).only ho2 (fun k hk=>(hm k hk).2),(h.tx m h5).2⟩
  simp only[ay,aI,bK] at h5;subst h5;exact⟨(ht.only ho2 (fun k hk=>(hm k hk).2)).base (bF _),hbs⟩) hn j
 refine⟨ok.1,ok.2,?_,?_⟩
 ·rcases hat with h5|h5
  ·rcases h3 with⟨h0,_⟩|h0
   ·rw[h0] at h5;cases h5
   rw[h0] at h5;injection h5 with h5;injection h5 with h5;exact .inl h5.symm
  exact .inr (aG ob.size h5)
 refine Gn.drewN ((ht.only ho2 (fun k hk=>(hm k hk).2)).only (S:= [q]) ((Only.refl _ _).setCell (.inl lT) _) ?_) j;intro k hk cs hb8;simp only[ay,aI,bK] at hk;subst hk;exact lQ.nY kb2 hb8 lN rfl
theorem aeB(q g:Nat)(room lost:Int)(ms:List (Value×List Int))(a:OA)(n c:Nat)(bs:LI)(w:World)(h:xX w q g room lost ms)(hr:1<=room/\room<=256)(hv:mo w a n 1 (mZ bs))(hn:n<=65536)(hlt:ms.length<room):
  Y 116 #[q,.slice a n c] w fun e w'=> ∃g' v,e= .returned true/\xX w' q g' room lost (ms++ [(v,bs)])/\Only [q,g] w w'/\(g'=g\/w.heap.size<=g')/\Gn w' w.heap.size v bs:=by
 obtain⟨i0,hi0,hz0,hz1,hz2⟩:=bq Og;have hmn:=h.n;have hbl:bs.length=n:=by have:=hv.1;rw[Io,fP] at this;exact this
 obtain⟨A,C,h1,h2,h3⟩:=h.ex;have c0:=h1.at_ 0;have c2:=h1.at_ 2;have f2:=h1.frozen 2;have d1:decide ((ms.length:Int)≥room)=false:=aR lK;have d2:decide ((n:Int)>65536)=false:=aR lK;have d3: ¬(65536:Int)<n:=lK;obtain⟨H,H1,H2,H3,HV,HBL⟩:=j6 h h1 h2 h3 hv hbl;have sz:=h.lt;clear h h1 h2 h3 hv hbl;go_enter func116,ntmps116
 go_wp2_with fail
 go_quiet(fail)
 go_wp2_with fail
 obtain⟨w0,hw0⟩:=ex (w.drewN nq);rw[<-hw0];have K1:Hid (lQ w0 q 217 #[U room,U lost,.slice A ms.length C]):=by rw[hw0];exact jj (H1.drewN _)
 have K2:Hid (Loose w0 A 140 1 ms.length C (ms.map Prod.fst)):=by rw[hw0];exact jj (H2.drewN _)
 have KV:Hid (mo w0 a n 1 (mZ bs)):=by rw[hw0];exact HV
 have KO:Hid (Only [q,g] w w0):=by rw[hw0];exact jj ((Only.refl _ w).drewN _)
 have KS:Hid (w0.heap.size=w.heap.size):=by rw[hw0];exact jj rfl
 have c2':=K1.at_ 2;have f2':=K1.frozen 2;clear hw0 c0 c2 f2 d1 d2
 go_region_law (first
  |(refine xk (by rfl) _ _ _ (by rfl) 140 i0 _ 1 24 underlying215 hi0 hz0 hz1 hz2 rfl lK A ms.length C (ms.map Prod.fst) (by rfl) ((K2.drew.below hb1).alloc _) ⟨w1.heap.size,0,none⟩ 1 1 [.slice a' bs.length c'] (by rfl) (by rfl) (World.news_of_block (cs:=#[.slice a' bs.length c']) (t:=140) (fr:=(0,0)) (jI w1 _)) (by simp[Value.oneCell']) lK (by unfold maxLen;omega) lK ?_;intro g2 cp2 w2 hl2 ho2 agW;have kb2:=(((K1.drew.below hb1 (by exact K1.lt)).alloc (.cells #[.slice a' bs.length c'] 140))).only ho2 (by cases A with|none=>exact aI|some p=>simpa using fun e=>(K2.ne K1 lN p rfl) e.symm);have d2':=kb2.cell 2;have df2:=kb2.frozen 2)
  |(go_simp;refine(VF a n c bs w0.drew KV.drew lK).mono ?_;rintro e w1 ⟨v,rfl,ht0,hb1⟩;have ht1:=jj ht0;obtain⟨a',c',rfl,hv0⟩:=ht0;have e2:J w1 q 2 (.slice A ms.length C):=(K1.drew.below hb1 (by exact K1.lt)).cell 2;have e3:=rE (.cells #[.slice a' bs.length c'] 140) e2))
 all_goals
  go_wp2_with fail
  go_ret;have ob:Only [q,g] w (w1.alloc (.cells #[.slice a' bs.length c'] 140)):=(((KO.drew).trans (Only.of_below hb1)).alloc _);have ok:=Yl H H1 H3 ob ((K2.drew.below hb1).alloc _) ((ht1.alloc (.cells #[.slice a' bs.length c'] 140))) hl2 ho2 agW kb2 (tL HBL.out) lK 0;exact⟨g2,.slice a' bs.length c',rfl,ok.1,ok.2.1,ok.2.2.1,ok.2.2.2.base (by rw[<-KS.out];exact aF _)⟩
theorem xX.at_{room lost:Int}{ms:List (Value×List Int)}(h:xX w q g room lost ms)(hk:k<ms.length):
  ∃c a' c',J w q 2 (O g ms.length c)/\J w g k (.slice a' ms[k].2.length c')/\ms[k].1= .slice a' ms[k].2.length c'/\mo w a' ms[k].2.length 1 (mZ ms[k].2):=by
 obtain⟨a,c,h1,h2,h3⟩:=h.ex;obtain⟨a',c',h4,h5⟩:=(h.tx _ (bY hk)).1;rcases h3 with⟨rfl,_⟩|rfl
 ·rcases h2.addr with⟨_,h0,_⟩|⟨_,h0⟩
  ·omega
  cases h0
 refine⟨c,a',c',h1.cell 2,?_,h4,l9 h5⟩;have:=h2.news k ms[k].1 (by simp[hk]);rw[addr_add,aO,h4] at this;exact this
theorem Rh   {room lost:Int} {ms:List (Value×List Int)}   (h:xX w q g room lost ms) (h1:lQ w q 217 #[U room,U lost,.slice A ms.length C]) (h2:Loose w A 140 1 ms.length C (ms.map Prod.fst)) (h3:A=none/\g=q\/A=some ⟨g,0,none⟩)
  (ob:Only [] w wa) (htx: ∀m∈ms',Gn w 0 m.1 m.2/\m.2.length<=65536) (hl2:Loose w2 (some ⟨g2,0,none⟩) 140 1 n' cp2 (ms'.map Prod.fst)) (hn':ms'.length=n')
  (ho2:Only (A.map (·.block)).toList wa w2) (hat:A=some ⟨g2,0,none⟩\/wa.heap.size<=g2) (hn:n'<=4096) (j:Nat):
  xX ((w2.setCell ⟨q,2,none⟩ (O g2 n' cp2)).drewN j) q g2 room lost ms'/\Only [q,g] w ((w2.setCell ⟨q,2,none⟩ (O g2 n' cp2)).drewN j)/\(g2=g\/w.heap.size<=g2):=by
 have hm: ∀k∈(A.map (·.block)).toList,k=g/\k≠q/\ ∀cs,¬lQ w k 5 cs:=by
  intro k hk
  cases A with
  |none=>simp at hk
  |some p=>
   simp only[bP,jH,ay,aI,bK] at hk;subst hk;rcases h3 with⟨h0,_⟩|h0
   ·cases h0
   injection h0 with h0;refine⟨by rw[h0],h2.ne h1 lN p rfl,fun cs hb=> ?_⟩;obtain⟨cur,_,h4,_⟩:=h2.blk;exact lQ.nY h4 hb lN rfl
 have o3:Only (A.map (·.block)).toList w w2:=(ob.mono (fun k hk=>by cases hk)).trans ho2;have o2:Only [q,g] w w2:=o3.mono (fun k hk=> .inl (by rw[(hm k hk).1];simp));have ok:=h.next (ms':=ms') h3 h1 hl2 hn' o2 (h1.only o3 (fun e=>(hm q e).2.1 rfl)) (fun m hmm=>⟨(htx m hmm).1.only o3 (fun k hk=>(hm k hk).2.2),(htx m hmm).2⟩) hn j;refine⟨ok.1,ok.2,?_⟩;rcases hat with h5|h5
 ·rcases h3 with⟨h0,_⟩|h0
  ·rw[h0] at h5;cases h5
  rw[h0] at h5;injection h5 with h5;injection h5 with h5;exact .inl h5.symm
 exact .inr (aG ob.size h5)
theorem aeC{α:Type}(ms:List α)(k:Nat)(hk:k<ms.length):(ms.take k++ms.drop (k+1)).length=k+(ms.length -(k+1)):=by
 rw[av,cO,jm,fO lK]
theorem Wv(ms:List (Value×List Int))(k:Nat): ∀m∈ms.take k++ms.drop (k+1),m∈ms:=by
 intro m hm;rcases aQ.1 hm with h|h
 ·exact jv h
 exact kL h
theorem ak6(q g:Nat)(room lost:Int)(ms:List (Value×List Int))(k:Nat)(w:World)(h:xX w q g room lost ms)(hk:k<ms.length)(i:Int)(hi:i=k):
  Y 150 #[q,U i] w fun e w'=> ∃g',e= .returned ms[k].1/\xX w' q g' room lost (ms.take k++ms.drop (k+1))/\Only [q,g] w w'/\(g'=g\/w.heap.size<=g'):=by
 subst hi;obtain⟨i0,hi0,hz0,hz1,hz2⟩:=bq Og;have hmn:=h.n;obtain⟨A,C,h1,h2,h3⟩:=h.ex;have c2:=h1.at_ 2;obtain⟨C',a',c',q1,q2,q3,_⟩:=h.at_ hk;obtain⟨rfl,rfl⟩:A=some ⟨g,0,none⟩/\C'=C:=by
  rw[c2] at q1;injection q1 with q1;injection q1 with e1 e2 e3;exact⟨e1,e3.symm⟩
 have i0':(0:Int)<=k:=lK;have i1:(k:Int)<ms.length:=lK;have i2:IntKind.i64.wrap ((k:Int)+1)=(k:Int)+1:=aH _ lK;have hcap:=h2.EI;have f2:=h1.frozen 2;obtain⟨l',hl'⟩:=ex ms[k].2.length;rw[<-hl'] at q2 q3;have sl1:=acs (P:=prog) (a:=some ⟨g,0,none⟩) (T:=215) (E:=140) (s:=1) underlying215 (by kernel_rfl) WH k (Nat.le_of_lt hk) hcap;obtain⟨B,sl2,hB⟩:=Iw (P:=prog) (T:=215) h2 underlying215 (by kernel_rfl) WH (k+1) lK ((k:Int)+1) lK;have lc:=h2.cut (Nat.le_of_lt hk) k (aF _) lK;have hrl:=aeC ms k hk;have hrm:(ms.take k++ms.drop (k+1)).map Prod.fst=(ms.map Prod.fst).take (k*1)++(ms.map Prod.fst).drop (k+1):=by
  rw[bR,List.map_take,List.map_drop,fP]
 obtain⟨H,H1,H2,H3,Q3,LC⟩:=j6 h h1 h2 h3 q3 lc;have HRL:=jj hrl;have HRM:=jj hrm;clear h h1 h2 h3 q1 q3 hl' lc hrl hrm;by_cases hlast:k+1<ms.length
 ·obtain⟨g1,hg1,rfl⟩:=hB hlast
  obtain rfl:g=g1:=by injection hg1 with e;injection e
  have hnl:((ms.map Prod.fst).drop (k+1)).length=(ms.length -(k+1))*1:=by rw[jm,aT,fP]
  have hnews: ∀j u,((ms.map Prod.fst).drop (k+1))[j]?=some u->w.cell? ((⟨g,(k+1),none⟩:Addr).add j)=some u:=by
   intro j u hu;rw[List.getElem?_drop] at hu;have:=H2.news (k+1+j) u hu;rw[addr_add,aO] at this
   rwa [addr_add]
  have hone: ∀u∈(ms.map Prod.fst).drop (k+1),u.oneCell'=true:=by
   intro u hu;obtain⟨m,hm,rfl⟩:=bM.1 (kL hu);obtain⟨a1,c1,e1,_⟩:=(H.tx m hm).1;rw[e1];rfl
  obtain⟨HN,HO,HNL⟩:=j3 hnews hone hnl;clear hnews hone hnl hB;go_enter func150,ntmps150
  go_wp2_with fail
  go_region_law (refine xk (by rfl) _ _ _ (by rfl) 140 i0 _ 1 24 underlying215 hi0 hz0 hz1 hz2 rfl lK (some ⟨g,0,none⟩) k k ((ms.map Prod.fst).take (k*1)) (by rfl) LC.drew ⟨g,k+1,none⟩ (ms.length -(k+1)) (C' -(k+1)) ((ms.map Prod.fst).drop (k+1)) (by rfl) HNL HN HO lK (by unfold maxLen;omega) lK ?_;intro g2 cp2 w2 hl2 ho2 agW;have kb2:=(H1.drew).only ho2 (by simpa using fun e=>(H2.ne H1 lN _ rfl) e.symm);have d2':=kb2.cell 2;have df2:=kb2.frozen 2)
  all_goals
   go_wp2_with fail
   go_ret;have ok:=Rh (ms':=ms.take k++ms.drop (k+1)) H H1 H2 (.inr rfl) ((Only.refl _ w).drew) (fun m hm=>H.tx m (Wv ms k m hm)) (by rw[HRM.out];exact hl2) HRL ho2 agW lK 0;exact⟨g2,by rw[Q3.out];rfl,ok.1,ok.2.1,ok.2.2⟩
 have aaJ:ms.length -(k+1)=0:=lK;rw[aaJ] at sl2;have hdr:(ms.map Prod.fst).drop (k+1)= []:=eP (by rw[aT];omega);have HDR:=jj hdr;clear hdr hB;go_enter func150,ntmps150
 go_wp2_with fail
 go_region_law (refine rY (by rfl) _ _ _ (by rfl) 140 i0 underlying215 hi0 (some ⟨g,0,none⟩) B k k (C' -(k+1)) (.inr ⟨g,rfl⟩) (aF _) (by rfl) (by rfl) ?_)
 all_goals
  go_wp2_with fail
  go_ret;have ok:=Rh (ms':=ms.take k++ms.drop (k+1)) (w2:=w.drew) (n':=k) (cp2:=k) (g2:=g) H H1 H2 (.inr rfl) ((Only.refl _ w).drew) (fun m hm=>H.tx m (Wv ms k m hm)) (by rw[HRM.out,HDR.out,eG];exact LC.drew) (by rw[HRL.out,aaJ];rfl) (Only.refl _ _) (.inl rfl) lK 0;exact⟨g,by rw[Q3.out];rfl,ok.1,ok.2.1,ok.2.2⟩
theorem aeN(q g:Nat)(room lost:Int)(ms:List (Value×List Int))(k:Nat)(w:World)(h:xX w q g room lost ms)(hk:k<ms.length)(i:Int)(hi:i=k):
  Y 117 #[q,U i] w fun e w'=> ∃g' v,e= .returned (.tuple #[v,true])/\Gn w' w.heap.size v ms[k].2/\xX w' q g' room lost (ms.take k++ms.drop (k+1))/\Only [q,g] w w'/\(g'=g\/w.heap.size<=g')/\v.ownBlock≠some g':=by
 have hn:=h.n;have hm:=h.tx _ (bY hk);have hb:=hm.2;obtain⟨a',c',h4,h5⟩:=hm.1;have i0:(0:Int)<=i:=lK;have i1:i<ms.length:=lK;obtain⟨H,H4,HM,HI⟩:=j4 h h4 hm.1 hi;clear h h4 h5 hm hi;go_enter func117,ntmps117
 go_wp2_with fail
 refine(ad3 q g room lost ms i _ H (by unfold qX;omega) true (aZ ⟨i0,i1⟩)).mono ?_;rintro e w1 ⟨rfl,rfl⟩
 go_wp2_with fail
 refine(ak6 q g room lost ms k _ H hk i HI).mono ?_;rintro e w1 ⟨g',rfl,hq1,ho1,hg1⟩;have T1:=HM.only ho1 H.no8;obtain⟨Q1,O1,G1⟩:=j3 hq1 ho1 hg1;clear hq1 ho1 hg1;obtain⟨a1,c1,e1,r1⟩:=T1;have E1:=jj e1;have R1:=jj (l9 r1);obtain⟨bs,hbs⟩:=ex ms[k].2;obtain⟨v0,hv0⟩:=ex ms[k].1;rw[<-hv0] at E1|-;rw[<-hbs] at E1 R1 hb;have Lf:=jj hbs;obtain rfl:=E1.out;clear r1 e1 E1 hbs hv0
 go_wp2_with fail
 refine(VF a1 bs.length c1 bs _ R1 lK).mono ?_;rintro e w2 ⟨v,rfl,ht2,hb2⟩;have T2:=jj ht2;have B2:=jj hb2;clear ht2 hb2
 go_wp2_with fail
 go_ret2
 refine⟨g',v,rfl,by rw[<-Lf.out];exact T2.base O1.size,Q1.below B2,O1.belows B2,G1,fun e=> ?_⟩;obtain⟨a3,c3,rfl,h3⟩:=T2.out;have:=(h3.lt g' e).1;have:=Q1.glt;omega


theorem YD(v n:Int)(hn:1<=n):(0<=v.tmod n->v%n=v.tmod n)/\(v.tmod n<0->v%n=v.tmod n+n)/\ -n<v.tmod n/\v.tmod n<n:=by
 have h1:=jA v (show n≠0 by omega);have h2:=iQ v (show 0<n by omega);have h4:v.tmod n<n:=Int.tmod_lt_of_pos v lK;rcases Int.le_total 0 v with h|h
 ·have:v.tmod n=v%n:=gN h
  rw[this];omega
 have e:(-v).tmod n=(-v)%n:=gN lK;have e2:v.tmod n= -((-v)%n):=by rw[<-e,Int.neg_tmod];omega
 have h5:=jA (-v) (show n≠0 by omega);have h6:=iQ (-v) (show 0<n by omega);have h7:(v%n+(-v)%n)%n=0:=by rw[<-Int.add_emod,Int.add_right_neg,Int.zero_emod]
 rw[e2];generalize v%n=a at*;generalize (-v)%n=b at*;have h8:a+b=0\/a+b=n:=by
  rcases Int.lt_or_le (a+b) n with h9|h9
  ·left
   rw[jQ lK h9] at h7;exact h7
  right;have:(a+b)%n=(a+b -n)%n:=by rw[Int.sub_emod_right]
  rw[this,jQ lK lK] at h7;omega
 omega
theorem Sg(v n:Int)(w:World)(hv:qX v)(hn:1<=n)(hn2:n<=4611686018427387904):
  Y 9 #[U v,U n] w fun e w'=>e= .returned (U (v%n))/\w=w':=by
 obtain⟨hv1,hv2⟩:=hv;obtain⟨t0,t1,t2,t3⟩:=YD v n hn;by_cases h0:0<=v
 ·have e0:=jA v (show n≠0 by omega)
  have e1:=iQ v (show 0<n by omega);clear t0 t1 t2 t3;go_enter func9,ntmps9
  go_wp2
  go_ret;exact⟨rfl,rfl⟩
 by_cases h:v.tmod n<0
 ·have e:=jj (t1 h)
  clear t0 t1;go_enter func9,ntmps9
  go_wp2
  go_ret;exact⟨by rw[e.out];rfl,rfl⟩
 have e:=jj (t0 lK);clear t0 t1;go_enter func9,ntmps9
 go_wp2
 go_ret;exact⟨by rw[e.out];rfl,rfl⟩
theorem acF(v n:Int)(w:World)(hv:qX v)(hn:1<=n)(hn2:n<=4611686018427387904):
  Y 9 #[U v,U n] w fun e w'=> ∃q,e= .returned (U q)/\Hid (q=v%n)/\0<=q/\q<n/\w=w':=
 (Sg v n w hv hn hn2).mono fun e w' ⟨he,hw⟩=>⟨_,he,jj rfl,jA v lK,iQ v lK,hw⟩
section
variable{w0 w w':World}{q:Nat}{room lost:Int}{L:List LI}
end
def ru{α:Type}(f:Nat->α)(i:Nat)(x:α):Nat->α:=fun j=>if j=i then x else f j
theorem ou{α:Type}(f:Nat->α)(i:Nat)(x:α):ru f i x i=x:=aV rfl
theorem oP{α:Type}(f:Nat->α){i:Nat}(x:α)(h:j≠i):ru f i x j=f j:=aU h
structure Qs(w:World)(N:Nat)(q g:Nat->Nat)(room:Int)(lost:Nat->Int)(ms:Nat->List (Value×List Int)):Prop where
 DU: ∀k,k<N->xX w (q k) (g k) room (lost k) (ms k)
 apart: ∀i j,i<N->j<N->i≠j->q i≠q j/\q i≠g j/\g i≠q j/\g i≠g j
section
variable{w w':World}{N:Nat}{q g:Nat->Nat}{room:Int}{lost:Nat->Int}{ms:Nat->List (Value×List Int)}
theorem Qs.nil(w:World)(q g:Nat->Nat)(room:Int)(lost:Nat->Int)(ms:Nat->List (Value×List Int)):Qs w 0 q g room lost ms:=⟨fun k hk=>absurd hk lK,fun i j hi=>absurd hi lK⟩
theorem Qs.below(h:Qs w N q g room lost ms)(hb:Be w w'):Qs w' N q g room lost ms:=⟨fun k hk=>(h.DU k hk).below hb,h.apart⟩
theorem Qs.turn(h:Qs w N q g room lost ms)(hk:k<N){uW:Int}(hq:xX w' (q k) g' room uW ms')(ho:Only [q k,g k] w w')(hg:g'=g k\/w.heap.size<=g'):
  Qs w' N q (ru g k g') room (ru lost k uW) (ru ms k ms'):=by
 refine⟨fun j hj=> ?_,fun i j hi hj hne=> ?_⟩
 ·by_cases e:j=k
  ·subst e;rw[ou,ou,ou];exact hq
  rw[oP _ _ e,oP _ _ e,oP _ _ e];obtain⟨a1,a2,a3,a4⟩:=h.apart j k hj hk e;exact(h.DU j hj).only ho (by simp[a1,a2]) (by simp[a3,a4]) (h.DU k hk).no8
 obtain⟨a1,a2,a3,a4⟩:=h.apart i j hi hj hne;have l1:=(h.DU i hi).lt;have l2:=(h.DU i hi).glt;have l3:=(h.DU j hj).lt;have l4:=(h.DU j hj).glt;by_cases ei:i=k
 ·subst ei
  have ej:j≠i:=fun e=>hne e.symm;rw[ou,oP _ _ ej];rcases hg with rfl|hg
  ·exact⟨a1,a2,a3,a4⟩
  exact⟨a1,a2,lK,lK⟩
 by_cases ej:j=k
 ·subst ej
  rw[ou,oP _ _ ei];rcases hg with rfl|hg
  ·exact⟨a1,a2,a3,a4⟩
  exact⟨a1,lK,a3,lK⟩
 rw[oP _ _ ei,oP _ _ ej];exact⟨a1,a2,a3,a4⟩
end
theorem xX.types{room lost:Int}{ms:List (Value×List Int)}(h:xX w q g room lost ms): ∀k∈ [q,g],∀cs t,lQ w k t cs->t=217\/t=140:=by
 obtain⟨a,c,h1,h2,h3⟩:=h.ex;have same: ∀{k:Nat} {t t':TypeId} {cs cs':AV},lQ w k t cs->lQ w k t' cs'->t'=t:=fun{k t t' cs cs'} x y=>by
  unfold lQ at x y;rw[x] at y;injection y with y;injection y with _ y;exact y.symm
 intro k hk cs t hb;simp only[ay,aI,bK] at hk;rcases hk with rfl|rfl
 ·exact .inl (same h1 hb)
 rcases h3 with⟨_,rfl⟩|rfl
 ·exact .inl (same h1 hb)
 obtain⟨cur,_,h4,_⟩:=h2.blk;exact .inr (same h4 hb)
theorem qK{base:Nat}{e t1 t2:TypeId}(h:w.ownsRow base e s v n xs)(ho:Only S w w')(hS: ∀k∈S,∀cs t,lQ w k t cs->t=t1\/t=t2)(h1:e≠t1)(h2:e≠t2):w'.ownsRow base e s v n xs:=by
 refine mK h ho fun k hk hm=> ?_;rcases h.2 with⟨hv,_⟩|⟨k',cp,cur,hv,_,hh,_⟩
 ·rw[hv] at hk;simp[Value.ownBlock] at hk
 rw[hv] at hk;simp only[Value.ownBlock,aD] at hk;subst hk;rcases hS _ hm cur e hh with e1|e1
 ·exact h1 e1
 exact h2 e1
structure Nt(B:Nat)(w:World)(gn n:Nat)(ps:LI)(q g:Nat->Nat)(room:Int)(lost:Nat->Int)(ms:Nat->List (Value×List Int)):Prop where
 ex: ∃(ap:OA) (cp:Nat) (al:OA) (cl:Nat) (ra:Nat->Option Addr) (rc:Nat->Nat),
  lQ w gn 158 #[.slice ap n cp,.slice al n cl]/\w.ownsRow B 3 1 (.slice ap n cp) n (ps.map fun(x:Int)=>Value.int .i64 x)/\
  w.ownsRow B 159 1 (.slice al n cl) n ((List.range n).map fun a=>Value.slice (ra a) n (rc a))/\
  ∀a,a<n->w.ownsRow B 160 1 (.slice (ra a) n (rc a)) n ((List.range n).map fun b=>Value.pointer (some ⟨q (a*n+b),0,none⟩))
 qs:Qs w (n*n) q g room lost ms
section
variable{B:Nat}{w w':World}{gn n:Nat}{ps:LI}{q g:Nat->Nat}{room:Int}{lost:Nat->Int}{ms:Nat->List (Value×List Int)}
theorem Nt.below(h:Nt B w gn n ps q g room lost ms)(hb:Be w w'):Nt B w' gn n ps q g room lost ms:=by
 obtain⟨ap,cp,al,cl,ra,rc,h1,h2,h3,h4⟩:=h.ex;exact⟨⟨ap,cp,al,cl,ra,rc,h1.below hb h1.lt,own_below h2 hb,own_below h3 hb,fun a ha=>own_below (h4 a ha) hb⟩,h.qs.below hb⟩
theorem Nt.turn(h:Nt B w gn n ps q g room lost ms)(hk:k<n*n){uW:Int}(hq:xX w' (q k) g' room uW ms')(ho:Only [q k,g k] w w')(hg:g'=g k\/w.heap.size<=g'):
  Nt B w' gn n ps q (ru g k g') room (ru lost k uW) (ru ms k ms'):=by
 obtain⟨ap,cp,al,cl,ra,rc,h1,h2,h3,h4⟩:=h.ex;have T:=(h.qs.DU k hk).types;refine⟨⟨ap,cp,al,cl,ra,rc,h1.only ho fun hm=> ?_,qK h2 ho T lN lN,qK h3 ho T lN lN,fun a ha=>qK (h4 a ha) ho T lN lN⟩,h.qs.turn hk hq ho hg⟩;rcases T _ hm _ _ h1 with e|e
 ·exact absurd e lN
 exact absurd e lN
end
theorem Wn   {q g:Nat->Nat} {room:Int} {lost:Nat->Int} {ms:Nat->List (Value×List Int)} (x:Int) (w:World) (h:Nt B w gn n ps q g room lost ms) (hn:n<=4096) (j:Int)
  (hj:(∃i:Nat,j=i/\ps[i]?=some x/\ ∀m,m<i->ps[m]?≠some x)\/(j= -1/\ ∀m,m<n->ps[m]?≠some x)):
  Y 147 #[gn,U x] w fun e w'=>e= .returned (U j)/\w=w':=by
 obtain⟨ap,cp,al,cl,ra,rc,h1,h2,h3,h4⟩:=h.ex;have len:ps.length=n:=by have:=h2.1;simpa using this
 have c0:=h1.at_ 0;obtain⟨H2,HJ,LEN⟩:=j3 h2 hj len;clear h h1 h2 h3 h4 hj len;go_enter func147,ntmps147
 go_wp2_with fail
 go_loopw [12] (fun i wr=> ∃k:Nat,k<=n/\i= U k/\wr=w/\ ∀m,m<k->ps[m]?≠some x) (fun i _=>n -(intOf i).toNat)
 case atStart=>exact⟨0,lK,rfl,rfl,fun m hm=>absurd hm lK⟩
 case round=>
  obtain⟨k,hk,rfl,rfl,hno⟩:=hrel;have NO:=jj hno;clear hno;by_cases hlt:k<n
  ·obtain⟨gp,rfl⟩: ∃gp,ap=some ⟨gp,0,none⟩:=by
    rcases H2.2 with⟨hv,h0⟩|⟨g,cp,cur,hv,_⟩
    ·omega
    injection hv with hv;exact⟨g,hv⟩
   have hkl:k<ps.length:=by have:=LEN.out;omega
   obtain⟨y,hy⟩:=ex ps[k];have x0:J wr gp k (U y):=(Row.sG H2).cell (by rw[aS,aj hkl,hy];rfl);have YK:=jj (show ps[k]?=some y by rw[aj hkl,hy]);have i0:(0:Int)<=k:=lK;have i1:(k:Int)<n:=lK;clear hy hkl;by_cases hyx:y=x
   ·have e:j=k:=by
     subst hyx;rcases HJ.out with⟨i,rfl,e1,e2⟩|⟨_,e2⟩
     ·rcases Nat.lt_trichotomy i k with hik|rfl|hik
      ·exact absurd e1 (NO.out i hik)
      ·rfl
      exact absurd YK.out (e2 k hik)
     exact absurd YK.out (e2 k hlt)
    have E:=jj e;have hb:(y==x)=true:=by rw[hyx];exact beq_self_eq_true x
    clear e;subst hyx
    go_wp2_with fail
    go_ret;exact⟨by rw[E.out];rfl,(by first|rfl|trivial)⟩
   have hb:(y==x)=false:=bJ.2 hyx
   go_wp2_with fail
   go_roundw
   case rel=>exact⟨k+1,lK,by go_num,(by first|rfl|trivial),fun m hm=>by
    by_cases e:m=k
    ·subst e;rw[YK.out];exact fun h=>hyx (dh h)
    exact NO.out m lK⟩
   simp[intOf];omega
  have hkn:k=n:=lK;have e:j= -1:=by
   rcases HJ.out with⟨i,_,e1,_⟩|⟨e1,_⟩
   ·have:=(ah.1 e1).1
    have:=LEN.out;exact absurd e1 (NO.out i lK)
   exact e1
  have E:=jj e;have i1: ¬(k:Int)<n:=lK;clear e hkn
  go_wp2_with fail
  go_ret;exact⟨by rw[E.out];rfl,(by first|rfl|trivial)⟩
theorem tu{base:Nat}{e:TypeId}(h:w.ownsRow base e 1 (.slice a n c) n xs)(hk:k<n)(hv:xs[k]?=some v): ∃g,a=some ⟨g,0,none⟩/\J w g k v:=by
 obtain⟨g,rfl⟩: ∃g,a=some ⟨g,0,none⟩:=by
  rcases h.2 with⟨hv,h0⟩|⟨g,cp,cur,hv,_⟩
  ·omega
  injection hv with hv;exact⟨g,hv⟩
 exact⟨g,rfl,(Row.sG h).cell hv⟩
theorem ad2   {q g:Nat->Nat} {room:Int} {lost:Nat->Int} {ms:Nat->List (Value×List Int)} (x y:Int) (w:World) (h:Nt B w gn n ps q g room lost ms) (hn:n<=4096) (a b:Nat) (ha:a<n) (hb:b<n) (hab:a≠b)
  (hx:ps[a]?=some x/\ ∀m,m<a->ps[m]?≠some x) (hy:ps[b]?=some y/\ ∀m,m<b->ps[m]?≠some y) (k:Nat) (hk:a*n+b=k):
  Y 115 #[gn,U x,U y] w fun e w'=>e= .returned (q k)/\w=w':=by
 have H:=jj h;obtain⟨ap,cp,al,cl,ra,rc,h1,h2,h3,h4⟩:=h.ex;have c1:=h1.at_ 1;obtain⟨gl,rfl,r0⟩:=tu h3 ha (v:= .slice (ra a) n (rc a)) (by simp[ha]);obtain⟨gr,hgr,r1⟩:=tu (h4 a ha) hb (v:= .pointer (some ⟨q k,0,none⟩)) (by simp[hb,hk]);rw[hgr] at r0;obtain⟨rca,hrc⟩:=ex (rc a);rw[<-hrc] at r0;obtain⟨qk,hqk⟩:=ex (q k);rw[<-hqk] at r1|-;have HX:=jj hx;have HY:=jj hy;have i0:(0:Int)<=a:=lK;have i1:(a:Int)<n:=lK;have i2:(0:Int)<=b:=lK;have i3:(b:Int)<n:=lK;have i4: ¬(a:Int)=b:=lK;have i5:((a:Int)==b)=false:=bJ.2 i4;have i6: ¬(a:Int)<0:=lK;have i7: ¬(b:Int)<0:=lK;clear h h1 h2 h3 h4 hgr hrc hqk hx hy hk;go_enter func115,ntmps115
 go_wp2_with fail
 refine(Wn x _ H hn a (.inl ⟨a,rfl,HX⟩)).mono ?_;rintro e w' ⟨rfl,rfl⟩
 go_wp2_with fail
 refine(Wn y _ H hn b (.inl ⟨b,rfl,HY⟩)).mono ?_;rintro e w' ⟨rfl,rfl⟩
 go_wp2_with fail
 go_ret;exact⟨by trivial,by trivial⟩
def agl(n:Nat)(ps:LI)(x:Int)(a:Nat):Prop:=a<n/\ps[a]?=some x/\ ∀m,m<a->ps[m]?≠some x
section
variable{B gn n:Nat}{ps:LI}{q g:Nat->Nat}{room:Int}{lost:Nat->Int}{ms:Nat->List (Value×List Int)}
end
section
variable{B gn n:Nat}{ps:LI}{q g:Nat->Nat}{room:Int}{lost:Nat->Int}{ms:Nat->List (Value×List Int)}
end
section
variable{B gn n:Nat}{ps:LI}{q g:Nat->Nat}{room:Int}{lost:Nat->Int}{ms:Nat->List (Value×List Int)}
end
theorem ZN{a b:Nat}(ha:a<n)(hb:b<n):a*n+b<n*n:=by
 have h1:(a+1)*n<=n*n:=dN n ha;have h2:(a+1)*n=a*n+n:=gY a n;omega
section
variable{B gn n:Nat}{ps:LI}{q g:Nat->Nat}{room:Int}{lost:Nat->Int}{ms:Nat->List (Value×List Int)}
end
def Lnk(n:Nat)(ps:LI)(x y:Int)(k:Nat):Prop:= ∃a b,agl n ps x a/\agl n ps y b/\a≠b/\a*n+b=k
theorem Lnk.lt{x y:Int}(h:Lnk n ps x y k):k<n*n:=by
 obtain⟨a,b,ha,hb,_,rfl⟩:=h;exact ZN ha.1 hb.1
def Wh{α:Type}(l:List α)(i:Nat):List α:=l.take i++l.drop (i+1)
section
variable{B gn n:Nat}{ps:LI}{q g:Nat->Nat}{room:Int}{lost:Nat->Int}{ms:Nat->List (Value×List Int)}
theorem VP(x y:Int)(w:World)(h:Nt B w gn n ps q g room lost ms)(hn:n<=4096)(k:Nat)(hl:Lnk n ps x y k):
  Y 115 #[gn,U x,U y] w fun e w'=>e= .returned (q k)/\w=w':=by
 obtain⟨a,b,ha,hb,hab,hk⟩:=hl;exact ad2 x y w h hn a b ha.1 hb.1 hab ha.2 hb.2 k hk
theorem Ye(x y:Int)(z:Int)(w:World)(h:Nt B w gn n ps q g room lost ms)(hn:n<=4096)(k:Nat)(hl:Lnk n ps x y k)(i:Nat)(hi:i<(ms k).length)(hz:z=i):
  Y 85 #[gn,U x,U y,U z] w fun e w'=> ∃g' v,e= .returned (.tuple #[v,true])/\Gn w' w.heap.size v (ms k)[i].2/\Nt B w' gn n ps q (ru g k g') room (ru lost k (lost k)) (ru ms k (Wh (ms k) i))/\Only [q k,g k] w w'/\(g'=g k\/w.heap.size<=g'):=by
 have H:=jj h;have HL:=jj hl;have hkn:=hl.lt;have Q:=jj (h.qs.DU k hkn);have HZ:=jj hz;clear h hl hz;go_enter func85,ntmps85
 go_wp2_with fail
 refine(VP x y _ H hn k HL).mono ?_;rintro e w' ⟨rfl,rfl⟩
 go_wp2_with fail
 refine(aeN (q k) (g k) room (lost k) (ms k) i _ Q hi z HZ).mono ?_;rintro e w2 ⟨g',v,rfl,t2,hq2,ho2,hg2,-⟩;have T2:=jj t2;have N2:=jj (H.turn hkn hq2 ho2 hg2);have O2:=jj ho2;have G2:=jj hg2;clear t2 hq2 ho2 hg2
 go_wp2_with fail
 go_ret2
 exact⟨g',v,by trivial,T2,N2,O2,G2⟩
theorem abn(x y:Int)(v:OA)(m c:Nat)(bs:LI)(w:World)(h:Nt B w gn n ps q g room lost ms)(hn:n<=4096)(hr:1<=room/\room<=256)(k:Nat)(hl:Lnk n ps x y k)(hv:mo w v m 1 (mZ bs))(hm:m<=65536)(hlt:(ms k).length<room):
  Y 83 #[gn,U x,.agg #[U y,.slice v m c]] w fun e w'=> ∃g' z,e= .returned true/\Nt B w' gn n ps q (ru g k g') room (ru lost k (lost k)) (ru ms k (ms k++ [(z,bs)]))/\Only [q k,g k] w w'/\(g'=g k\/w.heap.size<=g'):=by
 obtain⟨w1,hw1⟩:=ex (w.alloc (.cells #[U y,.slice v m c] 179));have b1:=(tQ hw1).out;have hkn:=hl.lt;have H:=jj (h.below b1);have HL:=jj hl;have HV:=jj (hv.below b1);have HR:=jj hr;have Q:=jj ((h.below b1).qs.DU k hkn);have B1:=jj b1;have s1:J w1 w.heap.size 1 (.slice v m c):=by rw[hw1];exact(lQ.new w _ _).cell 1
 have s0:J w1 w.heap.size 0 (U y):=by rw[hw1];exact(lQ.new w _ _).cell 0
 have HW:=jj hw1;clear h hl hv hr hw1 b1;go_enter func83,ntmps83
 go_upto_region 1 with fail
 rw[<-HW.out]
 go_wp2_with fail
 refine(VP x y _ H hn k HL).mono ?_;rintro e w' ⟨rfl,rfl⟩
 go_wp2_with fail
 refine(aeB (q k) (g k) room (lost k) (ms k) v m c bs _ Q HR HV hm hlt).mono ?_;rintro e w2 ⟨g',z,rfl,hq2,ho2,hg2,_⟩;have N2:=jj (H.turn hkn hq2 ho2 hg2);have O2:=jj ((Only.of_below (S:= [q k,g k]) B1).trans ho2);have G2:Hid (g'=g k\/w.heap.size<=g'):=jj (hg2.imp id (aG B1.size));clear hq2 ho2 hg2
 go_wp2_with fail
 go_ret;exact⟨g',z,by trivial,N2,O2,G2⟩
end
def Ab(c:Bool×Int):List Value:= [c.1,U c.2]
theorem uH(c:Bool×Int):(Ab c).length=2:=rfl
def oU(st:List (Bool×Int)):Array Value:=(st.flatMap Ab).toArray
theorem uV(st:List (Bool×Int)):(oU st).size=st.length*2:=by
 unfold oU;rw[gZ,qj Ab 2 uH]
def st0:List (Bool×Int):=List.replicate 64 (false,0)
structure Store(w:World)(gs:Nat)(st:List (Bool×Int)):Prop where
 b:lQ w gs 197 (oU st)
 n:st.length=64
section
variable{w w':World}{gs:Nat}{st:List (Bool×Int)}{S:LN}
theorem Store.lt(h:Store w gs st):gs<w.heap.size:=h.b.lt
theorem Store.only(h:Store w gs st)(ho:Only S w w')(hn:gs∉S):Store w' gs st:=⟨h.b.only ho hn,h.n⟩
theorem Store.below(h:Store w gs st)(hb:Be w w'):Store w' gs st:=⟨h.b.below hb h.b.lt,h.n⟩
theorem Store.drew(h:Store w gs st):Store w.drew gs st:=⟨h.b,h.n⟩
theorem Store.drewN(h:Store w gs st)(n:Nat):Store (w.drewN n) gs st:=⟨h.b,h.n⟩
theorem Store.alloc(h:Store w gs st)(o:Obj):Store (w.alloc o) gs st:=⟨h.b.alloc o,h.n⟩
theorem Store.EC(h:Store w gs st)(k:Nat)(hk:k<st.length):J w gs (k*2) (.bool st[k].1):=
 (h.b.cell (k*2)).trans (by unfold oU;rw[cZ];exact nT Ab 2 uH st k 0 lK hk _ rfl)
theorem Store.ZM(h:Store w gs st)(k:Nat)(hk:k<st.length):J w gs (k*2+1) (.int .i64 st[k].2):=
 (h.b.cell (k*2+1)).trans (by unfold oU;rw[cZ];exact nT Ab 2 uH st k 1 lK hk _ rfl)
theorem Store.set(h:Store w gs st)(hk:k<st.length)(a:Bool)(v:Int):Store ((w.setCell ⟨gs,k*2,none⟩ a).setCell ⟨gs,k*2+1,none⟩ (U v)) gs (st.set k (a,v)):=by
 refine⟨?_,by rw[bG];exact h.n⟩;have e:=(h.b.mg (k*2) a).mg (k*2+1) (U v);unfold oU at e|-;rw[<-LY Ab uH (a,v) a (U v) rfl st k hk];simpa only[jJ] using e
end
theorem XJ:(prog.info? 194).map (fun i=>(i.zero,i.size,i.bytes))=some (some (.agg #[false,U 0]),2,16):=by kernel_rfl
theorem Jg(st:List (Bool×Int))(k:Nat)(hk:k<st.length):(oU st).extract (k*2) (k*2+2)=#[.bool st[k].1,.int .i64 st[k].2]:=by
 apply gP;intro i;rw[Array.getElem?_extract];have h0:=nT Ab 2 uH st k 0 lK hk (.bool st[k].1) rfl;have h1:=nT Ab 2 uH st k 1 lK hk (.int .i64 st[k].2) rfl;have hs:k*2+2<=(oU st).size:=by rw[uV];omega
 have e:min (k*2+2) (oU st).size -k*2=2:=lK;rw[e]
 match i with
 |0=>rw[aV lK];unfold oU;rw[cZ];exact h0
 |1=>rw[aV lK];unfold oU;rw[cZ];exact h1
 |i+2=>rw[aU lK];simp
theorem adR(st:List (Bool×Int))(hn:st.length=64)(k:Nat)(hk:k<st.length)(w:World):
  (Instr.index 195 (.agg (oU st)) (U k)).run prog w= .ok (.agg #[.bool st[k].1,.int .i64 st[k].2]) w:=by
 obtain⟨i0,hi0,_,hz1,_⟩:=bq XJ;have h1:(0:Int)<=(k:Int)/\(k:Int)<(64:Nat):=lK;simp only[Instr.index,jD,asIntOf,lD,gF,fD underlying195,aV h1,sizeOf,typeInfo,part,bI];simp[hi0,hz1,Jg st k hk]
theorem FI:(prog.info? 195).map (·.size)=some 128:=by kernel_rfl
theorem ak0(w:World):Y 112 #[] w fun e w'=> ∃gs,e= .returned (gs:Nat)/\Store w' gs st0/\w.heap.size<=gs/\Be w w':=by
 have hb: ∀w:World,(zeroValue 197).run prog w= .ok (.agg (oU st0)) w:=fun w=>by kernel_rfl
 have hn:st0.length=64:=rfl;obtain⟨Z,hZ⟩:=ex (oU st0);rw[<-hZ] at hb;have HZ:=jj hZ;have HN:=jj hn;clear hZ hn;go_enter func112,ntmps112
 go_wp2
 go_ret;exact⟨w.heap.size,rfl,⟨by rw[<-HZ.out];exact lQ.new _ _ _,HN⟩,aF _,nC⟩
theorem G9(v:Int)(w:World)(b:Bool)(hb:decide (-2147483648<v/\v<2147483648)=b):
  Y 296 #[U v] w fun e w'=>e= .returned b/\w=w':=by
 by_cases h1: -2147483648<v
 ·by_cases h2:v<2147483648
  ·obtain rfl:b=true:=by rw[<-hb];exact aZ ⟨h1,h2⟩
   clear hb;go_enter func296,ntmps296
   go_wp2
   go_ret;exact⟨rfl,rfl⟩
  obtain rfl:b=false:=by rw[<-hb];exact aR fun h=>h2 h.2
  clear hb;go_enter func296,ntmps296
  go_wp2
  go_ret;exact⟨rfl,rfl⟩
 obtain rfl:b=false:=by rw[<-hb];exact aR fun h=>h1 h.1
 clear hb;go_enter func296,ntmps296
 go_wp2
 go_ret;exact⟨rfl,rfl⟩
end Go.Proofs.YtgnhecmnlddjhaaGreat
