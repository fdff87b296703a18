/- TopSplit, part 1 of 12: a proof squeezed by a program. -/
import Derived.WalkKit
import Derived.OpenShut
import Derived.Below
import Derived.Outline
import Derived.Lib.Hide
import Derived.BigQuiet
import Derived.Laws.OwnMore
import Derived.Deep.Draws
import Derived.Laws.Rows
import Derived.OwnWalk
import Derived.Deep.AppendLies
import Derived.OrdersHeld
import Derived.Deep.RegionHeld
import Derived.Deep.RegionHeld3
import Derived.RegionTactic
import Derived.Test.YtgnhecmnlddjhaaGreatChecked
set_option linter.all false
set_option maxRecDepth 100000
set_option maxHeartbeats 6400000
namespace Go.Proofs.YtgnhecmnlddjhaaGreat
open Go.RowKit Go.Proofs.Tryz
variable{B c g j n s:Nat}{K:Act->World->Prop}{P:Program}{a:Act}{b w w' w0:World}{l:List Oper}{o oi:Oper}{p:Addr}{q:Prop}{v:Value}{vs xs:List Value}
structure Later (w0:World) where
 w:World
 b:Below w0.heap.size w0 w
instance aa0(w0:World):Nonempty (Later w0):=⟨⟨w0,Below.refl _ _⟩⟩
theorem Later.cell(x:Later w0)(h:w0.cell? p=some v):x.w.cell? p=some v:=by
 rw[x.b.cell,h];rcases Nat.lt_or_ge p.block w0.heap.size with a|H
 ·exact a
 ·have:w0.heap[p.block]?=none:=Array.getElem?_eq_none H
  simp[World.cell?,this] at h
theorem pU  {id:Nat} {Q:Exit->Act->World->Prop}    (b:P.follows .mixedOrders=true) (H:Region.lexB .any l.toArray=true)
  (h:wpQuiet P l.toArray (fun w'=> ∃x:Later w,w'=x.w) (fun a'=> ∀w',(∃x:Later w,w'=x.w)->Q .normal a' w') l a):(Code.region id l.toArray true).wp P Q a w:=
 wp_region_quiet (C:=fun w'=> ∃x:Later w,w'=x.w) b H ⟨⟨_,(Below.refl _ w).drew⟩,rfl⟩ (by simpa using h)
theorem Later.same  {f:FuncId} {args:Array Value}  {x:Later w0} 
  (h:Calls P f args x.w fun e w'=>e= .returned v/\x.w=w'):Calls P f args x.w fun e w''=>e= .returned v/\ ∃y:Later w0,w''=y.w:=
 h.mono fun _ _ ⟨a,H⟩=>⟨a,x,H.symm⟩
def acA(w:World)(a:Option Addr)(n:Nat)(xs:List Int):Prop:=
 xs.length=n/\(0<n-> ∃b o,a=some ⟨b,o,none⟩/\b<w.heap.size/\ ∀i,i<n->w.cell? ⟨b,o+i,none⟩=some (.int .i64 (xs.getD i 0)))
theorem acA.below{a:Option Addr}{xs:List Int}(h:acA w a n xs)(c:Below w.heap.size w w'):acA w' a n xs:=
 ⟨h.1,fun g=>by obtain⟨b,o,e,H,d⟩:=h.2 g;exact⟨b,o,e,Nat.lt_of_lt_of_le H c.size,fun i f=>(c.cell (p:=⟨b,o+i,none⟩) H).trans (d i f)⟩⟩
def aZ(w:World)(g:Nat)(t:TypeId)(cs:Array Value):Prop:=w.heap[g]?=some (.cells cs t (0,0))
section
variable{w w':World}{g:Nat}{t:TypeId}{cs:Array Value}
theorem aZ.lt(h:aZ w g t cs):g<w.heap.size:=by
 rcases Nat.lt_or_ge g w.heap.size with a|H
 ·exact a
 ·unfold aZ at h;rw[Array.getElem?_eq_none H] at h;cases h
theorem aZ.cell(h:aZ w g t cs)(i:Nat):w.cell? ⟨g,i,none⟩=cs[i]?:=cell_of_row w g i cs t (0,0) h
theorem aZ.frozen(h:aZ w g t cs)(i:Nat):w.frozen? ⟨g,i,none⟩=false:=by unfold aZ at h;simp[World.frozen?,h]
theorem aZ.new(w:World)(t:TypeId)(cs:Array Value):aZ (w.alloc (.cells cs t)) w.heap.size t cs:=heap_alloc_new w _
theorem aZ.drew(h:aZ w g t cs):aZ w.drew g t cs:=h
theorem aZ.drewN(h:aZ w g t cs)(n:Nat):aZ (w.drewN n) g t cs:=h
theorem aZ.alloc(h:aZ w g t cs)(o:Obj):aZ (w.alloc o) g t cs:=(Below.heap_alloc w o g h.lt).trans h
theorem aZ.fU(h:aZ w g t cs)(i:Nat)(u:Value):aZ (w.setCell ⟨g,i,none⟩ u) g t (cs.setIfInBounds i u):=by unfold aZ at h|-;simp[World.setCell,Array.getElem?_modify,h]
theorem aZ.far(h:aZ w g t cs)(H:g≠p.block)(u:Value):aZ (w.setCell p u) g t cs:=(Below.heap_setCell w p u g H).trans h
theorem aZ.below(h:aZ w g t cs)(H:Below B w w')(a:g<B):aZ w' g t cs:=(H.block g a).trans h
theorem aZ.grown{row:Option Nat}(h:aZ w g t cs)(H:w.grownBy w' row)(a:some g≠row):aZ w' g t cs:=(H.block g h.lt a).trans h
theorem aZ.nY{g':Nat}{t':TypeId}{cs':Array Value}(h:aZ w g t cs)(H:aZ w g' t' cs')(a:t≠t'):g≠g':=by rintro rfl;unfold aZ at h H;rw[h] at H;injection H with H;injection H with _ ht;exact a ht
theorem mG{base:Nat}{e:TypeId}{size:Nat}(h:w.ownsRow base e size v n xs)(b:aZ w g t cs)(H:e≠t):v.ownBlock≠some g:=by
 rcases h.2 with⟨rfl,_⟩|⟨G,c,C,rfl,_,d,_⟩
 ·simp[Value.ownBlock]
 ·intro a
  have:G=g:=by simpa[Value.ownBlock] using a
  subst this;exact aZ.nY (t:=e) d b H rfl
end
theorem aZ.new'(w:World)(t:TypeId)(cs:Array Value)(h:w.heap.size=g):aZ (w.alloc (.cells cs t)) g t cs:=by subst h;exact aZ.new w t cs
theorem aZ.later{t:TypeId}{cs:Array Value}(h:aZ w0 g t cs)(x:Later w0):aZ x.w g t cs:=h.below x.b h.lt
theorem aZ.ER{t:TypeId}{cs:Array Value}(h:aZ w0 g t cs){i:Nat}(H:cs[i]?=some v)(x:Later w0):x.w.cell? ⟨g,i,none⟩=some v:=
 ((h.later x).cell i).trans H
def ints(xs:List Int):Array Value:=(xs.map (Value.int .i64)).toArray
theorem Du(xs:List Int)(i:Nat)(h:i<xs.length):(ints xs)[i]?=some (.int .i64 (xs.getD i 0)):=by simp[ints,List.getD,List.getElem?_eq_getElem h]
theorem ints_set(xs:List Int)(i:Nat)(n:Int):(ints xs).setIfInBounds i (.int .i64 n)=ints (xs.set i n):=by simp[ints]
def gD(w:World)(a:Option Addr)(n s:Nat)(vs:List Value):Prop:=
 vs.length=n*s/\(0<n-> ∃b o,a=some ⟨b,o,none⟩/\b<w.heap.size/\ ∀i v,vs[i]?=some v->w.cell? ⟨b,o+i,none⟩=some v)
theorem gD.nil(w:World)(a:Option Addr)(s:Nat):gD w a 0 s []:=⟨by simp,fun h=>absurd h (by omega)⟩
theorem gD.keep{a:Option Addr}(h:gD w a n s vs)(c:w.heap.size<=w'.heap.size)(e: ∀b,a.map (·.block)=some b->b<w.heap.size->w'.heap[b]?=w.heap[b]?):gD w' a n s vs:=
 ⟨h.1,fun f=>by obtain⟨b,o,rfl,H,d⟩:=h.2 f;refine⟨b,o,rfl,Nat.lt_of_lt_of_le H c,fun i v g=> ?_⟩;rw[<-d i v g];exact World.cell?_of_block (w:=w) (e b rfl H)⟩
theorem gD.below{a:Option Addr}(h:gD w a n s vs)(c:Below w.heap.size w w'):gD w' a n s vs:=
 h.keep c.size fun b _ H=>c.block b H
theorem gD.later{a:Option Addr}(h:gD w0 a n s vs)(x:Later w0):gD x.w a n s vs:=h.below x.b
theorem gD.drew{a:Option Addr}(h:gD w a n s vs):gD w.drew a n s vs:=h
theorem gD.nR{t:TypeId}{cs:Array Value}(h:aZ w g t cs)(H:cs.size=n*s):gD w (some ⟨g,0,none⟩) n s cs.toList:=
 ⟨by simpa using H,fun _=>⟨g,0,rfl,h.lt,fun i v a=>by rw[Nat.zero_add,h.cell i,<-a];simp⟩⟩
theorem gD.from_{a:Option Addr}(h:gD w a n s vs){k:Nat}(e:k<n):
  ∃b o,a=some ⟨b,o,none⟩/\gD w (some ⟨b,o+k*s,none⟩) (n -k) s (vs.drop (k*s)):=by obtain⟨b,o,rfl,H,d⟩:=h.2 (by omega);refine⟨b,o,rfl,by rw[List.length_drop,h.1,Nat.sub_mul],fun _=>⟨b,o+k*s,rfl,H,fun i v c=> ?_⟩⟩;rw[List.getElem?_drop] at c;rw[Nat.add_assoc];exact d _ _ c
section
variable{w w':World}{base base':Nat}{e e':TypeId}{s s' n n':Nat}{v v':Value}{xs xs':List Value}
theorem own_below(h:w.ownsRow base e s v n xs)(H:Below w.heap.size w w'):w'.ownsRow base e s v n xs:=
 h.kept (row:=none) ⟨H.os,H.tape,H.output,H.size,fun k a _=>H.block k a⟩ (by cases b:v.ownBlock<;>simp)
theorem fH{a:Option Addr}(h:w.ownsRow base e s (.slice a n c) n xs):gD w a n s xs:=by
 refine⟨h.1,fun o=> ?_⟩;rcases h.2 with⟨_,rfl⟩|⟨g,d,C,l,_,b,m,_,j,k⟩
 ·omega
 ·have f:a=some ⟨g,0,none⟩:=by injection l
  subst f;refine⟨g,0,rfl,(Array.getElem?_eq_some_iff.1 b).1,fun i u H=> ?_⟩;rw[Nat.zero_add,cell_of_row w g i C e (0,0) b];rw[<-k,List.getElem?_take] at H;split at H
  ·simpa using H
  ·cases H
theorem qB{a:Option Addr}(h:w.ownsRow base e s (.slice a n c) n xs):n<=c:=by
 rcases h.2 with⟨H,rfl⟩|⟨g,C,b,H,_,f,d,_⟩
 ·omega
 ·injection H with _ _ hcc
  omega
theorem aev{t:TypeId}{cs:Array Value}(h:w.ownsRow base e s v n xs)(a:aZ w g t cs)(H:e≠t):some g≠v.ownBlock:=by intro b;exact mG h a H b.symm
theorem wV(h:w.cell? p=some v):p.block<w.heap.size:=World.block_lt_of_cell? w _ h
theorem kept(H:Below w.heap.size w w')(p:Addr)(v:Value)(h:w.cell? p=some v):w'.cell? p=some v:=by rw[H.cell (wV h),h]
theorem rE(o:Obj)(h:w.cell? p=some v):(w.alloc o).cell? p=some v:=(World.cell?_alloc_lt w o p (wV h)).trans h
end
structure Only(S:List Nat)(w w':World):Prop where
 os:w'.os=w.os
 tape:w'.tape=w.tape
 output:w'.output=w.output
 size:w.heap.size<=w'.heap.size
 block: ∀k,k<w.heap.size->k∉S->w'.heap[k]?=w.heap[k]?
section
variable{S T:List Nat}{a w w':World}
theorem Only.refl(S:List Nat)(w:World):Only S w w:=⟨rfl,rfl,rfl,Nat.le_refl _,fun _ _ _=>rfl⟩
theorem Only.trans(h:Only S a w)(k:Only S w w'):Only S a w':=
 ⟨k.os.trans h.os,k.tape.trans h.tape,k.output.trans h.output,Nat.le_trans h.size k.size,fun i H b=>(k.block i (Nat.lt_of_lt_of_le H h.size) b).trans (h.block i H b)⟩
theorem Only.mono(h:Only S w w')(d: ∀k∈S,k∈T\/w.heap.size<=k):Only T w w':=
 ⟨h.os,h.tape,h.output,h.size,fun i a c=>h.block i a fun b=>by
  rcases d i b with H|H
  ·exact c H
  ·omega⟩
theorem Only.then(h:Only S a w)(k:Only T w w')(e: ∀k∈T,k∈S\/a.heap.size<=k):Only S a w':=
 ⟨k.os.trans h.os,k.tape.trans h.tape,k.output.trans h.output,Nat.le_trans h.size k.size,fun i b c=>(k.block i (Nat.lt_of_lt_of_le b h.size) (fun d=>by
  rcases e i d with H|H
  ·exact c H
  ·omega)).trans (h.block i b c)⟩
theorem Only.drew(h:Only S a w):Only S a w.drew:=⟨h.os,h.tape,h.output,h.size,h.block⟩
theorem Only.drewN(h:Only S a w)(n:Nat):Only S a (w.drewN n):=⟨h.os,h.tape,h.output,h.size,h.block⟩
theorem Only.alloc(h:Only S a w)(o:Obj):Only S a (w.alloc o):=
 h.trans ⟨rfl,rfl,rfl,by simp,fun k H _=>Below.heap_alloc _ _ _ H⟩
theorem Only.setCell(h:Only S a w)(b:p.block∈S\/a.heap.size<=p.block)(u:Value):Only S a (w.setCell p u):=
 h.then (T:= [p.block]) ⟨rfl,rfl,rfl,by simp[World.setCell],fun k c H=>Below.heap_setCell _ _ _ _ (fun e=>H (by simp[e]))⟩ (by simpa using b)
theorem below_drewN(h:Below B a w)(n:Nat):Below B a (w.drewN n):=⟨h.os,h.tape,h.output,h.size,h.block⟩
theorem Only.grown(h:Only S a w){row:Option Nat}(H:w.grownBy w' row)(f: ∀k,row=some k->k∈S\/a.heap.size<=k):Only S a w':=
 ⟨H.os.trans h.os,H.tape.trans h.tape,H.output.trans h.output,Nat.le_trans h.size H.size,fun i c d=>(H.block i (Nat.lt_of_lt_of_le c h.size) (fun e=>by
  rcases f i e.symm with b|b
  ·exact d b
  ·omega)).trans (h.block i c d)⟩
theorem Only.of_below(h:Below w.heap.size w w'):Only S w w':=⟨h.os,h.tape,h.output,h.size,fun i H _=>h.block i H⟩
theorem Only.belows(h:Only S a w)(k:Below w.heap.size w w'):Only S a w':=h.trans (Only.of_below k)
theorem Only.below(h:Only S w w')(H:Below B w0 w)(c:B<=w.heap.size)(b: ∀k∈S,B<=k):Below B w0 w':=
 H.trans ⟨h.os,h.tape,h.output,h.size,fun i d=>h.block i (by omega) fun a=>by have:=b i a;omega⟩
theorem Only.mY(h:Only [] w w'):Below w.heap.size w w':=⟨h.os,h.tape,h.output,h.size,fun i H=>h.block i H (by simp)⟩
theorem Only.cell(h:Only S w w')(a:p.block<w.heap.size)(H:p.block∉S):w'.cell? p=w.cell? p:=World.cell?_of_block (w:=w) (h.block p.block a H)
theorem Only.cell_(h:Only S w w')(H:w.cell? p=some v)(a:p.block∉S):w'.cell? p=some v:=(h.cell (wV H) a).trans H
theorem nL{q:Addr}{u:Value}(h:w.cell? q=some v)(H:q.block≠p.block):(w.setCell p u).cell? q=some v:=
 (World.cell?_setCell_other w p q u (fun e=>H (by rw[e]))).trans h
theorem aZ.only{t:TypeId}{cs:Array Value}(H:aZ w g t cs)(h:Only S w w')(a:g∉S):aZ w' g t cs:=(h.block g H.lt a).trans H
theorem gD.only{A:Option Addr}(h:gD w A n s vs)(a:Only S w w')(d: ∀b,A.map (·.block)=some b->b∉S):gD w' A n s vs:=
 h.keep a.size fun b c H=>a.block b H (d b c)
theorem mK{base:Nat}{e:TypeId}(h:w.ownsRow base e s v n xs)(d:Only S w w')(b: ∀g,v.ownBlock=some g->g∉S):w'.ownsRow base e s v n xs:=by
 refine⟨h.1,?_⟩;rcases h.2 with f|⟨g,c,C,rfl,a,H,rest⟩
 ·exact .inl f
 ·refine .inr ⟨g,c,C,rfl,a,?_,rest⟩
  rw[d.block g (Array.getElem?_eq_some_iff.1 H).1 (b g rfl)];exact H
end
inductive Plan where
 |done
 |take (i:Nat) (p:Plan)
 |one (i:Nat) (p:Plan)
 |two (i:Nat) (p:Plan) (j:Nat) (q:Plan)
def Plan.len:Plan->Nat
 | .done=>0
 | .take _ p=>p.len+1
 | .one _ p=>p.len+1
 | .two _ p _ _=>p.len+1
section
variable{P:Program}{ops:Array Oper}{Q:Exit->Act->World->Prop}{md:Region.Mode}{S:World->Prop}{n:Nat}
def JL(md:Region.Mode)(ops:Array Oper)(n i:Nat):Bool:=match ops[n]? with
 |some on=>on.after.any (fun e=>Region.binds md e&&e.on==i)
 |none=>true
def uE(md:Region.Mode)(ops:Array Oper)(n:Nat):Plan->Array Bool->Bool
 | .done,l=>(Region.ready md ops l).isEmpty
 | .take i p,l=>decide (i≠n)&&(Region.ready md ops l).contains i&&Region.free md ops l i&&JL md ops n i&&uE md ops n p (l.setIfInBounds i true)
 | .one i p,l=>decide (Region.ready md ops l= [i])&&uE md ops n p (l.setIfInBounds i true)
 | .two i p j q,l=>decide (Region.ready md ops l= [i,j])&&decide (p.len=q.len)&&uE md ops n p (l.setIfInBounds i true)&&uE md ops n q (l.setIfInBounds j true)
def JZ(P:Program)(md:Region.Mode)(ops:Array Oper)(Q:Exit->Act->World->Prop)(S:World->Prop)(n:Nat):Nat->Array Bool->Act->World->Prop
 |0,listed,a,w=>Region.ready md ops listed= []/\Q .normal a w
 |fuel+1,listed,a,w=>
  (Region.ready md ops listed= []->Q .normal a w)/\
  ∀i∈Region.ready md ops listed,wpOp P ops Q i (fun a' w'=>(i=n\/S w')/\JZ P md ops Q S n fuel (listed.setIfInBounds i true) a' w') a w
theorem J6: ∀(fuel:Nat) (listed:Array Bool) (a:Act) (w:World),JZ P md ops Q S n fuel listed a w->wpAny P md ops Q fuel listed a w
 |0,_,_,_,h=>h
 |fuel+1,_,_,_,h=>⟨h.1,fun i hi=>wpOp_mono (fun a' w' h'=>J6 fuel _ a' w' h'.2) (h.2 i hi)⟩
theorem Pj {i:Nat}   (X:i≠n) (f:JL md ops n i=true) (L:ops[i]?=some oi) (t: ∀(j:Nat) (o:Oper) cs b,ops[j]?=some o->o.op≠ .select cs b)
  (W: ∀c a w,Q (.panic c) (a.put oi.dst v) w->Q (.panic c) a w):
  ∀(fuel:Nat) (l:Array Bool) (a:Act) (w:World),
   (∀j O,ops[j]?=some O->j≠i->l.getD j true=false->(∀e∈O.after,Region.binds md e=true->e.on≠i)->oi.apart ops O=true)->
   i∈Region.ready md ops l->YieldsIf P ops S oi v a->S w->
   JZ P md ops Q S n fuel (l.setIfInBounds i true) (a.put oi.dst v) w->JZ P md ops Q S n (fuel+1) l a w:=by
 intro fuel
 induction fuel with
 |zero=>
  intro l a w _ u G x H;refine⟨fun h=>(by rw[h] at u;cases u),fun j F=> ?_⟩;by_cases d:j=i
  ·subst d;exact G.wpOp L x ⟨.inr x,H⟩
  ·have:=ready_mono F d
   rw[H.1] at this;cases this
 |succ fuel ih=>
  intro l a w g u G x H;refine⟨fun h=>(by rw[h] at u;cases u),fun j F=> ?_⟩;by_cases d:j=i
  ·subst d;exact G.wpOp L x ⟨.inr x,H⟩
  ·have D:=H.2 j (ready_mono F d)
   obtain⟨s,O,p,q⟩:=mem_ready.1 F;have r:l.getD i false=false:=by
    have T:=(mem_ready.1 u).1;rcases Nat.lt_or_ge i l.size with I|I
    ·simp[I] at T|-;exact T
    ·simp[Array.getElem?_eq_none I]
   have M:j≠n:=by rintro rfl;unfold JL at f;rw[p] at f;obtain⟨e,J,y⟩:=Array.any_eq_true'.1 f;simp only[Bool.and_eq_true,beq_iff_eq] at y;have:=q e J y.1;rw[y.2,r] at this;cases this
   have A: ∀e∈O.after,Region.binds md e=true->e.on≠i:=fun e J y K=>by have D:=q e J y;rw[K,r] at D;cases D
   have V:=wpOp_putIf p (g j O p d s A) (fun cs b=>t i oi cs b L) (fun cs b=>t j O cs b p) W G D;have m: ∀k C,ops[k]?=some C->k≠i->(l.setIfInBounds j true).getD k true=false->
     (∀e∈C.after,Region.binds md e=true->e.on≠i)->oi.apart ops C=true:=fun k C Y N B R=>by
    refine g k C Y N ?_ R;by_cases z:j=k
    ·subst z;exact s
    ·rw[getD_set_ne true z] at B;exact B
   refine wpOp_mono (fun U Z E=>⟨E.2.1,ih (l.setIfInBounds j true) U Z m (ready_mono u (Ne.symm d)) E.1 (E.2.1.resolve_left M) ?_⟩) V;rw[Array.setIfInBounds_comm _ _ d];exact E.2.2
def oz(P:Program)(ops:Array Oper)(Q:Exit->Act->World->Prop)(S:World->Prop)(n:Nat):Plan->Act->World->Prop
 | .done,a,w=>Q .normal a w
 | .take i p,a,w=> ∃o v,ops[i]?=some o/\YieldsIf P ops S o v a/\S w/\oz P ops Q S n p (a.put o.dst v) w
 | .one i p,a,w=>wpOp P ops Q i (fun a' w'=>(i=n\/S w')/\oz P ops Q S n p a' w') a w
 | .two i p j q,a,w=>wpOp P ops Q i (fun a' w'=>(i=n\/S w')/\oz P ops Q S n p a' w') a w/\wpOp P ops Q j (fun a' w'=>(j=n\/S w')/\oz P ops Q S n q a' w') a w
theorem rJ(hs:Region.noSelect ops=true)(hQ: ∀c a d v w,Q (.panic c) (a.put d v) w->Q (.panic c) a w): ∀(p:Plan) (listed:Array Bool) (a:Act) (w:World),uE md ops n p listed=true->oz P ops Q S n p a w->JZ P md ops Q S n p.len listed a w
 | .done,listed,a,w,hB,h=>⟨by simpa[uE] using hB,h⟩
 | .take i p,listed,a,w,hB,h=>by simp only[uE,Bool.and_eq_true,decide_eq_true_eq] at hB;obtain⟨⟨⟨⟨h1,h2⟩,h3⟩,h4⟩,h5⟩:=hB;obtain⟨o,v,ho,hy,hS,h⟩:=h;exact Pj h1 h4 ho (Region.noSelect_spec hs) (fun c a w=>hQ c a _ _ w) p.len listed a w (Region.free_spec ho h3) (by simpa using h2) hy hS (rJ hs hQ p _ _ _ h5 h)
 | .one i p,listed,a,w,hB,h=>by
  simp only[uE,Bool.and_eq_true,decide_eq_true_eq] at hB;refine⟨fun h0=>(by rw[hB.1] at h0;cases h0),fun j hj=> ?_⟩;rw[hB.1] at hj;obtain rfl:j=i:=by simpa using hj
  exact wpOp_mono (fun a' w' h'=>⟨h'.1,rJ hs hQ p _ _ _ hB.2 h'.2⟩) h
 | .two i p j q,listed,a,w,hB,h=>by
  simp only[uE,Bool.and_eq_true,decide_eq_true_eq] at hB;obtain⟨⟨⟨h1,h2⟩,h3⟩,h4⟩:=hB;refine⟨fun h0=>(by rw[h1] at h0;cases h0),fun k hk=> ?_⟩;rw[h1] at hk;simp only[List.mem_cons,List.not_mem_nil,or_false] at hk;rcases hk with rfl|rfl
  ·exact wpOp_mono (fun a' w' h'=>⟨h'.1,rJ hs hQ p _ _ _ h3 h'.2⟩) h.1
  ·refine wpOp_mono (fun a' w' h'=>⟨h'.1,?_⟩) h.2
   have:=rJ hs hQ q _ _ _ h4 h'.2
   rwa [<-h2] at this
theorem um {id:Nat}    (S:World->Prop) (n:Nat) (p:Plan) (c:P.follows .mixedOrders=true) (d:Region.noSelect l.toArray=true)
  (H:(decide (p.len=l.toArray.size)&&uE .any l.toArray n p (Array.replicate l.toArray.size false))=true)
  (b:S w.drew) (h:S w.drew->oz P l.toArray (NoPanic Q) S n p a w.drew):(Code.region id l.toArray true).wp P Q a w:=by simp only[Bool.and_eq_true,decide_eq_true_eq] at H;refine wp_region_noPanic (wp_region_any c ?_);have e:=rJ d (fun _ _ _ _ _ h=>h) p _ _ _ H.2 (h b);rw[H.1] at e;exact J6 _ _ _ _ e
def nth{α:Type}:List α->Nat->Option α
 | [],_=>none
 |x::_,0=>some x
 |_::l,i+1=>nth l i
theorem Ut{α:Type}: ∀(l:List α) (i:Nat),nth l i=l[i]?
 | [],i=>by simp[nth]
 |x::l,0=>by simp[nth]
 |x::l,i+1=>by simp[nth,Ut l i]
theorem wW{i:Nat}(h:nth l i=some o):l.toArray[i]?=some o:=by rw[Ut] at h;simpa using h
theorem Gj  {i:Nat} {p:Plan}     (b:nth l i=some o) (c:Region.wanted o (yielded l.toArray a.tmps)=true) (H:S w) (d: ∀w,S w->(execOp a.eval o).run P w= .ok (.value v) w)
  (h:oz P l.toArray Q S n p (a.put o.dst v) w):oz P l.toArray Q S n (.take i p) a w:=
 ⟨o,v,wW b,.inl ⟨c,d⟩,H,h⟩
theorem UU  {i:Nat} {p:Plan}    (d:nth l i=some o)
  (h: ∀K:Act->World->Prop,Shut (∀a w,S w->(S w->oz P l.toArray Q S n p a w)->K a w)->if Region.wanted o (yielded l.toArray a.tmps)=true then Oper.wp P o a w K Q else K (a.put o.dst undef) w):oz P l.toArray Q S n (.one i p) a w:=
 wpOp_step (wW d) fun K b=>h K fun a w H c=>b a w ⟨.inr H,c H⟩
theorem qN{i:Nat}{p q:Plan}(h:oz P l.toArray Q S n (.one i p) a w)(H:oz P l.toArray Q S n (.one j q) a w):oz P l.toArray Q S n (.two i p j q) a w:=⟨h,H⟩
theorem Si  {p:Plan}    (c:nth l n=some o)
  (h: ∀K:Act->World->Prop,Shut (∀a w,oz P l.toArray Q S n p a w->K a w)->if Region.wanted o (yielded l.toArray a.tmps)=true then Oper.wp P o a w K Q else K (a.put o.dst undef) w):oz P l.toArray Q S n (.one n p) a w:=
 wpOp_step (wW c) fun K H=>h K fun a w b=>H a w ⟨.inl rfl,b⟩
theorem aU(h:Q .normal a w):oz P ops (NoPanic Q) S n .done a w:=h
end
section
variable{P:Program}{Q:Exit->Act->World->Prop}{S:World->Prop}{n:Nat}
theorem Gi  {i:Nat} {p:Plan}    (b:nth l i=some o) (c:Region.wanted o (yielded l.toArray a.tmps)=false) (H:S w)
  (h:oz P l.toArray Q S n p (a.put o.dst undef) w):oz P l.toArray Q S n (.take i p) a w:=
 ⟨o,undef,wW b,.inr ⟨c,rfl⟩,H,h⟩
end
section
variable{P:Program}{ops:Array Oper}{Q:Exit->Act->World->Prop}{md:Region.Mode}{S:World->Prop}{n:Nat}
def Ep(P:Program)(md:Region.Mode)(ops:Array Oper)(Q:Exit->Act->World->Prop)(S:World->Prop)(n:Nat):Nat->Array Bool->Act->World->Prop
 |0,listed,a,w=>Region.ready md ops listed= []/\Q .normal a w
 |fuel+1,listed,a,w=>
  (Region.ready md ops listed= []->Q .normal a w)/\
  ∀i∈Region.ready md ops listed,wpOp P ops Q i (fun a' w'=>(i=n\/S w')/\Ep P md ops Q S n fuel (listed.setIfInBounds i true) a' w') a w
def rQ(P:Program)(ops:Array Oper)(S:World->Prop)(o:Oper)(v:Value)(a:Act):Prop:=
 (Region.wanted o (yielded ops a.tmps)=true/\ ∀w,S w->(execOp a.eval o).run P w= .ok (.value v) w\/ ∃f args,(execOp a.eval o).run P w= .ok (.enter f args) w/\Calls P f args w fun e W=>e= .returned v/\w=W)\/
 (Region.wanted o (yielded ops a.tmps)=false/\v=undef)
theorem rQ.of_same{a':Act}(b:rQ P ops S o v a)(h:execOp a'.eval o=execOp a.eval o)(H:Region.wanted o (yielded ops a'.tmps)=Region.wanted o (yielded ops a.tmps)):rQ P ops S o v a':=by unfold rQ;rw[h,H];exact b
theorem rQ.wpOp{i:Nat}(b:ops[i]?=some o)(j:rQ P ops S o v a)(d:S w)(h:K (a.put o.dst v) w):wpOp P ops Q i K a w:=by
 rcases j with⟨H,g⟩|⟨H,rfl⟩
 ·unfold Go.wpOp
  simp only[b,H,if_true,Oper.wp];refine .inl ?_;rcases g w d with e|⟨f,args,e,c⟩
  ·rw[e];exact h
  ·rw[e]
   refine c.mono ?_;rintro e W ⟨rfl,rfl⟩;exact h
 ·unfold Go.wpOp
  simp only[b,H];exact h
theorem YM  {oj:Oper}  (t:ops[j]?=some oj) (l:oi.apart ops oj=true) (m: ∀cs b,oi.op≠ .select cs b) (i: ∀cs b,oj.op≠ .select cs b)
  (o: ∀c a w,Q (.panic c) (a.put oi.dst v) w->Q (.panic c) a w)    (g:rQ P ops S oi v a) (h:Go.wpOp P ops Q j K (a.put oi.dst v) w):
  Go.wpOp P ops Q j (fun A w'=>rQ P ops S oi v A/\K (A.put oi.dst v) w') a w:=by
 obtain⟨p1,p2,p3⟩:=Oper.apart_spec l;have k: ∀(a:Act),rQ P ops S oi v a-> ∀u,rQ P ops S oi v (a.put oj.dst u):=fun a g u=>g.of_same (execOp_put oi m a oj.dst u p3) (wanted_put oi a oj.dst u p3);have q: ∀d,rQ P ops S oi v {a with defers:=d::a.defers}:=fun d=>g.of_same rfl rfl;unfold Go.wpOp at*;simp only[t] at*;rw[wanted_put oj a oi.dst v p1] at h;by_cases p:Region.wanted oj (yielded ops a.tmps)=true
 ·rw[if_pos p] at h|-
  rcases h with h|⟨n,s⟩
  ·left
   unfold Oper.wp at*;rw[execOp_put oj i a oi.dst v p1] at h;generalize (execOp a.eval oj).run P w=r at*
   match r,h with
   | .ok (.value u) w',h=>exact⟨k a g u,by rw[<-Act.put_comm a v u p2];exact h⟩
   | .ok .skip w',h=>exact⟨k a g _,by rw[<-Act.put_comm a v undef p2];exact h⟩
   | .ok (.defer d) w',h=>exact⟨k _ (q d) _,by rw[<-Act.put_comm _ v undef p2,<-Act.put_defers];exact h⟩
   | .ok (.enter f args) w',h=>
    refine Calls.mono h fun e W H=> ?_
    match e,H with
    | .returned u,H=>exact⟨k a g u,by rw[<-Act.put_comm a v u p2];exact H⟩
    | .panicked c,H=>exact o _ _ _ H
    | .outgrown,H=>exact H
   | .ok (.row row args) w',h=>exact Rows.mono h fun u W H=>⟨k a g u,by rw[<-Act.put_comm a v u p2];exact H⟩
   | .halt (.panic u) w',h=>exact o _ _ _ h
  ·right
   refine⟨?_,s⟩;unfold Oper.asks at*;rw[execOp_put oj i a oi.dst v p1] at n;exact n
 ·rw[if_neg p] at h|-
  exact⟨k a g _,by rw[<-Act.put_comm a v undef p2];exact h⟩
theorem Gh: ∀(fuel:Nat) (listed:Array Bool) (a:Act) (w:World),Ep P md ops Q S n fuel listed a w->wpAny P md ops Q fuel listed a w
 |0,_,_,_,h=>h
 |fuel+1,_,_,_,h=>⟨h.1,fun i hi=>wpOp_mono (fun a' w' h'=>Gh fuel _ a' w' h'.2) (h.2 i hi)⟩
theorem Lc {i:Nat}   (X:i≠n) (f:JL md ops n i=true) (L:ops[i]?=some oi) (t: ∀(j:Nat) (o:Oper) cs b,ops[j]?=some o->o.op≠ .select cs b)
  (W: ∀c a w,Q (.panic c) (a.put oi.dst v) w->Q (.panic c) a w):
  ∀(fuel:Nat) (l:Array Bool) (a:Act) (w:World),
   (∀j O,ops[j]?=some O->j≠i->l.getD j true=false->(∀e∈O.after,Region.binds md e=true->e.on≠i)->oi.apart ops O=true)->
   i∈Region.ready md ops l->rQ P ops S oi v a->S w->
   Ep P md ops Q S n fuel (l.setIfInBounds i true) (a.put oi.dst v) w->Ep P md ops Q S n (fuel+1) l a w:=by
 intro fuel
 induction fuel with
 |zero=>
  intro l a w _ u G x H;refine⟨fun h=>(by rw[h] at u;cases u),fun j F=> ?_⟩;by_cases d:j=i
  ·subst d;exact G.wpOp L x ⟨.inr x,H⟩
  ·have:=ready_mono F d
   rw[H.1] at this;cases this
 |succ fuel ih=>
  intro l a w g u G x H;refine⟨fun h=>(by rw[h] at u;cases u),fun j F=> ?_⟩;by_cases d:j=i
  ·subst d;exact G.wpOp L x ⟨.inr x,H⟩
  ·have D:=H.2 j (ready_mono F d)
   obtain⟨s,O,p,q⟩:=mem_ready.1 F;have r:l.getD i false=false:=by
    have T:=(mem_ready.1 u).1;rcases Nat.lt_or_ge i l.size with I|I
    ·simp[I] at T|-;exact T
    ·simp[Array.getElem?_eq_none I]
   have M:j≠n:=by rintro rfl;unfold JL at f;rw[p] at f;obtain⟨e,J,y⟩:=Array.any_eq_true'.1 f;simp only[Bool.and_eq_true,beq_iff_eq] at y;have:=q e J y.1;rw[y.2,r] at this;cases this
   have A: ∀e∈O.after,Region.binds md e=true->e.on≠i:=fun e J y K=>by have D:=q e J y;rw[K,r] at D;cases D
   have V:=YM p (g j O p d s A) (fun cs b=>t i oi cs b L) (fun cs b=>t j O cs b p) W G D;have m: ∀k C,ops[k]?=some C->k≠i->(l.setIfInBounds j true).getD k true=false->
     (∀e∈C.after,Region.binds md e=true->e.on≠i)->oi.apart ops C=true:=fun k C Y N B R=>by
    refine g k C Y N ?_ R;by_cases z:j=k
    ·subst z;exact s
    ·rw[getD_set_ne true z] at B;exact B
   refine wpOp_mono (fun U Z E=>⟨E.2.1,ih (l.setIfInBounds j true) U Z m (ready_mono u (Ne.symm d)) E.1 (E.2.1.resolve_left M) ?_⟩) V;rw[Array.setIfInBounds_comm _ _ d];exact E.2.2
def rM(P:Program)(ops:Array Oper)(Q:Exit->Act->World->Prop)(S:World->Prop)(n:Nat):Plan->Act->World->Prop
 | .done,a,w=>Q .normal a w
 | .take i p,a,w=> ∃o v,ops[i]?=some o/\rQ P ops S o v a/\S w/\rM P ops Q S n p (a.put o.dst v) w
 | .one i p,a,w=>wpOp P ops Q i (fun a' w'=>(i=n\/S w')/\rM P ops Q S n p a' w') a w
 | .two i p j q,a,w=>wpOp P ops Q i (fun a' w'=>(i=n\/S w')/\rM P ops Q S n p a' w') a w/\wpOp P ops Q j (fun a' w'=>(j=n\/S w')/\rM P ops Q S n q a' w') a w
theorem qW(hs:Region.noSelect ops=true)(hQ: ∀c a d v w,Q (.panic c) (a.put d v) w->Q (.panic c) a w): ∀(p:Plan) (listed:Array Bool) (a:Act) (w:World),uE md ops n p listed=true->rM P ops Q S n p a w->Ep P md ops Q S n p.len listed a w
 | .done,listed,a,w,hB,h=>⟨by simpa[uE] using hB,h⟩
 | .take i p,listed,a,w,hB,h=>by simp only[uE,Bool.and_eq_true,decide_eq_true_eq] at hB;obtain⟨⟨⟨⟨h1,h2⟩,h3⟩,h4⟩,h5⟩:=hB;obtain⟨o,v,ho,hy,hS,h⟩:=h;exact Lc h1 h4 ho (Region.noSelect_spec hs) (fun c a w=>hQ c a _ _ w) p.len listed a w (Region.free_spec ho h3) (by simpa using h2) hy hS (qW hs hQ p _ _ _ h5 h)
 | .one i p,listed,a,w,hB,h=>by
  simp only[uE,Bool.and_eq_true,decide_eq_true_eq] at hB;refine⟨fun h0=>(by rw[hB.1] at h0;cases h0),fun j hj=> ?_⟩;rw[hB.1] at hj;obtain rfl:j=i:=by simpa using hj
  exact wpOp_mono (fun a' w' h'=>⟨h'.1,qW hs hQ p _ _ _ hB.2 h'.2⟩) h
 | .two i p j q,listed,a,w,hB,h=>by
  simp only[uE,Bool.and_eq_true,decide_eq_true_eq] at hB;obtain⟨⟨⟨h1,h2⟩,h3⟩,h4⟩:=hB;refine⟨fun h0=>(by rw[h1] at h0;cases h0),fun k hk=> ?_⟩;rw[h1] at hk;simp only[List.mem_cons,List.not_mem_nil,or_false] at hk;rcases hk with rfl|rfl
  ·exact wpOp_mono (fun a' w' h'=>⟨h'.1,qW hs hQ p _ _ _ h3 h'.2⟩) h.1
  ·refine wpOp_mono (fun a' w' h'=>⟨h'.1,?_⟩) h.2
   have:=qW hs hQ q _ _ _ h4 h'.2
   rwa [<-h2] at this
theorem qI {id:Nat}    (S:World->Prop) (n:Nat) (p:Plan) (c:P.follows .mixedOrders=true) (d:Region.noSelect l.toArray=true)
  (H:(decide (p.len=l.toArray.size)&&uE .any l.toArray n p (Array.replicate l.toArray.size false))=true)
  (b:S w.drew) (h:S w.drew->rM P l.toArray (NoPanic Q) S n p a w.drew):(Code.region id l.toArray true).wp P Q a w:=by simp only[Bool.and_eq_true,decide_eq_true_eq] at H;refine wp_region_noPanic (wp_region_any c ?_);have e:=qW d (fun _ _ _ _ _ h=>h) p _ _ _ H.2 (h b);rw[H.1] at e;exact Gh _ _ _ _ e
theorem J8  {i:Nat} {p:Plan}     (b:nth l i=some o) (c:Region.wanted o (yielded l.toArray a.tmps)=true) (H:S w) (d: ∀w,S w->(execOp a.eval o).run P w= .ok (.value v) w)
  (h:rM P l.toArray Q S n p (a.put o.dst v) w):rM P l.toArray Q S n (.take i p) a w:=
 ⟨o,v,wW b,.inl ⟨c,fun w H=> .inl (d w H)⟩,H,h⟩
theorem pR  {i:Nat} {p:Plan}     (f:FuncId) (args:Array Value) (c:nth l i=some o) (d:Region.wanted o (yielded l.toArray a.tmps)=true) (H:S w)
  (b: ∀w,(execOp a.eval o).run P w= .ok (.enter f args) w) (g: ∀w,S w->Calls P f args w fun e w'=>e= .returned v/\w=w')
  (h:rM P l.toArray Q S n p (a.put o.dst v) w):rM P l.toArray Q S n (.take i p) a w:=
 ⟨o,v,wW c,.inl ⟨d,fun w H=> .inr ⟨f,args,b w,g w H⟩⟩,H,h⟩
theorem yJ  {i:Nat} {p:Plan}    (d:nth l i=some o)
  (h: ∀K:Act->World->Prop,Shut (∀a w,S w->(S w->rM P l.toArray Q S n p a w)->K a w)->if Region.wanted o (yielded l.toArray a.tmps)=true then Oper.wp P o a w K Q else K (a.put o.dst undef) w):rM P l.toArray Q S n (.one i p) a w:=
 wpOp_step (wW d) fun K b=>h K fun a w H c=>b a w ⟨.inr H,c H⟩
theorem J7  {i:Nat} {p:Plan}    (b:nth l i=some o) (c:Region.wanted o (yielded l.toArray a.tmps)=false) (H:S w)
  (h:rM P l.toArray Q S n p (a.put o.dst undef) w):rM P l.toArray Q S n (.take i p) a w:=
 ⟨o,undef,wW b,.inr ⟨c,rfl⟩,H,h⟩
theorem qO(h:Q .normal a w):rM P ops (NoPanic Q) S n .done a w:=h
end
theorem jj{p:Prop}(h:p):Hid p:=h
abbrev Be(w w':World):Prop:=Below w.heap.size w w'
theorem ex{α:Sort _}(a:α): ∃x,x=a:=⟨_,rfl⟩
theorem tQ{v:World}{o:Obj}(h:v=w.alloc o):Hid (Below w.heap.size w v):=by subst h;exact(Below.refl _ _).alloc (Nat.le_refl _) _
theorem bDr{v:World}(h:v=w.drew):Hid (Below w.heap.size w v):=by subst h;exact(Below.refl _ _).drew
theorem nO{a c:World}(h:Hid (Below a.heap.size a b))(k:Below b.heap.size b c):Hid (Below a.heap.size a c):=h.out.trans (k.mono h.out.size)
theorem GN{a v:World}{o:Obj}(h:Hid (Below a.heap.size a b))(k:v=b.alloc o):Hid (Below a.heap.size a v):=by subst k;exact h.out.alloc h.out.size _
theorem xNew{v:World}{cs:Array Value}{t:TypeId}(h:v=w.alloc (.cells cs t))(k:g=w.heap.size):Hid (aZ v g t cs):=by subst h k;exact aZ.new _ _ _
theorem aZ.at_{t:TypeId}{cs:Array Value}(h:aZ w g t cs)(i:Nat)(e:nth cs.toList i=some v:=by rfl):w.cell? ⟨g,i,none⟩=some v:=by rw[h.cell i,←Array.getElem?_toList,←Ut];exact e
def setW(w:World)(g:Nat):Nat→List Value→World
 |_,[]=>w
 |i,v::l=>setW (w.setCell ⟨g,i,none⟩ v) g (i+1) l
theorem ac7(g:Nat): ∀(l:List Value) (i:Nat) (w w0:World),Only [g] w0 w→Only [g] w0 (setW w g i l)
 | [],_,_,_,h=>h
 |v::l,i,w,w0,h=>ac7 g l (i+1) _ w0 (h.setCell (.inl (List.mem_singleton.2 rfl)) v)
theorem Rp(g:Nat)(t:TypeId): ∀(l:List Value) (a b:List Value) (w:World),b.length=l.length→aZ w g t (a++b).toArray→aZ (setW w g a.length l) g t (a++l).toArray
 | [],a,b,w,hl,h=>by
  obtain rfl:b= []:=List.eq_nil_of_length_eq_zero hl
  exact h
 |v::l,a,[],w,hl,h=>by cases hl
 |v::l,a,x::b,w,hl,h=>by
  have h1:=h.fU a.length v
  rw[List.setIfInBounds_toArray,List.set_append_right _ _ (Nat.le_refl _),Nat.sub_self,List.set_cons_zero,show a++v::b=(a++ [v])++b by simp] at h1
  have h2:=Rp g t l (a++ [v]) b _ (by simpa using hl) h1
  rw[List.length_append] at h2
  rw[show a++v::l=(a++ [v])++l by simp]
  exact h2
theorem uL{v:World}{t:TypeId}{l b:List Value}(h:v=setW w g 0 l)(k:aZ w g t b.toArray)(e:b.length=l.length:=by rfl):aZ v g t l.toArray:=by subst h;exact Rp g t l [] b w e k
theorem vM{v:World}{l:List Value}(h:v=setW w g 0 l):Only [g] w v:=by subst h;exact ac7 g l 0 w w (Only.refl _ _)
def tk:Nat→Nat→Plan→Plan
 |_,0,p=>p
 |i,k+1,p=> .take i (tk (i+1) k p)
theorem Nw:(∀(a:Act) (v:Value),a.put none v=a)∧(∀(a:Act) (t:Tmp) (v:Value),a.put (some t) v={a with tmps:=a.tmps.setIfInBounds t v})∧(∀(l:List Value) (i:Nat) (v:Value),l.toArray.setIfInBounds i v=(l.set i v).toArray)∧(∀(x v:Value) (l:List Value),(x::l).set 0 v=v::l)∧(∀(x v:Value) (l:List Value) (n:Nat),(x::l).set (n+1) v=x::l.set n v):=
 ⟨fun _ _=>rfl,fun _ _ _=>rfl,fun _ _ _=>List.setIfInBounds_toArray _ _ _,fun _ _ _=>rfl,fun _ _ _ _=>rfl⟩
section
variable{P:Program}{Q:Exit→Act→World→Prop}{S:World→Prop}{n:Nat}{l:List Oper}{i:Nat}{p:Plan}{o:Oper}{v:Value}{a:Act}{w:World}
theorem pT(h:oz P l.toArray Q S n p (a.put o.dst v) w)(hi:nth l i=some o:=by rfl)(hw:Region.wanted o (yielded l.toArray a.tmps)=true:=by rfl)(hS:S w:=by assumption)(hy: ∀w,S w→(execOp a.eval o).run P w= .ok (.value v) w:=by intro w hSw;(try dsimp only at hSw);go_simp;try with_reducible rfl):oz P l.toArray Q S n (.take i p) a w:=Gj hi hw hS hy h
theorem pS(h:oz P l.toArray Q S n p (a.put o.dst undef) w)(hi:nth l i=some o:=by rfl)(hw:Region.wanted o (yielded l.toArray a.tmps)=false:=by rfl)(hS:S w:=by assumption):oz P l.toArray Q S n (.take i p) a w:=Gi hi hw hS h
theorem qT(h:rM P l.toArray Q S n p (a.put o.dst v) w)(hi:nth l i=some o:=by rfl)(hw:Region.wanted o (yielded l.toArray a.tmps)=true:=by rfl)(hS:S w:=by assumption)(hy: ∀w,S w→(execOp a.eval o).run P w= .ok (.value v) w:=by intro w hSw;(try dsimp only at hSw);go_simp;try with_reducible rfl):rM P l.toArray Q S n (.take i p) a w:=J8 hi hw hS hy h
theorem qS(h:rM P l.toArray Q S n p (a.put o.dst undef) w)(hi:nth l i=some o:=by rfl)(hw:Region.wanted o (yielded l.toArray a.tmps)=false:=by rfl)(hS:S w:=by assumption):rM P l.toArray Q S n (.take i p) a w:=J7 hi hw hS h
theorem rP{id:Nat}(S:World→Prop)(n:Nat)(p:Plan)(hS:S w.drew)(h:S w.drew→oz P l.toArray (NoPanic Q) S n p a w.drew)(hm:P.follows .mixedOrders=true:=by kernel_rfl)(hs:Region.noSelect l.toArray=true:=by kernel_rfl)(hB:(decide (p.len=l.toArray.size)&&uE .any l.toArray n p (Array.replicate l.toArray.size false))=true:=by kernel_rfl):(Code.region id l.toArray true).wp P Q a w:=um S n p hm hs hB hS h
end
structure MkU where
def U:MkU:=⟨⟩
instance:CoeFun MkU fun _=>Int→Value:=⟨fun _=>Value.int .i64⟩
structure MkJ (w:World) (g i:Nat) (v:Value) where
def J(w:World)(g i:Nat)(v:Value):MkJ w g i v:=⟨⟩
structure MkO (g n c:Nat) where
def O(g n c:Nat):MkO g n c:=⟨⟩
section
variable{w:World}{g i n c:Nat}{v:Value}
instance:CoeSort (MkJ w g i v) Prop:=⟨fun _=>w.cell? ⟨g,i,none⟩=some v⟩
instance:CoeOut (MkJ w g i v) Prop:=⟨fun _=>w.cell? ⟨g,i,none⟩=some v⟩
instance:CoeOut (MkO g n c) Value:=⟨fun _=> .slice (some ⟨g,0,none⟩) n c⟩
end
instance:Coe Nat Value:=⟨fun g=> .pointer (some ⟨g,0,none⟩)⟩
instance:Coe Unit Value:=⟨fun _=> .slice none 0 0⟩
instance:Coe Bool Value:=⟨.bool⟩
structure MkY where
def Y:MkY:=⟨⟩
instance:CoeFun MkY fun _=>Nat→Array Value→World→(Ending→World→Prop)→Prop:=⟨fun _=>Calls Tryz.prog⟩
section
variable{P:Program}{Q:Exit→Act→World→Prop}{S:World→Prop}{n:Nat}{l:List Oper}{i:Nat}{p:Plan}{o:Oper}{v:Value}{a b:Act}{w:World}{K:Act→World→Prop}{W:Act→World→Prop}
theorem tT(h:oz P l.toArray Q S n p b w)(hi:nth l i=some o:=by exact rfl)(hw:Region.wanted o (yielded l.toArray a.tmps)=true:=by rfl)(hS:S w:=by assumption)(hy: ∀w,S w→(execOp a.eval o).run P w= .ok (.value v) w:=by intro w hSw;(try dsimp only at hSw);go_simp;(try with_reducible rfl);first|done|fail)(e:a.put o.dst v=b:=by(try simp only[Nw]);rfl):oz P l.toArray Q S n (.take i p) a w:=by subst e;exact Gj hi hw hS hy h
theorem tS(h:oz P l.toArray Q S n p b w)(hi:nth l i=some o:=by exact rfl)(hw:Region.wanted o (yielded l.toArray a.tmps)=false:=by rfl)(hS:S w:=by assumption)(e:a.put o.dst undef=b:=by(try simp only[Nw]);rfl):oz P l.toArray Q S n (.take i p) a w:=by subst e;exact Gi hi hw hS h
theorem uT(h:rM P l.toArray Q S n p b w)(hi:nth l i=some o:=by exact rfl)(hw:Region.wanted o (yielded l.toArray a.tmps)=true:=by rfl)(hS:S w:=by assumption)(hy: ∀w,S w→(execOp a.eval o).run P w= .ok (.value v) w:=by intro w hSw;(try dsimp only at hSw);go_simp;(try with_reducible rfl);first|done|fail)(e:a.put o.dst v=b:=by(try simp only[Nw]);rfl):rM P l.toArray Q S n (.take i p) a w:=by subst e;exact J8 hi hw hS hy h
theorem uS(h:rM P l.toArray Q S n p b w)(hi:nth l i=some o:=by exact rfl)(hw:Region.wanted o (yielded l.toArray a.tmps)=false:=by rfl)(hS:S w:=by assumption)(e:a.put o.dst undef=b:=by(try simp only[Nw]);rfl):rM P l.toArray Q S n (.take i p) a w:=by subst e;exact J7 hi hw hS h
theorem pO(h: ∀K:Act→World→Prop,Shut (∀a w,S w→(S w→oz P l.toArray Q S n p a w)→K a w)→if Region.wanted o (yielded l.toArray a.tmps)=true then Oper.wp P o a w K Q else K (a.put o.dst undef) w)(hi:nth l i=some o:=by exact rfl):oz P l.toArray Q S n (.one i p) a w:=UU hi h
theorem pL(h: ∀K:Act→World→Prop,Shut (∀a w,oz P l.toArray Q S n p a w→K a w)→if Region.wanted o (yielded l.toArray a.tmps)=true then Oper.wp P o a w K Q else K (a.put o.dst undef) w)(hi:nth l n=some o:=by exact rfl):oz P l.toArray Q S n (.one n p) a w:=Si hi h
theorem oH(h:Shut (∀a w,S w→(S w→W a w)→K a w))(s:S w)(g:W b w)(e:a=b:=by(try simp only[Nw]);rfl):K a w:=by subst e;exact h.out _ _ s fun _=>g
theorem oI(h:Shut (∀a w,S w→(S w→W a w)→K a w))(s:S w)(g:S w→W b w)(e:a=b:=by(try simp only[Nw]);rfl):K a w:=by subst e;exact h.out _ _ s g
theorem oL(h:Shut (∀a w,W a w→K a w))(g:W b w)(e:a=b:=by(try simp only[Nw]);rfl):K a w:=by subst e;exact h.out _ _ g
theorem rD{id:Nat}(S:World→Prop)(n:Nat)(p:Plan)(hS:S w.drew)(h: ∀v,Hid (Below w.heap.size w v)→S v→oz P l.toArray (NoPanic Q) S n p a v)(hm:P.follows .mixedOrders=true:=by kernel_rfl)(hs:Region.noSelect l.toArray=true:=by kernel_rfl)(hB:(decide (p.len=l.toArray.size)&&uE .any l.toArray n p (Array.replicate l.toArray.size false))=true:=by kernel_rfl):(Code.region id l.toArray true).wp P Q a w:=um S n p hm hs hB hS (h _ (bDr rfl))
end
section
variable{p q r s t u:Prop}
theorem j2(a:p)(b:q):Hid p∧Hid q:=⟨a,b⟩
theorem j3(a:p)(b:q)(c:r):Hid p∧Hid q∧Hid r:=⟨a,b,c⟩
theorem j4(a:p)(b:q)(c:r)(d:s):Hid p∧Hid q∧Hid r∧Hid s:=⟨a,b,c,d⟩
theorem j5(a:p)(b:q)(c:r)(d:s)(e:t):Hid p∧Hid q∧Hid r∧Hid s∧Hid t:=⟨a,b,c,d,e⟩
theorem j6(a:p)(b:q)(c:r)(d:s)(e:t)(f:u):Hid p∧Hid q∧Hid r∧Hid s∧Hid t∧Hid u:=⟨a,b,c,d,e,f⟩
end
section
variable{w v:World}{g:Nat}{t:TypeId}{cs:Array Value}{a b c d e f x y z u:Value}{l:List Value}
theorem aZ.a2(h:aZ w g t cs)(k:cs.toList=a::b::l:=by rfl):w.cell? ⟨g,0,none⟩=some a∧w.cell? ⟨g,1,none⟩=some b:=by
 have hc:cs=(a::b::l).toArray:=by rw[←k]
 subst hc;exact⟨h.cell 0,h.cell 1⟩
theorem aZ.a3(h:aZ w g t cs)(k:cs.toList=a::b::c::l:=by rfl):w.cell? ⟨g,0,none⟩=some a∧w.cell? ⟨g,1,none⟩=some b∧w.cell? ⟨g,2,none⟩=some c:=by
 have hc:cs=(a::b::c::l).toArray:=by rw[←k]
 subst hc;exact⟨h.cell 0,h.cell 1,h.cell 2⟩
theorem aZ.a5(h:aZ w g t cs)(k:cs.toList=a::b::c::d::e::l:=by rfl):w.cell? ⟨g,0,none⟩=some a∧w.cell? ⟨g,1,none⟩=some b∧w.cell? ⟨g,2,none⟩=some c∧w.cell? ⟨g,3,none⟩=some d∧w.cell? ⟨g,4,none⟩=some e:=by
 have hc:cs=(a::b::c::d::e::l).toArray:=by rw[←k]
 subst hc;exact⟨h.cell 0,h.cell 1,h.cell 2,h.cell 3,h.cell 4⟩
theorem aZ.a6(h:aZ w g t cs)(k:cs.toList=a::b::c::d::e::f::l:=by rfl):w.cell? ⟨g,0,none⟩=some a∧w.cell? ⟨g,1,none⟩=some b∧w.cell? ⟨g,2,none⟩=some c∧w.cell? ⟨g,3,none⟩=some d∧w.cell? ⟨g,4,none⟩=some e∧w.cell? ⟨g,5,none⟩=some f:=by
 have hc:cs=(a::b::c::d::e::f::l).toArray:=by rw[←k]
 subst hc;exact⟨h.cell 0,h.cell 1,h.cell 2,h.cell 3,h.cell 4,h.cell 5⟩
theorem aZ.zA(h:aZ w g t cs)(k:cs.toList=a::b::c::d::e::f::x::y::z::u::l:=by rfl):w.cell? ⟨g,0,none⟩=some a∧w.cell? ⟨g,1,none⟩=some b∧w.cell? ⟨g,2,none⟩=some c∧w.cell? ⟨g,3,none⟩=some d∧w.cell? ⟨g,4,none⟩=some e∧w.cell? ⟨g,5,none⟩=some f∧w.cell? ⟨g,6,none⟩=some x∧w.cell? ⟨g,7,none⟩=some y∧w.cell? ⟨g,8,none⟩=some z∧w.cell? ⟨g,9,none⟩=some u:=by
 have hc:cs=(a::b::c::d::e::f::x::y::z::u::l).toArray:=by rw[←k]
 subst hc;exact⟨h.cell 0,h.cell 1,h.cell 2,h.cell 3,h.cell 4,h.cell 5,h.cell 6,h.cell 7,h.cell 8,h.cell 9⟩
theorem nw(h:v=w.alloc (.cells cs t))(k:g=w.heap.size):Hid (Below w.heap.size w v)∧Hid (aZ v g t cs):=⟨tQ h,xNew h k⟩
end
theorem aR{p:Prop}(h:p:=by omega):p:=h
theorem aV{p:Prop}(h:p:=by decide):p:=h
theorem bJ{p:Prop}(h:p:=by simp):p:=h
theorem tL{p:Prop}(h:q)(k:q→p:=by intro h;(try simp only[Hid] at h);omega):p:=k h
theorem VZ{p r:Prop}(h:q)(g:r)(k:q→r→p:=by intro h g;(try simp only[Hid] at h g);omega):p:=k h g
theorem mR{p:Prop}(h:q)(k:q→p:=by intro h;simpa using h):p:=k h
theorem nC{o:Obj}:Below w.heap.size w (w.alloc o):=(Below.refl _ _).alloc (Nat.le_refl _) _
abbrev OA:=Option Addr
abbrev LV:=List Value
abbrev AV:=Array Value
abbrev LI:=List Int
abbrev LN:=List Nat
structure MkS where
def acX:MkS:=⟨⟩
instance:CoeFun MkS fun _=>Option Addr→Nat→Nat→Value:=⟨fun _=>Value.slice⟩
structure MkR where
def acK:MkR:=⟨⟩
instance:CoeFun MkR fun _=>Value→Ending:=⟨fun _=>Ending.returned⟩
structure MkP (g i:Nat) where
def adZ(g i:Nat):MkP g i:=⟨⟩
instance{g i:Nat}:CoeOut (MkP g i) Addr:=⟨fun _=>⟨g,i,none⟩⟩
structure MkT where
def ac2:MkT:=⟨⟩
instance:CoeFun MkT fun _=>Array Value→Value:=⟨fun _=>Value.tuple⟩
structure MkA where
def acY:MkA:=⟨⟩
instance:CoeFun MkA fun _=>Array Value→Value:=⟨fun _=>Value.agg⟩
theorem F9(p:Prop)(h:p):Hid p:=h
def dH:=@And.intro
def gP:=@Array.ext_getElem?
def iF:=@Array.getD_eq_getD_getElem?
def bD:=@Array.getElem?_eq_getElem
def gK:=@Array.getElem?_eq_none
def eX:=@Array.getElem?_eq_some_iff
def aW:=@Array.getElem?_setIfInBounds_ne
def bZ:=@Array.getElem?_setIfInBounds_self
def fZ:=@Array.getElem?_setIfInBounds_self_of_lt
def iy:=@Array.size_setIfInBounds
def kW:=@Array.toArray_toList
def fK:=@Array.toList_push
def aC:=@Below.refl
def kM:=@BitVec.ofInt_natCast
def kK:=@Bool.and_eq_false_iff
def bX:=@Bool.and_eq_true
def iq:=@Bool.and_eq_true_iff
def kR:=@Bool.and_false
def kZ:=@Bool.and_self
def jU:=@Bool.and_true
def jT:=@Bool.eq_false_iff
def kG:=@Bool.eq_iff_iff
def kN:=@Bool.false_and
def dz:=@Bool.false_eq_true
def jV:=@Bool.false_or
def mo:=@Bool.not_false
def lq:=@Bool.not_true
def kU:=@Bool.or_eq_false_iff
def eZ:=@Bool.or_eq_true
def iw:=@Bool.true_and
def jB:=@Exit.noGoto_ret
def gG:=@Function.comp_def
def jQ:=@Int.emod_eq_of_lt
def iQ:=@Int.emod_lt_of_pos
def jA:=@Int.emod_nonneg
def bB:=@Int.eq_ofNat_of_zero_le
def gN:=@Int.tmod_eq_emod_of_nonneg
def bI:=@Int.toNat_natCast
def aH:=@IntWalk.i64_in
def iE:=@List.Pairwise.nil
def kV:=@List.Perm.cons
def jk:=@List.all_eq_true
def bW:=@List.append_assoc
def eG:=@List.append_nil
def gT:=@List.cons.injEq
def eH:=@List.cons_append
def lK:=@List.countP_append
def lT:=@List.countP_cons
def lN:=@List.countP_singleton
def lX:=@List.drop_drop
def jN:=@List.drop_eq_getElem_cons
def iB:=@List.drop_eq_nil_of_le
def eP:=@List.drop_of_length_le
def jf:=@List.drop_zero
def dA:=@List.eq_nil_of_length_eq_zero
def dO:=@List.eq_of_mem_replicate
def dD:=@List.ext_getElem?
def fV:=@List.filter_append
def kg:=@List.filter_cons
def bS:=@List.flatMap_append
def bQ:=@List.flatMap_cons
def iM:=@List.flatMap_nil
def jS:=@List.flatten_cons
def jR:=@List.foldl_append
def bE:=@List.getD_eq_getElem?_getD
def bC:=@List.getElem?_append_left
def bN:=@List.getElem?_append_right
def dU:=@List.getElem?_cons_succ
def dV:=@List.getElem?_cons_zero
def aj:=@List.getElem?_eq_getElem
def fT:=@List.getElem?_eq_none
def ah:=@List.getElem?_eq_some_iff
def aS:=@List.getElem?_map
def eY:=@List.getElem?_modify
def lU:=@List.getElem?_range
def dI:=@List.getElem?_replicate
def je:=@List.getElem?_set
def aX:=@List.getElem?_set_ne
def aL:=@List.getElem?_set_self
def iP:=@List.getElem?_take
def cZ:=@List.getElem?_toArray
def jP:=@List.getElem?_zip_eq_some
def dY:=@List.getElem_cons_drop
def bY:=@List.getElem_mem
def jO:=@List.getLast?_eq_getElem?
def jF:=@List.idxOf_lt_length_of_mem
def av:=@List.length_append
def aY:=@List.length_cons
def jm:=@List.length_drop
def jX:=@List.length_eq_zero_iff
def fB:=@List.length_filter_le
def aT:=@List.length_map
def iV:=@List.length_modify
def dK:=@List.length_nil
def fC:=@List.length_replicate
def bG:=@List.length_set
def jh:=@List.length_singleton
def cO:=@List.length_take
def gW:=@List.length_zip
def bR:=@List.map_append
def dX:=@List.map_congr_left
def bV:=@List.map_cons
def kH:=@List.map_const'
def gI:=@List.map_eq_nil_iff
def kE:=@List.map_id'
def gu:=@List.map_map
def fu:=@List.map_nil
def eT:=@List.map_set
def aQ:=@List.mem_append
def bL:=@List.mem_append_left
def bH:=@List.mem_append_right
def ay:=@List.mem_cons
def cK:=@List.mem_cons_of_mem
def jL:=@List.mem_cons_self
def kI:=@List.mem_filter
def bg:=@List.mem_flatMap
def kX:=@List.mem_iff_getElem
def bT:=@List.mem_iff_getElem?
def bM:=@List.mem_map
def ak:=@List.mem_of_getElem?
def kL:=@List.mem_of_mem_drop
def jv:=@List.mem_of_mem_take
def cB:=@List.mem_or_eq_of_mem_set
def fE:=@List.mem_range
def au:=@List.mem_singleton
def bU:=@List.nil_append
def ig:=@List.nodup_append
def aI:=@List.not_mem_nil
def kP:=@List.pairwise_append
def eu:=@List.pairwise_cons
def eO:=@List.pairwise_iff_getElem
def lZ:=@List.pairwise_singleton
def jM:=@List.perm_append_singleton
def gV:=@List.range_succ
def gJ:=@List.replicate_succ
def jJ:=@List.setIfInBounds_toArray
def jw:=@List.set_append_left
def iD:=@List.set_append_right
def iC:=@List.set_cons_succ
def iX:=@List.set_eq_take_append_cons_drop
def jg:=@List.set_getElem_self
def gZ:=@List.size_toArray
def lQ:=@List.sum_append
def jr:=@List.sum_cons
def lV:=@List.sum_nil
def fM:=@List.take_add_one
def kJ:=@List.take_append_drop
def jy:=@List.take_append_of_le_length
def dP:=@List.take_length
def dB:=@List.take_of_length_le
def bA:=@List.take_succ_eq_append_getElem
def gL:=@MapKept.run_getObj_map
def ku:=@MapKept.run_setObj_map
def dL:=@Nat.add_assoc
def iH:=@Nat.add_mul
def fF:=@Nat.add_sub_cancel
def fG:=@Nat.add_sub_cancel_left
def fA:=@Nat.add_zero
def lM:=@Nat.beq_refl
def dS:=@Nat.ble_eq_true_of_le
def iA:=@Nat.blt_eq
def iJ:=@Nat.div_eq_of_lt
def eB:=@Nat.div_lt_iff_lt_mul
def bO:=@Nat.eq_of_beq_eq_true
def l9:=@Nat.le_mul_of_pos_left
def eD:=@Nat.le_of_ble_eq_true
def lC:=@Nat.le_of_eq
def aF:=@Nat.le_refl
def lY:=@Nat.le_succ_of_le
def aG:=@Nat.le_trans
def kS:=@Nat.log2_lt
def jY:=@Nat.log2_self_le
def jZ:=@Nat.lt_log2_self
def aB:=@Nat.lt_of_lt_of_le
def jq:=@Nat.lt_of_not_le
def iZ:=@Nat.lt_or_ge
def fO:=@Nat.min_eq_left
def dJ:=@Nat.mod_eq_of_lt
def ji:=@Nat.mod_lt
def lS:=@Nat.mul_add
def mg:=@Nat.mul_add_div
def mh:=@Nat.mul_add_mod
def lg:=@Nat.mul_assoc
def gX:=@Nat.mul_comm
def iT:=@Nat.mul_div_cancel
def jK:=@Nat.mul_le_mul
def jC:=@Nat.mul_le_mul_left
def dN:=@Nat.mul_le_mul_right
def iG:=@Nat.mul_lt_mul_of_pos_right
def fP:=@Nat.mul_one
def lG:=@Nat.mul_pos
def kC:=@Nat.ne_of_lt
def iI:=@Nat.pow_add
def iK:=@Nat.pow_succ
def kD:=@Nat.pow_zero
def iL:=@Nat.shiftLeft_eq
def fJ:=@Nat.sub_self
def jc:=@Nat.sub_zero
def gY:=@Nat.succ_mul
def fQ:=@Nat.two_pow_pos
def aO:=@Nat.zero_add
def bF:=@Nat.zero_le
def fI:=@Nat.zero_mul
def dR:=@Ne.symm
def aA:=@Option.bind_eq_some_iff
def aP:=@Option.bind_some
def jW:=@Option.isSome_iff_exists
def lW:=@Option.isSome_some
def aK:=@Option.map_eq_some_iff
def iO:=@Option.map_none
def bP:=@Option.map_some
def aJ:=@Option.mem_toList
def dh:=@Option.some.inj
def aD:=@Option.some.injEq
def iU:=@Option.toList_none
def jH:=@Option.toList_some
def aM:=@Prod.mk.injEq
def gF:=@Result.andThen_ok
def jD:=@Sem.run_bind
def lD:=@Sem.run_pure
def dM:=@World.ownsRow.alloc
def dG:=@World.ownsRow.lt
end Go.Proofs.YtgnhecmnlddjhaaGreat
