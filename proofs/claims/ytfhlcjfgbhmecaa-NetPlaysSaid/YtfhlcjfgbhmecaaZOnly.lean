/- Later, Blk, VRow, Own, Only. -/
import Derived.WalkKit
import Derived.OpenShut
import Derived.Below
import Derived.Outline
import Derived.Lib.Hide
import Derived.BigQuiet
import Derived.Laws.OwnMore
import Derived.Deep.Draws
import Derived.Laws.Rows
import Derived.OwnWalk
import Derived.Deep.AppendLies
/- Regions that draw their order and whose operations leave what is there alone: loads beside calls that make memory: one walk, in the order of the text. Over any program. -/
namespace Go.Proofs.Ytfhlcjfgbhmecaa
open Go.RowKit
set_option linter.unusedVariables false

/-- A world that comes behind w: what was there is there as it was. -/
structure Later (w0 : World) where
  w : World
  b : Below w0.heap.size w0 w

instance later_nonempty (w0 : World) : Nonempty (Later w0) := ⟨⟨w0, Below.refl _ _⟩⟩

theorem Later.cell {w0 : World} (x : Later w0) {p : Addr} {v : Value} (h : w0.cell? p = some v) : x.w.cell? p = some v := by
  rw [x.b.cell, h]
  rcases Nat.lt_or_ge p.block w0.heap.size with hlt | hge
  · exact hlt
  · have : w0.heap[p.block]? = none := Array.getElem?_eq_none hge
    simp [World.cell?, this] at h

theorem wp_region_later {P : Program} {id : Nat} {Q : Exit → Act → World → Prop} {a : Act} {w : World} {l : List Oper} (hm : P.follows .mixedOrders = true) (hB : Region.lexB .any l.toArray = true)
    (h : wpQuiet P l.toArray (fun w' => ∃ x : Later w, w' = x.w) (fun a' => ∀ w', (∃ x : Later w, w' = x.w) → Q .normal a' w') l a) : (Code.region id l.toArray true).wp P Q a w :=
  wp_region_quiet (C := fun w' => ∃ x : Later w, w' = x.w) hm hB ⟨⟨_, (Below.refl _ w).drew⟩, rfl⟩ (by simpa using h)

theorem Later.call {P : Program} {f : FuncId} {args : Array Value} {w0 : World} {x : Later w0} {v : Value}
    (h : Calls P f args x.w fun e w' => e = .returned v ∧ Below x.w.heap.size x.w w') : Calls P f args x.w fun e w'' => e = .returned v ∧ ∃ y : Later w0, w'' = y.w :=
  h.mono fun _ _ ⟨he, hb⟩ => ⟨he, ⟨_, x.b.trans (hb.mono x.b.size)⟩, rfl⟩
theorem Later.same {P : Program} {f : FuncId} {args : Array Value} {w0 : World} {x : Later w0} {v : Value}
    (h : Calls P f args x.w fun e w' => e = .returned v ∧ x.w = w') : Calls P f args x.w fun e w'' => e = .returned v ∧ ∃ y : Later w0, w'' = y.w :=
  h.mono fun _ _ ⟨he, hb⟩ => ⟨he, x, hb.symm⟩

/-- A slice of integers that came in, or that was made: the numbers it holds. -/
def IntRow (w : World) (a : Option Addr) (n : Nat) (xs : List Int) : Prop :=
  xs.length = n ∧ (0 < n → ∃ b off, a = some ⟨b, off, none⟩ ∧ b < w.heap.size ∧ ∀ i, i < n → w.cell? ⟨b, off + i, none⟩ = some (.int .i64 (xs.getD i 0)))
theorem IntRow.below {w w' : World} {a : Option Addr} {n : Nat} {xs : List Int} (h : IntRow w a n xs) (hb : Below w.heap.size w w') : IntRow w' a n xs :=
  ⟨h.1, fun hn => by
    obtain ⟨b, off, e, hlt, hc⟩ := h.2 hn
    exact ⟨b, off, e, Nat.lt_of_lt_of_le hlt hb.size, fun i hi => (hb.cell (p := ⟨b, off + i, none⟩) hlt).trans (hc i hi)⟩⟩
end Go.Proofs.Ytfhlcjfgbhmecaa
/- Blocks that are known whole. Over any program. -/
namespace Go.Proofs.Ytfhlcjfgbhmecaa
open Go.RowKit
set_option linter.unusedVariables false
def Blk (w : World) (g : Nat) (t : TypeId) (cs : Array Value) : Prop := w.heap[g]? = some (.cells cs t (0, 0))

section
variable {w w' : World} {g : Nat} {t : TypeId} {cs : Array Value}
theorem Blk.lt (h : Blk w g t cs) : g < w.heap.size := by
  rcases Nat.lt_or_ge g w.heap.size with hlt | hge
  · exact hlt
  · unfold Blk at h; rw [Array.getElem?_eq_none hge] at h; cases h
theorem Blk.cell (h : Blk w g t cs) (i : Nat) : w.cell? ⟨g, i, none⟩ = cs[i]? := cell_of_row w g i cs t (0, 0) h
theorem Blk.frozen (h : Blk w g t cs) (i : Nat) : w.frozen? ⟨g, i, none⟩ = false := by
  unfold Blk at h
  simp [World.frozen?, h]
theorem Blk.new (w : World) (t : TypeId) (cs : Array Value) : Blk (w.alloc (.cells cs t)) w.heap.size t cs := heap_alloc_new w _
theorem Blk.drew (h : Blk w g t cs) : Blk w.drew g t cs := h
theorem Blk.drewN (h : Blk w g t cs) (n : Nat) : Blk (w.drewN n) g t cs := h
theorem Blk.alloc (h : Blk w g t cs) (o : Obj) : Blk (w.alloc o) g t cs := (Below.heap_alloc w o g h.lt).trans h
theorem Blk.set_ (h : Blk w g t cs) (i : Nat) (u : Value) : Blk (w.setCell ⟨g, i, none⟩ u) g t (cs.setIfInBounds i u) := by
  unfold Blk at h ⊢
  simp [World.setCell, Array.getElem?_modify, h]
theorem Blk.far (h : Blk w g t cs) {p : Addr} (hp : g ≠ p.block) (u : Value) : Blk (w.setCell p u) g t cs := (Below.heap_setCell w p u g hp).trans h
theorem Blk.below {B : Nat} (h : Blk w g t cs) (hb : Below B w w') (hg : g < B) : Blk w' g t cs := (hb.block g hg).trans h
theorem Blk.grown {row : Option Nat} (h : Blk w g t cs) (hb : w.grownBy w' row) (hg : some g ≠ row) : Blk w' g t cs := (hb.block g h.lt hg).trans h
theorem Blk.ne_ {g' : Nat} {t' : TypeId} {cs' : Array Value} (h : Blk w g t cs) (h' : Blk w g' t' cs') (hne : t ≠ t') : g ≠ g' := by
  rintro rfl
  unfold Blk at h h'
  rw [h] at h'
  injection h' with h'
  injection h' with _ ht
  exact hne ht
theorem own_blk_ne {base : Nat} {e : TypeId} {size n : Nat} {v : Value} {xs : List Value} (h : w.ownsRow base e size v n xs) (hg : Blk w g t cs) (hne : e ≠ t) : v.ownBlock ≠ some g := by
  rcases h.2 with ⟨rfl, _⟩ | ⟨g', cap, cur, rfl, _, hh, _⟩
  · simp [Value.ownBlock]
  · intro he
    have : g' = g := by simpa [Value.ownBlock] using he
    subst this
    exact Blk.ne_ (t := e) hh hg hne rfl
end

theorem Blk.new' (w : World) (t : TypeId) (cs : Array Value) {g : Nat} (h : w.heap.size = g) : Blk (w.alloc (.cells cs t)) g t cs := by subst h; exact Blk.new w t cs
theorem Blk.later {w0 : World} {g : Nat} {t : TypeId} {cs : Array Value} (h : Blk w0 g t cs) (x : Later w0) : Blk x.w g t cs := h.below x.b h.lt
theorem Blk.laterCell {w0 : World} {g : Nat} {t : TypeId} {cs : Array Value} (h : Blk w0 g t cs) {i : Nat} {v : Value} (hi : cs[i]? = some v) (x : Later w0) : x.w.cell? ⟨g, i, none⟩ = some v :=
  ((h.later x).cell i).trans hi
/-- The cells of a list of integers. -/
def ints (xs : List Int) : Array Value := (xs.map (Value.int .i64)).toArray
theorem ints_get (xs : List Int) (i : Nat) (hi : i < xs.length) : (ints xs)[i]? = some (.int .i64 (xs.getD i 0)) := by
  simp [ints, List.getD, List.getElem?_eq_getElem hi]
theorem ints_set (xs : List Int) (i : Nat) (n : Int) : (ints xs).setIfInBounds i (.int .i64 n) = ints (xs.set i n) := by
  simp [ints]
theorem Blk.row {w : World} {g : Nat} {t : TypeId} {xs : List Int} (h : Blk w g t (ints xs)) : IntRow w (some ⟨g, 0, none⟩) xs.length xs :=
  ⟨rfl, fun _ => ⟨g, 0, rfl, h.lt, fun i hi => by rw [Nat.zero_add]; exact (h.cell i).trans (ints_get xs i hi)⟩⟩
end Go.Proofs.Ytfhlcjfgbhmecaa
/- Slices that read as lists of cells. Over any program. -/
namespace Go.Proofs.Ytfhlcjfgbhmecaa
open Go.RowKit
set_option linter.unusedVariables false

/-- The slice at a of n elements of s cells each: its cells hold vs. -/
def VRow (w : World) (a : Option Addr) (n s : Nat) (vs : List Value) : Prop :=
  vs.length = n * s ∧ (0 < n → ∃ b off, a = some ⟨b, off, none⟩ ∧ b < w.heap.size ∧ ∀ i v, vs[i]? = some v → w.cell? ⟨b, off + i, none⟩ = some v)
theorem VRow.nil (w : World) (a : Option Addr) (s : Nat) : VRow w a 0 s [] := ⟨by simp, fun h => absurd h (by omega)⟩
theorem VRow.keep {w w' : World} {a : Option Addr} {n s : Nat} {vs : List Value} (h : VRow w a n s vs) (hsz : w.heap.size ≤ w'.heap.size) (hk : ∀ b, a.map (·.block) = some b → b < w.heap.size → w'.heap[b]? = w.heap[b]?) : VRow w' a n s vs :=
  ⟨h.1, fun hn => by
    obtain ⟨b, off, rfl, hlt, hc⟩ := h.2 hn
    refine ⟨b, off, rfl, Nat.lt_of_lt_of_le hlt hsz, fun i v hv => ?_⟩
    rw [← hc i v hv]
    exact World.cell?_of_block (w := w) (hk b rfl hlt)⟩
theorem VRow.below {w w' : World} {a : Option Addr} {n s : Nat} {vs : List Value} (h : VRow w a n s vs) (hb : Below w.heap.size w w') : VRow w' a n s vs :=
  h.keep hb.size fun b _ hlt => hb.block b hlt
theorem VRow.later {w0 : World} {a : Option Addr} {n s : Nat} {vs : List Value} (h : VRow w0 a n s vs) (x : Later w0) : VRow x.w a n s vs := h.below x.b
theorem VRow.drew {w : World} {a : Option Addr} {n s : Nat} {vs : List Value} (h : VRow w a n s vs) : VRow w.drew a n s vs := h
theorem VRow.of_blk {w : World} {g : Nat} {t : TypeId} {cs : Array Value} {n s : Nat} (h : Blk w g t cs) (hs : cs.size = n * s) : VRow w (some ⟨g, 0, none⟩) n s cs.toList :=
  ⟨by simpa using hs, fun _ => ⟨g, 0, rfl, h.lt, fun i v hv => by rw [Nat.zero_add, h.cell i, ← hv]; simp⟩⟩
/-- s[k:]: where nothing is left of the capacity the model keeps the address. -/
theorem VRow.from_ {w : World} {a : Option Addr} {n s : Nat} {vs : List Value} (h : VRow w a n s vs) {k : Nat} (hk : k < n) :
    ∃ b off, a = some ⟨b, off, none⟩ ∧ VRow w (some ⟨b, off + k * s, none⟩) (n - k) s (vs.drop (k * s)) := by
  obtain ⟨b, off, rfl, hlt, hc⟩ := h.2 (by omega)
  refine ⟨b, off, rfl, by rw [List.length_drop, h.1, Nat.sub_mul], fun _ => ⟨b, off + k * s, rfl, hlt, fun i v hv => ?_⟩⟩
  rw [List.getElem?_drop] at hv
  rw [Nat.add_assoc]
  exact hc _ _ hv
end Go.Proofs.Ytfhlcjfgbhmecaa
/- Rows of the call's own: kept, told apart, read. Over any program. -/
namespace Go.Proofs.Ytfhlcjfgbhmecaa
open Go.RowKit
set_option linter.unusedVariables false
section
variable {w w' : World} {base base' : Nat} {e e' : TypeId} {s s' n n' : Nat} {v v' : Value} {xs xs' : List Value}
theorem own_below (h : w.ownsRow base e s v n xs) (hb : Below w.heap.size w w') : w'.ownsRow base e s v n xs :=
  h.kept (row := none) ⟨hb.os, hb.tape, hb.output, hb.size, fun k hk _ => hb.block k hk⟩ (by cases hv : v.ownBlock <;> simp)
theorem own_ne (h : w.ownsRow base e s v n xs) (h' : w.ownsRow base' e' s' v' n' xs') (hne : e ≠ e') : v.ownBlock = none ∨ v.ownBlock ≠ v'.ownBlock := by
  rcases h.2 with ⟨rfl, _⟩ | ⟨g, cap, cur, rfl, _, hh, _⟩
  · exact .inl rfl
  · refine .inr fun he => ?_
    rcases h'.2 with ⟨rfl, _⟩ | ⟨g', cap', cur', rfl, _, hh', _⟩
    · simp [Value.ownBlock] at he
    · simp only [Value.ownBlock, Option.some.injEq] at he
      subst he
      rw [hh] at hh'
      injection hh' with hh'
      injection hh' with _ ht
      exact hne ht
theorem own_vrow {a : Option Addr} {c : Nat} (h : w.ownsRow base e s (.slice a n c) n xs) : VRow w a n s xs := by
  refine ⟨h.1, fun hn => ?_⟩
  rcases h.2 with ⟨_, rfl⟩ | ⟨g, cap, cur, hv, _, hh, hc, _, hcs, ht⟩
  · omega
  · have ha : a = some ⟨g, 0, none⟩ := by injection hv
    subst ha
    refine ⟨g, 0, rfl, (Array.getElem?_eq_some_iff.1 hh).1, fun i u hu => ?_⟩
    rw [Nat.zero_add, cell_of_row w g i cur e (0, 0) hh]
    rw [← ht, List.getElem?_take] at hu
    split at hu
    · simpa using hu
    · cases hu
theorem own_cap {a : Option Addr} {c : Nat} (h : w.ownsRow base e s (.slice a n c) n xs) : n ≤ c := by
  rcases h.2 with ⟨hv, rfl⟩ | ⟨g, cap, cur, hv, _, hh, hc, _⟩
  · omega
  · injection hv with _ _ hcc
    omega
theorem grown_cell {row : Option Nat} (hg : w.grownBy w' row) {p : Addr} {u : Value} (h : w.cell? p = some u) (hne : some p.block ≠ row) : w'.cell? p = some u := hg.cell h hne
theorem below_grown {B : Nat} (hb : Below B w w') {w'' : World} {row : Option Nat} (hg : w'.grownBy w'' row) (hB : B ≤ w'.heap.size) (hr : ∀ k, row = some k → B ≤ k) : Below B w w'' := hb.grown hg hB hr
/-- A row of another element type is not this block. -/
theorem own_blk {g : Nat} {t : TypeId} {cs : Array Value} (h : w.ownsRow base e s v n xs) (hg : Blk w g t cs) (hne : e ≠ t) : some g ≠ v.ownBlock := by
  intro hh
  exact own_blk_ne h hg hne hh.symm
theorem lt_of_cell' {w : World} {p : Addr} {v : Value} (h : w.cell? p = some v) : p.block < w.heap.size := World.block_lt_of_cell? w _ h
theorem kept {w w' : World} (hb : Below w.heap.size w w') (p : Addr) (v : Value) (h : w.cell? p = some v) : w'.cell? p = some v := by
  rw [hb.cell (lt_of_cell' h), h]
theorem alloc_kept {w : World} {p : Addr} {v : Value} (o : Obj) (h : w.cell? p = some v) : (w.alloc o).cell? p = some v := (World.cell?_alloc_lt w o p (lt_of_cell' h)).trans h
end
end Go.Proofs.Ytfhlcjfgbhmecaa
/- Only a few blocks have turned: frames of calls that write to objects of several blocks. Over any program. -/
namespace Go.Proofs.Ytfhlcjfgbhmecaa
open Go.RowKit
set_option linter.unusedVariables false

/-- From w to w' only the blocks of S may have turned, and new ones came. -/
structure Only (S : List Nat) (w w' : World) : Prop where
  os : w'.os = w.os
  tape : w'.tape = w.tape
  output : w'.output = w.output
  size : w.heap.size ≤ w'.heap.size
  block : ∀ k, k < w.heap.size → k ∉ S → w'.heap[k]? = w.heap[k]?

section
variable {S T : List Nat} {a w w' : World}
theorem Only.refl (S : List Nat) (w : World) : Only S w w := ⟨rfl, rfl, rfl, Nat.le_refl _, fun _ _ _ => rfl⟩
theorem Only.trans (h : Only S a w) (k : Only S w w') : Only S a w' :=
  ⟨k.os.trans h.os, k.tape.trans h.tape, k.output.trans h.output, Nat.le_trans h.size k.size, fun i hi hn => (k.block i (Nat.lt_of_lt_of_le hi h.size) hn).trans (h.block i hi hn)⟩
theorem Only.mono (h : Only S w w') (hs : ∀ k ∈ S, k ∈ T ∨ w.heap.size ≤ k) : Only T w w' :=
  ⟨h.os, h.tape, h.output, h.size, fun i hi hn => h.block i hi fun hm => by
    rcases hs i hm with h1 | h1
    · exact hn h1
    · omega⟩
/-- A step that turns other blocks, all of them the call's own or among S. -/
theorem Only.then (h : Only S a w) (k : Only T w w') (hs : ∀ k ∈ T, k ∈ S ∨ a.heap.size ≤ k) : Only S a w' :=
  ⟨k.os.trans h.os, k.tape.trans h.tape, k.output.trans h.output, Nat.le_trans h.size k.size, fun i hi hn => (k.block i (Nat.lt_of_lt_of_le hi h.size) (fun hm => by
    rcases hs i hm with h1 | h1
    · exact hn h1
    · omega)).trans (h.block i hi hn)⟩
theorem Only.drew (h : Only S a w) : Only S a w.drew := ⟨h.os, h.tape, h.output, h.size, h.block⟩
theorem Only.drewN (h : Only S a w) (n : Nat) : Only S a (w.drewN n) := ⟨h.os, h.tape, h.output, h.size, h.block⟩
theorem Only.alloc (h : Only S a w) (o : Obj) : Only S a (w.alloc o) :=
  h.trans ⟨rfl, rfl, rfl, by simp, fun k hk _ => Below.heap_alloc _ _ _ hk⟩
theorem Only.setCell (h : Only S a w) {p : Addr} (hp : p.block ∈ S ∨ a.heap.size ≤ p.block) (u : Value) : Only S a (w.setCell p u) :=
  h.then (T := [p.block]) ⟨rfl, rfl, rfl, by simp [World.setCell], fun k hk hn => Below.heap_setCell _ _ _ _ (fun e => hn (by simp [e]))⟩ (by simpa using hp)
theorem below_drewN {B : Nat} (h : Below B a w) (n : Nat) : Below B a (w.drewN n) := ⟨h.os, h.tape, h.output, h.size, h.block⟩
theorem Only.grown (h : Only S a w) {row : Option Nat} (hg : w.grownBy w' row) (hr : ∀ k, row = some k → k ∈ S ∨ a.heap.size ≤ k) : Only S a w' :=
  ⟨hg.os.trans h.os, hg.tape.trans h.tape, hg.output.trans h.output, Nat.le_trans h.size hg.size, fun i hi hn => (hg.block i (Nat.lt_of_lt_of_le hi h.size) (fun e => by
    rcases hr i e.symm with h1 | h1
    · exact hn h1
    · omega)).trans (h.block i hi hn)⟩
theorem Only.of_below (h : Below w.heap.size w w') : Only S w w' := ⟨h.os, h.tape, h.output, h.size, fun i hi _ => h.block i hi⟩
theorem Only.belows (h : Only S a w) (k : Below w.heap.size w w') : Only S a w' := h.trans (Only.of_below k)
/-- Below B nothing has turned, if no block of S is below B. -/
theorem Only.below {B : Nat} {w0 : World} (h : Only S w w') (h0 : Below B w0 w) (hB : B ≤ w.heap.size) (hs : ∀ k ∈ S, B ≤ k) : Below B w0 w' :=
  h0.trans ⟨h.os, h.tape, h.output, h.size, fun i hi => h.block i (by omega) fun hm => by have := hs i hm; omega⟩
theorem Only.to_below (h : Only [] w w') : Below w.heap.size w w' := ⟨h.os, h.tape, h.output, h.size, fun i hi => h.block i hi (by simp)⟩
theorem Only.cell (h : Only S w w') {p : Addr} (hp : p.block < w.heap.size) (hn : p.block ∉ S) : w'.cell? p = w.cell? p := World.cell?_of_block (w := w) (h.block p.block hp hn)
theorem Only.cell_ (h : Only S w w') {p : Addr} {v : Value} (hc : w.cell? p = some v) (hn : p.block ∉ S) : w'.cell? p = some v := (h.cell (lt_of_cell' hc) hn).trans hc
theorem far_cell {p q : Addr} {u v : Value} (h : w.cell? q = some v) (hne : q.block ≠ p.block) : (w.setCell p u).cell? q = some v :=
  (World.cell?_setCell_other w p q u (fun e => hne (by rw [e]))).trans h
theorem Blk.only {g : Nat} {t : TypeId} {cs : Array Value} (hb : Blk w g t cs) (h : Only S w w') (hn : g ∉ S) : Blk w' g t cs := (h.block g hb.lt hn).trans hb
theorem VRow.only {A : Option Addr} {n s : Nat} {vs : List Value} (h : VRow w A n s vs) (ho : Only S w w') (hn : ∀ b, A.map (·.block) = some b → b ∉ S) : VRow w' A n s vs :=
  h.keep ho.size fun b hb hlt => ho.block b hlt (hn b hb)
theorem Only.grownBy {g : Nat} (h : Only [g] w w') : w.grownBy w' (some g) := ⟨h.os, h.tape, h.output, h.size, fun k hk hn => h.block k hk (by simpa using fun e => hn (by rw [e]))⟩
theorem own_only {base n s : Nat} {e : TypeId} {v : Value} {xs : List Value} (h : w.ownsRow base e s v n xs) (ho : Only S w w') (hn : ∀ g, v.ownBlock = some g → g ∉ S) : w'.ownsRow base e s v n xs := by
  refine ⟨h.1, ?_⟩
  rcases h.2 with hv | ⟨g, cap, cur, rfl, hb, hgg, rest⟩
  · exact .inl hv
  · refine .inr ⟨g, cap, cur, rfl, hb, ?_, rest⟩
    rw [ho.block g (Array.getElem?_eq_some_iff.1 hgg).1 (hn g rfl)]
    exact hgg
end
end Go.Proofs.Ytfhlcjfgbhmecaa
