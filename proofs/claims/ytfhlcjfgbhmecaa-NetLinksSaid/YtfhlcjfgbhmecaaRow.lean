/- A row of cells at the head of a block, with room behind it: what a slice of the program's own looks at. Over any program. -/
import Derived.Test.YtfhlcjfgbhmecaaFlat
import Derived.OneCell
namespace Go.Proofs.Ytfhlcjfgbhmecaa
open Go.RowKit
set_option linter.unusedVariables false

/-- The slice of n elements (s cells each) of type e at the head of block g holds xs; it has room for cap. -/
def Row (w : World) (g : Nat) (e : TypeId) (s n cap : Nat) (xs : List Value) : Prop := w.ownsRow 0 e s (.slice (some ⟨g, 0, none⟩) n cap) n xs
section
variable {w w' : World} {g : Nat} {e : TypeId} {s n cap : Nat} {xs : List Value} {S : List Nat}
theorem own_base {base base' : Nat} {v : Value} (h : w.ownsRow base e s v n xs) (hb : ∀ g, v.ownBlock = some g → base' ≤ g) : w.ownsRow base' e s v n xs := by
  refine ⟨h.1, ?_⟩
  rcases h.2 with hv | ⟨g, cap, cur, rfl, _, rest⟩
  · exact .inl hv
  · exact .inr ⟨g, cap, cur, rfl, hb g rfl, rest⟩
theorem Row.of_own {base : Nat} (h : w.ownsRow base e s (.slice (some ⟨g, 0, none⟩) n cap) n xs) : Row w g e s n cap xs := own_base h fun _ _ => Nat.zero_le _
theorem Row.own (h : Row w g e s n cap xs) {base : Nat} (hb : base ≤ g) : w.ownsRow base e s (.slice (some ⟨g, 0, none⟩) n cap) n xs := own_base h fun k hk => by
  simp [Value.ownBlock] at hk
  subst hk
  exact hb
theorem Row.len (h : Row w g e s n cap xs) : xs.length = n * s := h.1
theorem Row.lt (h : Row w g e s n cap xs) : g < w.heap.size := (World.ownsRow.lt h g rfl).2
theorem Row.parts (h : Row w g e s n cap xs) : ∃ cur, Blk w g e cur ∧ n ≤ cap ∧ cap ≤ maxLen ∧ cur.size = cap * s ∧ cur.toList.take (n * s) = xs := by
  rcases h.2 with ⟨h', _⟩ | ⟨g', cap', cur, h', _, hg, h1, h2, h3, h4⟩
  · simp at h'
  · simp only [Value.slice.injEq, Option.some.injEq, Addr.mk.injEq, and_true, true_and] at h'
    obtain ⟨rfl, rfl⟩ := h'
    exact ⟨cur, hg, h1, h2, h3, h4⟩
theorem Row.cap_le (h : Row w g e s n cap xs) : n ≤ cap := by
  obtain ⟨_, _, h1, _⟩ := h.parts
  exact h1
theorem Row.cap_max (h : Row w g e s n cap xs) : cap ≤ maxLen := by
  obtain ⟨_, _, _, h1, _⟩ := h.parts
  exact h1
theorem Row.cell (h : Row w g e s n cap xs) {j : Nat} {v : Value} (hv : xs[j]? = some v) : w.cell? ⟨g, j, none⟩ = some v := by
  have hj : j < n * s := by
    rw [← h.1]
    exact (List.getElem?_eq_some_iff.1 hv).1
  rw [World.ownsRow.cellAt h j hj, hv]
theorem Row.frozen (h : Row w g e s n cap xs) (j : Nat) : w.frozen? ⟨g, j, none⟩ = false := World.ownsRow.frozenAt h j
theorem Row.drew (h : Row w g e s n cap xs) : Row w.drew g e s n cap xs := h
theorem Row.drewN (h : Row w g e s n cap xs) (k : Nat) : Row (w.drewN k) g e s n cap xs := h
theorem Row.only (h : Row w g e s n cap xs) (ho : Only S w w') (hn : g ∉ S) : Row w' g e s n cap xs := own_only h ho fun k hk => by
  simp [Value.ownBlock] at hk
  subst hk
  exact hn
theorem Row.below (h : Row w g e s n cap xs) (hb : Below w.heap.size w w') : Row w' g e s n cap xs := h.only (Only.of_below (S := []) hb) (List.not_mem_nil)
theorem Row.alloc (h : Row w g e s n cap xs) (o : Obj) : Row (w.alloc o) g e s n cap xs := World.ownsRow.alloc h o
theorem Row.set_ (h : Row w g e s n cap xs) (j : Nat) (u : Value) : Row (w.setCell ⟨g, j, none⟩ u) g e s n cap (xs.set j u) := (World.ownsRow.stored h j u).1
theorem Row.far (h : Row w g e s n cap xs) {p : Addr} (hp : g ≠ p.block) (u : Value) : Row (w.setCell p u) g e s n cap xs := ownsRow_setCell_other h (fun e => hp (Option.some.inj e)) u
theorem Row.of_blk {cs : Array Value} (h : Blk w g e cs) (hs : cs.size = n * s) (hm : n ≤ maxLen) : Row w g e s n n cs.toList :=
  ⟨by simpa using hs, .inr ⟨g, n, cs, rfl, Nat.zero_le _, h, Nat.le_refl _, hm, hs, List.take_of_length_le (by rw [← hs]; exact Nat.le_of_eq Array.length_toList)⟩⟩
theorem Row.ne (h : Row w g e s n cap xs) {g' : Nat} {t : TypeId} {cs : Array Value} (h' : Blk w g' t cs) (hne : e ≠ t) : g ≠ g' := by
  obtain ⟨cur, hb, _⟩ := h.parts
  exact hb.ne_ h' hne
theorem Row.news (h : Row w g e s n cap xs) : ∀ j u, xs[j]? = some u → w.cell? ((⟨g, 0, none⟩ : Addr).add j) = some u := by
  intro j u hu
  have e : ((⟨g, 0, none⟩ : Addr).add j) = ⟨g, j, none⟩ := by
    unfold Addr.add
    by_cases hj : j = 0
    · subst hj; simp
    · simp [hj]
  rw [e]
  exact h.cell hu
end
end Go.Proofs.Ytfhlcjfgbhmecaa
