/- Open. -/
import Derived.Test.YtfhlcjfgbhmecaaZFrame
import Derived.Test.YtfhlcjfgbhmecaaZOnly
import Derived.Deep.Slices
import Derived.Deep.Fields
import Derived.ChangeSame
/- Arguments opened: structs of integers by value, slices of integers, slices of structs of integers. Over any program. -/
namespace Go.Proofs.Ytfhlcjfgbhmecaa
open Go.ChangeShapes Go.WideShapes Go.ChangeAt Go.RowKit Go.Deep
set_option linter.unusedVariables false
section
variable {H : Type} {enc : TypeId × Value → H} {P : Program} {w : World} {base : Nat} {spare : Nat → Bool} {held : Bool}

/-- It fits an int. -/
def I64 (n : Int) : Prop := -9223372036854775808 ≤ n ∧ n ≤ 9223372036854775807
theorem I64.of_wf {n : Int} (h : (Lit.int .i64 n).wf = true) : I64 n := by
  simp [Lit.wf, IntKind.min, IntKind.max, IntKind.signed, IntKind.bits] at h
  exact ⟨by omega, by omega⟩
theorem I64.zero : I64 0 := by unfold I64; omega

/-- A field that is an int. -/
def intField (P : Program) (f : Field) : Bool := match P.underlying f.type with | some (.int .i64) => true | _ => false
theorem intField_ty {P : Program} {f : Field} (h : intField P f = true) : P.underlying f.type = some (.int .i64) := by
  unfold intField at h
  split at h
  · assumption
  · cases h
def intIn (v : Option Value) : Int := match v with | some (.int .i64 z) => z | _ => 0

theorem open_int_struct {r : Reach} {b0 : Nat} {t : TypeId} {fs : Array Field} {v : Value} {d : DataW H} {p : List MemPlace} (hs : P.underlying t = some (.struct fs)) (hone : oneCellFields P fs = true) (hC : P.cellsOf t = fs.size)
    (hint : fs.toList.all (intField P) = true) (hv : Value.okWide P w r b0 t v) (h : DataW.Trod enc P w base spare held t v d p) :
    ∃ zs : List Int, zs.length = fs.size ∧ v = .agg (zs.map (Value.int .i64)).toArray ∧ ∀ z ∈ zs, I64 z := by
  obtain ⟨cs, rfl, hsz⟩ := okWide_struct hs hv
  rw [hC] at hsz
  obtain ⟨fuel, hf⟩ := h
  obtain ⟨xs, n, _, _, _, hlen, hg⟩ := DataW.trod_struct hs hf
  have key : ∀ j, j < fs.size → ∃ z : Int, cs[j]? = some (.int .i64 z) ∧ I64 z := by
    intro j hj
    have hfj : fs[j]? = some fs[j] := Array.getElem?_eq_getElem hj
    obtain ⟨o0, k0⟩ := hone_of hone j _ hfj
    have hgj := hg j _ hfj
    have ht : P.underlying fs[j].type = some (.int .i64) := intField_ty (List.all_eq_true.1 hint fs[j] (by simp))
    rw [o0, k0] at hgj
    obtain ⟨z, hz, _, hw⟩ := DataW.trod_int ht (hgj.trans (List.getElem?_eq_getElem (by omega)))
    refine ⟨z, ?_, I64.of_wf hw⟩
    have : ((Value.agg cs).cells.toList.drop j).take 1 = [cs[j]'(by omega)] := by
      have e : (Value.agg cs).cells.toList = cs.toList := rfl
      rw [e, List.drop_eq_getElem_cons (by simp; omega)]
      simp
    rw [this] at hz
    simp only [List.cons.injEq, and_true] at hz
    rw [Array.getElem?_eq_getElem (by omega), hz]
  refine ⟨(List.range fs.size).map fun j => intIn cs[j]?, by simp, ?_, ?_⟩
  · congr 1
    apply Array.ext_getElem?
    intro j
    by_cases hj : j < fs.size
    · obtain ⟨z, hz, _⟩ := key j hj
      simp [hz, List.getElem?_range hj, intIn]
    · rw [Array.getElem?_eq_none (by omega)]
      simp [List.getElem?_eq_none (show (List.range fs.size).length ≤ j by simp; omega)]
  · intro z hz
    simp only [List.mem_map, List.mem_range] at hz
    obtain ⟨j, hj, rfl⟩ := hz
    obtain ⟨z, hz, hw⟩ := key j hj
    rw [hz]
    exact hw

theorem open_slice_fields {t e : TypeId} {fs : Array Field} {fuel : Nat} {cs : List Value} {x : DataW H × List MemPlace} (ht : P.underlying t = some (.slice e)) (he : P.underlying e = some (.struct fs))
    (hone : oneCellFields P fs = true) (hC : P.cellsOf e = fs.size) (h : DataW.trod enc P w base spare held fuel t cs = some x) :
    (cs = [.slice none 0 0] ∧ x = (.nil, [])) ∨
    ∃ (a : Addr) (len cap m : Nat) (D : Nat → DataW H) (Pl : Nat → List MemPlace), cs = [.slice (some a) len cap] ∧ base ≤ a.block ∧ len ≤ cap ∧ cap ≤ maxLen ∧ m = (if spare a.block then cap else len) ∧
      x = (.slice ((List.range len).map D) ((List.range (m - len)).map fun j => D (len + j)), MemPlace.row a (m * fs.size) ++ (List.range m).flatMap Pl) ∧
      ∀ i, i < m → ∃ (ys : List (DataW H × List MemPlace)) (n : Nat), D i = .agg (ys.map (·.1)) ∧ Pl i = ys.flatMap (·.2) ∧ ys.length = fs.size ∧
        ∀ (j : Nat) (f : Field), fs[j]? = some f → ∃ (v : Value) (y : DataW H × List MemPlace), w.cell? (a.add (i * fs.size + j)) = some v ∧ ys[j]? = some y ∧ DataW.trod enc P w base spare held n f.type [v] = some y := by
  rcases open_slice ht h with h0 | ⟨a, len, cap, m, n, D, Pl, hcs, hb, hl, hm, hmm, hx, hi⟩
  · exact .inl h0
  · refine .inr ⟨a, len, cap, m, D, Pl, hcs, hb, hl, hm, hmm, by rw [hC] at hx; exact hx, fun i him => ?_⟩
    obtain ⟨cs', hc, ht'⟩ := hi i him
    rw [hC] at hc
    obtain ⟨ys, n', hn', hy, hlen, hyl, hf⟩ := DataW.trod_struct he ht'
    obtain ⟨_, hcl, hat⟩ := World.cells?_some hc
    simp only [Prod.mk.injEq] at hy
    refine ⟨ys, n', hy.1, hy.2, hyl, fun j f hj => ?_⟩
    obtain ⟨ho, hk⟩ := hone_of hone j f hj
    have hjl : j < fs.size := (Array.getElem?_eq_some_iff.1 hj).1
    have hcell := hat j hjl
    have hv : cs'[j]? = some (cs'[j]'(by omega)) := List.getElem?_eq_getElem (by omega)
    have h1 := hf j f hj
    rw [ho, hk] at h1
    have hone' : (cs'.drop j).take 1 = [cs'[j]'(by omega)] := by
      rw [List.drop_eq_getElem_cons (by omega)]
      rfl
    rw [hone'] at h1
    have hys : ys[j]? = some (ys[j]'(by omega)) := List.getElem?_eq_getElem (by omega)
    refine ⟨_, _, ?_, hys, h1.trans hys⟩
    rw [← Go.Deep.add_add, hcell, hv]

theorem addr_add (b off : Nat) (k : Nat) : (⟨b, off, none⟩ : Addr).add k = ⟨b, off + k, none⟩ := by
  unfold Addr.add
  by_cases h : k = 0
  · subst h; simp
  · simp [h]

/-- A slice of structs of k integers each: its cells, one behind the other, hold what g says. -/
def Flat (w : World) (a : Option Addr) (n k : Nat) (g : Nat → Int) : Prop :=
  (∀ i, I64 (g i)) ∧ (0 < n → ∃ b off, a = some ⟨b, off, none⟩ ∧ b < w.heap.size ∧ ∀ i, i < n * k → w.cell? ⟨b, off + i, none⟩ = some (.int .i64 (g i)))
theorem Flat.below {w w' : World} {a : Option Addr} {n k : Nat} {g : Nat → Int} (h : Flat w a n k g) (hb : Below w.heap.size w w') : Flat w' a n k g :=
  ⟨h.1, fun hn => by
    obtain ⟨b, off, e, hlt, hc⟩ := h.2 hn
    exact ⟨b, off, e, Nat.lt_of_lt_of_le hlt hb.size, fun i hi => (hb.cell (p := ⟨b, off + i, none⟩) hlt).trans (hc i hi)⟩⟩

theorem lt_of_cell {w : World} {p : Addr} {v : Value} (h : w.cell? p = some v) : p.block < w.heap.size := by
  rcases Nat.lt_or_ge p.block w.heap.size with hlt | hge
  · exact hlt
  · have : w.heap[p.block]? = none := Array.getElem?_eq_none hge
    simp [World.cell?, this] at h

theorem open_flat {t e : TypeId} {fs : Array Field} {v : Value} {r : Reach} {b0 : Nat} {d : DataW H} {p : List MemPlace} (ht : P.underlying t = some (.slice e)) (he : P.underlying e = some (.struct fs))
    (hone : oneCellFields P fs = true) (hC : P.cellsOf e = fs.size) (hpos : 0 < fs.size) (hint : fs.toList.all (intField P) = true)
    (hv : Value.okWide P w r b0 t v) (h : DataW.Trod enc P w base (fun _ => true) held t v d p) :
    ∃ a n c g, v = .slice a n c ∧ n ≤ c ∧ c ≤ maxLen ∧ Flat w a n fs.size g := by
  obtain ⟨a0, n, c, rfl⟩ := okWide_slice ht hv
  obtain ⟨fuel, hf⟩ := h
  rcases open_slice_fields ht he hone hC hf with ⟨hcs, _⟩ | ⟨a, len, cap, m, D, Pl, hcs, _, hl, hm, hmm, _, hi⟩
  · simp [Value.cells] at hcs
    obtain ⟨rfl, rfl, rfl⟩ := hcs
    exact ⟨none, 0, 0, fun _ => 0, rfl, by omega, by simp [maxLen], fun _ => I64.zero, fun h => absurd h (by omega)⟩
  · simp [Value.cells] at hcs
    obtain ⟨rfl, rfl, rfl⟩ := hcs
    have hmc : m = c := by simpa using hmm
    subst hmc
    have key : ∀ i, i < n * fs.size → ∃ z : Int, w.cell? (a.add i) = some (.int .i64 z) ∧ I64 z := by
      intro i hin
      have h1 : i / fs.size < n := (Nat.div_lt_iff_lt_mul hpos).2 hin
      have h2 : i % fs.size < fs.size := Nat.mod_lt _ hpos
      obtain ⟨ys, nn, _, _, _, hj⟩ := hi (i / fs.size) (by omega)
      obtain ⟨v, y, hc, _, hy⟩ := hj (i % fs.size) _ (Array.getElem?_eq_getElem h2)
      have hty : P.underlying fs[i % fs.size].type = some (.int .i64) := intField_ty (List.all_eq_true.1 hint fs[i % fs.size] (by simp))
      obtain ⟨z, hz, _, hw⟩ := DataW.trod_int hty hy
      simp only [List.cons.injEq, and_true] at hz
      subst hz
      have e : i / fs.size * fs.size + i % fs.size = i := by rw [Nat.mul_comm]; exact Nat.div_add_mod i fs.size
      rw [e] at hc
      exact ⟨z, hc, I64.of_wf hw⟩
    refine ⟨some a, n, m, fun i => if i < n * fs.size then intIn (w.cell? (a.add i)) else 0, rfl, hl, hm, ?_, ?_⟩
    · intro i
      by_cases hin : i < n * fs.size
      · obtain ⟨z, hz, hw⟩ := key i hin
        simp only [if_pos hin, hz, intIn]
        exact hw
      · simp only [if_neg hin]
        exact I64.zero
    · intro hn
      have h0 : 0 < n * fs.size := Nat.mul_pos hn hpos
      obtain ⟨z, hz, _⟩ := key 0 h0
      obtain ⟨b, off, spot⟩ := a
      have hspot : spot = none := by simpa [Addr.add] using World.cell?_spot hz
      subst hspot
      refine ⟨b, off, rfl, by simpa [Addr.add] using lt_of_cell hz, fun i hin => ?_⟩
      obtain ⟨z, hz, _⟩ := key i hin
      simp only [if_pos hin, hz, intIn]
      rw [← hz, addr_add]

theorem open_int_slice {t e : TypeId} {v : Value} {r : Reach} {b0 : Nat} {d : DataW H} {p : List MemPlace} (ht : P.underlying t = some (.slice e)) (he : P.underlying e = some (.int .i64)) (hC : P.cellsOf e = 1)
    (hv : Value.okWide P w r b0 t v) (h : DataW.Trod enc P w base (fun _ => true) held t v d p) :
    ∃ a n c xs, v = .slice a n c ∧ n ≤ c ∧ c ≤ maxLen ∧ IntRow w a n xs ∧ ∀ x ∈ xs, I64 x := by
  obtain ⟨a0, n, c, rfl⟩ := okWide_slice ht hv
  obtain ⟨fuel, hf⟩ := h
  rcases open_ints ht he hC hf with ⟨hcs, _⟩ | ⟨a, len, cap, zs, hcs, _, hl, hm, hz, _, hcell, hwz⟩
  · simp [Value.cells] at hcs
    obtain ⟨rfl, rfl, rfl⟩ := hcs
    exact ⟨none, 0, 0, [], rfl, by omega, by simp [maxLen], ⟨rfl, fun h => absurd h (by omega)⟩, by simp⟩
  · simp [Value.cells] at hcs
    obtain ⟨rfl, rfl, rfl⟩ := hcs
    have hz' : zs.length = c := by simpa using hz
    refine ⟨some a, n, c, zs.take n, rfl, hl, hm, ⟨by simp; omega, fun hn => ?_⟩, fun x hx => I64.of_wf (hwz x (List.mem_of_mem_take hx))⟩
    have h0 := hcell 0 (by omega)
    obtain ⟨b, off, spot⟩ := a
    have hspot : spot = none := by simpa [Addr.add] using World.cell?_spot h0
    subst hspot
    refine ⟨b, off, rfl, by simpa [Addr.add] using lt_of_cell h0, fun i hin => ?_⟩
    have := hcell i (by omega)
    rw [addr_add] at this
    rw [this]
    simp [List.getD, hin]
end
end Go.Proofs.Ytfhlcjfgbhmecaa
