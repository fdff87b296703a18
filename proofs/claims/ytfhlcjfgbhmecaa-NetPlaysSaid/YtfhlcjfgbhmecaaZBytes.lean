/- Bytes. -/
import Derived.Test.YtfhlcjfgbhmecaaZDeep
import Derived.Test.YtfhlcjfgbhmecaaZOnly
/- Arguments opened: slices of bytes; slices of structs of k integers and a slice of bytes behind them. Over any program. -/
namespace Go.Proofs.Ytfhlcjfgbhmecaa
open Go.ChangeShapes Go.WideShapes Go.ChangeAt Go.RowKit Go.Deep
set_option linter.unusedVariables false

/-- Bytes that came in: where they lie, the capacity, what they are. -/
structure Byt where
  a : Option Addr
  c : Nat
  xs : List Int
structure Byt.Is (w : World) (R : Byt) : Prop where
  cap : R.xs.length ≤ R.c
  max : R.c ≤ maxLen
  row : VRow w R.a R.xs.length 1 (R.xs.map (Value.int .u8))
  byte : ∀ x ∈ R.xs, 0 ≤ x ∧ x ≤ 255
theorem Byt.Is.below {w w' : World} {R : Byt} (h : R.Is w) (hb : Below w.heap.size w w') : R.Is w' := ⟨h.cap, h.max, h.row.below hb, h.byte⟩
def byteIn (v : Option Value) : Int := match v with | some (.int .u8 z) => z | _ => 0
theorem byte_of_wf {n : Int} (h : (Lit.int .u8 n).wf = true) : 0 ≤ n ∧ n ≤ 255 := by
  simp [Lit.wf, IntKind.min, IntKind.max, IntKind.signed, IntKind.bits] at h
  exact ⟨by omega, by omega⟩
section
variable {H : Type} {enc : TypeId × Value → H} {P : Program} {w : World} {base : Nat} {spare : Nat → Bool} {held : Bool}
theorem bytes_of_trod {t e : TypeId} {a0 : Option Addr} {n c fuel : Nat} {x : DataW H × List MemPlace} (ht : P.underlying t = some (.slice e)) (he : P.underlying e = some (.int .u8)) (hC : P.cellsOf e = 1)
    (hf : DataW.trod enc P w base (fun _ => true) held fuel t [.slice a0 n c] = some x) : ∃ xs : List Int, xs.length = n ∧ Byt.Is w ⟨a0, c, xs⟩ := by
  rcases Go.Deep.open_slice ht hf with ⟨hcs, _⟩ | ⟨a, len, cap, m, nn, D, Pl, hcs, _, hl, hm, hmm, _, hi⟩
  · simp only [List.cons.injEq, and_true] at hcs
    injection hcs with h1 h2 h3
    subst h1
    subst h2
    subst h3
    exact ⟨[], rfl, by simp, by simp [maxLen], VRow.nil _ _ _, by simp⟩
  · simp only [List.cons.injEq, and_true] at hcs
    injection hcs with h1 h2 h3
    subst h1
    subst h2
    subst h3
    have hmc : m = c := by simpa using hmm
    subst hmc
    have key : ∀ i, i < n → ∃ z : Int, w.cell? (a.add i) = some (.int .u8 z) ∧ (0 ≤ z ∧ z ≤ 255) := by
      intro i hin
      obtain ⟨cs', hc, hy⟩ := hi i (by omega)
      rw [hC] at hc
      obtain ⟨_, hlen, hat⟩ := World.cells?_some hc
      have h0 := hat 0 (by omega)
      rw [Nat.mul_one] at h0
      obtain ⟨v, rfl⟩ : ∃ v, cs' = [v] := by
        match cs', hlen with
        | [v], _ => exact ⟨v, rfl⟩
      have hcell : w.cell? (a.add i) = some v := by rw [Go.Deep.add_add] at h0; simpa using h0
      obtain ⟨z, hz, _, hw⟩ := DataW.trod_int he hy
      simp only [List.cons.injEq, and_true] at hz
      subst hz
      exact ⟨z, hcell, byte_of_wf hw⟩
    refine ⟨(List.range n).map fun i => byteIn (w.cell? (a.add i)), by simp, by simpa using hl, hm, ⟨by simp, fun hn => ?_⟩, ?_⟩
    · have hn' : 0 < n := by simpa using hn
      obtain ⟨z, hz, _⟩ := key 0 hn'
      obtain ⟨b, off, spot⟩ := a
      have hspot : spot = none := by simpa [Addr.add] using World.cell?_spot hz
      subst hspot
      refine ⟨b, off, rfl, by simpa [Addr.add] using lt_of_cell hz, fun i v hv => ?_⟩
      simp only [List.map_map, List.getElem?_map, Option.map_eq_some_iff] at hv
      obtain ⟨j, hj, rfl⟩ := hv
      obtain ⟨hjn, hj2⟩ := List.getElem?_eq_some_iff.1 hj
      have hji : i = j := by simpa using hj2
      subst hji
      obtain ⟨z, hz, _⟩ := key i (by simpa using hjn)
      rw [← addr_add, hz]
      simp [hz, byteIn]
    · intro x hx
      simp only [List.mem_map, List.mem_range] at hx
      obtain ⟨i, hi', rfl⟩ := hx
      obtain ⟨z, hz, hw⟩ := key i hi'
      rw [hz]
      exact hw
theorem open_bytes {t e : TypeId} {v : Value} {r : Reach} {b0 : Nat} {d : DataW H} {p : List MemPlace} (ht : P.underlying t = some (.slice e)) (he : P.underlying e = some (.int .u8)) (hC : P.cellsOf e = 1)
    (hv : Value.okWide P w r b0 t v) (h : DataW.Trod enc P w base (fun _ => true) held t v d p) : ∃ R : Byt, v = .slice R.a R.xs.length R.c ∧ R.Is w := by
  obtain ⟨a0, n, c, rfl⟩ := okWide_slice ht hv
  obtain ⟨fuel, hf⟩ := h
  obtain ⟨xs, hn, hR⟩ := bytes_of_trod ht he hC hf
  exact ⟨⟨a0, c, xs⟩, by rw [hn], hR⟩

/-- A slice of structs of k integers and a slice of bytes behind them. -/
structure ActsB (w : World) (a : Option Addr) (n k : Nat) (g : Nat → Nat → Int) (R : Nat → Byt) : Prop where
  int : ∀ i j, I64 (g i j)
  row : 0 < n → ∃ b off, a = some ⟨b, off, none⟩ ∧ b < w.heap.size ∧ ∀ i, i < n → (∀ j, j < k → w.cell? ⟨b, off + i * (k + 1) + j, none⟩ = some (.int .i64 (g i j))) ∧ w.cell? ⟨b, off + i * (k + 1) + k, none⟩ = some (.slice (R i).a (R i).xs.length (R i).c) ∧ (R i).Is w
theorem ActsB.below {w w' : World} {a : Option Addr} {n k : Nat} {g : Nat → Nat → Int} {R : Nat → Byt} (h : ActsB w a n k g R) (hb : Below w.heap.size w w') : ActsB w' a n k g R :=
  ⟨h.int, fun hn => by
    obtain ⟨b, off, e, hlt, hc⟩ := h.row hn
    refine ⟨b, off, e, Nat.lt_of_lt_of_le hlt hb.size, fun i hi => ⟨fun j hj => ?_, ?_, (hc i hi).2.2.below hb⟩⟩
    · rw [hb.cell (p := ⟨b, off + i * (k + 1) + j, none⟩) hlt]; exact (hc i hi).1 j hj
    · rw [hb.cell (p := ⟨b, off + i * (k + 1) + k, none⟩) hlt]; exact (hc i hi).2.1⟩

theorem open_acts {t e f l : TypeId} {fs : Array Field} {k : Nat} {v : Value} {r : Reach} {b0 : Nat} {d : DataW H} {p : List MemPlace} (ht : P.underlying t = some (.slice e)) (he : P.underlying e = some (.struct fs))
    (hone : oneCellFields P fs = true) (hC : P.cellsOf e = fs.size) (hk : fs.size = k + 1) (hint : (fs.toList.take k).all (intField P) = true) (hf : fs[k]?.map (·.type) = some f) (hfs : P.underlying f = some (.slice l)) (hl : P.underlying l = some (.int .u8)) (hlc : P.cellsOf l = 1)
    (hv : Value.okWide P w r b0 t v) (h : DataW.Trod enc P w base (fun _ => true) held t v d p) : ∃ a n c g R, v = .slice a n c ∧ n ≤ c ∧ c ≤ maxLen ∧ ActsB w a n k g R := by
  obtain ⟨a0, n, c, rfl⟩ := okWide_slice ht hv
  obtain ⟨fuel, hf'⟩ := h
  rcases open_slice_fields ht he hone hC hf' with ⟨hcs, _⟩ | ⟨a, len, cap, m, D, Pl, hcs, _, hl1, hm, hmm, _, hi⟩
  · simp [Value.cells] at hcs
    obtain ⟨rfl, rfl, rfl⟩ := hcs
    exact ⟨none, 0, 0, fun _ _ => 0, fun _ => ⟨none, 0, []⟩, rfl, by omega, by simp [maxLen], fun _ _ => I64.zero, fun h => absurd h (by omega)⟩
  · simp [Value.cells] at hcs
    obtain ⟨rfl, rfl, rfl⟩ := hcs
    have hmc : m = c := by simpa using hmm
    subst hmc
    obtain ⟨fk, hfk, rfl⟩ := Option.map_eq_some_iff.1 hf
    have keyI : ∀ i j, i < n → j < k → ∃ z : Int, w.cell? (a.add (i * (k + 1) + j)) = some (.int .i64 z) ∧ I64 z := by
      intro i j hin hj
      obtain ⟨ys, nn, _, _, _, hjj⟩ := hi i (by omega)
      have hjs : j < fs.size := by omega
      obtain ⟨v, y, hc, _, hy⟩ := hjj j _ (Array.getElem?_eq_getElem hjs)
      have hmem : fs[j] ∈ fs.toList.take k := by
        rw [List.mem_iff_getElem]
        exact ⟨j, by simp; omega, by simp⟩
      have hty : P.underlying fs[j].type = some (.int .i64) := intField_ty (List.all_eq_true.1 hint fs[j] hmem)
      obtain ⟨z, hz, _, hw⟩ := DataW.trod_int hty hy
      simp only [List.cons.injEq, and_true] at hz
      subst hz
      rw [hk] at hc
      exact ⟨z, hc, I64.of_wf hw⟩
    have keyB : ∀ i, i < n → ∃ R : Byt, w.cell? (a.add (i * (k + 1) + k)) = some (.slice R.a R.xs.length R.c) ∧ R.Is w := by
      intro i hin
      obtain ⟨ys, nn, _, _, _, hjj⟩ := hi i (by omega)
      obtain ⟨v, y, hc, _, hy⟩ := hjj k _ hfk
      rw [hk] at hc
      rcases DataW.trod_slice hfs hy with ⟨hv, _⟩ | ⟨a', len', cap', _, _, _, _, hv, _⟩
      · simp only [List.cons.injEq, and_true] at hv
        subst hv
        obtain ⟨xs, hx, hR⟩ := bytes_of_trod hfs hl hlc hy
        obtain rfl : xs = [] := List.eq_nil_of_length_eq_zero hx
        exact ⟨_, hc, hR⟩
      · simp only [List.cons.injEq, and_true] at hv
        subst hv
        obtain ⟨xs, hx, hR⟩ := bytes_of_trod hfs hl hlc hy
        exact ⟨⟨some a', cap', xs⟩, by rw [hc, hx], hR⟩
    refine ⟨some a, n, m, fun i j => if i < n ∧ j < k then intIn (w.cell? (a.add (i * (k + 1) + j))) else 0, fun i => if h : i < n then Classical.choose (keyB i h) else ⟨none, 0, []⟩, rfl, hl1, hm, ?_, fun hn => ?_⟩
    · intro i j
      by_cases hij : i < n ∧ j < k
      · obtain ⟨z, hz, hw⟩ := keyI i j hij.1 hij.2
        simp only [if_pos hij, hz, intIn]
        exact hw
      · simp only [if_neg hij]
        exact I64.zero
    · obtain ⟨R0, hR0, _⟩ := keyB 0 hn
      obtain ⟨b, off, spot⟩ := a
      have hspot : spot = none := by
        by_cases hk0 : k = 0
        · subst hk0
          simpa [Addr.add] using World.cell?_spot hR0
        · obtain ⟨z, hz, _⟩ := keyI 0 0 hn (by omega)
          simpa [Addr.add] using World.cell?_spot hz
      subst hspot
      refine ⟨b, off, rfl, by have := lt_of_cell hR0; rw [addr_add] at this; exact this, fun i hin => ⟨fun j hj => ?_, ?_, ?_⟩⟩
      · obtain ⟨z, hz, _⟩ := keyI i j hin hj
        rw [if_pos ⟨hin, hj⟩, hz, Nat.add_assoc, ← addr_add, hz]
        rfl
      · simp only [dif_pos hin]
        exact (congrArg w.cell? (show (⟨b, off + i * (k + 1) + k, none⟩ : Addr) = (⟨b, off, none⟩ : Addr).add (i * (k + 1) + k) by rw [addr_add, ← Nat.add_assoc])).trans (Classical.choose_spec (keyB i hin)).1
      · simp only [dif_pos hin]
        exact (Classical.choose_spec (keyB i hin)).2
end
end Go.Proofs.Ytfhlcjfgbhmecaa
