/- Slices of entries and requests out of flat slices. -/
import Derived.Test.YtfhlcjfgbhmecaaLedgerP
import Derived.Test.YtfhlcjfgbhmecaaTake
namespace Go.Proofs.Ytfhlcjfgbhmecaa
open Go.RowKit
set_option linter.unusedVariables false

def entOf (g : Nat → Int) (i : Nat) : Ent := ((g (i * 7), g (i * 7 + 1), g (i * 7 + 2), g (i * 7 + 3), g (i * 7 + 4), g (i * 7 + 5)), g (i * 7 + 6))
theorem flat_row {α : Type} {w : World} {a : Option Addr} {n s : Nat} {g : Nat → Int} (h : Flat w a n s g) (f : α → List Value) (hs : ∀ x, (f x).length = s) (hp : 0 < s) (F : Nat → α) (hF : ∀ i r v, r < s → (f (F i))[r]? = some v → v = .int .i64 (g (i * s + r))) :
    VRow w a n s (((List.range n).map F).flatMap f) := by
  refine ⟨by rw [flat_len f s hs]; simp, fun hn => ?_⟩
  obtain ⟨b, off, rfl, hlt, hc⟩ := h.2 hn
  refine ⟨b, off, rfl, hlt, fun j v hv => ?_⟩
  have hd : j = j / s * s + j % s := by rw [Nat.mul_comm]; exact (Nat.div_add_mod j s).symm
  rw [hd, flat_get f s hs _ _ _ (Nat.mod_lt _ hp)] at hv
  by_cases hk : j / s < n
  · rw [List.getElem?_map, List.getElem?_range hk] at hv
    have e := hF (j / s) (j % s) v (Nat.mod_lt _ hp) hv
    rw [← hd] at e
    rw [e]
    refine hc j ?_
    rw [hd]
    have := Nat.mod_lt j hp
    calc j / s * s + j % s < j / s * s + s := by omega
      _ = (j / s + 1) * s := by rw [Nat.add_mul, Nat.one_mul]
      _ ≤ n * s := Nat.mul_le_mul_right s hk
  · rw [List.getElem?_eq_none (by simp; omega)] at hv
    cases hv
theorem flat_ents {w : World} {a : Option Addr} {n : Nat} {g : Nat → Int} (h : Flat w a n 7 g) : ∃ E : List Ent, E.length = n ∧ VRow w a n 7 (E.flatMap ecell) ∧ ∀ e ∈ E, I64 e.2 := by
  refine ⟨(List.range n).map (entOf g), by simp, flat_row h ecell ecell_len (by omega) (entOf g) (fun i r v hr hv => ?_), fun e he => ?_⟩
  · rcases (show r = 0 ∨ r = 1 ∨ r = 2 ∨ r = 3 ∨ r = 4 ∨ r = 5 ∨ r = 6 by omega) with rfl | rfl | rfl | rfl | rfl | rfl | rfl <;> exact (Option.some.inj hv).symm
  · obtain ⟨i, _, rfl⟩ := List.mem_map.1 he
    exact h.1 _
theorem size_entry (w : World) : (sizeOf 38).run Try.prog w = .ok 7 w := by
  obtain ⟨j0, hj0, hy0, hy1, hy2⟩ := info_parts info_entry
  simp [sizeOf, typeInfo, hj0, hy1]
theorem iff_bool (p : Prop) : ∃ b : Bool, b = true ↔ p := by
  by_cases h : p
  · exact ⟨true, by simp [h]⟩
  · exact ⟨false, by simp [h]⟩
end Go.Proofs.Ytfhlcjfgbhmecaa
