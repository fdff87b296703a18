/- x[:k], in whatever world. Over any program. -/
import Derived.Test.YtfhlcjfgbhmecaaVRow
import Derived.Test.YtfhlcjfgbhmecaaOpen
import Derived.Laws.Build
import Derived.OwnWalk
namespace Go.Proofs.Ytfhlcjfgbhmecaa
open Go.RowKit
set_option linter.unusedVariables false

theorem to_any {P : Program} (T E s : Nat) (hT : P.underlying T = some (.slice E)) (hE : P.elem T = E) (hs : ∀ w : World, (sizeOf E).run P w = .ok s w) (a : Option Addr) (n c k : Nat) (hk : k ≤ n) (hn : n ≤ c) (w : World) :
    (Instr.slice T (.slice a n c) none (some (.int .i64 k)) none).run P w = .ok (.slice a k c) w := by
  have h := run_slice_h (P := P) (w := w) T a n c (by rw [hE]; exact hT) .i64 k (by omega) (by omega)
  rw [h, hE, hs w]
  show Result.ok (sliced a 0 ((k : Int).toNat) c s) w = _
  rw [Int.toNat_natCast]
  have e : a.map (·.add (0 * s)) = a := by
    cases a with
    | none => rfl
    | some p => simp [Addr.add]
  simp only [sliced, e, Nat.sub_zero]
  split <;> rfl
theorem VRow.take {w : World} {a : Option Addr} {n s : Nat} {vs : List Value} (h : VRow w a n s vs) {k : Nat} (hk : k ≤ n) : VRow w a k s (vs.take (k * s)) :=
  ⟨by rw [List.length_take, h.1]; exact Nat.min_eq_left (Nat.mul_le_mul_right s hk), fun h0 => by
    obtain ⟨b, off, rfl, hlt, hc⟩ := h.2 (by omega)
    exact ⟨b, off, rfl, hlt, fun i v hv => hc i v (by
      rw [List.getElem?_take] at hv
      split at hv
      · exact hv
      · cases hv)⟩⟩
theorem flat_take {α β : Type} (f : α → List β) (s : Nat) (hs : ∀ x, (f x).length = s) : ∀ (st : List α) (k : Nat), (st.flatMap f).take (k * s) = (st.take k).flatMap f
  | [], k => by simp
  | x :: xs, 0 => by simp
  | x :: xs, k + 1 => by
    rw [List.flatMap_cons, List.take_succ_cons, List.flatMap_cons, List.take_append, hs, List.take_of_length_le (by rw [hs, Nat.add_mul]; omega)]
    congr 1
    rw [← flat_take f s hs xs k]
    congr 1
    rw [Nat.add_mul]
    omega
end Go.Proofs.Ytfhlcjfgbhmecaa
