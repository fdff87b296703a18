/- The contract of the reference's Of: a configuration by its numbers. -/
import Derived.Test.YtiacklfigpobnaaProg
import Derived.Test.YtiacklfigpobnaaLater
namespace Go.Proofs.Ytiacklfigpobnaa.Cfg
open Go.RowKit
set_option linter.unusedVariables false
/-- The first fifteen numbers, those that lack being 0; the first k of them are there. -/
def upTo (xs : List Int) (k : Nat) : Array Value := ((List.range 15).map fun i => Value.int .i64 (if i < k then xs.getD i 0 else 0)).toArray
theorem upTo_size (xs : List Int) (k : Nat) : (upTo xs k).size = 15 := by simp [upTo]
theorem upTo_get (xs : List Int) (k i : Nat) (h : i < 15) : (upTo xs k)[i]? = some (.int .i64 (if i < k then xs.getD i 0 else 0)) := by
  simp [upTo, List.getElem?_range h]
theorem upTo_set (xs : List Int) (k : Nat) (hk : k < 15) : (upTo xs k).setIfInBounds k (.int .i64 (xs.getD k 0)) = upTo xs (k + 1) := by
  apply Array.ext_getElem?
  intro i
  rw [Array.getElem?_setIfInBounds, upTo_size]
  by_cases hi : i < 15
  · rw [upTo_get _ _ _ hi, upTo_get _ _ _ hi]
    by_cases e : k = i
    · subst e; rw [if_pos rfl, if_pos hk, if_pos (by omega)]
    · rw [if_neg e]
      by_cases h1 : i < k
      · rw [if_pos h1, if_pos (by omega)]
      · rw [if_neg h1, if_neg (by omega)]
  · have h1 : (upTo xs k)[i]? = none := Array.getElem?_eq_none (by rw [upTo_size]; omega)
    have h2 : (upTo xs (k+1))[i]? = none := Array.getElem?_eq_none (by rw [upTo_size]; omega)
    rw [if_neg (by omega), h1, h2]
theorem upTo_zero (xs : List Int) : upTo xs 0 = #[.int .i64 0, .int .i64 0, .int .i64 0, .int .i64 0, .int .i64 0, .int .i64 0, .int .i64 0, .int .i64 0, .int .i64 0, .int .i64 0, .int .i64 0, .int .i64 0, .int .i64 0, .int .i64 0, .int .i64 0] := by simp [upTo, List.range, List.range.loop]
theorem upTo_full (xs : List Int) (k : Nat) (h : 15 ≤ k ∨ xs.length ≤ k) : upTo xs k = #[.int .i64 (xs.getD 0 0), .int .i64 (xs.getD 1 0), .int .i64 (xs.getD 2 0), .int .i64 (xs.getD 3 0), .int .i64 (xs.getD 4 0), .int .i64 (xs.getD 5 0), .int .i64 (xs.getD 6 0), .int .i64 (xs.getD 7 0), .int .i64 (xs.getD 8 0), .int .i64 (xs.getD 9 0), .int .i64 (xs.getD 10 0), .int .i64 (xs.getD 11 0), .int .i64 (xs.getD 12 0), .int .i64 (xs.getD 13 0), .int .i64 (xs.getD 14 0)] := by
  have h1 : ∀ i, i < 15 → (if i < k then xs.getD i 0 else 0) = xs.getD i 0 := by
    intro i hi
    by_cases hik : i < k
    · rw [if_pos hik]
    · rw [if_neg hik]
      simp [List.getD, List.getElem?_eq_none (show xs.length ≤ i by omega)]
  simp only [upTo, List.range, List.range.loop, List.map_cons, List.map_nil]
  rw [h1 0 (by omega), h1 1 (by omega), h1 2 (by omega), h1 3 (by omega), h1 4 (by omega), h1 5 (by omega), h1 6 (by omega), h1 7 (by omega), h1 8 (by omega), h1 9 (by omega), h1 10 (by omega), h1 11 (by omega), h1 12 (by omega), h1 13 (by omega), h1 14 (by omega)]

set_option maxRecDepth 100000 in
set_option maxHeartbeats 4000000 in
theorem rof_c (a : Option Addr) (n c : Nat) (xs : List Int) (w : World) (hr : IntRow w a n xs) (hm : n ≤ maxLen) :
    Calls Try.prog 22 #[.slice a n c] w fun e w' => e = .returned (.agg #[.int .i64 (xs.getD 0 0), .int .i64 (xs.getD 1 0), .int .i64 (xs.getD 2 0), .int .i64 (xs.getD 3 0), .int .i64 (xs.getD 4 0), .int .i64 (xs.getD 5 0), .int .i64 (xs.getD 6 0), .int .i64 (xs.getD 7 0), .int .i64 (xs.getD 8 0), .int .i64 (xs.getD 9 0), .int .i64 (xs.getD 10 0), .int .i64 (xs.getD 11 0), .int .i64 (xs.getD 12 0), .int .i64 (xs.getD 13 0), .int .i64 (xs.getD 14 0)]) ∧ Below w.heap.size w w' := by
  unfold maxLen at hm
  go_enter Try.func22, Try.ntmps22
  go_wp2_with fail
  go_loopw [4] (fun i wr => ∃ k : Nat, k ≤ 15 ∧ k ≤ n ∧ i = .int .i64 k ∧ wr = (w.alloc (.cells #[.int .i64 0, .int .i64 0, .int .i64 0, .int .i64 0, .int .i64 0, .int .i64 0, .int .i64 0, .int .i64 0, .int .i64 0, .int .i64 0, .int .i64 0, .int .i64 0, .int .i64 0, .int .i64 0, .int .i64 0] 23)).alloc (.cells (upTo xs k) 57)) (fun i _ => 15 - (intOf i).toNat)
  case atStart => exact ⟨0, by omega, by omega, rfl, by rw [upTo_zero]⟩
  case round =>
    obtain ⟨k, hk, hkn, rfl, rfl⟩ := hrel
    by_cases h15 : k < 15
    · by_cases hlt : k < n
      · have hr2 := (hr.below (Below.alloc (Below.refl _ w) (Nat.le_refl _) (.cells #[.int .i64 0, .int .i64 0, .int .i64 0, .int .i64 0, .int .i64 0, .int .i64 0, .int .i64 0, .int .i64 0, .int .i64 0, .int .i64 0, .int .i64 0, .int .i64 0, .int .i64 0, .int .i64 0, .int .i64 0] 23))).below (Below.alloc (Below.refl _ _) (Nat.le_refl _) (.cells (upTo xs k) 57))
        obtain ⟨b, off, rfl, hb, hc⟩ := hr2.2 (by omega)
        have hck := hc k hlt
        have hsz := upTo_size xs k
        have hg := upTo_get xs k k h15
        rw [if_neg (by omega)] at hg
        have HS := Lib.hid (upTo_set xs k h15)
        clear hc hr2 hr
        go_wp2
        refine ⟨⟨k + 1, by omega, by omega, by go_num, ?_⟩, by simp [intOf]; omega⟩
        rw [← HS.out]
        simp
      · have hu := upTo_full xs k (.inr (by have := hr.1; omega))
        rw [hu]
        clear hu
        go_wp2
        refine bodyPost_ret (v := .agg #[.int .i64 (xs.getD 0 0), .int .i64 (xs.getD 1 0), .int .i64 (xs.getD 2 0), .int .i64 (xs.getD 3 0), .int .i64 (xs.getD 4 0), .int .i64 (xs.getD 5 0), .int .i64 (xs.getD 6 0), .int .i64 (xs.getD 7 0), .int .i64 (xs.getD 8 0), .int .i64 (xs.getD 9 0), .int .i64 (xs.getD 10 0), .int .i64 (xs.getD 11 0), .int .i64 (xs.getD 12 0), .int .i64 (xs.getD 13 0), .int .i64 (xs.getD 14 0)]) (by simp [results, Try.results22, go_sem]) rfl ⟨rfl, ?_⟩
        exact ((Below.refl _ _).alloc (Nat.le_refl _) _).alloc (by simp) _
    · have hu := upTo_full xs k (.inl (by omega))
      obtain rfl : k = 15 := by omega
      rw [hu]
      clear hu
      go_wp2
      refine bodyPost_ret (v := .agg #[.int .i64 (xs.getD 0 0), .int .i64 (xs.getD 1 0), .int .i64 (xs.getD 2 0), .int .i64 (xs.getD 3 0), .int .i64 (xs.getD 4 0), .int .i64 (xs.getD 5 0), .int .i64 (xs.getD 6 0), .int .i64 (xs.getD 7 0), .int .i64 (xs.getD 8 0), .int .i64 (xs.getD 9 0), .int .i64 (xs.getD 10 0), .int .i64 (xs.getD 11 0), .int .i64 (xs.getD 12 0), .int .i64 (xs.getD 13 0), .int .i64 (xs.getD 14 0)]) (by simp [results, Try.results22, go_sem]) rfl ⟨rfl, ?_⟩
      exact ((Below.refl _ _).alloc (Nat.le_refl _) _).alloc (by simp) _
end Go.Proofs.Ytiacklfigpobnaa.Cfg
