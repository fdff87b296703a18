/- Contracts of config.Of and of the reference's Of: a configuration by its numbers. -/
import Derived.Test.YtiacklfigpobnaaProg
import Derived.Test.YtiacklfigpobnaaLater
namespace Go.Proofs.Ytiacklfigpobnaa.Cfg
open Go.RowKit
set_option linter.unusedVariables false

/-- The configuration of these numbers, those that lack being 0. -/
def ofL (xs : List Int) : Value := .agg #[.int .i64 (xs.getD 0 0), .int .i64 (xs.getD 1 0), .int .i64 (xs.getD 2 0), .int .i64 (xs.getD 3 0), .int .i64 (xs.getD 4 0), .int .i64 (xs.getD 5 0), .int .i64 (xs.getD 6 0), .int .i64 (xs.getD 7 0), .int .i64 (xs.getD 8 0), .int .i64 (xs.getD 9 0), .int .i64 (xs.getD 10 0), .int .i64 (xs.getD 11 0), .int .i64 (xs.getD 12 0), .int .i64 (xs.getD 13 0), .int .i64 (xs.getD 14 0)]

theorem at_c (k : Int) (a : Option Addr) (n c : Nat) (xs : List Int) (B : Nat) (w : World) (hr : IntRow w a n xs) (hk0 : 0 ≤ k) (hk : k ≤ 1000) (hm : n ≤ maxLen) (hbox : w.cell? ⟨B, 0, none⟩ = some (.slice a n c)) :
    Calls Try.prog 39 #[.int .i64 k, .pointer (some ⟨B, 0, none⟩)] w fun e w' => e = .returned (.int .i64 (xs.getD k.toNat 0)) ∧ w = w' := by
  unfold maxLen at hm
  obtain ⟨k, rfl⟩ := Int.eq_ofNat_of_zero_le hk0
  rw [Int.toNat_natCast]
  by_cases hkn : k < n
  · obtain ⟨b, off, rfl, _, hc⟩ := hr.2 (by omega)
    have hck := hc k hkn
    clear hc hr
    go_enter Try.func39, Try.ntmps39
    go_wp2
    go_ret
    exact ⟨rfl, rfl⟩
  · have hx : xs.getD k 0 = 0 := by
      have := hr.1
      simp [List.getD, List.getElem?_eq_none (show xs.length ≤ k by omega)]
    rw [hx]
    clear hx
    go_enter Try.func39, Try.ntmps39
    go_wp2
    go_ret
    exact ⟨rfl, rfl⟩

set_option maxRecDepth 100000 in
set_option maxHeartbeats 4000000 in
theorem of_c (a : Option Addr) (n c : Nat) (xs : List Int) (w : World) (hr : IntRow w a n xs) (hm : n ≤ maxLen) :
    Calls Try.prog 21 #[.slice a n c] w fun e w' => e = .returned (ofL xs) ∧ Below w.heap.size w w' := by
  have hr1 := hr.below (Below.alloc (Below.refl _ w) (Nat.le_refl _) (.cells #[.slice a n c] 28))
  have hr2 : IntRow ((w.alloc (.cells #[.slice a n c] 28)).alloc (.cells #[.int .i64 0, .int .i64 0, .int .i64 0, .int .i64 0, .int .i64 0, .int .i64 0, .int .i64 0, .int .i64 0, .int .i64 0, .int .i64 0, .int .i64 0, .int .i64 0, .int .i64 0, .int .i64 0, .int .i64 0] 23)) a n xs := hr1.below (Below.alloc (Below.refl _ _) (Nat.le_refl _) _)
  have H2 := Lib.hid hr2
  clear hr hr1 hr2
  go_enter Try.func21, Try.ntmps21
  go_wp2_with (go_at_call 39; refine (at_c _ a n c xs _ _ H2.out (by omega) (by omega) hm (by go_simp)).mono ?_; rintro e w' ⟨rfl, rfl⟩)
  refine bodyPost_ret (v := ofL xs) (by simp [results, Try.results21, go_sem, ofL]) rfl ⟨rfl, ?_⟩
  exact ((Below.refl _ _).alloc (Nat.le_refl _) _).alloc (by simp) _

end Go.Proofs.Ytiacklfigpobnaa.Cfg
