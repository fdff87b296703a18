/- Contracts of the reference's Slow and Late, of Z, of judge.Old. -/
import Derived.Test.YtiacklfigpobnaaJudge
import Derived.Deep.RegionHeld3
namespace Go.Proofs.Ytiacklfigpobnaa
open Go.RowKit F
set_option linter.unusedVariables false

/-- The cells of measures. -/
def mcells (zs : List (Int × Int)) : List Value := zs.flatMap fun z => [.int .i64 z.1, .int .i64 z.2]
theorem mcells_length (zs : List (Int × Int)) : (mcells zs).length = zs.length * 2 := by
  induction zs with
  | nil => rfl
  | cons z zs ih => simp [mcells, List.flatMap_cons] at ih ⊢; omega
theorem mcells_get (zs : List (Int × Int)) : ∀ k (hk : k < zs.length), (mcells zs)[k * 2]? = some (.int .i64 zs[k].1) ∧ (mcells zs)[k * 2 + 1]? = some (.int .i64 zs[k].2) := by
  induction zs with
  | nil => intro k hk; simp at hk
  | cons z zs ih =>
    intro k hk
    cases k with
    | zero => exact ⟨rfl, rfl⟩
    | succ k =>
      have := ih k (by simpa using hk)
      have e : (k + 1) * 2 = k * 2 + 2 := by omega
      rw [e]
      exact this
/-- A slice of measures. -/
def MRow (w : World) (a : Option Addr) (n : Nat) (zs : List (Int × Int)) : Prop := VRow w a n 2 (mcells zs)
theorem MRow.len {w : World} {a : Option Addr} {n : Nat} {zs : List (Int × Int)} (h : MRow w a n zs) : zs.length = n := by
  have := h.1
  rw [mcells_length] at this
  omega

theorem rslow_c (num den mn mt : Int) (a : Option Addr) (n c : Nat) (zs : List (Int × Int)) (w : World) (hr : MRow w a n zs) (hu : Usual zs) (hn : n ≤ 64)
    (hnum : 0 ≤ num ∧ num ≤ 64) (hden : 0 ≤ den ∧ den ≤ 64) (hm : 0 ≤ mn ∧ mn ≤ 134217728) :
    Calls Try.prog 27 #[.int .i64 num, .int .i64 den, .agg #[.int .i64 mn, .int .i64 mt], .slice a n c] w fun e w' => e = .returned (.bool (slowB num den mn zs)) ∧ Below w.heap.size w w' := by
  have hlen := hr.len
  obtain ⟨hu1, hu2⟩ := hnum
  obtain ⟨hd1, hd2⟩ := hden
  obtain ⟨hm1, hm2⟩ := hm
  have hs := sum_bd zs hu
  unfold slowB
  rw [hlen]
  rw [hlen] at hs
  obtain ⟨p1, p2⟩ := mul_bd hm1 hm2 hd1 hd2
  obtain ⟨p3, p4⟩ := mul_bd p1 p2 (show (0 : Int) ≤ (n : Int) by omega) (show (n : Int) ≤ 64 by omega)
  obtain ⟨p5, p6⟩ := mul_bd hu1 hu2 hs.1 (show sumN zs ≤ 134217728 * 64 by omega)
  obtain ⟨w1, hw1⟩ : ∃ w1, w1 = w.alloc (.cells #[.int .i64 mn, .int .i64 mt] 42) := ⟨_, rfl⟩
  have hb1 : Below w.heap.size w w1 := by rw [hw1]; exact (Below.refl _ _).alloc (Nat.le_refl _) _
  have hr1 := Lib.hid (VRow.below hr hb1)
  have hk1 : Blk w1 w.heap.size 42 #[.int .i64 mn, .int .i64 mt] := by rw [hw1]; exact Blk.new _ _ _
  have hc0 := (hk1.cell 0).trans (show _ = some (.int .i64 mn) from rfl)
  have hH := Lib.hid hlen
  clear hr hs hlen hk1
  go_enter Try.func27, Try.ntmps27
  go_wp2_with fail
  rw [← hw1]
  have HW := Lib.hid hw1
  clear hw1
  go_loop [9, 10] (fun s i => ∃ k : Nat, k ≤ n ∧ i = .int .i64 k ∧ s = .int .i64 (sumN (zs.take k))) (fun _ i => n - (intOf i).toNat)
  case atStart => exact ⟨0, by omega, rfl, by simp [sumN]⟩
  case round =>
    obtain ⟨k, hk, rfl, rfl⟩ := hrel
    by_cases hlt : k < n
    · obtain ⟨b, off, rfl, _, hc⟩ := hr1.out.2 (by omega)
      have hkl : k < zs.length := by rw [hH.out]; exact hlt
      have hz := hu zs[k] (List.getElem_mem hkl)
      have hcell : w1.cell? ⟨b, off + k * 2, none⟩ = some (.int .i64 zs[k].1) := hc _ _ (mcells_get zs k hkl).1
      have hS := sum_snoc zs k hkl
      have hbd := sum_bd _ (hu.take k)
      have hbl : (zs.take k).length ≤ 64 := by rw [List.length_take]; omega
      have HS := Lib.hid hS
      have b1 : 0 ≤ sumN (zs.take k) ∧ sumN (zs.take k) ≤ 134217728 * 64 := by omega
      clear hS hc hbd hbl hu
      go_wp2
      go_round
      case rel => exact ⟨k + 1, by omega, by go_num, by rw [HS.out.1]⟩
      case measure => simp [intOf]; omega
    · have hkn : k = n := by omega
      subst hkn
      have hlen := hH.out
      have ht : zs.take k = zs := List.take_of_length_le (by omega)
      rw [ht]
      clear ht hlen
      by_cases h0 : 0 < k
      · have hd : decide (0 < k) = true := decide_eq_true h0
        go_wp2
        go_ret
        exact ⟨by first | rfl | (rw [hd, Bool.true_and]; rfl), hb1⟩
      · have hd : decide (0 < k) = false := decide_eq_false h0
        go_wp2
        go_ret
        exact ⟨by first | rfl | (rw [hd, Bool.false_and]; rfl), hb1⟩

theorem z_c (a b : Int) (w : World) : Calls Try.prog 33 #[.agg #[.int .i64 a, .int .i64 b]] w fun e w' => e = .returned (.complex .f64 (fw a) (fw b)) ∧ Below w.heap.size w w' := by
  go_enter Try.func33, Try.ntmps33
  go_wp2
  go_ret
  exact ⟨rfl, (Below.refl _ _).alloc (Nat.le_refl _) _⟩

theorem old_c (s n l : Int) (w : World) (hs : 0 ≤ s ∧ s ≤ 1048576) (hn : 0 ≤ n ∧ n ≤ 1048576) : Calls Try.prog 31 #[.int .i64 s, .int .i64 n, .int .i64 l] w fun e w' => e = .returned (.bool (decide (l < n - s))) ∧ w = w' := by
  obtain ⟨hs1, hs2⟩ := hs
  obtain ⟨hn1, hn2⟩ := hn
  go_enter Try.func31, Try.ntmps31
  go_wp2
  go_ret
  exact ⟨rfl, rfl⟩

theorem fw_1 : fw 1 = 4607182418800017408 := by decide +kernel
theorem fw_4 : fw 4 = 4616189618054758400 := by decide +kernel

theorem slow_1 (g c : Nat) (w : World) (hr : VRow w (some ⟨g, 0, none⟩) 2 1 [.complex .f64 4616189618054758400 0, .complex .f64 4616189618054758400 0]) :
    Calls Try.prog 25 #[.int .i64 1, .int .i64 2, .complex .f64 4607182418800017408 0, .slice (some ⟨g, 0, none⟩) 2 c] w fun e w' => e = .returned (.bool true) ∧ w = w' := by
  have h := slow_c 1 2 1 0 (some ⟨g, 0, none⟩) 2 c [(4, 0), (4, 0)] w (by show VRow _ _ _ _ [.complex .f64 (fw 4) (fw 0), .complex .f64 (fw 4) (fw 0)]; rw [fw_4, fw_zero]; exact hr)
    (by intro z hz; simp at hz; subst hz; omega) (by omega) (by omega) (by omega) (by omega) (Small.of (by omega) (by omega))
  rw [fw_1, fw_zero, show slowB 1 2 1 [(4, 0), (4, 0)] = true from by decide] at h
  exact h
theorem slow_2 (g c : Nat) (w : World) (hr : VRow w (some ⟨g, 0, none⟩) 1 1 [.complex .f64 4616189618054758400 0]) :
    Calls Try.prog 25 #[.int .i64 1, .int .i64 2, .complex .f64 4616189618054758400 0, .slice (some ⟨g, 0, none⟩) 1 c] w fun e w' => e = .returned (.bool false) ∧ w = w' := by
  have h := slow_c 1 2 4 0 (some ⟨g, 0, none⟩) 1 c [(4, 0)] w (by show VRow _ _ _ _ [.complex .f64 (fw 4) (fw 0)]; rw [fw_4, fw_zero]; exact hr)
    (by intro z hz; simp at hz; subst hz; omega) (by omega) (by omega) (by omega) (by omega) (Small.of (by omega) (by omega))
  rw [fw_4, fw_zero, show slowB 1 2 4 [(4, 0)] = false from by decide] at h
  exact h
theorem jwakes_c (w : World) : Calls Try.prog 26 #[] w fun e w' => e = .returned (.bool true) ∧ Below w.heap.size w w' := by
  go_enter Try.func26, Try.ntmps26
  go_wp2_with fail
  refine (slow_1 _ _ _ (VRow.of_blk (Blk.new' _ _ _ rfl) rfl)).mono ?_; rintro e w' ⟨rfl, rfl⟩
  go_wp2_with fail
  refine (slow_2 _ _ _ (VRow.of_blk (Blk.new' _ _ _ (by simp)) rfl)).mono ?_; rintro e w' ⟨rfl, rfl⟩
  go_wp2
  go_ret
  exact ⟨rfl, ((Below.refl _ _).alloc (Nat.le_refl _) _).alloc (by simp) _⟩
end Go.Proofs.Ytiacklfigpobnaa
