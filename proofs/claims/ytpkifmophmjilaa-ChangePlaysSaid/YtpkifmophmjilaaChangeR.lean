/- The reference's Rising: a quorum's votes by rising nodes. -/
import Derived.Test.YtpkifmophmjilaaChangeW
import Derived.BigQuiet
import Derived.IntWalk
namespace Go.Proofs.Ytpkifmophmjilaa
open Go.RowKit
set_option linter.unusedVariables false

theorem mat_mem {v : Int} {L : List Vt} {k : Nat} : ∀ p ∈ mat v L k, 0 ≤ p.1 ∧ p.1 < k := by
  intro p hp
  obtain ⟨i, hi, he⟩ := List.mem_filterMap.1 hp
  unfold matAt at he
  split at he
  · cases he
    have := List.mem_range.1 hi
    simp only
    omega
  · cases he
theorem mat_up (v : Int) (L : List Vt) : ∀ k, k ≤ L.length → (mat v L k).Pairwise (fun a b => a.1 < b.1)
  | 0, _ => by simp [mat]
  | k + 1, hk => by
    rw [mat_succ v L k (by omega)]
    refine List.pairwise_append.2 ⟨mat_up v L k (by omega), ?_, ?_⟩
    · split <;> simp
    · intro a ha b hb
      have h1 := mat_mem a ha
      split at hb
      · rw [List.mem_singleton.1 hb]
        exact h1.2
      · cases hb
/-- Two views: their votes are of unlike nodes. -/
theorem mat_two {v v' : Int} (hne : v ≠ v') (L : List Vt) : ∀ k, k ≤ L.length → (mat v L k).length + (mat v' L k).length ≤ k
  | 0, _ => by simp [mat]
  | k + 1, hk => by
    have ih := mat_two hne L k (by omega)
    rw [mat_succ v L k (by omega), mat_succ v' L k (by omega), List.length_append, List.length_append]
    by_cases h1 : (L[k].1 && decide (L[k].2.1 = v)) = true
    · have h2 : ¬ (L[k].1 && decide (L[k].2.1 = v')) = true := by
        intro h2
        simp only [Bool.and_eq_true, decide_eq_true_eq] at h1 h2
        exact hne (h1.2.symm.trans h2.2)
      rw [if_pos h1, if_neg h2]
      simp only [List.length_cons, List.length_nil]
      omega
    · rw [if_neg h1]
      split <;> simp only [List.length_cons, List.length_nil] <;> omega

theorem rquorum_c (f : Int) (q : Nat) (hq : 2 * f + 1 = q) (w : World) (h1 : 1 ≤ f) (h4 : f ≤ 4) : Calls Try.prog 21 #[.int .i64 f] w fun e w' => e = .returned (.int .i64 q) ∧ w = w' := by
  rw [← hq]
  clear hq
  go_enter Try.func21, Try.ntmps21
  go_wp2
  go_ret
  exact ⟨rfl, rfl⟩

set_option maxRecDepth 100000 in
set_option maxHeartbeats 1600000 in
theorem rising_no (a : Option Addr) (m c : Nat) (f : Int) (q N : Nat) (hf : 1 ≤ f ∧ f ≤ 4) (hq : 2 * f + 1 = q) (hN : 3 * f + 1 = N) (hm : ¬ m = q) (hm2 : m ≤ 13) (w : World) :
    Calls Try.prog 31 #[.slice a m c, .int .i64 f] w fun e w' => e = .returned (.bool false) ∧ w = w' := by
  have f1 := hf.1
  have f4 := hf.2
  have HQ := Lib.hid hq
  have HN := Lib.hid hN
  have N1 : 1 ≤ N := by omega
  have q9 : q ≤ 9 := by omega
  have e1 : ((m : Int) != q) = true := bne_iff_ne.2 (by omega)
  clear hq hN hf
  go_enter Try.func31, Try.ntmps31
  go_wp2_with (first
    | (go_at_call 20; refine (rnodes_e f N HN.out _ f1 f4).mono ?_; rintro e w' ⟨rfl, rfl⟩)
    | (go_at_call 21; refine (rquorum_c f q HQ.out _ f1 f4).mono ?_; rintro e w' ⟨rfl, rfl⟩))
  go_ret
  exact ⟨rfl, rfl⟩

set_option maxRecDepth 100000 in
set_option maxHeartbeats 1600000 in
theorem rising_yes (a : Option Addr) (m c : Nat) (E : List (Int × Int)) (f : Int) (q N : Nat) (hf : 1 ≤ f ∧ f ≤ 4) (hq : 2 * f + 1 = q) (hN : 3 * f + 1 = N) (hm : m = q) (w : World) (hr : VRow w a m 2 (E.flatMap pcell)) (hl : E.length = m)
    (hE : ∀ p ∈ E, 0 ≤ p.1 ∧ p.1 < N) (hup : E.Pairwise (fun a b => a.1 < b.1)) :
    Calls Try.prog 31 #[.slice a m c, .int .i64 f] w fun e w' => e = .returned (.bool true) ∧ Below w.heap.size w w' := by
  have f1 := hf.1
  have f4 := hf.2
  have HQ := Lib.hid hq
  have HN := Lib.hid hN
  have HR := Lib.hid hr
  have HE := Lib.hid hE
  have HU := Lib.hid hup
  have N1 : 1 ≤ N := by omega
  have N13 : N ≤ 13 := by omega
  have q9 : q ≤ 9 := by omega
  have LE := Lib.hid hl
  subst hm
  clear hq hN hf hr hE hup hl
  go_enter Try.func31, Try.ntmps31
  go_wp2_with (first
    | (go_at_call 20; refine (rnodes_e f N HN.out _ f1 f4).mono ?_; rintro e w' ⟨rfl, rfl⟩)
    | (go_at_call 21; refine (rquorum_c f m HQ.out _ f1 f4).mono ?_; rintro e w' ⟨rfl, rfl⟩))
  go_loopw [5] (fun i wr => ∃ k : Nat, k ≤ m ∧ i = .int .i64 k ∧ Below w.heap.size w wr) (fun i _ => m - (intOf i).toNat)
  case atStart => exact ⟨0, by omega, rfl, Below.refl _ _⟩
  case round =>
    obtain ⟨k, hk, rfl, hb⟩ := hrel
    have B := Lib.hid hb
    by_cases hkm : k < m
    · have R := HR.out.below hb
      obtain ⟨b, off, rfl, hbl, hcell⟩ := R.2 (by omega)
      have kl : k < E.length := by rw [LE.out]; exact hkm
      have c0 : wr.cell? ⟨b, off + k * 2, none⟩ = some (.int .i64 E[k].1) := hcell _ _ (flat_get' pcell 2 pcell_len E k 0 (by omega) kl _ rfl)
      have hd := HE.out _ (List.getElem_mem kl)
      have PREV := Lib.hid (show ∀ j, k = j + 1 → ∃ d' : Int, d' < E[k].1 ∧ wr.cell? ⟨b, off + j * 2, none⟩ = some (.int .i64 d') from fun j hj => by
        subst hj
        exact ⟨E[j].1, List.pairwise_iff_getElem.1 HU.out j (j + 1) (by omega) kl (by omega), hcell _ _ (flat_get' pcell 2 pcell_len E j 0 (by omega) (by omega) _ rfl)⟩)
      obtain ⟨d, hd'⟩ : ∃ d, d = E[k].1 := ⟨_, rfl⟩
      rw [← hd'] at c0 hd PREV
      obtain ⟨d1, d2⟩ := hd
      have i2 : (0 : Int) ≤ k := by omega
      have i3 : (k : Int) < m := by omega
      clear hcell hd' R hb
      have g0 : decide (d < 0) = false := decide_eq_false (by omega)
      have g1 : decide ((N : Int) ≤ d) = false := decide_eq_false (by omega)
      obtain ⟨j, hj⟩ : ∃ j, k = 0 ∨ k = j + 1 := ⟨k - 1, by omega⟩
      rcases hj with hj | hj
      case' inl =>
        have g3 : decide ((0 : Int) < k) = false := decide_eq_false (by omega)
        have g3' : decide (0 < k) = false := decide_eq_false (by omega)
        clear hj PREV
        have X0 := fun (x : Later wr) => x.cell c0
        go_wp2_with fail
        refine wp_region_later (by kernel_rfl) (by kernel_rfl) ?_
        repeat (go_big_quiet_step (first
          | (go_at_call 20; exact Later.same (rnodes_e f N HN.out _ f1 f4))))
        refine wpQuiet_nil ?_
        rintro _ ⟨x, rfl⟩
      case' inr =>
        obtain ⟨d', hd1, c3⟩ := PREV.out j hj
        have g3 : decide ((0 : Int) < k) = true := decide_eq_true (by omega)
        have g3' : decide (0 < k) = true := decide_eq_true (by omega)
        have g4 : decide (d ≤ d') = false := decide_eq_false (by omega)
        have i6 : (0 : Int) ≤ j := by omega
        have i7 : (j : Int) < m := by omega
        have e2 : IntKind.i64.wrap ((k : Int) - 1) = (j : Int) := by rw [IntWalk.i64_in _ (by omega)]; omega
        clear hj PREV hd1
        have X0 := fun (x : Later wr) => x.cell c0
        have X3 := fun (x : Later wr) => x.cell c3
        go_wp2_with fail
        refine wp_region_later (by kernel_rfl) (by kernel_rfl) ?_
        repeat (go_big_quiet_step (first
          | (go_at_call 20; exact Later.same (rnodes_e f N HN.out _ f1 f4))))
        refine wpQuiet_nil ?_
        rintro _ ⟨x, rfl⟩
        clear X3 e2 c3
      all_goals
        have B2 := Lib.hid (B.out.trans (x.b.mono B.out.size))
        clear X0 c0
        go_wp2_with fail
        go_roundw
        case rel => exact ⟨k + 1, by omega, by go_num, B2.out⟩
        case measure => simp [intOf]; omega
    · go_wp2_with fail
      go_ret
      exact ⟨rfl, B.out⟩
end Go.Proofs.Ytpkifmophmjilaa
