/- Package change: the example, and plain laws of votes. -/
import Derived.Test.YtpkifmophmjilaaChangeE
import Derived.Test.YtpkifmophmjilaaKeep
namespace Go.Proofs.Ytpkifmophmjilaa
open Go.RowKit
set_option linter.unusedVariables false

theorem vputB_facts {L : List Vt} {k v : Int} (h : vputB L k v = true) : (0 ≤ k ∧ k < L.length) ∧ (0 ≤ v ∧ v < 12) ∧ ¬ ((voteAt L k).1 = true ∧ v ≤ (voteAt L k).2.1) := by
  unfold vputB at h
  simp only [Bool.and_eq_true, decide_eq_true_eq, Bool.not_eq_true', Bool.and_eq_false_iff, decide_eq_false_iff_not] at h
  obtain ⟨⟨h1, h2⟩, h3⟩ := h
  refine ⟨h1, h2, fun hh => ?_⟩
  rcases h3 with h3 | h3
  · rw [hh.1] at h3; cases h3
  · exact h3 hh.2
theorem vput_at {L : List Vt} {k v : Int} (s : Int) (h : vputB L k v = true) : voteAt (vputSt L k v s) k = (true, v, s) := by
  have hf := (vputB_facts h).1
  unfold vputSt voteAt
  rw [if_pos h]
  have : k.toNat < L.length := by omega
  simp [List.getD, this]
theorem vput_other {L : List Vt} {k v s q : Int} (hq : 0 ≤ q) (h : k ≠ q) : voteAt (vputSt L k v s) q = voteAt L q := by
  unfold vputSt
  split
  · rename_i hp
    have hf := (vputB_facts hp).1
    unfold voteAt
    have : k.toNat ≠ q.toNat := by omega
    simp [List.getD, List.getElem?_set_ne this]
  · rfl
theorem vput_no {L : List Vt} {k v : Int} (s : Int) (h : vputB L k v = false) : vputSt L k v s = L := by
  unfold vputSt
  rw [h]; rfl
theorem vview_congr {L L' : List Vt} {q : Int} (hl : L'.length = L.length) (h : voteAt L' q = voteAt L q) : vviewB L' q = vviewB L q ∧ vviewOf L' q = vviewOf L q := by
  have e : vviewB L' q = vviewB L q := by unfold vviewB; rw [hl, h]
  exact ⟨e, by unfold vviewOf; rw [e, h]⟩
/-- Every vote is for a view that may be. -/
def VFine (L : List Vt) : Prop := ∀ p ∈ L, p.1 = true → 0 ≤ p.2.1 ∧ p.2.1 < 12
theorem VFine.new (n : Nat) : VFine (List.replicate n (false, 0, 0)) := by
  intro p hp h
  rw [List.eq_of_mem_replicate hp] at h
  cases h
theorem VFine.put {L : List Vt} (h : VFine L) (k v s : Int) : VFine (vputSt L k v s) := by
  intro p hp hh
  unfold vputSt at hp
  split at hp
  · rename_i hb
    rcases List.mem_or_eq_of_mem_set hp with h1 | h1
    · exact h p h1 hh
    · subst h1
      exact (vputB_facts hb).2.1
  · exact h p hp hh
theorem VFine.drop {L : List Vt} (h : VFine L) (b : Int) : VFine (dropSt L b) := by
  intro p hp hh
  obtain ⟨p0, h0, rfl⟩ := List.mem_map.1 hp
  unfold dropV at hh ⊢
  split at hh
  · cases hh
  · rename_i hn
    rw [if_neg hn]
    exact h p0 h0 hh
theorem dropSt_len (L : List Vt) (b : Int) : (dropSt L b).length = L.length := List.length_map _
theorem VFine.gone {L : List Vt} (h : VFine L) : ∀ p ∈ dropSt L 12, p.1 = false := by
  intro p hp
  obtain ⟨p0, h0, rfl⟩ := List.mem_map.1 hp
  unfold dropV
  split
  · rfl
  · rename_i hn
    cases hb : p0.1
    · rfl
    · have := (h p0 h0 hb).2
      rw [hb, decide_eq_true this] at hn
      exact absurd rfl hn
theorem gone_view {L : List Vt} (h : ∀ p ∈ L, p.1 = false) (q : Int) : vviewB L q = false ∧ vviewOf L q = 0 := by
  have e : vviewB L q = false := by
    unfold vviewB
    by_cases hq : 0 ≤ q ∧ q < L.length
    · have hl : q.toNat < L.length := by omega
      have : voteAt L q = L[q.toNat] := by simp [voteAt, List.getD, hl]
      rw [this, h _ (List.getElem_mem hl), Bool.and_false]
    · rw [decide_eq_false hq, Bool.false_and]
  exact ⟨e, by unfold vviewOf; rw [e]; rfl⟩
theorem gone_drop {L : List Vt} (h : ∀ p ∈ L, p.1 = false) (b : Int) : dropN L b = 0 := by
  unfold dropN
  rw [List.filter_eq_nil_iff.2 fun p hp => by rw [h p hp]; simp]
  rfl
theorem rnodes_e (f : Int) (N : Nat) (hN : 3 * f + 1 = N) (w : World) (h1 : 1 ≤ f) (h4 : f ≤ 4) : Calls Try.prog 20 #[.int .i64 f] w fun e w' => e = .returned (.int .i64 N) ∧ w = w' := by
  rw [← hN]
  exact rnodes_c f w h1 h4

set_option maxRecDepth 100000 in
set_option maxHeartbeats 800000 in
theorem vwakes_c (w : World) : Calls Try.prog 32 #[] w fun e w' => e = .returned (.bool true) ∧ Below w.heap.size w w' := by
  go_enter Try.func32, Try.ntmps32
  go_wp2_with fail
  refine (vnew_ok 1 4 (by omega) (by omega) _).mono ?_; rintro e w1 ⟨gv, gl, rfl, hV, hg1, hg2, hb1⟩
  have V := Lib.hid hV
  have B1 := Lib.hid hb1
  have G2 := Lib.hid hg2
  clear hV hb1 hg1 hg2
  obtain ⟨L0, hL0⟩ : ∃ L0, L0 = List.replicate 4 ((false, 0, 0) : Vt) := ⟨_, rfl⟩
  rw [← hL0] at V
  obtain ⟨L1, hL1⟩ : ∃ L, vputSt L0 0 0 1 = L := ⟨_, rfl⟩
  obtain ⟨L2, hL2⟩ : ∃ L, vputSt L1 2 0 2 = L := ⟨_, rfl⟩
  obtain ⟨L3, hL3⟩ : ∃ L, vputSt L2 3 0 3 = L := ⟨_, rfl⟩
  have F0 := Lib.hid (show L0.length = 4 ∧ vputB L0 0 0 = true by subst hL0; decide)
  have F1 := Lib.hid (show L1.length = 4 ∧ vputB L1 2 0 = true by subst hL1; subst hL0; decide)
  have F2 := Lib.hid (show L2.length = 4 ∧ vputB L2 3 0 = true by subst hL2; subst hL1; subst hL0; decide)
  have F3 := Lib.hid (show L3.length = 4 ∧ decide (3 ≤ (mat 0 L3 L3.length).length) = true ∧ ((mat 0 L3 L3.length).take 3).length = 3 by subst hL3; subst hL2; subst hL1; subst hL0; decide)
  have S1 := Lib.hid hL1
  have S2 := Lib.hid hL2
  have S3 := Lib.hid hL3
  clear hL0 hL1 hL2 hL3
  go_wp2_with fail
  refine (vput_c gv gl 1 L0 0 0 1 _ V.out (by rw [F0.out.1]; omega) (by unfold I64; omega) (by unfold I64; omega) true F0.out.2 L1 S1.out).mono ?_; rintro e w2 ⟨rfl, hV2, ho2⟩
  have V2 := Lib.hid hV2
  have O2 := Lib.hid ho2
  clear hV2 ho2
  go_wp2_with fail
  refine (vput_c gv gl 1 L1 2 0 2 _ V2.out (by rw [F1.out.1]; omega) (by unfold I64; omega) (by unfold I64; omega) true F1.out.2 L2 S2.out).mono ?_; rintro e w3 ⟨rfl, hV3, ho3⟩
  have V3 := Lib.hid hV3
  have O3 := Lib.hid ho3
  clear hV3 ho3
  go_wp2_with fail
  refine (vput_c gv gl 1 L2 3 0 3 _ V3.out (by rw [F2.out.1]; omega) (by unfold I64; omega) (by unfold I64; omega) true F2.out.2 L3 S3.out).mono ?_; rintro e w4 ⟨rfl, hV4, ho4⟩
  have V4 := Lib.hid hV4
  have O4 := Lib.hid ho4
  clear hV4 ho4
  go_wp2_with fail
  refine (enough_c gv gl 1 L3 0 _ V4.out (by rw [F3.out.1]; omega) (by unfold I64; omega) (by omega) 3 (by omega) true F3.out.2.1 _ rfl 3 F3.out.2.2).mono ?_; rintro e w5 ⟨a, c, rfl, ho, hb5⟩
  clear ho
  go_wp2
  go_ret
  have hS : ∀ k ∈ [gl], w.heap.size ≤ k := by simpa using G2.out
  have b2 := O2.out.below B1.out B1.out.size hS
  have b3 := O3.out.below b2 b2.size hS
  have b4 := O4.out.below b3 b3.size hS
  exact ⟨rfl, b4.trans (hb5.mono b4.size)⟩
end Go.Proofs.Ytpkifmophmjilaa
