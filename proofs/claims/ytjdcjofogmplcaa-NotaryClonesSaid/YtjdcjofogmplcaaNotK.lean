/- The document's notary: Check, Seal whichever. -/
import Derived.Test.YtjdcjofogmplcaaNotR
namespace Go.Proofs.Ytjdcjofogmplcaa
open Go.RowKit
set_option linter.unusedVariables false

theorem rseal_c (w0 : World) (r : Nat) (F : List Nat) (K : List (Int × List Int)) (p : Int) (a : Option Addr) (m c : Nat) (bs : List Int) (w : World) (h : Rty w0 w r F K) (h0 : Below w0.heap.size w0 w) (hK : ∀ q ∈ K, OkE q) (hv : VRow w0 a m 1 (brow bs)) (hq : OkE (p, bs)) (hn : K.length < 1048576) (x : Int) (hx : num (sealed K (p, bs)) (p, bs) = x) (K' : List (Int × List Int)) (hK' : sealed K (p, bs) = K') :
    Calls Try.prog 49 #[.pointer (some ⟨r, 0, none⟩), .int .i64 p, .slice a m c] w fun e w' => e = .returned (.int .i64 x) ∧ ∃ F', Rty w0 w' r F' K' ∧ Below w0.heap.size w0 w' ∧ Only F w w' ∧ ∀ x ∈ F', x ∈ F ∨ w.heap.size ≤ x := by
  subst hx
  subst hK'
  rw [num_sealed]
  by_cases hm : (p, bs) ∈ K
  · rw [if_pos hm]
    refine (rseal_old w0 r F K p a m c bs w h hK (hv.below h0) hq (Nat.le_of_lt hn) hm _ rfl).mono ?_
    rintro e w' ⟨rfl, rfl⟩
    rw [sealed, if_pos hm]
    exact ⟨rfl, F, h, h0, Only.refl _ _, fun x hx => .inl hx⟩
  · rw [if_neg hm]
    refine (rseal_new w0 r F K p a m c bs w h h0 hK hv hq hn hm).mono ?_
    rintro e w' ⟨rfl, h1⟩
    rw [sealed, if_neg hm]
    exact ⟨rfl, h1⟩

theorem nodup_num {K : List (Int × List Int)} {q : Int × List Int} (hnd : K.Nodup) {i : Nat} (hi : K[i]? = some q) : num K q = (i : Int) + 1 := by
  have hm := List.mem_of_getElem? hi
  obtain ⟨hlt, rfl⟩ := List.getElem?_eq_some_iff.1 hi
  rw [num, if_pos hm, hnd.idxOf_getElem i hlt]

set_option maxRecDepth 100000 in
set_option maxHeartbeats 1600000 in
theorem rcheck_c (w0 : World) (r : Nat) (F : List Nat) (K : List (Int × List Int)) (p : Int) (a : Option Addr) (m c : Nat) (bs : List Int) (k : Int) (w : World) (h : Rty w0 w r F K) (hK : ∀ q ∈ K, OkE q) (hnd : K.Nodup) (hv : VRow w a m 1 (brow bs)) (hq : OkE (p, bs)) (hn : K.length ≤ 1048576) (res : Bool) (hr : (decide ((p, bs) ∈ K) && decide (num K (p, bs) = k)) = res) (hk : I64 k) :
    Calls Try.prog 50 #[.pointer (some ⟨r, 0, none⟩), .int .i64 p, .slice a m c, .int .i64 k] w fun e w' => e = .returned (.bool res) ∧ ∃ j, w' = w.drewN j := by
  obtain ⟨A, C, A', C', c0, c1, v0, v1⟩ := h.rows
  obtain ⟨s, hs⟩ : ∃ s, s = strOfNums bs := ⟨_, rfl⟩
  have f1 : ∀ j, (convert 33 9 (.slice a m c)).run Try.prog (w.drewN j) = .ok (.string s) (w.drewN j) := fun j => by rw [hs]; exact conv_bytes (w := w.drewN j) hv
  obtain ⟨n, hn'⟩ : ∃ n, n = K.length := ⟨_, rfl⟩
  rw [← hn'] at c0 c1 hn
  unfold I64 at hk
  have hnum : (p, bs) ∈ K → 1 ≤ num K (p, bs) ∧ num K (p, bs) ≤ n := fun hm => by have := num_pos hm; omega
  by_cases hin : 1 ≤ k ∧ k ≤ n
  · obtain ⟨i, rfl⟩ : ∃ i : Nat, k = (i : Int) + 1 := ⟨(k - 1).toNat, by omega⟩
    have hil : i < K.length := by omega
    obtain ⟨b0, o0, rfl, _, hc0⟩ := v0.2 (by omega)
    obtain ⟨b1, o1, rfl, _, hc1⟩ := v1.2 (by omega)
    obtain ⟨⟨pk, tk⟩, hek⟩ : ∃ e, e = K[i]'hil := ⟨_, rfl⟩
    have ek : K[i]? = some (pk, tk) := by rw [List.getElem?_eq_getElem hil, hek]
    have d0 : w.cell? ⟨b0, o0 + i, none⟩ = some (.int .i64 pk) := hc0 i _ (by simp [parties, ek])
    obtain ⟨sk, hsk⟩ : ∃ sk, sk = strOfNums tk := ⟨_, rfl⟩
    have d1 : w.cell? ⟨b1, o1 + i, none⟩ = some (.string sk) := hc1 i _ (by simp [texts, ek, hsk])
    have g1 : decide ((i : Int) + 1 ≥ 1) = true := decide_eq_true (by omega)
    have g2 : decide ((i : Int) + 1 ≤ n) = true := decide_eq_true (by omega)
    have g3 : IntKind.i64.wrap ((i : Int) + 1 - 1) = (i : Int) := by rw [IntWalk.i64_in _ (by omega)]; omega
    have i0 : (0 : Int) ≤ i := by omega
    have i1 : (i : Int) < n := by omega
    have okk := hK (pk, tk) (List.mem_of_getElem? ek)
    have hcase : (pk = p ∧ sk = s ∧ res = true) ∨ (¬ pk = p ∧ res = false) ∨ (pk = p ∧ ¬ sk = s ∧ res = false) := by
      have hno : (p, bs) ≠ (pk, tk) → res = false := fun hne => by
        rw [← hr]
        by_cases hmm : (p, bs) ∈ K
        · have : ¬ num K (p, bs) = (i : Int) + 1 := fun e => hne (num_inj hmm (List.mem_of_getElem? ek) (by rw [e, nodup_num hnd ek]))
          simp [this]
        · simp [hmm]
      by_cases e1 : pk = p
      · by_cases e2 : tk = bs
        · refine .inl ⟨e1, by rw [hsk, hs, e2], ?_⟩
          rw [← hr, ← e1, ← e2, decide_eq_true (List.mem_of_getElem? ek), nodup_num hnd ek]
          simp
        · exact .inr (.inr ⟨e1, fun h => e2 (str_inj okk.b hq.b (by rw [← hsk, ← hs]; exact h)), hno fun h => e2 (by injection h with _ h; exact h.symm)⟩)
      · exact .inr (.inl ⟨e1, hno fun h => e1 (by injection h with h _; exact h.symm)⟩)
    clear h hK hnd hv hq hr hnum v0 v1 hc0 hc1 hek ek hsk hs okk hn' hil hin hk
    rcases hcase with ⟨rfl, rfl, rfl⟩ | ⟨e1, rfl⟩ | ⟨rfl, e2, rfl⟩
    · go_enter Try.func50, Try.ntmps50
      go_wp2_with fail
      go_quiet (fail)
      go_wp2_with fail
      go_ret
      exact ⟨rfl, _, rfl⟩
    · have e4 : (pk == p) = false := beq_eq_false_iff_ne.2 e1
      clear e1
      go_enter Try.func50, Try.ntmps50
      go_wp2_with fail
      go_quiet (fail)
      go_wp2_with fail
      go_ret
      exact ⟨rfl, _, rfl⟩
    · have e4 : (sk.toList == s.toList) = false := str_ne e2
      clear e2
      go_enter Try.func50, Try.ntmps50
      go_wp2_with fail
      go_quiet (fail)
      go_wp2_with fail
      go_ret
      exact ⟨rfl, _, rfl⟩
  · have hres : res = false := by
      rw [← hr]
      by_cases hmm : (p, bs) ∈ K
      · have h1 := hnum hmm
        have : ¬ num K (p, bs) = k := by omega
        simp [this]
      · simp [hmm]
    subst hres
    clear h hK hnd hv hq hr hnum v0 v1 hs hn'
    rcases (show k < 1 ∨ (1 ≤ k ∧ ¬ k ≤ n) by omega) with h1 | ⟨h1, h2⟩
    · have g1 : decide (k ≥ 1) = false := decide_eq_false (by omega)
      have g2 : decide (1 ≤ k) = false := decide_eq_false (by omega)
      clear hin
      go_enter Try.func50, Try.ntmps50
      go_wp2_with fail
      go_quiet (fail)
      go_wp2_with fail
      go_ret
      exact ⟨rfl, _, rfl⟩
    · have g1 : decide (k ≥ 1) = true := decide_eq_true (by omega)
      have g2 : decide (1 ≤ k) = true := decide_eq_true (by omega)
      have g3 : decide (k ≤ (n : Int)) = false := decide_eq_false (by omega)
      clear hin h2
      go_enter Try.func50, Try.ntmps50
      go_wp2_with fail
      go_quiet (fail)
      go_wp2_with fail
      go_ret
      exact ⟨rfl, _, rfl⟩
end Go.Proofs.Ytjdcjofogmplcaa
