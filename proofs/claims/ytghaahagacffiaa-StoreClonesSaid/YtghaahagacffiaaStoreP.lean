/- Plain laws of the store's operations. -/
import Derived.Test.YtghaahagacffiaaStoreA
namespace Go.Proofs.Ytghaahagacffiaa
open Go.RowKit
set_option linter.unusedVariables false

theorem opB_key {key val : Int} (h : opB key val = true) : 0 ≤ key ∧ key < 64 := by
  unfold opB at h
  simp only [Bool.and_eq_true, decide_eq_true_eq] at h
  exact h.1
theorem opB_val {key val : Int} (h : opB key val = true) : -2147483648 < val ∧ val < 2147483648 := by
  unfold opB smallB at h
  simp only [Bool.and_eq_true, decide_eq_true_eq] at h
  exact h.2
theorem set_other (st : List (Bool × Int)) (k j : Nat) (x : Bool × Int) (h : k ≠ j) : (st.set k x).getD j (false, 0) = st.getD j (false, 0) := by
  simp [List.getD, List.getElem?_set_ne h]
theorem set_at (st : List (Bool × Int)) (k : Nat) (x : Bool × Int) (h : k < st.length) : (st.set k x).getD k (false, 0) = x := by
  simp [List.getD, h]
theorem opSt_no (st : List (Bool × Int)) (kind : Int) {key val : Int} (h : opB key val = false) : opSt st kind key val = st := by
  unfold opSt
  rw [h]
  rfl
theorem opR_no (st : List (Bool × Int)) (kind : Int) {key val : Int} (h : opB key val = false) : opR st kind key val = 0 := by
  unfold opR
  rw [h]
  rfl
theorem op_other (st : List (Bool × Int)) (kind key val : Int) (j : Nat) (h : key ≠ j) : (opSt st kind key val).getD j (false, 0) = st.getD j (false, 0) := by
  by_cases hb : opB key val = true
  · have hk := opB_key hb
    have hne : key.toNat ≠ j := by omega
    unfold opSt
    rw [if_pos hb]
    split
    · exact set_other _ _ _ _ hne
    · split
      · split
        · exact set_other _ _ _ _ hne
        · rfl
      · split
        · exact set_other _ _ _ _ hne
        · rfl
  · rw [opSt_no st kind (by simpa using hb)]
theorem op_same {st st' : List (Bool × Int)} (h1 : st.length = 64) (h2 : st'.length = 64) (kind key val : Int) (h : st.getD key.toNat (false, 0) = st'.getD key.toNat (false, 0)) :
    (opSt st kind key val).getD key.toNat (false, 0) = (opSt st' kind key val).getD key.toNat (false, 0) := by
  by_cases hb : opB key val = true
  · have hk := opB_key hb
    have hl : key.toNat < st.length := by omega
    have hl' : key.toNat < st'.length := by omega
    have hv : valOf st key = valOf st' key := by unfold valOf; rw [h]
    unfold opSt
    rw [if_pos hb, if_pos hb, hv]
    split
    · rw [set_at _ _ _ hl, set_at _ _ _ hl']
    · split
      · split
        · rw [set_at _ _ _ hl, set_at _ _ _ hl']
        · exact h
      · split
        · rw [set_at _ _ _ hl, set_at _ _ _ hl']
        · exact h
  · rw [opSt_no st kind (by simpa using hb), opSt_no st' kind (by simpa using hb)]
    exact h
theorem op_sameR {st st' : List (Bool × Int)} (kind key val : Int) (h5 : kind ≠ 5) (h : st.getD key.toNat (false, 0) = st'.getD key.toNat (false, 0)) : opR st kind key val = opR st' kind key val := by
  have hv : valOf st key = valOf st' key := by unfold valOf; rw [h]
  unfold opR
  rw [hv, if_neg h5, if_neg h5]
theorem op_sum (st : List (Bool × Int)) (key val : Int) : opSt st 5 key val = st := by
  unfold opSt
  split <;> simp
end Go.Proofs.Ytghaahagacffiaa
