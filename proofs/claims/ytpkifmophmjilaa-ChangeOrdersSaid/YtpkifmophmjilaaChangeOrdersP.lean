/- ChangeOrders: the plain law: votes for one view, told by who has voted. -/
import Derived.Test.YtpkifmophmjilaaChangeR
namespace Go.Proofs.Ytpkifmophmjilaa
open Go.RowKit
set_option linter.unusedVariables false

def lst (vw : Int) (N : Nat) (H : Nat → Bool) : List Vt := (List.range N).map fun i => if H i then (true, vw, 7 + (i : Int)) else (false, 0, 0)
theorem lst_len (vw : Int) (N : Nat) (H : Nat → Bool) : (lst vw N H).length = N := by simp [lst]
theorem lst_get (vw : Int) (N : Nat) (H : Nat → Bool) (i : Nat) (h : i < (lst vw N H).length) : (lst vw N H)[i] = if H i then (true, vw, 7 + (i : Int)) else (false, 0, 0) := by simp [lst]
theorem lst_at (vw : Int) (N : Nat) (H : Nat → Bool) (i : Nat) (h : i < N) : voteAt (lst vw N H) i = if H i then (true, vw, 7 + (i : Int)) else (false, 0, 0) := by
  have hl : i < (lst vw N H).length := by rw [lst_len]; exact h
  unfold voteAt
  rw [Int.toNat_natCast, List.getD_eq_getElem?_getD, List.getElem?_eq_getElem hl, lst_get]
  rfl
theorem lst_no (vw : Int) (N : Nat) : List.replicate N ((false, 0, 0) : Vt) = lst vw N (fun _ => false) := by
  simp [lst, List.map_const']
def cntH (H : Nat → Bool) (k : Nat) : Nat := ((List.range k).filter H).length
theorem cntH_succ (H : Nat → Bool) (k : Nat) : cntH H (k + 1) = cntH H k + if H k then 1 else 0 := by
  unfold cntH
  rw [List.range_succ, List.filter_append, List.length_append, List.filter_cons]
  split <;> simp_all
theorem cntH_le (H : Nat → Bool) (k : Nat) : cntH H k ≤ k := by
  have := List.length_filter_le H (List.range k)
  rwa [List.length_range] at this
theorem cntH_mono (H : Nat → Bool) {j k : Nat} (h : j ≤ k) : cntH H j ≤ cntH H k := by
  induction k with
  | zero => have : j = 0 := by omega
            subst this; exact Nat.le_refl _
  | succ k ih =>
    rcases Nat.lt_or_ge j (k + 1) with h1 | h1
    · rw [cntH_succ]
      have := ih (by omega)
      omega
    · have : j = k + 1 := by omega
      subst this; exact Nat.le_refl _
def updH (H : Nat → Bool) (d : Nat) : Nat → Bool := fun j => H j || decide (j = d)
theorem cntH_upd {H : Nat → Bool} {d : Nat} (hd : H d = false) : ∀ k, cntH (updH H d) k = cntH H k + if d < k then 1 else 0
  | 0 => by simp [cntH]
  | k + 1 => by
    rw [cntH_succ, cntH_succ, cntH_upd hd k]
    unfold updH
    by_cases h : k = d
    · subst h
      rw [hd, decide_eq_true rfl, Bool.false_or, if_neg (Nat.lt_irrefl _), if_pos (Nat.lt_succ_self _)]
      simp
    · rw [decide_eq_false h, Bool.or_false]
      by_cases h1 : d < k
      · rw [if_pos h1, if_pos (show d < k + 1 by omega)]; omega
      · rw [if_neg h1, if_neg (show ¬ d < k + 1 by omega)]; omega
theorem lst_put_yes {vw : Int} {N : Nat} {H : Nat → Bool} {d : Nat} (hd : H d = false) (hN : d < N) (hv : 0 ≤ vw ∧ vw < 12) : vputB (lst vw N H) d vw = true ∧ vputSt (lst vw N H) d vw (7 + (d : Int)) = lst vw N (updH H d) := by
  have e : vputB (lst vw N H) d vw = true := by
    unfold vputB
    rw [lst_at vw N H d hN, hd, lst_len, decide_eq_true (show (0 : Int) ≤ d ∧ (d : Int) < N by omega), decide_eq_true hv]
    rfl
  refine ⟨e, ?_⟩
  unfold vputSt
  rw [if_pos e, Int.toNat_natCast]
  apply List.ext_getElem
  · rw [List.length_set, lst_len, lst_len]
  · intro i h1 h2
    rw [lst_get, List.getElem_set]
    unfold updH
    split
    · rename_i h; subst h; simp
    · rename_i h
      rw [lst_get, decide_eq_false (fun q => h q.symm), Bool.or_false]
theorem lst_put_no {vw : Int} {N : Nat} {H : Nat → Bool} {d : Nat} (hd : H d = true) (hN : d < N) (s : Int) : vputB (lst vw N H) d vw = false ∧ vputSt (lst vw N H) d vw s = lst vw N H := by
  have e : vputB (lst vw N H) d vw = false := by
    unfold vputB
    rw [lst_at vw N H d hN, hd, if_pos rfl]
    simp
  exact ⟨e, vput_no s e⟩
theorem filterMap_congr' {α β : Type} {f g : α → Option β} : ∀ {l : List α}, (∀ x ∈ l, f x = g x) → l.filterMap f = l.filterMap g
  | [], _ => rfl
  | x :: xs, h => by
    rw [List.filterMap_cons, List.filterMap_cons, h x (by simp), filterMap_congr' fun y hy => h y (by simp [hy])]
def ent (H : Nat → Bool) (k : Nat) : List (Int × Int) := (List.range k).filterMap fun i => if H i then some ((i : Int), 7 + (i : Int)) else none
theorem mat_lst (vw : Int) (N : Nat) (H : Nat → Bool) (k : Nat) (hk : k ≤ N) : mat vw (lst vw N H) k = ent H k := by
  unfold mat ent
  apply filterMap_congr'
  intro i hi
  have hi := List.mem_range.1 hi
  have h := lst_at vw N H i (by omega)
  unfold voteAt at h
  rw [Int.toNat_natCast] at h
  unfold matAt
  rw [h]
  cases H i <;> simp
theorem mat_lst_no (vw v : Int) (hne : vw ≠ v) (N : Nat) (H : Nat → Bool) (k : Nat) (hk : k ≤ N) : mat v (lst vw N H) k = [] := by
  unfold mat
  apply List.filterMap_eq_nil_iff.2
  intro i hi
  have hi := List.mem_range.1 hi
  have h := lst_at vw N H i (by omega)
  unfold voteAt at h
  rw [Int.toNat_natCast] at h
  unfold matAt
  rw [h]
  cases H i <;> simp [hne]
theorem ent_succ (H : Nat → Bool) (k : Nat) : ent H (k + 1) = ent H k ++ if H k then [((k : Int), 7 + (k : Int))] else [] := by
  unfold ent
  rw [List.range_succ, List.filterMap_append]
  congr 1
  simp only [List.filterMap_cons, List.filterMap_nil]
  cases H k <;> simp
theorem ent_len (H : Nat → Bool) : ∀ k, (ent H k).length = cntH H k
  | 0 => rfl
  | k + 1 => by rw [ent_succ, cntH_succ, List.length_append, ent_len H k]; cases H k <;> simp
theorem ent_pre (H : Nat → Bool) {j : Nat} : ∀ k, j ≤ k → ent H j <+: ent H k
  | 0, h => by
    have : j = 0 := by omega
    subst this; exact List.prefix_refl _
  | k + 1, h => by
    rcases Nat.lt_or_ge j (k + 1) with h1 | h1
    · rw [ent_succ]
      exact (ent_pre H k (by omega)).trans (List.prefix_append _ _)
    · have : j = k + 1 := by omega
      subst this; exact List.prefix_refl _
theorem ent_get (H : Nat → Bool) {k N : Nat} (hk : k < N) (h : H k = true) : (ent H N)[cntH H k]? = some ((k : Int), 7 + (k : Int)) := by
  have hp := ent_pre H N (show k + 1 ≤ N by omega)
  obtain ⟨r, hr⟩ := hp
  rw [← hr, ent_succ, h, if_pos rfl, List.append_assoc, List.getElem?_append_right (by rw [ent_len]; exact Nat.le_refl _), ent_len, Nat.sub_self]
  rfl
theorem lst_drop_no (vw : Int) (N : Nat) (H : Nat → Bool) : dropN (lst vw N H) vw = 0 ∧ dropSt (lst vw N H) vw = lst vw N H := by
  constructor
  · unfold dropN
    rw [List.filter_eq_nil_iff.2]
    · rfl
    · intro p hp
      obtain ⟨i, _, rfl⟩ := List.mem_map.1 hp
      cases H i <;> simp
  · unfold dropSt
    conv => rhs; rw [← List.map_id (lst vw N H)]
    apply List.map_congr_left
    intro p hp
    obtain ⟨i, _, rfl⟩ := List.mem_map.1 hp
    unfold dropV
    cases H i <;> simp
theorem lst_drop (vw : Int) (N : Nat) (H : Nat → Bool) : dropN (lst vw N H) (vw + 1) = cntH H N := by
  unfold dropN lst cntH
  rw [List.filter_map, List.length_map]
  congr 1
  apply List.filter_congr
  intro i _
  simp only [Function.comp]
  by_cases hh : H i = true
  · simp only [hh, if_true, Bool.true_and]
    exact decide_eq_true (by omega)
  · simp [hh]

def seenC (n : Nat) (f : Nat → Bool) : Array Value := ((List.range n).map fun i => Value.bool (f i)).toArray
theorem seenC_get (n : Nat) (f : Nat → Bool) (i : Nat) (h : i < n) : (seenC n f)[i]? = some (.bool (f i)) := by
  simp [seenC, h]
theorem seenC_set (n : Nat) (f : Nat → Bool) (i : Nat) (h : i < n) : (seenC n f).setIfInBounds i (.bool true) = seenC n (updH f i) := by
  apply Array.ext
  · simp [seenC]
  · intro j h1 h2
    have hj : j < n := by simpa [seenC] using h2
    rw [Array.getElem_setIfInBounds (by simpa [seenC] using hj)]
    by_cases e : i = j
    · subst e; simp [seenC, updH]
    · have e' : ¬ j = i := fun q => e q.symm
      simp [seenC, e, e', updH]
end Go.Proofs.Ytpkifmophmjilaa
