/- What a log's entries are like: no client and time twice, each client's times rise. Plain. -/
import Derived.Test.YtfhlcjfgbhmecaaLedgerF
namespace Go.Proofs.Ytfhlcjfgbhmecaa
open Go.RowKit
set_option linter.unusedVariables false

/-- The time of a client's last entry, 0: there is none. -/
def lastE (es : List Ent) (c : Int) : Int := es.foldl (fun t e => if e.1.1 = c then e.1.2.1 else t) 0
theorem lastE_snoc (es : List Ent) (e : Ent) (c : Int) : lastE (es ++ [e]) c = if e.1.1 = c then e.1.2.1 else lastE es c := by
  unfold lastE
  rw [List.foldl_append]
  rfl
theorem okR_facts {ct : List (Int × Int)} {r : Rq} (h : okR ct r = true) : hasB ct r.1 = true ∧ (0 ≤ r.1 ∧ r.1 < ct.length) ∧ lastOf ct r.1 < r.2.1 ∧ ∀ x, putSt ct r.1 r.2.1 x = ct.set r.1.toNat (r.2.1, x) := by
  unfold okR at h
  simp only [Bool.and_eq_true, decide_eq_true_eq] at h
  have hb := of_decide_eq_true h.1
  refine ⟨h.1, hb, h.2, fun x => ?_⟩
  have hp : putB ct r.1 r.2.1 = true := by
    unfold putB
    rw [h.1, Bool.true_and]
    refine decide_eq_true ?_
    have := h.2
    unfold lastOf at this
    rwa [if_pos h.1] at this
  unfold putSt
  rw [if_pos hp]
theorem lastOf_set (ct : List (Int × Int)) (k : Int) (hk : 0 ≤ k ∧ k < ct.length) (t x c : Int) (hc : 0 ≤ c) : lastOf (ct.set k.toNat (t, x)) c = if k = c then t else lastOf ct c := by
  have hl : k.toNat < ct.length := by omega
  unfold lastOf hasB
  rw [List.length_set]
  by_cases h : k = c
  · subst h
    rw [if_pos (decide_eq_true hk), if_pos rfl]
    simp [List.getD, hl]
  · rw [if_neg h]
    have : k.toNat ≠ c.toNat := by omega
    simp [List.getD, List.getElem?_set_ne this]
/-- What holds of a log. -/
structure Good (C : Nat) (s : LSt) : Prop where
  len : s.2.2.length = C
  last : ∀ c : Int, 0 ≤ c → c < (C : Int) → lastOf s.2.2 c = lastE s.1 c
  ent : ∀ (i : Nat) (e : Ent), s.1[i]? = some e → (0 ≤ e.1.1 ∧ e.1.1 < (C : Int)) ∧ lastE (s.1.take i) e.1.1 < e.1.2.1
theorem Good.step {C : Nat} {s : LSt} (h : Good C s) (r : Rq) : Good C (stepR s r) := by
  unfold stepR
  split
  · rename_i hok
    obtain ⟨_, h2, h3, h4⟩ := okR_facts hok
    have h5 : 0 ≤ r.1 ∧ r.1 < (C : Int) := by rw [← h.len]; exact h2
    refine ⟨?_, fun c hc hc2 => ?_, fun i e he => ?_⟩
    · show (putSt _ _ _ _).length = C
      rw [putSt_len]; exact h.len
    · show lastOf (putSt s.2.2 r.1 r.2.1 (resR s r)) c = lastE (s.1 ++ [(r, resR s r)]) c
      rw [h4, lastOf_set _ _ h2 _ _ _ hc, lastE_snoc, h.last c hc hc2]
    · have he : (s.1 ++ [(r, resR s r)])[i]? = some e := he
      show (0 ≤ e.1.1 ∧ e.1.1 < (C : Int)) ∧ lastE ((s.1 ++ [(r, resR s r)]).take i) e.1.1 < e.1.2.1
      by_cases hi : i < s.1.length
      · rw [List.getElem?_append_left hi] at he
        rw [List.take_append_of_le_length (by omega)]
        exact h.ent i e he
      · rw [List.getElem?_append_right (by omega)] at he
        have hi2 : i = s.1.length := by
          have := (List.getElem?_eq_some_iff.1 he).1
          simp at this
          omega
        subst hi2
        rw [Nat.sub_self] at he
        simp only [List.getElem?_cons_zero, Option.some.injEq] at he
        subst he
        rw [List.take_left]
        exact ⟨h5, by rw [← h.last r.1 h5.1 h5.2]; exact h3⟩
  · exact h
theorem Good.run {C : Nat} {s : LSt} (h : Good C s) (rs : List Rq) : Good C (runL s rs) := by
  induction rs generalizing s with
  | nil => exact h
  | cons r rs ih => exact ih (h.step r)
theorem Good.fold (C : Nat) (bs : List Bt) : Good C (foldB C bs) :=
  Good.run ⟨by simp, fun c h0 h1 => by
    unfold lastOf
    split
    · rw [List.getD_eq_getElem?_getD, List.getElem?_replicate]
      split <;> rfl
    · rfl, fun i e he => by simp at he⟩ _

def four (f : Int → Int) : Array Value := #[.int .i64 (f 0), .int .i64 (f 1), .int .i64 (f 2), .int .i64 (f 3)]
theorem four_get (f : Int → Int) (k : Nat) (h : k < 4) : (four f)[k]? = some (.int .i64 (f k)) := by
  match k, h with
  | 0, _ => rfl
  | 1, _ => rfl
  | 2, _ => rfl
  | 3, _ => rfl
theorem four_set (f : Int → Int) (k : Nat) (h : k < 4) (v : Int) : (four f).setIfInBounds k (.int .i64 v) = four (fun c => if (k : Int) = c then v else f c) := by
  match k, h with
  | 0, _ => rfl
  | 1, _ => rfl
  | 2, _ => rfl
  | 3, _ => rfl
end Go.Proofs.Ytfhlcjfgbhmecaa
