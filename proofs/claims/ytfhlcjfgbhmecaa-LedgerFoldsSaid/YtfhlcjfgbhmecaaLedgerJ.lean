/- Logs run again. Plain. -/
import Derived.Test.YtfhlcjfgbhmecaaLedgerI
namespace Go.Proofs.Ytfhlcjfgbhmecaa
open Go.RowKit
set_option linter.unusedVariables false

/-- A log's own requests make the log. -/
theorem replay (st : List (Bool × Int)) (ct : List (Int × Int)) : ∀ rs, runL ([], st, ct) ((runL ([], st, ct) rs).1.map Prod.fst) = runL ([], st, ct) rs := by
  intro rs
  induction rs generalizing st ct with
  | nil => rfl
  | cons r rs ih =>
    have e1 : runL ([], st, ct) (r :: rs) = runL (stepR ([], st, ct) r) rs := rfl
    rw [e1]
    by_cases hok : okR ct r = true
    · have e2 : stepR ([], st, ct) r = ([(r, resR ([], st, ct) r)], opSt st r.2.2.1 r.2.2.2.1 r.2.2.2.2.1, putSt ct r.1 r.2.1 (resR ([], st, ct) r)) := by
        unfold stepR
        rw [if_pos hok]
        rfl
      generalize resR ([], st, ct) r = x at e2
      generalize opSt st r.2.2.1 r.2.2.2.1 r.2.2.2.2.1 = st1 at e2
      generalize putSt ct r.1 r.2.1 x = ct1 at e2
      rw [e2, runL_app [(r, x)] st1 ct1 rs, List.map_append, List.map_cons, List.map_nil, List.singleton_append]
      show runL (stepR ([], st, ct) r) _ = _
      rw [e2, runL_app [(r, x)] st1 ct1, ih]
    · have e2 : stepR ([], st, ct) r = ([], st, ct) := by
        unfold stepR
        rw [if_neg hok]
      rw [e2]
      exact ih st ct
/-- What stands in a log was asked. -/
theorem run_mem (s : LSt) : ∀ rs, ∀ e ∈ (runL s rs).1, e ∈ s.1 ∨ e.1 ∈ rs := by
  intro rs
  induction rs generalizing s with
  | nil => intro e he; exact .inl he
  | cons r rs ih =>
    intro e he
    rcases ih (stepR s r) e he with h | h
    · unfold stepR at h
      split at h
      · have h : e ∈ s.1 ++ [(r, resR s r)] := h
        rcases List.mem_append.1 h with h | h
        · exact .inl h
        · rw [List.mem_singleton.1 h]
          exact .inr (by simp)
      · exact .inl h
    · exact .inr (by simp [h])
theorem fold_mem {w : World} {C : Nat} {bs : List Bt} (hb : ∀ x ∈ bs, ∀ r ∈ x.rs, RqI r) : ∀ e ∈ (foldB C bs).1, RqI e.1 := by
  intro e he
  rcases run_mem _ _ e he with h | h
  · cases h
  · obtain ⟨x, hx, hr⟩ := List.mem_flatMap.1 h
    exact hb x hx _ hr
/-- What was run once is passed over. -/
theorem okR_step_self (s : LSt) (r : Rq) : okR (stepR s r).2.2 r = false := by
  unfold stepR
  split
  · rename_i hok
    obtain ⟨_, h2, h3, h4⟩ := okR_facts hok
    show okR (putSt s.2.2 r.1 r.2.1 (resR s r)) r = false
    rw [h4]
    unfold okR
    rw [lastOf_set _ _ h2 _ _ _ h2.1, if_pos rfl]
    simp
  · rename_i hok
    simpa using hok
theorem okR_step {s : LSt} {q : Rq} (h : okR s.2.2 q = false) (r : Rq) : okR (stepR s r).2.2 q = false := by
  unfold stepR
  split
  · rename_i hok
    obtain ⟨_, h2, h3, h4⟩ := okR_facts hok
    show okR (putSt s.2.2 r.1 r.2.1 (resR s r)) q = false
    rw [h4]
    unfold okR at h ⊢
    have e : hasB (s.2.2.set r.1.toNat (r.2.1, resR s r)) q.1 = hasB s.2.2 q.1 := by unfold hasB; rw [List.length_set]
    rw [e]
    by_cases hb : hasB s.2.2 q.1 = true
    · rw [hb, Bool.true_and] at h ⊢
      have hq := of_decide_eq_true hb
      rw [lastOf_set _ _ h2 _ _ _ hq.1]
      have h5 := of_decide_eq_false h
      split
      · rename_i e1
        rw [e1] at h3
        exact decide_eq_false (by omega)
      · exact h
    · simp only [Bool.not_eq_true] at hb
      rw [hb, Bool.false_and]
  · exact h
theorem okR_run {s : LSt} {q : Rq} (h : okR s.2.2 q = false) (rs : List Rq) : okR (runL s rs).2.2 q = false := by
  induction rs generalizing s with
  | nil => exact h
  | cons r rs ih => exact ih (okR_step h r)
theorem okR_ran (s : LSt) (rs : List Rq) : ∀ q ∈ rs, okR (runL s rs).2.2 q = false := by
  induction rs generalizing s with
  | nil => intro q hq; cases hq
  | cons r rs ih =>
    intro q hq
    rcases List.mem_cons.1 hq with rfl | hq
    · exact okR_run (s := stepR s q) (okR_step_self s q) rs
    · exact ih (stepR s r) q hq
theorem run_none (s : LSt) : ∀ rs, (∀ q ∈ rs, okR s.2.2 q = false) → runL s rs = s := by
  intro rs
  induction rs with
  | nil => intro _; rfl
  | cons r rs ih =>
    intro h
    have e : stepR s r = s := by
      unfold stepR
      rw [h r (by simp)]
      simp
    show runL (stepR s r) rs = s
    rw [e]
    exact ih fun q hq => h q (by simp [hq])
/-- Its own requests and then all again. -/
theorem again_all (st : List (Bool × Int)) (ct : List (Int × Int)) (rs : List Rq) : runL ([], st, ct) ((runL ([], st, ct) rs).1.map Prod.fst ++ rs) = runL ([], st, ct) rs := by
  rw [runL_cat, replay, run_none _ _ (okR_ran _ rs)]
/-- A log that its own requests make: its beginnings are made by theirs. -/
theorem replay_take {s0 : LSt} (h0 : s0.1 = []) {E : List Ent} (h : (runL s0 (E.map Prod.fst)).1 = E) (hs : Smalls s0.2.1) (i : Nat) (hi : i ≤ E.length) : (runL s0 ((E.take i).map Prod.fst)).1 = E.take i := by
  have e1 : E.map Prod.fst = (E.take i).map Prod.fst ++ (E.drop i).map Prod.fst := by rw [← List.map_append, List.take_append_drop]
  rw [e1, runL_cat] at h
  obtain ⟨⟨A, st, ct⟩, hA⟩ : ∃ x, runL s0 ((E.take i).map Prod.fst) = x := ⟨_, rfl⟩
  have i1 := runL_inv hs ((E.take i).map Prod.fst)
  rw [hA] at h i1 ⊢
  have i2 := runL_inv (s := ([], st, ct)) i1.1 ((E.drop i).map Prod.fst)
  rw [runL_app] at h
  have hl := congrArg List.length h
  have l1 := i1.2.2
  have l2 := i2.2.2
  rw [h0] at l1
  simp only [List.length_append, List.length_map, List.length_take, List.length_drop, List.length_nil] at hl l1 l2
  have hAl : A.length = i := by omega
  have := congrArg (List.take i) h
  rw [← this]
  simp only
  rw [← hAl, List.take_left]

theorem replay_step {s0 : LSt} (h0 : s0.1 = []) {E : List Ent} (h : (runL s0 (E.map Prod.fst)).1 = E) (hs : Smalls s0.2.1) {k : Nat} {e : Ent} (he : E[k]? = some e) {st2 : List (Bool × Int)} {ct2 : List (Int × Int)} (hk : runL s0 ((E.take k).map Prod.fst) = (E.take k, st2, ct2)) :
    ∃ st3 ct3, runL ([], st2, ct2) [e.1] = ([e], st3, ct3) ∧ runL s0 ((E.take (k + 1)).map Prod.fst) = (E.take (k + 1), st3, ct3) := by
  have hkl := (List.getElem?_eq_some_iff.1 he).1
  have e1 := replay_take h0 h hs (k + 1) (by omega)
  have e2 : E.take (k + 1) = E.take k ++ [e] := by rw [List.take_add_one, he, Option.toList_some]
  obtain ⟨⟨out, st3, ct3⟩, ho⟩ : ∃ x, runL ([], st2, ct2) [e.1] = x := ⟨_, rfl⟩
  have e3 : runL s0 ((E.take (k + 1)).map Prod.fst) = (E.take k ++ out, st3, ct3) := by
    rw [e2, List.map_append, runL_cat, hk, List.map_cons, List.map_nil, runL_app, ho]
  rw [e3] at e1
  have e4 : E.take k ++ out = E.take k ++ [e] := by rw [← e2]; exact e1
  have e5 := List.append_cancel_left e4
  subst e5
  exact ⟨st3, ct3, ho, by rw [e3, e2]⟩

/-- The result of a client's last entry. -/
def lastR (es : List Ent) (c : Int) : Int := es.foldl (fun t e => if e.1.1 = c then e.2 else t) 0
theorem lastR_snoc (es : List Ent) (e : Ent) (c : Int) : lastR (es ++ [e]) c = if e.1.1 = c then e.2 else lastR es c := by
  unfold lastR
  rw [List.foldl_append]
  rfl
/-- l is the place of a client's last entry, -1: there is none. -/
def LastAt (es : List Ent) (c l : Int) : Prop := (l = -1 ∧ lastE es c = 0 ∧ lastR es c = 0) ∨ ∃ (j : Nat) (e : Ent), l = j ∧ es[j]? = some e ∧ e.1.1 = c ∧ lastE es c = e.1.2.1 ∧ lastR es c = e.2
theorem LastAt.nil (c : Int) : LastAt [] c (-1) := .inl ⟨rfl, rfl, rfl⟩
theorem LastAt.yes {es : List Ent} {c : Int} {e : Ent} (he : e.1.1 = c) : LastAt (es ++ [e]) c es.length :=
  .inr ⟨es.length, e, rfl, by simp, he, by rw [lastE_snoc, if_pos he], by rw [lastR_snoc, if_pos he]⟩
theorem LastAt.no {es : List Ent} {c l : Int} {e : Ent} (h : LastAt es c l) (he : ¬ e.1.1 = c) : LastAt (es ++ [e]) c l := by
  rcases h with ⟨h1, h2, h3⟩ | ⟨j, x, h1, h2, h3, h4, h5⟩
  · exact .inl ⟨h1, by rw [lastE_snoc, if_neg he, h2], by rw [lastR_snoc, if_neg he, h3]⟩
  · exact .inr ⟨j, x, h1, by rw [List.getElem?_append_left (List.getElem?_eq_some_iff.1 h2).1]; exact h2, h3, by rw [lastE_snoc, if_neg he, h4], by rw [lastR_snoc, if_neg he, h5]⟩
/-- The replies are those of the last entries. -/
structure GoodR (C : Nat) (s : LSt) : Prop where
  good : Good C s
  res : ∀ c : Int, 0 ≤ c → c < (C : Int) → s.2.2.getD c.toNat (0, 0) = (lastE s.1 c, lastR s.1 c)
theorem getD_set' (ct : List (Int × Int)) (n m : Nat) (x : Int × Int) (hn : n < ct.length) : (ct.set n x).getD m (0, 0) = if n = m then x else ct.getD m (0, 0) := by
  simp only [List.getD_eq_getElem?_getD, List.getElem?_set]
  split
  · rename_i h; subst h; simp
  · rfl
theorem GoodR.step {C : Nat} {s : LSt} (h : GoodR C s) (r : Rq) : GoodR C (stepR s r) := by
  refine ⟨h.good.step r, fun c h0 h1 => ?_⟩
  unfold stepR
  split
  · rename_i hok
    obtain ⟨_, h2, h3, h4⟩ := okR_facts hok
    show (putSt s.2.2 r.1 r.2.1 (resR s r)).getD c.toNat (0, 0) = (lastE (s.1 ++ [(r, resR s r)]) c, lastR (s.1 ++ [(r, resR s r)]) c)
    rw [h4, getD_set' _ _ _ _ (by omega), lastE_snoc, lastR_snoc]
    by_cases e : r.1 = c
    · rw [if_pos (by rw [e]), if_pos e, if_pos e]
    · rw [if_neg (by omega), if_neg e, if_neg e]
      exact h.res c h0 h1
  · exact h.res c h0 h1
theorem GoodR.run {C : Nat} {s : LSt} (h : GoodR C s) (rs : List Rq) : GoodR C (runL s rs) := by
  induction rs generalizing s with
  | nil => exact h
  | cons r rs ih => exact ih (h.step r)
theorem GoodR.fold (C : Nat) (bs : List Bt) : GoodR C (foldB C bs) := by
  refine GoodR.run ⟨Good.fold C [], fun c h0 h1 => ?_⟩ _
  show (List.replicate C ((0 : Int), (0 : Int))).getD c.toNat (0, 0) = (0, 0)
  rw [List.getD_eq_getElem?_getD, List.getElem?_replicate]
  split <;> rfl
/-- Times are at least 1 (0 where there is none). -/
theorem Good.pos {C : Nat} {s : LSt} (h : Good C s) : ∀ (i : Nat), i ≤ s.1.length → ∀ c, 0 ≤ lastE (s.1.take i) c := by
  intro i
  induction i with
  | zero => intro _ c; simp [lastE]
  | succ i ih =>
    intro hi c
    have hi' : i < s.1.length := by omega
    rw [List.take_add_one, List.getElem?_eq_getElem hi', Option.toList_some, lastE_snoc]
    have h1 := (h.ent i _ (List.getElem?_eq_getElem hi')).2
    have h2 := ih (by omega) (s.1[i]'hi').1.1
    split
    · omega
    · exact ih (by omega) c
theorem Good.time {C : Nat} {s : LSt} (h : Good C s) {i : Nat} {e : Ent} (he : s.1[i]? = some e) : 1 ≤ e.1.2.1 := by
  have h1 := (h.ent i e he).2
  have h2 := h.pos i (Nat.le_of_lt (List.getElem?_eq_some_iff.1 he).1) e.1.1
  omega
/-- What is answered about a client. -/
theorem GoodR.asks {C : Nat} {s : LSt} (h : GoodR C s) {c l : Int} (h0 : 0 ≤ c) (h1 : c < (C : Int)) (hl : LastAt s.1 c l) :
    (l = -1 ∧ lastOf s.2.2 c = 0 ∧ getB s.2.2 c 0 = false ∧ getR s.2.2 c 0 = 0) ∨ ∃ (j : Nat) (e : Ent), l = j ∧ s.1[j]? = some e ∧ 1 ≤ e.1.2.1 ∧ lastOf s.2.2 c = e.1.2.1 ∧ getB s.2.2 c e.1.2.1 = true ∧ getR s.2.2 c e.1.2.1 = e.2 ∧ getB s.2.2 c (e.1.2.1 - 1) = false ∧ getR s.2.2 c (e.1.2.1 - 1) = 0 := by
  have hg := h.res c h0 h1
  have hb : hasB s.2.2 c = true := decide_eq_true ⟨h0, by rw [h.good.len]; exact h1⟩
  have hlast := h.good.last c h0 h1
  rcases hl with ⟨e0, e1, e2⟩ | ⟨j, e, e0, e1, e2, e3, e4⟩
  · refine .inl ⟨e0, by rw [hlast, e1], ?_, ?_⟩
    · unfold getB; simp
    · unfold getR getB; simp
  · have ht := h.good.time e1
    have hB : getB s.2.2 c e.1.2.1 = true := by
      unfold getB
      rw [hb, hg, e3]
      simp [ht]
    have hN : getB s.2.2 c (e.1.2.1 - 1) = false := by
      unfold getB
      rw [hb, hg, e3]
      have : ¬ e.1.2.1 = e.1.2.1 - 1 := by omega
      simp [this]
    refine .inr ⟨j, e, e0, e1, ht, by rw [hlast, e3], hB, ?_, hN, ?_⟩
    · unfold getR
      rw [hB, hg, e4]
      simp
    · unfold getR
      rw [hN]
      simp
end Go.Proofs.Ytfhlcjfgbhmecaa
