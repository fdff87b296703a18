/- Regions that draw their order, walked by a plan, as in XPlan; here all operations from number n on are late: of none of them is anything asked behind it; and one of three may come up. Over any program. -/
import Derived.Test.YtpkifmophmjilaaPlan
namespace Go.Proofs.Ytpkifmophmjilaa
open Go.RowKit
set_option linter.unusedVariables false

inductive Pln where
  | done
  | take (i : Nat) (p : Pln)
  | free (i : Nat) (p : Pln)
  | one (i : Nat) (p : Pln)
  | two (i : Nat) (p : Pln) (j : Nat) (q : Pln)
  | three (i : Nat) (p : Pln) (j : Nat) (q : Pln) (k : Nat) (r : Pln)
def Pln.len : Pln → Nat
  | .done => 0
  | .take _ p => p.len + 1
  | .free _ p => p.len + 1
  | .one _ p => p.len + 1
  | .two _ p _ _ => p.len + 1
  | .three _ p _ _ _ _ => p.len + 1

section
variable {P : Program} {ops : Array Oper} {Q : Exit → Act → World → Prop} {md : Region.Mode} {S : World → Prop} {n : Nat}

/-- Number j waits for number i, at whatever hand. -/
def waits (md : Region.Mode) (ops : Array Oper) : Nat → Nat → Nat → Bool
  | 0, _, _ => false
  | f + 1, j, i => match ops[j]? with
    | some oj => oj.after.any fun e => Region.binds md e && (e.on == i || waits md ops f e.on i)
    | none => true
def lateOn (md : Region.Mode) (ops : Array Oper) (n i : Nat) : Bool := (List.range ops.size).all fun j => decide (j < n) || waits md ops 40 j i
/-- What is listed has all that it waits for listed. -/
def Closed (md : Region.Mode) (ops : Array Oper) (l : Array Bool) : Prop := ∀ k ok, ops[k]? = some ok → l.getD k false = true → ∀ e ∈ ok.after, Region.binds md e = true → l.getD e.on false = true
theorem waits_listed {l : Array Bool} (hc : Closed md ops l) {i : Nat} : ∀ (f j : Nat) oj, ops[j]? = some oj → (∀ e ∈ oj.after, Region.binds md e = true → l.getD e.on false = true) → (∀ k, l.getD k false = true → k < ops.size) → waits md ops f j i = true → l.getD i false = true
  | 0, _, _, _, _, _, h => by cases h
  | f + 1, j, oj, hj, hall, hsz, h => by
    unfold waits at h
    rw [hj] at h
    obtain ⟨e, he, hb⟩ := Array.any_eq_true'.1 h
    simp only [Bool.and_eq_true, Bool.or_eq_true, beq_iff_eq] at hb
    have hl := hall e he hb.1
    rcases hb.2 with h1 | h1
    · rw [← h1]; exact hl
    · have hlt := hsz _ hl
      exact waits_listed hc f e.on _ (Array.getElem?_eq_getElem hlt) (hc e.on _ (Array.getElem?_eq_getElem hlt) hl) hsz h1
theorem getD_set_true {l : Array Bool} {i k : Nat} (h : l.getD k false = true) : (l.setIfInBounds i true).getD k false = true := by
  rw [Array.getD_eq_getD_getElem?] at *
  rw [Array.getElem?_setIfInBounds]
  split
  · rename_i e
    subst e
    have hk : i < l.size := by
      rcases Nat.lt_or_ge i l.size with h' | h'
      · exact h'
      · rw [Array.getElem?_eq_none h'] at h; cases h
    simp [hk]
  · exact h
theorem getD_of_set {l : Array Bool} {i k : Nat} (h : (l.setIfInBounds i true).getD k false = true) : k = i ∨ l.getD k false = true := by
  rw [Array.getD_eq_getD_getElem?] at *
  rw [Array.getElem?_setIfInBounds] at h
  split at h
  · rename_i e
    exact .inl e.symm
  · exact .inr h
theorem Closed.set {l : Array Bool} (hc : Closed md ops l) {j : Nat} (hj : j ∈ Region.ready md ops l) : Closed md ops (l.setIfInBounds j true) := by
  intro k ok hk hl e he hb
  obtain ⟨_, oj, hoj, hall⟩ := mem_ready.1 hj
  rcases getD_of_set hl with rfl | hl
  · rw [hoj] at hk
    cases hk
    exact getD_set_true (hall e he hb)
  · exact getD_set_true (hc k ok hk hl e he hb)

def plnB (md : Region.Mode) (ops : Array Oper) (n : Nat) : Pln → Array Bool → Bool
  | .done, l => (Region.ready md ops l).isEmpty
  | .take i p, l => decide (i < n) && (Region.ready md ops l).contains i && Region.free md ops l i && lateOn md ops n i && plnB md ops n p (l.setIfInBounds i true)
  | .free i p, l => (Region.ready md ops l).contains i && Region.free md ops l i && plnB md ops n p (l.setIfInBounds i true)
  | .one i p, l => decide (Region.ready md ops l = [i]) && plnB md ops n p (l.setIfInBounds i true)
  | .two i p j q, l => decide (Region.ready md ops l = [i, j]) && decide (p.len = q.len) && plnB md ops n p (l.setIfInBounds i true) && plnB md ops n q (l.setIfInBounds j true)
  | .three i p j q k r, l => decide (Region.ready md ops l = [i, j, k]) && decide (p.len = q.len) && decide (p.len = r.len) && plnB md ops n p (l.setIfInBounds i true) && plnB md ops n q (l.setIfInBounds j true) && plnB md ops n r (l.setIfInBounds k true)

/-- Whatever order is picked from here on, and S behind every operation that is not late. -/
def wpAnyL (P : Program) (md : Region.Mode) (ops : Array Oper) (Q : Exit → Act → World → Prop) (S : World → Prop) (n : Nat) : Nat → Array Bool → Act → World → Prop
  | 0, listed, a, w => Region.ready md ops listed = [] ∧ Q .normal a w
  | fuel + 1, listed, a, w =>
    (Region.ready md ops listed = [] → Q .normal a w) ∧
    ∀ i ∈ Region.ready md ops listed, wpOp P ops Q i (fun a' w' => (n ≤ i ∨ (S w → S w')) ∧ wpAnyL P md ops Q S n fuel (listed.setIfInBounds i true) a' w') a w

theorem wpAny_of_L : ∀ (fuel : Nat) (listed : Array Bool) (a : Act) (w : World), wpAnyL P md ops Q S n fuel listed a w → wpAny P md ops Q fuel listed a w
  | 0, _, _, _, h => h
  | fuel + 1, _, _, _, h => ⟨h.1, fun i hi => wpOp_mono (fun a' w' h' => wpAny_of_L fuel _ a' w' h'.2) (h.2 i hi)⟩

theorem wpAnyL_first {i : Nat} {oi : Oper} {v : Value} (hin : i < n) (hsink : lateOn md ops n i = true) (hi : ops[i]? = some oi) (hsel : ∀ (j : Nat) (o : Oper) cs b, ops[j]? = some o → o.op ≠ .select cs b)
    (hQ : ∀ c a w, Q (.panic c) (a.put oi.dst v) w → Q (.panic c) a w) :
    ∀ (fuel : Nat) (listed : Array Bool) (a : Act) (w : World),
      (∀ j oj, ops[j]? = some oj → j ≠ i → listed.getD j true = false → (∀ e ∈ oj.after, Region.binds md e = true → e.on ≠ i) → oi.apart ops oj = true) → Closed md ops listed → (∀ k, listed.getD k false = true → k < ops.size) →
      i ∈ Region.ready md ops listed → YieldsIf P ops S oi v a → S w →
      wpAnyL P md ops Q S n fuel (listed.setIfInBounds i true) (a.put oi.dst v) w → wpAnyL P md ops Q S n (fuel + 1) listed a w := by
  intro fuel
  induction fuel with
  | zero =>
    intro listed a w _ _ _ hr hy hS H
    refine ⟨fun h => (by rw [h] at hr; cases hr), fun j hj => ?_⟩
    by_cases hji : j = i
    · subst hji; exact hy.wpOp hi hS ⟨.inr id, H⟩
    · have := ready_mono hj hji
      rw [H.1] at this
      cases this
  | succ fuel ih =>
    intro listed a w hfree hcl hsz hr hy hS H
    refine ⟨fun h => (by rw [h] at hr; cases hr), fun j hj => ?_⟩
    by_cases hji : j = i
    · subst hji; exact hy.wpOp hi hS ⟨.inr id, H⟩
    · have h1 := H.2 j (ready_mono hj hji)
      obtain ⟨hjun, oj, hoj, hall⟩ := mem_ready.1 hj
      have hiun : listed.getD i false = false := by
        have h0 := (mem_ready.1 hr).1
        rcases Nat.lt_or_ge i listed.size with h' | h'
        · simp [h'] at h0 ⊢; exact h0
        · simp [Array.getElem?_eq_none h']
      have hjlt : j < ops.size := (Array.getElem?_eq_some_iff.1 hoj).1
      have hjn : ¬ n ≤ j := fun hnj => by
        unfold lateOn at hsink
        have hs := List.all_eq_true.1 hsink j (List.mem_range.2 hjlt)
        simp only [Bool.or_eq_true, decide_eq_true_eq] at hs
        rcases hs with hs | hs
        · omega
        · have := waits_listed hcl 40 j oj hoj hall hsz hs
          rw [hiun] at this
          cases this
      have hnot : ∀ e ∈ oj.after, Region.binds md e = true → e.on ≠ i := fun e he hb heq => by
        have h1 := hall e he hb
        rw [heq, hiun] at h1
        cases h1
      have h2 := wpOp_putIf hoj (hfree j oj hoj hji hjun hnot) (fun cs b => hsel i oi cs b hi) (fun cs b => hsel j oj cs b hoj) hQ hy h1
      have hfree' : ∀ k ok, ops[k]? = some ok → k ≠ i → (listed.setIfInBounds j true).getD k true = false →
          (∀ e ∈ ok.after, Region.binds md e = true → e.on ≠ i) → oi.apart ops ok = true := fun k ok hk hki hun hno => by
        refine hfree k ok hk hki ?_ hno
        by_cases hjk : j = k
        · subst hjk; exact hjun
        · rw [getD_set_ne true hjk] at hun; exact hun
      have hsz' : ∀ k, (listed.setIfInBounds j true).getD k false = true → k < ops.size := fun k hk => by
        rcases getD_of_set hk with rfl | hk
        · exact hjlt
        · exact hsz k hk
      refine wpOp_mono (fun a' w' h3 => ⟨h3.2.1, ih (listed.setIfInBounds j true) a' w' hfree' (hcl.set hj) hsz' (ready_mono hr (Ne.symm hji)) h3.1 (h3.2.1.resolve_left hjn hS) ?_⟩) h2
      rw [Array.setIfInBounds_comm _ _ hji]
      exact h3.2.2

theorem wpAnyL_free {i : Nat} {oi : Oper} {v : Value} (hi : ops[i]? = some oi) (hsel : ∀ (j : Nat) (o : Oper) cs b, ops[j]? = some o → o.op ≠ .select cs b)
    (hQ : ∀ c a w, Q (.panic c) (a.put oi.dst v) w → Q (.panic c) a w) :
    ∀ (fuel : Nat) (listed : Array Bool) (a : Act) (w : World),
      (∀ j oj, ops[j]? = some oj → j ≠ i → listed.getD j true = false → (∀ e ∈ oj.after, Region.binds md e = true → e.on ≠ i) → oi.apart ops oj = true) →
      i ∈ Region.ready md ops listed → YieldsIf P ops (fun _ => True) oi v a →
      wpAnyL P md ops Q S n fuel (listed.setIfInBounds i true) (a.put oi.dst v) w → wpAnyL P md ops Q S n (fuel + 1) listed a w := by
  intro fuel
  induction fuel with
  | zero =>
    intro listed a w _ hr hy H
    refine ⟨fun h => (by rw [h] at hr; cases hr), fun j hj => ?_⟩
    by_cases hji : j = i
    · subst hji; exact hy.wpOp hi trivial ⟨.inr id, H⟩
    · have := ready_mono hj hji
      rw [H.1] at this
      cases this
  | succ fuel ih =>
    intro listed a w hfree hr hy H
    refine ⟨fun h => (by rw [h] at hr; cases hr), fun j hj => ?_⟩
    by_cases hji : j = i
    · subst hji; exact hy.wpOp hi trivial ⟨.inr id, H⟩
    · have h1 := H.2 j (ready_mono hj hji)
      obtain ⟨hjun, oj, hoj, hall⟩ := mem_ready.1 hj
      have hiun : listed.getD i false = false := by
        have h0 := (mem_ready.1 hr).1
        rcases Nat.lt_or_ge i listed.size with h' | h'
        · simp [h'] at h0 ⊢; exact h0
        · simp [Array.getElem?_eq_none h']
      have hnot : ∀ e ∈ oj.after, Region.binds md e = true → e.on ≠ i := fun e he hb heq => by
        have h1 := hall e he hb
        rw [heq, hiun] at h1
        cases h1
      have h2 := wpOp_putIf hoj (hfree j oj hoj hji hjun hnot) (fun cs b => hsel i oi cs b hi) (fun cs b => hsel j oj cs b hoj) hQ hy h1
      have hfree' : ∀ k ok, ops[k]? = some ok → k ≠ i → (listed.setIfInBounds j true).getD k true = false →
          (∀ e ∈ ok.after, Region.binds md e = true → e.on ≠ i) → oi.apart ops ok = true := fun k ok hk hki hun hno => by
        refine hfree k ok hk hki ?_ hno
        by_cases hjk : j = k
        · subst hjk; exact hjun
        · rw [getD_set_ne true hjk] at hun; exact hun
      refine wpOp_mono (fun a' w' h3 => ⟨h3.2.1, ih (listed.setIfInBounds j true) a' w' hfree' (ready_mono hr (Ne.symm hji)) h3.1 ?_⟩) h2
      rw [Array.setIfInBounds_comm _ _ hji]
      exact h3.2.2

def wpPln (P : Program) (ops : Array Oper) (Q : Exit → Act → World → Prop) (S : World → Prop) (n : Nat) : Pln → Act → World → Prop
  | .done, a, w => Q .normal a w
  | .take i p, a, w => ∃ o v, ops[i]? = some o ∧ YieldsIf P ops S o v a ∧ S w ∧ wpPln P ops Q S n p (a.put o.dst v) w
  | .free i p, a, w => ∃ o v, ops[i]? = some o ∧ YieldsIf P ops (fun _ => True) o v a ∧ wpPln P ops Q S n p (a.put o.dst v) w
  | .one i p, a, w => wpOp P ops Q i (fun a' w' => (n ≤ i ∨ S w') ∧ wpPln P ops Q S n p a' w') a w
  | .two i p j q, a, w => wpOp P ops Q i (fun a' w' => (n ≤ i ∨ S w') ∧ wpPln P ops Q S n p a' w') a w ∧ wpOp P ops Q j (fun a' w' => (n ≤ j ∨ S w') ∧ wpPln P ops Q S n q a' w') a w
  | .three i p j q k r, a, w => wpOp P ops Q i (fun a' w' => (n ≤ i ∨ S w') ∧ wpPln P ops Q S n p a' w') a w ∧ wpOp P ops Q j (fun a' w' => (n ≤ j ∨ S w') ∧ wpPln P ops Q S n q a' w') a w ∧ wpOp P ops Q k (fun a' w' => (n ≤ k ∨ S w') ∧ wpPln P ops Q S n r a' w') a w

theorem sz_set {l : Array Bool} (hsz : ∀ k, l.getD k false = true → k < ops.size) {j : Nat} (hj : j ∈ Region.ready md ops l) : ∀ k, (l.setIfInBounds j true).getD k false = true → k < ops.size := fun k hk => by
  obtain ⟨_, oj, hoj, _⟩ := mem_ready.1 hj
  rcases getD_of_set hk with rfl | hk
  · exact (Array.getElem?_eq_some_iff.1 hoj).1
  · exact hsz k hk
theorem wpAnyL_of_pln (hs : Region.noSelect ops = true) (hQ : ∀ c a d v w, Q (.panic c) (a.put d v) w → Q (.panic c) a w) : ∀ (p : Pln) (listed : Array Bool) (a : Act) (w : World), Closed md ops listed → (∀ k, listed.getD k false = true → k < ops.size) → plnB md ops n p listed = true → wpPln P ops Q S n p a w → wpAnyL P md ops Q S n p.len listed a w
  | .done, listed, a, w, hc, hz, hB, h => ⟨by simpa [plnB] using hB, h⟩
  | .take i p, listed, a, w, hc, hz, hB, h => by
    simp only [plnB, Bool.and_eq_true, decide_eq_true_eq] at hB
    obtain ⟨⟨⟨⟨h1, h2⟩, h3⟩, h4⟩, h5⟩ := hB
    obtain ⟨o, v, ho, hy, hS, h⟩ := h
    have hr : i ∈ Region.ready md ops listed := by simpa using h2
    exact wpAnyL_first h1 h4 ho (Region.noSelect_spec hs) (fun c a w => hQ c a _ _ w) p.len listed a w (Region.free_spec ho h3) hc hz hr hy hS (wpAnyL_of_pln hs hQ p _ _ _ (hc.set hr) (sz_set hz hr) h5 h)
  | .free i p, listed, a, w, hc, hz, hB, h => by
    simp only [plnB, Bool.and_eq_true] at hB
    obtain ⟨⟨h2, h3⟩, h5⟩ := hB
    obtain ⟨o, v, ho, hy, h⟩ := h
    have hr : i ∈ Region.ready md ops listed := by simpa using h2
    exact wpAnyL_free ho (Region.noSelect_spec hs) (fun c a w => hQ c a _ _ w) p.len listed a w (Region.free_spec ho h3) hr hy (wpAnyL_of_pln hs hQ p _ _ _ (hc.set hr) (sz_set hz hr) h5 h)
  | .one i p, listed, a, w, hc, hz, hB, h => by
    simp only [plnB, Bool.and_eq_true, decide_eq_true_eq] at hB
    refine ⟨fun h0 => (by rw [hB.1] at h0; cases h0), fun j hj => ?_⟩
    have hj' := hj
    rw [hB.1] at hj
    obtain rfl : j = i := by simpa using hj
    exact wpOp_mono (fun a' w' h' => ⟨h'.1.imp id (fun h _ => h), wpAnyL_of_pln hs hQ p _ _ _ (hc.set hj') (sz_set hz hj') hB.2 h'.2⟩) h
  | .two i p j q, listed, a, w, hc, hz, hB, h => by
    simp only [plnB, Bool.and_eq_true, decide_eq_true_eq] at hB
    obtain ⟨⟨⟨h1, h2⟩, h3⟩, h4⟩ := hB
    refine ⟨fun h0 => (by rw [h1] at h0; cases h0), fun k hk => ?_⟩
    have hk' := hk
    rw [h1] at hk
    simp only [List.mem_cons, List.not_mem_nil, or_false] at hk
    rcases hk with rfl | rfl
    · exact wpOp_mono (fun a' w' h' => ⟨h'.1.imp id (fun h _ => h), wpAnyL_of_pln hs hQ p _ _ _ (hc.set hk') (sz_set hz hk') h3 h'.2⟩) h.1
    · refine wpOp_mono (fun a' w' h' => ⟨h'.1.imp id (fun h _ => h), ?_⟩) h.2
      have := wpAnyL_of_pln hs hQ q _ _ _ (hc.set hk') (sz_set hz hk') h4 h'.2
      rwa [← h2] at this
  | .three i p j q m r, listed, a, w, hc, hz, hB, h => by
    simp only [plnB, Bool.and_eq_true, decide_eq_true_eq] at hB
    obtain ⟨⟨⟨⟨⟨h1, h2⟩, h2'⟩, h3⟩, h4⟩, h5⟩ := hB
    refine ⟨fun h0 => (by rw [h1] at h0; cases h0), fun k hk => ?_⟩
    have hk' := hk
    rw [h1] at hk
    simp only [List.mem_cons, List.not_mem_nil, or_false] at hk
    rcases hk with rfl | rfl | rfl
    · exact wpOp_mono (fun a' w' h' => ⟨h'.1.imp id (fun h _ => h), wpAnyL_of_pln hs hQ p _ _ _ (hc.set hk') (sz_set hz hk') h3 h'.2⟩) h.1
    · refine wpOp_mono (fun a' w' h' => ⟨h'.1.imp id (fun h _ => h), ?_⟩) h.2.1
      have := wpAnyL_of_pln hs hQ q _ _ _ (hc.set hk') (sz_set hz hk') h4 h'.2
      rwa [← h2] at this
    · refine wpOp_mono (fun a' w' h' => ⟨h'.1.imp id (fun h _ => h), ?_⟩) h.2.2
      have := wpAnyL_of_pln hs hQ r _ _ _ (hc.set hk') (sz_set hz hk') h5 h'.2
      rwa [← h2'] at this

theorem wp_region_pln {id : Nat} {a : Act} {w : World} {l : List Oper} (S : World → Prop) (n : Nat) (p : Pln) (hm : P.follows .mixedOrders = true) (hs : Region.noSelect l.toArray = true)
    (hB : (decide (p.len = l.toArray.size) && plnB .any l.toArray n p (Array.replicate l.toArray.size false)) = true)
    (hS : S w.drew) (h : S w.drew → wpPln P l.toArray (NoPanic Q) S n p a w.drew) : (Code.region id l.toArray true).wp P Q a w := by
  simp only [Bool.and_eq_true, decide_eq_true_eq] at hB
  refine wp_region_noPanic (wp_region_any hm ?_)
  have hf : ∀ k, (Array.replicate l.toArray.size false).getD k false = true → False := fun k hk => by
    rw [Array.getD_eq_getD_getElem?, Array.getElem?_replicate] at hk
    split at hk <;> simp at hk
  have e := wpAnyL_of_pln hs (fun _ _ _ _ _ h => h) p _ _ _ (fun k _ _ hk => absurd hk (fun h => hf k h)) (fun k hk => absurd hk (fun h => hf k h)) hB.2 (h hS)
  rw [hB.1] at e
  exact wpAny_of_L _ _ _ _ e

theorem wpPln_take {l : List Oper} {i : Nat} {p : Pln} {o : Oper} {v : Value} {a : Act} {w : World} (hi : nth l i = some o) (hw : Region.wanted o (yielded l.toArray a.tmps) = true) (hS : S w) (hy : ∀ w, S w → (execOp a.eval o).run P w = .ok (.value v) w)
    (h : wpPln P l.toArray Q S n p (a.put o.dst v) w) : wpPln P l.toArray Q S n (.take i p) a w :=
  ⟨o, v, nth_arr hi, .inl ⟨hw, hy⟩, hS, h⟩
theorem wpPln_free {l : List Oper} {i : Nat} {p : Pln} {o : Oper} {v : Value} {a : Act} {w : World} (hi : nth l i = some o) (hw : Region.wanted o (yielded l.toArray a.tmps) = true) (hy : ∀ w : World, (execOp a.eval o).run P w = .ok (.value v) w)
    (h : wpPln P l.toArray Q S n p (a.put o.dst v) w) : wpPln P l.toArray Q S n (.free i p) a w :=
  ⟨o, v, nth_arr hi, .inl ⟨hw, fun w _ => hy w⟩, h⟩
theorem wpPln_one {l : List Oper} {i : Nat} {p : Pln} {o : Oper} {a : Act} {w : World} (hi : nth l i = some o)
    (h : ∀ K : Act → World → Prop, Shut (∀ a w, S w → (S w → wpPln P l.toArray Q S n p a w) → K a w) → if Region.wanted o (yielded l.toArray a.tmps) = true then Oper.wp P o a w K Q else K (a.put o.dst undef) w) : wpPln P l.toArray Q S n (.one i p) a w :=
  wpOp_step (nth_arr hi) fun K hK => h K fun a w hS hW => hK a w ⟨.inr hS, hW hS⟩
theorem wpPln_two {l : List Oper} {i j : Nat} {p q : Pln} {a : Act} {w : World} (h : wpPln P l.toArray Q S n (.one i p) a w) (h' : wpPln P l.toArray Q S n (.one j q) a w) : wpPln P l.toArray Q S n (.two i p j q) a w := ⟨h, h'⟩
theorem wpPln_three {l : List Oper} {i j k : Nat} {p q r : Pln} {a : Act} {w : World} (h : wpPln P l.toArray Q S n (.one i p) a w) (h' : wpPln P l.toArray Q S n (.one j q) a w) (h'' : wpPln P l.toArray Q S n (.one k r) a w) : wpPln P l.toArray Q S n (.three i p j q k r) a w := ⟨h, h', h''⟩
/-- A late one. -/
theorem wpPln_late {l : List Oper} {i : Nat} {p : Pln} {o : Oper} {a : Act} {w : World} (hn : n ≤ i) (hi : nth l i = some o)
    (h : ∀ K : Act → World → Prop, Shut (∀ a w, wpPln P l.toArray Q S n p a w → K a w) → if Region.wanted o (yielded l.toArray a.tmps) = true then Oper.wp P o a w K Q else K (a.put o.dst undef) w) : wpPln P l.toArray Q S n (.one i p) a w :=
  wpOp_step (nth_arr hi) fun K hK => h K fun a w hW => hK a w ⟨.inl hn, hW⟩
theorem wpPln_done {a : Act} {w : World} (h : Q .normal a w) : wpPln P ops (NoPanic Q) S n .done a w := h
end
end Go.Proofs.Ytpkifmophmjilaa
