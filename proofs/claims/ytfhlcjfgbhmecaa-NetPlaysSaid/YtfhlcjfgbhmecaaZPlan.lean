/- Ballot, Plan. -/
import Derived.Test.YtfhlcjfgbhmecaaProg
import Derived.Test.YtfhlcjfgbhmecaaZOnly
import Derived.OrdersHeld
import Derived.Deep.RegionHeld
import Derived.Deep.RegionHeld3
import Derived.RegionTactic
/- Contracts of ballot.Nodes and of the reference's. -/
namespace Go.Proofs.Ytfhlcjfgbhmecaa
open Go.RowKit
set_option linter.unusedVariables false
theorem nodes_c (f : Int) (w : World) (h1 : 1 ≤ f) (h4 : f ≤ 4) : Calls Try.prog 61 #[.int .i64 f] w fun e w' => e = .returned (.int .i64 (3 * f + 1)) ∧ w = w' := by
  go_enter Try.func61, Try.ntmps61
  go_wp2
  go_ret
  exact ⟨rfl, rfl⟩
theorem rnodes_c (f : Int) (w : World) (h1 : 1 ≤ f) (h4 : f ≤ 4) : Calls Try.prog 78 #[.int .i64 f] w fun e w' => e = .returned (.int .i64 (3 * f + 1)) ∧ w = w' := by
  go_enter Try.func78, Try.ntmps78
  go_wp2
  go_ret
  exact ⟨rfl, rfl⟩
end Go.Proofs.Ytfhlcjfgbhmecaa
/- Regions that draw their order, walked by a plan: what only reads is taken first, what makes or writes memory comes up in its turn; of the last operation nothing is asked behind it. Over any program. -/
namespace Go.Proofs.Ytfhlcjfgbhmecaa
open Go.RowKit
set_option linter.unusedVariables false

/-- Which operation comes up next: one that only reads, taken first; the only one that may; one of two that may. -/
inductive Plan where
  | done
  | take (i : Nat) (p : Plan)
  | one (i : Nat) (p : Plan)
  | two (i : Nat) (p : Plan) (j : Nat) (q : Plan)
def Plan.len : Plan → Nat
  | .done => 0
  | .take _ p => p.len + 1
  | .one _ p => p.len + 1
  | .two _ p _ _ => p.len + 1

section
variable {P : Program} {ops : Array Oper} {Q : Exit → Act → World → Prop} {md : Region.Mode} {S : World → Prop} {n : Nat}

/-- Number n waits for number i, at first hand. -/
def sinkOn (md : Region.Mode) (ops : Array Oper) (n i : Nat) : Bool := match ops[n]? with
  | some on => on.after.any (fun e => Region.binds md e && e.on == i)
  | none => true
def planB (md : Region.Mode) (ops : Array Oper) (n : Nat) : Plan → Array Bool → Bool
  | .done, l => (Region.ready md ops l).isEmpty
  | .take i p, l => decide (i ≠ n) && (Region.ready md ops l).contains i && Region.free md ops l i && sinkOn md ops n i && planB md ops n p (l.setIfInBounds i true)
  | .one i p, l => decide (Region.ready md ops l = [i]) && planB md ops n p (l.setIfInBounds i true)
  | .two i p j q, l => decide (Region.ready md ops l = [i, j]) && decide (p.len = q.len) && planB md ops n p (l.setIfInBounds i true) && planB md ops n q (l.setIfInBounds j true)

/-- Whatever order is picked from here on, and S behind every operation but number n. -/
def wpAnyN (P : Program) (md : Region.Mode) (ops : Array Oper) (Q : Exit → Act → World → Prop) (S : World → Prop) (n : Nat) : Nat → Array Bool → Act → World → Prop
  | 0, listed, a, w => Region.ready md ops listed = [] ∧ Q .normal a w
  | fuel + 1, listed, a, w =>
    (Region.ready md ops listed = [] → Q .normal a w) ∧
    ∀ i ∈ Region.ready md ops listed, wpOp P ops Q i (fun a' w' => (i = n ∨ S w') ∧ wpAnyN P md ops Q S n fuel (listed.setIfInBounds i true) a' w') a w

theorem wpAny_of_N : ∀ (fuel : Nat) (listed : Array Bool) (a : Act) (w : World), wpAnyN P md ops Q S n fuel listed a w → wpAny P md ops Q fuel listed a w
  | 0, _, _, _, h => h
  | fuel + 1, _, _, _, h => ⟨h.1, fun i hi => wpOp_mono (fun a' w' h' => wpAny_of_N fuel _ a' w' h'.2) (h.2 i hi)⟩

theorem wpAnyN_first {i : Nat} {oi : Oper} {v : Value} (hin : i ≠ n) (hsink : sinkOn md ops n i = true) (hi : ops[i]? = some oi) (hsel : ∀ (j : Nat) (o : Oper) cs b, ops[j]? = some o → o.op ≠ .select cs b)
    (hQ : ∀ c a w, Q (.panic c) (a.put oi.dst v) w → Q (.panic c) a w) :
    ∀ (fuel : Nat) (listed : Array Bool) (a : Act) (w : World),
      (∀ j oj, ops[j]? = some oj → j ≠ i → listed.getD j true = false → (∀ e ∈ oj.after, Region.binds md e = true → e.on ≠ i) → oi.apart ops oj = true) →
      i ∈ Region.ready md ops listed → YieldsIf P ops S oi v a → S w →
      wpAnyN P md ops Q S n fuel (listed.setIfInBounds i true) (a.put oi.dst v) w → wpAnyN P md ops Q S n (fuel + 1) listed a w := by
  intro fuel
  induction fuel with
  | zero =>
    intro listed a w _ hr hy hS H
    refine ⟨fun h => (by rw [h] at hr; cases hr), fun j hj => ?_⟩
    by_cases hji : j = i
    · subst hji; exact hy.wpOp hi hS ⟨.inr hS, H⟩
    · have := ready_mono hj hji
      rw [H.1] at this
      cases this
  | succ fuel ih =>
    intro listed a w hfree hr hy hS H
    refine ⟨fun h => (by rw [h] at hr; cases hr), fun j hj => ?_⟩
    by_cases hji : j = i
    · subst hji; exact hy.wpOp hi hS ⟨.inr hS, H⟩
    · have h1 := H.2 j (ready_mono hj hji)
      obtain ⟨hjun, oj, hoj, hall⟩ := mem_ready.1 hj
      have hiun : listed.getD i false = false := by
        have h0 := (mem_ready.1 hr).1
        rcases Nat.lt_or_ge i listed.size with h' | h'
        · simp [h'] at h0 ⊢; exact h0
        · simp [Array.getElem?_eq_none h']
      have hjn : j ≠ n := by
        rintro rfl
        unfold sinkOn at hsink
        rw [hoj] at hsink
        obtain ⟨e, he, hb⟩ := Array.any_eq_true'.1 hsink
        simp only [Bool.and_eq_true, beq_iff_eq] at hb
        have := hall e he hb.1
        rw [hb.2, hiun] at this
        cases this
      have hnot : ∀ e ∈ oj.after, Region.binds md e = true → e.on ≠ i := fun e he hb heq => by
        have h1 := hall e he hb
        rw [heq, hiun] at h1
        cases h1
      have h2 := wpOp_putIf hoj (hfree j oj hoj hji hjun hnot) (fun cs b => hsel i oi cs b hi) (fun cs b => hsel j oj cs b hoj) hQ hy h1
      have hfree' : ∀ k ok, ops[k]? = some ok → k ≠ i → (listed.setIfInBounds j true).getD k true = false →
          (∀ e ∈ ok.after, Region.binds md e = true → e.on ≠ i) → oi.apart ops ok = true := fun k ok hk hki hun hno => by
        refine hfree k ok hk hki ?_ hno
        by_cases hjk : j = k
        · subst hjk; exact hjun
        · rw [getD_set_ne true hjk] at hun; exact hun
      refine wpOp_mono (fun a' w' h3 => ⟨h3.2.1, ih (listed.setIfInBounds j true) a' w' hfree' (ready_mono hr (Ne.symm hji)) h3.1 (h3.2.1.resolve_left hjn) ?_⟩) h2
      rw [Array.setIfInBounds_comm _ _ hji]
      exact h3.2.2

/-- The walk by a plan. -/
def wpPlan (P : Program) (ops : Array Oper) (Q : Exit → Act → World → Prop) (S : World → Prop) (n : Nat) : Plan → Act → World → Prop
  | .done, a, w => Q .normal a w
  | .take i p, a, w => ∃ o v, ops[i]? = some o ∧ YieldsIf P ops S o v a ∧ S w ∧ wpPlan P ops Q S n p (a.put o.dst v) w
  | .one i p, a, w => wpOp P ops Q i (fun a' w' => (i = n ∨ S w') ∧ wpPlan P ops Q S n p a' w') a w
  | .two i p j q, a, w => wpOp P ops Q i (fun a' w' => (i = n ∨ S w') ∧ wpPlan P ops Q S n p a' w') a w ∧ wpOp P ops Q j (fun a' w' => (j = n ∨ S w') ∧ wpPlan P ops Q S n q a' w') a w

theorem wpAnyN_of_plan (hs : Region.noSelect ops = true) (hQ : ∀ c a d v w, Q (.panic c) (a.put d v) w → Q (.panic c) a w) : ∀ (p : Plan) (listed : Array Bool) (a : Act) (w : World), planB md ops n p listed = true → wpPlan P ops Q S n p a w → wpAnyN P md ops Q S n p.len listed a w
  | .done, listed, a, w, hB, h => ⟨by simpa [planB] using hB, h⟩
  | .take i p, listed, a, w, hB, h => by
    simp only [planB, Bool.and_eq_true, decide_eq_true_eq] at hB
    obtain ⟨⟨⟨⟨h1, h2⟩, h3⟩, h4⟩, h5⟩ := hB
    obtain ⟨o, v, ho, hy, hS, h⟩ := h
    exact wpAnyN_first h1 h4 ho (Region.noSelect_spec hs) (fun c a w => hQ c a _ _ w) p.len listed a w (Region.free_spec ho h3) (by simpa using h2) hy hS (wpAnyN_of_plan hs hQ p _ _ _ h5 h)
  | .one i p, listed, a, w, hB, h => by
    simp only [planB, Bool.and_eq_true, decide_eq_true_eq] at hB
    refine ⟨fun h0 => (by rw [hB.1] at h0; cases h0), fun j hj => ?_⟩
    rw [hB.1] at hj
    obtain rfl : j = i := by simpa using hj
    exact wpOp_mono (fun a' w' h' => ⟨h'.1, wpAnyN_of_plan hs hQ p _ _ _ hB.2 h'.2⟩) h
  | .two i p j q, listed, a, w, hB, h => by
    simp only [planB, Bool.and_eq_true, decide_eq_true_eq] at hB
    obtain ⟨⟨⟨h1, h2⟩, h3⟩, h4⟩ := hB
    refine ⟨fun h0 => (by rw [h1] at h0; cases h0), fun k hk => ?_⟩
    rw [h1] at hk
    simp only [List.mem_cons, List.not_mem_nil, or_false] at hk
    rcases hk with rfl | rfl
    · exact wpOp_mono (fun a' w' h' => ⟨h'.1, wpAnyN_of_plan hs hQ p _ _ _ h3 h'.2⟩) h.1
    · refine wpOp_mono (fun a' w' h' => ⟨h'.1, ?_⟩) h.2
      have := wpAnyN_of_plan hs hQ q _ _ _ h4 h'.2
      rwa [← h2] at this

theorem wp_region_plan {id : Nat} {a : Act} {w : World} {l : List Oper} (S : World → Prop) (n : Nat) (p : Plan) (hm : P.follows .mixedOrders = true) (hs : Region.noSelect l.toArray = true)
    (hB : (decide (p.len = l.toArray.size) && planB .any l.toArray n p (Array.replicate l.toArray.size false)) = true) 
    (hS : S w.drew) (h : S w.drew → wpPlan P l.toArray (NoPanic Q) S n p a w.drew) : (Code.region id l.toArray true).wp P Q a w := by
  simp only [Bool.and_eq_true, decide_eq_true_eq] at hB
  refine wp_region_noPanic (wp_region_any hm ?_)
  have e := wpAnyN_of_plan hs (fun _ _ _ _ _ h => h) p _ _ _ hB.2 (h hS)
  rw [hB.1] at e
  exact wpAny_of_N _ _ _ _ e

/-- The operation at a place of a list. -/
def nth {α : Type} : List α → Nat → Option α
  | [], _ => none
  | x :: _, 0 => some x
  | _ :: l, i + 1 => nth l i
theorem nth_eq {α : Type} : ∀ (l : List α) (i : Nat), nth l i = l[i]?
  | [], i => by simp [nth]
  | x :: l, 0 => by simp [nth]
  | x :: l, i + 1 => by simp [nth, nth_eq l i]
theorem nth_arr {l : List Oper} {i : Nat} {o : Oper} (h : nth l i = some o) : l.toArray[i]? = some o := by rw [nth_eq] at h; simpa using h
theorem wpPlan_take {l : List Oper} {i : Nat} {p : Plan} {o : Oper} {v : Value} {a : Act} {w : World} (hi : nth l i = some o) (hw : Region.wanted o (yielded l.toArray a.tmps) = true) (hS : S w) (hy : ∀ w, S w → (execOp a.eval o).run P w = .ok (.value v) w)
    (h : wpPlan P l.toArray Q S n p (a.put o.dst v) w) : wpPlan P l.toArray Q S n (.take i p) a w :=
  ⟨o, v, nth_arr hi, .inl ⟨hw, hy⟩, hS, h⟩
theorem wpPlan_one {l : List Oper} {i : Nat} {p : Plan} {o : Oper} {a : Act} {w : World} (hi : nth l i = some o)
    (h : ∀ K : Act → World → Prop, Shut (∀ a w, S w → (S w → wpPlan P l.toArray Q S n p a w) → K a w) → if Region.wanted o (yielded l.toArray a.tmps) = true then Oper.wp P o a w K Q else K (a.put o.dst undef) w) : wpPlan P l.toArray Q S n (.one i p) a w :=
  wpOp_step (nth_arr hi) fun K hK => h K fun a w hS hW => hK a w ⟨.inr hS, hW hS⟩
theorem wpPlan_two {l : List Oper} {i j : Nat} {p q : Plan} {a : Act} {w : World} (h : wpPlan P l.toArray Q S n (.one i p) a w) (h' : wpPlan P l.toArray Q S n (.one j q) a w) : wpPlan P l.toArray Q S n (.two i p j q) a w := ⟨h, h'⟩
theorem wpPlan_last {l : List Oper} {p : Plan} {o : Oper} {a : Act} {w : World} (hi : nth l n = some o)
    (h : ∀ K : Act → World → Prop, Shut (∀ a w, wpPlan P l.toArray Q S n p a w → K a w) → if Region.wanted o (yielded l.toArray a.tmps) = true then Oper.wp P o a w K Q else K (a.put o.dst undef) w) : wpPlan P l.toArray Q S n (.one n p) a w :=
  wpOp_step (nth_arr hi) fun K hK => h K fun a w hW => hK a w ⟨.inl rfl, hW⟩
theorem wpPlan_done {a : Act} {w : World} (h : Q .normal a w) : wpPlan P ops (NoPanic Q) S n .done a w := h
end
end Go.Proofs.Ytfhlcjfgbhmecaa
