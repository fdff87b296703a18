/- A copy of the reference's store, and whether two are one. -/
import Derived.Test.YtghaahagacffiaaRStore
import Derived.Test.YtghaahagacffiaaArrEq
import Derived.Deep.MidRow
import Derived.Laws.IdiomCopy
namespace Go.Proofs.Ytghaahagacffiaa
open Go.RowKit
set_option linter.unusedVariables false

theorem blk_setCells {g : Nat} {t : TypeId} : ∀ (vs : List Value) (o : Nat) (w : World) (L : List Value), Blk w g t L.toArray → Blk (w.setCells g o vs) g t (setMany L o vs).toArray
  | [], o, w, L, h => h
  | v :: vs, o, w, L, h => by
    have e := h.set_ o v
    rw [List.setIfInBounds_toArray] at e
    exact blk_setCells vs (o + 1) _ _ e
theorem blk_fill {g : Nat} {t : TypeId} {w : World} {L vs : List Value} (h : Blk w g t L.toArray) (hl : L.length = vs.length) : Blk (w.setCells g 0 vs) g t vs.toArray := by
  have e := blk_setCells vs 0 w L h
  have e2 := setMany_left vs L [] hl
  rw [List.append_nil, List.append_nil] at e2
  rwa [e2] at e
theorem only_setCells {S : List Nat} {g : Nat} (hg : g ∈ S) : ∀ (vs : List Value) (o : Nat) (a w : World), Only S a w → Only S a (w.setCells g o vs)
  | [], o, a, w, h => h
  | v :: vs, o, a, w, h => only_setCells hg vs (o + 1) a _ (h.setCell (.inl hg) v)
theorem there_blk {g : Nat} {t : TypeId} {w : World} {cs : Array Value} (h : Blk w g t cs) : w.there g 0 cs.size := fun j hj => by
  rw [Nat.zero_add, h.cell, h.frozen]
  exact ⟨by simp [hj], rfl⟩

theorem rcellsL_len (st : List (Bool × Int)) (h : st.length = 64) : (rcellsL st).length = 128 := by unfold rcellsL; rw [List.length_append, List.length_map, List.length_map, h]
theorem rcells_one (st : List (Bool × Int)) : ∀ v ∈ rcellsL st, v.oneCell' = true := by
  intro v hv
  unfold rcellsL at hv
  simp only [List.mem_append, List.mem_map] at hv
  rcases hv with ⟨c, _, rfl⟩ | ⟨c, _, rfl⟩ <;> rfl
theorem rcells_vals (st : List (Bool × Int)) (h : st.length = 64) : (rcellsL st).toArray.extract 0 64 = (st.map fun c => Value.int .i64 c.2).toArray := by
  unfold rcellsL
  rw [List.extract_toArray, List.extract_eq_take_drop, List.drop_zero, Nat.sub_zero, List.take_append_of_le_length (by rw [List.length_map, h]; omega), List.take_of_length_le (by rw [List.length_map, h]; omega)]
theorem rcells_has (st : List (Bool × Int)) (h : st.length = 64) : (rcellsL st).toArray.extract 64 128 = (st.map fun c => Value.bool c.1).toArray := by
  unfold rcellsL
  rw [List.extract_toArray, List.extract_eq_take_drop, List.drop_append_of_le_length (by rw [List.length_map, h]; omega), List.drop_of_length_le (by rw [List.length_map, h]; omega), List.nil_append, List.take_of_length_le (by rw [List.length_map, h]; omega)]
theorem info_int2 : (Try.prog.info? 3).map (fun i => (i.zero, i.size, i.bytes)) = some (some (.int .i64 0), 1, 8) := by kernel_rfl
theorem info_bool : (Try.prog.info? 4).map (fun i => (i.zero, i.size, i.bytes)) = some (some (.bool false), 1, 1) := by kernel_rfl
theorem eq_vals (d : Nat) (st st' : List (Bool × Int)) (h : st.length = 64) (h' : st'.length = 64) (b : Bool) (hb : b = true ↔ st.map (·.2) = st'.map (·.2)) (w : World) :
    (Op.equalIn (d + 1 + 1) 37 (.agg (st.map fun c => Value.int .i64 c.2).toArray) (.agg (st'.map fun c => Value.int .i64 c.2).toArray)).run Try.prog w = .ok b w := by
  obtain ⟨i, h1, _, h2, _⟩ := info_parts info_int2
  refine run_equalIn_array w (d + 1) 37 3 64 i _ _ Try.underlying37 h1 h2 (by kernel_rfl) ?_ b ?_
  · intro j hj
    have e1 : j < st.length := by omega
    have e2 : j < st'.length := by omega
    refine ⟨.int .i64 st[j].2, .int .i64 st'[j].2, st[j].2 == st'[j].2, ?_, ?_, run_equalIn_int w d 3 .i64 .i64 _ _ Try.underlying3, by simp⟩
    · simp [e1]
    · simp [e2]
  · rw [hb]
    constructor
    · intro e j hj
      have := congrArg (·[j]?) e
      simp only [List.getElem?_map] at this
      rw [List.getElem?_toArray, List.getElem?_toArray, List.getElem?_map, List.getElem?_map]
      have e1 : j < st.length := by omega
      have e2 : j < st'.length := by omega
      rw [List.getElem?_eq_getElem e1, List.getElem?_eq_getElem e2] at this ⊢
      simp at this ⊢
      exact this
    · intro e
      apply List.ext_getElem?
      intro j
      by_cases hj : j < 64
      · have := e j hj
        rw [List.getElem?_toArray, List.getElem?_toArray, List.getElem?_map, List.getElem?_map] at this
        have e1 : j < st.length := by omega
        have e2 : j < st'.length := by omega
        rw [List.getElem?_map, List.getElem?_map]
        rw [List.getElem?_eq_getElem e1, List.getElem?_eq_getElem e2] at this ⊢
        simp at this ⊢
        exact this
      · rw [List.getElem?_eq_none (by simp; omega), List.getElem?_eq_none (by simp; omega)]
theorem eq_has (d : Nat) (st st' : List (Bool × Int)) (h : st.length = 64) (h' : st'.length = 64) (b : Bool) (hb : b = true ↔ st.map (·.1) = st'.map (·.1)) (w : World) :
    (Op.equalIn (d + 1 + 1) 38 (.agg (st.map fun c => Value.bool c.1).toArray) (.agg (st'.map fun c => Value.bool c.1).toArray)).run Try.prog w = .ok b w := by
  obtain ⟨i, h1, _, h2, _⟩ := info_parts info_bool
  refine run_equalIn_array w (d + 1) 38 4 64 i _ _ Try.underlying38 h1 h2 (by kernel_rfl) ?_ b ?_
  · intro j hj
    have e1 : j < st.length := by omega
    have e2 : j < st'.length := by omega
    refine ⟨.bool st[j].1, .bool st'[j].1, st[j].1 == st'[j].1, ?_, ?_, run_equalIn_bool w d 4 _ _ Try.underlying4, by simp⟩
    · simp [e1]
    · simp [e2]
  · rw [hb]
    constructor
    · intro e j hj
      have := congrArg (·[j]?) e
      simp only [List.getElem?_map] at this
      rw [List.getElem?_toArray, List.getElem?_toArray, List.getElem?_map, List.getElem?_map]
      have e1 : j < st.length := by omega
      have e2 : j < st'.length := by omega
      rw [List.getElem?_eq_getElem e1, List.getElem?_eq_getElem e2] at this ⊢
      simp at this ⊢
      exact this
    · intro e
      apply List.ext_getElem?
      intro j
      by_cases hj : j < 64
      · have := e j hj
        rw [List.getElem?_toArray, List.getElem?_toArray, List.getElem?_map, List.getElem?_map] at this
        have e1 : j < st.length := by omega
        have e2 : j < st'.length := by omega
        rw [List.getElem?_map, List.getElem?_map]
        rw [List.getElem?_eq_getElem e1, List.getElem?_eq_getElem e2] at this ⊢
        simp at this ⊢
        exact this
      · rw [List.getElem?_eq_none (by simp; omega), List.getElem?_eq_none (by simp; omega)]
theorem two_maps {st st' : List (Bool × Int)} (h : st.length = 64) (h' : st'.length = 64) : st = st' ↔ st.map (·.2) = st'.map (·.2) ∧ st.map (·.1) = st'.map (·.1) := by
  constructor
  · rintro rfl
    exact ⟨rfl, rfl⟩
  · rintro ⟨e1, e2⟩
    apply List.ext_getElem (by omega)
    intro j h1 h2
    have a := congrArg (·[j]?) e1
    have b := congrArg (·[j]?) e2
    simp only [List.getElem?_map, List.getElem?_eq_getElem h1, List.getElem?_eq_getElem h2, Option.map_some, Option.some.injEq] at a b
    exact Prod.ext b a
theorem eq_store (st st' : List (Bool × Int)) (h : st.length = 64) (h' : st'.length = 64) (b : Bool) (hb : decide (st = st') = b) (w : World) :
    (binOp .eql 40 (.agg (rcellsL st).toArray) (.agg (rcellsL st').toArray)).run Try.prog w = .ok (.bool b) w := by
  obtain ⟨bV, hV⟩ : ∃ bV : Bool, bV = true ↔ st.map (·.2) = st'.map (·.2) := ⟨decide (st.map (·.2) = st'.map (·.2)), decide_eq_true_iff⟩
  obtain ⟨bH, hH⟩ : ∃ bH : Bool, bH = true ↔ st.map (·.1) = st'.map (·.1) := ⟨decide (st.map (·.1) = st'.map (·.1)), decide_eq_true_iff⟩
  have hbb : b = (bV && bH) := by
    have := two_maps h h'
    have e : b = true ↔ (bV && bH) = true := by rw [← hb, decide_eq_true_iff, this, Bool.and_eq_true, hV, hH]
    cases b <;> cases bV <;> cases bH <;> simp_all
  have q1 := eq_vals 9997 st st' h h' bV hV
  have q2 := eq_has 9997 st st' h h' bH hH
  have a1 := rcells_vals st h
  have a2 := rcells_has st h
  have b1 := rcells_vals st' h'
  have b2 := rcells_has st' h'
  generalize (st.map fun c => Value.int .i64 c.2).toArray = V at q1 a1
  generalize (st'.map fun c => Value.int .i64 c.2).toArray = V' at q1 b1
  generalize (st.map fun c => Value.bool c.1).toArray = U at q2 a2
  generalize (st'.map fun c => Value.bool c.1).toArray = U' at q2 b2
  generalize (rcellsL st).toArray = A at a1 a2 ⊢
  generalize (rcellsL st').toArray = B at b1 b2 ⊢
  subst hbb
  clear hb hV hH h h'
  cases bV <;> cases bH
  all_goals
    go_simp
end Go.Proofs.Ytghaahagacffiaa
