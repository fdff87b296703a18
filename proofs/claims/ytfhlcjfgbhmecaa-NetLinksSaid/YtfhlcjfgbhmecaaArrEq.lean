/- Two arrays of one-celled things compared by ==. Over any program. -/
import Derived.Laws.StructEq
import Derived.WalkKit
namespace Go.Proofs.Ytfhlcjfgbhmecaa
open Go.RowKit
set_option linter.unusedVariables false
section
variable {P : Program} (w : World)

theorem arr_loop (d : Nat) (e : TypeId) (xs ys : Array Value) (hagg : (isAgg e).run P w = .ok false w) : ∀ (m k : Nat),
    (∀ i, k ≤ i → i < k + m → ∃ x y r, xs[i]? = some x ∧ ys[i]? = some y ∧ (Op.equalIn d e x y).run P w = .ok r w ∧ (r = true ↔ x = y)) →
    ∃ b : Bool, (b = true ↔ ∀ i, k ≤ i → i < k + m → xs[i]? = ys[i]?) ∧ (Sem.run P (forIn (List.range' k m) ((none, ()) : Option Bool × Unit) fun i __s => do
            let __do_lift ← part e xs i
            let __do_lift_1 ← part e ys i
            let __do_lift ← Op.equalIn d e __do_lift __do_lift_1
            if __do_lift = false then pure (ForInStep.done (some false, ())) else pure (ForInStep.yield (none, ()))) w) =
      .ok (if b then (none, ()) else (some false, ())) w
  | 0, k, h => ⟨true, by simp; intro i h1 h2; omega, by simp⟩
  | m + 1, k, h => by
    obtain ⟨x, y, r, hx, hy, he, hr⟩ := h k (Nat.le_refl _) (by omega)
    obtain ⟨b, hb, ih⟩ := arr_loop d e xs ys hagg m (k + 1) (fun i h1 h2 => h i (by omega) (by omega))
    rw [List.range'_succ]
    simp only [List.forIn_cons, Sem.run_bind, part, hagg, Result.andThen_ok, Bool.false_eq_true, if_false, hx, hy, Sem.run_pure, he]
    cases r with
    | true =>
      have hxy : x = y := hr.1 rfl
      refine ⟨b, ?_, ?_⟩
      · rw [hb]
        constructor
        · intro hall i h1 h2
          by_cases hik : i = k
          · subst hik
            rw [hx, hy, hxy]
          · exact hall i (by omega) (by omega)
        · exact fun h' i h1 h2 => h' i (by omega) (by omega)
      · simp only [Bool.true_eq_false, if_false, Sem.run_pure, Result.andThen_ok]
        exact ih
    | false =>
      refine ⟨false, ?_, ?_⟩
      · constructor
        · intro h'; cases h'
        · intro h'
          have := h' k (Nat.le_refl _) (by omega)
          rw [hx, hy] at this
          exact (hr.2 (Option.some.inj this))
      · simp only [if_true, Sem.run_pure, Result.andThen_ok, Bool.false_eq_true, if_false]

theorem run_equalIn_array (d : Nat) (t e : TypeId) (n : Nat) (i : TypeInfo) (xs ys : Array Value) (ht : P.underlying t = some (.array n e)) (hi : P.info? e = some i) (hs : i.size = 1) (hagg : (isAgg e).run P w = .ok false w)
    (h : ∀ i, i < n → ∃ x y r, xs[i]? = some x ∧ ys[i]? = some y ∧ (Op.equalIn d e x y).run P w = .ok r w ∧ (r = true ↔ x = y)) (b : Bool) (hb : b = true ↔ ∀ i, i < n → xs[i]? = ys[i]?) :
    (Op.equalIn (d + 1) t (.agg xs) (.agg ys)).run P w = .ok b w := by
  obtain ⟨b', hb', hl⟩ := arr_loop w d e xs ys hagg n 0 (fun i _ h2 => h i (by omega))
  have e1 : b = b' := by
    have : b = true ↔ b' = true := by
      rw [hb, hb']
      exact ⟨fun h i _ h2 => h i (by omega), fun h i h2 => h i (Nat.zero_le _) (by omega)⟩
    cases b <;> cases b' <;> simp_all
  subst e1
  simp only [Op.equalIn, Sem.run_bind, run_underlying ht, Result.andThen_ok]
  simp [sizeOf, typeInfo, hi, hs]
  rw [hl]
  cases b <;> rfl

/-- Four integers against four. -/
theorem run_equalIn_four (d : Nat) (t e : TypeId) (i : TypeInfo) (ht : P.underlying t = some (.array 4 e)) (hi : P.info? e = some i) (hs : i.size = 1) (hagg : (isAgg e).run P w = .ok false w) (he : P.underlying e = some (.int .i64))
    (x0 x1 x2 x3 y0 y1 y2 y3 : Int) (b : Bool) (hb : b = true ↔ x0 = y0 ∧ x1 = y1 ∧ x2 = y2 ∧ x3 = y3) :
    (Op.equalIn (d + 1 + 1) t (.agg #[.int .i64 x0, .int .i64 x1, .int .i64 x2, .int .i64 x3]) (.agg #[.int .i64 y0, .int .i64 y1, .int .i64 y2, .int .i64 y3])).run P w = .ok b w := by
  refine run_equalIn_array w (d + 1) t e 4 i _ _ ht hi hs hagg ?_ b ?_
  · intro j hj
    have key : ∀ x y : Int, ∃ r : Bool, (Op.equalIn (d + 1) e (.int .i64 x) (.int .i64 y)).run P w = .ok r w ∧ (r = true ↔ Value.int .i64 x = .int .i64 y) := fun x y =>
      ⟨x == y, run_equalIn_int w d e .i64 .i64 x y he, by simp⟩
    match j, hj with
    | 0, _ => obtain ⟨r, h1, h2⟩ := key x0 y0; exact ⟨_, _, r, rfl, rfl, h1, h2⟩
    | 1, _ => obtain ⟨r, h1, h2⟩ := key x1 y1; exact ⟨_, _, r, rfl, rfl, h1, h2⟩
    | 2, _ => obtain ⟨r, h1, h2⟩ := key x2 y2; exact ⟨_, _, r, rfl, rfl, h1, h2⟩
    | 3, _ => obtain ⟨r, h1, h2⟩ := key x3 y3; exact ⟨_, _, r, rfl, rfl, h1, h2⟩
  · rw [hb]
    constructor
    · rintro ⟨rfl, rfl, rfl, rfl⟩ j _
      rfl
    · intro h
      have h0 := h 0 (by omega)
      have h1 := h 1 (by omega)
      have h2 := h 2 (by omega)
      have h3 := h 3 (by omega)
      simp at h0 h1 h2 h3
      exact ⟨h0, h1, h2, h3⟩
end
end Go.Proofs.Ytfhlcjfgbhmecaa
