/- NetLinks: the plain part: how many went over each link. -/
import Derived.Test.YtfhlcjfgbhmecaaCount
import Derived.Test.YtfhlcjfgbhmecaaNetW
namespace Go.Proofs.Ytfhlcjfgbhmecaa
open Go.RowKit
set_option linter.unusedVariables false
set_option maxRecDepth 20000

/-- The first N links that have messages; how many messages. -/
def idx (cnt : Nat → Nat) : Nat → List Nat
  | 0 => []
  | N + 1 => if 0 < cnt N then idx cnt N ++ [N] else idx cnt N
theorem idx_succ (cnt : Nat → Nat) (N : Nat) : idx cnt (N + 1) = if 0 < cnt N then idx cnt N ++ [N] else idx cnt N := rfl
def tot (cnt : Nat → Nat) : Nat → Nat
  | 0 => 0
  | N + 1 => tot cnt N + cnt N
theorem tot_succ (cnt : Nat → Nat) (N : Nat) : tot cnt (N + 1) = tot cnt N + cnt N := rfl
def chain (c : Nat) : List (List Int) := (List.range c).map fun (j : Nat) => [(j : Int)]
theorem chain_len (c : Nat) : (chain c).length = c := by simp [chain]
theorem chain_succ (c : Nat) : chain (c + 1) = chain c ++ [[(c : Int)]] := by simp [chain, List.range_succ]
theorem chain_get (c j : Nat) (h : j < c) : (chain c)[j]? = some [(j : Int)] := by simp [chain, h]
theorem idx_mem (cnt : Nat → Nat) : ∀ N k, k ∈ idx cnt N ↔ k < N ∧ 0 < cnt k
  | 0, k => by simp [idx]
  | N + 1, k => by
    rw [idx_succ]
    have h := idx_mem cnt N k
    split
    · rename_i h0
      rw [List.mem_append, h]
      constructor
      · rintro (h1 | h1)
        · exact ⟨by omega, h1.2⟩
        · obtain rfl : k = N := by simpa using h1
          exact ⟨by omega, h0⟩
      · rintro ⟨h1, h2⟩
        by_cases e : k = N
        · exact .inr (by simp [e])
        · exact .inl ⟨by omega, h2⟩
    · rename_i h0
      rw [h]
      constructor
      · rintro ⟨h1, h2⟩
        exact ⟨by omega, h2⟩
      · rintro ⟨h1, h2⟩
        by_cases e : k = N
        · subst e; omega
        · exact ⟨by omega, h2⟩
theorem idx_pair (cnt : Nat → Nat) : ∀ N, (idx cnt N).Pairwise (· < ·)
  | 0 => List.Pairwise.nil
  | N + 1 => by
    rw [idx_succ]
    split
    · rw [List.pairwise_append]
      refine ⟨idx_pair cnt N, by simp, fun a ha b hb => ?_⟩
      have := ((idx_mem cnt N a).1 ha).1
      simp at hb
      omega
    · exact idx_pair cnt N
theorem idx_le (cnt : Nat → Nat) : ∀ N, (idx cnt N).length ≤ N
  | 0 => Nat.le_refl _
  | N + 1 => by
    have := idx_le cnt N
    rw [idx_succ]
    split
    · rw [List.length_append]; simp; omega
    · omega
theorem tot_sum (cnt : Nat → Nat) : ∀ N, ((idx cnt N).map cnt).sum = tot cnt N
  | 0 => rfl
  | N + 1 => by
    rw [idx_succ, tot_succ, ← tot_sum cnt N]
    split
    · simp
    · omega
theorem tot_le (cnt : Nat → Nat) {k : Nat} : ∀ N, k < N → cnt k ≤ tot cnt N
  | 0, h => absurd h (by omega)
  | N + 1, h => by
    rw [tot_succ]
    by_cases e : k = N
    · subst e; omega
    · have := tot_le cnt N (k := k) (by omega)
      omega
theorem tot_up (cnt : Nat → Nat) (k : Nat) : ∀ N, tot (upq cnt k (cnt k + 1)) N = tot cnt N + if k < N then 1 else 0
  | 0 => rfl
  | N + 1 => by
    rw [tot_succ, tot_succ, tot_up cnt k N]
    by_cases e : N = k
    · subst e; rw [upq_same, if_neg (by omega), if_pos (by omega)]; omega
    · rw [upq_ne _ _ e]
      by_cases h : k < N
      · rw [if_pos h, if_pos (by omega)]; omega
      · rw [if_neg h, if_neg (by omega)]; omega
theorem idx_up (cnt : Nat → Nat) (k : Nat) : ∀ N, (idx (upq cnt k (cnt k + 1)) N).length = (idx cnt N).length + if k < N ∧ cnt k = 0 then 1 else 0
  | 0 => rfl
  | N + 1 => by
    rw [idx_succ, idx_succ]
    have h := idx_up cnt k N
    by_cases e : N = k
    · subst e
      rw [upq_same, if_pos (by omega)]
      rw [if_neg (by omega)] at h
      by_cases h0 : cnt N = 0
      · rw [if_neg (by omega : ¬ 0 < cnt N), if_pos ⟨by omega, h0⟩, List.length_append, h]; rfl
      · rw [if_pos (by omega : 0 < cnt N), if_neg (by omega), List.length_append, List.length_append, h]; rfl
    · rw [upq_ne _ _ e]
      have e2 : (k < N + 1 ∧ cnt k = 0) ↔ (k < N ∧ cnt k = 0) := by omega
      by_cases h1 : 0 < cnt N
      · rw [if_pos h1, if_pos h1, List.length_append, List.length_append, h]
        simp only [e2]
        omega
      · rw [if_neg h1, if_neg h1, h]
        simp only [e2]
def prOf (ps : List Int) (n k : Nat) : Int × Int := (ps.getD (k / n) 0, ps.getD (k % n) 0)
theorem lks_idx (n : Nat) (ps : List Int) (ms : Nat → List (Value × List Int)) (cnt : Nat → Nat) (h : ∀ k, (ms k).length = cnt k) : ∀ N, lksTo n ps ms N = (idx cnt N).map (prOf ps n)
  | 0 => rfl
  | N + 1 => by
    rw [lksTo_succ, idx_succ, h N, lks_idx n ps ms cnt h N]
    split
    · rw [List.map_append]; rfl
    · rfl
theorem getK_put {K : List ((Int × Int) × Int)} {p : Int × Int} (hn : ¬ hasK K p) (v : Int) (p' : Int × Int) : getK (K ++ [(p, v)]) p' = if p' = p then v else getK K p' := by
  unfold getK
  rw [List.find?_append]
  by_cases e : p' = p
  · subst e
    rw [if_pos rfl, List.find?_eq_none.2 (fun e he hd => hn ⟨e, he, of_decide_eq_true hd⟩)]
    simp
  · rw [if_neg e]
    have : List.find? (fun e => decide (e.1 = p')) [(p, v)] = none := by
      rw [List.find?_eq_none]
      intro x hx
      simp only [List.mem_singleton] at hx
      subst hx
      simpa using fun h : p = p' => e h.symm
    rw [this, Option.or_none]
theorem set_no {K : List ((Int × Int) × Int)} {p : Int × Int} {v : Int} (h : ¬ hasK K p) : (K.map fun e => if e.1 = p then (p, v) else e) = K := by
  conv => rhs; rw [← List.map_id K]
  exact List.map_congr_left fun e he => if_neg fun h2 => h ⟨e, he, h2⟩
theorem getK_set {K : List ((Int × Int) × Int)} {p : Int × Int} (hn : hasK K p) (v : Int) (p' : Int × Int) : getK (setK K p v) p' = if p' = p then v else getK K p' := by
  unfold getK setK
  induction K with
  | nil => obtain ⟨e, he, _⟩ := hn; cases he
  | cons x r ih =>
    rw [List.map_cons, List.find?_cons, List.find?_cons]
    by_cases hx : x.1 = p
    · rw [if_pos hx]
      by_cases e : p' = p
      · subst e
        simp
      · have e1 : decide (p = p') = false := decide_eq_false fun h => e h.symm
        have e2 : decide (x.1 = p') = false := decide_eq_false fun h => e (by rw [← h, hx])
        simp only [e1, e2]
        rw [if_neg e]
        by_cases hr : hasK r p
        · rw [ih hr, if_neg e]
        · rw [set_no hr]
    · rw [if_neg hx]
      have hr : hasK r p := by
        obtain ⟨z, hz, hz2⟩ := hn
        rcases List.mem_cons.1 hz with rfl | hz
        · exact absurd hz2 hx
        · exact ⟨z, hz, hz2⟩
      by_cases e : p' = p
      · subst e
        have e1 : decide (x.1 = p') = false := decide_eq_false hx
        have e2 := ih hr
        rw [if_pos rfl] at e2 ⊢
        simp only [e1]
        exact e2
      · rw [if_neg e]
        have := ih hr
        rw [if_neg e] at this
        by_cases e3 : x.1 = p'
        · simp [e3]
        · simp only [decide_eq_false e3]
          exact this
theorem hasK_put {K : List ((Int × Int) × Int)} {p : Int × Int} (v : Int) (p' : Int × Int) : hasK (K ++ [(p, v)]) p' ↔ hasK K p' ∨ p' = p := by
  constructor
  · rintro ⟨e, he, h⟩
    rcases List.mem_append.1 he with he | he
    · exact .inl ⟨e, he, h⟩
    · simp only [List.mem_singleton] at he
      subst he
      exact .inr h.symm
  · rintro (⟨e, he, h⟩ | h)
    · exact ⟨e, by simp [he], h⟩
    · exact ⟨(p, v), by simp, h.symm⟩
theorem hasK_fst {K : List ((Int × Int) × Int)} {p : Int × Int} : hasK K p ↔ p ∈ K.map Prod.fst := by
  unfold hasK
  rw [List.mem_map]
/-- What the law's map holds beside what the links hold: T messages. -/
structure Cnt (K : List ((Int × Int) × Int)) (cnt : Nat → Nat) (T : Nat) : Prop where
  at_ : ∀ a b : Nat, a < 4 → b < 4 → getK K ((a : Int), (b : Int)) = cnt (a * 6 + b)
  has : ∀ a b : Nat, a < 4 → b < 4 → (hasK K ((a : Int), (b : Int)) ↔ 0 < cnt (a * 6 + b))
  where_ : ∀ k, 0 < cnt k → ∃ a b : Nat, a < 4 ∧ b < 4 ∧ a ≠ b ∧ k = a * 6 + b
  len : K.length = (idx cnt 36).length
  tot : tot cnt 36 = T
theorem Cnt.nil : Cnt [] (fun _ => 0) 0 := ⟨fun a b _ _ => rfl, fun a b _ _ => by simp [hasK], fun k h => absurd h (by omega), by rfl, by rfl⟩
theorem pair_eq {a b x y : Nat} (h : ((x : Int), (y : Int)) = ((a : Int), (b : Int))) : x = a ∧ y = b := by
  have h1 := congrArg Prod.fst h
  have h2 := congrArg Prod.snd h
  simp only at h1 h2
  exact ⟨by omega, by omega⟩
theorem Cnt.put {K : List ((Int × Int) × Int)} {cnt : Nat → Nat} {T : Nat} (h : Cnt K cnt T) {a b : Nat} (ha : a < 4) (hb : b < 4) (hab : a ≠ b) (K' : List ((Int × Int) × Int))
    (hK : (cnt (a * 6 + b) = 0 ∧ K' = K ++ [(((a : Int), (b : Int)), 1)]) ∨ (0 < cnt (a * 6 + b) ∧ K' = setK K ((a : Int), (b : Int)) (cnt (a * 6 + b) + 1))) :
    Cnt K' (upq cnt (a * 6 + b) (cnt (a * 6 + b) + 1)) (T + 1) := by
  have hv : ∀ x y : Nat, x < 4 → y < 4 → getK K' ((x : Int), (y : Int)) = if ((x : Int), (y : Int)) = ((a : Int), (b : Int)) then (cnt (a * 6 + b) : Int) + 1 else getK K ((x : Int), (y : Int)) := fun x y hx hy => by
    rcases hK with ⟨h0, rfl⟩ | ⟨h0, rfl⟩
    · rw [getK_put (fun hh => by have := (h.has a b ha hb).1 hh; omega), h0]; rfl
    · rw [getK_set ((h.has a b ha hb).2 h0)]
  have hh : ∀ x y : Nat, x < 4 → y < 4 → (hasK K' ((x : Int), (y : Int)) ↔ hasK K ((x : Int), (y : Int)) ∨ ((x : Int), (y : Int)) = ((a : Int), (b : Int))) := fun x y hx hy => by
    rcases hK with ⟨h0, rfl⟩ | ⟨h0, rfl⟩
    · exact hasK_put _ _
    · rw [hasK_fst, setK_fst, ← hasK_fst]
      constructor
      · exact .inl
      · rintro (h1 | h1)
        · exact h1
        · rw [h1]; exact (h.has a b ha hb).2 h0
  refine ⟨fun x y hx hy => ?_, fun x y hx hy => ?_, fun k hk => ?_, ?_, ?_⟩
  · rw [hv x y hx hy]
    by_cases e : ((x : Int), (y : Int)) = ((a : Int), (b : Int))
    · obtain ⟨rfl, rfl⟩ := pair_eq e
      rw [if_pos rfl, upq_same]
      omega
    · rw [if_neg e, upq_ne _ _ (fun e2 => e (by
        have h1 : x = a := by omega
        have h2 : y = b := by omega
        rw [h1, h2])), h.at_ x y hx hy]
  · rw [hh x y hx hy, h.has x y hx hy]
    by_cases e : ((x : Int), (y : Int)) = ((a : Int), (b : Int))
    · obtain ⟨rfl, rfl⟩ := pair_eq e
      rw [upq_same]
      constructor
      · intro _; omega
      · intro _; exact .inr rfl
    · rw [upq_ne _ _ (fun e2 => e (by
        have h1 : x = a := by omega
        have h2 : y = b := by omega
        rw [h1, h2]))]
      constructor
      · rintro (h1 | h1)
        · exact h1
        · exact absurd h1 e
      · exact .inl
  · by_cases e : k = a * 6 + b
    · exact ⟨a, b, ha, hb, hab, e⟩
    · rw [upq_ne _ _ e] at hk
      exact h.where_ k hk
  · rw [idx_up, ← h.len]
    rcases hK with ⟨h0, rfl⟩ | ⟨h0, rfl⟩
    · rw [if_pos ⟨by omega, h0⟩, List.length_append]; rfl
    · rw [if_neg (by omega)]; simp [setK]
  · rw [tot_up, h.tot, if_pos (by omega)]
/-- The i-th link that has messages. -/
theorem Cnt.nth {K : List ((Int × Int) × Int)} {cnt : Nat → Nat} {T : Nat} (h : Cnt K cnt T) {i : Nat} (hi : i < (idx cnt 36).length) : ∃ a b : Nat, a < 4 ∧ b < 4 ∧ a ≠ b ∧ (idx cnt 36)[i] = a * 6 + b ∧ 0 < cnt (a * 6 + b) ∧ ((idx cnt 36).map (prOf [0, 1, 2, 3, 100, 101] 6))[i]? = some ((a : Int), (b : Int)) := by
  have hm := (idx_mem cnt 36 _).1 (List.getElem_mem hi)
  obtain ⟨a, b, ha, hb, hab, e⟩ := h.where_ _ hm.2
  refine ⟨a, b, ha, hb, hab, e, by rw [← e]; exact hm.2, ?_⟩
  rw [List.getElem?_map, List.getElem?_eq_getElem hi, e]
  unfold prOf
  have e1 : (a * 6 + b) / 6 = a := by omega
  have e2 : (a * 6 + b) % 6 = b := by omega
  simp only [Option.map_some, e1, e2]
  match a, b, ha, hb with
  | 0, 0, _, _ | 0, 1, _, _ | 0, 2, _, _ | 0, 3, _, _ | 1, 0, _, _ | 1, 1, _, _ | 1, 2, _, _ | 1, 3, _, _ | 2, 0, _, _ | 2, 1, _, _ | 2, 2, _, _ | 2, 3, _, _ | 3, 0, _, _ | 3, 1, _, _ | 3, 2, _, _ | 3, 3, _, _ => rfl
theorem idx_rise (cnt : Nat → Nat) {i : Nat} (hi : i + 1 < (idx cnt 36).length) : (idx cnt 36)[i] < (idx cnt 36)[i + 1] := List.pairwise_iff_getElem.1 (idx_pair cnt 36) i (i + 1) (by omega) hi (by omega)
/-- What is left behind i links. -/
def left_ (cnt : Nat → Nat) (i : Nat) : Nat → Nat := fun k => if k ∈ (idx cnt 36).take i then 0 else cnt k
theorem left_zero (cnt : Nat → Nat) : left_ cnt 0 = cnt := by funext k; simp [left_]
theorem left_at (cnt : Nat → Nat) {i : Nat} (hi : i < (idx cnt 36).length) : left_ cnt i ((idx cnt 36)[i]) = cnt ((idx cnt 36)[i]) := by
  unfold left_
  refine if_neg fun hm => ?_
  obtain ⟨j, hj, e⟩ := List.mem_iff_getElem.1 hm
  have hj1 : j < i := by rw [List.length_take] at hj; omega
  rw [List.getElem_take] at e
  have := List.pairwise_iff_getElem.1 (idx_pair cnt 36) j i (by omega) hi hj1
  omega
theorem left_succ (cnt : Nat → Nat) {i : Nat} (hi : i < (idx cnt 36).length) : left_ cnt (i + 1) = upq (left_ cnt i) ((idx cnt 36)[i]) 0 := by
  funext k
  unfold left_ upq
  rw [List.take_succ_eq_append_getElem hi]
  by_cases e : k = (idx cnt 36)[i]
  · rw [if_pos e, if_pos (by rw [e]; exact List.mem_append.2 (.inr (List.mem_singleton.2 rfl)))]
  · rw [if_neg e]
    have : (k ∈ (idx cnt 36).take i ++ [(idx cnt 36)[i]]) ↔ k ∈ (idx cnt 36).take i := by
      rw [List.mem_append, List.mem_singleton]
      exact ⟨fun h => h.resolve_right e, .inl⟩
    simp only [this]
theorem left_all (cnt : Nat → Nat) (k : Nat) (hk : k < 36) : left_ cnt (idx cnt 36).length k = 0 := by
  unfold left_
  rw [List.take_length]
  split
  · rfl
  · rename_i h
    rw [idx_mem] at h
    omega
def sumTo (cnt : Nat → Nat) (i : Nat) : Nat := (((idx cnt 36).take i).map cnt).sum
theorem sumTo_succ (cnt : Nat → Nat) {i : Nat} (hi : i < (idx cnt 36).length) : sumTo cnt (i + 1) = sumTo cnt i + cnt ((idx cnt 36)[i]) := by
  unfold sumTo
  rw [List.take_succ_eq_append_getElem hi]
  simp only [List.map_append, List.sum_append, List.map_cons, List.map_nil, List.sum_cons, List.sum_nil, Nat.add_zero]
theorem sumTo_all (cnt : Nat → Nat) : sumTo cnt (idx cnt 36).length = tot cnt 36 := by
  unfold sumTo
  rw [List.take_length, tot_sum]
theorem sumTo_le (cnt : Nat → Nat) (i : Nat) : sumTo cnt i ≤ tot cnt 36 := by
  rw [← tot_sum, ← List.take_append_drop i (idx cnt 36), List.map_append, List.sum_append]
  unfold sumTo
  omega
end Go.Proofs.Ytfhlcjfgbhmecaa
