/- MeterOrders: the plain law: sums do not ask for the order. -/
import Derived.Test.YtfeepofdnjnkpaaMeterM
namespace Go.Proofs.Ytfeepofdnjnkpaa.MeterOrders
open Go.RowKit F
set_option linter.unusedVariables false

def S (f : Nat → Int) : Nat → Int
  | 0 => 0
  | k + 1 => S f k + f k
theorem S_bd (f : Nat → Int) (B : Int) (h : ∀ i, 0 ≤ f i ∧ f i ≤ B) : ∀ k : Nat, 0 ≤ S f k ∧ S f k ≤ B * k
  | 0 => by simp [S]
  | k + 1 => by
    have ih := S_bd f B h k
    have := h k
    have e : B * ((k + 1 : Nat) : Int) = B * k + B := by rw [Int.natCast_add, Int.mul_add]; simp
    rw [e]
    simp only [S]
    omega
theorem S_first (f : Nat → Int) : ∀ k, S f (k + 1) = f 0 + S (fun i => f (i + 1)) k
  | 0 => by simp [S]
  | k + 1 => by
    rw [S, S_first f k, S]
    omega
theorem S_rev (f : Nat → Int) : ∀ n, S (fun i => f (n - 1 - i)) n = S f n
  | 0 => rfl
  | n + 1 => by
    rw [S_first]
    have e : (fun i => f (n + 1 - 1 - (i + 1))) = fun i => f (n - 1 - i) := by
      funext i
      congr 1
      omega
    rw [e, S_rev f n, S]
    show f (n + 1 - 1 - 0) + _ = _
    rw [show n + 1 - 1 - 0 = n by omega]
    omega
def cN (K : Nat → Int) (j : Int) (i : Nat) : Int := if K i = j then 1 else 0
def cT (K T : Nat → Int) (j : Int) (i : Nat) : Int := if K i = j then T i else 0
/-- The measures after k calls. -/
def mk (K T : Nat → Int) (k : Nat) : List (Int × Int) := [(S (cN K 0) k, S (cT K T 0) k), (S (cN K 1) k, S (cT K T 1) k), (S (cN K 2) k, S (cT K T 2) k)]
theorem mk_rev (K T : Nat → Int) (n : Nat) : mk (fun i => K (n - 1 - i)) (fun i => T (n - 1 - i)) n = mk K T n := by
  have h1 : ∀ j, S (cN (fun i => K (n - 1 - i)) j) n = S (cN K j) n := fun j => S_rev (cN K j) n
  have h2 : ∀ j, S (cT (fun i => K (n - 1 - i)) (fun i => T (n - 1 - i)) j) n = S (cT K T j) n := fun j => S_rev (cT K T j) n
  simp only [mk, h1, h2]
theorem mk_bd {K T : Nat → Int} (hT : ∀ i, 0 ≤ T i ∧ T i < 1000) (k : Nat) (hk : k ≤ 60) : ∀ z ∈ mk K T k, 0 ≤ z.1 ∧ z.1 ≤ 60000 ∧ 0 ≤ z.2 ∧ z.2 ≤ 60000 := by
  have a : ∀ j, 0 ≤ S (cN K j) k ∧ S (cN K j) k ≤ 1000 * k := fun j => S_bd _ 1000 (fun i => by unfold cN; split <;> omega) k
  have b : ∀ j, 0 ≤ S (cT K T j) k ∧ S (cT K T j) k ≤ 1000 * k := fun j => S_bd _ 1000 (fun i => by unfold cT; have := hT i; split <;> omega) k
  have a0 := a 0; have a1 := a 1; have a2 := a 2; have b0 := b 0; have b1 := b 1; have b2 := b 2
  intro z hz
  simp only [mk, List.mem_cons, List.not_mem_nil, or_false] at hz
  rcases hz with rfl | rfl | rfl <;> (simp only; omega)
theorem mk_sum {K T : Nat → Int} (hK : ∀ i, 0 ≤ K i ∧ K i < 3) (k : Nat) : sumN (mk K T k) = k := by
  have h : ∀ k : Nat, S (cN K 0) k + (S (cN K 1) k + S (cN K 2) k) = k := fun k => by
    induction k with
    | zero => rfl
    | succ k ih =>
      have := hK k
      have e : cN K 0 k + (cN K 1 k + cN K 2 k) = 1 := by
        unfold cN
        rcases (show K k = 0 ∨ K k = 1 ∨ K k = 2 by omega) with h | h | h <;> rw [h] <;> rfl
      simp only [S]
      omega
  simpa [sumN, mk] using h k
theorem mk_step {K T : Nat → Int} (hK : ∀ i, 0 ≤ K i ∧ K i < 3) (hT : ∀ i, 0 ≤ T i ∧ T i < 1000) (k : Nat) :
    addB (mk K T k) (K k) (T k) = true ∧ addSt (mk K T k) (K k) (T k) = mk K T (k + 1) := by
  have h1 := hK k
  have h2 := hT k
  have hb : addB (mk K T k) (K k) (T k) = true := by
    unfold addB mhasB
    rw [decide_eq_true (show 0 ≤ K k ∧ K k < ((mk K T k).length : Int) from ⟨h1.1, h1.2⟩), decide_eq_true (show 0 ≤ T k ∧ T k ≤ 1048576 by omega)]
    rfl
  refine ⟨hb, ?_⟩
  unfold addSt
  rw [if_pos hb]
  rcases (show K k = 0 ∨ K k = 1 ∨ K k = 2 by omega) with h | h | h
  all_goals
    rw [h]
    simp [mk, S, cN, cT, h]
def cells (st : List (Int × Int)) : Array Value := (st.flatMap fun z => [Value.int .i64 z.1, .int .i64 z.2]).toArray
theorem S_step0 {K T : Nat → Int} {k : Nat} (h : K k = 0) : mk K T (k + 1) = [((mk K T k)[0]!.1 + 1, (mk K T k)[0]!.2 + T k), (mk K T k)[1]!, (mk K T k)[2]!] := by simp [mk, S, cN, cT, h]
theorem S_step1 {K T : Nat → Int} {k : Nat} (h : K k = 1) : mk K T (k + 1) = [(mk K T k)[0]!, ((mk K T k)[1]!.1 + 1, (mk K T k)[1]!.2 + T k), (mk K T k)[2]!] := by simp [mk, S, cN, cT, h]
theorem S_step2 {K T : Nat → Int} {k : Nat} (h : K k = 2) : mk K T (k + 1) = [(mk K T k)[0]!, (mk K T k)[1]!, ((mk K T k)[2]!.1 + 1, (mk K T k)[2]!.2 + T k)] := by simp [mk, S, cN, cT, h]
end Go.Proofs.Ytfeepofdnjnkpaa.MeterOrders
