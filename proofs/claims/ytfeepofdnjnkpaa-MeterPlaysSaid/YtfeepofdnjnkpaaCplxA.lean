/- Complex numbers of whole parts: what the operations make of them; slices of them. Over any program. -/
import Derived.Test.YtfeepofdnjnkpaaFloat
import Derived.Test.YtfeepofdnjnkpaaVRow
import Derived.WalkLawsBesides
import Derived.Laws.ComplexArith
import Derived.Laws.FloatArith
namespace Go.Proofs.Ytfeepofdnjnkpaa
open Go.RowKit F
set_option linter.unusedVariables false

/-- It is a whole number that a double holds with room. -/
def Small (n : Int) : Prop := n.natAbs < 2 ^ 53
theorem Small.of {n : Int} (h1 : -9007199254740991 ≤ n) (h2 : n ≤ 9007199254740991) : Small n := by
  unfold Small
  have : (2 : Nat) ^ 53 = 9007199254740992 := by decide
  omega

/-- The complex number of two whole numbers. -/
def cplx (a b : Int) : Value := .complex .f64 (fw a) (fw b)
theorem run_cplx_add {P : Program} (w : World) (t : TypeId) (a b c d : Int) (ha : Small a) (hb : Small b) (hc : Small c) (hd : Small d) (hac : Small (a + c)) (hbd : Small (b + d)) :
    (binOp .add t (.complex .f64 (fw a) (fw b)) (.complex .f64 (fw c) (fw d))).run P w = .ok (.complex .f64 (fw (a + c)) (fw (b + d))) w := by
  have h1 : FloatKind.f64.format.add (fw a) (fw c) = some (fw (a + c)) := add_fw ha hc hac
  have h2 : FloatKind.f64.format.add (fw b) (fw d) = some (fw (b + d)) := add_fw hb hd hbd
  refine run_complex_sum (P := P) w .add (.inl rfl) t .f64 _ _ _ _ _ _ ?_
  have e1 : floatBits .add .f64 (fw a) (fw c) = some (fw (a + c)) := h1
  have e2 : floatBits .add .f64 (fw b) (fw d) = some (fw (b + d)) := h2
  simp [cSumBits, e1, e2]
theorem float_int (n : Int) (h : Small n) : floatToIntVal .f64 (fw n) .i64 = some n := by
  have h1 : (FloatKind.f64.decode (fw n)).toInt .zero = some n := toInt_fw h
  unfold floatToIntVal
  rw [h1]
  unfold Small at h
  have h2 : (2 : Nat) ^ 53 = 9007199254740992 := by decide
  rw [h2] at h
  simp [IntKind.min, IntKind.max, IntKind.signed, IntKind.bits]
  omega

/-- A slice of complex numbers of whole parts. -/
def CRow (w : World) (a : Option Addr) (n : Nat) (zs : List (Int × Int)) : Prop := VRow w a n 1 (zs.map fun z => cplx z.1 z.2)
def sumN (zs : List (Int × Int)) : Int := (zs.map (·.1)).sum
def sumT (zs : List (Int × Int)) : Int := (zs.map (·.2)).sum
/-- Parts of a usual size. -/
def Usual (zs : List (Int × Int)) : Prop := ∀ z ∈ zs, 0 ≤ z.1 ∧ z.1 ≤ 134217728 ∧ 0 ≤ z.2 ∧ z.2 ≤ 134217728
theorem sum_snoc (zs : List (Int × Int)) (k : Nat) (hk : k < zs.length) : sumN (zs.take (k + 1)) = sumN (zs.take k) + zs[k].1 ∧ sumT (zs.take (k + 1)) = sumT (zs.take k) + zs[k].2 := by
  rw [List.take_succ_eq_append_getElem hk]
  simp only [sumN, sumT, List.map_append, List.sum_append, List.map_cons, List.map_nil, List.sum_cons, List.sum_nil, Int.add_zero, and_self]
theorem sum_bd (zs : List (Int × Int)) (h : Usual zs) : 0 ≤ sumN zs ∧ sumN zs ≤ 134217728 * zs.length ∧ 0 ≤ sumT zs ∧ sumT zs ≤ 134217728 * zs.length := by
  induction zs with
  | nil => simp [sumN, sumT]
  | cons z zs ih =>
    have h1 := h z (by simp)
    have h2 := ih (fun x hx => h x (by simp [hx]))
    simp only [sumN, sumT, List.map_cons, List.sum_cons, List.length_cons] at h2 ⊢
    omega
theorem Usual.take {zs : List (Int × Int)} (h : Usual zs) (k : Nat) : Usual (zs.take k) := fun z hz => h z (List.mem_of_mem_take hz)

theorem fw_1 : fw 1 = 4607182418800017408 := by decide +kernel
theorem eq_fw {a b : Int} (ha : Small a) (hb : Small b) (r : Bool) (hr : decide (a = b) = r) : (FloatKind.f64.format.order (fw a) (fw b) == some .eq) = r := by
  have h : FloatKind.f64.format.order (fw a) (fw b) = some (compare a b) := order_fw ha hb
  rw [h, ← hr]
  by_cases he : a = b
  · subst he
    simp [compare, compareOfLessAndEq]
  · rw [decide_eq_false he]
    rcases Int.lt_or_gt_of_ne he with h1 | h1
    · simp [compare, compareOfLessAndEq, h1]
    · have h2 : ¬ a < b := by omega
      simp [compare, compareOfLessAndEq, h2, he]
end Go.Proofs.Ytfeepofdnjnkpaa
