/- Complex numbers of whole parts: what the operations make of them; slices of them; contracts of judge.parts and meter.Total. -/
import Derived.Test.YtiacklfigpobnaaProg
import Derived.Test.YtiacklfigpobnaaFloat
import Derived.Test.YtiacklfigpobnaaVRow
import Derived.WalkLawsBesides
import Derived.Laws.ComplexArith
import Derived.Laws.FloatArith
namespace Go.Proofs.Ytiacklfigpobnaa
open Go.RowKit F
set_option linter.unusedVariables false

/-- It is a whole number that a double holds with room. -/
def Small (n : Int) : Prop := n.natAbs < 2 ^ 53
theorem Small.of {n : Int} (h1 : -9007199254740991 ≤ n) (h2 : n ≤ 9007199254740991) : Small n := by
  unfold Small
  have : (2 : Nat) ^ 53 = 9007199254740992 := by decide
  omega

/-- The complex number of two whole numbers. -/
def cplx (a b : Int) : Value := .complex .f64 (fw a) (fw b)
theorem run_cplx_add {P : Program} (w : World) (t : TypeId) (a b c d : Int) (ha : Small a) (hb : Small b) (hc : Small c) (hd : Small d) (hac : Small (a + c)) (hbd : Small (b + d)) :
    (binOp .add t (.complex .f64 (fw a) (fw b)) (.complex .f64 (fw c) (fw d))).run P w = .ok (.complex .f64 (fw (a + c)) (fw (b + d))) w := by
  have h1 : FloatKind.f64.format.add (fw a) (fw c) = some (fw (a + c)) := add_fw ha hc hac
  have h2 : FloatKind.f64.format.add (fw b) (fw d) = some (fw (b + d)) := add_fw hb hd hbd
  refine run_complex_sum (P := P) w .add (.inl rfl) t .f64 _ _ _ _ _ _ ?_
  have e1 : floatBits .add .f64 (fw a) (fw c) = some (fw (a + c)) := h1
  have e2 : floatBits .add .f64 (fw b) (fw d) = some (fw (b + d)) := h2
  simp [cSumBits, e1, e2]
theorem float_int (n : Int) (h : Small n) : floatToIntVal .f64 (fw n) .i64 = some n := by
  have h1 : (FloatKind.f64.decode (fw n)).toInt .zero = some n := toInt_fw h
  unfold floatToIntVal
  rw [h1]
  unfold Small at h
  have h2 : (2 : Nat) ^ 53 = 9007199254740992 := by decide
  rw [h2] at h
  simp [IntKind.min, IntKind.max, IntKind.signed, IntKind.bits]
  omega

/-- A slice of complex numbers of whole parts. -/
def CRow (w : World) (a : Option Addr) (n : Nat) (zs : List (Int × Int)) : Prop := VRow w a n 1 (zs.map fun z => cplx z.1 z.2)
def sumN (zs : List (Int × Int)) : Int := (zs.map (·.1)).sum
def sumT (zs : List (Int × Int)) : Int := (zs.map (·.2)).sum
/-- Parts of a usual size. -/
def Usual (zs : List (Int × Int)) : Prop := ∀ z ∈ zs, 0 ≤ z.1 ∧ z.1 ≤ 134217728 ∧ 0 ≤ z.2 ∧ z.2 ≤ 134217728
theorem sum_snoc (zs : List (Int × Int)) (k : Nat) (hk : k < zs.length) : sumN (zs.take (k + 1)) = sumN (zs.take k) + zs[k].1 ∧ sumT (zs.take (k + 1)) = sumT (zs.take k) + zs[k].2 := by
  rw [List.take_succ_eq_append_getElem hk]
  simp only [sumN, sumT, List.map_append, List.sum_append, List.map_cons, List.map_nil, List.sum_cons, List.sum_nil, Int.add_zero, and_self]
theorem sum_bd (zs : List (Int × Int)) (h : Usual zs) : 0 ≤ sumN zs ∧ sumN zs ≤ 134217728 * zs.length ∧ 0 ≤ sumT zs ∧ sumT zs ≤ 134217728 * zs.length := by
  induction zs with
  | nil => simp [sumN, sumT]
  | cons z zs ih =>
    have h1 := h z (by simp)
    have h2 := ih (fun x hx => h x (by simp [hx]))
    simp only [sumN, sumT, List.map_cons, List.sum_cons, List.length_cons] at h2 ⊢
    omega
theorem Usual.take {zs : List (Int × Int)} (h : Usual zs) (k : Nat) : Usual (zs.take k) := fun z hz => h z (List.mem_of_mem_take hz)

theorem parts_c (a b : Int) (w : World) (ha : Small a) (hb : Small b) : Calls Try.prog 40 #[.complex .f64 (fw a) (fw b)] w fun e w' => e = .returned (.tuple #[.int .i64 a, .int .i64 b]) ∧ w = w' := by
  have h1 := fun w => run_convert_float_int (P := Try.prog) (w := w) 44 3 .f64 .i64 (fw a) a (by kernel_rfl) Try.underlying3 (float_int a ha)
  have h2 := fun w => run_convert_float_int (P := Try.prog) (w := w) 44 3 .f64 .i64 (fw b) b (by kernel_rfl) Try.underlying3 (float_int b hb)
  go_enter Try.func40, Try.ntmps40
  go_wp2
  go_ret2
  exact ⟨rfl, rfl⟩

theorem total_c (a : Option Addr) (n c : Nat) (zs : List (Int × Int)) (w : World) (hr : CRow w a n zs) (hu : Usual zs) (hn : n ≤ 4096) :
    Calls Try.prog 41 #[.slice a n c] w fun e w' => e = .returned (.complex .f64 (fw (sumN zs)) (fw (sumT zs))) ∧ w = w' := by
  have hlen : zs.length = n := by have := hr.1; simpa using this
  go_enter Try.func41, Try.ntmps41
  go_wp2
  go_loop [3, 8] (fun z i => ∃ k : Nat, k ≤ n ∧ i = .int .i64 k ∧ z = .complex .f64 (fw (sumN (zs.take k))) (fw (sumT (zs.take k)))) (fun _ i => n - (intOf i).toNat)
  case atStart => exact ⟨0, by omega, rfl, by simp [sumN, sumT, fw_zero]⟩
  case round =>
    obtain ⟨k, hk, rfl, rfl⟩ := hrel
    by_cases hlt : k < n
    · obtain ⟨b, off, rfl, _, hc⟩ := hr.2 (by omega)
      have hz := hu zs[k] (List.getElem_mem (by omega))
      have hcell : w.cell? ⟨b, off + k, none⟩ = some (.complex .f64 (fw zs[k].1) (fw zs[k].2)) := hc k _ (by rw [List.getElem?_map, List.getElem?_eq_getElem (by omega)]; rfl)
      have hs := sum_snoc zs k (by omega)
      have hbd := sum_bd _ (hu.take k)
      have hbl : (zs.take k).length ≤ 4096 := by rw [List.length_take]; omega
      have hadd := fun w => run_cplx_add (P := Try.prog) w 39 (sumN (zs.take k)) (sumT (zs.take k)) zs[k].1 zs[k].2 (Small.of (by omega) (by omega)) (Small.of (by omega) (by omega)) (Small.of (by omega) (by omega)) (Small.of (by omega) (by omega)) (Small.of (by omega) (by omega)) (Small.of (by omega) (by omega))
      have HS := Lib.hid hs
      clear hs hc hbd hbl hz hu hr
      go_wp2
      go_round
      case rel => exact ⟨k + 1, by omega, by go_num, by rw [HS.out.1, HS.out.2]⟩
      case measure => simp [intOf]; omega
    · have hkn : k = n := by omega
      have ht : zs.take k = zs := List.take_of_length_le (by omega)
      rw [ht]
      clear ht hkn
      go_wp2
      go_ret
      exact ⟨rfl, rfl⟩
end Go.Proofs.Ytiacklfigpobnaa
