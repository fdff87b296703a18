/- The contract of meter.Total. -/
import Derived.Test.YtfeepofdnjnkpaaProg
import Derived.Test.YtfeepofdnjnkpaaCplxA
namespace Go.Proofs.Ytfeepofdnjnkpaa
open Go.RowKit F
set_option linter.unusedVariables false

theorem total_c (a : Option Addr) (n c : Nat) (zs : List (Int × Int)) (w : World) (hr : CRow w a n zs) (hu : Usual zs) (hn : n ≤ 4096) :
    Calls Try.prog 28 #[.slice a n c] w fun e w' => e = .returned (.complex .f64 (fw (sumN zs)) (fw (sumT zs))) ∧ w = w' := by
  have hlen : zs.length = n := by have := hr.1; simpa using this
  go_enter Try.func28, Try.ntmps28
  go_wp2
  go_loop [3, 8] (fun z i => ∃ k : Nat, k ≤ n ∧ i = .int .i64 k ∧ z = .complex .f64 (fw (sumN (zs.take k))) (fw (sumT (zs.take k)))) (fun _ i => n - (intOf i).toNat)
  case atStart => exact ⟨0, by omega, rfl, by simp [sumN, sumT, fw_zero]⟩
  case round =>
    obtain ⟨k, hk, rfl, rfl⟩ := hrel
    by_cases hlt : k < n
    · obtain ⟨b, off, rfl, _, hc⟩ := hr.2 (by omega)
      have hz := hu zs[k] (List.getElem_mem (by omega))
      have hcell : w.cell? ⟨b, off + k, none⟩ = some (.complex .f64 (fw zs[k].1) (fw zs[k].2)) := hc k _ (by rw [List.getElem?_map, List.getElem?_eq_getElem (by omega)]; rfl)
      have hs := sum_snoc zs k (by omega)
      have hbd := sum_bd _ (hu.take k)
      have hbl : (zs.take k).length ≤ 4096 := by rw [List.length_take]; omega
      have hadd := fun w => run_cplx_add (P := Try.prog) w 27 (sumN (zs.take k)) (sumT (zs.take k)) zs[k].1 zs[k].2 (Small.of (by omega) (by omega)) (Small.of (by omega) (by omega)) (Small.of (by omega) (by omega)) (Small.of (by omega) (by omega)) (Small.of (by omega) (by omega)) (Small.of (by omega) (by omega))
      have HS := Lib.hid hs
      clear hs hc hbd hbl hz hu hr
      go_wp2
      go_round
      case rel => exact ⟨k + 1, by omega, by go_num, by rw [HS.out.1, HS.out.2]⟩
      case measure => simp [intOf]; omega
    · have hkn : k = n := by omega
      have ht : zs.take k = zs := List.take_of_length_le (by omega)
      rw [ht]
      clear ht hkn
      go_wp2
      go_ret
      exact ⟨rfl, rfl⟩
end Go.Proofs.Ytfeepofdnjnkpaa
