/- The contract of the reference's Late. -/
import Derived.Test.YtiacklfigpobnaaJudgeR
import Derived.StillTailTactics
namespace Go.Proofs.Ytiacklfigpobnaa
open Go.RowKit F
set_option linter.unusedVariables false
set_option maxHeartbeats 2000000 in
theorem rlate_c (om mn mt : Int) (a : Option Addr) (n c : Nat) (zs : List (Int × Int)) (w : World) (hr : MRow w a n zs) (hu : Usual zs) (hn : n ≤ 64)
    (hom : 0 ≤ om ∧ om ≤ 64) (hm : 0 ≤ mn ∧ mn ≤ 1048576) (ht : 0 ≤ mt ∧ mt ≤ 134217728) :
    Calls Try.prog 34 #[.int .i64 om, .agg #[.int .i64 mn, .int .i64 mt], .slice a n c] w fun e w' => e = .returned (.bool (lateB om mn mt zs)) ∧ Below w.heap.size w w' := by
  have hlen := hr.len
  obtain ⟨hu1, hu2⟩ := hom
  obtain ⟨hm1, hm2⟩ := hm
  obtain ⟨ht1, ht2⟩ := ht
  have hs := sum_bd zs hu
  rw [hlen] at hs
  obtain ⟨p1, p2⟩ := mul_bd ht1 ht2 hs.1 (show sumN zs ≤ 134217728 * 64 by omega)
  obtain ⟨p3, p4⟩ := mul_bd hs.2.2.1 (show sumT zs ≤ 134217728 * 64 by omega) hm1 hm2
  obtain ⟨p5, p6⟩ := mul_bd hu1 hu2 hm1 hm2
  obtain ⟨p7, p8⟩ := mul_bd p5 p6 hs.1 (show sumN zs ≤ 134217728 * 64 by omega)
  have hH := Lib.hid hlen
  have hRow := Lib.hid hr
  clear hr hs hlen
  go_enter Try.func34, Try.ntmps34
  go_wp2_with fail
  go_loopw [8] (fun i wr => ∃ k : Nat, k ≤ n ∧ i = .int .i64 k ∧ Below w.heap.size w wr ∧ w.heap.size < wr.heap.size ∧ Blk wr w.heap.size 42 #[.int .i64 mn, .int .i64 mt] ∧ Blk wr (w.heap.size + 1) 42 #[.int .i64 (sumN (zs.take k)), .int .i64 (sumT (zs.take k))]) (fun i _ => n - (intOf i).toNat)
  case atStart =>
    refine ⟨0, by omega, rfl, ?_, ?_, ?_, ?_⟩
    · exact ((Below.refl _ _).alloc (Nat.le_refl _) _).alloc (by simp) _
    · simp; omega
    · exact (Blk.new _ _ _).alloc _
    · exact Blk.new' _ _ _ (by simp)
  case round =>
    obtain ⟨k, hk, rfl, hb2, hz2, hm2', hacc⟩ := hrel
    by_cases hlt : k < n
    · have hrow := VRow.below hRow.out (show Below w.heap.size w wr from hb2)
      obtain ⟨b, off, rfl, hbl, hc⟩ := hRow.out.2 (by omega)
      obtain ⟨b', off', hab, _, hc'⟩ := hrow.2 (by omega)
      simp only [Option.some.injEq, Addr.mk.injEq] at hab
      obtain ⟨rfl, rfl, _⟩ := hab
      have hkl : k < zs.length := by rw [hH.out]; exact hlt
      have hz := hu zs[k] (List.getElem_mem hkl)
      have c1 : wr.cell? ⟨b, off + k * 2, none⟩ = some (.int .i64 zs[k].1) := hc' _ _ (mcells_get zs k hkl).1
      have c2 : wr.cell? ⟨b, off + k * 2 + 1, none⟩ = some (.int .i64 zs[k].2) := by rw [Nat.add_assoc]; exact hc' _ _ (mcells_get zs k hkl).2
      have c3 := (hacc.cell 0).trans (show _ = some (.int .i64 (sumN (zs.take k))) from rfl)
      have c4 := (hacc.cell 1).trans (show _ = some (.int .i64 (sumT (zs.take k))) from rfl)
      have f3 := hacc.frozen 0
      have f4 := hacc.frozen 1
      have hS := sum_snoc zs k hkl
      have hbd := sum_bd _ (hu.take k)
      have hbl2 : (zs.take k).length ≤ 64 := by rw [List.length_take]; omega
      have HS := Lib.hid hS
      have HA := Lib.hid hacc
      have b1 : 0 ≤ sumN (zs.take k) ∧ sumN (zs.take k) ≤ 134217728 * 64 := by omega
      have b2 : 0 ≤ sumT (zs.take k) ∧ sumT (zs.take k) ≤ 134217728 * 64 := by omega
      have hne : b ≠ w.heap.size + 1 := by omega
      clear hS hc hc' hbd hbl2 hu hacc hrow
      go_wp2_with fail
      go_still_tail 9, (by kernel_rfl)
      change wpList _ _ _ _ _ wr.drew
      go_wp2_with fail
      obtain ⟨w6, hw6⟩ : ∃ w6, w6 = (wr.setCell ⟨w.heap.size + 1, 0, none⟩ (.int .i64 (sumN (zs.take k) + zs[k].1))).drew := ⟨_, rfl⟩
      rw [← hw6]
      have hb6 : Below w.heap.size w w6 := by rw [hw6]; exact (hb2.setCell (by simp) _).drew
      have hz6 : w.heap.size < w6.heap.size := by rw [hw6]; show _ < (wr.setCell _ _).heap.size; simpa using hz2
      have hm6 : Blk w6 w.heap.size 42 #[.int .i64 mn, .int .i64 mt] := by rw [hw6]; exact (hm2'.far (by simp) _).drew
      have ha6 : Blk w6 (w.heap.size + 1) 42 #[.int .i64 (sumN (zs.take k) + zs[k].1), .int .i64 (sumT (zs.take k))] := by
        rw [hw6]
        exact (HA.out.set_ 0 _).drew
      have c6 : w6.cell? ⟨b, off + k * 2 + 1, none⟩ = some (.int .i64 zs[k].2) := by
        rw [hw6]
        exact (World.cell?_setCell_other _ _ _ _ (by simp)).trans c2
      have c7 := (ha6.cell 1).trans (show _ = some (.int .i64 (sumT (zs.take k))) from rfl)
      have f7 := ha6.frozen 1
      have HW6 := Lib.hid hw6
      have HA6 := Lib.hid ha6
      clear hw6 c1 c2 c3 c4 f3 f4 ha6
      go_still_tail 9, (by kernel_rfl)
      change wpList _ _ _ _ _ w6.drew
      go_wp2_with fail
      go_roundw
      case rel =>
        refine ⟨k + 1, by omega, by go_num, (hb6.setCell (by simp) _).drew, by show _ < (w6.setCell _ _).heap.size; simpa using hz6, (hm6.far (by simp) _).drew, ?_⟩
        rw [HS.out.1, HS.out.2]
        exact (HA6.out.set_ 1 _).drew
      case measure => simp [intOf]; omega
    · have hkn : k = n := by omega
      subst hkn
      have ht : zs.take k = zs := List.take_of_length_le (by rw [hH.out]; omega)
      rw [ht] at hacc
      clear ht
      have hs := sum_bd zs hu
      have c1 := (hm2'.cell 0).trans (show _ = some (.int .i64 mn) from rfl)
      have c2 := (hm2'.cell 1).trans (show _ = some (.int .i64 mt) from rfl)
      have c3 := (hacc.cell 0).trans (show _ = some (.int .i64 (sumN zs)) from rfl)
      have c4 := (hacc.cell 1).trans (show _ = some (.int .i64 (sumT zs)) from rfl)
      by_cases d1 : 0 < mn
      · by_cases d2 : 0 < sumN zs
        · have e : lateB om mn mt zs = decide (sumT zs * mn + om * mn * sumN zs < mt * sumN zs) := by
            unfold lateB
            rw [decide_eq_true d1, decide_eq_true d2, Bool.true_and, Bool.true_and]
          have E := Lib.hid e
          clear e
          go_wp2
          go_ret
          exact ⟨by rw [E.out]; rfl, hb2⟩
        · have e : lateB om mn mt zs = false := by simp [lateB]; omega
          have E := Lib.hid e
          clear e
          go_wp2
          go_ret
          exact ⟨by rw [E.out]; rfl, hb2⟩
      · have e : lateB om mn mt zs = false := by simp [lateB]; omega
        have E := Lib.hid e
        clear e
        go_wp2
        go_ret
        exact ⟨by rw [E.out]; rfl, hb2⟩
end Go.Proofs.Ytiacklfigpobnaa
