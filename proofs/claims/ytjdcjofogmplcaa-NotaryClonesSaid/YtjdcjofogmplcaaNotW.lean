/- The law's example of package notary; what the numbers of seals are. -/
import Derived.Test.YtjdcjofogmplcaaFrz
import Derived.Test.YtjdcjofogmplcaaLinkW
namespace Go.Proofs.Ytjdcjofogmplcaa
open Go.RowKit
set_option linter.unusedVariables false

theorem num_pos {K : List (Int × List Int)} {q : Int × List Int} (h : q ∈ K) : num K q = (K.idxOf q : Int) + 1 ∧ 1 ≤ num K q ∧ num K q ≤ K.length := by
  have e : num K q = (K.idxOf q : Int) + 1 := if_pos h
  have := List.idxOf_lt_length_of_mem h
  exact ⟨e, by omega, by omega⟩
theorem num_inj {K : List (Int × List Int)} {q r : Int × List Int} (hq : q ∈ K) (hr : r ∈ K) (h : num K q = num K r) : q = r := by
  have h1 := (num_pos hq).1
  have h2 := (num_pos hr).1
  have e : K.idxOf q = K.idxOf r := by omega
  have l1 := List.idxOf_lt_length_of_mem hq
  have l2 := List.idxOf_lt_length_of_mem hr
  rw [← List.getElem_idxOf l1, ← List.getElem_idxOf l2]
  simp only [e]
theorem mem_sealed (K : List (Int × List Int)) (q : Int × List Int) : q ∈ sealed K q := by
  unfold sealed
  split
  · assumption
  · simp
theorem len_sealed (K : List (Int × List Int)) (q : Int × List Int) : (sealed K q).length ≤ K.length + 1 := by
  unfold sealed
  split
  · omega
  · simp

theorem oke_a (p : Int) (h : I64 p) : OkE (p, [97]) := ⟨h, by simp, by simp [maxLen]⟩
set_option maxHeartbeats 1600000 in
set_option maxRecDepth 100000 in
theorem nwakes_c (w : World) : Calls Try.prog 17 #[] w fun e w' => e = .returned (.bool true) ∧ Below w.heap.size w w' := by
  go_enter Try.func17, Try.ntmps17
  go_wp2_with fail
  refine (nnew_c _).mono ?_; rintro e w1 ⟨n, b, rfl, hN1, hn1, hb1, hw1⟩
  have N1 := Lib.hid (hN1.below (frz_below w1 (.int .u8 97)))
  have B1 := Lib.hid (hw1.trans ((frz_below _ (.int .u8 97)).mono hw1.size))
  have cv1 := conv_frz w1 (.int .u8 97)
  have V1 := Lib.hid (frz_row w1 (.int .u8 97))
  clear hN1 hw1
  go_wp2_with fail
  refine (nseal_c n b [] 1 _ 1 1 [97] _ N1.out V1.out (oke_a 1 (by unfold I64; omega)) (by simp) 1 (by decide) [(1, [97])] (by decide)).mono ?_; rintro e w2 ⟨rfl, hN2, ho2⟩
  have N2 := Lib.hid (hN2.below (frz_below w2 (.int .u8 97)))
  have hb2 := ho2.below B1.out B1.out.size (by simp; exact hb1)
  have B2 := Lib.hid (hb2.trans ((frz_below _ (.int .u8 97)).mono hb2.size))
  have cv2 := conv_frz w2 (.int .u8 97)
  have V2 := Lib.hid (frz_row w2 (.int .u8 97))
  clear hN2 ho2 hb2
  go_wp2_with fail
  refine (nseal_c n b [(1, [97])] 2 _ 1 1 [97] _ N2.out V2.out (oke_a 2 (by unfold I64; omega)) (by simp) 2 (by decide) [(1, [97]), (2, [97])] (by decide)).mono ?_; rintro e w3 ⟨rfl, hN3, ho3⟩
  have N3 := Lib.hid (hN3.below (frz_below w3 (.int .u8 97)))
  have hb3 := ho3.below B2.out B2.out.size (by simp; exact hb1)
  have B3 := Lib.hid (hb3.trans ((frz_below _ (.int .u8 97)).mono hb3.size))
  have cv3 := conv_frz w3 (.int .u8 97)
  have V3 := Lib.hid (frz_row w3 (.int .u8 97))
  clear hN3 ho3 hb3
  go_wp2_with fail
  refine (ncheck_c n b [(1, [97]), (2, [97])] 1 _ 1 1 [97] 1 _ N3.out V3.out (oke_a 1 (by unfold I64; omega)) true (by decide)).mono ?_; rintro e w4 ⟨rfl, j4, hj4⟩
  have hN4 : Nty w4 n b [(1, [97]), (2, [97])] := by rw [hj4]; exact N3.out.drewN j4
  have hb4 : Below w.heap.size w w4 := by rw [hj4]; exact below_drewN B3.out j4
  have N4 := Lib.hid (hN4.below (frz_below w4 (.int .u8 97)))
  have B4 := Lib.hid (hb4.trans ((frz_below _ (.int .u8 97)).mono hb4.size))
  have cv4 := conv_frz w4 (.int .u8 97)
  have V4 := Lib.hid (frz_row w4 (.int .u8 97))
  clear hN4 hj4 hb4
  go_wp2_with fail
  refine (ncheck_c n b [(1, [97]), (2, [97])] 2 _ 1 1 [97] 1 _ N4.out V4.out (oke_a 2 (by unfold I64; omega)) false (by decide)).mono ?_; rintro e w5 ⟨rfl, j5, hj5⟩
  have B5 := Lib.hid (show Below w.heap.size w w5 by rw [hj5]; exact below_drewN B4.out j5)
  clear hj5
  go_wp2_with fail
  go_ret
  exact ⟨rfl, B5.out⟩
end Go.Proofs.Ytjdcjofogmplcaa
