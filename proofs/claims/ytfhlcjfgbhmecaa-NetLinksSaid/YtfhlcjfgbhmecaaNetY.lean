/- Package psephoslaw23: wakes. -/
import Derived.Test.YtfhlcjfgbhmecaaNetW
import Derived.Test.YtfhlcjfgbhmecaaNetV
import Derived.Test.YtfhlcjfgbhmecaaNetC
namespace Go.Proofs.Ytfhlcjfgbhmecaa
open Go.RowKit
set_option linter.unusedVariables false
set_option maxRecDepth 100000

abbrev six : List Int := [0, 1, 2, 3, 100, 101]
theorem at6 (a : Nat) (x : Int) (h : a < 4) (hx : x = a) : At 6 six x a := by
  subst hx
  match a, h with
  | 0, _ => exact ⟨by omega, rfl, by decide⟩
  | 1, _ => exact ⟨by omega, rfl, by decide⟩
  | 2, _ => exact ⟨by omega, rfl, by decide⟩
  | 3, _ => exact ⟨by omega, rfl, by decide⟩
set_option maxHeartbeats 1600000 in
theorem nwakes_c (w : World) : Calls Try.prog 36 #[] w fun e w' => e = .returned (.bool true) ∧ Below w.heap.size w w' := by
  go_enter Try.func36, Try.ntmps36
  go_wp2_with fail
  refine (cfg_c _).mono ?_; rintro e w1 ⟨rfl, hb1⟩
  go_wp2_with fail
  refine (nnew_a 64 (by omega) _).mono ?_; rintro e w2 ⟨gn, q, g, rfl, hn2, hb2, -, hq2⟩
  have B2 := Lib.hid (hb1.trans (hb2.mono hb1.size))
  have N2 := Lib.hid (hn2.below ((Below.refl _ _).alloc (Nat.le_refl _) (.cells #[.int .u8 1] 5)))
  have GE : Hid (w.heap.size ≤ q 1 ∧ w.heap.size ≤ g 1) := Lib.hid ⟨Nat.le_trans hb1.size (hq2 1 (by omega)).1, Nat.le_trans hb1.size (hq2 1 (by omega)).2⟩
  have B3 := Lib.hid (B2.out.alloc B2.out.size (.cells #[.int .u8 1] 5))
  clear hb1 hb2 hn2 hq2
  go_wp2_with fail
  refine (npush_ok 0 1 _ 1 1 [1] _ N2.out (by omega) (by omega) 0 1 (by omega) (at6 0 0 (by omega) rfl) (at6 1 1 (by omega) rfl) 1 rfl (by omega) (VRow.of_blk (n := 1) (s := 1) (Blk.new w2 5 #[.int .u8 1]) rfl) (by omega) (by simp)).mono ?_; rintro e w4 ⟨g', z, rfl, hn4, ho4⟩
  have B4 : Hid (Below w.heap.size w w4) := Lib.hid (ho4.below B3.out B3.out.size (by simp; exact GE.out))
  have N4 := Lib.hid hn4
  have L4 : Hid (lksTo 6 six (upq (fun _ => ([] : List (Value × List Int))) 1 ([] ++ [(z, [1])])) (6 * 6) = [((0 : Int), (1 : Int))]) := Lib.hid (by rfl)
  clear hn4 ho4 N2 B2 B3 GE
  go_wp2_with fail
  refine (nlinks_c _ N4.out (by omega) _ L4.out).mono ?_; rintro e w5 ⟨A, c, rfl, hp5, hb5⟩
  have B5 := Lib.hid (B4.out.trans (hb5.mono B4.out.size))
  have N5 := Lib.hid (N4.out.below hb5)
  have P5 := Lib.hid hp5
  clear hb5 hp5 N4 B4 L4
  go_wp2_with fail
  refine (same2_c _ _ 1 1 _ _ [(0, 1)] [(0, 1)] _ ((own_vrow P5.out).below ((Below.refl _ _).alloc (Nat.le_refl _) _)) (VRow.of_blk (n := 1) (s := 2) (Blk.new w5 75 #[.int .i64 0, .int .i64 1]) rfl) rfl rfl (by omega) (by omega) true (by decide)).mono ?_; rintro e w6 ⟨rfl, hb6⟩
  have hb56 := ((Below.refl w5.heap.size w5).alloc (Nat.le_refl _) (.cells #[.int .i64 0, .int .i64 1] 75)).trans (hb6.mono (by simp))
  have B6 := Lib.hid (B5.out.trans (hb56.mono B5.out.size))
  have N6 := Lib.hid (N5.out.below hb56)
  clear hb6 hb56 N5 B5 P5
  go_wp2_with fail
  refine (npush_self 0 _ _ _ _ N6.out (by omega) 0 (at6 0 0 (by omega) rfl)).mono ?_; rintro e w7 ⟨rfl, hb7⟩
  have B7 := Lib.hid (B6.out.trans (hb7.mono B6.out.size))
  clear hb7 N6 B6
  go_wp2_with fail
  go_ret
  exact ⟨rfl, B7.out⟩
end Go.Proofs.Ytfhlcjfgbhmecaa
