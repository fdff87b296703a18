/- NetC, NetY. -/
import Derived.Test.YtfhlcjfgbhmecaaZCfgB
import Derived.Test.YtfhlcjfgbhmecaaZLinkN
import Derived.Test.YtfhlcjfgbhmecaaZOnly
import Derived.Test.YtfhlcjfgbhmecaaZPlan
import Derived.Deep.CutRange
import Derived.Deep.DeepCutAuto
import Derived.Deep.CutBlock
import Derived.BigQuiet
import Derived.Laws.Rows
import Derived.Laws.CopyOwn
import Derived.Deep.RegionHeld3
import Derived.StillTailTactics
import Derived.Test.YtfhlcjfgbhmecaaZNetW
import Derived.Test.YtfhlcjfgbhmecaaZNetV
/- psephosplay.Config(1, nil, 1): the usual configuration. -/
namespace Go.Proofs.Ytfhlcjfgbhmecaa
open Go.RowKit
set_option linter.unusedVariables false

set_option maxRecDepth 100000 in
set_option maxHeartbeats 6400000 in
theorem cfg_c (w : World) : Calls Try.prog 31 #[.int .i64 1, .slice none 0 0, .int .i64 1] w
    fun e w' => e = .returned (.agg #[.int .i64 1, .int .i64 2, .int .i64 2, .int .i64 4, .int .i64 64, .int .i64 8, .int .i64 8, .int .i64 8, .int .i64 1, .int .i64 2, .int .i64 12, .int .i64 8, .int .i64 6, .int .i64 2, .int .i64 6]) ∧ Below w.heap.size w w' := by
  go_enter Try.func31, Try.ntmps31
  go_upto_region 1 with fail
  obtain ⟨w0, hw0⟩ : ∃ w0, w0 = w.alloc (.cells #[.int .i64 0, .int .i64 0, .int .i64 0, .int .i64 0, .int .i64 0, .int .i64 0, .int .i64 0, .int .i64 0, .int .i64 0, .int .i64 0, .int .i64 0, .int .i64 0, .int .i64 0, .int .i64 0, .int .i64 0] 64) := ⟨_, rfl⟩
  rw [← hw0]
  obtain ⟨g6, hg6⟩ : ∃ g6, g6 = w.heap.size := ⟨_, rfl⟩
  rw [← hg6]
  have K0 : Hid (Blk w0 g6 64 #[.int .i64 0, .int .i64 0, .int .i64 0, .int .i64 0, .int .i64 0, .int .i64 0, .int .i64 0, .int .i64 0, .int .i64 0, .int .i64 0, .int .i64 0, .int .i64 0, .int .i64 0, .int .i64 0, .int .i64 0]) := Lib.hid (by rw [hw0, hg6]; exact Blk.new _ _ _)
  have B0 : Hid (Below w.heap.size w w0) := Lib.hid (by rw [hw0]; exact (Below.refl _ _).alloc (Nat.le_refl _) _)
  clear hw0
  go_wp2_with fail
  refine (within_keep 0 1 _ ⟨by omega, by omega⟩ (by omega) (by omega)).mono ?_; rintro e w' ⟨rfl, rfl⟩
  go_wp2_with fail
  refine (Cfg.rstandard_c 1 _).mono ?_; rintro e w1 ⟨rfl, hb1⟩
  have K1 := Lib.hid (K0.out.below hb1 K0.out.lt)
  have B1 := Lib.hid (B0.out.trans (hb1.mono B0.out.size))
  clear hb1 K0 B0
  go_upto_region 2 with fail
  obtain ⟨w2, hw2⟩ : ∃ w2, w2 = w1.alloc (.cells #[.int .i64 1, .int .i64 2, .int .i64 2, .int .i64 4, .int .i64 64, .int .i64 8, .int .i64 8, .int .i64 8, .int .i64 1, .int .i64 2, .int .i64 12, .int .i64 8, .int .i64 6, .int .i64 2, .int .i64 6] 64) := ⟨_, rfl⟩
  obtain ⟨g7, hg7⟩ : ∃ g7, g7 = w1.heap.size := ⟨_, rfl⟩
  rw [← hw2, ← hg7, ← hg6]
  have b2 : Below w1.heap.size w1 w2 := by rw [hw2]; exact (Below.refl _ _).alloc (Nat.le_refl _) _
  have K2 := Lib.hid (K1.out.below b2 K1.out.lt)
  have C2 : Hid (Blk w2 g7 64 #[.int .i64 1, .int .i64 2, .int .i64 2, .int .i64 4, .int .i64 64, .int .i64 8, .int .i64 8, .int .i64 8, .int .i64 1, .int .i64 2, .int .i64 12, .int .i64 8, .int .i64 6, .int .i64 2, .int .i64 6]) := Lib.hid (by rw [hw2, hg7]; exact Blk.new _ _ _)
  have B2 := Lib.hid (B1.out.trans (b2.mono B1.out.size))
  have GE : Hid (w.heap.size ≤ g6) := Lib.hid (by omega)
  clear hw2 hg7 hg6 b2 K1 B1
  have c1 : w2.cell? ⟨g7, 1, none⟩ = some (.int .i64 2) := C2.out.cell 1
  have c2 : w2.cell? ⟨g7, 2, none⟩ = some (.int .i64 2) := C2.out.cell 2
  have c3 : w2.cell? ⟨g7, 3, none⟩ = some (.int .i64 4) := C2.out.cell 3
  have c4 : w2.cell? ⟨g7, 4, none⟩ = some (.int .i64 64) := C2.out.cell 4
  have c5 : w2.cell? ⟨g7, 5, none⟩ = some (.int .i64 8) := C2.out.cell 5
  have c6 : w2.cell? ⟨g7, 6, none⟩ = some (.int .i64 8) := C2.out.cell 6
  have c7 : w2.cell? ⟨g7, 7, none⟩ = some (.int .i64 8) := C2.out.cell 7
  have c8 : w2.cell? ⟨g7, 8, none⟩ = some (.int .i64 1) := C2.out.cell 8
  have c9 : w2.cell? ⟨g7, 9, none⟩ = some (.int .i64 2) := C2.out.cell 9
  have c10 : w2.cell? ⟨g7, 10, none⟩ = some (.int .i64 12) := C2.out.cell 10
  have c11 : w2.cell? ⟨g7, 11, none⟩ = some (.int .i64 8) := C2.out.cell 11
  have c12 : w2.cell? ⟨g7, 12, none⟩ = some (.int .i64 6) := C2.out.cell 12
  have c13 : w2.cell? ⟨g7, 13, none⟩ = some (.int .i64 2) := C2.out.cell 13
  have c14 : w2.cell? ⟨g7, 14, none⟩ = some (.int .i64 6) := C2.out.cell 14
  go_upto_region 3 with fail
  obtain ⟨w3, hw3⟩ : ∃ w3, w3 = w2.alloc (.cells #[.int .i64 2, .int .i64 2, .int .i64 4, .int .i64 64, .int .i64 8, .int .i64 8, .int .i64 8, .int .i64 1, .int .i64 2, .int .i64 12, .int .i64 8, .int .i64 6, .int .i64 2, .int .i64 6] 3) := ⟨_, rfl⟩
  obtain ⟨g8, hg8⟩ : ∃ g8, g8 = w2.heap.size := ⟨_, rfl⟩
  rw [← hw3, ← hg8]
  have b3 : Below w2.heap.size w2 w3 := by rw [hw3]; exact (Below.refl _ _).alloc (Nat.le_refl _) _
  have K3 := Lib.hid (K2.out.below b3 K2.out.lt)
  have C3 := Lib.hid (C2.out.below b3 C2.out.lt)
  have A3 : Hid (Blk w3 g8 3 #[.int .i64 2, .int .i64 2, .int .i64 4, .int .i64 64, .int .i64 8, .int .i64 8, .int .i64 8, .int .i64 1, .int .i64 2, .int .i64 12, .int .i64 8, .int .i64 6, .int .i64 2, .int .i64 6]) := Lib.hid (by rw [hw3, hg8]; exact Blk.new _ _ _)
  have B3 := Lib.hid (B2.out.trans (b3.mono B2.out.size))
  clear hw3 hg8 b3 K2 C2 B2 c1 c2 c3 c4 c5 c6 c7 c8 c9 c10 c11 c12 c13 c14
  go_upto_region 5 with fail
  obtain ⟨w5, hw5⟩ : ∃ w5, w5 = (w3.alloc (.cells #[.int .i64 1, .int .i64 1, .int .i64 1, .int .i64 1, .int .i64 1, .int .i64 1, .int .i64 2, .int .i64 0, .int .i64 1, .int .i64 2, .int .i64 0, .int .i64 2, .int .i64 1, .int .i64 1] 3)).alloc (.cells #[.int .i64 4, .int .i64 4, .int .i64 16, .int .i64 256, .int .i64 64, .int .i64 64, .int .i64 63, .int .i64 9, .int .i64 8, .int .i64 63, .int .i64 65, .int .i64 63, .int .i64 16, .int .i64 64] 3) := ⟨_, rfl⟩
  rw [← hw5]
  have b5 : Below w3.heap.size w3 w5 := by rw [hw5]; exact ((Below.refl _ _).alloc (Nat.le_refl _) _).alloc (by simp) _
  have K5 := Lib.hid (K3.out.below b5 K3.out.lt)
  have C5 := Lib.hid (C3.out.below b5 C3.out.lt)
  have A5 := Lib.hid (A3.out.below b5 A3.out.lt)
  have B5 := Lib.hid (B3.out.trans (b5.mono B3.out.size))
  clear hw5 b5 K3 C3 A3 B3
  go_wp2_with fail
  go_loopw [11] (fun i wr => i = .int .i64 0 ∧ wr = w5) (fun _ _ => 0)
  case atStart => exact ⟨rfl, rfl⟩
  case round =>
    obtain ⟨rfl, rfl⟩ := hrel
    go_upto_region 10 with fail
    refine wp_region_plan (fun w' => w'.cell? ⟨g7, 0, none⟩ = some (.int .i64 1) ∧ w'.cell? ⟨g8, 0, none⟩ = some (.int .i64 2) ∧ w'.cell? ⟨g8, 1, none⟩ = some (.int .i64 2) ∧ w'.cell? ⟨g8, 2, none⟩ = some (.int .i64 4) ∧ w'.cell? ⟨g8, 3, none⟩ = some (.int .i64 64) ∧ w'.cell? ⟨g8, 4, none⟩ = some (.int .i64 8) ∧ w'.cell? ⟨g8, 5, none⟩ = some (.int .i64 8) ∧ w'.cell? ⟨g8, 6, none⟩ = some (.int .i64 8) ∧ w'.cell? ⟨g8, 7, none⟩ = some (.int .i64 1) ∧ w'.cell? ⟨g8, 8, none⟩ = some (.int .i64 2) ∧ w'.cell? ⟨g8, 9, none⟩ = some (.int .i64 12) ∧ w'.cell? ⟨g8, 10, none⟩ = some (.int .i64 8) ∧ w'.cell? ⟨g8, 11, none⟩ = some (.int .i64 6) ∧ w'.cell? ⟨g8, 12, none⟩ = some (.int .i64 2) ∧ w'.cell? ⟨g8, 13, none⟩ = some (.int .i64 6)) 45 (.take 0 (.take 1 (.take 2 (.take 3 (.take 4 (.take 5 (.take 6 (.take 7 (.take 8 (.take 9 (.take 10 (.take 11 (.take 12 (.take 13 (.take 14 (.take 15 (.take 16 (.take 17 (.take 18 (.take 19 (.take 20 (.take 21 (.take 22 (.take 23 (.take 24 (.take 25 (.take 26 (.take 27 (.take 28 (.take 29 (.take 30 (.take 31 (.take 32 (.take 33 (.take 34 (.take 35 (.take 36 (.take 37 (.take 38 (.take 39 (.take 40 (.take 41 (.take 42 (.take 43 (.take 44 (.one 45 .done)))))))))))))))))))))))))))))))))))))))))))))) (by kernel_rfl) (by kernel_rfl) (by kernel_rfl) ⟨C5.out.drew.cell 0, A5.out.drew.cell 0, A5.out.drew.cell 1, A5.out.drew.cell 2, A5.out.drew.cell 3, A5.out.drew.cell 4, A5.out.drew.cell 5, A5.out.drew.cell 6, A5.out.drew.cell 7, A5.out.drew.cell 8, A5.out.drew.cell 9, A5.out.drew.cell 10, A5.out.drew.cell 11, A5.out.drew.cell 12, A5.out.drew.cell 13⟩ ?_
    intro hS0
    obtain ⟨v0, hv0⟩ : ∃ v, v = wr.drew := ⟨_, rfl⟩
    have K6 : Hid (Blk v0 g6 64 #[.int .i64 0, .int .i64 0, .int .i64 0, .int .i64 0, .int .i64 0, .int .i64 0, .int .i64 0, .int .i64 0, .int .i64 0, .int .i64 0, .int .i64 0, .int .i64 0, .int .i64 0, .int .i64 0, .int .i64 0]) := Lib.hid (by rw [hv0]; exact K5.out.drew)
    have B6 : Hid (Below w.heap.size w v0) := Lib.hid (by rw [hv0]; exact B5.out.drew)
    rw [← hv0] at hS0 ⊢
    clear hv0 K5 B5 C5 A5
    repeat (refine' wpPlan_take rfl (by rfl) (by assumption) ?_ ?_; rotate_left; (· (intro w hSw; (try dsimp only at hSw); go_simp; try with_reducible rfl)); try simp only [Act.put, List.setIfInBounds_toArray, List.set_cons_zero, List.set_cons_succ])
    refine wpPlan_last rfl (fun KT hKT => ?_)
    have e0 : v0.cell? ⟨g6, 0, none⟩ = some (.int .i64 0) := K6.out.cell 0
    have z0 := K6.out.frozen 0
    have e1 : v0.cell? ⟨g6, 1, none⟩ = some (.int .i64 0) := K6.out.cell 1
    have z1 := K6.out.frozen 1
    have e2 : v0.cell? ⟨g6, 2, none⟩ = some (.int .i64 0) := K6.out.cell 2
    have z2 := K6.out.frozen 2
    have e3 : v0.cell? ⟨g6, 3, none⟩ = some (.int .i64 0) := K6.out.cell 3
    have z3 := K6.out.frozen 3
    have e4 : v0.cell? ⟨g6, 4, none⟩ = some (.int .i64 0) := K6.out.cell 4
    have z4 := K6.out.frozen 4
    have e5 : v0.cell? ⟨g6, 5, none⟩ = some (.int .i64 0) := K6.out.cell 5
    have z5 := K6.out.frozen 5
    have e6 : v0.cell? ⟨g6, 6, none⟩ = some (.int .i64 0) := K6.out.cell 6
    have z6 := K6.out.frozen 6
    have e7 : v0.cell? ⟨g6, 7, none⟩ = some (.int .i64 0) := K6.out.cell 7
    have z7 := K6.out.frozen 7
    have e8 : v0.cell? ⟨g6, 8, none⟩ = some (.int .i64 0) := K6.out.cell 8
    have z8 := K6.out.frozen 8
    have e9 : v0.cell? ⟨g6, 9, none⟩ = some (.int .i64 0) := K6.out.cell 9
    have z9 := K6.out.frozen 9
    have e10 : v0.cell? ⟨g6, 10, none⟩ = some (.int .i64 0) := K6.out.cell 10
    have z10 := K6.out.frozen 10
    have e11 : v0.cell? ⟨g6, 11, none⟩ = some (.int .i64 0) := K6.out.cell 11
    have z11 := K6.out.frozen 11
    have e12 : v0.cell? ⟨g6, 12, none⟩ = some (.int .i64 0) := K6.out.cell 12
    have z12 := K6.out.frozen 12
    have e13 : v0.cell? ⟨g6, 13, none⟩ = some (.int .i64 0) := K6.out.cell 13
    have z13 := K6.out.frozen 13
    have e14 : v0.cell? ⟨g6, 14, none⟩ = some (.int .i64 0) := K6.out.cell 14
    have z14 := K6.out.frozen 14
    go_simp
    refine hKT.out _ _ ?_; clear hKT KT; try simp only [Act.put, List.setIfInBounds_toArray, List.set_cons_zero, List.set_cons_succ]
    refine wpPlan_done ?_
    obtain ⟨w9, hw9⟩ : ∃ w9, w9 = (((((((((((((((v0.setCell ⟨g6, 0, none⟩ (.int .i64 1)).setCell ⟨g6, 1, none⟩ (.int .i64 2)).setCell ⟨g6, 2, none⟩ (.int .i64 2)).setCell ⟨g6, 3, none⟩ (.int .i64 4)).setCell ⟨g6, 4, none⟩ (.int .i64 64)).setCell ⟨g6, 5, none⟩ (.int .i64 8)).setCell ⟨g6, 6, none⟩ (.int .i64 8)).setCell ⟨g6, 7, none⟩ (.int .i64 8)).setCell ⟨g6, 8, none⟩ (.int .i64 1)).setCell ⟨g6, 9, none⟩ (.int .i64 2)).setCell ⟨g6, 10, none⟩ (.int .i64 12)).setCell ⟨g6, 11, none⟩ (.int .i64 8)).setCell ⟨g6, 12, none⟩ (.int .i64 6)).setCell ⟨g6, 13, none⟩ (.int .i64 2)).setCell ⟨g6, 14, none⟩ (.int .i64 6)) := ⟨_, rfl⟩
    rw [← hw9]
    have K9 : Hid (Blk w9 g6 64 #[.int .i64 1, .int .i64 2, .int .i64 2, .int .i64 4, .int .i64 64, .int .i64 8, .int .i64 8, .int .i64 8, .int .i64 1, .int .i64 2, .int .i64 12, .int .i64 8, .int .i64 6, .int .i64 2, .int .i64 6]) := Lib.hid (by rw [hw9]; exact (((((((((((((((K6.out.set_ 0 _).set_ 1 _).set_ 2 _).set_ 3 _).set_ 4 _).set_ 5 _).set_ 6 _).set_ 7 _).set_ 8 _).set_ 9 _).set_ 10 _).set_ 11 _).set_ 12 _).set_ 13 _).set_ 14 _))
    have B9 : Hid (Below w.heap.size w w9) := Lib.hid (by rw [hw9]; exact (((((((((((((((B6.out.setCell (p := ⟨g6, 0, none⟩) GE.out _).setCell (p := ⟨g6, 1, none⟩) GE.out _).setCell (p := ⟨g6, 2, none⟩) GE.out _).setCell (p := ⟨g6, 3, none⟩) GE.out _).setCell (p := ⟨g6, 4, none⟩) GE.out _).setCell (p := ⟨g6, 5, none⟩) GE.out _).setCell (p := ⟨g6, 6, none⟩) GE.out _).setCell (p := ⟨g6, 7, none⟩) GE.out _).setCell (p := ⟨g6, 8, none⟩) GE.out _).setCell (p := ⟨g6, 9, none⟩) GE.out _).setCell (p := ⟨g6, 10, none⟩) GE.out _).setCell (p := ⟨g6, 11, none⟩) GE.out _).setCell (p := ⟨g6, 12, none⟩) GE.out _).setCell (p := ⟨g6, 13, none⟩) GE.out _).setCell (p := ⟨g6, 14, none⟩) GE.out _))
    clear hw9 hS0 e0 z0 e1 z1 e2 z2 e3 z3 e4 z4 e5 z5 e6 z6 e7 z7 e8 z8 e9 z9 e10 z10 e11 z11 e12 z12 e13 z13 e14 z14
    go_wp2_with fail
    refine bodyPost_ret (v := .agg #[.int .i64 1, .int .i64 2, .int .i64 2, .int .i64 4, .int .i64 64, .int .i64 8, .int .i64 8, .int .i64 8, .int .i64 1, .int .i64 2, .int .i64 12, .int .i64 8, .int .i64 6, .int .i64 2, .int .i64 6]) ?_ rfl ⟨rfl, B9.out⟩
    exact results_cell_row Try.results31 _ w9 g6 _ _ _ _ (by rfl) K9.out Try.underlying64 rfl (by kernel_rfl)
end Go.Proofs.Ytfhlcjfgbhmecaa
/- Package psephoslaw23: wakes. -/
namespace Go.Proofs.Ytfhlcjfgbhmecaa
open Go.RowKit
set_option linter.unusedVariables false
set_option maxRecDepth 100000

abbrev six : List Int := [0, 1, 2, 3, 100, 101]
theorem at6 (a : Nat) (x : Int) (h : a < 4) (hx : x = a) : At 6 six x a := by
  subst hx
  match a, h with
  | 0, _ => exact ⟨by omega, rfl, by decide⟩
  | 1, _ => exact ⟨by omega, rfl, by decide⟩
  | 2, _ => exact ⟨by omega, rfl, by decide⟩
  | 3, _ => exact ⟨by omega, rfl, by decide⟩
set_option maxHeartbeats 1600000 in
theorem nwakes_c (w : World) : Calls Try.prog 36 #[] w fun e w' => e = .returned (.bool true) ∧ Below w.heap.size w w' := by
  go_enter Try.func36, Try.ntmps36
  go_wp2_with fail
  refine (cfg_c _).mono ?_; rintro e w1 ⟨rfl, hb1⟩
  go_wp2_with fail
  refine (nnew_a 64 (by omega) _).mono ?_; rintro e w2 ⟨gn, q, g, rfl, hn2, hb2, -, hq2⟩
  have B2 := Lib.hid (hb1.trans (hb2.mono hb1.size))
  have N2 := Lib.hid (hn2.below ((Below.refl _ _).alloc (Nat.le_refl _) (.cells #[.int .u8 1] 5)))
  have GE : Hid (w.heap.size ≤ q 1 ∧ w.heap.size ≤ g 1) := Lib.hid ⟨Nat.le_trans hb1.size (hq2 1 (by omega)).1, Nat.le_trans hb1.size (hq2 1 (by omega)).2⟩
  have B3 := Lib.hid (B2.out.alloc B2.out.size (.cells #[.int .u8 1] 5))
  clear hb1 hb2 hn2 hq2
  go_wp2_with fail
  refine (npush_ok 0 1 _ 1 1 [1] _ N2.out (by omega) (by omega) 0 1 (by omega) (at6 0 0 (by omega) rfl) (at6 1 1 (by omega) rfl) 1 rfl (by omega) (VRow.of_blk (n := 1) (s := 1) (Blk.new w2 5 #[.int .u8 1]) rfl) (by omega) (by simp)).mono ?_; rintro e w4 ⟨g', z, rfl, hn4, ho4⟩
  have B4 : Hid (Below w.heap.size w w4) := Lib.hid (ho4.below B3.out B3.out.size (by simp; exact GE.out))
  have N4 := Lib.hid hn4
  have L4 : Hid (lksTo 6 six (upq (fun _ => ([] : List (Value × List Int))) 1 ([] ++ [(z, [1])])) (6 * 6) = [((0 : Int), (1 : Int))]) := Lib.hid (by rfl)
  clear hn4 ho4 N2 B2 B3 GE
  go_wp2_with fail
  refine (nlinks_c _ N4.out (by omega) _ L4.out).mono ?_; rintro e w5 ⟨A, c, rfl, hp5, hb5⟩
  have B5 := Lib.hid (B4.out.trans (hb5.mono B4.out.size))
  have N5 := Lib.hid (N4.out.below hb5)
  have P5 := Lib.hid hp5
  clear hb5 hp5 N4 B4 L4
  go_wp2_with fail
  refine (same2_c _ _ 1 1 _ _ [(0, 1)] [(0, 1)] _ ((own_vrow P5.out).below ((Below.refl _ _).alloc (Nat.le_refl _) _)) (VRow.of_blk (n := 1) (s := 2) (Blk.new w5 75 #[.int .i64 0, .int .i64 1]) rfl) rfl rfl (by omega) (by omega) true (by decide)).mono ?_; rintro e w6 ⟨rfl, hb6⟩
  have hb56 := ((Below.refl w5.heap.size w5).alloc (Nat.le_refl _) (.cells #[.int .i64 0, .int .i64 1] 75)).trans (hb6.mono (by simp))
  have B6 := Lib.hid (B5.out.trans (hb56.mono B5.out.size))
  have N6 := Lib.hid (N5.out.below hb56)
  clear hb6 hb56 N5 B5 P5
  go_wp2_with fail
  refine (npush_self 0 _ _ _ _ N6.out (by omega) 0 (at6 0 0 (by omega) rfl)).mono ?_; rintro e w7 ⟨rfl, hb7⟩
  have B7 := Lib.hid (B6.out.trans (hb7.mono B6.out.size))
  clear hb7 N6 B6
  go_wp2_with fail
  go_ret
  exact ⟨rfl, B7.out⟩
end Go.Proofs.Ytfhlcjfgbhmecaa
