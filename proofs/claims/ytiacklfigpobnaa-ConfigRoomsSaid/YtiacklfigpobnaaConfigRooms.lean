/- ConfigRooms is proved: for every number the law returns true. No condition. -/
import Derived.Test.YtiacklfigpobnaaRows
import Derived.Test.YtiacklfigpobnaaOpen
import Derived.Test.YtiacklfigpobnaaKeep
import Derived.Test.YtiacklfigpobnaaBlk
import Derived.Test.YtiacklfigpobnaaBallot
import Derived.Test.YtiacklfigpobnaaTurnedP
import Derived.Test.YtiacklfigpobnaaCfgW
import Derived.Test.YtiacklfigpobnaaCfgO
import Derived.Deep.RegionHeld3
namespace Go.Proofs.Ytiacklfigpobnaa.ConfigRooms
open Go.ChangeShapes Go.WideShapes Go.ChangeAt Go.RowKit Cfg
set_option linter.unusedVariables false

theorem of_std (f : Int) (b : Nat) (c : Nat) (w : World) (hr : IntRow w (some ⟨b, 0, none⟩) 15 (stdL f)) :
    Calls Try.prog 21 #[.slice (some ⟨b, 0, none⟩) 15 c] w fun e w' => e = .returned (.agg #[.int .i64 f, .int .i64 2, .int .i64 2, .int .i64 4, .int .i64 64, .int .i64 8, .int .i64 8, .int .i64 8, .int .i64 1, .int .i64 2, .int .i64 12, .int .i64 8, .int .i64 6, .int .i64 2, .int .i64 6]) ∧ Below w.heap.size w w' :=
  of_c _ 15 c (stdL f) w hr (by simp [maxLen])

theorem kept {w w' : World} (hb : Below w.heap.size w w') (p : Addr) (v : Value) (h : w.cell? p = some v) : w'.cell? p = some v := by
  rw [hb.cell (lt_of_cell h), h]
theorem of_keep (f : Int) (b : Nat) (c : Nat) (w : World) (hr : IntRow w (some ⟨b, 0, none⟩) 15 (stdL f)) :
    Calls Try.prog 21 #[.slice (some ⟨b, 0, none⟩) 15 c] w fun e w' => e = .returned (.agg #[.int .i64 f, .int .i64 2, .int .i64 2, .int .i64 4, .int .i64 64, .int .i64 8, .int .i64 8, .int .i64 8, .int .i64 1, .int .i64 2, .int .i64 12, .int .i64 8, .int .i64 6, .int .i64 2, .int .i64 6]) ∧ Below w.heap.size w w' ∧ ∀ p v, w.cell? p = some v → w'.cell? p = some v :=
  (of_std f b c w hr).mono fun e w' ⟨he, hb⟩ => ⟨he, hb, kept hb⟩
theorem row_new (W : World) (f : Int) (t : TypeId) : IntRow (W.alloc (.cells #[.int .i64 f, .int .i64 2, .int .i64 2, .int .i64 4, .int .i64 64, .int .i64 8, .int .i64 8, .int .i64 8, .int .i64 1, .int .i64 2, .int .i64 12, .int .i64 8, .int .i64 6, .int .i64 2, .int .i64 6] t)) (some ⟨W.heap.size, 0, none⟩) 15 (stdL f) :=
  (Blk.new W t (ints (stdL f))).row

theorem row_newd (W : World) (f : Int) (t : TypeId) : IntRow (World.drew (W.alloc (.cells #[.int .i64 f, .int .i64 2, .int .i64 2, .int .i64 4, .int .i64 64, .int .i64 8, .int .i64 8, .int .i64 8, .int .i64 1, .int .i64 2, .int .i64 12, .int .i64 8, .int .i64 6, .int .i64 2, .int .i64 6] t))) (some ⟨W.heap.size, 0, none⟩) 15 (stdL f) :=
  (Blk.new W t (ints (stdL f))).row

set_option maxRecDepth 100000 in
set_option maxHeartbeats 8000000 in
theorem walk (f : Int) (w : World) (hf : I64 f) :
    Calls Try.prog 10 #[.int .i64 f] w fun e w' => e = .returned (.bool true) ∧ Below w.heap.size w w' := by
  go_enter Try.func10, Try.ntmps10
  go_wp2_with fail
  refine (within_q f 4 _ hf (by omega) (by omega)).mono ?_; rintro e w' ⟨q, rfl, hq, hq0, hq4, rfl⟩
  go_wp2_with fail
  refine (standard_c _ _).mono ?_; rintro e w1 ⟨rfl, hb1⟩
  go_wp2_with fail
  obtain ⟨w2, hw2⟩ : ∃ w2, w2 = w1.alloc (.cells #[.int .i64 (1 + q), .int .i64 2, .int .i64 2, .int .i64 4, .int .i64 64, .int .i64 8, .int .i64 8, .int .i64 8, .int .i64 1, .int .i64 2, .int .i64 12, .int .i64 8, .int .i64 6, .int .i64 2, .int .i64 6] 23) := ⟨_, rfl⟩
  rw [← hw2]
  have hb2 : Below w.heap.size w w2 := by rw [hw2]; exact hb1.alloc hb1.size _
  have hC2 := Lib.hid (show Blk w2 w1.heap.size 23 #[.int .i64 (1 + q), .int .i64 2, .int .i64 2, .int .i64 4, .int .i64 64, .int .i64 8, .int .i64 8, .int .i64 8, .int .i64 1, .int .i64 2, .int .i64 12, .int .i64 8, .int .i64 6, .int .i64 2, .int .i64 6] by rw [hw2]; exact Blk.new _ _ _)
  have HW := Lib.hid hw2
  have hz : w.heap.size ≤ w1.heap.size := hb1.size
  obtain ⟨g, hg⟩ : ∃ g, g = w1.heap.size := ⟨_, rfl⟩
  rw [← hg] at hC2 hz ⊢
  clear hw2 HW hg hb1
  have h0 := (hC2.out.cell 0).trans (show _ = some (.int .i64 (1 + q)) from rfl)
  have h1 := (hC2.out.cell 1).trans (show _ = some (.int .i64 2) from rfl)
  have h2 := (hC2.out.cell 2).trans (show _ = some (.int .i64 2) from rfl)
  have h3 := (hC2.out.cell 3).trans (show _ = some (.int .i64 4) from rfl)
  have h4 := (hC2.out.cell 4).trans (show _ = some (.int .i64 64) from rfl)
  have h5 := (hC2.out.cell 5).trans (show _ = some (.int .i64 8) from rfl)
  have h6 := (hC2.out.cell 6).trans (show _ = some (.int .i64 8) from rfl)
  have h7 := (hC2.out.cell 7).trans (show _ = some (.int .i64 8) from rfl)
  have h8 := (hC2.out.cell 8).trans (show _ = some (.int .i64 1) from rfl)
  have h9 := (hC2.out.cell 9).trans (show _ = some (.int .i64 2) from rfl)
  have h10 := (hC2.out.cell 10).trans (show _ = some (.int .i64 12) from rfl)
  have h11 := (hC2.out.cell 11).trans (show _ = some (.int .i64 8) from rfl)
  have h12 := (hC2.out.cell 12).trans (show _ = some (.int .i64 6) from rfl)
  have h13 := (hC2.out.cell 13).trans (show _ = some (.int .i64 2) from rfl)
  have h14 := (hC2.out.cell 14).trans (show _ = some (.int .i64 6) from rfl)
  have e1 : IntKind.i64.wrap (1 + q + 1) = 1 + q + 1 := IntWalk.i64_in _ (by omega)
  have e2 : IntKind.i64.wrap (4 * (1 + q + 1)) = 4 * (1 + q + 1) := IntWalk.i64_in _ (by omega)
  have e3 : decide (4 * (1 + q + 1) ≤ 64) = true := decide_eq_true (by omega)
  have e4 : IntKind.i64.wrap (3 * (1 + q)) = 3 * (1 + q) := IntWalk.i64_in _ (by omega)
  have e5 : IntKind.i64.wrap (3 * (1 + q) + 1) = 3 * (1 + q) + 1 := IntWalk.i64_in _ (by omega)
  go_region_held3 (fun w' => w'.cell? ⟨g, 0, none⟩ = some (.int .i64 (1 + q)) ∧ w'.cell? ⟨g, 1, none⟩ = some (.int .i64 2) ∧ w'.cell? ⟨g, 2, none⟩ = some (.int .i64 2) ∧ w'.cell? ⟨g, 3, none⟩ = some (.int .i64 4) ∧ w'.cell? ⟨g, 4, none⟩ = some (.int .i64 64) ∧ w'.cell? ⟨g, 5, none⟩ = some (.int .i64 8) ∧ w'.cell? ⟨g, 6, none⟩ = some (.int .i64 8) ∧ w'.cell? ⟨g, 7, none⟩ = some (.int .i64 8) ∧ w'.cell? ⟨g, 8, none⟩ = some (.int .i64 1) ∧ w'.cell? ⟨g, 9, none⟩ = some (.int .i64 2) ∧ w'.cell? ⟨g, 10, none⟩ = some (.int .i64 12) ∧ w'.cell? ⟨g, 11, none⟩ = some (.int .i64 8) ∧ w'.cell? ⟨g, 12, none⟩ = some (.int .i64 6) ∧ w'.cell? ⟨g, 13, none⟩ = some (.int .i64 2) ∧ w'.cell? ⟨g, 14, none⟩ = some (.int .i64 6)) (first | go_keep) (first
    | (go_at_call 29; refine (nodes_c _ _ (by omega) (by omega)).mono ?_; rintro e w' ⟨rfl, rfl⟩)
    | (go_at_call 21; refine (of_keep (1 + q) _ _ _ (row_newd _ _ _)).mono ?_; rintro e w3 ⟨rfl, hb3, hk3⟩)
    | (go_at_call 19; refine (wakes_c _).mono ?_; rintro e w4 ⟨rfl, hb4⟩; have hk4 := kept hb4))
  go_wp2
  go_ret
  have s2 := hb2.size
  have s3 := hb3.size
  have s4 : w2.heap.size + 1 ≤ w3.heap.size := by simpa using s3
  exact ⟨rfl, ((hb2.alloc s2 _).drew.trans (hb3.mono (show w.heap.size ≤ (w2.alloc _).heap.size from Nat.le_trans s2 (by simp)))).trans (hb4.mono (show w.heap.size ≤ w3.heap.size by omega))⟩

theorem lawWalk : LawWalk Try.checked 10 Try.f10 := by
  intro H enc W base args ds p hval hA hsz
  rw [Try.params10] at hA hval
  obtain ⟨v0, vs0, d0, ds0, p0, q0, hargs, rfl, rfl, h0, r0⟩ := trodAll_cons hA
  obtain ⟨rfl, rfl, rfl⟩ := trodAll_nil r0
  obtain rfl : args = #[v0] := by cases args; simp_all
  obtain ⟨a0, rfl, rfl, rfl, w0⟩ := open_int Try.underlying3 (hval 0 3 v0 rfl rfl) h0
  exact walk a0 W (I64.of_wf w0)

theorem lifted (os : Os) (started : os.Started) (H : Type) (enc : TypeId × Value → H) :
    ReturnsInHanded {} Try.checked os 10 .any (Rows.configRoomsSpec.pre6 enc Try.prog Try.f10 Rows.configRoomsRow.domain false) (Rows.configRoomsSpec.post enc Try.prog Try.f10 false true false false) :=
  law_lift (C := Try.checked) (s := Rows.configRoomsSpec) (tb := 4) (by kernel_rfl) started (by kernel_rfl) Try.func10
    (ChangeSpec.witness6 (enc := enc) (C := Try.checked) false ⟨#[], #[.int .i64 0], []⟩ 8 (by kernel_rfl) (by kernel_rfl) (by kernel_rfl) (by kernel_rfl))
    rfl (fun H ds h => by
      match ds, h with
      | [d0], _ => rfl) (by kernel_rfl) (by kernel_rfl) (by kernel_rfl) Try.underlying4 lawWalk

theorem over : Rows.configRoomsRow.holds Try.pinned (OpenSpec.ofChange Rows.configRoomsSpec) :=
  OpenClaim.holds_of_wide 10 Try.f10 rfl rfl rfl rfl rfl rfl rfl ⟨rfl, rfl, rfl, rfl, rfl⟩ rfl rfl rfl rfl rfl (by kernel_rfl) Try.func10 (by kernel_rfl)
    (of_decide_eq_true (by kernel_rfl)) (by unfold Func.isWrapper; first | (rw [if_pos (by decide +kernel)]; kernel_rfl) | (rw [if_neg (by decide +kernel)]; exact ⟨rfl, rfl⟩))
    (fun os started H enc _ => lifted os started H enc)

/-- The statement. -/
theorem proved : Rows.ConfigRoomsSaid := over
#print axioms proved
end Go.Proofs.Ytiacklfigpobnaa.ConfigRooms
