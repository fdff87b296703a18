/- StorePlays: for every list of operations the law returns true: each result and all that is there are what the document says. No condition. -/
import Derived.Test.YtghaahagacffiaaRight
import Derived.Test.YtghaahagacffiaaStoreP
import Derived.Test.YtghaahagacffiaaRows
import Derived.Deep.DeepCutAuto
import Derived.Deep.CutBlock
namespace Go.Proofs.Ytghaahagacffiaa.StorePlays
open Go.RowKit Go.ChangeShapes Go.WideShapes Go.ChangeAt
set_option linter.unusedVariables false

def Cut1 (w wx : World) (gs gr : Nat) : Prop := ∃ s, Store wx gs s ∧ RStore wx gr s ∧ Smalls s ∧ Zeros s ∧ Below w.heap.size w wx
def Rel1 (w wr : World) (gs gr n : Nat) (i : Value) : Prop := ∃ k : Nat, k ≤ n ∧ k ≤ 150 ∧ i = .int .i64 k ∧ Cut1 w wr gs gr

set_option maxRecDepth 100000 in
set_option maxHeartbeats 3200000 in
theorem walk (a : Option Addr) (n c : Nat) (g : Nat → Int) (w : World) (hr : Flat w a n 3 g) (hm : n ≤ maxLen) :
    Calls Try.prog 5 #[.slice a n c] w fun e w' => e = .returned (.bool true) ∧ Below w.heap.size w w' := by
  unfold maxLen at hm
  have hR := Lib.hid hr
  have hz := rzero
  obtain ⟨Z, hZ⟩ : ∃ Z, Z = (rcellsL st0).toArray := ⟨_, rfl⟩
  rw [← hZ] at hz
  have HZ := Lib.hid hZ
  clear hr hZ
  go_enter Try.func5, Try.ntmps5
  go_wp2_with fail
  refine (new_c _).mono ?_; rintro e w1 ⟨gs, rfl, s1, hgs, hb1⟩
  have S1 := Lib.hid s1
  have z1 := hb1.size
  clear s1
  go_upto_block 0 with fail
  obtain ⟨w2, hw2⟩ : ∃ w2, w2 = w1.alloc (.cells Z 40) := ⟨_, rfl⟩
  obtain ⟨gr, hgr⟩ : ∃ gr, gr = w1.heap.size := ⟨_, rfl⟩
  rw [← hw2, ← hgr]
  have hb12 : Below w1.heap.size w1 w2 := by rw [hw2]; exact (Below.refl _ _).alloc (Nat.le_refl _) _
  have R2 := Lib.hid (show RStore w2 gr st0 from ⟨by rw [hw2, hgr, HZ.out]; exact Blk.new _ _ _, rfl⟩)
  have S2 := Lib.hid (S1.out.below hb12)
  have hb2 : Below w.heap.size w w2 := hb1.trans (hb12.mono z1)
  have lt1 := S1.out.lt
  have hgr0 : w.heap.size ≤ gr := by omega
  have hne : gr ≠ gs := by omega
  clear hw2 hgr hb12 hb1 S1 hz
  go_cut [5] (fun s5 wx => Cut1 w wx gs gr)
  case first =>
    go_wp2_with fail
    go_loopw [5] (fun i wr => Rel1 w wr gs gr n i) (fun i _ => n - (intOf i).toNat)
    case atStart => exact ⟨0, by omega, by omega, rfl, _, S2.out, R2.out, Smalls.zero, Zeros.zero, hb2⟩
    case round =>
      obtain ⟨k, hkn, hk80, rfl, s, hS, hRr, hms, hzs, hb⟩ := hrel
      have HS := Lib.hid hS
      have HR := Lib.hid hRr
      have MS := Lib.hid hms
      have ZS := Lib.hid hzs
      have hwr := hb.size
      have HB := Lib.hid hb
      clear hS hms hb hzs hRr
      rcases (show (k < n ∧ k < 150) ∨ (¬ k < n) ∨ (k < n ∧ ¬ k < 150) by omega) with ⟨hlt, h80⟩ | hlt | ⟨hlt, h80⟩
      · obtain ⟨hi64, hrow⟩ := hR.out
        obtain ⟨b, off, rfl, hbl, hcell⟩ := hrow (by omega)
        have cw : ∀ j, j < 3 → wr.cell? ⟨b, off + k * 3 + j, none⟩ = some (.int .i64 (g (k * 3 + j))) := fun j hj => by
          rw [HB.out.cell (p := ⟨b, off + k * 3 + j, none⟩) hbl, Nat.add_assoc]
          exact hcell _ (by omega)
        have c0 : wr.cell? ⟨b, off + k * 3, none⟩ = some (.int .i64 (g (k * 3))) := cw 0 (by omega)
        have c1 := cw 1 (by omega)
        have c2 := cw 2 (by omega)
        have x0 := hi64 (k * 3)
        have x1 := hi64 (k * 3 + 1)
        have x2 := hi64 (k * 3 + 2)
        obtain ⟨u0, hu0⟩ : ∃ u, u = g (k * 3) := ⟨_, rfl⟩
        obtain ⟨u1, hu1⟩ : ∃ u, u = g (k * 3 + 1) := ⟨_, rfl⟩
        obtain ⟨u2, hu2⟩ : ∃ u, u = g (k * 3 + 2) := ⟨_, rfl⟩
        rw [← hu0] at c0 x0
        rw [← hu1] at c1 x1
        rw [← hu2] at c2 x2
        have i0 : (0 : Int) ≤ k := by omega
        have i1 : (k : Int) < n := by omega
        obtain ⟨r, hr⟩ : ∃ r, opR s u0 u1 u2 = r := ⟨_, rfl⟩
        have HRR := Lib.hid hr
        have e1 : (r != r) = false := by simp
        have n1 : b ≠ gs := by omega
        have n2 : b ≠ gr := by omega
        clear cw hcell hrow hu0 hu1 hu2 hr
        go_wp2_with fail
        go_region_held3 (fun w' => w'.cell? ⟨b, off + k * 3, none⟩ = some (.int .i64 u0) ∧ w'.cell? ⟨b, off + k * 3 + 1, none⟩ = some (.int .i64 u1) ∧ w'.cell? ⟨b, off + k * 3 + 2, none⟩ = some (.int .i64 u2))
          (first | exact ⟨d0, d1, d2⟩ | exact ⟨q0, q1, q2⟩ | go_keep)
          (first
            | (go_at_call 13; refine (apply_c gs s u0 u1 u2 _ HS.out.drew MS.out x0 x1 x2 r HRR.out _ rfl).mono ?_; rintro e w3 ⟨rfl, hS3, o3⟩; have d0 := o3.cell_ (p := ⟨b, off + k * 3, none⟩) c0 (by simpa using n1); have d1 := o3.cell_ (p := ⟨b, off + k * 3 + 1, none⟩) c1 (by simpa using n1); have d2 := o3.cell_ (p := ⟨b, off + k * 3 + 2, none⟩) c2 (by simpa using n1))
            | (go_at_call 17; refine (rapply_c gr s u0 u1 u2 _ (HR.out.drew.only o3 (by simpa using hne)) MS.out x0 x1 x2 r HRR.out _ rfl).mono ?_; rintro e w4 ⟨rfl, hR4, o4⟩; have q0 := o4.cell_ (p := ⟨b, off + k * 3, none⟩) d0 (by simpa using n2); have q1 := o4.cell_ (p := ⟨b, off + k * 3 + 1, none⟩) d1 (by simpa using n2); have q2 := o4.cell_ (p := ⟨b, off + k * 3 + 2, none⟩) d2 (by simpa using n2)))
        have HS4 := Lib.hid (hS3.only o4 (by simpa using (Ne.symm hne)))
        have HR4 := Lib.hid hR4
        have hb3 : Below w.heap.size w w3 := o3.below HB.out.drew hwr (by simpa using hgs)
        have HB4 := Lib.hid (o4.below hb3 hb3.size (by simpa using hgr0))
        clear hS3 hR4 o3 o4 hb3 c0 c1 c2 d0 d1 d2 q0 q1 q2
        go_wp2_with fail
        go_roundw
        case rel => exact ⟨k + 1, by omega, by omega, by go_num, _, HS4.out, HR4.out, MS.out.op _ _ _, ZS.out.op _ _ _, HB4.out⟩
        case measure => simp [intOf]; omega
      all_goals
        go_wp2_with fail
        go_meet
        exact ⟨s, HS.out, HR.out, MS.out, ZS.out, HB.out⟩
  case rest =>
    obtain ⟨s, hS, hRr, hms, hzs, hb⟩ := hcut
    have HS := Lib.hid hS
    have HR := Lib.hid hRr
    have ZS := Lib.hid hzs
    clear hS hRr hms hzs
    go_wp2_with fail
    refine (right_c gs gr s _ HS.out HR.out ZS.out).mono ?_; rintro e w2 ⟨rfl, hb2⟩
    have hb02 := hb.trans (hb2.mono hb.size)
    go_wp2_with fail
    refine (swakes_c _).mono ?_; rintro e w8 ⟨rfl, hb8⟩
    go_wp2
    go_ret
    exact ⟨rfl, hb02.trans (hb8.mono hb02.size)⟩

theorem lawWalk : LawWalk Try.checked 5 Try.f5 := by
  intro H enc W base args ds p hval hA hsz
  rw [Try.params5] at hA hval
  obtain ⟨v0, vs0, d0, ds0, p0, q0, hargs, rfl, rfl, h0, r0⟩ := trodAll_cons hA
  obtain ⟨rfl, rfl, rfl⟩ := trodAll_nil r0
  obtain rfl : args = #[v0] := by cases args; simp_all
  obtain ⟨a0, n0, c0, g0, rfl, hnc0, hcm0, hr0⟩ := open_flat Try.underlying30 Try.underlying27 (by kernel_rfl) (by kernel_rfl) (by decide) (by kernel_rfl) (hval 0 30 v0 rfl rfl) h0
  exact walk a0 n0 c0 g0 W hr0 (Nat.le_trans hnc0 hcm0)

theorem lifted (os : Os) (started : os.Started) (H : Type) (enc : TypeId × Value → H) :
    ReturnsInHanded {} Try.checked os 5 .any (Rows.storePlaysSpec.pre6 enc Try.prog Try.f5 Rows.storePlaysRow.domain false) (Rows.storePlaysSpec.post enc Try.prog Try.f5 false true false false) :=
  law_lift (C := Try.checked) (s := Rows.storePlaysSpec) (tb := 4) (by kernel_rfl) started (by kernel_rfl) Try.func5
    (ChangeSpec.witness6 (enc := enc) (C := Try.checked) false ⟨#[], #[.slice none 0 0], []⟩ 8 (by kernel_rfl) (by kernel_rfl) (by kernel_rfl) (by kernel_rfl))
    rfl (fun H ds h => by
      match ds, h with
      | [d0], _ => rfl) (by kernel_rfl) (by kernel_rfl) (by kernel_rfl) Try.underlying4 lawWalk

theorem over : Rows.storePlaysRow.holds Try.pinned (OpenSpec.ofChange Rows.storePlaysSpec) :=
  OpenClaim.holds_of_wide 5 Try.f5 rfl rfl rfl rfl rfl rfl rfl ⟨rfl, rfl, rfl, rfl, rfl⟩ rfl rfl rfl rfl rfl (by kernel_rfl) Try.func5 (by kernel_rfl)
    (of_decide_eq_true (by kernel_rfl)) (by unfold Func.isWrapper; first | (rw [if_pos (by decide +kernel)]; kernel_rfl) | (rw [if_neg (by decide +kernel)]; exact ⟨rfl, rfl⟩))
    (fun os started H enc _ => lifted os started H enc)

/-- The statement. -/
theorem proved : Rows.StorePlaysSaid := over
#print axioms proved

end Go.Proofs.Ytghaahagacffiaa.StorePlays
