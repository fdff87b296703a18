/- StoreRanges: for all operations the law returns true: an operation that may not be does nothing, and tells 0; a value never leaves its range. No condition. -/
import Derived.Test.YtghaahagacffiaaStoreW
import Derived.Test.YtghaahagacffiaaStoreP
import Derived.Test.YtghaahagacffiaaSame2
import Derived.Test.YtghaahagacffiaaRows
import Derived.Deep.DeepCutAuto
import Derived.Deep.CutBlock
namespace Go.Proofs.Ytghaahagacffiaa.StoreRanges
open Go.RowKit Go.ChangeShapes Go.WideShapes Go.ChangeAt
set_option linter.unusedVariables false

theorem bad_op (s : List (Bool × Int)) (v0 v1 v2 : Int) (h : v1 < 0 ∨ 64 ≤ v1 ∨ v2 ≤ -2147483648 ∨ 2147483648 ≤ v2 ∨ v0 < 1 ∨ 5 < v0) : opR s v0 v1 v2 = 0 ∧ opSt s v0 v1 v2 = s := by
  by_cases hb : opB v1 v2 = true
  · have h1 := opB_key hb
    have h2 := opB_val hb
    unfold opR opSt
    rw [if_pos hb, if_pos hb, if_neg (by omega), if_neg (by omega), if_neg (by omega), if_neg (by omega), if_neg (by omega), if_neg (by omega), if_neg (by omega), if_neg (by omega)]
    exact ⟨rfl, rfl⟩
  · have hb' : opB v1 v2 = false := by simpa using hb
    exact ⟨opR_no s v0 hb', opSt_no s v0 hb'⟩

def Cut1 (w wx : World) (gs : Nat) : Prop := ∃ s, Store wx gs s ∧ Smalls s ∧ Below w.heap.size w wx
def Rel1 (w wr : World) (gs n : Nat) (i : Value) : Prop := ∃ k : Nat, k ≤ n ∧ k ≤ 60 ∧ i = .int .i64 k ∧ Cut1 w wr gs

set_option maxRecDepth 100000 in
set_option maxHeartbeats 3200000 in
theorem walk (a : Option Addr) (n c : Nat) (g : Nat → Int) (v0 v1 v2 : Int) (w : World) (hr : Flat w a n 3 g) (hm : n ≤ maxLen) (y0 : I64 v0) (y1 : I64 v1) (y2 : I64 v2) :
    Calls Try.prog 4 #[.slice a n c, .agg #[.int .i64 v0, .int .i64 v1, .int .i64 v2]] w fun e w' => e = .returned (.bool true) ∧ Below w.heap.size w w' := by
  unfold maxLen at hm
  have hR := Lib.hid hr
  clear hr
  go_enter Try.func4, Try.ntmps4
  go_wp2_with fail
  obtain ⟨wa, hwa⟩ : ∃ wa, wa = w.alloc (.cells #[.int .i64 v0, .int .i64 v1, .int .i64 v2] 27) := ⟨_, rfl⟩
  obtain ⟨go, hgo⟩ : ∃ go, go = w.heap.size := ⟨_, rfl⟩
  rw [← hwa, ← hgo]
  have hba : Below w.heap.size w wa := by rw [hwa]; exact (Below.refl _ _).alloc (Nat.le_refl _) _
  have A := Lib.hid (show Blk wa go 27 #[.int .i64 v0, .int .i64 v1, .int .i64 v2] by rw [hwa, hgo]; exact Blk.new _ _ _)
  have hgo1 : w.heap.size ≤ go := by omega
  have za := hba.size
  clear hwa hgo
  refine (new_c _).mono ?_; rintro e w1 ⟨gs, rfl, s1, hg1, hb1⟩
  have S1 := Lib.hid s1
  have A1 := Lib.hid (A.out.below hb1 A.out.lt)
  have lta := A.out.lt
  have hb01 : Below w.heap.size w w1 := hba.trans (hb1.mono za)
  have hgs : w.heap.size ≤ gs := by omega
  have hne : go ≠ gs := by omega
  clear s1 A hb1 hba
  go_upto_block 0 with fail
  go_cut [6] (fun s6 wx => Cut1 w wx gs ∧ Blk wx go 27 #[.int .i64 v0, .int .i64 v1, .int .i64 v2])
  case first =>
    go_wp2_with fail
    go_loopw [6] (fun i wr => Rel1 w wr gs n i ∧ Blk wr go 27 #[.int .i64 v0, .int .i64 v1, .int .i64 v2]) (fun i _ => n - (intOf i).toNat)
    case atStart => exact ⟨⟨0, by omega, by omega, rfl, _, S1.out, Smalls.zero, hb01⟩, A1.out⟩
    case round =>
      obtain ⟨⟨k, hkn, hk80, rfl, s, hS, hms, hb⟩, hA⟩ := hrel
      have HS := Lib.hid hS
      have MS := Lib.hid hms
      have HA := Lib.hid hA
      have hwr := hb.size
      have HB := Lib.hid hb
      clear hS hms hb hA
      rcases (show (k < n ∧ k < 60) ∨ (¬ k < n) ∨ (k < n ∧ ¬ k < 60) by omega) with ⟨hlt, h80⟩ | hlt | ⟨hlt, h80⟩
      · obtain ⟨hi64, hrow⟩ := hR.out
        obtain ⟨b, off, rfl, hbl, hcell⟩ := hrow (by omega)
        have cw : ∀ j, j < 3 → wr.cell? ⟨b, off + k * 3 + j, none⟩ = some (.int .i64 (g (k * 3 + j))) := fun j hj => by
          rw [HB.out.cell (p := ⟨b, off + k * 3 + j, none⟩) hbl, Nat.add_assoc]
          exact hcell _ (by omega)
        have c0 : wr.cell? ⟨b, off + k * 3, none⟩ = some (.int .i64 (g (k * 3))) := cw 0 (by omega)
        have c1 := cw 1 (by omega)
        have c2 := cw 2 (by omega)
        have i0 : (0 : Int) ≤ k := by omega
        have i1 : (k : Int) < n := by omega
        clear cw hcell hrow
        go_wp2_with fail
        refine (apply_c gs s _ _ _ _ HS.out MS.out (hi64 _) (hi64 _) (hi64 _) _ rfl _ rfl).mono ?_; rintro e w3 ⟨rfl, hS3, o3⟩
        have HS3 := Lib.hid hS3
        have HA3 := Lib.hid (HA.out.only o3 (by simpa using hne))
        have HB3 := Lib.hid (o3.below HB.out hwr (by simpa using hgs))
        clear hS3 o3 c0 c1 c2
        go_wp2_with fail
        go_roundw
        case rel => exact ⟨⟨k + 1, by omega, by omega, by go_num, _, HS3.out, MS.out.op _ _ _, HB3.out⟩, HA3.out⟩
        case measure => simp [intOf]; omega
      all_goals
        go_wp2_with fail
        go_meet
        exact ⟨⟨s, HS.out, MS.out, HB.out⟩, HA.out⟩
  case rest =>
    obtain ⟨⟨s, hS, hms, hb⟩, hA⟩ := hcut
    have HS := Lib.hid hS
    have MS := Lib.hid hms
    have z0 := hb.size
    have HA := Lib.hid hA
    clear hS hms hA
    go_wp2_with fail
    refine (all_c gs s _ HS.out).mono ?_; rintro e w2 ⟨ax, cx, rfl, hx, hb2⟩
    have HS2 := Lib.hid (HS.out.below hb2)
    have HA2 := Lib.hid (HA.out.below hb2 HA.out.lt)
    have hb02 := hb.trans (hb2.mono z0)
    have X2 := Lib.hid (own_vrow hx)
    have hbase : ∀ b, ax.map (·.block) = some b → wc.heap.size ≤ b := fun b hb => by
      cases ax with
      | none => cases hb
      | some p =>
        have := (World.ownsRow.lt hx p.block rfl).1
        simp at hb
        omega
    have HBASE := Lib.hid hbase
    have lts := HS.out.lt
    have hxl := allTo_len s 64
    have HM := Lib.hid (fun (p : Int × Int) (hp : p ∈ allTo s 64) => allTo_mem hp)
    have HSO := Lib.hid (allTo_sorted s 64)
    obtain ⟨L, hL⟩ : ∃ L, L = allTo s 64 := ⟨_, rfl⟩
    rw [← hL] at X2 hxl HM HSO ⊢
    have HL := Lib.hid hL
    clear hx hb2 hbase hL
    go_upto_block 2 with fail
    go_cut [33] (fun s33 wx => ∃ nq, wx = w2.drewN nq)
    case first =>
      go_wp2_with fail
      go_loopw [33] (fun i wr => ∃ k : Nat, k ≤ L.length ∧ i = .int .i64 k ∧ ∃ nq, wr = w2.drewN nq) (fun i _ => L.length - (intOf i).toNat)
      case atStart => exact ⟨0, by omega, rfl, 0, rfl⟩
      case round =>
        obtain ⟨k, hkn, rfl, nq0, hw⟩ := hrel
        by_cases hlt : k < L.length
        · obtain ⟨b1, o1, rfl, hb1, hc1⟩ := X2.out.2 (by omega)
          have p0 := hc1 _ _ (flat_get' acell 2 acell_len L k 0 (by omega) hlt _ rfl)
          have p1 := hc1 _ _ (flat_get' acell 2 acell_len L k 1 (by omega) hlt _ rfl)
          have q0 : wr.cell? ⟨b1, o1 + k * 2, none⟩ = some (.int .i64 L[k].1) := by rw [hw]; exact p0
          have q1 : wr.cell? ⟨b1, o1 + k * 2 + 1, none⟩ = some (.int .i64 L[k].2) := by rw [hw, Nat.add_assoc]; exact p1
          obtain ⟨r0, r1, r2⟩ := HM.out L[k] (List.getElem_mem hlt)
          have r3 := MS.out.get L[k].1
          rw [← r2] at r3
          have hprev : 0 < k → ∃ y, wr.cell? ⟨b1, o1 + (k - 1) * 2, none⟩ = some (.int .i64 y) ∧ y < L[k].1 := fun h0 => by
            have hlt' : k - 1 < L.length := by omega
            refine ⟨L[k - 1].1, ?_, ?_⟩
            · rw [hw]; exact hc1 _ _ (flat_get' acell 2 acell_len L (k - 1) 0 (by omega) hlt' _ rfl)
            · exact List.pairwise_iff_getElem.1 HSO.out (k - 1) k hlt' hlt (by omega)
          obtain ⟨x0, hx0⟩ : ∃ x, x = L[k].1 := ⟨_, rfl⟩
          obtain ⟨x1, hx1⟩ : ∃ x, x = L[k].2 := ⟨_, rfl⟩
          rw [← hx0] at q0 r0 r1 hprev
          rw [← hx1] at q1 r3
          have HW := Lib.hid hw
          have f1 : decide (x0 < 0) = false := decide_eq_false (by omega)
          have f2 : decide (64 ≤ x0) = false := decide_eq_false (by omega)
          have f3 : decide (x1 ≤ -2147483648) = false := decide_eq_false (by omega)
          have f4 : decide (2147483648 ≤ x1) = false := decide_eq_false (by omega)
          have i0 : (0 : Int) ≤ k := by omega
          have i1 : (k : Int) < L.length := by omega
          clear hc1 p0 p1 hx0 hx1 r2 hw
          by_cases hk0 : 0 < k
          · obtain ⟨y, q2, hy⟩ := hprev hk0
            have f5 : decide ((0 : Int) < k) = true := decide_eq_true (by omega)
            have f6 : decide (x0 ≤ y) = false := decide_eq_false (by omega)
            have j0 : (0 : Int) ≤ (k : Int) - 1 := by omega
            have j1 : (k : Int) - 1 < L.length := by omega
            have j2 : ((k : Int) - 1).toNat = k - 1 := by omega
            have j3 : IntKind.i64.wrap ((k : Int) - 1) = (k : Int) - 1 := IntWalk.i64_in _ (by omega)
            clear hprev
            go_wp2_with fail
            go_quiet (fail)
            go_wp2
            go_roundw
            case rel => exact ⟨k + 1, by omega, by go_num, nq0 + nq, by rw [HW.out, World.drewN_drewN]⟩
            case measure => simp [intOf]; omega
          · have f5 : decide ((0 : Int) < k) = false := decide_eq_false (by omega)
            clear hprev
            go_wp2_with fail
            go_quiet (fail)
            go_wp2
            go_roundw
            case rel => exact ⟨k + 1, by omega, by go_num, nq0 + nq, by rw [HW.out, World.drewN_drewN]⟩
            case measure => simp [intOf]; omega
        · go_wp2_with fail
          go_meet
          exact ⟨nq0, rfl⟩
    case rest =>
      obtain ⟨nq0, hwc⟩ := hcut
      have HS3 := Lib.hid (HS2.out.drewN nq0)
      have HA3 := Lib.hid (HA2.out.drewN nq0)
      have X3 : VRow (w2.drewN nq0) ax L.length 2 (L.flatMap acell) := X2.out
      have hb03 := below_drewN hb02 nq0
      have z23 : w2.heap.size = (w2.drewN nq0).heap.size := rfl
      have lt2 := HS2.out.lt
      rw [← hwc] at HS3 HA3 X3 hb03
      have X4 := Lib.hid X3
      clear hwc z23 X3 HS2 HA2 X2
      have a0 := (HA3.out.cell 0).trans (show _ = some (.int .i64 v0) from rfl)
      have a1 := (HA3.out.cell 1).trans (show _ = some (.int .i64 v1) from rfl)
      have a2 := (HA3.out.cell 2).trans (show _ = some (.int .i64 v2) from rfl)
      have z3 := hb03.size
      by_cases hbad : v1 < 0 ∨ 64 ≤ v1 ∨ v2 ≤ -2147483648 ∨ 2147483648 ≤ v2 ∨ v0 < 1 ∨ 5 < v0
      · obtain ⟨R0, S0⟩ := bad_op s v0 v1 v2 hbad
        have HR0 := Lib.hid R0
        have HS0 := Lib.hid S0
        have hcase : v1 < 0 ∨ (¬ v1 < 0 ∧ 64 ≤ v1) ∨ (¬ v1 < 0 ∧ ¬ 64 ≤ v1 ∧ v2 ≤ -2147483648) ∨ (¬ v1 < 0 ∧ ¬ 64 ≤ v1 ∧ ¬ v2 ≤ -2147483648 ∧ 2147483648 ≤ v2) ∨ (¬ v1 < 0 ∧ ¬ 64 ≤ v1 ∧ ¬ v2 ≤ -2147483648 ∧ ¬ 2147483648 ≤ v2 ∧ v0 < 1) ∨ (¬ v1 < 0 ∧ ¬ 64 ≤ v1 ∧ ¬ v2 ≤ -2147483648 ∧ ¬ 2147483648 ≤ v2 ∧ ¬ v0 < 1 ∧ 5 < v0) := by omega
        clear hbad R0 S0
        go_wp2_with fail
        refine (apply_c gs s v0 v1 v2 _ HS3.out MS.out y0 y1 y2 0 HR0.out s HS0.out).mono ?_; rintro e w4 ⟨rfl, hS4, o4⟩
        have HS4 := Lib.hid hS4
        have b0 := o4.cell_ (p := ⟨go, 0, none⟩) a0 (by simpa using hne)
        have b1 := o4.cell_ (p := ⟨go, 1, none⟩) a1 (by simpa using hne)
        have b2 := o4.cell_ (p := ⟨go, 2, none⟩) a2 (by simpa using hne)
        have hb04 : Below w.heap.size w w4 := o4.below hb03 z3 (by simpa using hgs)
        have X5 := Lib.hid (X4.out.only o4 (fun b hb => by
          have := HBASE.out b hb
          simp
          omega))
        have z4 := hb04.size
        clear hS4 o4 a0 a1 a2
        rcases hcase with c1 | ⟨c1, c2⟩ | ⟨c1, c2, c3⟩ | ⟨c1, c2, c3, c4⟩ | ⟨c1, c2, c3, c4, c5⟩ | ⟨c1, c2, c3, c4, c5, c6⟩
        all_goals
          go_wp2_with fail
          refine (all_c gs s _ HS4.out).mono ?_; rintro e w5 ⟨ay, cy, rfl, hy, hb5⟩
          rw [← HL.out]
          rw [← HL.out] at hy
          have Y5 := Lib.hid (own_vrow hy)
          have X6 := Lib.hid (X5.out.below hb5)
          have hb05 := hb04.trans (hb5.mono z4)
          have z5 := hb05.size
          clear hy hb5
          go_wp2_with fail
          refine (same2_c ay ax L.length L.length cy cx L L _ Y5.out X6.out rfl rfl (by omega) (by omega) true (decide_eq_true rfl)).mono ?_; rintro e w6 ⟨rfl, hb6⟩
          have hb06 := hb05.trans (hb6.mono z5)
          go_wp2_with fail
          refine (swakes_c _).mono ?_; rintro e w8 ⟨rfl, hb8⟩
          go_wp2
          go_ret
          exact ⟨rfl, hb06.trans (hb8.mono hb06.size)⟩
      · have c1 : ¬ v1 < 0 := by omega
        have c2 : ¬ 64 ≤ v1 := by omega
        have c3 : ¬ v2 ≤ -2147483648 := by omega
        have c4 : ¬ 2147483648 ≤ v2 := by omega
        have c5 : ¬ v0 < 1 := by omega
        have c6 : ¬ 5 < v0 := by omega
        clear hbad
        go_wp2_with fail
        refine (apply_c gs s v0 v1 v2 _ HS3.out MS.out y0 y1 y2 _ rfl _ rfl).mono ?_; rintro e w4 ⟨rfl, hS4, o4⟩
        have b0 := o4.cell_ (p := ⟨go, 0, none⟩) a0 (by simpa using hne)
        have b1 := o4.cell_ (p := ⟨go, 1, none⟩) a1 (by simpa using hne)
        have b2 := o4.cell_ (p := ⟨go, 2, none⟩) a2 (by simpa using hne)
        have hb04 : Below w.heap.size w w4 := o4.below hb03 z3 (by simpa using hgs)
        clear hS4 o4 a0 a1 a2
        go_wp2_with fail
        refine (swakes_c _).mono ?_; rintro e w8 ⟨rfl, hb8⟩
        go_wp2
        go_ret
        exact ⟨rfl, hb04.trans (hb8.mono hb04.size)⟩

theorem lawWalk : LawWalk Try.checked 4 Try.f4 := by
  intro H enc W base args ds p hval hA hsz
  rw [Try.params4] at hA hval
  obtain ⟨v0, vs0, d0, ds0, p0, q0, hargs, rfl, rfl, h0, r0⟩ := trodAll_cons hA
  obtain ⟨v1, vs1, d1, ds1, p1, q1, rfl, rfl, rfl, h1, r1⟩ := trodAll_cons r0
  obtain ⟨rfl, rfl, rfl⟩ := trodAll_nil r1
  obtain rfl : args = #[v0, v1] := by cases args; simp_all
  obtain ⟨a0, n0, c0, g0, rfl, hnc0, hcm0, hr0⟩ := open_flat Try.underlying30 Try.underlying27 (by kernel_rfl) (by kernel_rfl) (by decide) (by kernel_rfl) (hval 0 30 v0 rfl rfl) h0
  obtain ⟨zs1, hl1, rfl, hi1⟩ := open_int_struct Try.underlying27 (by kernel_rfl) (by kernel_rfl) (by kernel_rfl) (hval 1 27 v1 rfl rfl) h1
  obtain ⟨z1_0, z1_1, z1_2, rfl⟩ : ∃ z1_0 z1_1 z1_2 : Int, zs1 = [z1_0, z1_1, z1_2] := by
    match zs1, hl1 with
    | [z1_0, z1_1, z1_2], _ => exact ⟨z1_0, z1_1, z1_2, rfl⟩
  exact walk a0 n0 c0 g0 z1_0 z1_1 z1_2 W hr0 (Nat.le_trans hnc0 hcm0) (hi1 _ (by simp)) (hi1 _ (by simp)) (hi1 _ (by simp))

theorem lifted (os : Os) (started : os.Started) (H : Type) (enc : TypeId × Value → H) :
    ReturnsInHanded {} Try.checked os 4 .any (Rows.storeRangesSpec.pre6 enc Try.prog Try.f4 Rows.storeRangesRow.domain false) (Rows.storeRangesSpec.post enc Try.prog Try.f4 false true false false) :=
  law_lift (C := Try.checked) (s := Rows.storeRangesSpec) (tb := 4) (by kernel_rfl) started (by kernel_rfl) Try.func4
    (ChangeSpec.witness6 (enc := enc) (C := Try.checked) false ⟨#[], #[.slice none 0 0, .agg #[.int .i64 0, .int .i64 0, .int .i64 0]], []⟩ 8 (by kernel_rfl) (by kernel_rfl) (by kernel_rfl) (by kernel_rfl))
    rfl (fun H ds h => by
      match ds, h with
      | [d0, d1], _ => rfl) (by kernel_rfl) (by kernel_rfl) (by kernel_rfl) Try.underlying4 lawWalk

theorem over : Rows.storeRangesRow.holds Try.pinned (OpenSpec.ofChange Rows.storeRangesSpec) :=
  OpenClaim.holds_of_wide 4 Try.f4 rfl rfl rfl rfl rfl rfl rfl ⟨rfl, rfl, rfl, rfl, rfl⟩ rfl rfl rfl rfl rfl (by kernel_rfl) Try.func4 (by kernel_rfl)
    (of_decide_eq_true (by kernel_rfl)) (by unfold Func.isWrapper; first | (rw [if_pos (by decide +kernel)]; kernel_rfl) | (rw [if_neg (by decide +kernel)]; exact ⟨rfl, rfl⟩))
    (fun os started H enc _ => lifted os started H enc)

/-- The statement. -/
theorem proved : Rows.StoreRangesSaid := over
#print axioms proved

end Go.Proofs.Ytghaahagacffiaa.StoreRanges
