/- StoreKeys: for every list of operations and every key the law returns true: what is done to one key changes no other one. No condition. -/
import Derived.Test.YtghaahagacffiaaStoreW
import Derived.Test.YtghaahagacffiaaStoreP
import Derived.Test.YtghaahagacffiaaRows
import Derived.Deep.DeepCutAuto
import Derived.Deep.CutBlock
namespace Go.Proofs.Ytghaahagacffiaa.StoreKeys
open Go.RowKit Go.ChangeShapes Go.WideShapes Go.ChangeAt
set_option linter.unusedVariables false

def Both (w wx : World) (gs gt q : Nat) : Prop :=
  ∃ s t, Store wx gs s ∧ Store wx gt t ∧ Smalls s ∧ Smalls t ∧ s.getD q (false, 0) = t.getD q (false, 0) ∧ Below w.heap.size w wx
def Rel (w wr : World) (gs gt q n : Nat) (i : Value) : Prop := ∃ k : Nat, k ≤ n ∧ k ≤ 80 ∧ i = .int .i64 k ∧ Both w wr gs gt q

theorem sget_same {s t : List (Bool × Int)} {q : Nat} (h : s.getD q (false, 0) = t.getD q (false, 0)) : sgetB s q = sgetB t q ∧ sgetR s q = sgetR t q := by
  have hb : sgetB s q = sgetB t q := by unfold sgetB; rw [Int.toNat_natCast, h]
  exact ⟨hb, by unfold sgetR; rw [hb, Int.toNat_natCast, h]⟩

set_option maxRecDepth 100000 in
set_option maxHeartbeats 1600000 in
theorem walk (a : Option Addr) (n c : Nat) (g : Nat → Int) (key : Int) (w : World) (hr : Flat w a n 3 g) (hm : n ≤ maxLen) (hk : I64 key) :
    Calls Try.prog 7 #[.slice a n c, .int .i64 key] w fun e w' => e = .returned (.bool true) ∧ Below w.heap.size w w' := by
  unfold maxLen at hm
  have hR := Lib.hid hr
  clear hr
  go_enter Try.func7, Try.ntmps7
  go_wp2_with fail
  refine (new_c _).mono ?_; rintro e w1 ⟨gs, rfl, s1, hg1, hb1⟩
  have S1 := Lib.hid s1
  have z1 := hb1.size
  clear s1
  go_wp2_with fail
  refine (new_c _).mono ?_; rintro e w2 ⟨gt, rfl, t2, hg2, hb2⟩
  have T2 := Lib.hid t2
  have S2 := Lib.hid (S1.out.below hb2)
  have l1 := S1.out.lt
  have z2 := hb2.size
  have hb02 : Below w.heap.size w w2 := hb1.trans (hb2.mono z1)
  clear t2 hb1 hb2 S1
  go_wp2_with fail
  refine (within_q key 6 _ hk (by omega) (by omega)).mono ?_; rintro e w' ⟨q', rfl, hq, hq0, hq4, rfl⟩
  obtain ⟨q, rfl⟩ := Int.eq_ofNat_of_zero_le hq0
  clear hq
  go_upto_block 0 with fail
  go_cut [7] (fun s7 wx => Both w wx gs gt q)
  case first =>
    go_wp2_with fail
    go_loopw [7] (fun i wr => Rel w wr gs gt q n i) (fun i _ => n - (intOf i).toNat)
    case atStart => exact ⟨0, by omega, by omega, rfl, _, _, S2.out, T2.out, Smalls.zero, Smalls.zero, rfl, hb02⟩
    case round =>
      obtain ⟨k, hkn, hk80, rfl, s, t, hS, hT, hms, hmt, hst, hb⟩ := hrel
      have HS := Lib.hid hS
      have HT := Lib.hid hT
      have MS := Lib.hid hms
      have MT := Lib.hid hmt
      have ST := Lib.hid hst
      have hwr := hb.size
      have HB := Lib.hid hb
      clear hS hT hms hmt hst hb
      rcases (show (k < n ∧ k < 80) ∨ (¬ k < n) ∨ (k < n ∧ ¬ k < 80) by omega) with ⟨hlt, h80⟩ | hlt | ⟨hlt, h80⟩
      · obtain ⟨hi64, hrow⟩ := hR.out
        obtain ⟨b, off, rfl, hbl, hcell⟩ := hrow (by omega)
        have cw : ∀ j, j < 3 → wr.cell? ⟨b, off + k * 3 + j, none⟩ = some (.int .i64 (g (k * 3 + j))) := fun j hj => by
          rw [HB.out.cell (p := ⟨b, off + k * 3 + j, none⟩) hbl, Nat.add_assoc]
          exact hcell _ (by omega)
        have c0 : wr.cell? ⟨b, off + k * 3, none⟩ = some (.int .i64 (g (k * 3))) := cw 0 (by omega)
        have c1 := cw 1 (by omega)
        have c2 := cw 2 (by omega)
        have x0 := hi64 (k * 3)
        have x1 := hi64 (k * 3 + 1)
        have x2 := hi64 (k * 3 + 2)
        obtain ⟨u0, hu0⟩ : ∃ u, u = g (k * 3) := ⟨_, rfl⟩
        obtain ⟨u1, hu1⟩ : ∃ u, u = g (k * 3 + 1) := ⟨_, rfl⟩
        obtain ⟨u2, hu2⟩ : ∃ u, u = g (k * 3 + 2) := ⟨_, rfl⟩
        rw [← hu0] at c0 x0
        rw [← hu1] at c1 x1
        rw [← hu2] at c2 x2
        have i0 : (0 : Int) ≤ k := by omega
        have i1 : (k : Int) < n := by omega
        clear cw hcell hrow hu0 hu1 hu2
        go_wp2_with fail
        refine (apply_c gs s u0 u1 u2 _ HS.out MS.out x0 x1 x2 _ rfl _ rfl).mono ?_; rintro e w3 ⟨rfl, hS3, o3⟩
        have HS3 := Lib.hid hS3
        have d0 := o3.cell_ (p := ⟨b, off + k * 3, none⟩) c0 (by simp; omega)
        have d1 := o3.cell_ (p := ⟨b, off + k * 3 + 1, none⟩) c1 (by simp; omega)
        have d2 := o3.cell_ (p := ⟨b, off + k * 3 + 2, none⟩) c2 (by simp; omega)
        have HT3 := Lib.hid (HT.out.only o3 (by simp; omega))
        have hb3 : Below w.heap.size w w3 := o3.below HB.out hwr (by simpa using hg1)
        have HB3 := Lib.hid hb3
        have z3 := hb3.size
        clear hS3 o3 hb3 c0 c1 c2
        by_cases he : u1 = q
        · have e1 : (u1 == (q : Int)) = true := beq_iff_eq.2 he
          by_cases h5 : u0 = 5
          · have e2 : (u0 != 5) = false := by simp [h5]
            have hop : opSt s u0 u1 u2 = s := by rw [h5]; exact op_sum _ _ _
            have HOP := Lib.hid hop
            clear he h5 hop
            go_wp2_with fail
            go_roundw
            case rel => exact ⟨k + 1, by omega, by omega, by go_num, s, t, by have := HS3.out; rw [HOP.out] at this; exact this, HT3.out, MS.out, MT.out, ST.out, HB3.out⟩
            case measure => simp [intOf]; omega
          · have e2 : (u0 != 5) = true := bne_iff_ne.2 h5
            have hkq : u1.toNat = q := by omega
            have hsr : opR t u0 u1 u2 = opR s u0 u1 u2 := (op_sameR u0 u1 u2 h5 (by rw [hkq]; exact ST.out)).symm
            have hss : (opSt s u0 u1 u2).getD q (false, 0) = (opSt t u0 u1 u2).getD q (false, 0) := by
              have := op_same HS.out.n HT.out.n u0 u1 u2 (by rw [hkq]; exact ST.out)
              rw [hkq] at this
              exact this
            obtain ⟨r, hr⟩ : ∃ r, r = opR s u0 u1 u2 := ⟨_, rfl⟩
            rw [← hr] at hsr ⊢
            have HSR := Lib.hid hsr
            have HSS := Lib.hid hss
            have e3 : (r != r) = false := by simp
            clear he h5 hkq hsr hss hr
            go_wp2_with fail
            refine (apply_c gt t u0 u1 u2 _ HT3.out MT.out x0 x1 x2 _ HSR.out _ rfl).mono ?_; rintro e w4 ⟨rfl, hT4, o4⟩
            have HT4 := Lib.hid hT4
            have lgs := HS.out.lt
            have HS4 := Lib.hid (HS3.out.only o4 (by simp; omega))
            have hb4 : Below w.heap.size w w4 := o4.below HB3.out z3 (by simp; omega)
            have HB4 := Lib.hid hb4
            clear hT4 o4 hb4
            go_wp2_with fail
            go_roundw
            case rel => exact ⟨k + 1, by omega, by omega, by go_num, _, _, HS4.out, HT4.out, MS.out.op _ _ _, MT.out.op _ _ _, HSS.out, HB4.out⟩
            case measure => simp [intOf]; omega
        · have e1 : (u1 == (q : Int)) = false := beq_eq_false_iff_ne.2 he
          have hss : (opSt s u0 u1 u2).getD q (false, 0) = t.getD q (false, 0) := by rw [op_other s u0 u1 u2 q he]; exact ST.out
          have HSS := Lib.hid hss
          clear he hss
          go_wp2_with fail
          go_roundw
          case rel => exact ⟨k + 1, by omega, by omega, by go_num, _, t, HS3.out, HT3.out, MS.out.op _ _ _, MT.out, HSS.out, HB3.out⟩
          case measure => simp [intOf]; omega
      all_goals
        go_wp2_with fail
        go_meet
        exact ⟨s, t, HS.out, HT.out, MS.out, MT.out, ST.out, HB.out⟩
  case rest =>
    obtain ⟨s, t, hS, hT, _, _, hst, hb⟩ := hcut
    have E := sget_same hst
    have HS := Lib.hid hS
    have HT := Lib.hid hT
    have HE := Lib.hid E
    have ik : I64 (q : Int) := I64.of (by omega) (by omega)
    clear hS hT hst E
    obtain ⟨bb, hbb⟩ : ∃ bb, sgetB s q = bb := ⟨_, rfl⟩
    obtain ⟨rr, hrr⟩ : ∃ rr, sgetR s q = rr := ⟨_, rfl⟩
    have HB1 := Lib.hid hbb
    have HR1 := Lib.hid hrr
    have HB2 := Lib.hid (HE.out.1.symm.trans hbb)
    have HR2 := Lib.hid (HE.out.2.symm.trans hrr)
    have e1 : (rr == rr) = true := beq_self_eq_true rr
    have e2 : (bb == bb) = true := by simp
    clear hbb hrr
    go_wp2_with fail
    refine (sget_c gs s q _ HS.out ik bb HB1.out rr HR1.out).mono ?_; rintro e w' ⟨rfl, rfl⟩
    go_wp2_with fail
    refine (sget_c gt t q _ HT.out ik bb HB2.out rr HR2.out).mono ?_; rintro e w' ⟨rfl, rfl⟩
    go_wp2_with fail
    refine (swakes_c _).mono ?_; rintro e w8 ⟨rfl, hb8⟩
    go_wp2
    go_ret
    exact ⟨rfl, hb.trans (hb8.mono hb.size)⟩

theorem lawWalk : LawWalk Try.checked 7 Try.f7 := by
  intro H enc W base args ds p hval hA hsz
  rw [Try.params7] at hA hval
  obtain ⟨v0, vs0, d0, ds0, p0, q0, hargs, rfl, rfl, h0, r0⟩ := trodAll_cons hA
  obtain ⟨v1, vs1, d1, ds1, p1, q1, rfl, rfl, rfl, h1, r1⟩ := trodAll_cons r0
  obtain ⟨rfl, rfl, rfl⟩ := trodAll_nil r1
  obtain rfl : args = #[v0, v1] := by cases args; simp_all
  obtain ⟨a0, n0, c0, g0, rfl, hnc0, hcm0, hr0⟩ := open_flat Try.underlying30 Try.underlying27 (by kernel_rfl) (by kernel_rfl) (by decide) (by kernel_rfl) (hval 0 30 v0 rfl rfl) h0
  obtain ⟨a1, rfl, rfl, rfl, w1⟩ := open_int Try.underlying3 (hval 1 3 v1 rfl rfl) h1
  exact walk a0 n0 c0 g0 a1 W hr0 (Nat.le_trans hnc0 hcm0) (I64.of_wf w1)

theorem lifted (os : Os) (started : os.Started) (H : Type) (enc : TypeId × Value → H) :
    ReturnsInHanded {} Try.checked os 7 .any (Rows.storeKeysSpec.pre6 enc Try.prog Try.f7 Rows.storeKeysRow.domain false) (Rows.storeKeysSpec.post enc Try.prog Try.f7 false true false false) :=
  law_lift (C := Try.checked) (s := Rows.storeKeysSpec) (tb := 4) (by kernel_rfl) started (by kernel_rfl) Try.func7
    (ChangeSpec.witness6 (enc := enc) (C := Try.checked) false ⟨#[], #[.slice none 0 0, .int .i64 0], []⟩ 8 (by kernel_rfl) (by kernel_rfl) (by kernel_rfl) (by kernel_rfl))
    rfl (fun H ds h => by
      match ds, h with
      | [d0, d1], _ => rfl) (by kernel_rfl) (by kernel_rfl) (by kernel_rfl) Try.underlying4 lawWalk

theorem over : Rows.storeKeysRow.holds Try.pinned (OpenSpec.ofChange Rows.storeKeysSpec) :=
  OpenClaim.holds_of_wide 7 Try.f7 rfl rfl rfl rfl rfl rfl rfl ⟨rfl, rfl, rfl, rfl, rfl⟩ rfl rfl rfl rfl rfl (by kernel_rfl) Try.func7 (by kernel_rfl)
    (of_decide_eq_true (by kernel_rfl)) (by unfold Func.isWrapper; first | (rw [if_pos (by decide +kernel)]; kernel_rfl) | (rw [if_neg (by decide +kernel)]; exact ⟨rfl, rfl⟩))
    (fun os started H enc _ => lifted os started H enc)

/-- The statement. -/
theorem proved : Rows.StoreKeysSaid := over
#print axioms proved

end Go.Proofs.Ytghaahagacffiaa.StoreKeys
