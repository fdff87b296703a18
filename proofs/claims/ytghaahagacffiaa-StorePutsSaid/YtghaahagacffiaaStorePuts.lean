/- StorePuts: for every key and every list of values the law returns true: the last value that was put is there; deleted it is there no more. No condition. -/
import Derived.Test.YtghaahagacffiaaStoreW
import Derived.Test.YtghaahagacffiaaStoreP
import Derived.Test.YtghaahagacffiaaRows
import Derived.Deep.DeepCutAuto
import Derived.Deep.CutBlock
namespace Go.Proofs.Ytghaahagacffiaa.StorePuts
open Go.RowKit Go.ChangeShapes Go.WideShapes Go.ChangeAt
set_option linter.unusedVariables false

/-- One key alone. -/
def one (j : Nat) (c : Bool × Int) : List (Bool × Int) := st0.set j c
theorem st0_len : st0.length = 64 := rfl
theorem st0_get (i : Nat) : st0.getD i (false, 0) = (false, 0) := by
  unfold st0
  rw [List.getD_eq_getElem?_getD, List.getElem?_replicate]
  split <;> rfl
theorem one_len (j : Nat) (c : Bool × Int) : (one j c).length = 64 := by unfold one; rw [List.length_set]; rfl
theorem one_get {j : Nat} (hj : j < 64) (c : Bool × Int) (i : Nat) : (one j c).getD i (false, 0) = if j = i then c else (false, 0) := by
  unfold one
  by_cases h : j = i
  · subst h
    rw [if_pos rfl, set_at _ _ _ (by rw [st0_len]; exact hj)]
  · rw [if_neg h, set_other _ _ _ _ h, st0_get]
theorem one_zero {j : Nat} (hj : j < 64) : one j (false, 0) = st0 := by
  apply List.ext_getElem (by rw [one_len]; rfl)
  intro i h1 h2
  have h := one_get hj (false, 0) i
  have h' := st0_get i
  rw [List.getD_eq_getElem?_getD, List.getElem?_eq_getElem h1] at h
  rw [List.getD_eq_getElem?_getD, List.getElem?_eq_getElem h2] at h'
  simp only [Option.getD_some] at h h'
  rw [h, h']
  split <;> rfl
theorem one_set (j : Nat) (c d : Bool × Int) : (one j c).set j d = one j d := by unfold one; rw [List.set_set]
theorem one_count {j : Nat} (hj : j < 64) (v : Int) : ∀ k, (allTo (one j (true, v)) k).length = if j < k then 1 else 0
  | 0 => by rw [if_neg (by omega)]; rfl
  | k + 1 => by
    have ih := one_count hj v k
    rw [allTo_succ, one_get hj]
    by_cases h : j = k
    · subst h
      rw [if_neg (by omega)] at ih
      rw [if_pos rfl, if_pos (show (true, v).1 = true from rfl), List.length_append, ih, if_pos (by omega)]
      rfl
    · rw [if_neg h, if_neg (by simp), ih]
      by_cases h2 : j < k
      · rw [if_pos h2, if_pos (by omega)]
      · rw [if_neg h2, if_neg (by omega)]
theorem none_count : ∀ k, (allTo st0 k).length = 0
  | 0 => rfl
  | k + 1 => by
    rw [allTo_succ, st0_get, if_neg (by simp)]
    exact none_count k
theorem one_small (j : Nat) {b : Bool} {v : Int} (h : -2147483648 < v ∧ v < 2147483648) : Smalls (one j (b, v)) := Smalls.zero.set j b h
theorem one_val {j : Nat} (hj : j < 64) (b : Bool) (v : Int) : valOf (one j (b, v)) j = v := by unfold valOf; rw [Int.toNat_natCast, one_get hj, if_pos rfl]
theorem op_yes {j : Nat} (hj : j < 64) {v : Int} (h : -2147483648 < v ∧ v < 2147483648) : opB j v = true := by
  unfold opB smallB
  rw [decide_eq_true (show 0 ≤ (j : Int) ∧ (j : Int) < 64 by omega), decide_eq_true h]
  rfl
theorem put_one {j : Nat} (hj : j < 64) (c : Bool × Int) {v : Int} (h : -2147483648 < v ∧ v < 2147483648) : opSt (one j c) 1 j v = one j (true, v) := by
  unfold opSt
  rw [if_pos (op_yes hj h), if_pos rfl, Int.toNat_natCast, one_set]
theorem put_oneR {j : Nat} (hj : j < 64) (b : Bool) (u : Int) {v : Int} (h : -2147483648 < v ∧ v < 2147483648) : opR (one j (b, u)) 1 j v = u := by
  unfold opR
  rw [if_pos (op_yes hj h), if_pos rfl, one_val hj]

def Cut (w wx : World) (gs j : Nat) (v : Value) : Prop :=
  ∃ b u, v = .int .i64 u ∧ -1000 ≤ u ∧ u < 1000 ∧ Store wx gs (one j (b, u)) ∧ Below w.heap.size w wx
def Rel (w wr : World) (gs j n : Nat) (v i : Value) : Prop := ∃ k : Nat, k ≤ n ∧ k ≤ 50 ∧ i = .int .i64 k ∧ Cut w wr gs j v

set_option maxRecDepth 100000 in
set_option maxHeartbeats 1600000 in
theorem walk (key : Int) (a : Option Addr) (n c : Nat) (xs : List Int) (w : World) (hk : I64 key) (hr : IntRow w a n xs) (hm : n ≤ maxLen) (hx : ∀ x ∈ xs, I64 x) :
    Calls Try.prog 9 #[.int .i64 key, .slice a n c] w fun e w' => e = .returned (.bool true) ∧ Below w.heap.size w w' := by
  unfold maxLen at hm
  have hR := Lib.hid hr
  have hX := Lib.hid hx
  clear hr hx
  go_enter Try.func9, Try.ntmps9
  go_wp2_with fail
  refine (new_c _).mono ?_; rintro e w1 ⟨gs, rfl, s1, hg1, hb1⟩
  have S1 := Lib.hid s1
  have z1 := hb1.size
  clear s1
  go_wp2_with fail
  refine (within_q key 64 _ hk (by omega) (by omega)).mono ?_; rintro e w' ⟨q', rfl, hq, hq0, hq4, rfl⟩
  obtain ⟨j, rfl⟩ := Int.eq_ofNat_of_zero_le hq0
  have hj : j < 64 := by omega
  have ik : I64 (j : Int) := I64.of (by omega) (by omega)
  have S2 := Lib.hid (show Store w1 gs (one j (false, 0)) by rw [one_zero hj]; exact S1.out)
  clear hq S1
  go_upto_block 0 with fail
  go_cut [6, 7] (fun s6 s7 wx => Cut w wx gs j s6)
  case first =>
    go_wp2_with fail
    go_loopw [6, 7] (fun v i wr => Rel w wr gs j n v i) (fun _ i _ => n - (intOf i).toNat)
    case atStart => exact ⟨0, by omega, by omega, rfl, false, 0, rfl, by omega, by omega, S2.out, hb1⟩
    case round =>
      obtain ⟨k, hkn, hk50, rfl, b0, u, rfl, u0, u1, hS, hb⟩ := hrel
      have HS := Lib.hid hS
      have hwr := hb.size
      have HB := Lib.hid hb
      clear hS hb
      rcases (show (k < n ∧ k < 50) ∨ (¬ k < n) ∨ (k < n ∧ ¬ k < 50) by omega) with ⟨hlt, h80⟩ | hlt | ⟨hlt, h80⟩
      · obtain ⟨hlen, hrow⟩ := hR.out
        obtain ⟨b, off, rfl, hbl, hcell⟩ := hrow (by omega)
        have c0 : wr.cell? ⟨b, off + k, none⟩ = some (.int .i64 (xs.getD k 0)) := (HB.out.cell (p := ⟨b, off + k, none⟩) hbl).trans (hcell k hlt)
        have x0 : I64 (xs.getD k 0) := by
          rw [List.getD_eq_getElem?_getD, List.getElem?_eq_getElem (show k < xs.length by omega)]
          exact hX.out _ (List.getElem_mem _)
        obtain ⟨x, hx⟩ : ∃ x, x = xs.getD k 0 := ⟨_, rfl⟩
        rw [← hx] at c0 x0
        have i0 : (0 : Int) ≤ k := by omega
        have i1 : (k : Int) < n := by omega
        clear hlen hrow hcell hx
        go_wp2_with fail
        refine (within_q x 2000 _ x0 (by omega) (by omega)).mono ?_; rintro e w' ⟨v, rfl, hv, v0, v1, rfl⟩
        have hbd : -2147483648 < v - 1000 ∧ v - 1000 < 2147483648 := by omega
        have P1 := Lib.hid (put_one hj (b0, u) hbd)
        have P2 := Lib.hid (put_oneR hj b0 u hbd)
        have C1 := Lib.hid (show (allTo (one j (true, v - 1000)) 64).length = 1 by rw [one_count hj, if_pos hj])
        have e1 : (u != u) = false := by simp
        clear hv hbd
        go_wp2_with fail
        refine (apply_c gs _ 1 j (v - 1000) _ HS.out (one_small j (by omega)) (I64.of (by omega) (by omega)) ik (I64.of (by omega) (by omega)) u P2.out _ P1.out).mono ?_; rintro e w3 ⟨rfl, hS3, o3⟩
        have HS3 := Lib.hid hS3
        have hb3 : Below w.heap.size w w3 := o3.below HB.out hwr (by simpa using hg1)
        have HB3 := Lib.hid hb3
        have z3 := hb3.size
        clear hS3 o3 hb3 c0
        go_wp2_with fail
        refine (len_c gs _ _ HS3.out 1 C1.out).mono ?_; rintro e w4 ⟨rfl, hb4⟩
        have HS4 := Lib.hid (HS3.out.below hb4)
        have HB4 := Lib.hid (HB3.out.trans (hb4.mono z3))
        clear hb4
        go_wp2_with fail
        go_roundw
        case rel => exact ⟨k + 1, by omega, by omega, by go_num, true, v - 1000, rfl, by omega, by omega, HS4.out, HB4.out⟩
        case measure => simp [intOf]; omega
      all_goals
        go_wp2_with fail
        go_meet
        exact ⟨b0, u, rfl, u0, u1, HS.out, HB.out⟩
  case rest =>
    obtain ⟨b0, u, rfl, u0, u1, hS, hb⟩ := hcut
    have HS := Lib.hid hS
    have hz := hb.size
    have D1 := Lib.hid (show opSt (one j (b0, u)) 4 j 0 = st0 by
      unfold opSt
      rw [if_pos (op_yes hj (by omega)), if_neg (by omega), if_neg (by omega), if_pos rfl, Int.toNat_natCast, one_set, one_zero hj])
    have D2 := Lib.hid (show opR (one j (b0, u)) 4 j 0 = u by
      unfold opR
      rw [if_pos (op_yes hj (by omega)), if_neg (by omega), if_neg (by omega), if_neg (by omega), if_pos rfl, one_val hj])
    have C0 := Lib.hid (none_count 64)
    have G1 := Lib.hid (show sgetB st0 j = false by unfold sgetB; rw [Int.toNat_natCast, st0_get, Bool.and_false])
    have G2 := Lib.hid (show sgetR st0 j = 0 by unfold sgetR; rw [G1.out]; rfl)
    have R1 := Lib.hid (show opR st0 2 j 0 = 0 by
      unfold opR valOf
      rw [if_pos (op_yes hj (by omega)), if_neg (by omega), if_pos rfl, Int.toNat_natCast, st0_get])
    have R2 := Lib.hid (show opSt st0 2 j 0 = st0 by unfold opSt; split <;> rfl)
    have e1 : (u != u) = false := by simp
    clear hS
    go_wp2_with fail
    refine (apply_c gs _ 4 j 0 _ HS.out (one_small j (by omega)) (I64.of (by omega) (by omega)) ik (I64.of (by omega) (by omega)) u D2.out _ D1.out).mono ?_; rintro e w3 ⟨rfl, hS3, o3⟩
    have HS3 := Lib.hid hS3
    have hb3 : Below w.heap.size w w3 := o3.below hb hz (by simpa using hg1)
    have z3 := hb3.size
    clear hS3 o3
    go_wp2_with fail
    refine (len_c gs _ _ HS3.out 0 C0.out).mono ?_; rintro e w4 ⟨rfl, hb4⟩
    have HS4 := Lib.hid (HS3.out.below hb4)
    have hb04 := hb3.trans (hb4.mono z3)
    have z4 := hb04.size
    clear hb4
    go_wp2_with fail
    refine (sget_c gs _ j _ HS4.out ik false G1.out 0 G2.out).mono ?_; rintro e w' ⟨rfl, rfl⟩
    go_wp2_with fail
    refine (apply_c gs _ 2 j 0 _ HS4.out Smalls.zero (I64.of (by omega) (by omega)) ik (I64.of (by omega) (by omega)) 0 R1.out _ R2.out).mono ?_; rintro e w5 ⟨rfl, hS5, o5⟩
    have HS5 := Lib.hid hS5
    have hb5 : Below w.heap.size w w5 := o5.below hb04 z4 (by simpa using hg1)
    have z5 := hb5.size
    clear hS5 o5
    go_wp2_with fail
    refine (new_c _).mono ?_; rintro e w6 ⟨gt, rfl, s6, hg6, hb6⟩
    have HS6 := Lib.hid (HS5.out.below hb6)
    have HT6 := Lib.hid s6
    have hb06 := hb5.trans (hb6.mono z5)
    clear s6 hb6
    go_wp2_with fail
    refine (ssame_c gs gt _ _ _ HS6.out HT6.out true (decide_eq_true rfl)).mono ?_; rintro e w7 ⟨rfl, hb7⟩
    have hb07 := hb06.trans (hb7.mono hb06.size)
    go_wp2_with fail
    refine (swakes_c _).mono ?_; rintro e w8 ⟨rfl, hb8⟩
    go_wp2
    go_ret
    exact ⟨rfl, hb07.trans (hb8.mono hb07.size)⟩

theorem lawWalk : LawWalk Try.checked 9 Try.f9 := by
  intro H enc W base args ds p hval hA hsz
  rw [Try.params9] at hA hval
  obtain ⟨v0, vs0, d0, ds0, p0, q0, hargs, rfl, rfl, h0, r0⟩ := trodAll_cons hA
  obtain ⟨v1, vs1, d1, ds1, p1, q1, rfl, rfl, rfl, h1, r1⟩ := trodAll_cons r0
  obtain ⟨rfl, rfl, rfl⟩ := trodAll_nil r1
  obtain rfl : args = #[v0, v1] := by cases args; simp_all
  obtain ⟨a0, rfl, rfl, rfl, w0⟩ := open_int Try.underlying3 (hval 0 3 v0 rfl rfl) h0
  obtain ⟨a1, n1, c1, xs1, rfl, hnc1, hcm1, hr1, hx1⟩ := open_int_slice Try.underlying47 Try.underlying3 (by kernel_rfl) (hval 1 47 v1 rfl rfl) h1
  exact walk a0 a1 n1 c1 xs1 W (I64.of_wf w0) hr1 (Nat.le_trans hnc1 hcm1) hx1

theorem lifted (os : Os) (started : os.Started) (H : Type) (enc : TypeId × Value → H) :
    ReturnsInHanded {} Try.checked os 9 .any (Rows.storePutsSpec.pre6 enc Try.prog Try.f9 Rows.storePutsRow.domain false) (Rows.storePutsSpec.post enc Try.prog Try.f9 false true false false) :=
  law_lift (C := Try.checked) (s := Rows.storePutsSpec) (tb := 4) (by kernel_rfl) started (by kernel_rfl) Try.func9
    (ChangeSpec.witness6 (enc := enc) (C := Try.checked) false ⟨#[], #[.int .i64 0, .slice none 0 0], []⟩ 8 (by kernel_rfl) (by kernel_rfl) (by kernel_rfl) (by kernel_rfl))
    rfl (fun H ds h => by
      match ds, h with
      | [d0, d1], _ => rfl) (by kernel_rfl) (by kernel_rfl) (by kernel_rfl) Try.underlying4 lawWalk

theorem over : Rows.storePutsRow.holds Try.pinned (OpenSpec.ofChange Rows.storePutsSpec) :=
  OpenClaim.holds_of_wide 9 Try.f9 rfl rfl rfl rfl rfl rfl rfl ⟨rfl, rfl, rfl, rfl, rfl⟩ rfl rfl rfl rfl rfl (by kernel_rfl) Try.func9 (by kernel_rfl)
    (of_decide_eq_true (by kernel_rfl)) (by unfold Func.isWrapper; first | (rw [if_pos (by decide +kernel)]; kernel_rfl) | (rw [if_neg (by decide +kernel)]; exact ⟨rfl, rfl⟩))
    (fun os started H enc _ => lifted os started H enc)

/-- The statement. -/
theorem proved : Rows.StorePutsSaid := over
#print axioms proved

end Go.Proofs.Ytghaahagacffiaa.StorePuts
