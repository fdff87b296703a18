/- StoreAdds: for every key and every list of values the law returns true: what is added together does not ask for the order. No condition. -/
import Derived.Test.YtghaahagacffiaaStoreW
import Derived.Test.YtghaahagacffiaaStoreO
import Derived.Test.YtghaahagacffiaaRows
import Derived.Deep.DeepCutAuto
import Derived.Deep.CutBlock
namespace Go.Proofs.Ytghaahagacffiaa.StoreAdds
open Go.RowKit Go.ChangeShapes Go.WideShapes Go.ChangeAt
set_option linter.unusedVariables false

def f (x : Int) : Int := x % 2001 - 1000
def sumTo (xs : List Int) (k : Nat) : Int := ((xs.take k).map f).sum
theorem f_bd (x : Int) : -1000 ≤ f x ∧ f x ≤ 1000 := by unfold f; omega
theorem sumTo_succ (xs : List Int) (k : Nat) (h : k < xs.length) : sumTo xs (k + 1) = sumTo xs k + f xs[k] := by
  unfold sumTo
  rw [List.take_succ_eq_append_getElem h]
  simp only [List.map_append, List.sum_append, List.map_cons, List.map_nil, List.sum_cons, List.sum_nil, Int.add_zero]
theorem sumTo_bd (xs : List Int) : ∀ k : Nat, -1000 * (k : Int) ≤ sumTo xs k ∧ sumTo xs k ≤ 1000 * (k : Int)
  | 0 => by simp [sumTo]
  | k + 1 => by
    have ih := sumTo_bd xs k
    by_cases h : k < xs.length
    · rw [sumTo_succ xs k h]
      have := f_bd xs[k]
      omega
    · unfold sumTo at ih ⊢
      rw [List.take_of_length_le (by omega)] at ih ⊢
      omega
theorem sum_rev : ∀ l : List Int, l.reverse.sum = l.sum
  | [] => rfl
  | x :: l => by
    rw [List.reverse_cons, List.sum_append, sum_rev l]
    simp only [List.sum_cons, List.sum_nil]
    omega
theorem sumTo_rev (xs : List Int) : sumTo xs.reverse xs.length = sumTo xs xs.length := by
  unfold sumTo
  rw [List.take_of_length_le (by simp), List.take_of_length_le (Nat.le_refl _), List.map_reverse, sum_rev]

def Cut (w wx : World) (gs gt j k : Nat) (xs : List Int) (v : Value) : Prop :=
  v = .int .i64 (sumTo xs k) ∧ Store wx gs (one j (decide (0 < k), sumTo xs k)) ∧ Store wx gt (one j (decide (0 < k), sumTo xs.reverse k)) ∧ Below w.heap.size w wx
def Rel (w wr : World) (gs gt j n : Nat) (xs : List Int) (v i : Value) : Prop := ∃ k : Nat, k ≤ n ∧ i = .int .i64 k ∧ Cut w wr gs gt j k xs v

set_option maxRecDepth 100000 in
set_option maxHeartbeats 1600000 in
theorem walk (key : Int) (a : Option Addr) (n c : Nat) (xs : List Int) (w : World) (hk : I64 key) (hr : IntRow w a n xs) (hm : n ≤ maxLen) (hx : ∀ x ∈ xs, I64 x) :
    Calls Try.prog 8 #[.int .i64 key, .slice a n c] w fun e w' => e = .returned (.bool true) ∧ Below w.heap.size w w' := by
  unfold maxLen at hm
  have hR := Lib.hid hr
  have hX := Lib.hid hx
  have HL := Lib.hid hr.1
  clear hr hx
  go_enter Try.func8, Try.ntmps8
  go_wp2_with fail
  refine (within_q key 64 _ hk (by omega) (by omega)).mono ?_; rintro e w' ⟨q', rfl, hq, hq0, hq4, rfl⟩
  obtain ⟨j, rfl⟩ := Int.eq_ofNat_of_zero_le hq0
  have hj : j < 64 := by omega
  have ik : I64 (j : Int) := I64.of (by omega) (by omega)
  clear hq
  go_wp2_with fail
  refine (new_c _).mono ?_; rintro e w1 ⟨gs, rfl, s1, hg1, hb1⟩
  have S1 := Lib.hid s1
  have z1 := hb1.size
  clear s1
  go_wp2_with fail
  refine (new_c _).mono ?_; rintro e w2 ⟨gt, rfl, t2, hg2, hb2⟩
  have T2 := Lib.hid (show Store w2 gt (one j (false, 0)) by rw [one_zero hj]; exact t2)
  have S2 := Lib.hid (show Store w2 gs (one j (false, 0)) by rw [one_zero hj]; exact S1.out.below hb2)
  have l1 := S1.out.lt
  have z2 := hb2.size
  have hb02 : Below w.heap.size w w2 := hb1.trans (hb2.mono z1)
  clear t2 hb1 hb2 S1
  by_cases h50 : 50 < n
  · go_wp2_with fail
    refine (swakes_c _).mono ?_; rintro e w8 ⟨rfl, hb8⟩
    go_wp2
    go_ret
    exact ⟨rfl, hb02.trans (hb8.mono hb02.size)⟩
  · go_upto_block 0 with fail
    go_cut [7] (fun s7 wx => Cut w wx gs gt j n xs s7)
    case first =>
      go_wp2_with fail
      go_loopw [7, 39] (fun v i wr => Rel w wr gs gt j n xs v i) (fun _ i _ => n - (intOf i).toNat)
      case atStart => exact ⟨0, by omega, rfl, rfl, S2.out, T2.out, hb02⟩
      case round =>
        obtain ⟨k, hkn, rfl, rfl, hS, hT, hb⟩ := hrel
        have HS := Lib.hid hS
        have HT := Lib.hid hT
        have hwr := hb.size
        have HB := Lib.hid hb
        clear hS hT hb
        by_cases hlt : k < n
        · obtain ⟨hlen, hrow⟩ := hR.out
          obtain ⟨b, off, rfl, hbl, hcell⟩ := hrow (by omega)
          have hkl : k < xs.length := by omega
          have hkl' : n - 1 - k < xs.length := by omega
          have c0 : wr.cell? ⟨b, off + k, none⟩ = some (.int .i64 xs[k]) := by
            rw [HB.out.cell (p := ⟨b, off + k, none⟩) hbl, hcell k hlt]; simp [List.getD, hkl]
          have c1 : wr.cell? ⟨b, off + (n - 1 - k), none⟩ = some (.int .i64 xs[n - 1 - k]) := by
            rw [HB.out.cell (p := ⟨b, off + (n - 1 - k), none⟩) hbl, hcell _ (by omega)]; simp [List.getD, hkl']
          have x0 := hX.out xs[k] (List.getElem_mem hkl)
          have x1 := hX.out xs[n - 1 - k] (List.getElem_mem hkl')
          have s0 := sumTo_succ xs k hkl
          have hrl : k < xs.reverse.length := by simpa using hkl
          have s1 := sumTo_succ xs.reverse k hrl
          have hrev : xs.reverse[k] = xs[n - 1 - k] := by
            rw [List.getElem_reverse]
            congr 1
            omega
          rw [hrev] at s1
          obtain ⟨x, hx⟩ : ∃ x, x = xs[k] := ⟨_, rfl⟩
          obtain ⟨y, hy⟩ : ∃ y, y = xs[n - 1 - k] := ⟨_, rfl⟩
          rw [← hx] at c0 x0 s0
          rw [← hy] at c1 x1 s1
          have b0 := sumTo_bd xs k
          have b1 := sumTo_bd xs.reverse k
          obtain ⟨P, hP⟩ : ∃ P, P = sumTo xs k := ⟨_, rfl⟩
          obtain ⟨Q, hQ⟩ : ∃ Q, Q = sumTo xs.reverse k := ⟨_, rfl⟩
          rw [← hP] at b0 s0 HS ⊢
          rw [← hQ] at b1 s1 HT
          have HS0 := Lib.hid s0
          have HS1 := Lib.hid s1
          have i0 : (0 : Int) ≤ k := by omega
          have i1 : (k : Int) < n := by omega
          have i2 : (0 : Int) ≤ (n : Int) - 1 - k := by omega
          have i3 : (n : Int) - 1 - k < n := by omega
          have i4 : ((n : Int) - 1 - k).toNat = n - 1 - k := by omega
          have fx := f_bd x
          have fy := f_bd y
          have HSM := Lib.hid (one_small (b := decide (0 < k)) j (show -2147483648 < P ∧ P < 2147483648 by omega))
          have HSM2 := Lib.hid (one_small (b := decide (0 < k)) j (show -2147483648 < Q ∧ Q < 2147483648 by omega))
          obtain ⟨bk, hbk⟩ : ∃ bk, bk = decide (0 < k) := ⟨_, rfl⟩
          rw [← hbk] at HS HT HSM HSM2
          clear hlen hrow hcell hx hy hP hQ s0 s1 hrev hrl hbk
          go_wp2_with fail
          refine (within_q x 2001 _ x0 (by omega) (by omega)).mono ?_; rintro e w' ⟨v, rfl, hv, v0, v1, rfl⟩
          have hfx : f x = v - 1000 := by unfold f; rw [← hv.out]
          rw [hfx] at HS0 fx
          have P1 := Lib.hid (add_one hj bk P (v - 1000) (by omega) (by omega))
          have P2 := Lib.hid (add_oneR hj bk P (v - 1000) (by omega) (by omega))
          have e1 : (P + (v - 1000) != P + (v - 1000)) = false := by simp
          clear hv hfx
          go_wp2_with fail
          refine (apply_c gs _ 3 j (v - 1000) _ HS.out HSM.out (I64.of (by omega) (by omega)) ik (I64.of (by omega) (by omega)) _ P2.out _ P1.out).mono ?_; rintro e w3 ⟨rfl, hS3, o3⟩
          have HS3 := Lib.hid hS3
          have d1 := o3.cell_ (p := ⟨b, off + (n - 1 - k), none⟩) c1 (by simp; omega)
          have HT3 := Lib.hid (HT.out.only o3 (by simp; omega))
          have hb3 : Below w.heap.size w w3 := o3.below HB.out hwr (by simpa using hg1)
          have HB3 := Lib.hid hb3
          have z3 := hb3.size
          have HLT := Lib.hid HS.out.lt
          have hwl := o3.size
          clear hS3 o3 hb3 c0 c1
          go_wp2_with fail
          refine (within_q y 2001 _ x1 (by omega) (by omega)).mono ?_; rintro e w' ⟨v', rfl, hv, v2, v3, rfl⟩
          have hfy : f y = v' - 1000 := by unfold f; rw [← hv.out]
          rw [hfy] at HS1 fy
          have P3 := Lib.hid (add_one hj bk Q (v' - 1000) (by omega) (by omega))
          clear hv hfy
          go_wp2_with fail
          refine (apply_c gt _ 3 j (v' - 1000) _ HT3.out HSM2.out (I64.of (by omega) (by omega)) ik (I64.of (by omega) (by omega)) _ rfl _ P3.out).mono ?_; rintro e w4 ⟨rfl, hT4, o4⟩
          have HT4 := Lib.hid hT4
          have HS4 := Lib.hid (HS3.out.only o4 (by simp; omega))
          have hb4 : Below w.heap.size w w4 := o4.below HB3.out z3 (by simp; omega)
          have HB4 := Lib.hid hb4
          clear hT4 o4 hb4 d1
          go_wp2_with fail
          go_roundw
          case rel => exact ⟨k + 1, by omega, by go_num, by rw [HS0.out], by rw [HS0.out, decide_eq_true (show 0 < k + 1 by omega)]; exact HS4.out, by rw [HS1.out, decide_eq_true (show 0 < k + 1 by omega)]; exact HT4.out, HB4.out⟩
          case measure => simp [intOf]; omega
        · have hkn' : k = n := by omega
          subst hkn'
          go_wp2_with fail
          go_meet
          exact ⟨rfl, HS.out, HT.out, HB.out⟩
    case rest =>
      obtain ⟨rfl, hS, hT, hb⟩ := hcut
      have hrev : sumTo xs.reverse n = sumTo xs n := by rw [← HL.out]; exact sumTo_rev xs
      rw [hrev] at hT
      obtain ⟨P, hP⟩ : ∃ P, P = sumTo xs n := ⟨_, rfl⟩
      rw [← hP] at hS hT ⊢
      have HS := Lib.hid hS
      have HT := Lib.hid hT
      have hz := hb.size
      have G1 := Lib.hid (show sgetB (one j (decide (0 < n), P)) j = decide (0 < n) by
        unfold sgetB
        rw [Int.toNat_natCast, one_get hj, if_pos rfl, decide_eq_true (show 0 ≤ (j : Int) ∧ (j : Int) < 64 by omega)]
        rfl)
      have hP0 : ¬ 0 < n → P = 0 := fun h => by
        have : n = 0 := by omega
        subst this
        rw [hP]
        rfl
      have G2 := Lib.hid (show sgetR (one j (decide (0 < n), P)) j = P by
        unfold sgetR
        rw [G1.out, Int.toNat_natCast, one_get hj, if_pos rfl]
        by_cases h : 0 < n
        · rw [if_pos (decide_eq_true h)]
        · rw [if_neg (by simpa using h), hP0 h])
      have e1 : (P == P) = true := beq_self_eq_true P
      clear hS hT hrev hP hP0
      by_cases hn0 : 0 < n
      all_goals
        first
          | (have q0 := decide_eq_true hn0; rw [q0] at HS HT G1 G2; clear q0)
          | (have q0 := decide_eq_false hn0; rw [q0] at HS HT G1 G2; clear q0)
        go_wp2_with fail
        refine (sget_c gs _ j _ HS.out ik _ G1.out P G2.out).mono ?_; rintro e w' ⟨rfl, rfl⟩
        go_wp2_with fail
        refine (ssame_c gs gt _ _ _ HS.out HT.out true (decide_eq_true rfl)).mono ?_; rintro e w7 ⟨rfl, hb7⟩
        have hb07 := hb.trans (hb7.mono hz)
        go_wp2_with fail
        refine (swakes_c _).mono ?_; rintro e w8 ⟨rfl, hb8⟩
        go_wp2
        go_ret
        exact ⟨rfl, hb07.trans (hb8.mono hb07.size)⟩

theorem lawWalk : LawWalk Try.checked 8 Try.f8 := by
  intro H enc W base args ds p hval hA hsz
  rw [Try.params8] at hA hval
  obtain ⟨v0, vs0, d0, ds0, p0, q0, hargs, rfl, rfl, h0, r0⟩ := trodAll_cons hA
  obtain ⟨v1, vs1, d1, ds1, p1, q1, rfl, rfl, rfl, h1, r1⟩ := trodAll_cons r0
  obtain ⟨rfl, rfl, rfl⟩ := trodAll_nil r1
  obtain rfl : args = #[v0, v1] := by cases args; simp_all
  obtain ⟨a0, rfl, rfl, rfl, w0⟩ := open_int Try.underlying3 (hval 0 3 v0 rfl rfl) h0
  obtain ⟨a1, n1, c1, xs1, rfl, hnc1, hcm1, hr1, hx1⟩ := open_int_slice Try.underlying47 Try.underlying3 (by kernel_rfl) (hval 1 47 v1 rfl rfl) h1
  exact walk a0 a1 n1 c1 xs1 W (I64.of_wf w0) hr1 (Nat.le_trans hnc1 hcm1) hx1

theorem lifted (os : Os) (started : os.Started) (H : Type) (enc : TypeId × Value → H) :
    ReturnsInHanded {} Try.checked os 8 .any (Rows.storeAddsSpec.pre6 enc Try.prog Try.f8 Rows.storeAddsRow.domain false) (Rows.storeAddsSpec.post enc Try.prog Try.f8 false true false false) :=
  law_lift (C := Try.checked) (s := Rows.storeAddsSpec) (tb := 4) (by kernel_rfl) started (by kernel_rfl) Try.func8
    (ChangeSpec.witness6 (enc := enc) (C := Try.checked) false ⟨#[], #[.int .i64 0, .slice none 0 0], []⟩ 8 (by kernel_rfl) (by kernel_rfl) (by kernel_rfl) (by kernel_rfl))
    rfl (fun H ds h => by
      match ds, h with
      | [d0, d1], _ => rfl) (by kernel_rfl) (by kernel_rfl) (by kernel_rfl) Try.underlying4 lawWalk

theorem over : Rows.storeAddsRow.holds Try.pinned (OpenSpec.ofChange Rows.storeAddsSpec) :=
  OpenClaim.holds_of_wide 8 Try.f8 rfl rfl rfl rfl rfl rfl rfl ⟨rfl, rfl, rfl, rfl, rfl⟩ rfl rfl rfl rfl rfl (by kernel_rfl) Try.func8 (by kernel_rfl)
    (of_decide_eq_true (by kernel_rfl)) (by unfold Func.isWrapper; first | (rw [if_pos (by decide +kernel)]; kernel_rfl) | (rw [if_neg (by decide +kernel)]; exact ⟨rfl, rfl⟩))
    (fun os started H enc _ => lifted os started H enc)

/-- The statement. -/
theorem proved : Rows.StoreAddsSaid := over
#print axioms proved

end Go.Proofs.Ytghaahagacffiaa.StoreAdds
