/- LinkOrder: for all numbers the law returns true. No condition. -/
import Derived.Test.YtjdcjofogmplcaaLinkF
import Derived.Test.YtjdcjofogmplcaaRows
import Derived.Deep.OwnRows
import Derived.Deep.DeepCutAuto
import Derived.Deep.CutBlock
namespace Go.Proofs.Ytjdcjofogmplcaa.LinkOrder
open Go.RowKit Go.ChangeShapes Go.WideShapes Go.ChangeAt
set_option linter.unusedVariables false

/-- The i-th message. -/
def mb (i : Nat) : List Int := [((i % 256 : Nat) : Int), ((i / 256 : Nat) : Int)]
def ord (m : Nat) : List (List Int) := (List.range m).map mb
theorem ord_len (m : Nat) : (ord m).length = m := by simp [ord]
theorem ord_succ (m : Nat) : ord m ++ [mb m] = ord (m + 1) := by simp [ord, List.range_succ]
theorem ord_at (m k : Nat) (h : k < m) : ((ord m).drop k)[0]? = some (mb k) := by simp [ord, h]
theorem madeCells_u8 (n : Nat) : madeCells #[Value.int .u8 0] n = (brow (List.replicate n 0)).toArray := by
  apply Array.toList_inj.1
  rw [toList_madeCells_one]
  simp [brow]
theorem mk_bytes (n : Nat) (hn : n ≤ 70000) (i : Int) (hi : i = n) :
    ∃ Z : Array Value, Z = (brow (List.replicate n 0)).toArray ∧ ∀ W : World, (Instr.makeSlice 33 (.int .i64 i) (.int .i64 i)).run Try.prog W = .ok (.slice (some ⟨W.heap.size, 0, none⟩) n n) (W.alloc (.cells Z 5)) := by
  subst hi
  refine ⟨_, rfl, fun W => ?_⟩
  rw [← madeCells_u8]
  exact run_make_row' (P := Try.prog) 33 5 _ 1 Try.underlying33 info_u8 rfl .i64 .i64 n (by omega) (by omega) W
theorem zero_row (w : World) (n : Nat) (Z : Array Value) (hZ : Z = (brow (List.replicate n 0)).toArray) : VRow (w.alloc (.cells Z 5)) (some ⟨w.heap.size, 0, none⟩) n 1 (brow (List.replicate n 0)) := by
  have := own_bytes w (List.replicate n 0)
  rw [List.length_replicate] at this
  rw [hZ]
  exact this
theorem own_two (w : World) (x y : Int) : VRow (w.alloc (.cells #[.int .u8 x, .int .u8 y] 5)) (some ⟨w.heap.size, 0, none⟩) 2 1 (brow [x, y]) := own_bytes w [x, y]

set_option maxRecDepth 100000 in
set_option maxHeartbeats 3200000 in
theorem walk (a0 a1 : Int) (w : World) (h0 : I64 a0) (h1 : I64 a1) :
    Calls Try.prog 9 #[.int .i64 a0, .int .i64 a1] w fun e w' => e = .returned (.bool true) ∧ Below w.heap.size w w' := by
  obtain ⟨n1, hn1⟩ : ∃ n : Nat, n = 65537 := ⟨_, rfl⟩
  obtain ⟨n2, hn2⟩ : ∃ n : Nat, n = 65536 := ⟨_, rfl⟩
  obtain ⟨Z1, hZ1, mk1⟩ := mk_bytes n1 (by omega) 65537 (by omega)
  obtain ⟨Z2, hZ2, mk2⟩ := mk_bytes n2 (by omega) 65536 (by omega)
  have HZ1 := Lib.hid hZ1
  have HZ2 := Lib.hid hZ2
  have N1 := Lib.hid hn1
  have N2 := Lib.hid hn2
  clear hZ1 hZ2 hn1 hn2
  go_enter Try.func9, Try.ntmps9
  go_wp2_with fail
  refine (within_q a1 256 _ h1 (by omega) (by omega)).mono ?_; rintro e w' ⟨n0, rfl, _, n00, n01, rfl⟩
  obtain ⟨r, hn⟩ := Int.eq_ofNat_of_zero_le (show 0 ≤ 1 + n0 by omega)
  have rl : 1 ≤ r ∧ r ≤ 256 := by omega
  have hw1 : IntKind.i64.wrap (1 + n0) = r := by rw [IntWalk.i64_in _ (by omega)]; exact hn
  have hw2 : IntKind.i64.wrap (2 * (r : Int)) = 2 * r := by rw [IntWalk.i64_in _ (by omega)]
  have hw3 : IntKind.i64.wrap (2 * (r : Int) + 1) = 2 * r + 1 := by rw [IntWalk.i64_in _ (by omega)]
  clear hn
  go_wp2_with fail
  refine (within_q a0 (2 * r + 1) _ h0 (by omega) (by omega)).mono ?_; rintro e w' ⟨n', rfl, _, k0, k1, rfl⟩
  obtain ⟨n, rfl⟩ := Int.eq_ofNat_of_zero_le k0
  have nl : n ≤ 2 * r := by omega
  clear hw1 hw2 hw3
  have r1 : (1 : Int) ≤ r := by omega
  have r2 : (r : Int) ≤ 256 := by omega
  go_wp2_with fail
  refine (lq_new_ok r _ r1 r2).mono ?_; rintro e w1 ⟨q, rfl, hq1, hg1, hb1⟩
  have L1 := Lib.hid (show Lk w w1 q r 0 [] from ⟨q, [], hq1, rfl, hg1, hg1, hb1⟩)
  clear hq1 hg1 hb1
  go_upto_block 0 with fail
  go_cut [7] (fun s7 wx => Lk w wx q r ((n - r : Nat) : Int) (ord (min n r)))
  case first =>
    go_wp2_with fail
    go_loopw [7] (fun x wr => ∃ k : Nat, k ≤ n ∧ x = .int .i64 k ∧ Lk w wr q r ((k - r : Nat) : Int) (ord (min k r))) (fun x _ => n - (intOf x).toNat)
    case atStart => exact ⟨0, by omega, rfl, by rw [Nat.zero_sub, Nat.zero_min]; exact L1.out⟩
    case round =>
      obtain ⟨k, hk, rfl, hl⟩ := hrel
      have HL := Lib.hid hl
      clear hl
      by_cases hlt : k < n
      · have c1 : (k : Int) < n := by omega
        have hx : IntKind.u8.wrap (k : Int) = ((k % 256 : Nat) : Int) := by rw [IntKind.wrap_u8]; omega
        have hd : (k : Int).tdiv 256 = ((k / 256 : Nat) : Int) := by rw [Int.tdiv_eq_ediv_of_nonneg (by omega)]; omega
        obtain ⟨d, hdd⟩ : ∃ d : Nat, d = k / 256 := ⟨_, rfl⟩
        obtain ⟨m, hmm⟩ : ∃ m : Nat, m = k % 256 := ⟨_, rfl⟩
        have hd8 : IntKind.u8.wrap (d : Int) = (d : Int) := IntWalk.u8_in _ (by omega)
        have hMB := Lib.hid (show [(m : Int), (d : Int)] = mb k by rw [hdd, hmm]; rfl)
        rw [← hdd] at hd
        rw [← hmm] at hx
        have d2 : d ≤ 2 := by omega
        clear hdd hmm
        by_cases hkr : k < r
        · have c2 : (k : Int) < r := by omega
          go_wp2_with fail
          refine (lk_push w q r _ _ _ 2 2 [(m : Int), (d : Int)] _ (HL.out.alloc _) ⟨r1, r2⟩ (own_two wr m d) (by omega) (by rw [ord_len]; omega) (ord (min (k + 1) r)) (by rw [hMB.out, show min k r = k by omega, show min (k + 1) r = k + 1 by omega]; exact ord_succ k)).mono ?_; rintro e w2 ⟨rfl, l2, _⟩
          have L2 := Lib.hid (show Lk w w2 q r ((k + 1 - r : Nat) : Int) (ord (min (k + 1) r)) by rw [show k + 1 - r = k - r by omega]; exact l2)
          clear l2
          go_wp2_with fail
          go_roundw
          case rel => exact ⟨k + 1, by omega, by go_num, L2.out⟩
          case measure => simp [intOf]; omega
        · have c2 : ¬ (k : Int) < r := by omega
          go_wp2_with fail
          refine (lk_push_no w q r _ _ _ 2 2 _ (HL.out.alloc _) ⟨r1, r2⟩ (by omega) (by omega) (.inl (by rw [ord_len]; omega)) ((k + 1 - r : Nat) : Int) (by omega)).mono ?_; rintro e w2 ⟨rfl, l2, _⟩
          have L2 := Lib.hid (show Lk w w2 q r ((k + 1 - r : Nat) : Int) (ord (min (k + 1) r)) by rw [show min (k + 1) r = min k r by omega]; exact l2)
          clear l2
          go_wp2_with fail
          go_roundw
          case rel => exact ⟨k + 1, by omega, by go_num, L2.out⟩
          case measure => simp [intOf]; omega
      · have hkn : k = n := by omega
        subst hkn
        go_wp2_with fail
        go_meet
        exact HL.out
  case rest =>
    have HC := Lib.hid hcut
    clear hcut L1
    obtain ⟨M, hM⟩ : ∃ M, M = min n r := ⟨_, rfl⟩
    obtain ⟨lo, hlo⟩ : ∃ lo : Nat, lo = n - r := ⟨_, rfl⟩
    rw [← hM, ← hlo] at HC
    have HM := Lib.hid hM
    have HLO := Lib.hid hlo
    clear hM hlo
    go_upto_block 2 with fail
    go_cut [8] (fun s8 wx => Lk w wx q r (lo : Int) [])
    case first =>
      go_wp2_with fail
      go_loopw [8] (fun x wr => ∃ k : Nat, k ≤ M ∧ x = .int .i64 k ∧ Lk w wr q r (lo : Int) ((ord M).drop k)) (fun x _ => M - (intOf x).toNat)
      case atStart => exact ⟨0, by omega, rfl, by simpa using HC.out⟩
      case round =>
        obtain ⟨k, hk, rfl, hl⟩ := hrel
        have HL := Lib.hid hl
        clear hl HC
        have hmM := HM.out
        by_cases hlt : k < M
        · have c1 : (k : Int) < n := by omega
          have c2 : (k : Int) < r := by omega
          have hx : IntKind.u8.wrap (k : Int) = ((k % 256 : Nat) : Int) := by rw [IntKind.wrap_u8]; omega
          have hd : (k : Int).tdiv 256 = ((k / 256 : Nat) : Int) := by rw [Int.tdiv_eq_ediv_of_nonneg (by omega)]; omega
          obtain ⟨d, hdd⟩ : ∃ d : Nat, d = k / 256 := ⟨_, rfl⟩
          obtain ⟨m, hmm⟩ : ∃ m : Nat, m = k % 256 := ⟨_, rfl⟩
          have hd8 : IntKind.u8.wrap (d : Int) = (d : Int) := IntWalk.u8_in _ (by omega)
          have hMB := Lib.hid (show mb k = [(m : Int), (d : Int)] by rw [hdd, hmm]; rfl)
          rw [← hdd] at hd
          rw [← hmm] at hx
          have d2 : d ≤ 2 := by omega
          clear hdd hmm hmM
          by_cases hrn : r < n
          all_goals
            go_wp2_with fail
            refine (lk_take w q r lo ((ord M).drop k) 0 [(m : Int), (d : Int)] _ HL.out (by rw [← hMB.out]; exact ord_at M k hlt) 0 rfl ((ord M).drop (k + 1)) (by rw [List.take_zero, List.nil_append, List.drop_drop])).mono ?_; rintro e w2 ⟨a3, c3, rfl, T3, L3, _⟩
            have HL3 := Lib.hid L3
            have HT3 := Lib.hid T3
            clear T3 L3
            go_wp2_with fail
            refine (same_byte_c a3 _ c3 _ 2 2 [(m : Int), (d : Int)] _ (HT3.out.alloc _).vrow (own_two w2 m d) (by simp)).mono ?_; rintro e w4 ⟨rfl, b4⟩
            have HL4 := Lib.hid ((HL3.out.alloc (.cells #[.int .u8 (m : Int), .int .u8 (d : Int)] 5)).below b4)
            clear b4
            go_wp2_with fail
            go_roundw
            case rel => exact ⟨k + 1, by omega, by go_num, HL4.out⟩
            case measure => simp [intOf]; omega
        · have hkM : k = M := by omega
          subst hkM
          have L5 := Lib.hid (show Lk w wr q r (lo : Int) [] by have := HL.out; rwa [List.drop_of_length_le (by rw [ord_len]; exact Nat.le_refl _)] at this)
          by_cases hrn : r < n
          all_goals
            go_wp2_with fail
            go_meet
            exact L5.out
    case rest =>
      have HQ := Lib.hid hcut
      clear hcut HC
      have hlo := HLO.out
      have hw1 : IntKind.i64.wrap ((n : Int) - r) = (n : Int) - r := IntWalk.i64_in _ (by omega)
      have hw2 : IntKind.i64.wrap ((lo : Int) + 1) = (lo : Int) + 1 := IntWalk.i64_in _ (by omega)
      have lom : lo ≤ 1000 := by omega
      have m1 : n1 ≤ 70000 ∧ 65536 < n1 := by have := N1.out; omega
      have m2 : n2 ≤ 65536 := by have := N2.out; omega
      have V1 : Hid (∀ W : World, VRow (W.alloc (.cells Z1 5)) (some ⟨W.heap.size, 0, none⟩) n1 1 (brow (List.replicate n1 0))) := Lib.hid fun W => zero_row W n1 Z1 HZ1.out
      have V2 : Hid (∀ W : World, VRow (W.alloc (.cells Z2 5)) (some ⟨W.heap.size, 0, none⟩) n2 1 (brow (List.replicate n2 0))) := Lib.hid fun W => zero_row W n2 Z2 HZ2.out
      by_cases hrn : r < n
      · have hnr : (n : Int) - r = lo := by omega
        rw [hnr] at hw1
        have l0 : ¬ (lo : Int) < 0 := by omega
        have l1 : (0 : Int) ≤ lo := by omega
        clear hlo
        go_wp2_with fail
        refine (lk_len w q r lo [] _ HQ.out 0 rfl).mono ?_; rintro e w2 ⟨rfl, rfl⟩
        go_wp2_with fail
        refine (lk_lost w q r lo [] _ HQ.out).mono ?_; rintro e w2 ⟨rfl, rfl⟩
        go_wp2_with fail
        refine (lk_push_no w q r lo [] _ n1 n1 _ (HQ.out.alloc _) ⟨r1, r2⟩ (by omega) (by omega) (.inr m1.2) ((lo : Int) + 1) rfl).mono ?_; rintro e w3 ⟨rfl, l3, _⟩
        have HL3 := Lib.hid l3
        clear l3
        go_wp2_with fail
        refine (lk_lost w q r ((lo : Int) + 1) [] _ HL3.out).mono ?_; rintro e w4 ⟨rfl, rfl⟩
        go_wp2_with fail
        refine (lk_push w q r ((lo : Int) + 1) [] _ n2 n2 (List.replicate n2 0) _ (HL3.out.alloc _) ⟨r1, r2⟩ (V2.out _) m2 (by have := rl.1; simp; omega) _ rfl).mono ?_; rintro e w5 ⟨rfl, l5, _⟩
        have HL5 := Lib.hid l5
        clear l5
        go_wp2_with fail
        refine (lkwakes_c _).mono ?_; rintro e w12 ⟨rfl, hb12⟩
        go_wp2_with fail
        go_ret
        exact ⟨rfl, HL5.out.b.trans (hb12.mono HL5.out.b.size)⟩
      · have hz : lo = 0 := by omega
        subst hz
        have l0 : (n : Int) - r ≤ 0 := by omega
        have l1 : ¬ (0 : Int) < (n : Int) - r := by omega
        have l2 : (if (n : Int) - r < 0 then (0 : Int) else (n : Int) - r) = 0 := by split <;> omega
        clear hlo
        go_wp2_with fail
        refine (lk_len w q r ((0 : Nat) : Int) [] _ HQ.out 0 rfl).mono ?_; rintro e w2 ⟨rfl, rfl⟩
        go_wp2_with fail
        refine (lk_lost w q r ((0 : Nat) : Int) [] _ HQ.out).mono ?_; rintro e w2 ⟨rfl, rfl⟩
        go_wp2_with fail
        refine (lk_push_no w q r ((0 : Nat) : Int) [] _ n1 n1 _ (HQ.out.alloc _) ⟨r1, r2⟩ (by omega) (by omega) (.inr m1.2) (((0 : Nat) : Int) + 1) rfl).mono ?_; rintro e w3 ⟨rfl, l3, _⟩
        have HL3 := Lib.hid l3
        clear l3
        go_wp2_with fail
        refine (lk_lost w q r (((0 : Nat) : Int) + 1) [] _ HL3.out).mono ?_; rintro e w4 ⟨rfl, rfl⟩
        go_wp2_with fail
        refine (lk_push w q r (((0 : Nat) : Int) + 1) [] _ n2 n2 (List.replicate n2 0) _ (HL3.out.alloc _) ⟨r1, r2⟩ (V2.out _) m2 (by have := rl.1; simp; omega) _ rfl).mono ?_; rintro e w5 ⟨rfl, l5, _⟩
        have HL5 := Lib.hid l5
        clear l5
        go_wp2_with fail
        refine (lkwakes_c _).mono ?_; rintro e w12 ⟨rfl, hb12⟩
        go_wp2_with fail
        go_ret
        exact ⟨rfl, HL5.out.b.trans (hb12.mono HL5.out.b.size)⟩

set_option maxRecDepth 100000 in
theorem lawWalk : LawWalk Try.checked 9 Try.f9 := by
  intro H enc W base args ds p hval hA hsz
  rw [Try.params9] at hA hval
  obtain ⟨v0, vs0, d0, ds0, p0, q0, hargs, rfl, rfl, h0, r0⟩ := trodAll_cons hA
  obtain ⟨v1, vs1, d1, ds1, p1, q1, rfl, rfl, rfl, h1, r1⟩ := trodAll_cons r0
  obtain ⟨rfl, rfl, rfl⟩ := trodAll_nil r1
  obtain rfl : args = #[v0, v1] := by cases args; simp_all
  obtain ⟨a0, rfl, rfl, rfl, w0⟩ := open_int Try.underlying3 (hval 0 3 v0 rfl rfl) h0
  obtain ⟨a1, rfl, rfl, rfl, w1⟩ := open_int Try.underlying3 (hval 1 3 v1 rfl rfl) h1
  exact walk a0 a1 W (I64.of_wf w0) (I64.of_wf w1)

theorem lifted (os : Os) (started : os.Started) (H : Type) (enc : TypeId × Value → H) :
    ReturnsInHanded {} Try.checked os 9 .any (Rows.linkOrderSpec.pre6 enc Try.prog Try.f9 Rows.linkOrderRow.domain false) (Rows.linkOrderSpec.post enc Try.prog Try.f9 false true false false) :=
  law_lift (C := Try.checked) (s := Rows.linkOrderSpec) (tb := 4) (by kernel_rfl) started (by kernel_rfl) Try.func9
    (ChangeSpec.witness6 (enc := enc) (C := Try.checked) false ⟨#[], #[.int .i64 0, .int .i64 0], []⟩ 8 (by kernel_rfl) (by kernel_rfl) (by kernel_rfl) (by kernel_rfl))
    rfl (fun H ds h => by
      match ds, h with
      | [d0, d1], _ => rfl) (by kernel_rfl) (by kernel_rfl) (by kernel_rfl) Try.underlying4 lawWalk

theorem over : Rows.linkOrderRow.holds Try.pinned (OpenSpec.ofChange Rows.linkOrderSpec) :=
  OpenClaim.holds_of_wide 9 Try.f9 rfl rfl rfl rfl rfl rfl rfl ⟨rfl, rfl, rfl, rfl, rfl⟩ rfl rfl rfl rfl rfl (by kernel_rfl) Try.func9 (by kernel_rfl)
    (of_decide_eq_true (by kernel_rfl)) (by unfold Func.isWrapper; first | (rw [if_pos (by decide +kernel)]; kernel_rfl) | (rw [if_neg (by decide +kernel)]; exact ⟨rfl, rfl⟩))
    (fun os started H enc _ => lifted os started H enc)

/-- The statement. -/
theorem proved : Rows.LinkOrderSaid := over
#print axioms proved

end Go.Proofs.Ytjdcjofogmplcaa.LinkOrder
