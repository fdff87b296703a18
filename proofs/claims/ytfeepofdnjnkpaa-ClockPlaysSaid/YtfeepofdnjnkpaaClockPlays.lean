/- ClockPlays: for all scripts the law returns true. No condition. -/
import Derived.Test.YtfeepofdnjnkpaaClockE4
import Derived.Test.YtfeepofdnjnkpaaClockG
import Derived.Test.YtfeepofdnjnkpaaClockDl
import Derived.Test.YtfeepofdnjnkpaaClockDb
import Derived.Test.YtfeepofdnjnkpaaRows
import Derived.BigQuiet
namespace Go.Proofs.Ytfeepofdnjnkpaa
open Go.RowKit
set_option linter.unusedVariables false

theorem do_c (B gc gp : Nat) (now : Int) (L P : List (Int × Int)) (d id t : Int) (w : World) (hC : Clk w B gc now L) (hP : Pn w B gp now P) (M : Mt L P) (hnow : 0 ≤ now ∧ now ≤ 300) (hn : L.length ≤ 300) (xd : I64 d) (hi : I64 id) (xt : I64 t) :
    Calls Try.prog 38 #[.pointer (some ⟨gc, 0, none⟩), .pointer (some ⟨gp, 0, none⟩), .agg #[.int .i64 d, .int .i64 id, .int .i64 t]] w (DoPost B gc gp now L.length w) := by
  rcases (show d % 8 = 0 ∨ d % 8 = 1 ∨ d % 8 = 2 ∨ d % 8 = 3 ∨ d % 8 = 4 ∨ d % 8 = 5 ∨ d % 8 = 6 ∨ d % 8 = 7 by omega) with h | h | h | h | h | h | h | h
  · exact do_tick0 B gc gp now L P d id t w hC hP M hnow hn xd hi xt h
  · exact do_tick1 B gc gp now L P d id t w hC hP M hnow hn xd hi xt h
  · exact do_tick2 B gc gp now L P d id t w hC hP M hnow hn xd hi xt h
  · by_cases ht : 1 ≤ t ∧ t ≤ 1048576
    · exact do_put3 B gc gp now L P d id t w hC hP M hnow hn xd hi xt h ht
    · exact do_bad3 B gc gp now L P d id t w hC hP M hnow hn xd hi xt h (by omega)
  · by_cases ht : 1 ≤ t ∧ t ≤ 1048576
    · exact do_put4 B gc gp now L P d id t w hC hP M hnow hn xd hi xt h ht
    · exact do_bad4 B gc gp now L P d id t w hC hP M hnow hn xd hi xt h (by omega)
  · exact do_drop B gc gp now L P d id t w hC hP M hnow hn xd hi xt h
  · exact do_left B gc gp now L P d id t w hC hP M hnow hn xd hi xt h
  · exact do_due B gc gp now L P d id t w hC hP M hnow hn xd hi xt h

theorem Pn.low {w w' : World} {B B' gp : Nat} {now : Int} {P : List (Int × Int)} (h : Pn w B gp now P) (hB : B' ≤ B) : Pn w B' gp now P := ⟨h.ex, Nat.le_trans hB h.ge⟩
theorem flat3 {w : World} {a : Option Addr} {n : Nat} {g : Nat → Int} (h : Flat w a n 3 g) {k : Nat} (hk : k < n) : ∃ b off, a = some ⟨b, off, none⟩ ∧ b < w.heap.size ∧ w.cell? ⟨b, off + k * 3, none⟩ = some (.int .i64 (g (k * 3))) ∧
    w.cell? ⟨b, off + k * 3 + 1, none⟩ = some (.int .i64 (g (k * 3 + 1))) ∧ w.cell? ⟨b, off + k * 3 + 2, none⟩ = some (.int .i64 (g (k * 3 + 2))) := by
  obtain ⟨b, off, rfl, hlt, hc⟩ := h.2 (by omega)
  exact ⟨b, off, rfl, hlt, hc (k * 3) (by omega), by rw [Nat.add_assoc]; exact hc (k * 3 + 1) (by omega), by rw [Nat.add_assoc]; exact hc (k * 3 + 2) (by omega)⟩
end Go.Proofs.Ytfeepofdnjnkpaa
namespace Go.Proofs.Ytfeepofdnjnkpaa.ClockPlays
open Go.RowKit Go.ChangeShapes Go.WideShapes Go.ChangeAt
set_option linter.unusedVariables false

set_option maxRecDepth 100000 in
set_option maxHeartbeats 6400000 in
theorem walk (a0 : Option Addr) (n0 c0 : Nat) (g0 : Nat → Int) (a1 : Option Addr) (n1 c1 : Nat) (g1 : Nat → Int) (w : World) (hr0 : Flat w a0 n0 3 g0) (hm0 : n0 ≤ maxLen) (hr1 : Flat w a1 n1 3 g1) (hm1 : n1 ≤ maxLen) :
    Calls Try.prog 11 #[.slice a0 n0 c0, .slice a1 n1 c1] w fun e w' => e = .returned (.bool true) ∧ Below w.heap.size w w' := by
  have R0 := Lib.hid hr0
  have R1 := Lib.hid hr1
  have M0 := Lib.hid hm0
  have M1 := Lib.hid hm1
  unfold maxLen at hm0 hm1
  clear hr0 hr1
  go_enter Try.func11, Try.ntmps11
  go_wp2_with fail
  refine (clock_new_c _).mono ?_; rintro e w1 ⟨gc, rfl, hc1, hb1⟩
  have C1 := Lib.hid hc1
  have B1 := Lib.hid hb1
  clear hc1 hb1
  have P2 := Lib.hid (show Pn (w1.alloc (.cells #[.int .i64 0, .slice none 0 0, .slice none 0 0] 70)) w.heap.size w1.heap.size 0 [] from ⟨⟨none, 0, none, 0, Blk.new _ _ _, ⟨by simp [ids], .inl ⟨rfl, rfl⟩⟩, ⟨by simp [ats], .inl ⟨rfl, rfl⟩⟩⟩, B1.out.size⟩)
  have C2 := Lib.hid (C1.out.below ((Below.refl w1.heap.size w1).alloc (Nat.le_refl _) (.cells #[.int .i64 0, .slice none 0 0, .slice none 0 0] 70)))
  have B2 := Lib.hid (B1.out.alloc B1.out.size (.cells #[.int .i64 0, .slice none 0 0, .slice none 0 0] 70))
  go_upto_block 0 with fail
  obtain ⟨w2, hw2⟩ : ∃ w2, w2 = w1.alloc (.cells #[.int .i64 0, .slice none 0 0, .slice none 0 0] 70) := ⟨_, rfl⟩
  obtain ⟨gp, hgp⟩ : ∃ gp, gp = w1.heap.size := ⟨_, rfl⟩
  rw [← hw2] at P2 C2 B2 ⊢
  rw [← hgp] at P2 ⊢
  clear hw2 hgp C1 B1
  go_cut [7] from 16 to 33 (fun s wx => ∃ (now : Int) (L P : List (Int × Int)), 0 ≤ now ∧ now ≤ 100 ∧ L.length ≤ 100 ∧ Clk wx w.heap.size gc now L ∧ Pn wx w.heap.size gp now P ∧ Mt L P ∧ Below w.heap.size w wx)
  case first =>
    go_wp2_with fail
    go_loopw [7] (fun i wr => ∃ k : Nat, k ≤ n0 ∧ k ≤ 100 ∧ i = .int .i64 k ∧ ∃ (now : Int) (L P : List (Int × Int)), 0 ≤ now ∧ now ≤ k ∧ L.length ≤ k ∧ Clk wr w.heap.size gc now L ∧ Pn wr w.heap.size gp now P ∧ Mt L P ∧ Below w.heap.size w wr) (fun i _ => n0 - (intOf i).toNat)
    case atStart => exact ⟨0, by omega, by omega, rfl, 0, [], [], by omega, by omega, by simp, C2.out, P2.out, Mt.nil, B2.out⟩
    case round =>
      obtain ⟨k, hk0, hk1, rfl, now, L, P, z0, z1, z2, hC, hP, hM, hB⟩ := hrel
      have C := Lib.hid hC
      have PP := Lib.hid hP
      have MM := Lib.hid hM
      have BB := Lib.hid hB
      clear hC hP hM
      rcases (show (k < n0 ∧ k < 100) ∨ (¬ k < n0) ∨ (k < n0 ∧ ¬ k < 100) by omega) with ⟨h1, h2⟩ | h1 | ⟨h1, h2⟩
      · obtain ⟨b, off, rfl, hbl, x0, x1, x2⟩ := flat3 R0.out h1
        have y0 : wr.cell? ⟨b, off + k * 3, none⟩ = some _ := (hB.cell (p := ⟨b, off + k * 3, none⟩) hbl).trans x0
        have y1 : wr.cell? ⟨b, off + k * 3 + 1, none⟩ = some _ := (hB.cell (p := ⟨b, off + k * 3 + 1, none⟩) hbl).trans x1
        have y2 : wr.cell? ⟨b, off + k * 3 + 2, none⟩ = some _ := (hB.cell (p := ⟨b, off + k * 3 + 2, none⟩) hbl).trans x2
        have v0 := R0.out.1 (k * 3)
        have v1 := R0.out.1 (k * 3 + 1)
        have v2 := R0.out.1 (k * 3 + 2)
        have i0 : (0 : Int) ≤ k := by omega
        have i1 : (k : Int) < n0 := by omega
        have i2 : (k : Int) < 100 := by omega
        clear x0 x1 x2 hB
        go_wp2_with fail
        refine (do_c w.heap.size gc gp now L P _ _ _ _ C.out PP.out MM.out (by omega) (by omega) v0 v1 v2).mono ?_
        rintro e w5 ⟨rfl, now', L', P', hC', hP', hM', l1, l2, l3, hb5⟩
        have C5 := Lib.hid hC'
        have P5 := Lib.hid hP'
        have M5 := Lib.hid hM'
        have B5 := Lib.hid (show Below w.heap.size w w5 from BB.out.trans hb5)
        clear hC' hP' hM' hb5
        go_wp2_with fail
        go_roundw
        case rel => exact ⟨k + 1, by omega, by omega, by go_num, now', L', P', by omega, by omega, by omega, C5.out, P5.out, M5.out, B5.out⟩
        case measure => simp [intOf]; omega
      · have i1 : ¬ (k : Int) < n0 := by omega
        clear hB
        go_wp2_with fail
        go_meet
        exact ⟨now, L, P, z0, by omega, by omega, C.out, PP.out, MM.out, BB.out⟩
      · have i1 : (k : Int) < n0 := by omega
        have i2 : ¬ (k : Int) < 100 := by omega
        clear hB
        go_wp2_with fail
        go_meet
        exact ⟨now, L, P, z0, by omega, by omega, C.out, PP.out, MM.out, BB.out⟩
  case rest =>
    obtain ⟨now, L, P, z0, z1, z2, hC, hP, hM, hB⟩ := hcut
    obtain ⟨w3, hw3⟩ : ∃ w3, w3 = wc := ⟨_, rfl⟩
    rw [← hw3] at hC hP hB ⊢
    have C3 := Lib.hid hC
    have P3 := Lib.hid hP
    have M3 := Lib.hid hM
    have B3 := Lib.hid hB
    clear hw3 hC hP hM hB C2 P2 B2
    go_wp2_with fail
    refine (clock_clone_c w.heap.size gc now L _ C3.out (by omega)).mono ?_; rintro e w4 ⟨gd, rfl, hD4, hb4⟩
    have D4 := Lib.hid hD4
    have B4 := Lib.hid hb4
    have P4 := Lib.hid (P3.out.below hb4)
    obtain ⟨aP, cP, aQ, cQ, kP, rP, rQ⟩ := P4.out.ex
    have q0 : w4.cell? ⟨gp, 0, none⟩ = some (.int .i64 now) := kP.cell 0
    have q1 : w4.cell? ⟨gp, 1, none⟩ = some (.slice aP P.length cP) := kP.cell 1
    have q2 : w4.cell? ⟨gp, 2, none⟩ = some (.slice aQ P.length cQ) := kP.cell 2
    have QL : Hid (∃ a c a' c', Blk (w4.alloc (.cells #[.int .i64 now, .slice aP P.length cP, .slice aQ P.length cQ] 70)) w4.heap.size 70 #[.int .i64 now, .slice a P.length c, .slice a' P.length c'] ∧ (w4.alloc (.cells #[.int .i64 now, .slice aP P.length cP, .slice aQ P.length cQ] 70)).ownsRow 0 3 1 (.slice a P.length c) P.length (ids P) ∧ (w4.alloc (.cells #[.int .i64 now, .slice aP P.length cP, .slice aQ P.length cQ] 70)).ownsRow 0 3 1 (.slice a' P.length c') P.length (ats P)) :=
      Lib.hid ⟨aP, cP, aQ, cQ, Blk.new _ _ _, own_below rP ((Below.refl _ _).alloc (Nat.le_refl _) _), own_below rQ ((Below.refl _ _).alloc (Nat.le_refl _) _)⟩
    obtain ⟨pl, hpl⟩ : ∃ pl, pl = P.length := ⟨_, rfl⟩
    rw [← hpl] at q1 q2 QL
    clear hD4 hb4 kP rP rQ
    go_upto_block 2 with fail
    rw [← hpl]
    obtain ⟨w5, hw5⟩ : ∃ w5, w5 = w4.alloc (.cells #[.int .i64 now, .slice aP pl cP, .slice aQ pl cQ] 70) := ⟨_, rfl⟩
    obtain ⟨gq, hgq⟩ : ∃ gq, gq = w4.heap.size := ⟨_, rfl⟩
    rw [← hw5, ← hgq]
    rw [← hw5, ← hgq] at QL
    have b45 : Below w4.heap.size w4 w5 := by rw [hw5]; exact (Below.refl _ _).alloc (Nat.le_refl _) _
    have Q5 := Lib.hid (show Pn w5 w3.heap.size gq now P from ⟨by rw [← hpl]; exact QL.out, by rw [hgq]; exact B4.out.size⟩)
    have D5 := Lib.hid (D4.out.below b45)
    have B35 := Lib.hid (show Below w3.heap.size w3 w5 from B4.out.trans (b45.mono B4.out.size))
    clear QL q0 q1 q2 hw5 hgq hpl b45 D4 P4 B4
    go_cut [10] from 41 to 57 (fun s wx => Below w3.heap.size w3 wx)
    case first =>
      go_wp2_with fail
      go_loopw [10] (fun i wr => ∃ k : Nat, k ≤ n1 ∧ k ≤ 60 ∧ i = .int .i64 k ∧ ∃ (now : Int) (L P : List (Int × Int)), 0 ≤ now ∧ now ≤ 100 + k ∧ L.length ≤ 100 + k ∧ Clk wr w3.heap.size gd now L ∧ Pn wr w3.heap.size gq now P ∧ Mt L P ∧ Below w3.heap.size w3 wr) (fun i _ => n1 - (intOf i).toNat)
      case atStart => exact ⟨0, by omega, by omega, rfl, now, L, P, by omega, by omega, by omega, D5.out, Q5.out, M3.out, B35.out⟩
      case round =>
        obtain ⟨k, hk0, hk1, rfl, now, L, P, z0, z1, z2, hC, hP, hM, hB⟩ := hrel
        have C := Lib.hid hC
        have PP := Lib.hid hP
        have MM := Lib.hid hM
        have BB := Lib.hid hB
        have BW := Lib.hid (B3.out.trans (hB.mono B3.out.size))
        clear hC hP hM
        rcases (show (k < n1 ∧ k < 60) ∨ (¬ k < n1) ∨ (k < n1 ∧ ¬ k < 60) by omega) with ⟨h1, h2⟩ | h1 | ⟨h1, h2⟩
        · obtain ⟨b, off, rfl, hbl, x0, x1, x2⟩ := flat3 R1.out h1
          have y0 : wr.cell? ⟨b, off + k * 3, none⟩ = some _ := (BW.out.cell (p := ⟨b, off + k * 3, none⟩) hbl).trans x0
          have y1 : wr.cell? ⟨b, off + k * 3 + 1, none⟩ = some _ := (BW.out.cell (p := ⟨b, off + k * 3 + 1, none⟩) hbl).trans x1
          have y2 : wr.cell? ⟨b, off + k * 3 + 2, none⟩ = some _ := (BW.out.cell (p := ⟨b, off + k * 3 + 2, none⟩) hbl).trans x2
          have v0 := R1.out.1 (k * 3)
          have v1 := R1.out.1 (k * 3 + 1)
          have v2 := R1.out.1 (k * 3 + 2)
          have i0 : (0 : Int) ≤ k := by omega
          have i1 : (k : Int) < n1 := by omega
          have i2 : (k : Int) < 60 := by omega
          clear x0 x1 x2 hB
          go_wp2_with fail
          refine (do_c w3.heap.size gd gq now L P _ _ _ _ C.out PP.out MM.out (by omega) (by omega) v0 v1 v2).mono ?_
          rintro e w6 ⟨rfl, now', L', P', hC', hP', hM', l1, l2, l3, hb5⟩
          have C5 := Lib.hid hC'
          have P5 := Lib.hid hP'
          have M5 := Lib.hid hM'
          have B5 := Lib.hid (show Below w3.heap.size w3 w6 from BB.out.trans hb5)
          clear hC' hP' hM' hb5
          go_wp2_with fail
          go_roundw
          case rel => exact ⟨k + 1, by omega, by omega, by go_num, now', L', P', by omega, by omega, by omega, C5.out, P5.out, M5.out, B5.out⟩
          case measure => simp [intOf]; omega
        · have i1 : ¬ (k : Int) < n1 := by omega
          clear hB
          go_wp2_with fail
          go_meet
          exact BB.out
        · have i1 : (k : Int) < n1 := by omega
          have i2 : ¬ (k : Int) < 60 := by omega
          clear hB
          go_wp2_with fail
          go_meet
          exact BB.out
    case rest =>
      obtain ⟨w9, hw9⟩ : ∃ w9, w9 = wc := ⟨_, rfl⟩
      rw [← hw9] at hcut ⊢
      have C9 := Lib.hid (C3.out.below hcut)
      obtain ⟨aP, cP, aQ, cQ, kP, rP, rQ⟩ := (P3.out.below hcut).ex
      have q0 : w9.cell? ⟨gp, 0, none⟩ = some (.int .i64 now) := kP.cell 0
      have B9 := Lib.hid (B3.out.trans (hcut.mono B3.out.size))
      clear hw9 hcut kP rP rQ
      have X0 := fun (x : Later w9) => x.cell q0
      go_wp2_with fail
      refine wp_region_later (by kernel_rfl) (by kernel_rfl) ?_
      repeat (go_big_quiet_step (first
        | (go_at_call 34; exact Later.same (now_c w.heap.size gc now L _ (C9.out.below (Later.b _))))
        | (go_at_call 30; exact Later.call (ckwakes_c _))))
      refine wpQuiet_nil ?_
      rintro _ ⟨x, rfl⟩
      go_wp2_with fail
      go_ret
      exact ⟨by simp, B9.out.trans (x.b.mono B9.out.size)⟩

set_option maxRecDepth 100000 in
theorem lawWalk : LawWalk Try.checked 11 Try.f11 := by
  intro H enc W base args ds p hval hA hsz
  rw [Try.params11] at hA hval
  obtain ⟨v0, vs0, d0, ds0, p0, q0, hargs, rfl, rfl, h0, r0⟩ := trodAll_cons hA
  obtain ⟨v1, vs1, d1, ds1, p1, q1, rfl, rfl, rfl, h1, r1⟩ := trodAll_cons r0
  obtain ⟨rfl, rfl, rfl⟩ := trodAll_nil r1
  obtain rfl : args = #[v0, v1] := by cases args; simp_all
  obtain ⟨a0, n0, c0, g0, rfl, hnc0, hcm0, hr0⟩ := open_flat Try.underlying67 Try.underlying73 (by kernel_rfl) (by kernel_rfl) (by decide) (by kernel_rfl) (hval 0 67 v0 rfl rfl) h0
  obtain ⟨a1, n1, c1, g1, rfl, hnc1, hcm1, hr1⟩ := open_flat Try.underlying67 Try.underlying73 (by kernel_rfl) (by kernel_rfl) (by decide) (by kernel_rfl) (hval 1 67 v1 rfl rfl) h1
  exact walk a0 n0 c0 g0 a1 n1 c1 g1 W hr0 (Nat.le_trans hnc0 hcm0) hr1 (Nat.le_trans hnc1 hcm1)

theorem lifted (os : Os) (started : os.Started) (H : Type) (enc : TypeId × Value → H) :
    ReturnsInHanded {} Try.checked os 11 .any (Rows.clockPlaysSpec.pre6 enc Try.prog Try.f11 Rows.clockPlaysRow.domain false) (Rows.clockPlaysSpec.post enc Try.prog Try.f11 false true false false) :=
  law_lift (C := Try.checked) (s := Rows.clockPlaysSpec) (tb := 4) (by kernel_rfl) started (by kernel_rfl) Try.func11
    (ChangeSpec.witness6 (enc := enc) (C := Try.checked) false ⟨#[], #[.slice none 0 0, .slice none 0 0], []⟩ 8 (by kernel_rfl) (by kernel_rfl) (by kernel_rfl) (by kernel_rfl))
    rfl (fun H ds h => by
      match ds, h with
      | [d0, d1], _ => rfl) (by kernel_rfl) (by kernel_rfl) (by kernel_rfl) Try.underlying4 lawWalk

theorem over : Rows.clockPlaysRow.holds Try.pinned (OpenSpec.ofChange Rows.clockPlaysSpec) :=
  OpenClaim.holds_of_wide 11 Try.f11 rfl rfl rfl rfl rfl rfl rfl ⟨rfl, rfl, rfl, rfl, rfl⟩ rfl rfl rfl rfl rfl (by kernel_rfl) Try.func11 (by kernel_rfl)
    (of_decide_eq_true (by kernel_rfl)) (by unfold Func.isWrapper; first | (rw [if_pos (by decide +kernel)]; kernel_rfl) | (rw [if_neg (by decide +kernel)]; exact ⟨rfl, rfl⟩))
    (fun os started H enc _ => lifted os started H enc)

/-- The statement. -/
theorem proved : Rows.ClockPlaysSaid := over
#print axioms proved

end Go.Proofs.Ytfeepofdnjnkpaa.ClockPlays
