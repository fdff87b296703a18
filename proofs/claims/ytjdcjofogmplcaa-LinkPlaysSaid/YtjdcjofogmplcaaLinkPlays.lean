/- LinkPlays: for every room and all lists of acts the law returns true: each call on a queue answers what a list of at most so many would. No condition. -/
import Derived.Test.YtjdcjofogmplcaaLinkA
import Derived.Test.YtjdcjofogmplcaaRows
namespace Go.Proofs.Ytjdcjofogmplcaa.LinkPlays
open Go.RowKit Go.ChangeShapes Go.WideShapes Go.ChangeAt
set_option linter.unusedVariables false

def Rel (w wr : World) (q p : Nat) (room : Int) (n : Nat) (i : Value) : Prop :=
  ∃ k : Nat, k ≤ n ∧ k ≤ 100 ∧ i = .int .i64 k ∧ ∃ g h lost L, Two w wr q g p h room lost L ∧ L.length ≤ 256 ∧ 0 ≤ lost ∧ lost ≤ k
def Cut (w wx : World) (q p : Nat) (room : Int) : Prop := ∃ g h lost L, Two w wx q g p h room lost L ∧ L.length ≤ 256

set_option maxRecDepth 100000 in
set_option maxHeartbeats 3200000 in
theorem walk (room : Int) (a : Option Addr) (n c : Nat) (g : Nat → Nat → Int) (R : Nat → Byt) (w : World) (hroom : I64 room) (hr : ActsB w a n 3 g R) (hm : n ≤ maxLen) :
    Calls Try.prog 13 #[.int .i64 room, .slice a n c] w fun e w' => e = .returned (.bool true) ∧ Below w.heap.size w w' := by
  unfold maxLen at hm
  have hR := Lib.hid hr
  have HX := Lib.hid hroom
  unfold I64 at hroom
  clear hr
  go_enter Try.func13, Try.ntmps13
  rcases (show (¬ 20 < room ∧ 1 ≤ room) ∨ (¬ 20 < room ∧ room < 1) ∨ (20 < room ∧ room ≤ 256) ∨ (20 < room ∧ ¬ room ≤ 256 ∧ ¬ room < 1 ∧ 256 < room) by omega) with ⟨h1, h2⟩ | ⟨h1, h2⟩ | ⟨h1, h2⟩ | ⟨h1, h2, h3, h4⟩
  · obtain ⟨r, rfl⟩ : ∃ r, r = room := ⟨_, rfl⟩
    have HR64 := HX
    have hin1 : 1 ≤ r := h2
    have hin2 : r ≤ 256 := by omega
    have HIN := Lib.hid (And.intro hin1 hin2)
    go_wp2_with fail
    refine (lq_new_ok r _ hin1 hin2).mono ?_; rintro e w1 ⟨q, rfl, hq1, hg1, hb1⟩
    have HN := Lib.hid hq1
    have HB1 := Lib.hid hb1
    clear hq1 hb1
    go_upto_block 0 with fail
    obtain ⟨w2, hw2⟩ : ∃ w2, w2 = w1.alloc (.cells #[.int .i64 r, .int .i64 0, .slice none 0 0] 79) := ⟨_, rfl⟩
    obtain ⟨p, hp⟩ : ∃ p, p = w1.heap.size := ⟨_, rfl⟩
    rw [← hw2, ← hp]
    have T2 := Lib.hid (show Two w w2 q q p p r 0 [] by rw [hw2, hp]; exact two_new HN.out HB1.out hg1)
    clear hw2 hp HN HB1
    go_cut [8] (fun s8 wx => Cut w wx q p r)
    case first =>
      go_wp2_with fail
      go_loopw [8] (fun i wr => Rel w wr q p r n i) (fun i _ => n - (intOf i).toNat)
      case atStart => exact ⟨0, by omega, by omega, rfl, _, _, _, _, T2.out, by simp, by omega, by omega⟩
      case round =>
        obtain ⟨k, hkn, hk80, rfl, g1, h1, lost, L, hT, hL, hlo, hlk⟩ := hrel
        rcases (show (k < n ∧ k < 100) ∨ (¬ k < n) ∨ (k < n ∧ ¬ k < 100) by omega) with ⟨hlt, h80⟩ | hlt | ⟨hlt, h80⟩
        · obtain ⟨b, off, rfl, hbl, hcell⟩ := hR.out.row (by omega)
          obtain ⟨hc, hc3, hci⟩ := hcell k hlt
          have hb := hT.b
          have c0 : wr.cell? ⟨b, off + k * 4, none⟩ = some (.int .i64 (g k 0)) := (hb.cell (p := ⟨b, off + k * 4, none⟩) hbl).trans (hc 0 (by omega))
          have c1 : wr.cell? ⟨b, off + k * 4 + 1, none⟩ = some (.int .i64 (g k 1)) := (hb.cell (p := ⟨b, off + k * 4 + 1, none⟩) hbl).trans (hc 1 (by omega))
          have c2 : wr.cell? ⟨b, off + k * 4 + 2, none⟩ = some (.int .i64 (g k 2)) := (hb.cell (p := ⟨b, off + k * 4 + 2, none⟩) hbl).trans (hc 2 (by omega))
          have c3 : wr.cell? ⟨b, off + k * 4 + 3, none⟩ = some (.slice (R k).a (R k).xs.length (R k).c) := (hb.cell (p := ⟨b, off + k * 4 + 3, none⟩) hbl).trans hc3
          have i0 : (0 : Int) ≤ k := by omega
          have i1 : (k : Int) < n := by omega
          have T3 := Lib.hid hT
          have HCI := Lib.hid hci
          clear hT hcell hc hc3 hci hb
          go_wp2_with fail
          refine (do_c7 w _ q g1 p h1 r lost L _ _ _ (R k) T3.out HIN.out (hR.out.int _ _) (hR.out.int _ _) (hR.out.int _ _) HCI.out ⟨hlo, by omega⟩ hL).mono ?_
          rintro e w3 ⟨lost', L', hL', hl1, hl2, rfl, g4, h4, hT4, ho4, _, _⟩
          have T4 := Lib.hid hT4
          clear hT4 ho4 c0 c1 c2 c3
          go_wp2_with fail
          go_roundw
          case rel => exact ⟨k + 1, by omega, by omega, by go_num, _, _, _, _, T4.out, hL', by omega, by omega⟩
          case measure => simp [intOf]; omega
        all_goals
          go_wp2_with fail
          go_meet
          exact ⟨_, _, _, _, hT, hL⟩
    case rest =>
      obtain ⟨g3, h3, lost3, L3, hT, hL⟩ := hcut
      have T3 := Lib.hid hT
      clear hT
      go_wp2_with fail
      refine (all_c _ _ q g3 p h3 r lost3 L3 T3.out hL).mono ?_; rintro e w4 ⟨rfl, hb4⟩
      have B4 := Lib.hid (T3.out.b.trans (hb4.mono T3.out.b.size))
      clear hb4
      go_wp2_with fail
      refine (lkwakes_c _).mono ?_; rintro e w6 ⟨rfl, hb6⟩
      go_wp2_with fail
      go_ret
      exact ⟨rfl, B4.out.trans (hb6.mono B4.out.size)⟩
  · obtain ⟨r, rfl⟩ : ∃ r, r = room := ⟨_, rfl⟩
    have HR64 := HX
    have HO := Lib.hid (show ¬ (1 ≤ r ∧ r ≤ 256) by omega)
    go_wp2_with fail
    refine (lq_new_no r _ HO.out HR64.out).mono ?_; rintro e w1 ⟨rfl, rfl⟩
    go_wp2_with fail
    refine (lkwakes_c _).mono ?_; rintro e w6 ⟨rfl, hb6⟩
    go_wp2_with fail
    go_ret
    exact ⟨rfl, hb6⟩
  · go_wp2_with fail
    refine (within_q room 20 _ HX.out (by omega) (by omega)).mono ?_; rintro e w' ⟨x, rfl, hx5, hx0, hx7, rfl⟩
    clear hx5
    obtain ⟨r, hr⟩ : ∃ r, r = 1 + x := ⟨_, rfl⟩
    have hin1 : 1 ≤ r := by omega
    have hin2 : r ≤ 256 := by omega
    have i9 : IntKind.i64.wrap (1 + x) = r := by rw [hr]; exact IntWalk.i64_in _ (by omega)
    have HIN := Lib.hid (And.intro hin1 hin2)
    clear hr h1 h2
    go_wp2_with fail
    refine (lq_new_ok r _ hin1 hin2).mono ?_; rintro e w1 ⟨q, rfl, hq1, hg1, hb1⟩
    have HN := Lib.hid hq1
    have HB1 := Lib.hid hb1
    clear hq1 hb1
    go_upto_block 0 with fail
    obtain ⟨w2, hw2⟩ : ∃ w2, w2 = w1.alloc (.cells #[.int .i64 r, .int .i64 0, .slice none 0 0] 79) := ⟨_, rfl⟩
    obtain ⟨p, hp⟩ : ∃ p, p = w1.heap.size := ⟨_, rfl⟩
    rw [← hw2, ← hp]
    have T2 := Lib.hid (show Two w w2 q q p p r 0 [] by rw [hw2, hp]; exact two_new HN.out HB1.out hg1)
    clear hw2 hp HN HB1
    go_cut [8] (fun s8 wx => Cut w wx q p r)
    case first =>
      go_wp2_with fail
      go_loopw [8] (fun i wr => Rel w wr q p r n i) (fun i _ => n - (intOf i).toNat)
      case atStart => exact ⟨0, by omega, by omega, rfl, _, _, _, _, T2.out, by simp, by omega, by omega⟩
      case round =>
        obtain ⟨k, hkn, hk80, rfl, g1, h1, lost, L, hT, hL, hlo, hlk⟩ := hrel
        rcases (show (k < n ∧ k < 100) ∨ (¬ k < n) ∨ (k < n ∧ ¬ k < 100) by omega) with ⟨hlt, h80⟩ | hlt | ⟨hlt, h80⟩
        · obtain ⟨b, off, rfl, hbl, hcell⟩ := hR.out.row (by omega)
          obtain ⟨hc, hc3, hci⟩ := hcell k hlt
          have hb := hT.b
          have c0 : wr.cell? ⟨b, off + k * 4, none⟩ = some (.int .i64 (g k 0)) := (hb.cell (p := ⟨b, off + k * 4, none⟩) hbl).trans (hc 0 (by omega))
          have c1 : wr.cell? ⟨b, off + k * 4 + 1, none⟩ = some (.int .i64 (g k 1)) := (hb.cell (p := ⟨b, off + k * 4 + 1, none⟩) hbl).trans (hc 1 (by omega))
          have c2 : wr.cell? ⟨b, off + k * 4 + 2, none⟩ = some (.int .i64 (g k 2)) := (hb.cell (p := ⟨b, off + k * 4 + 2, none⟩) hbl).trans (hc 2 (by omega))
          have c3 : wr.cell? ⟨b, off + k * 4 + 3, none⟩ = some (.slice (R k).a (R k).xs.length (R k).c) := (hb.cell (p := ⟨b, off + k * 4 + 3, none⟩) hbl).trans hc3
          have i0 : (0 : Int) ≤ k := by omega
          have i1 : (k : Int) < n := by omega
          have T3 := Lib.hid hT
          have HCI := Lib.hid hci
          clear hT hcell hc hc3 hci hb
          go_wp2_with fail
          refine (do_c7 w _ q g1 p h1 r lost L _ _ _ (R k) T3.out HIN.out (hR.out.int _ _) (hR.out.int _ _) (hR.out.int _ _) HCI.out ⟨hlo, by omega⟩ hL).mono ?_
          rintro e w3 ⟨lost', L', hL', hl1, hl2, rfl, g4, h4, hT4, ho4, _, _⟩
          have T4 := Lib.hid hT4
          clear hT4 ho4 c0 c1 c2 c3
          go_wp2_with fail
          go_roundw
          case rel => exact ⟨k + 1, by omega, by omega, by go_num, _, _, _, _, T4.out, hL', by omega, by omega⟩
          case measure => simp [intOf]; omega
        all_goals
          go_wp2_with fail
          go_meet
          exact ⟨_, _, _, _, hT, hL⟩
    case rest =>
      obtain ⟨g3, h3, lost3, L3, hT, hL⟩ := hcut
      have T3 := Lib.hid hT
      clear hT
      go_wp2_with fail
      refine (all_c _ _ q g3 p h3 r lost3 L3 T3.out hL).mono ?_; rintro e w4 ⟨rfl, hb4⟩
      have B4 := Lib.hid (T3.out.b.trans (hb4.mono T3.out.b.size))
      clear hb4
      go_wp2_with fail
      refine (lkwakes_c _).mono ?_; rintro e w6 ⟨rfl, hb6⟩
      go_wp2_with fail
      go_ret
      exact ⟨rfl, B4.out.trans (hb6.mono B4.out.size)⟩
  · obtain ⟨r, rfl⟩ : ∃ r, r = room := ⟨_, rfl⟩
    have HR64 := HX
    have HO := Lib.hid (show ¬ (1 ≤ r ∧ r ≤ 256) by omega)
    go_wp2_with fail
    refine (lq_new_no r _ HO.out HR64.out).mono ?_; rintro e w1 ⟨rfl, rfl⟩
    go_wp2_with fail
    refine (lkwakes_c _).mono ?_; rintro e w6 ⟨rfl, hb6⟩
    go_wp2_with fail
    go_ret
    exact ⟨rfl, hb6⟩

set_option maxRecDepth 100000 in
theorem lawWalk : LawWalk Try.checked 13 Try.f13 := by
  intro H enc W base args ds p hval hA hsz
  rw [Try.params13] at hA hval
  obtain ⟨v0, vs0, d0, ds0, p0, q0, hargs, rfl, rfl, h0, r0⟩ := trodAll_cons hA
  obtain ⟨v1, vs1, d1, ds1, p1, q1, rfl, rfl, rfl, h1, r1⟩ := trodAll_cons r0
  obtain ⟨rfl, rfl, rfl⟩ := trodAll_nil r1
  obtain rfl : args = #[v0, v1] := by cases args; simp_all
  obtain ⟨a0, rfl, rfl, rfl, w0⟩ := open_int Try.underlying3 (hval 0 3 v0 rfl rfl) h0
  obtain ⟨a1, n1, c1, g1, R1, rfl, hnc1, hcm1, hr1⟩ := open_acts (k := 3) (f := 33) (l := 5) Try.underlying75 Try.underlying82 (by kernel_rfl) (by kernel_rfl) (by rfl) (by kernel_rfl) (by kernel_rfl) Try.underlying33 Try.underlying5 (by kernel_rfl) (hval 1 75 v1 rfl rfl) h1
  exact walk a0 a1 n1 c1 g1 R1 W (I64.of_wf w0) hr1 (Nat.le_trans hnc1 hcm1)

theorem lifted (os : Os) (started : os.Started) (H : Type) (enc : TypeId × Value → H) :
    ReturnsInHanded {} Try.checked os 13 .any (Rows.linkPlaysSpec.pre6 enc Try.prog Try.f13 Rows.linkPlaysRow.domain false) (Rows.linkPlaysSpec.post enc Try.prog Try.f13 false true false false) :=
  law_lift (C := Try.checked) (s := Rows.linkPlaysSpec) (tb := 4) (by kernel_rfl) started (by kernel_rfl) Try.func13
    (ChangeSpec.witness6 (enc := enc) (C := Try.checked) false ⟨#[], #[.int .i64 0, .slice none 0 0], []⟩ 8 (by kernel_rfl) (by kernel_rfl) (by kernel_rfl) (by kernel_rfl))
    rfl (fun H ds h => by
      match ds, h with
      | [d0, d1], _ => rfl) (by kernel_rfl) (by kernel_rfl) (by kernel_rfl) Try.underlying4 lawWalk

theorem over : Rows.linkPlaysRow.holds Try.pinned (OpenSpec.ofChange Rows.linkPlaysSpec) :=
  OpenClaim.holds_of_wide 13 Try.f13 rfl rfl rfl rfl rfl rfl rfl ⟨rfl, rfl, rfl, rfl, rfl⟩ rfl rfl rfl rfl rfl (by kernel_rfl) Try.func13 (by kernel_rfl)
    (of_decide_eq_true (by kernel_rfl)) (by unfold Func.isWrapper; first | (rw [if_pos (by decide +kernel)]; kernel_rfl) | (rw [if_neg (by decide +kernel)]; exact ⟨rfl, rfl⟩))
    (fun os started H enc _ => lifted os started H enc)

/-- The statement. -/
theorem proved : Rows.LinkPlaysSaid := over
#print axioms proved

end Go.Proofs.Ytjdcjofogmplcaa.LinkPlays
