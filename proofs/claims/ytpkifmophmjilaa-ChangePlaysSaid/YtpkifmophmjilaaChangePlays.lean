/- ChangePlays: for all numbers and lists of acts the law returns true. No condition. -/
import Derived.Test.YtpkifmophmjilaaChangeH
import Derived.Test.YtpkifmophmjilaaRows
import Derived.Test.YtpkifmophmjilaaWhole
import Derived.Deep.DeepCutAuto
import Derived.Deep.CutBlock
namespace Go.Proofs.Ytpkifmophmjilaa.ChangePlays
open Go.RowKit Go.ChangeShapes Go.WideShapes Go.ChangeAt
set_option linter.unusedVariables false

theorem vnew_no (n : Int) (hn : n < 1 ∨ 4 < n) (w : World) :
    Calls Try.prog 28 #[.int .i64 n] w fun e w' => e = .returned (.tuple #[.pointer none, .int .i64 1]) ∧ w = w' := by
  rcases (show n < 1 ∨ (¬ n < 1 ∧ 4 < n) by omega) with h | ⟨h, h'⟩
  all_goals
    clear hn
    go_enter Try.func28, Try.ntmps28
    go_wp2
    go_ret2
    exact ⟨rfl, rfl⟩
theorem rcs_open (f : Int) (V S : Nat → Int) : rcs f V S = #[.int .i64 f, .int .i64 (V 0), .int .i64 (V 1), .int .i64 (V 2), .int .i64 (V 3), .int .i64 (V 4), .int .i64 (V 5), .int .i64 (V 6), .int .i64 (V 7), .int .i64 (V 8), .int .i64 (V 9), .int .i64 (V 10), .int .i64 (V 11), .int .i64 (V 12), .int .i64 (S 0), .int .i64 (S 1), .int .i64 (S 2), .int .i64 (S 3), .int .i64 (S 4), .int .i64 (S 5), .int .i64 (S 6), .int .i64 (S 7), .int .i64 (S 8), .int .i64 (S 9), .int .i64 (S 10), .int .i64 (S 11), .int .i64 (S 12)] := rfl

theorem rcs_one (f : Int) (V S : Nat → Int) : (rcs f V S).all (·.oneCell') = true := by
  rw [rcs_open]
  simp [Value.oneCell']

structure Pair (wr : World) (gv gl gr : Nat) (f : Int) (N : Nat) (L : List Vt) : Prop where
  v : Votes wr gv gl f L
  r : RCh wr gr f L
  len : L.length = N
  fine : VFine L
theorem Pair.below {wr wx : World} {gv gl gr N : Nat} {f : Int} {L : List Vt} (h : Pair wr gv gl gr f N L) (hb : Below wr.heap.size wr wx) : Pair wx gv gl gr f N L :=
  ⟨h.v.below hb, h.r.below hb, h.len, h.fine⟩
theorem Pair.only {wr wx : World} {gv gl gr N : Nat} {f : Int} {L : List Vt} {S : List Nat} (h : Pair wr gv gl gr f N L) (ho : Only S wr wx) (h1 : gv ∉ S) (h2 : gl ∉ S) (h3 : gr ∉ S) : Pair wx gv gl gr f N L :=
  ⟨h.v.only ho h1 h2, h.r.only ho h3, h.len, h.fine⟩
theorem acts {w wr : World} {a : Option Addr} {n k : Nat} {g : Nat → Int} (hr : Flat w a n 4 g) (hb : Below w.heap.size w wr) (hk : k < n) : ∃ b off, a = some ⟨b, off, none⟩ ∧ b < w.heap.size ∧
    wr.cell? ⟨b, off + k * 4, none⟩ = some (.int .i64 (g (k * 4))) ∧ wr.cell? ⟨b, off + k * 4 + 1, none⟩ = some (.int .i64 (g (k * 4 + 1))) ∧ wr.cell? ⟨b, off + k * 4 + 2, none⟩ = some (.int .i64 (g (k * 4 + 2))) ∧ wr.cell? ⟨b, off + k * 4 + 3, none⟩ = some (.int .i64 (g (k * 4 + 3))) := by
  obtain ⟨hi64, hrow⟩ := hr
  obtain ⟨b, off, rfl, hbl, hcell⟩ := hrow (by omega)
  have cw : ∀ j, j < 4 → wr.cell? ⟨b, off + k * 4 + j, none⟩ = some (.int .i64 (g (k * 4 + j))) := fun j hj => by
    rw [hb.cell (p := ⟨b, off + k * 4 + j, none⟩) hbl, Nat.add_assoc]
    exact hcell _ (by omega)
  exact ⟨b, off, rfl, hbl, cw 0 (by omega), cw 1 (by omega), cw 2 (by omega), cw 3 (by omega)⟩

set_option maxRecDepth 100000 in
set_option maxHeartbeats 6400000 in
theorem walk (f : Int) (a : Option Addr) (n c : Nat) (g : Nat → Int) (a2 : Option Addr) (n2 c2 : Nat) (g2 : Nat → Int) (w : World) (hf : I64 f) (hr : Flat w a n 4 g) (hm : n ≤ maxLen) (hr2 : Flat w a2 n2 4 g2) (hm2 : n2 ≤ maxLen) :
    Calls Try.prog 12 #[.int .i64 f, .slice a n c, .slice a2 n2 c2] w fun e w' => e = .returned (.bool true) ∧ Below w.heap.size w w' := by
  unfold maxLen at hm hm2
  have hR := Lib.hid hr
  have hR2 := Lib.hid hr2
  clear hr hr2
  go_enter Try.func12, Try.ntmps12
  by_cases hff : 1 ≤ f ∧ f ≤ 4
  · have f1 := hff.1
    have f4 := hff.2
    obtain ⟨N, hN⟩ : ∃ N : Nat, 3 * f + 1 = N := ⟨(3 * f + 1).toNat, by omega⟩
    obtain ⟨q, hq⟩ : ∃ q : Nat, 2 * f + 1 = q := ⟨(2 * f + 1).toNat, by omega⟩
    have HN := Lib.hid hN
    have HQ := Lib.hid hq
    have N13 : N ≤ 13 := by omega
    have N1 : 1 ≤ N := by omega
    clear hN hq hff
    go_wp2_with fail
    refine (vnew_ok f N ⟨f1, f4⟩ HN.out _).mono ?_; rintro e w1 ⟨gv, gl, rfl, hV, hg1, hg2, hb1⟩
    have V1 := Lib.hid hV
    have B1 := Lib.hid hb1
    have G2 := Lib.hid hg2
    clear hV hb1 hg1 hg2
    go_wp2_with fail
    refine (rnew_c f N _).mono ?_; rintro e w2 ⟨gr, rfl, hR', hg3, hb2⟩
    have P2 := Lib.hid (show Pair w2 gv gl gr f N (List.replicate N (false, 0, 0)) from ⟨V1.out.below hb2, hR', List.length_replicate, VFine.new N⟩)
    have B2 := Lib.hid (B1.out.trans (hb2.mono B1.out.size))
    have GS := Lib.hid (show ∀ k ∈ [gl, gr], w.heap.size ≤ k by have := G2.out; have := B1.out.size; simp; omega)
    clear V1 hb2 hR' hg3 B1
    go_upto_block 0 with fail
    go_cut [10] (fun s wx => ∃ L, Pair wx gv gl gr f N L ∧ Below w.heap.size w wx)
    case first =>
      go_wp2_with fail
      go_loopw [10] (fun i wr => ∃ k : Nat, k ≤ n ∧ k ≤ 80 ∧ i = .int .i64 k ∧ ∃ L, Pair wr gv gl gr f N L ∧ Below w.heap.size w wr) (fun i _ => n - (intOf i).toNat)
      case atStart => exact ⟨0, by omega, by omega, rfl, _, P2.out, B2.out⟩
      case round =>
        obtain ⟨k, hkn, hk80, rfl, L, hP, hb⟩ := hrel
        have P := Lib.hid hP
        have B := Lib.hid hb
        have HL := Lib.hid (show L.length ≤ 13 by rw [hP.len]; exact N13)
        clear hP hb
        rcases (show (k < n ∧ k < 80) ∨ (¬ k < n) ∨ (k < n ∧ ¬ k < 80) by omega) with ⟨hlt, h80⟩ | hlt | ⟨hlt, h80⟩
        · obtain ⟨b, off, rfl, hbl, c0, c1, c2', c3⟩ := acts hR.out B.out hlt
          have x0 := hR.out.1 (k * 4)
          have x1 := hR.out.1 (k * 4 + 1)
          have x2 := hR.out.1 (k * 4 + 2)
          obtain ⟨u0, hu0⟩ : ∃ u, u = g (k * 4) := ⟨_, rfl⟩
          obtain ⟨u1, hu1⟩ : ∃ u, u = g (k * 4 + 1) := ⟨_, rfl⟩
          obtain ⟨u2, hu2⟩ : ∃ u, u = g (k * 4 + 2) := ⟨_, rfl⟩
          obtain ⟨u3, hu3⟩ : ∃ u, u = g (k * 4 + 3) := ⟨_, rfl⟩
          rw [← hu0] at c0 x0
          rw [← hu1] at c1 x1
          rw [← hu2] at c2' x2
          rw [← hu3] at c3
          have i0 : (0 : Int) ≤ k := by omega
          have i1 : (k : Int) < n := by omega
          clear hu0 hu1 hu2 hu3
          go_wp2_with fail
          refine (do_c gv gl gr f L u0 u1 u2 u3 _ P.out.v P.out.r P.out.fine (by rw [P.out.len]; exact HN.out) ⟨f1, f4⟩ x0 x1 x2 _ rfl).mono ?_; rintro e w3 ⟨rfl, hV3, hR3, ho3⟩
          have P3 := Lib.hid (show Pair w3 gv gl gr f N (doL L u0 u1 u2 u3) from ⟨hV3, hR3, by rw [doL_len]; exact P.out.len, P.out.fine.doL _ _ _ _⟩)
          have B3 := Lib.hid (ho3.below B.out B.out.size GS.out)
          clear hV3 hR3 ho3 c0 c1 c2' c3 x0 x1 x2
          go_wp2_with fail
          refine (right_c gv gl gr f q _ _ P3.out.v P3.out.r P3.out.fine (by rw [P3.out.len]; exact N13) ⟨f1, f4⟩ HQ.out).mono ?_; rintro e w4 ⟨rfl, hb4⟩
          have P4 := Lib.hid (P3.out.below hb4)
          have B4 := Lib.hid (B3.out.trans (hb4.mono B3.out.size))
          clear hb4
          go_wp2_with fail
          exact ⟨⟨k + 1, by omega, by omega, by go_num, _, P4.out, B4.out⟩, by simp [intOf]; omega⟩
        all_goals
          go_wp2_with fail
          go_meet
          exact ⟨L, P.out, B.out⟩
    case rest =>
      obtain ⟨L, hP, hb⟩ := hcut
      have P := Lib.hid hP
      have B := Lib.hid hb
      have HL := Lib.hid (show L.length ≤ 13 by rw [hP.len]; exact N13)
      clear hP hb
      go_wp2_with fail
      refine (vclone_c gv gl f L _ P.out.v (by rw [P.out.len]; exact N1) HL.out).mono ?_; rintro e w3 ⟨gd, gk, rfl, hV3, hg4, hg5, hb3⟩
      have P3 := Lib.hid (P.out.below hb3)
      have V3 := Lib.hid hV3
      have B3 := Lib.hid (B.out.trans (hb3.mono B.out.size))
      have NK := Lib.hid (show gv < gk ∧ gl < gk ∧ gr < gk ∧ w.heap.size ≤ gk by
        have := P.out.v.vlt
        have := P.out.v.llt
        have := P.out.r.lt
        have := B.out.size
        omega)
      obtain ⟨C, hC⟩ : ∃ C, C = rcs f (refV L) (refS L) := ⟨_, rfl⟩
      have hblk := Lib.hid (show Blk w3 gr 92 C by rw [hC]; exact P3.out.r)
      have hinf := Lib.hid (show (Try.prog.info? 92).map (·.size) = some C.size by rw [hC, rcs_size]; kernel_rfl)
      have hsz := Lib.hid (show C.size = 27 by rw [hC, rcs_size])
      have hone := Lib.hid (show C.all (·.oneCell') = true by rw [hC]; exact rcs_one _ _ _)
      have CE := Lib.hid hC
      clear hC hV3 hb3 hg4 hg5
      go_wp2_with (first
        | (refine wpList_load_row rfl 92 (.tmp 71) rfl gr rfl 92 C (0, 0) _ hblk.out Try.underlying92 rfl hinf.out ?_)
        | (refine wpList_store_row rfl 92 (.tmp 12) (.tmp 72) rfl w3.heap.size C rfl rfl 92 #[.int .i64 0, .int .i64 0, .int .i64 0, .int .i64 0, .int .i64 0, .int .i64 0, .int .i64 0, .int .i64 0, .int .i64 0, .int .i64 0, .int .i64 0, .int .i64 0, .int .i64 0, .int .i64 0, .int .i64 0, .int .i64 0, .int .i64 0, .int .i64 0, .int .i64 0, .int .i64 0, .int .i64 0, .int .i64 0, .int .i64 0, .int .i64 0, .int .i64 0, .int .i64 0, .int .i64 0] (Blk.new _ _ _) hinf.out (by rw [hsz.out]; rfl) hone.out ?_; rw [World.setRow_alloc_new]))
      obtain ⟨gq, hgq⟩ : ∃ gq, gq = w3.heap.size := ⟨_, rfl⟩
      obtain ⟨w5, hw5⟩ : ∃ w5, w5 = w3.alloc (.cells C 92) := ⟨_, rfl⟩
      rw [← hw5, ← hgq]
      have b35 : Below w3.heap.size w3 w5 := by rw [hw5]; exact (Below.refl _ _).alloc (Nat.le_refl _) _
      have P5 := Lib.hid (P3.out.below b35)
      have Q5 := Lib.hid (show Pair w5 gd gk gq f N L from ⟨V3.out.below b35, by
        unfold RCh
        rw [← CE.out, hw5, hgq]
        exact Blk.new _ _ _, P.out.len, P.out.fine⟩)
      have B5 := Lib.hid (B3.out.trans (b35.mono B3.out.size))
      have NQ := Lib.hid (show gv < gq ∧ gl < gq ∧ gr < gq ∧ w.heap.size ≤ gq by
        have := P3.out.v.vlt
        have := P3.out.v.llt
        have := P3.out.r.lt
        have := B3.out.size
        omega)
      have GK := Lib.hid (show ∀ k ∈ [gk, gq], w.heap.size ≤ k by have := NK.out; have := NQ.out; simp; omega)
      clear hgq hw5 b35 hblk hinf hsz hone CE
      go_loopw [13] (fun i wr => ∃ k : Nat, k ≤ n2 ∧ k ≤ 40 ∧ i = .int .i64 k ∧ ∃ M, Pair wr gd gk gq f N M ∧ Pair wr gv gl gr f N L ∧ Below w.heap.size w wr) (fun i _ => n2 - (intOf i).toNat)
      case atStart => exact ⟨0, by omega, by omega, rfl, _, Q5.out, P5.out, B5.out⟩
      case round =>
        obtain ⟨k, hkn, hk80, rfl, M, hQ, hP, hb⟩ := hrel
        have Q := Lib.hid hQ
        have P := Lib.hid hP
        have B := Lib.hid hb
        have HM := Lib.hid (show M.length ≤ 13 by rw [hQ.len]; exact N13)
        clear hP hQ hb
        rcases (show (k < n2 ∧ k < 40) ∨ (¬ k < n2) ∨ (k < n2 ∧ ¬ k < 40) by omega) with ⟨hlt, h80⟩ | hlt | ⟨hlt, h80⟩
        · obtain ⟨b, off, rfl, hbl, c0, c1, c2', c3⟩ := acts hR2.out B.out hlt
          have x0 := hR2.out.1 (k * 4)
          have x1 := hR2.out.1 (k * 4 + 1)
          have x2 := hR2.out.1 (k * 4 + 2)
          obtain ⟨u0, hu0⟩ : ∃ u, u = g2 (k * 4) := ⟨_, rfl⟩
          obtain ⟨u1, hu1⟩ : ∃ u, u = g2 (k * 4 + 1) := ⟨_, rfl⟩
          obtain ⟨u2, hu2⟩ : ∃ u, u = g2 (k * 4 + 2) := ⟨_, rfl⟩
          obtain ⟨u3, hu3⟩ : ∃ u, u = g2 (k * 4 + 3) := ⟨_, rfl⟩
          rw [← hu0] at c0 x0
          rw [← hu1] at c1 x1
          rw [← hu2] at c2' x2
          rw [← hu3] at c3
          have i0 : (0 : Int) ≤ k := by omega
          have i1 : (k : Int) < n2 := by omega
          clear hu0 hu1 hu2 hu3
          go_wp2_with fail
          refine (do_c gd gk gq f M u0 u1 u2 u3 _ Q.out.v Q.out.r Q.out.fine (by rw [Q.out.len]; exact HN.out) ⟨f1, f4⟩ x0 x1 x2 _ rfl).mono ?_; rintro e w6 ⟨rfl, hV6, hR6, ho6⟩
          have Q6 := Lib.hid (show Pair w6 gd gk gq f N (doL M u0 u1 u2 u3) from ⟨hV6, hR6, by rw [doL_len]; exact Q.out.len, Q.out.fine.doL _ _ _ _⟩)
          have P6 := Lib.hid (P.out.only ho6 (by have := NK.out; have := NQ.out; simp; omega) (by have := NK.out; have := NQ.out; simp; omega) (by have := NK.out; have := NQ.out; simp; omega))
          have B6 := Lib.hid (ho6.below B.out B.out.size GK.out)
          clear hV6 hR6 ho6 c0 c1 c2' c3 x0 x1 x2
          go_wp2_with fail
          exact ⟨⟨k + 1, by omega, by omega, by go_num, _, Q6.out, P6.out, B6.out⟩, by simp [intOf]; omega⟩
        all_goals
          go_wp2_with fail
          refine (right_c gv gl gr f q _ _ P.out.v P.out.r P.out.fine (by rw [P.out.len]; exact N13) ⟨f1, f4⟩ HQ.out).mono ?_; rintro e w7 ⟨rfl, hb7⟩
          have Q7 := Lib.hid (Q.out.below hb7)
          have B7 := Lib.hid (B.out.trans (hb7.mono B.out.size))
          clear hb7
          go_wp2_with fail
          refine (right_c gd gk gq f q _ _ Q7.out.v Q7.out.r Q7.out.fine (by rw [Q7.out.len]; exact N13) ⟨f1, f4⟩ HQ.out).mono ?_; rintro e w8 ⟨rfl, hb8⟩
          have B8 := Lib.hid (B7.out.trans (hb8.mono B7.out.size))
          clear hb8
          go_wp2_with fail
          refine (vwakes_c _).mono ?_; rintro e w9 ⟨rfl, hb9⟩
          go_wp2
          go_ret
          exact ⟨rfl, B8.out.trans (hb9.mono B8.out.size)⟩
  · unfold I64 at hf
    have hno : f < 1 ∨ 4 < f := by omega
    have HNO := Lib.hid hno
    rcases (show f < 1 ∨ (¬ f < 1 ∧ 4 < f) by omega) with h | ⟨h, h'⟩
    all_goals
      clear hff hno
      go_wp2_with fail
      refine (vnew_no f HNO.out _).mono ?_; rintro e w1 ⟨rfl, rfl⟩
      go_wp2_with fail
      refine (vwakes_c _).mono ?_; rintro e w9 ⟨rfl, hb9⟩
      go_wp2
      go_ret
      exact ⟨rfl, hb9⟩

set_option maxRecDepth 100000 in
theorem lawWalk : LawWalk Try.checked 12 Try.f12 := by
  intro H enc W base args ds p hval hA hsz
  rw [Try.params12] at hA hval
  obtain ⟨v0, vs0, d0, ds0, p0, q0, hargs, rfl, rfl, h0, r0⟩ := trodAll_cons hA
  obtain ⟨v1, vs1, d1, ds1, p1, q1, rfl, rfl, rfl, h1, r1⟩ := trodAll_cons r0
  obtain ⟨v2, vs2, d2, ds2, p2, q2, rfl, rfl, rfl, h2, r2⟩ := trodAll_cons r1
  obtain ⟨rfl, rfl, rfl⟩ := trodAll_nil r2
  obtain rfl : args = #[v0, v1, v2] := by cases args; simp_all
  obtain ⟨a0, rfl, rfl, rfl, w0⟩ := open_int Try.underlying3 (hval 0 3 v0 rfl rfl) h0
  obtain ⟨a1, n1, c1, g1, rfl, hnc1, hcm1, hr1⟩ := open_flat Try.underlying56 Try.underlying63 (by kernel_rfl) (by kernel_rfl) (by decide) (by kernel_rfl) (hval 1 56 v1 rfl rfl) h1
  obtain ⟨a2, n2, c2, g2, rfl, hnc2, hcm2, hr2⟩ := open_flat Try.underlying56 Try.underlying63 (by kernel_rfl) (by kernel_rfl) (by decide) (by kernel_rfl) (hval 2 56 v2 rfl rfl) h2
  exact walk a0 a1 n1 c1 g1 a2 n2 c2 g2 W (I64.of_wf w0) hr1 (Nat.le_trans hnc1 hcm1) hr2 (Nat.le_trans hnc2 hcm2)

theorem lifted (os : Os) (started : os.Started) (H : Type) (enc : TypeId × Value → H) :
    ReturnsInHanded {} Try.checked os 12 .any (Rows.changePlaysSpec.pre6 enc Try.prog Try.f12 Rows.changePlaysRow.domain false) (Rows.changePlaysSpec.post enc Try.prog Try.f12 false true false false) :=
  law_lift (C := Try.checked) (s := Rows.changePlaysSpec) (tb := 4) (by kernel_rfl) started (by kernel_rfl) Try.func12
    (ChangeSpec.witness6 (enc := enc) (C := Try.checked) false ⟨#[], #[.int .i64 0, .slice none 0 0, .slice none 0 0], []⟩ 8 (by kernel_rfl) (by kernel_rfl) (by kernel_rfl) (by kernel_rfl))
    rfl (fun H ds h => by
      match ds, h with
      | [d0, d1, d2], _ => rfl) (by kernel_rfl) (by kernel_rfl) (by kernel_rfl) Try.underlying4 lawWalk

theorem over : Rows.changePlaysRow.holds Try.pinned (OpenSpec.ofChange Rows.changePlaysSpec) :=
  OpenClaim.holds_of_wide 12 Try.f12 rfl rfl rfl rfl rfl rfl rfl ⟨rfl, rfl, rfl, rfl, rfl⟩ rfl rfl rfl rfl rfl (by kernel_rfl) Try.func12 (by kernel_rfl)
    (of_decide_eq_true (by kernel_rfl)) (by unfold Func.isWrapper; first | (rw [if_pos (by decide +kernel)]; kernel_rfl) | (rw [if_neg (by decide +kernel)]; exact ⟨rfl, rfl⟩))
    (fun os started H enc _ => lifted os started H enc)

/-- The statement. -/
theorem proved : Rows.ChangePlaysSaid := over
#print axioms proved

end Go.Proofs.Ytpkifmophmjilaa.ChangePlays
