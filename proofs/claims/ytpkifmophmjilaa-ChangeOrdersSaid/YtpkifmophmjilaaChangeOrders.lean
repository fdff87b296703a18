/- ChangeOrders: for all numbers and lists the law returns true. No condition. -/
import Derived.Test.YtpkifmophmjilaaChangeOrdersP
import Derived.Test.YtpkifmophmjilaaRows
import Derived.Deep.RegionHeld3
import Derived.BigQuiet
import Derived.IntWalk
import Derived.StillTactics
namespace Go.Proofs.Ytpkifmophmjilaa.ChangeOrders
open Go.RowKit Go.ChangeShapes Go.WideShapes Go.ChangeAt
set_option linter.unusedVariables false

structure At (w wr : World) (gv gl gb : Nat) (f : Int) (N : Nat) (vw : Int) (H : Nat → Bool) : Prop where
  v : Votes wr gv gl f (lst vw N H)
  s : Blk wr gb 68 (seenC 13 H)
  b : Below w.heap.size w wr
theorem At.below {w wr wx : World} {gv gl gb N : Nat} {f vw : Int} {H : Nat → Bool} (h : At w wr gv gl gb f N vw H) (hb : Below wr.heap.size wr wx) : At w wx gv gl gb f N vw H :=
  ⟨h.v.below hb, h.s.below hb h.s.lt, h.b.trans (hb.mono h.b.size)⟩
theorem within_at (v n q : Int) (w : World) (hv : I64 v) (hn : 1 ≤ n) (hn2 : n ≤ 4611686018427387904) (hq : v % n = q) :
    Calls Try.prog 19 #[.int .i64 v, .int .i64 n] w fun e w' => e = .returned (.int .i64 q) ∧ w = w' := by
  subst hq
  exact within_keep v n w hv hn hn2
theorem getI {xs : List Int} (h : ∀ x ∈ xs, I64 x) (j : Nat) : I64 (xs.getD j 0) := by
  by_cases hj : j < xs.length
  · rw [List.getD_eq_getElem?_getD, List.getElem?_eq_getElem hj]; exact h _ (List.getElem_mem hj)
  · rw [List.getD_eq_getElem?_getD, List.getElem?_eq_none (by omega)]; exact I64.zero
theorem At.ne {w wr : World} {gv gl gb N : Nat} {f vw : Int} {H : Nat → Bool} (h : At w wr gv gl gb f N vw H) : gb ≠ gl ∧ gb ≠ gv := by
  obtain ⟨cap, h1, h2⟩ := h.v.ex
  exact ⟨(h2.ne h.s (by decide)).symm, Blk.ne_ h.s h1 (by decide)⟩

set_option maxRecDepth 100000 in
set_option maxHeartbeats 6400000 in
theorem walk (f0 vw0 : Int) (a : Option Addr) (n c : Nat) (xs : List Int) (w : World) (hf : I64 f0) (hvw : I64 vw0) (hr : IntRow w a n xs) (hm : n ≤ maxLen) (hx : ∀ x ∈ xs, I64 x) :
    Calls Try.prog 8 #[.int .i64 f0, .int .i64 vw0, .slice a n c] w fun e w' => e = .returned (.bool true) ∧ Below w.heap.size w w' := by
  unfold maxLen at hm
  have R := Lib.hid hr
  have X := Lib.hid hx
  clear hr hx
  go_enter Try.func8, Try.ntmps8
  go_wp2_with fail
  refine (within_q f0 4 _ hf (by omega) (by omega)).mono ?_; rintro e w' ⟨qf, rfl, _, qf0, qf1, rfl⟩
  go_wp2_with fail
  refine (within_q vw0 12 _ hvw (by omega) (by omega)).mono ?_; rintro e w' ⟨vw, rfl, _, v0, v1, rfl⟩
  obtain ⟨f, hf'⟩ : ∃ f, f = 1 + qf := ⟨_, rfl⟩
  have f1 : 1 ≤ f := by omega
  have f4 : f ≤ 4 := by omega
  obtain ⟨N, hN⟩ : ∃ N : Nat, 3 * f + 1 = N := ⟨(3 * f + 1).toNat, by omega⟩
  obtain ⟨q, hq⟩ : ∃ q : Nat, 2 * f + 1 = q := ⟨(2 * f + 1).toNat, by omega⟩
  have HN := Lib.hid hN
  have HQ := Lib.hid hq
  have N13 : N ≤ 13 := by omega
  have N1 : 1 ≤ N := by omega
  have q1 : 1 ≤ q := by omega
  have q9 : q ≤ 9 := by omega
  go_wp2_with fail
  rw [← hf']
  clear hN hf' qf0 qf1 hq
  refine (vnew_ok f N ⟨f1, f4⟩ HN.out _).mono ?_; rintro e w1 ⟨gv, gl, rfl, hV, hg1, hg2, hb1⟩
  have V1 := Lib.hid hV
  have B1 := Lib.hid hb1
  have G2 := Lib.hid hg2
  clear hV hg1 hg2 hb1
  go_wp2_with fail
  refine (rnodes_e f N HN.out _ f1 f4).mono ?_; rintro e w' ⟨rfl, rfl⟩
  go_wp2_with fail
  obtain ⟨gb, hgb⟩ : ∃ gb, gb = w1.heap.size := ⟨_, rfl⟩
  obtain ⟨C, hC⟩ : ∃ C : Array Value, C = #[.bool false, .bool false, .bool false, .bool false, .bool false, .bool false, .bool false, .bool false, .bool false, .bool false, .bool false, .bool false, .bool false] := ⟨_, rfl⟩
  rw [← hgb, ← hC]
  obtain ⟨w2, hw2⟩ : ∃ w2, w2 = w1.alloc (.cells C 68) := ⟨_, rfl⟩
  rw [← hw2]
  have GB := Lib.hid (show w.heap.size ≤ gb by rw [hgb]; exact B1.out.size)
  have A2 := Lib.hid (show At w w2 gv gl gb f N vw (fun _ => false) from ⟨by
      rw [← lst_no, hw2]; exact V1.out.below ((Below.refl _ _).alloc (Nat.le_refl _) _), by
      rw [hw2, hgb, show seenC 13 (fun _ => false) = C by rw [hC]; rfl]; exact Blk.new _ _ _, by
      rw [hw2]; exact B1.out.alloc B1.out.size _⟩)
  have NE := Lib.hid A2.out.ne
  clear V1 B1 hw2 hC hgb
  go_loopw [11, 12] (fun s i wr => ∃ k m : Nat, k ≤ n ∧ k ≤ 60 ∧ i = .int .i64 k ∧ s = .int .i64 m ∧ ∃ H, cntH H N = m ∧ At w wr gv gl gb f N vw H) (fun _ i _ => n - (intOf i).toNat)
  case atStart => exact ⟨0, 0, by omega, by omega, rfl, rfl, _, by simp [cntH], A2.out⟩
  case round =>
    obtain ⟨k, m, hkn, hk60, rfl, rfl, H, hm0, hA⟩ := hrel
    have A := Lib.hid hA
    have mN : m ≤ N := by rw [← hm0]; exact cntH_le H N
    have M0 := Lib.hid hm0
    have HL := Lib.hid (show (lst vw N H).length ≤ 13 by rw [lst_len]; exact N13)
    clear hm0
    rcases (show (k < n ∧ k < 60) ∨ (¬ k < n) ∨ (k < n ∧ ¬ k < 60) by omega) with ⟨hlt, h60⟩ | hlt | ⟨hlt, h60⟩
    · obtain ⟨b, off, rfl, hbl, hcell⟩ := R.out.2 (by omega)
      have c0 : wr.cell? ⟨b, off + k, none⟩ = some (.int .i64 (xs.getD k 0)) := (hA.b.cell (p := ⟨b, off + k, none⟩) hbl).trans (hcell k (by omega))
      have y0 := getI X.out k
      obtain ⟨p, hp⟩ : ∃ p, p = xs.getD k 0 := ⟨_, rfl⟩
      rw [← hp] at c0 y0
      have i0 : (0 : Int) ≤ k := by omega
      have i1 : (k : Int) < n := by omega
      have pm1 := Int.emod_nonneg p (show (N : Int) ≠ 0 by omega)
      have pm2 := Int.emod_lt_of_pos p (show (0 : Int) < N by omega)
      obtain ⟨d, hd⟩ : ∃ d : Nat, p % (N : Int) = d := ⟨(p % (N : Int)).toNat, by omega⟩
      have dN : d < N := by omega
      have HD := Lib.hid hd
      clear hp hcell hd pm1 pm2
      have s0 := hA.s.cell d
      rw [seenC_get 13 H d (by omega)] at s0
      have i2 : (0 : Int) ≤ d := by omega
      have i3 : (d : Int) < 13 := by omega
      have di : I64 (d : Int) := by unfold I64; omega
      have vi : I64 vw := by unfold I64; omega
      have e7 : IntKind.i64.wrap (7 + (d : Int)) = 7 + (d : Int) := IntWalk.i64_in _ (by omega)
      have hfr := hA.s.frozen d
      clear hA
      go_wp2_with fail
      refine (within_at p N d _ y0 (by omega) (by omega) HD.out).mono ?_; rintro e w' ⟨rfl, rfl⟩
      cases hH : H d
      case' false =>
        have PT := Lib.hid (lst_put_yes (vw := vw) hH dN ⟨v0, v1⟩)
        have CU := Lib.hid (cntH_upd hH N)
        rw [hH] at s0
        have s0' : wr.drew.cell? ⟨gb, d, none⟩ = some (.bool false) := s0
        go_wp2_with fail
        go_region_held3 (fun w' => w'.cell? ⟨gb, d, none⟩ = some (.bool false)) (first | go_keep | exact s1)
          (first | (go_at_call 29; refine (vput_c gv gl f (lst vw N H) d vw (7 + (d : Int)) _ A.out.v.drew HL.out di vi true PT.out.1 _ PT.out.2).mono ?_; rintro e w4 ⟨rfl, hV4, ho4⟩; have s1 := ho4.cell_ (p := ⟨gb, d, none⟩) s0' (by have := NE.out.1; simpa using this)))
        have g1 : gl < wr.heap.size := A.out.v.llt
        have hb4 : Below w.heap.size w w4 := ho4.below A.out.b.drew A.out.b.size (by simpa using G2.out)
        have k4 : Blk w4 gb 68 (seenC 13 H) := A.out.s.drew.only ho4 (by have := NE.out.1; simpa using this)
        have fr4 := k4.frozen d
        obtain ⟨w5, hw5⟩ : ∃ w5, w5 = w4.setCell ⟨gb, d, none⟩ (.bool true) := ⟨_, rfl⟩
        have hA5 : At w w5 gv gl gb f N vw (updH H d) := by
          rw [hw5]
          refine ⟨hV4.only ((Only.refl [gb] w4).setCell (p := ⟨gb, d, none⟩) (.inl (by simp)) _) (by have := NE.out.2; simp; omega) (by have := NE.out.1; simp; omega), ?_, hb4.setCell (p := ⟨gb, d, none⟩) GB.out _⟩
          have := k4.set_ d (.bool true)
          rwa [seenC_set 13 H d (by omega)] at this
        obtain ⟨H1, hH1⟩ : ∃ H1, updH H d = H1 := ⟨_, rfl⟩
        rw [hH1] at hA5
        have A5 := Lib.hid hA5
        obtain ⟨m1, hm1⟩ : ∃ m1 : Nat, ((m : Int) + 1) = m1 := ⟨m + 1, by omega⟩
        have M1 := Lib.hid (show cntH H1 N = m1 by have := CU.out; rw [if_pos dN, hH1, M0.out] at this; omega)
        have HM1 := Lib.hid hm1
        have HW5 := Lib.hid hw5
        clear hA5 hw5 hm1 hb4 k4 hV4 ho4 hH1 s0 s0' c0 y0
        go_wp2_with fail
        rw [HM1.out, ← HW5.out]
        clear s1 fr4
      case' true =>
        have PT := Lib.hid (lst_put_no (vw := vw) hH dN (7 + (d : Int)))
        rw [hH] at s0
        have s0' : wr.drew.cell? ⟨gb, d, none⟩ = some (.bool true) := s0
        go_wp2_with fail
        go_region_held3 (fun w' => w'.cell? ⟨gb, d, none⟩ = some (.bool true)) (first | go_keep | exact s1)
          (first | (go_at_call 29; refine (vput_c gv gl f (lst vw N H) d vw (7 + (d : Int)) _ A.out.v.drew HL.out di vi false PT.out.1 _ PT.out.2).mono ?_; rintro e w5 ⟨rfl, hV4, ho4⟩; have s1 := ho4.cell_ (p := ⟨gb, d, none⟩) s0' (by have := NE.out.1; simpa using this)))
        have g1 : gl < wr.heap.size := A.out.v.llt
        have hb4 : Below w.heap.size w w5 := ho4.below A.out.b.drew A.out.b.size (by simpa using G2.out)
        have A5 := Lib.hid (show At w w5 gv gl gb f N vw H from ⟨hV4, A.out.s.drew.only ho4 (by have := NE.out.1; simpa using this), hb4⟩)
        obtain ⟨m1, hm1⟩ : ∃ m1 : Nat, m1 = m := ⟨m, rfl⟩
        obtain ⟨H1, hH1⟩ : ∃ H1, H1 = H := ⟨H, rfl⟩
        subst hm1
        subst hH1
        have M1 := Lib.hid M0.out
        clear hb4 hV4 ho4 s0 s0' c0 y0
        go_wp2_with fail
      all_goals
        have HL1 := Lib.hid (show (lst vw N H1).length ≤ 13 by rw [lst_len]; exact N13)
        have MT := Lib.hid (show mat vw (lst vw N H1) (lst vw N H1).length = ent H1 N by rw [lst_len]; exact mat_lst vw N H1 N (Nat.le_refl _))
        obtain ⟨eb, heb⟩ : ∃ eb, decide (q ≤ m1) = eb := ⟨_, rfl⟩
        obtain ⟨E, hE⟩ : ∃ E, (if eb then (ent H1 N).take q else []) = E := ⟨_, rfl⟩
        obtain ⟨me, hme⟩ : ∃ me, E.length = me := ⟨_, rfl⟩
        have EB := Lib.hid (show decide (q ≤ (mat vw (lst vw N H1) (lst vw N H1).length).length) = eb by rw [MT.out, ent_len, M1.out]; exact heb)
        have EE := Lib.hid (show (if eb then (mat vw (lst vw N H1) (lst vw N H1).length).take q else []) = E by rw [MT.out]; exact hE)
        have PRE := Lib.hid (show E <+: ent H1 N by
          rw [← hE]
          cases eb
          · exact List.nil_prefix
          · exact List.take_prefix _ _)
        have m13 : m1 ≤ N := by rw [← M1.out]; exact cntH_le H1 N
        have mle : me ≤ m1 := by have := PRE.out.length_le; rw [ent_len, M1.out, hme] at this; exact this
        have EM := Lib.hid hme
        have HEB := Lib.hid heb
        clear hE hme heb
        refine (enough_c gv gl f (lst vw N H1) vw _ A5.out.v HL1.out vi ⟨f1, f4⟩ q HQ.out eb EB.out E EE.out me EM.out).mono ?_; rintro e w6 ⟨a6, c6, rfl, ho6, hb6⟩
        have O6 := Lib.hid ho6
        have A6 := Lib.hid (A5.out.below hb6)
        clear ho6 hb6
        have h1 : decide (q ≤ m1) = eb := HEB.out
        have h2 : decide ((q : Int) ≤ m1) = eb := by rw [← h1]; exact decide_eq_decide.2 (by omega)
        have h3 : (eb != eb) = false := by simp
        go_wp2_with fail
        refine (rquorum_c f q HQ.out _ f1 f4).mono ?_; rintro e w' ⟨rfl, rfl⟩
        go_wp2_with fail
        clear h1 h2 h3
        go_loopw [16, 17] (fun s i wx => ∃ j k2 : Nat, k2 ≤ N ∧ i = .int .i64 k2 ∧ s = .int .i64 j ∧ j ≤ me ∧ j = cntH H1 k2 ∧ wx = w6) (fun _ i _ => N - (intOf i).toNat)
        case atStart => exact ⟨0, 0, by omega, rfl, rfl, by omega, rfl, rfl⟩
        case round =>
          obtain ⟨j, k2, hk2, rfl, rfl, hj, hjc, rfl⟩ := hrel
          have JC := Lib.hid hjc
          clear hjc
          rcases (show (k2 < N ∧ j < me) ∨ ¬ k2 < N ∨ (k2 < N ∧ ¬ j < me) by omega) with ⟨h1, h2⟩ | h1 | ⟨h1, h2⟩
          · have sk := A6.out.s.cell k2
            rw [seenC_get 13 H1 k2 (by omega)] at sk
            have CS := Lib.hid (cntH_succ H1 k2)
            have t0 : (0 : Int) ≤ k2 := by omega
            have t1 : (k2 : Int) < 13 := by omega
            cases hh : H1 k2
            · rw [hh] at sk
              have CS' := Lib.hid (show cntH H1 (k2 + 1) = cntH H1 k2 by have := CS.out; rw [hh] at this; simpa using this)
              clear hh
              go_wp2_with fail
              exact ⟨⟨j, k2 + 1, by omega, by go_num, rfl, hj, by rw [CS'.out]; exact JC.out, trivial⟩, by simp [intOf]; omega⟩
            · rw [hh] at sk
              have CS' := Lib.hid (show cntH H1 (k2 + 1) = cntH H1 k2 + 1 by have := CS.out; rw [hh] at this; simpa using this)
              obtain ⟨b6, o6, rfl, hb6, hc6⟩ := (own_vrow O6.out).2 (by omega)
              have jl : j < E.length := by rw [EM.out]; exact h2
              have eg : E[j] = ((k2 : Int), 7 + (k2 : Int)) := by
                have := ent_get H1 h1 hh
                rw [← JC.out] at this
                obtain ⟨r, hr⟩ := PRE.out
                rw [← hr, List.getElem?_append_left jl, List.getElem?_eq_getElem jl] at this
                exact Option.some.inj this
              have q0 : wr.cell? ⟨b6, o6 + j * 2, none⟩ = some (.int .i64 (k2 : Int)) := hc6 _ _ (flat_get' pcell 2 pcell_len E j 0 (by omega) jl (.int .i64 (k2 : Int)) (by rw [eg]; rfl))
              have q1 : wr.cell? ⟨b6, o6 + j * 2 + 1, none⟩ = some (.int .i64 (7 + (k2 : Int))) := by rw [Nat.add_assoc]; exact hc6 _ _ (flat_get' pcell 2 pcell_len E j 1 (by omega) jl (.int .i64 (7 + (k2 : Int))) (by rw [eg]; rfl))
              have t2 : (0 : Int) ≤ j := by omega
              have t3 : (j : Int) < me := by omega
              clear hh hc6 eg
              go_wp2_with fail
              exact ⟨⟨j + 1, k2 + 1, by omega, by go_num, by go_num, by omega, by rw [CS'.out]; have := JC.out; omega, trivial⟩, by simp [intOf]; omega⟩
          · have t0 : ¬ (k2 : Int) < N := by omega
            have jm : j = me := by
              have : k2 = N := by omega
              have := JC.out
              subst k2
              rw [M1.out] at this
              omega
            subst jm
            go_wp2_with fail
            exact ⟨⟨k + 1, m1, by omega, by omega, by go_num, rfl, H1, M1.out, A6.out⟩, by simp [intOf]; omega⟩
          · have jm : j = me := by omega
            subst jm
            go_wp2_with fail
            exact ⟨⟨k + 1, m1, by omega, by omega, by go_num, rfl, H1, M1.out, A6.out⟩, by simp [intOf]; omega⟩
    all_goals
      have vi : I64 (vw + 1) := by unfold I64; omega
      have MT := Lib.hid (mat_lst_no vw (vw + 1) (by omega) N H (lst vw N H).length (by rw [lst_len]; exact Nat.le_refl _))
      have EB := Lib.hid (show decide (q ≤ (mat (vw + 1) (lst vw N H) (lst vw N H).length).length) = false by rw [MT.out]; exact decide_eq_false (by simp; omega))
      have D1 := Lib.hid (lst_drop_no vw N H)
      have D2 := Lib.hid (show dropN (lst vw N H) (vw + 1) = m by rw [lst_drop, M0.out])
      clear hA
      go_wp2_with fail
      refine (enough_c gv gl f (lst vw N H) (vw + 1) _ A.out.v HL.out vi ⟨f1, f4⟩ q HQ.out false EB.out [] rfl 0 rfl).mono ?_; rintro e w6 ⟨a6, c6, rfl, ho6, hb6⟩
      have A6 := Lib.hid (A.out.below hb6)
      clear ho6 hb6
      go_wp2_with fail
      refine (vdrop_c gv gl f (lst vw N H) vw _ A6.out.v HL.out 0 D1.out.1 _ D1.out.2).mono ?_; rintro e w7 ⟨rfl, hV7, ho7⟩
      have V7 := Lib.hid hV7
      have B7 := Lib.hid (ho7.below A6.out.b A6.out.b.size (by simpa using G2.out))
      clear hV7 ho7
      go_wp2_with fail
      refine (vdrop_c gv gl f (lst vw N H) (vw + 1) _ V7.out HL.out m D2.out _ rfl).mono ?_; rintro e w8 ⟨rfl, hV8, ho8⟩
      have B8 := Lib.hid (ho8.below B7.out B7.out.size (by simpa using G2.out))
      clear hV8 ho8
      go_wp2_with fail
      refine (vwakes_c _).mono ?_; rintro e w9 ⟨rfl, hb9⟩
      go_wp2
      go_ret
      exact ⟨rfl, B8.out.trans (hb9.mono B8.out.size)⟩

set_option maxRecDepth 100000 in
theorem lawWalk : LawWalk Try.checked 8 Try.f8 := by
  intro H enc W base args ds p hval hA hsz
  rw [Try.params8] at hA hval
  obtain ⟨v0, vs0, d0, ds0, p0, q0, hargs, rfl, rfl, h0, r0⟩ := trodAll_cons hA
  obtain ⟨v1, vs1, d1, ds1, p1, q1, rfl, rfl, rfl, h1, r1⟩ := trodAll_cons r0
  obtain ⟨v2, vs2, d2, ds2, p2, q2, rfl, rfl, rfl, h2, r2⟩ := trodAll_cons r1
  obtain ⟨rfl, rfl, rfl⟩ := trodAll_nil r2
  obtain rfl : args = #[v0, v1, v2] := by cases args; simp_all
  obtain ⟨a0, rfl, rfl, rfl, w0⟩ := open_int Try.underlying3 (hval 0 3 v0 rfl rfl) h0
  obtain ⟨a1, rfl, rfl, rfl, w1⟩ := open_int Try.underlying3 (hval 1 3 v1 rfl rfl) h1
  obtain ⟨a2, n2, c2, xs2, rfl, hnc2, hcm2, hr2, hx2⟩ := open_int_slice Try.underlying45 Try.underlying3 (by kernel_rfl) (hval 2 45 v2 rfl rfl) h2
  exact walk a0 a1 a2 n2 c2 xs2 W (I64.of_wf w0) (I64.of_wf w1) hr2 (Nat.le_trans hnc2 hcm2) hx2

theorem lifted (os : Os) (started : os.Started) (H : Type) (enc : TypeId × Value → H) :
    ReturnsInHanded {} Try.checked os 8 .any (Rows.changeOrdersSpec.pre6 enc Try.prog Try.f8 Rows.changeOrdersRow.domain false) (Rows.changeOrdersSpec.post enc Try.prog Try.f8 false true false false) :=
  law_lift (C := Try.checked) (s := Rows.changeOrdersSpec) (tb := 4) (by kernel_rfl) started (by kernel_rfl) Try.func8
    (ChangeSpec.witness6 (enc := enc) (C := Try.checked) false ⟨#[], #[.int .i64 0, .int .i64 0, .slice none 0 0], []⟩ 8 (by kernel_rfl) (by kernel_rfl) (by kernel_rfl) (by kernel_rfl))
    rfl (fun H ds h => by
      match ds, h with
      | [d0, d1, d2], _ => rfl) (by kernel_rfl) (by kernel_rfl) (by kernel_rfl) Try.underlying4 lawWalk

theorem over : Rows.changeOrdersRow.holds Try.pinned (OpenSpec.ofChange Rows.changeOrdersSpec) :=
  OpenClaim.holds_of_wide 8 Try.f8 rfl rfl rfl rfl rfl rfl rfl ⟨rfl, rfl, rfl, rfl, rfl⟩ rfl rfl rfl rfl rfl (by kernel_rfl) Try.func8 (by kernel_rfl)
    (of_decide_eq_true (by kernel_rfl)) (by unfold Func.isWrapper; first | (rw [if_pos (by decide +kernel)]; kernel_rfl) | (rw [if_neg (by decide +kernel)]; exact ⟨rfl, rfl⟩))
    (fun os started H enc _ => lifted os started H enc)

/-- The statement. -/
theorem proved : Rows.ChangeOrdersSaid := over
#print axioms proved

end Go.Proofs.Ytpkifmophmjilaa.ChangeOrders
