/- LedgerReplies: for all numbers and batches the law returns true: each client's last entry is its reply; the store is what its entries' operations make. No condition. -/
import Derived.Test.YtfhlcjfgbhmecaaLedgerJ
import Derived.Test.YtfhlcjfgbhmecaaLedgerT
import Derived.Test.YtfhlcjfgbhmecaaKeep
import Derived.Test.YtfhlcjfgbhmecaaRows
import Derived.BigQuiet
namespace Go.Proofs.Ytfhlcjfgbhmecaa.LedgerReplies
open Go.RowKit Go.ChangeShapes Go.WideShapes Go.ChangeAt
set_option linter.unusedVariables false

set_option maxRecDepth 100000 in
set_option maxHeartbeats 6400000 in
theorem walk (cl : Int) (a1 : Option Addr) (n1 c1 : Nat) (R1 : Nat → Inner) (w : World) (hcl : I64 cl) (hr1 : Rows2 w a1 n1 6 R1) (hm1 : n1 ≤ maxLen) (hc1 : n1 ≤ c1) :
    Calls Try.prog 12 #[.int .i64 cl, .slice a1 n1 c1] w fun e w' => e = .returned (.bool true) ∧ Below w.heap.size w w' := by
  have HR1 := Lib.hid hr1
  have M1 := Lib.hid hm1
  clear hr1 hm1
  go_enter Try.func12, Try.ntmps12
  go_wp2_with fail
  refine (within_q cl 4 _ hcl (by omega) (by omega)).mono ?_; rintro e w' ⟨q, rfl, _, q0, q4, rfl⟩
  obtain ⟨C, hC⟩ : ∃ C : Nat, 1 + q = C := ⟨(1 + q).toNat, by omega⟩
  have C1 : 1 ≤ C := by omega
  have C4 : C ≤ 4 := by omega
  go_wp2_with fail
  refine (cut_c w a1 n1 c1 R1 _ HR1.out (Below.refl _ _) M1.out).mono ?_; rintro e w1 ⟨b1, m1, d1, bsA, rfl, ho1, hbA, hlA, hmA, hb1⟩
  have BA := Lib.hid (show BRow w1 b1 m1 bsA from ⟨own_vrow ho1, fun x hx => (hbA x hx).below hb1, hmA⟩)
  have B1 := Lib.hid hb1
  clear ho1 hbA hlA hb1
  go_wp2_with fail
  clear hC q0 q4
  refine (fold_c C C1 C4 b1 m1 d1 bsA _ BA.out).mono ?_; rintro e w2 ⟨S, gd, rfl, hL2, hS2, hb2⟩
  have GR := Lib.hid (GoodR.fold C bsA)
  have RP := Lib.hid (show runL ([], st0, List.replicate C (0, 0)) ((foldB C bsA).1.map Prod.fst) = foldB C bsA from replay _ _ _)
  have RI := Lib.hid (fold_mem (w := w1) (C := C) (fun x hx => (BA.out.b x hx).i))
  obtain ⟨⟨E, st1, ct1⟩, hs0⟩ : ∃ s, foldB C bsA = s := ⟨_, rfl⟩
  have hE0 : E.length ≤ 160 := by
    have h1 := foldB_len C bsA
    have h2 := allRq_len BA.out.b
    rw [hs0] at h1
    rw [BA.out.len] at h2
    simp only at h1
    omega
  rw [hs0] at hL2 GR RP RI
  have RI' : Hid (∀ e ∈ E, RqI e.1) := RI
  have RP' : Hid (runL ([], st0, List.replicate C (0, 0)) (E.map Prod.fst) = (E, st1, ct1)) := RP
  clear RI RP
  have L2 : Hid (Led w2 S gd C E st1 ct1) := Lib.hid hL2
  have B2 := Lib.hid (B1.out.trans (hb2.mono B1.out.size))
  clear hL2 hS2 hb2 hs0
  obtain ⟨nw, hnw⟩ : ∃ nw, E.length = nw := ⟨_, rfl⟩
  have NW := Lib.hid hnw
  have nw160 : nw ≤ 160 := by omega
  clear hnw hE0
  go_wp2_with fail
  refine (lall_c S gd C E st1 ct1 _ L2.out nw NW.out (by omega)).mono ?_; rintro e w4 ⟨aw, cw, rfl, ho4, hb4⟩
  have L4 := Lib.hid (L2.out.below hb4)
  have R4 := Lib.hid (own_vrow ho4)
  have B4 := Lib.hid (B2.out.trans (hb4.mono B2.out.size))
  clear ho4 hb4 L2 B2
  go_wp2_with fail
  go_loopw [8] (fun i wr => ∃ k : Nat, k ≤ C ∧ i = .int .i64 k ∧ Below w4.heap.size w4 wr) (fun i _ => C - (intOf i).toNat)
  case atStart => exact ⟨0, by omega, rfl, Below.refl _ _⟩
  case round =>
    obtain ⟨c, hc, rfl, hb⟩ := hrel
    obtain ⟨wo, rfl⟩ : ∃ wo, wo = wr := ⟨_, rfl⟩
    have B := Lib.hid hb
    clear hb
    by_cases hlt : c < C
    · have i1 : (c : Int) < C := by omega
      have CI : Hid (I64 (c : Int)) := Lib.hid (by unfold I64; omega)
      go_wp2_with fail
      go_loopw [9, 44] (fun l i wz => ∃ (k : Nat) (lv : Int), k ≤ nw ∧ i = .int .i64 k ∧ l = .int .i64 lv ∧ LastAt (E.take k) c lv ∧ Below w4.heap.size w4 wz) (fun _ i _ => nw - (intOf i).toNat)
      case atStart => exact ⟨0, -1, by omega, rfl, rfl, LastAt.nil _, B.out⟩
      case round =>
        obtain ⟨k, lv, hk, rfl, rfl, hl, hb⟩ := hrel
        have LA := Lib.hid hl
        have B5 := Lib.hid hb
        clear hl hb
        by_cases hlk : k < nw
        · obtain ⟨b, off, ha, hbl, ⟨⟨x0, x1, x2, x3, x4, x5⟩, x6⟩, he1, p0, _⟩ := ent_cells (R4.out.below B5.out) NW.out k hlk
          simp only at p0
          have EK := Lib.hid (show E.take (k + 1) = E.take k ++ [((x0, x1, x2, x3, x4, x5), x6)] by rw [List.take_add_one, he1, Option.toList_some])
          have KL := Lib.hid (show (E.take k).length = k by rw [List.length_take, NW.out]; omega)
          have i2 : (0 : Int) ≤ k := by omega
          have i3 : (k : Int) < nw := by omega
          clear he1 hbl
          subst ha
          by_cases hx : x0 = c
          · subst hx
            go_wp2_with fail
            go_roundw
            case rel => exact ⟨k + 1, k, by omega, by go_num, rfl, by
              have := LastAt.yes (es := E.take k) (c := (c : Int)) (e := (((c : Int), x1, x2, x3, x4, x5), x6)) rfl
              rw [KL.out, ← EK.out] at this
              exact this, B5.out⟩
            case measure => simp [intOf]; omega
          · have e4 : (x0 == (c : Int)) = false := beq_eq_false_iff_ne.2 hx
            have NX := Lib.hid hx
            clear hx
            go_wp2_with fail
            go_roundw
            case rel => exact ⟨k + 1, lv, by omega, by go_num, rfl, by rw [EK.out]; exact LA.out.no NX.out, B5.out⟩
            case measure => simp [intOf]; omega
        · have LA' : LastAt E c lv := by
            have := LA.out
            rwa [List.take_of_length_le (by rw [NW.out]; omega)] at this
          have AS := GR.out.asks (c := (c : Int)) (by omega) i1 LA'
          clear LA' LA
          rcases AS with ⟨rfl, h1, h2, h3⟩ | ⟨j, ⟨⟨x0, x1, x2, x3, x4, x5⟩, x6⟩, rfl, he1, ht, h1, h2, h3, h4, h5⟩
          · have H1 : Hid (lastOf ct1 c = 0) := Lib.hid h1
            have H2 : Hid (getB ct1 c 0 = false) := Lib.hid h2
            have H3 : Hid (getR ct1 c 0 = 0) := Lib.hid h3
            clear h1 h2 h3
            go_wp2_with fail
            refine (llast_c S gd C E st1 ct1 c _ (L4.out.below B5.out) CI.out 0 H1.out).mono ?_; rintro e w' ⟨rfl, rfl⟩
            go_wp2_with fail
            refine (lreply_c S gd C E st1 ct1 c 0 _ (L4.out.below B5.out) CI.out false H2.out 0 H3.out).mono ?_; rintro e w' ⟨rfl, rfl⟩
            go_wp2_with fail
            refine (llast_c S gd C E st1 ct1 c _ (L4.out.below B5.out) CI.out 0 H1.out).mono ?_; rintro e w' ⟨rfl, rfl⟩
            go_wp2_with fail
            go_roundw
            case rel => exact ⟨c + 1, by omega, by go_num, B5.out⟩
            case measure => simp [intOf]; omega
          · have he2 : E[j]? = some ((x0, x1, x2, x3, x4, x5), x6) := he1
            have hjn : j < nw := by have := (List.getElem?_eq_some_iff.1 he2).1; have := NW.out; omega
            have xb := (RI'.out _ (List.mem_of_getElem? he2)).2.1
            simp only at xb ht h1 h2 h3 h4 h5
            unfold I64 at xb
            have H1 := Lib.hid h1
            have H2 := Lib.hid h2
            have H3 := Lib.hid h3
            have H4 := Lib.hid h4
            have H5 := Lib.hid h5
            obtain ⟨b, off, ha, hbl, e', he3, p0, p1, _, _, _, _, p6⟩ := ent_cells (R4.out.below B5.out) NW.out j hjn
            rw [he2] at he3
            cases he3
            simp only at p0 p1 p6
            have j0 : decide ((j : Int) < 0) = false := decide_eq_false (by omega)
            have j0' : ¬ (j : Int) < 0 := by omega
            have j1 : (0 : Int) ≤ j := by omega
            have j2 : (j : Int) < nw := by omega
            have e9 : IntKind.i64.wrap (x1 - 1) = x1 - 1 := IntWalk.i64_in _ (by omega)
            clear he1 he2 hbl h1 h2 h3 h4 h5 p0
            subst ha
            go_wp2_with fail
            refine (llast_c S gd C E st1 ct1 c _ (L4.out.below B5.out) CI.out x1 H1.out).mono ?_; rintro e w' ⟨rfl, rfl⟩
            go_wp2_with fail
            refine (lreply_c S gd C E st1 ct1 c x1 _ (L4.out.below B5.out) CI.out true H2.out x6 H3.out).mono ?_; rintro e w' ⟨rfl, rfl⟩
            go_upto_region 20 with fail
            go_quiet ((go_at_call 20; exact Calls.quiet_of_same ((llast_c S gd C E st1 ct1 c _ ((L4.out.below B5.out).below (below_drewN (Below.refl _ _) _)) CI.out x1 H1.out).mono fun _ _ e => ⟨e.1, e.2.symm⟩)))
            have B6 := Lib.hid (below_drewN B5.out nq)
            obtain ⟨w6, hw6⟩ : ∃ w6, w6 = wr.drewN nq := ⟨_, rfl⟩
            rw [← hw6] at B6 ⊢
            clear hw6 p1 p6
            go_wp2_with fail
            refine (llast_c S gd C E st1 ct1 c _ (L4.out.below B6.out) CI.out x1 H1.out).mono ?_; rintro e w' ⟨rfl, rfl⟩
            go_wp2_with fail
            refine (lreply_c S gd C E st1 ct1 c (x1 - 1) _ (L4.out.below B6.out) CI.out false H4.out 0 H5.out).mono ?_; rintro e w' ⟨rfl, rfl⟩
            go_wp2_with fail
            go_roundw
            case rel => exact ⟨c + 1, by omega, by go_num, B6.out⟩
            case measure => simp [intOf]; omega
    · have hcC : c = C := by omega
      subst hcC
      go_wp2_with fail
      refine (lnew_ok c C1 C4 _).mono ?_; rintro e w5 ⟨Sy, gy, rfl, hL5, hS5, hb5⟩
      have LX := Lib.hid ((L4.out.below B.out).below hb5)
      have RX := Lib.hid ((R4.out.below B.out).below hb5)
      have Y5 := Lib.hid hL5
      have SY5 := Lib.hid hS5
      have BX := Lib.hid ((B4.out.trans (B.out.mono B4.out.size)).trans (hb5.mono (B4.out.trans (B.out.mono B4.out.size)).size))
      have B55 := Lib.hid hb5
      have hXS : Hid (∀ k ∈ S, k < wo.heap.size) := Lib.hid (L4.out.below B.out).lt
      clear hL5 hS5 hb5
      go_wp2_with fail
      go_loopw [126] (fun i wx => ∃ (k : Nat) (S2 : List Nat) (st2 : List (Bool × Int)) (ct2 : List (Int × Int)), k ≤ nw ∧ i = .int .i64 k ∧ runL ([], st0, List.replicate c (0, 0)) ((E.take k).map Prod.fst) = (E.take k, st2, ct2) ∧ Led wx S2 gy c (E.take k) st2 ct2 ∧ (∀ x ∈ S2, wo.heap.size ≤ x) ∧ Below wo.heap.size wo wx) (fun i _ => nw - (intOf i).toNat)
      case atStart => exact ⟨0, Sy, st0, List.replicate c (0, 0), by omega, rfl, rfl, Y5.out, SY5.out, B55.out⟩
      case round =>
        obtain ⟨k, S2, st2, ct2, hk, rfl, hrun, hL, hS, hb⟩ := hrel
        have RUN := Lib.hid hrun
        have Y := Lib.hid hL
        have SY := Lib.hid hS
        have BB := Lib.hid hb
        have RZ := Lib.hid ((R4.out.below B.out).below hb)
        clear hrun hL hS hb
        by_cases hlk : k < nw
        · obtain ⟨b, off, ha, hbl, ⟨⟨x0, x1, x2, x3, x4, x5⟩, x6⟩, he1, p0, p1, p2, p3, p4, p5, p6⟩ := ent_cells RZ.out NW.out k hlk
          simp only at p0 p1 p2 p3 p4 p5 p6
          have i2 : (0 : Int) ≤ k := by omega
          have i3 : (k : Int) < nw := by omega
          obtain ⟨st3, ct3, r3, r4⟩ := replay_step (s0 := ([], st0, List.replicate c (0, 0))) rfl (by rw [RP'.out]) Smalls.zero he1 RUN.out
          have R3 := Lib.hid r3
          have RR := Lib.hid r4
          have HE := Lib.hid he1
          have EK := Lib.hid (show E.take (k + 1) = E.take k ++ [((x0, x1, x2, x3, x4, x5), x6)] by rw [List.take_add_one, he1, Option.toList_some])
          have RQ := Lib.hid (RI'.out _ (List.mem_of_getElem? he1))
          have KL := Lib.hid (show (E.take k).length ≤ 160 by rw [List.length_take, NW.out]; omega)
          clear he1 hbl r3 r4 p6
          subst ha
          go_wp2_with fail
          obtain ⟨w6, hw6⟩ : ∃ w6, w6 = wr.alloc (.cells #[.int .i64 x0, .int .i64 x1, .int .i64 x2, .int .i64 x3, .int .i64 x4, .int .i64 x5] 33) := ⟨_, rfl⟩
          rw [← hw6]
          have b6 : Below wr.heap.size wr w6 := by rw [hw6]; exact (Below.refl _ _).alloc (Nat.le_refl _) _
          have x6' : Blk w6 wr.heap.size 33 #[.int .i64 x0, .int .i64 x1, .int .i64 x2, .int .i64 x3, .int .i64 x4, .int .i64 x5] := by rw [hw6]; exact Blk.new _ _ _
          have v6 : VRow w6 (some ⟨wr.heap.size, 0, none⟩) 1 6 ([((x0, x1, x2, x3, x4, x5) : Rq)].flatMap rqc) := VRow.of_blk x6' rfl
          have sl := Y.out.lt
          refine (run_c S2 gy c (E.take k) st2 ct2 (some ⟨wr.heap.size, 0, none⟩) 1 1 [(x0, x1, x2, x3, x4, x5)] w6 (Y.out.below b6) v6 (fun _ p hp hm => by cases hp; have := sl _ hm; simp at this) rfl (by have := KL.out; omega) (by
            intro r hr
            rw [List.mem_singleton.1 hr]
            exact RQ.out) _ st3 ct3 R3.out 1 rfl).mono ?_
          rintro e w7 ⟨S7, a7, c7, rfl, hL7, ho7, hal7, hon7, hS7⟩
          have B6 := BB.out.trans (b6.mono BB.out.size)
          have B7 := Lib.hid (hon7.below B6 B6.size SY.out)
          have S7' := Lib.hid (show ∀ x ∈ S7, wo.heap.size ≤ x from fun x hx => by
            rcases hS7 x hx with h | h
            · exact SY.out x h
            · exact Nat.le_trans B6.size h)
          rw [← EK.out] at hL7
          have L7 := Lib.hid hL7
          obtain ⟨b', off', ha', _, e', he', p0', p1', p2', p3', p4', p5', p6'⟩ := ent_cells ((R4.out.below B.out).below B7.out) NW.out k hlk
          rw [HE.out] at he'
          cases he'
          cases ha'
          obtain ⟨b7, off7, ha7, _, e7, he7, q0, q1, q2, q3, q4, q5, q6⟩ := ent_cells (own_vrow ho7) rfl 0 (by simp)
          cases he7
          subst ha7
          simp only at p0' p1' p2' p3' p4' p5' p6' q0 q1 q2 q3 q4 q5 q6
          simp only [Nat.zero_mul, Nat.add_zero] at q0 q1 q2 q3 q4 q5 q6
          clear hw6 b6 x6' v6 sl hL7 ho7 hal7 hon7 hS7 B6 p0 p1 p2 p3 p4 p5
          go_upto_region 32 with fail
          go_quiet (fail)
          go_wp2_with fail
          go_roundw
          case rel => exact ⟨k + 1, S7, st3, ct3, by omega, by go_num, RR.out, L7.out.below (below_drewN (Below.refl _ _) _), S7'.out, below_drewN B7.out _⟩
          case measure => simp [intOf]; omega
        · have hkn : E.take k = E := List.take_of_length_le (by rw [NW.out]; omega)
          have Y1 : Led wr S2 gy c E st1 ct1 := by
            have h1 := RUN.out
            have h2 := RP'.out
            rw [hkn] at h1
            rw [h1] at h2
            injection h2 with _ h2
            injection h2 with h3 h4
            have := Y.out
            rw [hkn, h3, h4] at this
            exact this
          have Y9 := Lib.hid Y1
          have X9 := Lib.hid ((L4.out.below B.out).below BB.out)
          clear Y1 hkn
          go_wp2_with fail
          refine (lsame_c S2 gy c S gd c E st1 ct1 _ Y9.out X9.out (by rw [NW.out]; omega)).mono ?_; rintro e w7 ⟨rfl, hb7⟩
          have B7 := Lib.hid hb7
          clear hb7
          go_wp2_with fail
          refine (lstore_c S gd c E st1 ct1 _ (X9.out.below B7.out)).mono ?_; rintro e w8 ⟨g8, rfl, h8, hg8, hb8⟩
          have H8 := Lib.hid h8
          have B8 := Lib.hid (B7.out.trans (hb8.mono B7.out.size))
          clear h8 hg8 hb8
          go_wp2_with fail
          refine (lstore_c S2 gy c E st1 ct1 _ (Y9.out.below B8.out)).mono ?_; rintro e w9 ⟨g9, rfl, h9, hg9, hb9⟩
          have H9 := Lib.hid h9
          have H8' := Lib.hid (H8.out.below hb9)
          have B9 := Lib.hid (B8.out.trans (hb9.mono B8.out.size))
          clear h9 hg9 hb9
          go_wp2_with fail
          refine (ssame_c g8 g9 st1 st1 _ H8'.out H9.out true (by simp)).mono ?_; rintro e wa ⟨rfl, hba⟩
          have Ba := Lib.hid (B9.out.trans (hba.mono B9.out.size))
          clear hba
          go_wp2_with fail
          refine (lwakes_c _).mono ?_; rintro e wb ⟨rfl, hbb⟩
          go_wp2_with fail
          go_ret
          have t1 := B4.out.trans (B.out.mono B4.out.size)
          have t2 := t1.trans (BB.out.mono t1.size)
          have t3 := t2.trans (Ba.out.mono t2.size)
          exact ⟨rfl, t3.trans (hbb.mono t3.size)⟩

set_option maxRecDepth 100000 in
theorem lawWalk : LawWalk Try.checked 12 Try.f12 := by
  intro H enc W base args ds p hval hA hsz
  rw [Try.params12] at hA hval
  obtain ⟨v0, vs0, d0, ds0, p0, q0, hargs, rfl, rfl, h0, r0⟩ := trodAll_cons hA
  obtain ⟨v1, vs1, d1, ds1, p1, q1, rfl, rfl, rfl, h1, r1⟩ := trodAll_cons r0
  obtain ⟨rfl, rfl, rfl⟩ := trodAll_nil r1
  obtain rfl : args = #[v0, v1] := by cases args; simp_all
  obtain ⟨a0, rfl, rfl, rfl, w0⟩ := open_int Try.underlying3 (hval 0 3 v0 rfl rfl) h0
  obtain ⟨a1, n1, c1, R1, rfl, hnc1, hcm1, hr1⟩ := open_rows2 (k := 6) Try.underlying22 Try.underlying29 (by kernel_rfl) (by kernel_rfl) (by decide) (by kernel_rfl) (hval 1 22 v1 rfl rfl) h1
  exact walk a0 a1 n1 c1 R1 W (I64.of_wf w0) hr1 (Nat.le_trans hnc1 hcm1) hnc1

theorem lifted (os : Os) (started : os.Started) (H : Type) (enc : TypeId × Value → H) :
    ReturnsInHanded {} Try.checked os 12 .any (Rows.ledgerRepliesSpec.pre6 enc Try.prog Try.f12 Rows.ledgerRepliesRow.domain false) (Rows.ledgerRepliesSpec.post enc Try.prog Try.f12 false true false false) :=
  law_lift (C := Try.checked) (s := Rows.ledgerRepliesSpec) (tb := 4) (by kernel_rfl) started (by kernel_rfl) Try.func12
    (ChangeSpec.witness6 (enc := enc) (C := Try.checked) false ⟨#[], #[.int .i64 0, .slice none 0 0], []⟩ 8 (by kernel_rfl) (by kernel_rfl) (by kernel_rfl) (by kernel_rfl))
    rfl (fun H ds h => by
      match ds, h with
      | [d0, d1], _ => rfl) (by kernel_rfl) (by kernel_rfl) (by kernel_rfl) Try.underlying4 lawWalk

theorem over : Rows.ledgerRepliesRow.holds Try.pinned (OpenSpec.ofChange Rows.ledgerRepliesSpec) :=
  OpenClaim.holds_of_wide 12 Try.f12 rfl rfl rfl rfl rfl rfl rfl ⟨rfl, rfl, rfl, rfl, rfl⟩ rfl rfl rfl rfl rfl (by kernel_rfl) Try.func12 (by kernel_rfl)
    (of_decide_eq_true (by kernel_rfl)) (by unfold Func.isWrapper; first | (rw [if_pos (by decide +kernel)]; kernel_rfl) | (rw [if_neg (by decide +kernel)]; exact ⟨rfl, rfl⟩))
    (fun os started H enc _ => lifted os started H enc)

/-- The statement. -/
theorem proved : Rows.LedgerRepliesSaid := over
#print axioms proved

end Go.Proofs.Ytfhlcjfgbhmecaa.LedgerReplies
