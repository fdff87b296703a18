/- ChooseBatches: for all parts, instances and numbers the law returns true. No condition. -/
import Derived.Test.YtpkifmophmjilaaChooseHo
import Derived.Test.YtpkifmophmjilaaChooseV
import Derived.Test.YtpkifmophmjilaaHeavy
import Derived.Test.YtpkifmophmjilaaSame1
import Derived.Test.YtpkifmophmjilaaRows
namespace Go.Proofs.Ytpkifmophmjilaa.ChooseBatches
open Go.RowKit Go.ChangeShapes Go.WideShapes Go.ChangeAt
set_option linter.unusedVariables false

set_option maxRecDepth 100000 in
set_option maxHeartbeats 6400000 in
theorem walk (inst seq : Int) (a : Option Addr) (n c : Nat) (ps : List PD) (w : World) (hi : I64 inst) (hq : I64 seq) (h : Parts w a n c ps) :
    Calls Try.prog 10 #[.int .i64 inst, .int .i64 seq, .slice a n c] w fun e w' => e = .returned (.bool true) ∧ Below w.heap.size w w' := by
  have H := Lib.hid h
  clear h
  by_cases hL : Light n ps
  case neg =>
    have NL := Lib.hid hL
    clear hL
    go_enter Try.func10, Try.ntmps10
    go_wp2_with fail
    refine (heavy_c a n c ps _ H.out true ⟨(fun h => by cases h), fun h => absurd h NL.out⟩).mono ?_; rintro e w1 ⟨rfl, hb1⟩
    go_wp2_with fail
    refine (chwakes_c _).mono ?_; rintro e w2 ⟨rfl, hb2⟩
    go_wp2_with fail
    go_ret
    exact ⟨rfl, hb1.trans (hb2.mono hb1.size)⟩
  case pos =>
    have LI := Lib.hid hL
    have S := Lib.hid hL.small
    have n12 := hL.n
    obtain ⟨l, hl⟩ : ∃ l, batches inst ps = l := ⟨_, rfl⟩
    obtain ⟨m, hm⟩ : ∃ m, l.length = m := ⟨_, rfl⟩
    have m16 : m ≤ 16 := by
      have := (greatest_le inst ps).2
      rw [← hm, ← hl, batches_len]
      omega
    have LB : Hid (∀ y ∈ l, y.length ≤ 4096) := Lib.hid (by rw [← hl]; exact batches_small H.out S.out inst)
    have HL := Lib.hid hl
    have HM := Lib.hid hm
    obtain ⟨g, hg⟩ : ∃ g, greatest inst ps = g := ⟨_, rfl⟩
    have HG := Lib.hid hg
    obtain ⟨o, ho⟩ : ∃ o, best inst seq ps = o := ⟨_, rfl⟩
    have HO := Lib.hid ho
    obtain ⟨is, his⟩ : ∃ is, o.isSome = is := ⟨_, rfl⟩
    have HIS := Lib.hid his
    have OB : Hid ((bestC o).Is w ∧ (bestC o).bn ≤ 4096 ∧ (bestC o).vn ≤ 4096) := Lib.hid (by
      cases o with
      | none => exact zero_is w
      | some b =>
        obtain ⟨p, hp, hbp⟩ := List.mem_flatMap.1 (best_mem ho).1
        exact ⟨(H.out.is p hp).c.is b hbp, S.out.b p hp b hbp⟩)
    clear hL hl hm hg ho his
    go_enter Try.func10, Try.ntmps10
    go_wp2_with fail
    refine (heavy_c a n c ps _ H.out false ⟨fun _ => LI.out, fun _ => rfl⟩).mono ?_; rintro e w1 ⟨rfl, hb1⟩
    have B1 := Lib.hid hb1
    clear hb1
    go_wp2_with fail
    refine (batches_c inst a n c ps _ (H.out.below B1.out) S.out hi l HL.out m HM.out).mono ?_; rintro e w2 ⟨a2, c2, rfl, hbt, hb2⟩
    have BT2 := Lib.hid hbt
    have B2 := Lib.hid (B1.out.trans (hb2.mono B1.out.size))
    clear hbt hb2
    go_wp2_with fail
    refine (rbatches_c inst a n c ps _ (H.out.below B2.out) S.out hi l HL.out m HM.out).mono ?_; rintro e w3 ⟨a3, c3, rfl, hbt, hb3⟩
    have BT3 := Lib.hid hbt
    have BU3 := Lib.hid (BT2.out.below hb3)
    have B3 := Lib.hid (B2.out.trans (hb3.mono B2.out.size))
    clear hbt hb3 BT2
    go_wp2_with fail
    refine (greatest_c inst a n c ps _ (H.out.below B3.out) S.out hi g HG.out).mono ?_; rintro e w4 ⟨rfl, hb4⟩
    have BT4 := Lib.hid (BT3.out.below hb4)
    have BU4 := Lib.hid (BU3.out.below hb4)
    have B4 := Lib.hid (B3.out.trans (hb4.mono B3.out.size))
    clear hb4 BT3 BU3
    go_wp2_with fail
    refine (rgreatest_c inst a n c ps _ (H.out.below B4.out) S.out hi g HG.out).mono ?_; rintro e w5 ⟨rfl, hb5⟩
    have BT5 := Lib.hid (BT4.out.below hb5)
    have BU5 := Lib.hid (BU4.out.below hb5)
    have B5 := Lib.hid (B4.out.trans (hb5.mono B4.out.size))
    have gg : (g != g) = false := by simp
    clear hb5 BT4 BU4
    go_wp2_with fail
    refine (kbatches_c _ _ a2 a3 m m c2 c3 l l _ BU5.out BT5.out m16 LB.out true (decide_eq_true rfl)).mono ?_; rintro e w6 ⟨rfl, hb6⟩
    have BT6 := Lib.hid (BT5.out.below hb6)
    have B6 := Lib.hid (B5.out.trans (hb6.mono B5.out.size))
    clear hb6 BT5 BU5
    go_wp2_with fail
    refine (best_c inst seq a n c ps _ (H.out.below B6.out) S.out hi hq o HO.out is HIS.out).mono ?_; rintro e w7 ⟨d, rfl, hd, hlike, hown, hb7⟩
    have BT7 := Lib.hid (BT6.out.below hb7)
    have B7 := Lib.hid (B6.out.trans (hb7.mono B6.out.size))
    have D7 := Lib.hid hd
    have LK := Lib.hid hlike
    have D4 := Lib.hid (show d.bn ≤ 4096 ∧ d.vn ≤ 4096 by rw [hlike.bn, hlike.vn]; exact OB.out.2)
    clear hb7 hd hlike hown BT6
    obtain ⟨⟨dv, di, ds, dba, dbn, dbc, dbs, dva, dvn, dvc, dvs⟩, hde⟩ : ∃ x, x = d := ⟨_, rfl⟩
    rw [← hde] at D7 LK D4 ⊢
    simp only [ccell]
    clear hde
    go_upto_region 8 with fail
    obtain ⟨w8, hw8⟩ : ∃ w8, w8 = w7.alloc (.cells #[.int .i64 dv, .int .i64 di, .int .i64 ds, .slice dba dbn dbc, .slice dva dvn dvc] 36) := ⟨_, rfl⟩
    obtain ⟨g8, hg8⟩ : ∃ g8, g8 = w7.heap.size := ⟨_, rfl⟩
    rw [← hw8, ← hg8]
    have b8 : Below w7.heap.size w7 w8 := by rw [hw8]; exact (Below.refl _ _).alloc (Nat.le_refl _) _
    have K8 : Hid (Blk w8 g8 36 #[.int .i64 dv, .int .i64 di, .int .i64 ds, .slice dba dbn dbc, .slice dva dvn dvc]) := Lib.hid (by rw [hw8, hg8]; exact Blk.new _ _ _)
    have D8 := Lib.hid (D7.out.below b8)
    have BT8 := Lib.hid (BT7.out.below b8)
    have B8 := Lib.hid (B7.out.trans (b8.mono B7.out.size))
    clear hw8 hg8 b8 D7 BT7
    go_wp2_with fail
    refine (rbest_c inst seq a n c ps _ (H.out.below B8.out) S.out hi hq o HO.out is HIS.out).mono ?_; rintro e w9 ⟨rfl, hb9⟩
    have BT9 := Lib.hid (BT8.out.below hb9)
    have B9 := Lib.hid (B8.out.trans (hb9.mono B8.out.size))
    have D9 := Lib.hid (D8.out.below hb9)
    have K9 := Lib.hid (K8.out.below hb9 K8.out.lt)
    have Z8 := Lib.hid (Nat.lt_of_lt_of_le K8.out.lt hb9.size)
    have O9 := Lib.hid (OB.out.1.below B9.out)
    clear hb9 BT8 D8 K8
    obtain ⟨⟨ov, oi, os, oba, obn, obc, obs, ova, ovn, ovc, ovs⟩, hoe⟩ : ∃ x, x = bestC o := ⟨_, rfl⟩
    rw [← hoe] at O9 LK ⊢
    simp only [ccell]
    clear hoe
    go_upto_region 9 with fail
    obtain ⟨wa, hwa⟩ : ∃ wa, wa = w9.alloc (.cells #[.int .i64 ov, .int .i64 oi, .int .i64 os, .slice oba obn obc, .slice ova ovn ovc] 36) := ⟨_, rfl⟩
    obtain ⟨ga, hga⟩ : ∃ ga, ga = w9.heap.size := ⟨_, rfl⟩
    rw [← hwa, ← hga]
    have ba : Below w9.heap.size w9 wa := by rw [hwa]; exact (Below.refl _ _).alloc (Nat.le_refl _) _
    have KA : Hid (Blk wa ga 36 #[.int .i64 ov, .int .i64 oi, .int .i64 os, .slice oba obn obc, .slice ova ovn ovc]) := Lib.hid (by rw [hwa, hga]; exact Blk.new _ _ _)
    have LA := Lib.hid (K9.out.below ba K9.out.lt)
    have DA := Lib.hid (D9.out.below ba)
    have OA := Lib.hid (O9.out.below ba)
    have BTA := Lib.hid (BT9.out.below ba)
    have BA := Lib.hid (B9.out.trans (ba.mono B9.out.size))
    have x0 : wa.cell? ⟨g8, 0, none⟩ = some (.int .i64 dv) := LA.out.cell 0
    have x1 : wa.cell? ⟨g8, 1, none⟩ = some (.int .i64 di) := LA.out.cell 1
    have x2 : wa.cell? ⟨g8, 2, none⟩ = some (.int .i64 ds) := LA.out.cell 2
    have x3 : wa.cell? ⟨g8, 3, none⟩ = some (.slice dba dbn dbc) := LA.out.cell 3
    have x4 : wa.cell? ⟨g8, 4, none⟩ = some (.slice dva dvn dvc) := LA.out.cell 4
    have y0 : wa.cell? ⟨ga, 0, none⟩ = some (.int .i64 ov) := KA.out.cell 0
    have y1 : wa.cell? ⟨ga, 1, none⟩ = some (.int .i64 oi) := KA.out.cell 1
    have y2 : wa.cell? ⟨ga, 2, none⟩ = some (.int .i64 os) := KA.out.cell 2
    have y3 : wa.cell? ⟨ga, 3, none⟩ = some (.slice oba obn obc) := KA.out.cell 3
    have y4 : wa.cell? ⟨ga, 4, none⟩ = some (.slice ova ovn ovc) := KA.out.cell 4
    have ii : (is != is) = false := by simp
    clear hwa hga ba K9 D9 O9 BT9 B9 KA LA
    go_wp2_with fail
    refine (kcert_c _ _ _ DA.out OA.out LK.out D4.out).mono ?_; rintro e wb ⟨rfl, hbb⟩
    have BTB := Lib.hid (BTA.out.below hbb)
    have BB := Lib.hid (BA.out.trans (hbb.mono BA.out.size))
    clear hbb BTA BA DA OA x0 x1 x2 x3 x4 y0 y1 y2 y3 y4 ii
    go_wp2_with fail
    go_loopw [65] (fun i wr => ∃ k : Nat, k ≤ n ∧ i = .int .i64 k ∧ Below wb.heap.size wb wr) (fun i _ => n - (intOf i).toNat)
    case atStart => exact ⟨0, by omega, rfl, Below.refl _ _⟩
    case round =>
      obtain ⟨k, hk, rfl, hbr⟩ := hrel
      have BR := Lib.hid hbr
      by_cases hlt : k < n
      · have BW := BB.out.trans (hbr.mono BB.out.size)
        obtain ⟨b, off, rfl, hbl, p, hp, hpI, p0, p1, p2, p3⟩ := H.out.get hlt
        have q2 := kept BW _ _ p2
        have p4 : p.cn ≤ 4096 := S.out.c p (List.mem_of_getElem? hp)
        have CI := Lib.hid hpI.c
        have SB := Lib.hid (S.out.b p (List.mem_of_getElem? hp))
        obtain ⟨⟨pf, pva, pvn, pvc, pvs, pca, pcn, pcc, pcs, pse⟩, hpe⟩ : ∃ q, q = p := ⟨_, rfl⟩
        rw [← hpe] at p2 q2 p4 CI SB
        simp only at p2 q2 p4 CI SB
        have P2 := Lib.hid p2
        have i0 : (0 : Int) ≤ k := by omega
        have i1 : (k : Int) < n := by omega
        clear hp hpI hpe hbr BW hbl p0 p1 p2 p3
        go_wp2_with fail
        go_loopw [74] (fun i wx => ∃ q : Nat, q ≤ pcn ∧ i = .int .i64 q ∧ Below wb.heap.size wb wx) (fun i _ => pcn - (intOf i).toNat)
        case atStart => exact ⟨0, by omega, rfl, BR.out⟩
        case round =>
          obtain ⟨q, hqq, rfl, hbx⟩ := hrel
          have BX := Lib.hid hbx
          have BWX := BB.out.trans (hbx.mono BB.out.size)
          have W2 := kept BWX _ _ P2.out
          by_cases hq2 : q < pcn
          · obtain ⟨b3, o3, rfl, hbl3, x, hx, hxI, x0, x1, x2, x3, x4⟩ := CI.out.get hq2
            have y0 := kept BWX _ _ x0
            have y1 := kept BWX _ _ x1
            have y2 := kept BWX _ _ x2
            have y3 := kept BWX _ _ x3
            have y4 := kept BWX _ _ x4
            have XI := Lib.hid hxI
            have X4 := Lib.hid (SB.out x (List.mem_of_getElem? hx))
            have BWH := Lib.hid BWX
            obtain ⟨⟨xv, xi, xs, xba, xbn, xbc, xbs, xva, xvn, xvc, xvs⟩, hxe⟩ : ∃ z, z = x := ⟨_, rfl⟩
            rw [← hxe] at y0 y1 y2 y3 y4 XI X4
            simp only at y0 y1 y2 y3 y4 X4
            have j0 : (0 : Int) ≤ q := by omega
            have j1 : (q : Int) < pcn := by omega
            clear hx hxI hxe x0 x1 x2 x3 x4 hbl3 hbx BWX
            go_upto_region 18 with fail
            obtain ⟨wc, hwc⟩ : ∃ wc, wc = wr.alloc (.cells #[.int .i64 xv, .int .i64 xi, .int .i64 xs, .slice xba xbn xbc, .slice xva xvn xvc] 36) := ⟨_, rfl⟩
            obtain ⟨gc, hgc⟩ : ∃ gc, gc = wr.heap.size := ⟨_, rfl⟩
            rw [← hwc, ← hgc]
            have bc : Below wr.heap.size wr wc := by rw [hwc]; exact (Below.refl _ _).alloc (Nat.le_refl _) _
            have KC : Hid (Blk wc gc 36 #[.int .i64 xv, .int .i64 xi, .int .i64 xs, .slice xba xbn xbc, .slice xva xvn xvc]) := Lib.hid (by rw [hwc, hgc]; exact Blk.new _ _ _)
            have BC := Lib.hid (BX.out.trans (bc.mono BX.out.size))
            have BWC := Lib.hid (BWH.out.trans (bc.mono BWH.out.size))
            have XC := Lib.hid (XI.out.below BWC.out)
            have BTC := Lib.hid (BTB.out.below BC.out)
            have HC := Lib.hid (H.out.below BWC.out)
            have c0 : wc.cell? ⟨gc, 0, none⟩ = some (.int .i64 xv) := KC.out.cell 0
            have c1 : wc.cell? ⟨gc, 1, none⟩ = some (.int .i64 xi) := KC.out.cell 1
            have c2 : wc.cell? ⟨gc, 2, none⟩ = some (.int .i64 xs) := KC.out.cell 2
            have c3 : wc.cell? ⟨gc, 3, none⟩ = some (.slice xba xbn xbc) := KC.out.cell 3
            have c4 : wc.cell? ⟨gc, 4, none⟩ = some (.slice xva xvn xvc) := KC.out.cell 4
            have X0 := fun (x : Later wc) => x.cell c0
            have X1 := fun (x : Later wc) => x.cell c1
            have X2 := fun (x : Later wc) => x.cell c2
            have X3 := fun (x : Later wc) => x.cell c3
            clear hwc hgc bc y0 y1 y2 y3 y4 W2 BWH
            by_cases h0 : xi = inst
            case neg =>
              have e1 : (xi == inst) = false := beq_eq_false_iff_ne.2 h0
              clear h0
              refine wp_region_later (by kernel_rfl) (by kernel_rfl) ?_
              repeat (go_big_quiet_step (fail))
              refine wpQuiet_nil ?_
              rintro _ ⟨x, rfl⟩
              have z1 := X1 x
              clear X0 X1 X2 X3 c0 c1 c2 c3 c4
              go_wp2_with fail
              go_roundw
              case rel => exact ⟨q + 1, by omega, by go_num, BC.out.trans (x.b.mono BC.out.size)⟩
              case measure => simp [intOf]; omega
            case pos =>
              subst h0
              have X4' := fun (x : Later wc) => x.cell c4
              have LEN : Hid ((batches xi ps).length = m) := Lib.hid (by rw [HL.out, HM.out])
              rcases (show (1 ≤ xs ∧ xs ≤ m) ∨ (1 ≤ xs ∧ ¬ xs ≤ m) ∨ ¬ 1 ≤ xs by omega) with ⟨h1, h2⟩ | ⟨h1, h2⟩ | h1
              case inr.inr =>
                have d1 : decide (1 ≤ xs) = false := decide_eq_false h1
                have IFF : Hid (false = true ↔ holdsP ps ⟨xv, xi, xs, xba, xbn, xbc, xbs, xva, xvn, xvc, xvs⟩) := Lib.hid ⟨(fun h => by cases h), fun h => absurd h.1 h1⟩
                clear h1
                refine wp_region_later (by kernel_rfl) (by kernel_rfl) ?_
                repeat (go_big_quiet_step (fail))
                refine wpQuiet_nil ?_
                rintro _ ⟨x, rfl⟩
                clear d1
                have XCX := Lib.hid (XC.out.below x.b)
                have HCX := Lib.hid (HC.out.below x.b)
                have BCX := Lib.hid (BC.out.trans (x.b.mono BC.out.size))
                have z0 := X0 x
                have z1 := X1 x
                have z2 := X2 x
                have z3 := X3 x
                have z4 := X4' x
                obtain ⟨we, hwe⟩ : ∃ we, we = x.w := ⟨_, rfl⟩
                rw [← hwe] at XCX HCX BCX z0 z1 z2 z3 z4 ⊢
                clear hwe X0 X1 X2 X3 X4' c0 c1 c2 c3 c4
                go_wp2_with fail
                refine (holds_c ⟨xv, xi, xs, xba, xbn, xbc, xbs, xva, xvn, xvc, xvs⟩ _ n c ps _ HCX.out S.out XCX.out false IFF.out).mono ?_; rintro e wf ⟨rfl, hbf⟩
                have BF := Lib.hid (BCX.out.trans (hbf.mono BCX.out.size))
                clear hbf z0 z1 z2 z3 z4
                go_wp2_with fail
                go_roundw
                case rel => exact ⟨q + 1, by omega, by go_num, BF.out⟩
                case measure => simp [intOf]; omega
              case inr.inl =>
                have d1 : decide (1 ≤ xs) = true := decide_eq_true h1
                have d2 : decide (xs ≤ m) = false := decide_eq_false h2
                have IFF : Hid (false = true ↔ holdsP ps ⟨xv, xi, xs, xba, xbn, xbc, xbs, xva, xvn, xvc, xvs⟩) := Lib.hid ⟨(fun h => by cases h), fun h => absurd (by have h3 := h.2.1; rw [LEN.out] at h3; exact h3) h2⟩
                clear h1 h2
                refine wp_region_later (by kernel_rfl) (by kernel_rfl) ?_
                repeat (go_big_quiet_step (fail))
                refine wpQuiet_nil ?_
                rintro _ ⟨x, rfl⟩
                clear d1 d2
                have XCX := Lib.hid (XC.out.below x.b)
                have HCX := Lib.hid (HC.out.below x.b)
                have BCX := Lib.hid (BC.out.trans (x.b.mono BC.out.size))
                have z0 := X0 x
                have z1 := X1 x
                have z2 := X2 x
                have z3 := X3 x
                have z4 := X4' x
                obtain ⟨we, hwe⟩ : ∃ we, we = x.w := ⟨_, rfl⟩
                rw [← hwe] at XCX HCX BCX z0 z1 z2 z3 z4 ⊢
                clear hwe X0 X1 X2 X3 X4' c0 c1 c2 c3 c4
                go_wp2_with fail
                refine (holds_c ⟨xv, xi, xs, xba, xbn, xbc, xbs, xva, xvn, xvc, xvs⟩ _ n c ps _ HCX.out S.out XCX.out false IFF.out).mono ?_; rintro e wf ⟨rfl, hbf⟩
                have BF := Lib.hid (BCX.out.trans (hbf.mono BCX.out.size))
                clear hbf z0 z1 z2 z3 z4
                go_wp2_with fail
                go_roundw
                case rel => exact ⟨q + 1, by omega, by go_num, BF.out⟩
                case measure => simp [intOf]; omega
              case inl =>
                obtain ⟨r, hr⟩ : ∃ r : Nat, xs = (r : Int) + 1 := ⟨(xs - 1).toNat, by omega⟩
                have hrm : r < m := by omega
                obtain ⟨b6, o6, ha3, hl6, ya, yn, yc, ys, hy, q0, r0⟩ := BTC.out.get hrm
                subst ha3
                obtain ⟨bb, hbb⟩ : ∃ bb, decide (ys = xbs) = bb := ⟨_, rfl⟩
                have HBB := Lib.hid hbb
                have IFF : Hid (bb = true ↔ holdsP ps ⟨xv, xi, xs, xba, xbn, xbc, xbs, xva, xvn, xvc, xvs⟩) := Lib.hid (by
                  unfold holdsP
                  simp only
                  rw [LEN.out, HL.out, show (xs - 1).toNat = r by omega, hy, ← hbb, decide_eq_true_eq]
                  exact ⟨fun h => ⟨h1, h2, by rw [h]⟩, fun h => Option.some.inj h.2.2⟩)
                have R0 := Lib.hid r0
                have y4 : yn ≤ 4096 := by rw [← r0.len]; exact LB.out ys (List.mem_of_getElem? hy)
                have XB := Lib.hid XC.out.b
                have d1 : decide (1 ≤ xs) = true := decide_eq_true h1
                have d2 : decide (xs ≤ m) = true := decide_eq_true h2
                have d3 : ¬ xs < 1 := by omega
                have j2 : (0 : Int) ≤ r := by omega
                have j3 : (r : Int) < m := by omega
                have e9 : IntKind.i64.wrap (xs - 1) = r := by rw [IntWalk.i64_in _ (by omega)]; omega
                have X5 := fun (x : Later wc) => x.cell q0
                clear hy hbb r0 q0 hr h1 h2
                refine wp_region_later (by kernel_rfl) (by kernel_rfl) ?_
                repeat (go_big_quiet_step (first
                  | (go_at_call 23; exact Later.call (same_1 ya xba yn xbn yc xbc ys xbs _ (R0.out.below (Later.b _)) (XB.out.below (Later.b _)) y4 _ HBB.out))))
                refine wpQuiet_nil ?_
                rintro _ ⟨x, rfl⟩
                have bn : (bb != bb) = false := by simp
                clear d1 d2 d3 e9 X5
                have XCX := Lib.hid (XC.out.below x.b)
                have HCX := Lib.hid (HC.out.below x.b)
                have BCX := Lib.hid (BC.out.trans (x.b.mono BC.out.size))
                have z0 := X0 x
                have z1 := X1 x
                have z2 := X2 x
                have z3 := X3 x
                have z4 := X4' x
                obtain ⟨we, hwe⟩ : ∃ we, we = x.w := ⟨_, rfl⟩
                rw [← hwe] at XCX HCX BCX z0 z1 z2 z3 z4 ⊢
                clear hwe X0 X1 X2 X3 X4' c0 c1 c2 c3 c4
                go_wp2_with fail
                refine (holds_c ⟨xv, xi, xs, xba, xbn, xbc, xbs, xva, xvn, xvc, xvs⟩ _ n c ps _ HCX.out S.out XCX.out bb IFF.out).mono ?_; rintro e wf ⟨rfl, hbf⟩
                have BF := Lib.hid (BCX.out.trans (hbf.mono BCX.out.size))
                clear hbf z0 z1 z2 z3 z4
                go_wp2_with fail
                go_roundw
                case rel => exact ⟨q + 1, by omega, by go_num, BF.out⟩
                case measure => simp [intOf]; omega
          · have hq3 : q = pcn := by omega
            clear hq3 hbx BWX
            go_wp2_with fail
            go_roundw
            case rel => exact ⟨k + 1, by omega, by go_num, BX.out⟩
            case measure => simp [intOf]; omega
      · clear hbr
        go_wp2_with fail
        refine (chwakes_c _).mono ?_; rintro e wz ⟨rfl, hbz⟩
        go_wp2_with fail
        go_ret
        exact ⟨rfl, (BB.out.trans (BR.out.mono BB.out.size)).trans (hbz.mono (BB.out.trans (BR.out.mono BB.out.size)).size)⟩


set_option maxRecDepth 100000 in
theorem lawWalk : LawWalk Try.checked 10 Try.f10 := by
  intro H enc W base args ds p hval hA hsz
  rw [Try.params10] at hA hval
  obtain ⟨v0, vs0, d0, ds0, p0, q0, hargs, rfl, rfl, h0, r0⟩ := trodAll_cons hA
  obtain ⟨v1, vs1, d1, ds1, p1, q1, rfl, rfl, rfl, h1, r1⟩ := trodAll_cons r0
  obtain ⟨v2, vs2, d2, ds2, p2, q2, rfl, rfl, rfl, h2, r2⟩ := trodAll_cons r1
  obtain ⟨rfl, rfl, rfl⟩ := trodAll_nil r2
  obtain rfl : args = #[v0, v1, v2] := by cases args; simp_all
  obtain ⟨a0, rfl, rfl, rfl, w0⟩ := open_int Try.underlying3 (hval 0 3 v0 rfl rfl) h0
  obtain ⟨a1, rfl, rfl, rfl, w1⟩ := open_int Try.underlying3 (hval 1 3 v1 rfl rfl) h1
  obtain ⟨a2, n2, c2, ps2, rfl, hr2⟩ := open_parts (hval 2 22 v2 rfl rfl) h2
  exact walk a0 a1 a2 n2 c2 ps2 W (I64.of_wf w0) (I64.of_wf w1) hr2

theorem lifted (os : Os) (started : os.Started) (H : Type) (enc : TypeId × Value → H) :
    ReturnsInHanded {} Try.checked os 10 .any (Rows.chooseBatchesSpec.pre6 enc Try.prog Try.f10 Rows.chooseBatchesRow.domain false) (Rows.chooseBatchesSpec.post enc Try.prog Try.f10 false true false false) :=
  law_lift (C := Try.checked) (s := Rows.chooseBatchesSpec) (tb := 4) (by kernel_rfl) started (by kernel_rfl) Try.func10
    (ChangeSpec.witness6 (enc := enc) (C := Try.checked) false ⟨#[], #[.int .i64 0, .int .i64 0, .slice none 0 0], []⟩ 8 (by kernel_rfl) (by kernel_rfl) (by kernel_rfl) (by kernel_rfl))
    rfl (fun H ds h => by
      match ds, h with
      | [d0, d1, d2], _ => rfl) (by kernel_rfl) (by kernel_rfl) (by kernel_rfl) Try.underlying4 lawWalk

theorem over : Rows.chooseBatchesRow.holds Try.pinned (OpenSpec.ofChange Rows.chooseBatchesSpec) :=
  OpenClaim.holds_of_wide 10 Try.f10 rfl rfl rfl rfl rfl rfl rfl ⟨rfl, rfl, rfl, rfl, rfl⟩ rfl rfl rfl rfl rfl (by kernel_rfl) Try.func10 (by kernel_rfl)
    (of_decide_eq_true (by kernel_rfl)) (by unfold Func.isWrapper; first | (rw [if_pos (by decide +kernel)]; kernel_rfl) | (rw [if_neg (by decide +kernel)]; exact ⟨rfl, rfl⟩))
    (fun os started H enc _ => lifted os started H enc)

/-- The statement. -/
theorem proved : Rows.ChooseBatchesSaid := over
#print axioms proved

end Go.Proofs.Ytpkifmophmjilaa.ChooseBatches
