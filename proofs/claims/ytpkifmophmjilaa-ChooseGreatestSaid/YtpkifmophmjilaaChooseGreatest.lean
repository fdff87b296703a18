/- ChooseGreatest: for all parts and instances the law returns true. No condition. -/
import Derived.Test.YtpkifmophmjilaaChooseQ
import Derived.Test.YtpkifmophmjilaaChooseV
import Derived.Test.YtpkifmophmjilaaHeavy
import Derived.Test.YtpkifmophmjilaaRows
namespace Go.Proofs.Ytpkifmophmjilaa.ChooseGreatest
open Go.RowKit Go.ChangeShapes Go.WideShapes Go.ChangeAt
set_option linter.unusedVariables false

theorem g_no {inst seq : Int} {lk : List Rq} {p : Nat} {s : GSt} {c : CD} (h : ¬ (c.inst = inst ∧ c.seq = seq)) : gStep inst seq lk p s c = s := by unfold gStep; exact if_neg h
theorem g_zero {inst seq : Int} {lk : List Rq} {s : GSt} {c : CD} (h : c.inst = inst ∧ c.seq = seq) : gStep inst seq lk 0 s c = (if s.2.1 = false ∨ s.1 < c.view then c.view else s.1, true, s.2.2) := by
  unfold gStep; rw [if_pos (show gMatch inst seq c from h), if_pos rfl]
theorem g_one {inst seq : Int} {lk : List Rq} {s : GSt} {c : CD} (h : c.inst = inst ∧ c.seq = seq) : gStep inst seq lk 1 s c = (s.1, s.2.1, if c.view = s.1 ∧ c.bs = lk then true else s.2.2) := by
  unfold gStep; rw [if_pos (show gMatch inst seq c from h), if_neg (by decide)]

set_option maxRecDepth 100000 in
set_option maxHeartbeats 12800000 in
theorem walk (inst : Int) (a : Option Addr) (n c : Nat) (ps : List PD) (w : World) (hi : I64 inst) (h : Parts w a n c ps) :
    Calls Try.prog 6 #[.int .i64 inst, .slice a n c] w fun e w' => e = .returned (.bool true) ∧ Below w.heap.size w w' := by
  have H := Lib.hid h
  clear h
  by_cases hL : Light n ps
  case neg =>
    have NL := Lib.hid hL
    clear hL
    go_enter Try.func6, Try.ntmps6
    go_wp2_with fail
    refine (heavy_c a n c ps _ H.out true ⟨(fun h => by cases h), fun h => absurd h NL.out⟩).mono ?_; rintro e w1 ⟨rfl, hb1⟩
    go_wp2_with fail
    refine (chwakes_c _).mono ?_; rintro e w2 ⟨rfl, hb2⟩
    go_wp2_with fail
    go_ret
    exact ⟨rfl, hb1.trans (hb2.mono hb1.size)⟩
  case pos =>
    have LI := Lib.hid hL
    have S := Lib.hid hL.small
    have n12 := hL.n
    obtain ⟨l, hl⟩ : ∃ l, batches inst ps = l := ⟨_, rfl⟩
    obtain ⟨m, hm⟩ : ∃ m, l.length = m := ⟨_, rfl⟩
    have hmg : greatest inst ps = (m : Int) := by
      have h1 := (greatest_le inst ps).1
      have h2 := batches_len inst ps
      rw [hl, hm] at h2
      omega
    have m16 : m ≤ 16 := by have := (greatest_le inst ps).2; omega
    have LB : Hid (∀ y ∈ l, y.length ≤ 4096) := Lib.hid (by rw [← hl]; exact batches_small H.out S.out inst)
    have HL := Lib.hid hl
    have HM := Lib.hid hm
    have HMG := Lib.hid hmg
    clear hL hl hm hmg
    go_enter Try.func6, Try.ntmps6
    go_wp2_with fail
    refine (heavy_c a n c ps _ H.out false ⟨fun _ => LI.out, fun _ => rfl⟩).mono ?_; rintro e w1 ⟨rfl, hb1⟩
    have B1 := Lib.hid hb1
    clear hb1
    go_wp2_with fail
    refine (batches_c inst a n c ps _ (H.out.below B1.out) S.out hi l HL.out m HM.out).mono ?_; rintro e w2 ⟨a2, c2, rfl, hbt, hb2⟩
    have BT := Lib.hid hbt
    have B2 := Lib.hid (B1.out.trans (hb2.mono B1.out.size))
    clear hbt hb2
    go_wp2_with fail
    go_loopw [23] (fun i wr => ∃ k : Nat, k ≤ m ∧ i = .int .i64 k ∧ Below w2.heap.size w2 wr) (fun i _ => m - (intOf i).toNat)
    case atStart => exact ⟨0, by omega, rfl, Below.refl _ _⟩
    case round =>
      obtain ⟨k, hk, rfl, hbr⟩ := hrel
      have BR := Lib.hid hbr
      by_cases hlt : k < m
      · obtain ⟨b6, o6, rfl, hl6, ya, yn, yc, ys, hy, q0, r0⟩ := BT.out.get hlt
        have Q0 := Lib.hid q0
        have R0 := Lib.hid r0
        have y4 : yn ≤ 4096 := by rw [← r0.len]; exact LB.out ys (List.mem_of_getElem? hy)
        have YL := Lib.hid r0.len
        have LKE : Hid (batchOf inst ((k : Int) + 1) ps = ys) := Lib.hid (by
          have h1 := batches_get inst ps k (by have := HMG.out; omega)
          rw [HL.out, hy] at h1
          exact (Option.some.inj h1).symm)
        have END : Hid ((gPass inst ((k : Int) + 1) ys ps 2).2.1 = true → (gPass inst ((k : Int) + 1) ys ps 2).2.2 = true) := Lib.hid (by have := (gEnd inst ((k : Int) + 1) ps).1; rwa [LKE.out] at this)
        have END2 : Hid ((gPass inst ((k : Int) + 1) ys ps 2).2.1 = false → ys = []) := Lib.hid (by have := (gEnd inst ((k : Int) + 1) ps).2; rwa [LKE.out] at this)
        obtain ⟨sq, hsq⟩ : ∃ sq, sq = (k : Int) + 1 := ⟨_, rfl⟩
        rw [← hsq] at END END2
        have e9 : IntKind.i64.wrap ((k : Int) + 1) = sq := by rw [IntWalk.i64_in _ (by omega), hsq]
        have SQ := Lib.hid hsq
        have i0 : (0 : Int) ≤ k := by omega
        have i1 : (k : Int) < m := by omega
        clear hy q0 r0 hbr hl6 hsq
        go_wp2_with fail
        go_loopw [7, 8, 9, 10] (fun v1 v2 v3 i wx => ∃ (q : Nat) (qi : Int), ((q = 0 ∧ qi = 0) ∨ (q = 1 ∧ qi = 1) ∨ (q = 2 ∧ qi = 2)) ∧ i = .int .i64 qi ∧ v1 = .int .i64 (gPass inst sq ys ps q).1 ∧ v2 = .bool (gPass inst sq ys ps q).2.1 ∧ v3 = .bool (gPass inst sq ys ps q).2.2 ∧ Below w2.heap.size w2 wx) (fun _ _ _ i _ => 2 - (intOf i).toNat)
        case atStart => exact ⟨0, 0, by omega, rfl, rfl, rfl, rfl, BR.out⟩
        case round =>
          obtain ⟨q, qi, hqq, rfl, rfl, rfl, rfl, hbx⟩ := hrel
          have BX := Lib.hid hbx
          rcases hqq with ⟨rfl, rfl⟩ | ⟨rfl, rfl⟩ | ⟨rfl, rfl⟩
          · obtain ⟨S0, hS0⟩ : ∃ s, s = gPass inst sq ys ps 0 := ⟨_, rfl⟩
            rw [← hS0]
            obtain ⟨G, hG⟩ : ∃ G : GSt → PD → GSt, G = fun s q => q.cs.foldl (gStep inst sq ys 0) s := ⟨_, rfl⟩
            have NXP : Hid (gPass inst sq ys ps 1 = ps.foldl G S0) := Lib.hid (by rw [hG, hS0]; rfl)
            have HG := Lib.hid hG
            clear hS0 hG hbx
            go_wp2_with fail
            go_loopw [7, 8, 9, 32] (fun v1 v2 v3 i wy => ∃ j : Nat, j ≤ n ∧ i = .int .i64 j ∧ ∃ s : GSt, s = (ps.take j).foldl G S0 ∧ v1 = .int .i64 s.1 ∧ v2 = .bool s.2.1 ∧ v3 = .bool s.2.2 ∧ Below w2.heap.size w2 wy) (fun _ _ _ i _ => n - (intOf i).toNat)
            case atStart => exact ⟨0, by omega, rfl, S0, rfl, rfl, rfl, rfl, BX.out⟩
            case round =>
              obtain ⟨j, hj, rfl, s, hs, rfl, rfl, rfl, hby⟩ := hrel
              have BY := Lib.hid hby
              by_cases hjn : j < n
              · have BWY := B2.out.trans (hby.mono B2.out.size)
                obtain ⟨b, off, rfl, hbl, p, hp, hpI, p0, p1, p2, p3⟩ := H.out.get hjn
                have q2 := kept BWY _ _ p2
                have p4 : p.cn ≤ 4096 := S.out.c p (List.mem_of_getElem? hp)
                have CI := Lib.hid hpI.c
                have SB := Lib.hid (S.out.b p (List.mem_of_getElem? hp))
                have NXJ : Hid ((ps.take (j + 1)).foldl G S0 = p.cs.foldl (gStep inst sq ys 0) s) := Lib.hid (by rw [foldl_take_succ G S0 ps j p hp, ← hs, HG.out])
                obtain ⟨⟨pf, pva, pvn, pvc, pvs, pca, pcn, pcc, pcs, pse⟩, hpe⟩ : ∃ q, q = p := ⟨_, rfl⟩
                rw [← hpe] at p2 q2 p4 CI SB NXJ
                simp only at p2 q2 p4 CI SB NXJ
                have P2 := Lib.hid p2
                have i2 : (0 : Int) ≤ j := by omega
                have i3 : (j : Int) < n := by omega
                clear hp hpI hpe hby BWY hbl p0 p1 p2 p3 hs
                go_wp2_with fail
                go_loopw [7, 8, 9, 41] (fun v1 v2 v3 i wz => ∃ r : Nat, r ≤ pcn ∧ i = .int .i64 r ∧ ∃ s2 : GSt, s2 = (pcs.take r).foldl (gStep inst sq ys 0) s ∧ v1 = .int .i64 s2.1 ∧ v2 = .bool s2.2.1 ∧ v3 = .bool s2.2.2 ∧ Below w2.heap.size w2 wz) (fun _ _ _ i _ => pcn - (intOf i).toNat)
                case atStart => exact ⟨0, by omega, rfl, s, rfl, rfl, rfl, rfl, BY.out⟩
                case round =>
                  obtain ⟨r, hrr, rfl, s2, hs2, rfl, rfl, rfl, hbz⟩ := hrel
                  have BZ := Lib.hid hbz
                  have BWZ := B2.out.trans (hbz.mono B2.out.size)
                  have W2 := kept BWZ _ _ P2.out
                  by_cases hrp : r < pcn
                  · obtain ⟨b3, o3, rfl, hbl3, x, hx, hxI, x0, x1, x2, x3, x4⟩ := CI.out.get hrp
                    have z0 := kept BWZ _ _ x0
                    have z1 := kept BWZ _ _ x1
                    have z2 := kept BWZ _ _ x2
                    have z3 := kept BWZ _ _ x3
                    have z4 := kept BWZ _ _ x4
                    have XI := Lib.hid hxI
                    have X4 := Lib.hid (SB.out x (List.mem_of_getElem? hx))
                    have BWH := Lib.hid BWZ
                    have NXR : Hid ((pcs.take (r + 1)).foldl (gStep inst sq ys 0) s = gStep inst sq ys 0 s2 x) := Lib.hid (by rw [foldl_take_succ _ s pcs r x hx, ← hs2])
                    have NO : Hid (¬ (x.inst = inst ∧ x.seq = sq) → gStep inst sq ys 0 s2 x = s2) := Lib.hid g_no
                    have YES : Hid (x.inst = inst ∧ x.seq = sq → gStep inst sq ys 0 s2 x = (if s2.2.1 = false ∨ s2.1 < x.view then x.view else s2.1, true, s2.2.2)) := Lib.hid g_zero
                    obtain ⟨xv, hxv⟩ : ∃ z, z = x.view := ⟨_, rfl⟩
                    obtain ⟨xi, hxi⟩ : ∃ z, z = x.inst := ⟨_, rfl⟩
                    obtain ⟨xs, hxs⟩ : ∃ z, z = x.seq := ⟨_, rfl⟩
                    obtain ⟨xba, hxba⟩ : ∃ z, z = x.ba := ⟨_, rfl⟩
                    obtain ⟨xbn, hxbn⟩ : ∃ z, z = x.bn := ⟨_, rfl⟩
                    obtain ⟨xbc, hxbc⟩ : ∃ z, z = x.bc := ⟨_, rfl⟩
                    obtain ⟨xva, hxva⟩ : ∃ z, z = x.va := ⟨_, rfl⟩
                    obtain ⟨xvn, hxvn⟩ : ∃ z, z = x.vn := ⟨_, rfl⟩
                    obtain ⟨xvc, hxvc⟩ : ∃ z, z = x.vc := ⟨_, rfl⟩
                    have XR : Hid (RqRow w xba xbn xbc x.bs) := Lib.hid (by rw [hxba, hxbn, hxbc]; exact XI.out.b)
                    have XN : xbn ≤ 4096 := by rw [hxbn]; exact X4.out.1
                    rw [← hxv] at z0 YES
                    rw [← hxi] at z1 YES NO
                    rw [← hxs] at z2 YES NO
                    rw [← hxba, ← hxbn, ← hxbc] at z3
                    rw [← hxva, ← hxvn, ← hxvc] at z4
                    obtain ⟨T, hT⟩ : ∃ z, z = s2.1 := ⟨_, rfl⟩
                    obtain ⟨J, hJ⟩ : ∃ z, z = s2.2.1 := ⟨_, rfl⟩
                    obtain ⟨R, hR⟩ : ∃ z, z = s2.2.2 := ⟨_, rfl⟩
                    rw [← hT, ← hJ, ← hR] at YES ⊢
                    have TE := Lib.hid hT
                    have JE := Lib.hid hJ
                    have RE := Lib.hid hR
                    have j0 : (0 : Int) ≤ r := by omega
                    have j1 : (r : Int) < pcn := by omega
                    clear hx hxI hxv hxi hxs hxba hxbn hxbc hxva hxvn hxvc hT hJ hR x0 x1 x2 x3 x4 hbl3 hbz BWZ hs2 XI X4
                    go_upto_region 18 with fail
                    obtain ⟨wc, hwc⟩ : ∃ wc, wc = wr.alloc (.cells #[.int .i64 xv, .int .i64 xi, .int .i64 xs, .slice xba xbn xbc, .slice xva xvn xvc] 36) := ⟨_, rfl⟩
                    obtain ⟨gc, hgc⟩ : ∃ gc, gc = wr.heap.size := ⟨_, rfl⟩
                    rw [← hwc, ← hgc]
                    have bc : Below wr.heap.size wr wc := by rw [hwc]; exact (Below.refl _ _).alloc (Nat.le_refl _) _
                    have KC : Hid (Blk wc gc 36 #[.int .i64 xv, .int .i64 xi, .int .i64 xs, .slice xba xbn xbc, .slice xva xvn xvc]) := Lib.hid (by rw [hwc, hgc]; exact Blk.new _ _ _)
                    have BC := Lib.hid (BZ.out.trans (bc.mono BZ.out.size))
                    have BWC := Lib.hid (BWH.out.trans (bc.mono BWH.out.size))
                    have XRC := Lib.hid (XR.out.below BWC.out)
                    have YRC := Lib.hid (R0.out.below BC.out)
                    have c0 : wc.cell? ⟨gc, 0, none⟩ = some (.int .i64 xv) := KC.out.cell 0
                    have c1 : wc.cell? ⟨gc, 1, none⟩ = some (.int .i64 xi) := KC.out.cell 1
                    have c2 : wc.cell? ⟨gc, 2, none⟩ = some (.int .i64 xs) := KC.out.cell 2
                    have c3 : wc.cell? ⟨gc, 3, none⟩ = some (.slice xba xbn xbc) := KC.out.cell 3
                    have c6 := kept BC.out _ _ Q0.out
                    clear hwc hgc bc z0 z1 z2 z3 z4 W2 BWH BZ XR
                    by_cases h0 : xi = inst
                    case neg =>
                      have Y := Lib.hid (NO.out (fun h => h0 h.1))
                      have e1 : (xi != inst) = true := bne_iff_ne.2 h0
                      clear h0
                      go_wp2_with fail
                      go_roundw
                      case rel => exact ⟨r + 1, by omega, by go_num, s2, by rw [NXR.out, Y.out], by rw [TE.out], by rw [JE.out], by rw [RE.out], BC.out⟩
                      case measure => simp [intOf]; omega
                    case pos =>
                      subst h0
                      by_cases h1 : xs = sq
                      case neg =>
                        have Y := Lib.hid (NO.out (fun h => h1 h.2))
                        have e1 : (xs != sq) = true := bne_iff_ne.2 h1
                        clear h1
                        go_wp2_with fail
                        go_roundw
                        case rel => exact ⟨r + 1, by omega, by go_num, s2, by rw [NXR.out, Y.out], by rw [TE.out], by rw [JE.out], by rw [RE.out], BC.out⟩
                        case measure => simp [intOf]; omega
                      case pos =>
                        subst h1
                        have Y := YES.out ⟨rfl, rfl⟩
                        rcases (show J = false ∨ (J = true ∧ T < xv) ∨ (J = true ∧ ¬ T < xv) by cases J; exact .inl rfl; exact .inr (by rcases Int.lt_or_le T xv with h | h; exact .inl ⟨rfl, h⟩; exact .inr ⟨rfl, by omega⟩)) with rfl | ⟨rfl, h2⟩ | ⟨rfl, h2⟩
                        · rw [if_pos (.inl rfl)] at Y
                          have HY := Lib.hid Y
                          clear Y
                          go_wp2_with fail
                          go_roundw
                          case rel => exact ⟨r + 1, by omega, by go_num, (xv, true, R), by rw [NXR.out, HY.out], rfl, rfl, rfl, BC.out⟩
                          case measure => simp [intOf]; omega
                        · rw [if_pos (.inr h2)] at Y
                          have HY := Lib.hid Y
                          clear Y
                          go_wp2_with fail
                          go_roundw
                          case rel => exact ⟨r + 1, by omega, by go_num, (xv, true, R), by rw [NXR.out, HY.out], rfl, rfl, rfl, BC.out⟩
                          case measure => simp [intOf]; omega
                        · rw [if_neg (by rintro (h | h); cases h; exact h2 h)] at Y
                          have HY := Lib.hid Y
                          have e2 : decide (T < xv) = false := decide_eq_false h2
                          clear Y h2
                          go_wp2_with fail
                          go_roundw
                          case rel => exact ⟨r + 1, by omega, by go_num, (T, true, R), by rw [NXR.out, HY.out], rfl, rfl, rfl, BC.out⟩
                          case measure => simp [intOf]; omega
                  · have hq3 : r = pcn := by omega
                    have LEN := CI.out.len
                    have E : s2 = (ps.take (j + 1)).foldl G S0 := by rw [NXJ.out, hs2, List.take_of_length_le (by omega)]
                    have HE := Lib.hid E
                    clear hq3 LEN hbz BWZ W2 hs2 E
                    go_wp2_with fail
                    go_roundw
                    case rel => exact ⟨j + 1, by omega, by go_num, s2, HE.out, rfl, rfl, rfl, BZ.out⟩
                    case measure => simp [intOf]; omega
              · have LEN := H.out.len
                have E : gPass inst sq ys ps 1 = s := by rw [NXP.out, hs, List.take_of_length_le (by omega)]
                have HE := Lib.hid E
                clear LEN hby hs E
                go_wp2_with fail
                go_roundw
                case rel => exact ⟨1, 1, by omega, by go_num, by rw [HE.out], by rw [HE.out], by rw [HE.out], BY.out⟩
                case measure => simp [intOf]
          · obtain ⟨S0, hS0⟩ : ∃ s, s = gPass inst sq ys ps 1 := ⟨_, rfl⟩
            rw [← hS0]
            obtain ⟨G, hG⟩ : ∃ G : GSt → PD → GSt, G = fun s q => q.cs.foldl (gStep inst sq ys 1) s := ⟨_, rfl⟩
            have NXP : Hid (gPass inst sq ys ps 2 = ps.foldl G S0) := Lib.hid (by rw [hG, hS0]; rfl)
            have HG := Lib.hid hG
            clear hS0 hG hbx
            go_wp2_with fail
            go_loopw [7, 8, 9, 32] (fun v1 v2 v3 i wy => ∃ j : Nat, j ≤ n ∧ i = .int .i64 j ∧ ∃ s : GSt, s = (ps.take j).foldl G S0 ∧ v1 = .int .i64 s.1 ∧ v2 = .bool s.2.1 ∧ v3 = .bool s.2.2 ∧ Below w2.heap.size w2 wy) (fun _ _ _ i _ => n - (intOf i).toNat)
            case atStart => exact ⟨0, by omega, rfl, S0, rfl, rfl, rfl, rfl, BX.out⟩
            case round =>
              obtain ⟨j, hj, rfl, s, hs, rfl, rfl, rfl, hby⟩ := hrel
              have BY := Lib.hid hby
              by_cases hjn : j < n
              · have BWY := B2.out.trans (hby.mono B2.out.size)
                obtain ⟨b, off, rfl, hbl, p, hp, hpI, p0, p1, p2, p3⟩ := H.out.get hjn
                have q2 := kept BWY _ _ p2
                have p4 : p.cn ≤ 4096 := S.out.c p (List.mem_of_getElem? hp)
                have CI := Lib.hid hpI.c
                have SB := Lib.hid (S.out.b p (List.mem_of_getElem? hp))
                have NXJ : Hid ((ps.take (j + 1)).foldl G S0 = p.cs.foldl (gStep inst sq ys 1) s) := Lib.hid (by rw [foldl_take_succ G S0 ps j p hp, ← hs, HG.out])
                obtain ⟨⟨pf, pva, pvn, pvc, pvs, pca, pcn, pcc, pcs, pse⟩, hpe⟩ : ∃ q, q = p := ⟨_, rfl⟩
                rw [← hpe] at p2 q2 p4 CI SB NXJ
                simp only at p2 q2 p4 CI SB NXJ
                have P2 := Lib.hid p2
                have i2 : (0 : Int) ≤ j := by omega
                have i3 : (j : Int) < n := by omega
                clear hp hpI hpe hby BWY hbl p0 p1 p2 p3 hs
                go_wp2_with fail
                go_loopw [7, 8, 9, 41] (fun v1 v2 v3 i wz => ∃ r : Nat, r ≤ pcn ∧ i = .int .i64 r ∧ ∃ s2 : GSt, s2 = (pcs.take r).foldl (gStep inst sq ys 1) s ∧ v1 = .int .i64 s2.1 ∧ v2 = .bool s2.2.1 ∧ v3 = .bool s2.2.2 ∧ Below w2.heap.size w2 wz) (fun _ _ _ i _ => pcn - (intOf i).toNat)
                case atStart => exact ⟨0, by omega, rfl, s, rfl, rfl, rfl, rfl, BY.out⟩
                case round =>
                  obtain ⟨r, hrr, rfl, s2, hs2, rfl, rfl, rfl, hbz⟩ := hrel
                  have BZ := Lib.hid hbz
                  have BWZ := B2.out.trans (hbz.mono B2.out.size)
                  have W2 := kept BWZ _ _ P2.out
                  by_cases hrp : r < pcn
                  · obtain ⟨b3, o3, rfl, hbl3, x, hx, hxI, x0, x1, x2, x3, x4⟩ := CI.out.get hrp
                    have z0 := kept BWZ _ _ x0
                    have z1 := kept BWZ _ _ x1
                    have z2 := kept BWZ _ _ x2
                    have z3 := kept BWZ _ _ x3
                    have z4 := kept BWZ _ _ x4
                    have XI := Lib.hid hxI
                    have X4 := Lib.hid (SB.out x (List.mem_of_getElem? hx))
                    have BWH := Lib.hid BWZ
                    have NXR : Hid ((pcs.take (r + 1)).foldl (gStep inst sq ys 1) s = gStep inst sq ys 1 s2 x) := Lib.hid (by rw [foldl_take_succ _ s pcs r x hx, ← hs2])
                    have NO : Hid (¬ (x.inst = inst ∧ x.seq = sq) → gStep inst sq ys 1 s2 x = s2) := Lib.hid g_no
                    have YES : Hid (x.inst = inst ∧ x.seq = sq → gStep inst sq ys 1 s2 x = (s2.1, s2.2.1, if x.view = s2.1 ∧ x.bs = ys then true else s2.2.2)) := Lib.hid g_one
                    obtain ⟨xv, hxv⟩ : ∃ z, z = x.view := ⟨_, rfl⟩
                    obtain ⟨xi, hxi⟩ : ∃ z, z = x.inst := ⟨_, rfl⟩
                    obtain ⟨xs, hxs⟩ : ∃ z, z = x.seq := ⟨_, rfl⟩
                    obtain ⟨xba, hxba⟩ : ∃ z, z = x.ba := ⟨_, rfl⟩
                    obtain ⟨xbn, hxbn⟩ : ∃ z, z = x.bn := ⟨_, rfl⟩
                    obtain ⟨xbc, hxbc⟩ : ∃ z, z = x.bc := ⟨_, rfl⟩
                    obtain ⟨xva, hxva⟩ : ∃ z, z = x.va := ⟨_, rfl⟩
                    obtain ⟨xvn, hxvn⟩ : ∃ z, z = x.vn := ⟨_, rfl⟩
                    obtain ⟨xvc, hxvc⟩ : ∃ z, z = x.vc := ⟨_, rfl⟩
                    have XR : Hid (RqRow w xba xbn xbc x.bs) := Lib.hid (by rw [hxba, hxbn, hxbc]; exact XI.out.b)
                    have XN : xbn ≤ 4096 := by rw [hxbn]; exact X4.out.1
                    rw [← hxv] at z0 YES
                    rw [← hxi] at z1 YES NO
                    rw [← hxs] at z2 YES NO
                    rw [← hxba, ← hxbn, ← hxbc] at z3
                    rw [← hxva, ← hxvn, ← hxvc] at z4
                    obtain ⟨T, hT⟩ : ∃ z, z = s2.1 := ⟨_, rfl⟩
                    obtain ⟨J, hJ⟩ : ∃ z, z = s2.2.1 := ⟨_, rfl⟩
                    obtain ⟨R, hR⟩ : ∃ z, z = s2.2.2 := ⟨_, rfl⟩
                    rw [← hT, ← hJ, ← hR] at YES ⊢
                    have TE := Lib.hid hT
                    have JE := Lib.hid hJ
                    have RE := Lib.hid hR
                    have j0 : (0 : Int) ≤ r := by omega
                    have j1 : (r : Int) < pcn := by omega
                    clear hx hxI hxv hxi hxs hxba hxbn hxbc hxva hxvn hxvc hT hJ hR x0 x1 x2 x3 x4 hbl3 hbz BWZ hs2 XI X4
                    go_upto_region 18 with fail
                    obtain ⟨wc, hwc⟩ : ∃ wc, wc = wr.alloc (.cells #[.int .i64 xv, .int .i64 xi, .int .i64 xs, .slice xba xbn xbc, .slice xva xvn xvc] 36) := ⟨_, rfl⟩
                    obtain ⟨gc, hgc⟩ : ∃ gc, gc = wr.heap.size := ⟨_, rfl⟩
                    rw [← hwc, ← hgc]
                    have bc : Below wr.heap.size wr wc := by rw [hwc]; exact (Below.refl _ _).alloc (Nat.le_refl _) _
                    have KC : Hid (Blk wc gc 36 #[.int .i64 xv, .int .i64 xi, .int .i64 xs, .slice xba xbn xbc, .slice xva xvn xvc]) := Lib.hid (by rw [hwc, hgc]; exact Blk.new _ _ _)
                    have BC := Lib.hid (BZ.out.trans (bc.mono BZ.out.size))
                    have BWC := Lib.hid (BWH.out.trans (bc.mono BWH.out.size))
                    have XRC := Lib.hid (XR.out.below BWC.out)
                    have YRC := Lib.hid (R0.out.below BC.out)
                    have c0 : wc.cell? ⟨gc, 0, none⟩ = some (.int .i64 xv) := KC.out.cell 0
                    have c1 : wc.cell? ⟨gc, 1, none⟩ = some (.int .i64 xi) := KC.out.cell 1
                    have c2 : wc.cell? ⟨gc, 2, none⟩ = some (.int .i64 xs) := KC.out.cell 2
                    have c3 : wc.cell? ⟨gc, 3, none⟩ = some (.slice xba xbn xbc) := KC.out.cell 3
                    have c6 := kept BC.out _ _ Q0.out
                    clear hwc hgc bc z0 z1 z2 z3 z4 W2 BWH BZ XR
                    by_cases h0 : xi = inst
                    case neg =>
                      have Y := Lib.hid (NO.out (fun h => h0 h.1))
                      have e1 : (xi != inst) = true := bne_iff_ne.2 h0
                      clear h0
                      go_wp2_with fail
                      go_roundw
                      case rel => exact ⟨r + 1, by omega, by go_num, s2, by rw [NXR.out, Y.out], by rw [TE.out], by rw [JE.out], by rw [RE.out], BC.out⟩
                      case measure => simp [intOf]; omega
                    case pos =>
                      subst h0
                      by_cases h1 : xs = sq
                      case neg =>
                        have Y := Lib.hid (NO.out (fun h => h1 h.2))
                        have e1 : (xs != sq) = true := bne_iff_ne.2 h1
                        clear h1
                        go_wp2_with fail
                        go_roundw
                        case rel => exact ⟨r + 1, by omega, by go_num, s2, by rw [NXR.out, Y.out], by rw [TE.out], by rw [JE.out], by rw [RE.out], BC.out⟩
                        case measure => simp [intOf]; omega
                      case pos =>
                        subst h1
                        have Y := YES.out ⟨rfl, rfl⟩
                        have X0 := fun (x : Later wc) => x.cell c0
                        have X3 := fun (x : Later wc) => x.cell c3
                        have X6 := fun (x : Later wc) => x.cell c6
                        by_cases h2 : xv = T
                        case neg =>
                          rw [if_neg (fun h => h2 h.1)] at Y
                          have HY := Lib.hid Y
                          have e2 : (xv == T) = false := beq_eq_false_iff_ne.2 h2
                          clear Y h2
                          go_wp2_with fail
                          refine wp_region_later (by kernel_rfl) (by kernel_rfl) ?_
                          repeat (go_big_quiet_step (fail))
                          refine wpQuiet_nil ?_
                          rintro _ ⟨x', rfl⟩
                          go_wp2_with fail
                          go_roundw
                          case rel => exact ⟨r + 1, by omega, by go_num, (T, J, R), by rw [NXR.out, HY.out], rfl, rfl, rfl, BC.out.trans (x'.b.mono BC.out.size)⟩
                          case measure => simp [intOf]; omega
                        case pos =>
                          subst h2
                          by_cases h3 : x.bs = ys
                          · rw [if_pos ⟨rfl, h3⟩] at Y
                            have HY := Lib.hid Y
                            have HD : Hid (decide (x.bs = ys) = true) := Lib.hid (decide_eq_true h3)
                            clear Y h3
                            go_wp2_with fail
                            refine wp_region_later (by kernel_rfl) (by kernel_rfl) ?_
                            repeat (go_big_quiet_step (first
                              | (go_at_call 26; exact Later.call (same_q xba ya xbn yn xbc yc x.bs ys _ (XRC.out.below (Later.b _)) (YRC.out.below (Later.b _)) XN _ HD.out))))
                            refine wpQuiet_nil ?_
                            rintro _ ⟨x', rfl⟩
                            go_wp2_with fail
                            go_roundw
                            case rel => exact ⟨r + 1, by omega, by go_num, (xv, J, true), by rw [NXR.out, HY.out], rfl, rfl, rfl, BC.out.trans (x'.b.mono BC.out.size)⟩
                            case measure => simp [intOf]; omega
                          · rw [if_neg (fun h => h3 h.2)] at Y
                            have HY := Lib.hid Y
                            have HD : Hid (decide (x.bs = ys) = false) := Lib.hid (decide_eq_false h3)
                            clear Y h3
                            go_wp2_with fail
                            refine wp_region_later (by kernel_rfl) (by kernel_rfl) ?_
                            repeat (go_big_quiet_step (first
                              | (go_at_call 26; exact Later.call (same_q xba ya xbn yn xbc yc x.bs ys _ (XRC.out.below (Later.b _)) (YRC.out.below (Later.b _)) XN _ HD.out))))
                            refine wpQuiet_nil ?_
                            rintro _ ⟨x', rfl⟩
                            go_wp2_with fail
                            go_roundw
                            case rel => exact ⟨r + 1, by omega, by go_num, (xv, J, R), by rw [NXR.out, HY.out], rfl, rfl, rfl, BC.out.trans (x'.b.mono BC.out.size)⟩
                            case measure => simp [intOf]; omega
                  · have hq3 : r = pcn := by omega
                    have LEN := CI.out.len
                    have E : s2 = (ps.take (j + 1)).foldl G S0 := by rw [NXJ.out, hs2, List.take_of_length_le (by omega)]
                    have HE := Lib.hid E
                    clear hq3 LEN hbz BWZ W2 hs2 E
                    go_wp2_with fail
                    go_roundw
                    case rel => exact ⟨j + 1, by omega, by go_num, s2, HE.out, rfl, rfl, rfl, BZ.out⟩
                    case measure => simp [intOf]; omega
              · have LEN := H.out.len
                have E : gPass inst sq ys ps 2 = s := by rw [NXP.out, hs, List.take_of_length_le (by omega)]
                have HE := Lib.hid E
                clear LEN hby hs E
                go_wp2_with fail
                go_roundw
                case rel => exact ⟨2, 2, by omega, by go_num, by rw [HE.out], by rw [HE.out], by rw [HE.out], BY.out⟩
                case measure => simp [intOf]
          · obtain ⟨⟨T, J, R⟩, hS⟩ : ∃ s, s = gPass inst sq ys ps 2 := ⟨_, rfl⟩
            rw [← hS]
            have E1 := END.out
            have E2 := END2.out
            rw [← hS] at E1 E2
            simp only at E1 E2 ⊢
            have c6 := kept hbx _ _ Q0.out
            clear hS hbx
            cases J with
            | true =>
              obtain rfl := E1 rfl
              clear E1 E2
              go_wp2_with fail
              have hsk : sq = ((k + 1 : Nat) : Int) := by rw [SQ.out]; rfl
              exact ⟨⟨k + 1, by omega, by rw [hsk], BX.out⟩, by simp [intOf, hsk]; omega⟩
            | false =>
              have hy0 : yn = 0 := by rw [← YL.out, E2 rfl]; rfl
              subst hy0
              clear E1 E2
              go_wp2_with fail
              have hsk : sq = ((k + 1 : Nat) : Int) := by rw [SQ.out]; rfl
              exact ⟨⟨k + 1, by omega, by rw [hsk], BX.out⟩, by simp [intOf, hsk]; omega⟩
      · have BW := Lib.hid (B2.out.trans (hbr.mono B2.out.size))
        clear hbr
        go_wp2_with fail
        refine (greatest_c inst a n c ps _ (H.out.below BW.out) S.out hi m HMG.out).mono ?_; rintro e w7 ⟨rfl, hb7⟩
        have B7 := Lib.hid (BW.out.trans (hb7.mono BW.out.size))
        clear hb7
        go_wp2_with fail
        refine (chwakes_c _).mono ?_; rintro e w8 ⟨rfl, hb8⟩
        go_wp2_with fail
        go_ret
        exact ⟨by simp, B7.out.trans (hb8.mono B7.out.size)⟩

set_option maxRecDepth 100000 in
theorem lawWalk : LawWalk Try.checked 6 Try.f6 := by
  intro H enc W base args ds p hval hA hsz
  rw [Try.params6] at hA hval
  obtain ⟨v0, vs0, d0, ds0, p0, q0, hargs, rfl, rfl, h0, r0⟩ := trodAll_cons hA
  obtain ⟨v1, vs1, d1, ds1, p1, q1, rfl, rfl, rfl, h1, r1⟩ := trodAll_cons r0
  obtain ⟨rfl, rfl, rfl⟩ := trodAll_nil r1
  obtain rfl : args = #[v0, v1] := by cases args; simp_all
  obtain ⟨a0, rfl, rfl, rfl, w0⟩ := open_int Try.underlying3 (hval 0 3 v0 rfl rfl) h0
  obtain ⟨a1, n1, c1, ps1, rfl, hr1⟩ := open_parts (hval 1 22 v1 rfl rfl) h1
  exact walk a0 a1 n1 c1 ps1 W (I64.of_wf w0) hr1

theorem lifted (os : Os) (started : os.Started) (H : Type) (enc : TypeId × Value → H) :
    ReturnsInHanded {} Try.checked os 6 .any (Rows.chooseGreatestSpec.pre6 enc Try.prog Try.f6 Rows.chooseGreatestRow.domain false) (Rows.chooseGreatestSpec.post enc Try.prog Try.f6 false true false false) :=
  law_lift (C := Try.checked) (s := Rows.chooseGreatestSpec) (tb := 4) (by kernel_rfl) started (by kernel_rfl) Try.func6
    (ChangeSpec.witness6 (enc := enc) (C := Try.checked) false ⟨#[], #[.int .i64 0, .slice none 0 0], []⟩ 8 (by kernel_rfl) (by kernel_rfl) (by kernel_rfl) (by kernel_rfl))
    rfl (fun H ds h => by
      match ds, h with
      | [d0, d1], _ => rfl) (by kernel_rfl) (by kernel_rfl) (by kernel_rfl) Try.underlying4 lawWalk

theorem over : Rows.chooseGreatestRow.holds Try.pinned (OpenSpec.ofChange Rows.chooseGreatestSpec) :=
  OpenClaim.holds_of_wide 6 Try.f6 rfl rfl rfl rfl rfl rfl rfl ⟨rfl, rfl, rfl, rfl, rfl⟩ rfl rfl rfl rfl rfl (by kernel_rfl) Try.func6 (by kernel_rfl)
    (of_decide_eq_true (by kernel_rfl)) (by unfold Func.isWrapper; first | (rw [if_pos (by decide +kernel)]; kernel_rfl) | (rw [if_neg (by decide +kernel)]; exact ⟨rfl, rfl⟩))
    (fun os started H enc _ => lifted os started H enc)

/-- The statement. -/
theorem proved : Rows.ChooseGreatestSaid := over
#print axioms proved

end Go.Proofs.Ytpkifmophmjilaa.ChooseGreatest
