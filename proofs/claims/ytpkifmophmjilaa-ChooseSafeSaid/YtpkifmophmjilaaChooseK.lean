/- Package psephoskeep: Batches, Cert. -/
import Derived.Test.YtpkifmophmjilaaChooseS
import Derived.Test.YtpkifmophmjilaaSameQ
import Derived.Test.YtpkifmophmjilaaSameV
import Derived.Test.YtpkifmophmjilaaLater
namespace Go.Proofs.Ytpkifmophmjilaa
open Go.RowKit
set_option linter.unusedVariables false

set_option maxRecDepth 100000 in
set_option maxHeartbeats 3200000 in
theorem kbatches_c (w0 w0' : World) (a b : Option Addr) (n m c d : Nat) (l l' : List (List Rq)) (w : World) (h : Bats w0 w a n c l) (h' : Bats w0' w b m d l') (hn : n ≤ 16) (hs : ∀ x ∈ l, x.length ≤ 4096) (bb : Bool) (hb : decide (l = l') = bb) :
    Calls Try.prog 18 #[.slice a n c, .slice b m d] w fun e w' => e = .returned (.bool bb) ∧ Below w.heap.size w w' := by
  have H := Lib.hid h
  have H' := Lib.hid h'
  have HS := Lib.hid hs
  have HBB := Lib.hid hb
  by_cases hnm : n = m
  · subst hnm
    clear h h' hb hs
    go_enter Try.func18, Try.ntmps18
    go_wp2_with fail
    go_loopw [5] (fun i wr => ∃ k : Nat, k ≤ n ∧ i = .int .i64 k ∧ (∀ j, j < k → l[j]? = l'[j]?) ∧ Below w.heap.size w wr) (fun i _ => n - (intOf i).toNat)
    case atStart => exact ⟨0, by omega, rfl, fun j hj => absurd hj (by omega), Below.refl _ _⟩
    case round =>
      obtain ⟨k, hkn, rfl, hs, hb⟩ := hrel
      have HB := Lib.hid hb
      have HK := Lib.hid hs
      clear hs hb
      by_cases hlt : k < n
      · obtain ⟨b1, o1, rfl, hb1, xa, xn, xc, xs, hx, p0, hxr⟩ := (H.out.below HB.out).get hlt
        obtain ⟨b2, o2, rfl, hb2, ya, yn, yc, ys, hy, q0, hyr⟩ := (H'.out.below HB.out).get hlt
        have i0 : (0 : Int) ≤ k := by omega
        have i1 : (k : Int) < n := by omega
        have XR := Lib.hid hxr
        have YR := Lib.hid hyr
        have x4 : xn ≤ 4096 := by
          rw [← hxr.len]
          exact HS.out xs (List.mem_of_getElem? hx)
        have BAD := Lib.hid (show xs ≠ ys → bb = false from fun hne => by
          rw [← HBB.out]
          refine decide_eq_false fun he => hne ?_
          subst he
          rw [hx] at hy
          exact Option.some.inj hy)
        have GOOD := Lib.hid (show xs = ys → ∀ j, j < k + 1 → l[j]? = l'[j]? from fun hh j hj => by
          rcases Nat.lt_or_ge j k with h | h
          · exact HK.out j h
          · obtain rfl : j = k := by omega
            rw [hx, hy, hh])
        have X0 := fun (x : Later wr) => x.cell p0
        have X1 := fun (x : Later wr) => x.cell q0
        clear hx hy hxr hyr p0 q0
        by_cases he : xs = ys
        · have G := Lib.hid (GOOD.out he)
          have hd : decide (xs = ys) = true := decide_eq_true he
          have HD := Lib.hid hd
          clear hd he BAD GOOD
          go_wp2_with fail
          refine wp_region_later (by kernel_rfl) (by kernel_rfl) ?_
          repeat (go_big_quiet_step (first
            | (go_at_call 26; exact Later.call (same_q xa ya xn yn xc yc xs ys _ (XR.out.below (Later.b _)) (YR.out.below (Later.b _)) x4 _ HD.out))))
          refine wpQuiet_nil ?_
          rintro _ ⟨x, rfl⟩
          have B9 := Lib.hid (HB.out.trans (x.b.mono HB.out.size))
          clear X0 X1
          go_wp2_with fail
          go_roundw
          case rel => exact ⟨k + 1, by omega, by go_num, G.out, B9.out⟩
          case measure => simp [intOf]; omega
        · obtain rfl := BAD.out he
          have hd : decide (xs = ys) = false := decide_eq_false he
          have HD := Lib.hid hd
          clear hd he BAD GOOD
          go_wp2_with fail
          refine wp_region_later (by kernel_rfl) (by kernel_rfl) ?_
          repeat (go_big_quiet_step (first
            | (go_at_call 26; exact Later.call (same_q xa ya xn yn xc yc xs ys _ (XR.out.below (Later.b _)) (YR.out.below (Later.b _)) x4 _ HD.out))))
          refine wpQuiet_nil ?_
          rintro _ ⟨x, rfl⟩
          have B9 := Lib.hid (HB.out.trans (x.b.mono HB.out.size))
          clear X0 X1
          go_wp2_with fail
          go_ret
          exact ⟨rfl, B9.out⟩
      · have hkk : k = n := by omega
        obtain rfl : bb = true := by
          rw [← HBB.out]
          exact decide_eq_true (eq_of_upto H.out.len H'.out.len fun j hj => HK.out j (by omega))
        clear hkk
        go_wp2_with fail
        go_ret
        exact ⟨rfl, HB.out⟩
  · obtain rfl : bb = false := by
      rw [← hb]
      refine decide_eq_false fun he => hnm ?_
      rw [← h.len, ← h'.len, he]
    have e1 : ((n : Int) != (m : Int)) = true := bne_iff_ne.2 (by omega)
    clear h h' hb hnm hs
    go_enter Try.func18, Try.ntmps18
    go_wp2_with fail
    go_ret
    exact ⟨rfl, Below.refl _ _⟩

set_option maxRecDepth 100000 in
set_option maxHeartbeats 3200000 in
/-- Two alike. -/
theorem kcert_c (x y : CD) (w : World) (hx : x.Is w) (hy : y.Is w) (hl : Like x y) (hn : x.bn ≤ 4096 ∧ x.vn ≤ 4096) :
    Calls Try.prog 39 #[.agg (ccell x).toArray, .agg (ccell y).toArray] w fun e w' => e = .returned (.bool true) ∧ Below w.heap.size w w' := by
  obtain ⟨xv, xi, xs, xba, xbn, xbc, xbs, xva, xvn, xvc, xvs⟩ := x
  obtain ⟨yv, yi, ys, yba, ybn, ybc, ybs, yva, yvn, yvc, yvs⟩ := y
  obtain ⟨e1, e2, e3, e4, e5, e6, e7⟩ := hl
  simp only at e1 e2 e3 e4 e5 e6 e7
  subst e1 e2 e3 e4 e5 e6 e7
  have XB := Lib.hid hx.b
  have XV := Lib.hid hx.v
  have YB := Lib.hid hy.b
  have YV := Lib.hid hy.v
  obtain ⟨n1, n2⟩ := hn
  simp only [ccell] at XB XV YB YV n1 n2 ⊢
  clear hx hy
  go_enter Try.func39, Try.ntmps39
  go_upto_region 1 with fail
  obtain ⟨g1, hg1⟩ : ∃ g1, g1 = w.heap.size := ⟨_, rfl⟩
  obtain ⟨wa, hwa⟩ : ∃ wa, wa = w.alloc (.cells #[.int .i64 xv, .int .i64 xi, .int .i64 xs, .slice xba xbn xbc, .slice xva xvn xvc] 36) := ⟨_, rfl⟩
  obtain ⟨w2, hw2⟩ : ∃ w2, w2 = wa.alloc (.cells #[.int .i64 xv, .int .i64 xi, .int .i64 xs, .slice yba xbn ybc, .slice yva xvn yvc] 36) := ⟨_, rfl⟩
  have K1 : Blk wa g1 36 #[.int .i64 xv, .int .i64 xi, .int .i64 xs, .slice xba xbn xbc, .slice xva xvn xvc] := by rw [hwa, hg1]; exact Blk.new _ _ _
  have K2 : Blk w2 (g1 + 1) 36 #[.int .i64 xv, .int .i64 xi, .int .i64 xs, .slice yba xbn ybc, .slice yva xvn yvc] := by rw [hw2]; exact Blk.new' _ _ _ (by rw [hwa, hg1]; simp)
  have K1' : Blk w2 g1 36 #[.int .i64 xv, .int .i64 xi, .int .i64 xs, .slice xba xbn xbc, .slice xva xvn xvc] := by rw [hw2]; exact K1.alloc _
  have b1 : Below w.heap.size w wa := by rw [hwa]; exact (Below.refl _ _).alloc (Nat.le_refl _) _
  have b2 : Below w.heap.size w w2 := by rw [hw2]; exact b1.alloc b1.size _
  rw [hwa] at hw2
  rw [← hw2, ← hg1]
  have B2 : Hid (Below w.heap.size w w2) := Lib.hid b2
  have GE : Hid (w.heap.size ≤ w2.heap.size) := Lib.hid b2.size
  have XB2 := Lib.hid (XB.out.below b2)
  have XV2 := Lib.hid (XV.out.below b2)
  have YB2 := Lib.hid (YB.out.below b2)
  have YV2 := Lib.hid (YV.out.below b2)
  have c0 : w2.cell? ⟨g1, 0, none⟩ = some (.int .i64 xv) := K1'.cell 0
  have c1 : w2.cell? ⟨g1, 1, none⟩ = some (.int .i64 xi) := K1'.cell 1
  have c2 : w2.cell? ⟨g1, 2, none⟩ = some (.int .i64 xs) := K1'.cell 2
  have c3 : w2.cell? ⟨g1, 3, none⟩ = some (.slice xba xbn xbc) := K1'.cell 3
  have c4 : w2.cell? ⟨g1, 4, none⟩ = some (.slice xva xvn xvc) := K1'.cell 4
  have d0 : w2.cell? ⟨g1 + 1, 0, none⟩ = some (.int .i64 xv) := K2.cell 0
  have d1 : w2.cell? ⟨g1 + 1, 1, none⟩ = some (.int .i64 xi) := K2.cell 1
  have d2 : w2.cell? ⟨g1 + 1, 2, none⟩ = some (.int .i64 xs) := K2.cell 2
  have d3 : w2.cell? ⟨g1 + 1, 3, none⟩ = some (.slice yba xbn ybc) := K2.cell 3
  have d4 : w2.cell? ⟨g1 + 1, 4, none⟩ = some (.slice yva xvn yvc) := K2.cell 4
  clear hwa hw2 K1 K2 K1' b1 b2 hg1 XB XV YB YV
  go_wp2_with fail
  refine (same_q xba yba xbn xbn xbc ybc xbs xbs _ XB2.out YB2.out n1 true (decide_eq_true rfl)).mono ?_; rintro e w3 ⟨rfl, hb3⟩
  have XV3 := Lib.hid (XV2.out.below hb3)
  have YV3 := Lib.hid (YV2.out.below hb3)
  have c4' := kept hb3 _ _ c4
  have d4' := kept hb3 _ _ d4
  have B3 := Lib.hid (B2.out.trans (hb3.mono GE.out))
  have GE3 := Lib.hid (Nat.le_trans GE.out hb3.size)
  clear hb3 c0 c1 c2 c3 c4 d0 d1 d2 d3 d4
  go_wp2_with fail
  refine (same_v xva yva xvn xvn xvc yvc xvs xvs _ XV3.out YV3.out n2 true (decide_eq_true rfl)).mono ?_; rintro e w4 ⟨rfl, hb4⟩
  go_wp2_with fail
  go_ret
  exact ⟨rfl, B3.out.trans (hb4.mono GE3.out)⟩
end Go.Proofs.Ytpkifmophmjilaa
