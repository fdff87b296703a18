/- MeterTotals: for all numbers the law returns true: the sum of measures is their parts' sums. No condition. -/
import Derived.Test.YtfeepofdnjnkpaaMeterM
import Derived.Test.YtfeepofdnjnkpaaLater
import Derived.Test.YtfeepofdnjnkpaaRows
import Derived.Deep.RegionWith
import Derived.Deep.RegionHeld3
import Derived.Deep.DeepCutAuto
import Derived.Deep.CutBlock
namespace Go.Proofs.Ytfeepofdnjnkpaa.MeterTotals
open Go.RowKit Go.ChangeShapes Go.WideShapes Go.ChangeAt F
set_option linter.unusedVariables false

/-- Measures as the law makes them. -/
def Fine (zs : List (Int × Int)) : Prop := ∀ z ∈ zs, 0 ≤ z.1 ∧ z.1 < 1048576 ∧ 0 ≤ z.2 ∧ z.2 < 1048576
theorem Fine.usual {zs : List (Int × Int)} (h : Fine zs) : Usual zs := fun z hz => by have := h z hz; omega
theorem Fine.snoc {zs : List (Int × Int)} (h : Fine zs) {u v : Int} (h1 : 0 ≤ u ∧ u < 1048576) (h2 : 0 ≤ v ∧ v < 1048576) : Fine (zs ++ [(u, v)]) := by
  intro z hz
  rcases List.mem_append.1 hz with h' | h'
  · exact h z h'
  · simp at h'
    subst h'
    exact ⟨h1.1, h1.2, h2.1, h2.2⟩
theorem sumN_snoc (zs : List (Int × Int)) (u v : Int) : sumN (zs ++ [(u, v)]) = sumN zs + u := by
  simp only [sumN, List.map_append, List.sum_append, List.map_cons, List.map_nil, List.sum_cons, List.sum_nil, Int.add_zero]
theorem sumT_snoc (zs : List (Int × Int)) (u v : Int) : sumT (zs ++ [(u, v)]) = sumT zs + v := by
  simp only [sumT, List.map_append, List.sum_append, List.map_cons, List.map_nil, List.sum_cons, List.sum_nil, Int.add_zero]

def Cut1 (w wx : World) (gs : Nat) (v : Value) (k : Nat) : Prop := ∃ a1 c1 zs, zs.length = k ∧ k ≤ 20 ∧ v = .slice a1 k c1 ∧ Fine zs ∧
  wx.ownsRow w.heap.size 27 1 (.slice a1 k c1) k (zs.map mcell) ∧ Blk wx gs 23 #[.int .i64 (sumN zs), .int .i64 (sumT zs)] ∧ Below w.heap.size w wx
def Rel1 (w wr : World) (gs n : Nat) (v i : Value) : Prop := ∃ k : Nat, i = .int .i64 (2 * (k : Int)) ∧ 2 * k ≤ n + 1 ∧ Cut1 w wr gs v k

set_option maxRecDepth 100000 in
set_option maxHeartbeats 3200000 in
theorem walk (a : Option Addr) (n c : Nat) (xs : List Int) (w : World) (hr : IntRow w a n xs) (hm : n ≤ maxLen) (hx : ∀ x ∈ xs, I64 x) :
    Calls Try.prog 5 #[.slice a n c] w fun e w' => e = .returned (.bool true) ∧ Below w.heap.size w w' := by
  unfold maxLen at hm
  obtain ⟨j0, hj0, hy0, hy1, hy2⟩ := info_parts info_cplx
  have hR := Lib.hid hr
  have hX := Lib.hid hx
  clear hr hx
  go_enter Try.func5, Try.ntmps5
  go_upto_block 0 with fail
  obtain ⟨gs, hgs⟩ : ∃ gs, gs = w.heap.size := ⟨_, rfl⟩
  rw [← hgs]
  have HGS := Lib.hid hgs
  clear hgs
  go_cut [3] (fun s3 wx => ∃ k, Cut1 w wx gs s3 k)
  case first =>
    go_wp2_with fail
    go_loopw [3, 5] (fun v i wr => Rel1 w wr gs n v i) (fun _ i _ => n + 1 - (intOf i).toNat)
    case atStart => exact ⟨0, by first | rfl | simp, by omega, none, 0, [], rfl, by omega, rfl, (fun z hz => by cases hz), ⟨rfl, .inl ⟨rfl, rfl⟩⟩, by rw [HGS.out]; exact Blk.new _ _ _, (Below.refl _ _).alloc (Nat.le_refl _) _⟩
    case round =>
      obtain ⟨k, rfl, hkn, a1, c1, zs, hzl, hk20, rfl, hfine, hown, hblk, hb⟩ := hrel
      have HOWN := Lib.hid hown
      have HBLK := Lib.hid hblk
      have HF := Lib.hid hfine
      have HZL := Lib.hid hzl
      have hwr := hb.size
      have HB := Lib.hid hb
      have i1 : (0 : Int) ≤ 2 * (k : Int) := by omega
      have i4 : IntKind.i64.wrap (2 * (k : Int) + 1) = 2 * (k : Int) + 1 := IntWalk.i64_in _ (by omega)
      clear hown hblk hfine hzl hb
      rcases (show (2 * k + 1 < n ∧ k < 20) ∨ (¬ 2 * k + 1 < n) ∨ (2 * k + 1 < n ∧ ¬ k < 20) by omega) with ⟨hlt, h80⟩ | hlt | ⟨hlt, h80⟩
      · obtain ⟨b, off, rfl, hbl, hc⟩ := hR.out.2 (by omega)
        have e1 : wr.cell? ⟨b, off + 2 * k, none⟩ = some (.int .i64 (xs.getD (2 * k) 0)) := (HB.out.cell (p := ⟨b, off + 2 * k, none⟩) hbl).trans (hc (2 * k) (by omega))
        have e2 : wr.cell? ⟨b, off + (2 * k + 1), none⟩ = some (.int .i64 (xs.getD (2 * k + 1) 0)) := (HB.out.cell (p := ⟨b, off + (2 * k + 1), none⟩) hbl).trans (hc (2 * k + 1) (by omega))
        clear hc
        have xget : ∀ j, I64 (xs.getD j 0) := fun j => by
          by_cases h : j < xs.length
          · rw [List.getD_eq_getElem?_getD, List.getElem?_eq_getElem h]; exact hX.out _ (List.getElem_mem h)
          · rw [List.getD_eq_getElem?_getD, List.getElem?_eq_none (by omega)]; exact I64.zero
        have x1 := xget (2 * k)
        have x2 := xget (2 * k + 1)
        obtain ⟨p, hp⟩ : ∃ p, p = xs.getD (2 * k) 0 := ⟨_, rfl⟩
        obtain ⟨q, hq⟩ : ∃ q, q = xs.getD (2 * k + 1) 0 := ⟨_, rfl⟩
        rw [← hp] at e1 x1
        rw [← hq] at e2 x2
        have i2 : 2 * (k : Int) < (n : Int) := by omega
        have i3 : 2 * (k : Int) + 1 < (n : Int) := by omega
        have t1 : (2 * (k : Int)).toNat = 2 * k := by omega
        have t2 : (2 * (k : Int) + 1).toNat = 2 * k + 1 := by omega
        have i5 : (0 : Int) ≤ 2 * (k : Int) + 1 := by omega
        clear xget hp hq
        go_wp2_with fail
        go_cut [6] (fun s6 wx => s6 = .pointer (some ⟨wr.heap.size, 0, none⟩) ∧ wx = (wr.alloc (.cells #[.int .i64 (p % 1048576), .int .i64 (q % 1048576)] 23)).drew)
        case first =>
          go_region_held3 (fun w' => w'.cell? ⟨b, off + 2 * k, none⟩ = some (.int .i64 p) ∧ w'.cell? ⟨b, off + (2 * k + 1), none⟩ = some (.int .i64 q)) (first | go_keep)
            (first | (go_at_call 19; refine (within_keep _ _ _ (by assumption) (by omega) (by omega)).mono ?_; rintro e w' ⟨rfl, rfl⟩))
          all_goals (go_wp2_with fail; go_meet; exact ⟨rfl, rfl⟩)
        case rest =>
          obtain ⟨rfl, hwx⟩ := hcut
          obtain ⟨g, hg⟩ : ∃ g, g = wr.heap.size := ⟨_, rfl⟩
          have u0 := Int.emod_nonneg p (show (1048576 : Int) ≠ 0 by omega)
          have u1 := Int.emod_lt_of_pos p (show (0 : Int) < 1048576 by omega)
          have v0 := Int.emod_nonneg q (show (1048576 : Int) ≠ 0 by omega)
          have v1 := Int.emod_lt_of_pos q (show (0 : Int) < 1048576 by omega)
          obtain ⟨u, hu⟩ : ∃ u, u = p % 1048576 := ⟨_, rfl⟩
          obtain ⟨v, hv⟩ : ∃ v, v = q % 1048576 := ⟨_, rfl⟩
          rw [← hg]
          rw [← hu, ← hv] at hwx
          rw [← hu] at u0 u1
          rw [← hv] at v0 v1
          have hbox : Blk wc g 23 #[.int .i64 u, .int .i64 v] := by rw [hwx, hg]; exact (Blk.new _ _ _).drew
          have hsum : Blk wc gs 23 #[.int .i64 (sumN zs), .int .i64 (sumT zs)] := by rw [hwx]; exact (HBLK.out.alloc _).drew
          have hown : wc.ownsRow w.heap.size 27 1 (.slice a1 k c1) k (zs.map mcell) := by rw [hwx]; exact (HOWN.out.alloc _).drew
          have hbc : Below w.heap.size w wc := by rw [hwx]; exact (HB.out.alloc hwr _).drew
          have hne : g ≠ gs := by rw [hg]; exact Nat.ne_of_gt HBLK.out.lt
          have bd := sum_bd zs HF.out.usual
          obtain ⟨U, hU⟩ : ∃ U, U = sumN zs := ⟨_, rfl⟩
          obtain ⟨V, hV⟩ : ∃ V, V = sumT zs := ⟨_, rfl⟩
          rw [← hU, ← hV] at hsum bd
          have b1 : wc.cell? ⟨g, 0, none⟩ = some (.int .i64 u) := hbox.cell 0
          have b2 : wc.cell? ⟨g, 1, none⟩ = some (.int .i64 v) := hbox.cell 1
          have s1 : wc.cell? ⟨gs, 0, none⟩ = some (.int .i64 U) := hsum.cell 0
          have s2 : wc.cell? ⟨gs, 1, none⟩ = some (.int .i64 V) := hsum.cell 1
          have sf1 := hsum.frozen 0
          have sf2 := hsum.frozen 1
          have bnd : 0 ≤ U ∧ U ≤ 134217728 * 20 ∧ 0 ≤ V ∧ V ≤ 134217728 * 20 := by have := HZL.out; omega
          have HU := Lib.hid hU
          have HV := Lib.hid hV
          have HBOX := Lib.hid hbox
          have HSUM := Lib.hid hsum
          have HO := Lib.hid hown
          have HBC := Lib.hid hbc
          clear hwx hg hu hv hU hV hbox hsum hown hbc e1 e2 bd
          go_wp2_with fail
          obtain ⟨wy, hwy⟩ : ∃ wy, wy = (wc.setCell ⟨gs, 0, none⟩ (.int .i64 (U + u))).setCell ⟨gs, 1, none⟩ (.int .i64 (V + v)) := ⟨_, rfl⟩
          rw [← hwy]
          have hn1 : some gs ≠ (Value.slice a1 k c1).ownBlock := own_blk HO.out HSUM.out (by decide)
          have ywn : wy.ownsRow w.heap.size 27 1 (.slice a1 k c1) k (zs.map mcell) := by rw [hwy]; exact ownsRow_setCell_other (ownsRow_setCell_other HO.out (Ne.symm hn1) _) (Ne.symm hn1) _
          have ysum : Blk wy gs 23 #[.int .i64 (U + u), .int .i64 (V + v)] := by rw [hwy]; exact (HSUM.out.set_ 0 _).set_ 1 _
          have yb : Below w.heap.size w wy := by rw [hwy]; exact (HBC.out.setCell (Nat.le_of_eq HGS.out.symm) _).setCell (Nat.le_of_eq HGS.out.symm) _
          have YO := Lib.hid ywn
          have YS := Lib.hid ysum
          have YB := Lib.hid yb
          have N1 := Lib.hid hn1
          clear hwy hn1 ywn ysum yb b1 b2 s1 s2 sf1 sf2
          refine (z_c u v _).mono ?_; rintro e w3 ⟨rfl, hb3⟩
          have ZO := Lib.hid (own_below YO.out hb3)
          have ZS := Lib.hid (YS.out.below hb3 YS.out.lt)
          have ZB := Lib.hid (YB.out.trans (hb3.mono YB.out.size))
          have z3 := ZB.out.size
          have L := HZL.out
          clear hb3
          have hlen : ((zs.map mcell).length : Nat) = k := by rw [List.length_map, L]
          have HL := Lib.hid hlen
          clear L hlen
          go_wp2_with (at_builtin; refine wpList_append_lies _ rfl (.tmp 43) (.tmp 46) _ rfl w.heap.size 27 j0 _ 1 16 Try.underlying47 hj0 hy0 hy1 hy2 rfl (by omega) (.slice a1 k c1) k (zs.map mcell) rfl (ZO.out.alloc _) ⟨w3.heap.size, 0, none⟩ 1 1 [.complex .f64 (fw u) (fw v)] rfl rfl (World.news_of_block (cs := #[.complex .f64 (fw u) (fw v)]) (t := 27) (fr := (0, 0)) (heap_alloc_new w3 _)) (by simp [Value.oneCell']) (by omega) (by unfold maxLen; omega) (by omega) (by simp; omega) (w3.heap.size + 1) (by simp) ?_; intro g5 cap5 w5 hown5 hgrow5 hat5 hlt5)
          have o5 : Only (Value.slice a1 k c1).ownBlock.toList w3 w5 := ((Only.refl _ w3).alloc _).grown hgrow5 (fun j hj => by simp [hj])
          have S5 := Lib.hid (ZS.out.only o5 (by have := N1.out; intro h; rw [Option.mem_toList] at h; exact this h.symm))
          have B5 := Lib.hid ((ZB.out.alloc z3 _).grown hgrow5 (Nat.le_trans z3 (by simp)) (fun j hj => (ZO.out.lt j hj).1))
          have O5 := Lib.hid hown5
          clear hown5 hgrow5 hat5 o5
          go_wp2_with fail
          go_roundw
          case rel => exact ⟨k + 1, by go_num, by omega, _, cap5, zs ++ [(u, v)], by rw [List.length_append, HZL.out]; rfl, by omega, rfl, HF.out.snoc ⟨u0, u1⟩ ⟨v0, v1⟩, by have := O5.out; rw [List.map_append]; exact this, by rw [sumN_snoc, sumT_snoc, ← HU.out, ← HV.out]; exact S5.out, B5.out⟩
          case measure => simp [intOf]; omega
      all_goals
        go_wp2_with fail
        go_meet
        exact ⟨k, a1, c1, zs, HZL.out, hk20, rfl, HF.out, HOWN.out, HBLK.out, HB.out⟩
  case rest =>
    obtain ⟨k, a1, c1, zs, hzl, hk20, rfl, hfine, hown, hblk, hb⟩ := hcut
    have bd := sum_bd zs hfine.usual
    have hrow : CRow wc a1 k zs := own_vrow hown
    have b1 : wc.cell? ⟨gs, 0, none⟩ = some (.int .i64 (sumN zs)) := hblk.cell 0
    have b2 : wc.cell? ⟨gs, 1, none⟩ = some (.int .i64 (sumT zs)) := hblk.cell 1
    have q1 := eq_fw (Small.of (n := sumN zs) (by omega) (by omega)) (Small.of (n := sumN zs) (by omega) (by omega)) true (by simp)
    have q2 := eq_fw (Small.of (n := sumT zs) (by omega) (by omega)) (Small.of (n := sumT zs) (by omega) (by omega)) true (by simp)
    have HROW := Lib.hid hrow
    have HF := Lib.hid hfine
    have HB := Lib.hid hb
    have c1' := fun (x : Later wc) => x.cell b1
    have c2' := fun (x : Later wc) => x.cell b2
    clear hrow hfine hb hown hblk b1 b2 bd
    go_wp2_with fail
    refine wp_region_later (by kernel_rfl) (by kernel_rfl) ?_
    repeat (go_big_quiet_step (first
      | (go_at_call 28; exact Later.same (total_c a1 k c1 zs _ (VRow.later HROW.out _) HF.out.usual (by omega)))
      | (go_at_call 14; exact Later.call (z_c _ _ _))
      | (go_at_call 16; exact Later.call (mwakes_c _))))
    refine wpQuiet_nil ?_
    rintro _ ⟨x, rfl⟩
    go_wp2
    go_ret
    exact ⟨rfl, HB.out.trans (x.b.mono HB.out.size)⟩

theorem lawWalk : LawWalk Try.checked 5 Try.f5 := by
  intro H enc W base args ds p hval hA hsz
  rw [Try.params5] at hA hval
  obtain ⟨v0, vs0, d0, ds0, p0, q0, hargs, rfl, rfl, h0, r0⟩ := trodAll_cons hA
  obtain ⟨rfl, rfl, rfl⟩ := trodAll_nil r0
  obtain rfl : args = #[v0] := by cases args; simp_all
  obtain ⟨a0, n0, c0, xs0, rfl, hnc0, hcm0, hr0, hx0⟩ := open_int_slice Try.underlying51 Try.underlying3 (by kernel_rfl) (hval 0 51 v0 rfl rfl) h0
  exact walk a0 n0 c0 xs0 W hr0 (Nat.le_trans hnc0 hcm0) hx0

theorem lifted (os : Os) (started : os.Started) (H : Type) (enc : TypeId × Value → H) :
    ReturnsInHanded {} Try.checked os 5 .any (Rows.meterTotalsSpec.pre6 enc Try.prog Try.f5 Rows.meterTotalsRow.domain false) (Rows.meterTotalsSpec.post enc Try.prog Try.f5 false true false false) :=
  law_lift (C := Try.checked) (s := Rows.meterTotalsSpec) (tb := 4) (by kernel_rfl) started (by kernel_rfl) Try.func5
    (ChangeSpec.witness6 (enc := enc) (C := Try.checked) false ⟨#[], #[.slice none 0 0], []⟩ 8 (by kernel_rfl) (by kernel_rfl) (by kernel_rfl) (by kernel_rfl))
    rfl (fun H ds h => by
      match ds, h with
      | [d0], _ => rfl) (by kernel_rfl) (by kernel_rfl) (by kernel_rfl) Try.underlying4 lawWalk

theorem over : Rows.meterTotalsRow.holds Try.pinned (OpenSpec.ofChange Rows.meterTotalsSpec) :=
  OpenClaim.holds_of_wide 5 Try.f5 rfl rfl rfl rfl rfl rfl rfl ⟨rfl, rfl, rfl, rfl, rfl⟩ rfl rfl rfl rfl rfl (by kernel_rfl) Try.func5 (by kernel_rfl)
    (of_decide_eq_true (by kernel_rfl)) (by unfold Func.isWrapper; first | (rw [if_pos (by decide +kernel)]; kernel_rfl) | (rw [if_neg (by decide +kernel)]; exact ⟨rfl, rfl⟩))
    (fun os started H enc _ => lifted os started H enc)

/-- The statement. -/
theorem proved : Rows.MeterTotalsSaid := over
#print axioms proved

end Go.Proofs.Ytfeepofdnjnkpaa.MeterTotals
