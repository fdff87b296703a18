/- The contract of the law's measures: any numbers as measures. -/
import Derived.Test.YtiacklfigpobnaaOpen
import Derived.Test.YtiacklfigpobnaaKeep
import Derived.Test.YtiacklfigpobnaaJudgeR
import Derived.Deep.RegionHeld3
import Derived.Deep.AppendLies
import Derived.OwnWalk
import Derived.Deep.DeepCutAuto
import Derived.Test.YtiacklfigpobnaaOwn
namespace Go.Proofs.Ytiacklfigpobnaa
open Go.RowKit F
set_option linter.unusedVariables false

/-- Two numbers as a measure. -/
def meas (a b : Int) : Int × Int := if a.tmod 3 = 0 then (a % 1048576, b % 1048576) else (a % 1048576 % 12, b % 1048576 % 200)
/-- The first k measures. -/
def measTo (xs : List Int) (k : Nat) : List (Int × Int) := (List.range k).map fun i => meas (xs.getD (2 * i) 0) (xs.getD (2 * i + 1) 0)
theorem measTo_succ (xs : List Int) (k : Nat) : measTo xs (k + 1) = measTo xs k ++ [meas (xs.getD (2 * k) 0) (xs.getD (2 * k + 1) 0)] := by
  simp [measTo, List.range_succ]
theorem measTo_length (xs : List Int) (k : Nat) : (measTo xs k).length = k := by simp [measTo]
theorem meas_bd (a b : Int) : 0 ≤ (meas a b).1 ∧ (meas a b).1 < 1048576 ∧ 0 ≤ (meas a b).2 ∧ (meas a b).2 < 1048576 := by
  unfold meas
  split <;> simp only <;> omega
theorem measTo_usual (xs : List Int) (k : Nat) : Usual (measTo xs k) := by
  intro z hz
  simp only [measTo, List.mem_map] at hz
  obtain ⟨i, _, rfl⟩ := hz
  have := meas_bd (xs.getD (2 * i) 0) (xs.getD (2 * i + 1) 0)
  omega
/-- How many measures there are. -/
def measN (n : Nat) : Nat := min 5 (n / 2)

theorem info_meas : (Try.prog.info? 42).map (fun i => (i.zero, i.size, i.bytes)) = some (some (.agg #[.int .i64 0, .int .i64 0]), 2, 16) := by kernel_rfl
theorem info_cplx : (Try.prog.info? 39).map (fun i => (i.zero, i.size, i.bytes)) = some (some (.complex .f64 0 0), 1, 16) := by kernel_rfl

set_option maxHeartbeats 4000000 in
theorem measures_o (a : Option Addr) (n c : Nat) (xs : List Int) (w : World) (hr : IntRow w a n xs) (hm : n ≤ maxLen) (hx : ∀ x ∈ xs, I64 x) :
    Calls Try.prog 24 #[.slice a n c] w fun e w' => ∃ a1 c1 a2 c2, e = .returned (.tuple #[.slice a1 (measN n) c1, .slice a2 (measN n) c2]) ∧
      w'.ownsRow w.heap.size 42 2 (.slice a1 (measN n) c1) (measN n) (mcells (measTo xs (measN n))) ∧ w'.ownsRow w.heap.size 39 1 (.slice a2 (measN n) c2) (measN n) ((measTo xs (measN n)).map fun z => cplx z.1 z.2) ∧ Below w.heap.size w w' := by
  unfold maxLen at hm
  obtain ⟨i0, hi0, hz0, hz1, hz2⟩ := info_parts info_meas
  obtain ⟨j0, hj0, hy0, hy1, hy2⟩ := info_parts info_cplx
  have hR := Lib.hid hr
  have hX := Lib.hid hx
  clear hr hx
  go_enter Try.func24, Try.ntmps24
  go_wp2_with fail
  go_loopw [4, 5, 6] (fun v z i wr => ∃ k : Nat, k ≤ 5 ∧ 2 * k ≤ n ∧ i = .int .i64 (2 * k : Nat) ∧ ∃ a1 c1 a2 c2, v = .slice a1 k c1 ∧ z = .slice a2 k c2 ∧
      wr.ownsRow w.heap.size 42 2 (.slice a1 k c1) k (mcells (measTo xs k)) ∧ wr.ownsRow w.heap.size 39 1 (.slice a2 k c2) k ((measTo xs k).map fun z => cplx z.1 z.2) ∧ Below w.heap.size w wr) (fun _ _ i _ => n - (intOf i).toNat)
  case atStart =>
    exact ⟨0, by omega, by omega, rfl, none, 0, none, 0, rfl, rfl, ⟨by simp [measTo, mcells], .inl ⟨rfl, rfl⟩⟩, ⟨by simp [measTo], .inl ⟨rfl, rfl⟩⟩, Below.refl _ _⟩
  case round =>
    obtain ⟨k, hk, hkn, rfl, a1, c1, a2, c2, rfl, rfl, hown1, hown2, hbr⟩ := hrel
    by_cases hlt : 2 * k + 1 < n
    · by_cases h5 : k < 5
      · obtain ⟨b, off, rfl, hbl, hc⟩ := hR.out.2 (by omega)
        have e1 : wr.cell? ⟨b, off + 2 * k, none⟩ = some (.int .i64 (xs.getD (2 * k) 0)) := (hbr.cell (p := ⟨b, off + 2 * k, none⟩) hbl).trans (hc (2 * k) (by omega))
        have e2 : wr.cell? ⟨b, off + (2 * k + 1), none⟩ = some (.int .i64 (xs.getD (2 * k + 1) 0)) := (hbr.cell (p := ⟨b, off + (2 * k + 1), none⟩) hbl).trans (hc (2 * k + 1) (by omega))
        clear hc
        have x1 : I64 (xs.getD (2 * k) 0) := by
          by_cases h : 2 * k < xs.length
          · rw [List.getD_eq_getElem?_getD, List.getElem?_eq_getElem h]; exact hX.out _ (List.getElem_mem h)
          · rw [List.getD_eq_getElem?_getD, List.getElem?_eq_none (by omega)]; exact I64.zero
        have x2 : I64 (xs.getD (2 * k + 1) 0) := by
          by_cases h : 2 * k + 1 < xs.length
          · rw [List.getD_eq_getElem?_getD, List.getElem?_eq_getElem h]; exact hX.out _ (List.getElem_mem h)
          · rw [List.getD_eq_getElem?_getD, List.getElem?_eq_none (by omega)]; exact I64.zero
        obtain ⟨p, hp⟩ : ∃ p, p = xs.getD (2 * k) 0 := ⟨_, rfl⟩
        obtain ⟨q, hq⟩ : ∃ q, q = xs.getD (2 * k + 1) 0 := ⟨_, rfl⟩
        rw [← hp] at e1 x1
        rw [← hq] at e2 x2
        have HP := Lib.hid hp
        have HQ := Lib.hid hq
        clear hp hq
        have O1 := Lib.hid hown1
        have O2 := Lib.hid hown2
        clear hown1 hown2
        have i1 : (0 : Int) ≤ 2 * (k : Int) := by omega
        have i2 : 2 * (k : Int) < (n : Int) := by omega
        have i3 : 2 * (k : Int) + 1 < (n : Int) := by omega
        have i4 : IntKind.i64.wrap (2 * (k : Int) + 1) = 2 * (k : Int) + 1 := IntWalk.i64_in _ (by omega)
        have t1 : (2 * (k : Int)).toNat = 2 * k := by omega
        have t2 : (2 * (k : Int) + 1).toNat = 2 * k + 1 := by omega
        have i5 : (0 : Int) ≤ 2 * (k : Int) + 1 := by omega
        go_wp2_with fail
        go_cut [7] (fun s7 wx => s7 = .pointer (some ⟨wr.heap.size, 0, none⟩) ∧ wx = (wr.alloc (.cells #[.int .i64 (p % 1048576), .int .i64 (q % 1048576)] 42)).drew)
        case first =>
          go_region_held3 (fun w' => w'.cell? ⟨b, off + 2 * k, none⟩ = some (.int .i64 p) ∧ w'.cell? ⟨b, off + (2 * k + 1), none⟩ = some (.int .i64 q)) (first | go_keep)
            (first | (go_at_call 23; refine (within_keep _ _ _ (by assumption) (by omega) (by omega)).mono ?_; rintro e w' ⟨rfl, rfl⟩))
          all_goals (go_wp2_with fail; go_meet; exact ⟨rfl, rfl⟩)
        case rest =>
          obtain ⟨rfl, hwx⟩ := hcut
          obtain ⟨g, hg⟩ : ∃ g, g = wr.heap.size := ⟨_, rfl⟩
          obtain ⟨u, hu⟩ : ∃ u, u = p % 1048576 := ⟨_, rfl⟩
          obtain ⟨v, hv⟩ : ∃ v, v = q % 1048576 := ⟨_, rfl⟩
          rw [← hg]
          rw [← hu, ← hv] at hwx
          have hbs := hbr.size
          have E1 : wc.cell? ⟨b, off + 2 * k, none⟩ = some (.int .i64 p) := by
            rw [hwx]
            exact (World.cell?_alloc_lt wr _ ⟨b, off + 2 * k, none⟩ (show b < wr.heap.size by omega)).trans e1
          have hbox : Blk wc g 42 #[.int .i64 u, .int .i64 v] := by rw [hwx, hg]; exact (Blk.new _ _ _).drew
          have P1 := Lib.hid (show wc.ownsRow w.heap.size 42 2 (.slice a1 k c1) k (mcells (measTo xs k)) by rw [hwx]; exact (O1.out.alloc _).drew)
          have P2 := Lib.hid (show wc.ownsRow w.heap.size 39 1 (.slice a2 k c2) k ((measTo xs k).map fun z => cplx z.1 z.2) by rw [hwx]; exact (O2.out.alloc _).drew)
          have hbc : Below w.heap.size w wc := by rw [hwx]; exact (hbr.alloc hbs _).drew
          have hgs : w.heap.size ≤ g := by omega
          have hgc : g < wc.heap.size := hbox.lt
          have hnog : some g ≠ (Value.slice a1 k c1).ownBlock := by
            intro hh
            have := (O1.out.lt g hh.symm).2
            omega
          have b1 := hbox.cell 0
          have b2 := hbox.cell 1
          have f1 := hbox.frozen 0
          have f2 := hbox.frozen 1
          have hu0 : 0 ≤ u ∧ u < 1048576 := by omega
          have hv0 : 0 ≤ v ∧ v < 1048576 := by omega
          have b1' : wc.cell? ⟨g, 0, none⟩ = some (.int .i64 u) := b1
          have b2' : wc.cell? ⟨g, 1, none⟩ = some (.int .i64 v) := b2
          have HB := Lib.hid hbox
          have HWX := Lib.hid hwx
          have HU := Lib.hid hu
          have HV := Lib.hid hv
          have HG := Lib.hid hg
          clear hwx hu hv hg hbox b1 b2 e1 e2
          have hmod : ∃ u' v', (u', v') = meas p q ∧ ((u' = u ∧ v' = v ∧ (p.tmod 3 != 0) = false) ∨ (u' = u % 12 ∧ v' = v % 200 ∧ (p.tmod 3 != 0) = true)) := by
            unfold meas
            rw [← HU.out, ← HV.out]
            by_cases h3 : p.tmod 3 = 0
            · exact ⟨u, v, by rw [if_pos h3], .inl ⟨rfl, rfl, by simp [h3]⟩⟩
            · exact ⟨u % 12, v % 200, by rw [if_neg h3], .inr ⟨rfl, rfl, by simp [h3]⟩⟩
          obtain ⟨u', v', hm1, hm2⟩ := hmod
          have HM := Lib.hid hm1
          clear hm1
          rcases hm2 with ⟨rfl, rfl, h3⟩ | ⟨hu', hv', h3⟩
          · go_wp2_with fail
            obtain ⟨wy, hwy⟩ : ∃ wy, wy = wc := ⟨_, rfl⟩
            rw [← hwy]
            have YB := Lib.hid (show Blk wy g 42 #[.int .i64 u', .int .i64 v'] by rw [hwy]; exact HB.out)
            have Q1 := Lib.hid (show wy.ownsRow w.heap.size 42 2 (.slice a1 k c1) k (mcells (measTo xs k)) by rw [hwy]; exact P1.out)
            have Q2 := Lib.hid (show wy.ownsRow w.heap.size 39 1 (.slice a2 k c2) k ((measTo xs k).map fun z => cplx z.1 z.2) by rw [hwy]; exact P2.out)
            have hby : Below w.heap.size w wy := by rw [hwy]; exact hbc
            clear hwy
            have hng1 : some g ≠ (Value.slice a1 k c1).ownBlock := hnog
            have hng2 : some g ≠ (Value.slice a2 k c2).ownBlock := own_blk Q2.out YB.out (by decide)
            have hne12 := own_ne Q2.out Q1.out (by decide)
            have y1 : wy.cell? ⟨g, 0, none⟩ = some (.int .i64 u') := YB.out.cell 0
            have y2 : wy.cell? ⟨g, 1, none⟩ = some (.int .i64 v') := YB.out.cell 1
            have ny1 := World.new_ne wy _ y1
            have hys := hby.size
            clear f1 f2 b1' b2' E1
            go_region_held3 (fun w' => w'.cell? ⟨g, 0, none⟩ = some (.int .i64 u') ∧ w'.cell? ⟨g, 1, none⟩ = some (.int .i64 v'))
              (first | go_keep | exact ⟨s40, s41⟩ | exact ⟨s30, s31⟩ | exact ⟨s10, s11⟩)
              (first
                | (refine step_append_lies _ (by rfl) _ _ _ (by rfl) w.heap.size 42 i0 _ 2 16 Try.underlying34 hi0 hz0 hz1 hz2 rfl (by omega) (.slice a1 k c1) k (mcells (measTo xs k)) (by rfl) ((Q1.out.alloc _).drew) ⟨wy.heap.size, 0, none⟩ 1 1 [.int .i64 u', .int .i64 v'] (by rfl) (by rfl) (World.news_of_block (cs := #[.int .i64 u', .int .i64 v']) (t := 42) (fr := (0, 0)) (heap_alloc_new wy _)) (by simp [Value.oneCell']) (by omega) (by unfold maxLen; omega) (by omega) (by simp; omega) (wy.heap.size + 1) (by simp) ?_; intro g1 cap1 w1 hown1 hgrow1 hat1 hlt1; have s10 := grown_cell hgrow1 (alloc_kept _ y1) hng1; have s11 := grown_cell hgrow1 (alloc_kept _ y2) hng1; have z1 : wy.heap.size + 1 ≤ w1.heap.size := Nat.le_trans (show wy.heap.size + 1 ≤ (wy.alloc _).heap.size by simp) hgrow1.size)
                | (go_at_call 33; refine (z_c _ _ _).mono ?_; rintro e w3 ⟨rfl, hb3⟩; have s30 := kept hb3 _ _ s10; have s31 := kept hb3 _ _ s11; have n30 := World.new_ne w3 _ s30; have z3 : w1.heap.size ≤ w3.heap.size := hb3.size)
                | (refine step_append_lies _ (by rfl) _ _ _ (by rfl) w.heap.size 39 j0 _ 1 16 Try.underlying35 hj0 hy0 hy1 hy2 rfl (by omega) (.slice a2 k c2) k ((measTo xs k).map fun z => cplx z.1 z.2) (by rfl) ((own_below (((Q2.out.alloc _).drew).kept hgrow1 hne12) hb3).alloc _) ⟨w3.heap.size, 0, none⟩ 1 1 [.complex .f64 (fw u') (fw v')] (by rfl) (by rfl) (World.news_of_block (cs := #[.complex .f64 (fw u') (fw v')]) (t := 39) (fr := (0, 0)) (heap_alloc_new w3 _)) (by simp [Value.oneCell']) (by omega) (by unfold maxLen; omega) (by omega) (by simp; omega) (w3.heap.size + 1) (by simp) ?_; intro g2 cap2 w4 hown2 hgrow2 hat2 hlt2; have s40 := grown_cell hgrow2 (alloc_kept _ s30) hng2; have s41 := grown_cell hgrow2 (alloc_kept _ s31) hng2))
            have hmt : measTo xs (k + 1) = measTo xs k ++ [(u', v')] := by rw [measTo_succ, ← HP.out, ← HQ.out, ← HM.out]
            have o1a := (own_below hown1 hb3).alloc (.cells #[.complex .f64 (fw u') (fw v')] 39)
            have o2a := (own_below (((Q2.out.alloc _).drew).kept hgrow1 hne12) hb3).alloc (.cells #[.complex .f64 (fw u') (fw v')] 39)
            have o1b := o1a.kept hgrow2 (own_ne o1a o2a (by decide))
            have r1 : ∀ j, (Value.slice a1 k c1).ownBlock = some j → w.heap.size ≤ j := fun j hj => (Q1.out.lt j hj).1
            have r2 : ∀ j, (Value.slice a2 k c2).ownBlock = some j → w.heap.size ≤ j := fun j hj => (Q2.out.lt j hj).1
            have bl1 : Below w.heap.size w w1 := ((hby.alloc hys _).drew).grown hgrow1 (show w.heap.size ≤ (wy.alloc _).heap.size from Nat.le_trans hys (by simp)) r1
            have bl3 : Below w.heap.size w w3 := bl1.trans (hb3.mono bl1.size)
            have bl4 : Below w.heap.size w w4 := (bl3.alloc bl3.size _).grown hgrow2 (Nat.le_trans bl3.size (by simp)) r2
            have e1m : mcells (measTo xs k) ++ [.int .i64 u', .int .i64 v'] = mcells (measTo xs (k + 1)) := by rw [hmt]; simp [mcells]
            have e2m : ((measTo xs k).map fun z => cplx z.1 z.2) ++ [.complex .f64 (fw u') (fw v')] = (measTo xs (k + 1)).map fun z => cplx z.1 z.2 := by rw [hmt]; simp [cplx]
            rw [e1m] at o1b
            rw [e2m] at hown2
            have HO1 := Lib.hid o1b
            have HO2 := Lib.hid hown2
            have HB4 := Lib.hid bl4
            clear hmt o1a o2a o1b hown2 bl4 bl3 bl1 e1m e2m r1 r2 hown1 hgrow1 hgrow2 hat1 hat2
            go_wp2_with fail
            go_roundw
            case rel => exact ⟨k + 1, by omega, by omega, by go_num, _, cap1, _, cap2, rfl, rfl, HO1.out, HO2.out, HB4.out⟩
            case measure => simp [intOf]; omega
          · go_wp2_with fail
            obtain ⟨wy, hwy⟩ : ∃ wy, wy = (wc.setCell ⟨g, 0, none⟩ (.int .i64 (u % 12))).setCell ⟨g, 1, none⟩ (.int .i64 (v % 200)) := ⟨_, rfl⟩
            rw [← hwy]
            have YB := Lib.hid (show Blk wy g 42 #[.int .i64 u', .int .i64 v'] by rw [hwy, hu', hv']; exact (HB.out.set_ 0 _).set_ 1 _)
            have Q1 := Lib.hid (show wy.ownsRow w.heap.size 42 2 (.slice a1 k c1) k (mcells (measTo xs k)) by rw [hwy]; exact ownsRow_setCell_other (ownsRow_setCell_other P1.out (Ne.symm hnog) _) (Ne.symm hnog) _)
            have hng2' : some g ≠ (Value.slice a2 k c2).ownBlock := own_blk P2.out HB.out (by decide)
            have Q2 := Lib.hid (show wy.ownsRow w.heap.size 39 1 (.slice a2 k c2) k ((measTo xs k).map fun z => cplx z.1 z.2) by rw [hwy]; exact ownsRow_setCell_other (ownsRow_setCell_other P2.out (Ne.symm hng2') _) (Ne.symm hng2') _)
            have hby : Below w.heap.size w wy := by rw [hwy]; exact (hbc.setCell hgs _).setCell hgs _
            have hu0' : 0 ≤ u' ∧ u' < 12 := by omega
            have hv0' : 0 ≤ v' ∧ v' < 200 := by omega
            clear hwy hu' hv' hng2'
            have hng1 : some g ≠ (Value.slice a1 k c1).ownBlock := hnog
            have hng2 : some g ≠ (Value.slice a2 k c2).ownBlock := own_blk Q2.out YB.out (by decide)
            have hne12 := own_ne Q2.out Q1.out (by decide)
            have y1 : wy.cell? ⟨g, 0, none⟩ = some (.int .i64 u') := YB.out.cell 0
            have y2 : wy.cell? ⟨g, 1, none⟩ = some (.int .i64 v') := YB.out.cell 1
            have ny1 := World.new_ne wy _ y1
            have hys := hby.size
            clear f1 f2 b1' b2' E1
            go_region_held3 (fun w' => w'.cell? ⟨g, 0, none⟩ = some (.int .i64 u') ∧ w'.cell? ⟨g, 1, none⟩ = some (.int .i64 v'))
              (first | go_keep | exact ⟨s40, s41⟩ | exact ⟨s30, s31⟩ | exact ⟨s10, s11⟩)
              (first
                | (refine step_append_lies _ (by rfl) _ _ _ (by rfl) w.heap.size 42 i0 _ 2 16 Try.underlying34 hi0 hz0 hz1 hz2 rfl (by omega) (.slice a1 k c1) k (mcells (measTo xs k)) (by rfl) ((Q1.out.alloc _).drew) ⟨wy.heap.size, 0, none⟩ 1 1 [.int .i64 u', .int .i64 v'] (by rfl) (by rfl) (World.news_of_block (cs := #[.int .i64 u', .int .i64 v']) (t := 42) (fr := (0, 0)) (heap_alloc_new wy _)) (by simp [Value.oneCell']) (by omega) (by unfold maxLen; omega) (by omega) (by simp; omega) (wy.heap.size + 1) (by simp) ?_; intro g1 cap1 w1 hown1 hgrow1 hat1 hlt1; have s10 := grown_cell hgrow1 (alloc_kept _ y1) hng1; have s11 := grown_cell hgrow1 (alloc_kept _ y2) hng1; have z1 : wy.heap.size + 1 ≤ w1.heap.size := Nat.le_trans (show wy.heap.size + 1 ≤ (wy.alloc _).heap.size by simp) hgrow1.size)
                | (go_at_call 33; refine (z_c _ _ _).mono ?_; rintro e w3 ⟨rfl, hb3⟩; have s30 := kept hb3 _ _ s10; have s31 := kept hb3 _ _ s11; have n30 := World.new_ne w3 _ s30; have z3 : w1.heap.size ≤ w3.heap.size := hb3.size)
                | (refine step_append_lies _ (by rfl) _ _ _ (by rfl) w.heap.size 39 j0 _ 1 16 Try.underlying35 hj0 hy0 hy1 hy2 rfl (by omega) (.slice a2 k c2) k ((measTo xs k).map fun z => cplx z.1 z.2) (by rfl) ((own_below (((Q2.out.alloc _).drew).kept hgrow1 hne12) hb3).alloc _) ⟨w3.heap.size, 0, none⟩ 1 1 [.complex .f64 (fw u') (fw v')] (by rfl) (by rfl) (World.news_of_block (cs := #[.complex .f64 (fw u') (fw v')]) (t := 39) (fr := (0, 0)) (heap_alloc_new w3 _)) (by simp [Value.oneCell']) (by omega) (by unfold maxLen; omega) (by omega) (by simp; omega) (w3.heap.size + 1) (by simp) ?_; intro g2 cap2 w4 hown2 hgrow2 hat2 hlt2; have s40 := grown_cell hgrow2 (alloc_kept _ s30) hng2; have s41 := grown_cell hgrow2 (alloc_kept _ s31) hng2))
            have hmt : measTo xs (k + 1) = measTo xs k ++ [(u', v')] := by rw [measTo_succ, ← HP.out, ← HQ.out, ← HM.out]
            have o1a := (own_below hown1 hb3).alloc (.cells #[.complex .f64 (fw u') (fw v')] 39)
            have o2a := (own_below (((Q2.out.alloc _).drew).kept hgrow1 hne12) hb3).alloc (.cells #[.complex .f64 (fw u') (fw v')] 39)
            have o1b := o1a.kept hgrow2 (own_ne o1a o2a (by decide))
            have r1 : ∀ j, (Value.slice a1 k c1).ownBlock = some j → w.heap.size ≤ j := fun j hj => (Q1.out.lt j hj).1
            have r2 : ∀ j, (Value.slice a2 k c2).ownBlock = some j → w.heap.size ≤ j := fun j hj => (Q2.out.lt j hj).1
            have bl1 : Below w.heap.size w w1 := ((hby.alloc hys _).drew).grown hgrow1 (show w.heap.size ≤ (wy.alloc _).heap.size from Nat.le_trans hys (by simp)) r1
            have bl3 : Below w.heap.size w w3 := bl1.trans (hb3.mono bl1.size)
            have bl4 : Below w.heap.size w w4 := (bl3.alloc bl3.size _).grown hgrow2 (Nat.le_trans bl3.size (by simp)) r2
            have e1m : mcells (measTo xs k) ++ [.int .i64 u', .int .i64 v'] = mcells (measTo xs (k + 1)) := by rw [hmt]; simp [mcells]
            have e2m : ((measTo xs k).map fun z => cplx z.1 z.2) ++ [.complex .f64 (fw u') (fw v')] = (measTo xs (k + 1)).map fun z => cplx z.1 z.2 := by rw [hmt]; simp [cplx]
            rw [e1m] at o1b
            rw [e2m] at hown2
            have HO1 := Lib.hid o1b
            have HO2 := Lib.hid hown2
            have HB4 := Lib.hid bl4
            clear hmt o1a o2a o1b hown2 bl4 bl3 bl1 e1m e2m r1 r2 hown1 hgrow1 hgrow2 hat1 hat2
            go_wp2_with fail
            go_roundw
            case rel => exact ⟨k + 1, by omega, by omega, by go_num, _, cap1, _, cap2, rfl, rfl, HO1.out, HO2.out, HB4.out⟩
            case measure => simp [intOf]; omega
      · have hk5 : k = 5 := by omega
        have hmN : measN n = k := by unfold measN; omega
        have HMN := Lib.hid hmN
        have O1 := Lib.hid hown1
        have O2 := Lib.hid hown2
        clear hown1 hown2 hmN hk5
        go_wp2_with fail
        go_ret2
        exact ⟨a1, c1, a2, c2, by rw [HMN.out]; rfl, by rw [HMN.out]; exact O1.out, by rw [HMN.out]; exact O2.out, hbr⟩
    · have hmN : measN n = k := by unfold measN; omega
      have HMN := Lib.hid hmN
      have O1 := Lib.hid hown1
      have O2 := Lib.hid hown2
      clear hown1 hown2 hmN
      go_wp2_with fail
      go_ret2
      exact ⟨a1, c1, a2, c2, by rw [HMN.out]; rfl, by rw [HMN.out]; exact O1.out, by rw [HMN.out]; exact O2.out, hbr⟩

theorem measures_c (a : Option Addr) (n c : Nat) (xs : List Int) (w : World) (hr : IntRow w a n xs) (hm : n ≤ maxLen) (hx : ∀ x ∈ xs, I64 x) :
    Calls Try.prog 24 #[.slice a n c] w fun e w' => ∃ a1 c1 a2 c2, e = .returned (.tuple #[.slice a1 (measN n) c1, .slice a2 (measN n) c2]) ∧
      MRow w' a1 (measN n) (measTo xs (measN n)) ∧ CRow w' a2 (measN n) (measTo xs (measN n)) ∧ measN n ≤ c1 ∧ measN n ≤ c2 ∧ Below w.heap.size w w' :=
  (measures_o a n c xs w hr hm hx).mono fun e w' ⟨a1, c1, a2, c2, he, h1, h2, hb⟩ => ⟨a1, c1, a2, c2, he, own_vrow h1, own_vrow h2, own_cap h1, own_cap h2, hb⟩
end Go.Proofs.Ytiacklfigpobnaa
