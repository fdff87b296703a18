/- LinkClones: for every room and all lists of acts the law returns true: a clone of a queue has the same, and goes its own way. No condition. -/
import Derived.Test.YtjdcjofogmplcaaLinkTwo
import Derived.Test.YtjdcjofogmplcaaRows
namespace Go.Proofs.Ytjdcjofogmplcaa.LinkClones
open Go.RowKit Go.ChangeShapes Go.WideShapes Go.ChangeAt
set_option linter.unusedVariables false

/-- One act of a list lies where it came from. -/
theorem act_at {w wr : World} {a : Option Addr} {n : Nat} {g : Nat → Nat → Int} {R : Nat → Byt} (hR : ActsB w a n 3 g R) (hb : Below w.heap.size w wr) {k : Nat} (hlt : k < n) :
    ∃ b off, a = some ⟨b, off, none⟩ ∧ wr.cell? ⟨b, off + k * 4, none⟩ = some (.int .i64 (g k 0)) ∧ wr.cell? ⟨b, off + k * 4 + 1, none⟩ = some (.int .i64 (g k 1)) ∧ wr.cell? ⟨b, off + k * 4 + 2, none⟩ = some (.int .i64 (g k 2)) ∧ wr.cell? ⟨b, off + k * 4 + 3, none⟩ = some (.slice (R k).a (R k).xs.length (R k).c) ∧ (R k).Is w := by
  obtain ⟨b, off, rfl, hbl, hcell⟩ := hR.row (by omega)
  obtain ⟨hc, hc3, hci⟩ := hcell k hlt
  exact ⟨b, off, rfl, (hb.cell (p := ⟨b, off + k * 4, none⟩) hbl).trans (hc 0 (by omega)), (hb.cell (p := ⟨b, off + k * 4 + 1, none⟩) hbl).trans (hc 1 (by omega)), (hb.cell (p := ⟨b, off + k * 4 + 2, none⟩) hbl).trans (hc 2 (by omega)), (hb.cell (p := ⟨b, off + k * 4 + 3, none⟩) hbl).trans hc3, hci⟩

def Rel1 (w wr : World) (q p : Nat) (room : Int) (n : Nat) (i : Value) : Prop :=
  ∃ k : Nat, k ≤ n ∧ i = .int .i64 k ∧ ∃ g h lost L, Two w wr q g p h room lost L ∧ L.length ≤ 256 ∧ 0 ≤ lost ∧ lost ≤ k
def Rel2 (w wr : World) (q p q2 g2 p2 h2 : Nat) (room lost2 : Int) (L2 : List (List Int)) (n : Nat) (i : Value) : Prop :=
  ∃ k : Nat, k ≤ n ∧ i = .int .i64 k ∧ ∃ g h lost L, Two w wr q g p h room lost L ∧ L.length ≤ 256 ∧ 0 ≤ lost ∧ lost ≤ 50 + k ∧ Two w wr q2 g2 p2 h2 room lost2 L2 ∧ Dis [q, g, p, h] [q2, g2, p2, h2]
def Rel3 (w wr : World) (q g p h q2 p2 : Nat) (room lost : Int) (L : List (List Int)) (n : Nat) (i : Value) : Prop :=
  ∃ k : Nat, k ≤ n ∧ i = .int .i64 k ∧ ∃ g2 h2 lost2 L2, Two w wr q2 g2 p2 h2 room lost2 L2 ∧ L2.length ≤ 256 ∧ 0 ≤ lost2 ∧ lost2 ≤ 50 + k ∧ Two w wr q g p h room lost L ∧ Dis [q2, g2, p2, h2] [q, g, p, h]

set_option maxRecDepth 100000 in
set_option maxHeartbeats 6400000 in
theorem walk (room : Int) (a1 : Option Addr) (m1 c1 : Nat) (f1 : Nat → Nat → Int) (R1 : Nat → Byt) (a2 : Option Addr) (m2 c2 : Nat) (f2 : Nat → Nat → Int) (R2 : Nat → Byt) (a3 : Option Addr) (m3 c3 : Nat) (f3 : Nat → Nat → Int) (R3 : Nat → Byt) (w : World) (hroom : I64 room) (hr1 : ActsB w a1 m1 3 f1 R1) (hm1 : m1 ≤ maxLen) (hr2 : ActsB w a2 m2 3 f2 R2) (hm2 : m2 ≤ maxLen) (hr3 : ActsB w a3 m3 3 f3 R3) (hm3 : m3 ≤ maxLen) :
    Calls Try.prog 14 #[.int .i64 room, .slice a1 m1 c1, .slice a2 m2 c2, .slice a3 m3 c3] w fun e w' => e = .returned (.bool true) ∧ Below w.heap.size w w' := by
  unfold maxLen at hm1 hm2 hm3
  obtain ⟨ti, hi0, hz0, hz1, hz2⟩ := info_parts info_b8
  have H1 := Lib.hid hr1
  have H2 := Lib.hid hr2
  have H3 := Lib.hid hr3
  have HX := Lib.hid hroom
  clear hr1 hr2 hr3 hroom
  go_enter Try.func14, Try.ntmps14
  go_wp2_with fail
  refine (within_q room 20 _ HX.out (by omega) (by omega)).mono ?_; rintro e w' ⟨x, rfl, hx5, hx0, hx7, rfl⟩
  clear hx5
  obtain ⟨r, hr⟩ : ∃ r, r = 1 + x := ⟨_, rfl⟩
  have hr1 : 1 ≤ r := by omega
  have hr2 : r ≤ 256 := by omega
  have i0 : IntKind.i64.wrap (1 + x) = r := by rw [hr]; exact IntWalk.i64_in _ (by omega)
  clear hr
  go_wp2_with fail
  refine (lq_new_ok r _ hr1 hr2).mono ?_; rintro e w1 ⟨q, rfl, hq1, hg1, hb1⟩
  have HN := Lib.hid hq1
  have HB1 := Lib.hid hb1
  clear hq1 hb1
  rcases (show (¬ (50 : Int) < m1 ∧ ¬ (50 : Int) < m2 ∧ ¬ (50 : Int) < m3) ∨ (50 : Int) < m1 ∨ (¬ (50 : Int) < m1 ∧ (50 : Int) < m2) ∨ (¬ (50 : Int) < m1 ∧ ¬ (50 : Int) < m2 ∧ (50 : Int) < m3) by omega) with ⟨k1, k2, k3⟩ | k1 | ⟨k1, k2⟩ | ⟨k1, k2, k3⟩
  rotate_left
  all_goals try
    (go_wp2_with fail
     refine (lkwakes_c _).mono ?_; rintro e w6 ⟨rfl, hb6⟩
     go_wp2_with fail
     go_ret
     exact ⟨rfl, HB1.out.trans (hb6.mono HB1.out.size)⟩)
  go_upto_region 6 with fail
  obtain ⟨w2, hw2⟩ : ∃ w2, w2 = w1.alloc (.cells #[.int .i64 r, .int .i64 0, .slice none 0 0] 79) := ⟨_, rfl⟩
  obtain ⟨p, hp⟩ : ∃ p, p = w1.heap.size := ⟨_, rfl⟩
  rw [← hw2, ← hp]
  have T2 := Lib.hid (show Two w w2 q q p p r 0 [] by rw [hw2, hp]; exact two_new HN.out HB1.out hg1)
  clear hw2 hp HN HB1 i0
  go_wp2_with fail
  go_loopw [60] (fun i wr => Rel1 w wr q p r m1 i) (fun i _ => m1 - (intOf i).toNat)
  case atStart => exact ⟨0, by omega, rfl, _, _, _, _, T2.out, by simp, by omega, by omega⟩
  case round =>
    obtain ⟨k, hkn, rfl, g1, h1, lost, L, hT, hL, hlo, hlk⟩ := hrel
    by_cases hlt : k < m1
    · obtain ⟨b, off, rfl, c0, c1', c2', c3', hci⟩ := act_at H1.out hT.b hlt
      have i0 : (0 : Int) ≤ k := by omega
      have i1 : (k : Int) < m1 := by omega
      have T3 := Lib.hid hT
      have HCI := Lib.hid hci
      clear hT hci
      go_wp2_with fail
      refine (do_c7 w _ q g1 p h1 r lost L _ _ _ (R1 k) T3.out ⟨hr1, hr2⟩ (H1.out.int _ _) (H1.out.int _ _) (H1.out.int _ _) HCI.out ⟨hlo, by omega⟩ hL).mono ?_
      rintro e w3 ⟨lost', L', hL', hl1, hl2, rfl, g4, h4, hT4, ho4, _, _⟩
      have T4 := Lib.hid hT4
      clear hT4 ho4 c0 c1' c2' c3'
      go_wp2_with fail
      go_roundw
      case rel => exact ⟨k + 1, by omega, by go_num, _, _, _, _, T4.out, hL', by omega, by omega⟩
      case measure => simp [intOf]; omega
    · obtain ⟨ms, hq, hms⟩ := hT.que
      have T3 := Lib.hid hT
      have HQ := Lib.hid hq
      clear hT hq
      go_wp2_with fail
      refine (qclone_c q g1 r lost ms _ HQ.out).mono ?_
      rintro e w4 ⟨q2, g2, rfl, hq2, hs1, hs2, hb4⟩
      have T4 := Lib.hid (T3.out.below hb4)
      have Q2 := Lib.hid hq2
      obtain ⟨ps, hpl, hps⟩ := T4.out.pl
      obtain ⟨A, C, b0, b1, b2, hrow, hcap, hmax⟩ := hpl.row
      have HP := Lib.hid hpl
      have HR := Lib.hid hrow
      have hpn : ps.length = L.length := by rw [← hps]; simp
      have HPS := Lib.hid hps
      have HO : Hid (∀ u ∈ ps.map Prod.fst, u.oneCell' = true) := Lib.hid fun u hu => by
        obtain ⟨m, hm, rfl⟩ := List.mem_map.1 hu
        exact (hpl.old m hm).one
      have hlts := T3.out.lts
      have HL := Lib.hid hlts
      have hps256 : ps.length ≤ 256 := by omega
      have szs := hb4.size
      clear hq2 hb4 hpl hrow hps hlts hmax b0 hpn
      have KS : ∀ w', Below w4.heap.size w4 w' → w'.cell? ⟨p, 1, none⟩ = some (.int .i64 lost) ∧ w'.cell? ⟨p, 2, none⟩ = some (.slice A ps.length C) ∧ Below w4.heap.size w4 w' := fun w' o => ⟨kept o _ _ b1, kept o _ _ b2, o⟩
      go_upto_region 15 with fail
      refine wp_region_plan (fun w' => w'.cell? ⟨p, 1, none⟩ = some (.int .i64 lost) ∧ w'.cell? ⟨p, 2, none⟩ = some (.slice A ps.length C) ∧ Below w4.heap.size w4 w') 13 (.take 0 (.take 1 (.take 2 (.take 3 (.take 4 (.take 5 (.take 6 (.take 7 (.take 8 (.one 9 (.take 10 (.one 11 (.take 12 .done))))))))))))) (by kernel_rfl) (by kernel_rfl) (by kernel_rfl) (KS _ ((Below.refl _ _).drew)) ?_
      intro hS0
      repeat (refine' wpPlan_take rfl (by rfl) (by assumption) ?_ ?_; rotate_left; (· (intro w hSw; (try dsimp only at hSw); go_simp; try with_reducible rfl)); try simp only [Act.put, List.setIfInBounds_toArray, List.set_cons_zero, List.set_cons_succ])
      refine wpPlan_one rfl (fun K hK => ?_)
      go_simp
      refine (copy_b8 A ps.length C (ps.map Prod.fst) _ HR.out.drew HO.out (by omega)).mono ?_
      rintro e w5 ⟨a8, c8, rfl, h6, hb6⟩
      have E5 : Below w4.heap.size w4 w5 := ((Below.refl w4.heap.size w4).drew).trans hb6
      refine hK.out _ _ (KS _ E5) (fun _ => ?_); clear hK K; try simp only [Act.put, List.setIfInBounds_toArray, List.set_cons_zero, List.set_cons_succ]
      repeat (refine' wpPlan_take rfl (by rfl) (by assumption) ?_ ?_; rotate_left; (· (intro w hSw; (try dsimp only at hSw); go_simp; try with_reducible rfl)); try simp only [Act.put, List.setIfInBounds_toArray, List.set_cons_zero, List.set_cons_succ])
      refine wpPlan_one rfl (fun K hK => ?_)
      go_simp
      refine hK.out _ _ (KS _ (E5.alloc E5.size _)) (fun _ => ?_); clear hK K; try simp only [Act.put, List.setIfInBounds_toArray, List.set_cons_zero, List.set_cons_succ]
      repeat (refine' wpPlan_take rfl (by rfl) (by assumption) ?_ ?_; rotate_left; (· (intro w hSw; (try dsimp only at hSw); go_simp; try with_reducible rfl)); try simp only [Act.put, List.setIfInBounds_toArray, List.set_cons_zero, List.set_cons_succ])
      refine wpPlan_done ?_
      obtain ⟨w6, hw6⟩ : ∃ w6, w6 = w5.alloc (.cells #[.int .i64 r, .int .i64 lost, .slice a8 ps.length c8] 79) := ⟨_, rfl⟩
      obtain ⟨p2, hp2⟩ : ∃ p2, p2 = w5.heap.size := ⟨_, rfl⟩
      rw [← hw6, ← hp2]
      have E6 : Below w4.heap.size w4 w6 := by rw [hw6]; exact E5.alloc E5.size _
      have T6 := Lib.hid (T4.out.below E6)
      have own6 : w6.ownsRow w4.heap.size 33 1 (.slice a8 ps.length c8) ps.length (ps.map Prod.fst) := by rw [hw6]; exact own_below h6 ((Below.refl _ _).alloc (Nat.le_refl _) _)
      have lt8 : ∀ b, a8.map (·.block) = some b → w4.heap.size ≤ b ∧ b < w5.heap.size := fun b hb => World.ownsRow.lt h6 b (by rw [own_block_eq, hb])
      have s04 := T4.out.b.size
      have e56 := E5.size
      have twin : ∃ h2, Two w w6 q2 g2 p2 h2 r lost L ∧ (h2 = p2 ∨ w4.heap.size ≤ h2) := by
        have hbp : Blk w6 p2 79 #[.int .i64 r, .int .i64 lost, .slice a8 ps.length c8] := by rw [hw6, hp2]; exact Blk.new _ _ _
        have q6 := Q2.out.below E6
        have hq2l := Q2.out.lt
        have hg2l := Q2.out.glt
        have hq0 := T3.out.b.size
        refine ⟨match a8 with | none => p2 | some b => b.block, ⟨⟨ms, q6, hms⟩, ⟨ps, ⟨⟨a8, c8, hbp, own_base_le own6 s04, ?_⟩, HP.out.old⟩, HPS.out⟩, ?_, T6.out.b, by omega, by omega, by omega, ?_⟩, ?_⟩
        · cases a8 with
          | none => exact .inl ⟨rfl, rfl⟩
          | some b =>
            refine .inr ?_
            obtain ⟨cur, hq, _⟩ := (Loose.of_own own6).blk
            rw [← hq]
        · cases a8 with
          | none => show g2 ≠ p2; omega
          | some b => have : w4.heap.size ≤ b.block ∧ b.block < w5.heap.size := lt8 _ rfl; show g2 ≠ b.block; omega
        · cases a8 with
          | none => show w.heap.size ≤ p2; omega
          | some b => have : w4.heap.size ≤ b.block ∧ b.block < w5.heap.size := lt8 _ rfl; show w.heap.size ≤ b.block; omega
        · cases a8 with
          | none => exact .inl rfl
          | some b => have : w4.heap.size ≤ b.block ∧ b.block < w5.heap.size := lt8 _ rfl; exact .inr (by show w4.heap.size ≤ b.block; omega)
      obtain ⟨h2, hT2, hh2⟩ := twin
      have TW := Lib.hid hT2
      have hdis : Dis [q, g1, p, h1] [q2, g2, p2, h2] := fun x hx y hy => by
        have hxl := HL.out x hx
        simp only [List.mem_cons, List.not_mem_nil, or_false] at hy
        rcases hy with rfl | rfl | rfl | rfl
        · omega
        · omega
        · omega
        · rcases hh2 with rfl | e
          · omega
          · omega
      have HD := Lib.hid hdis
      clear hw6 hp2 E6 own6 lt8 hT2 hh2 hdis b1 b2 KS hS0 h6 hb6 E5 e56 s04 szs HQ
      go_wp2_with fail
      go_loopw [90] (fun i wr => Rel2 w wr q p q2 g2 p2 h2 r lost L m2 i) (fun i _ => m2 - (intOf i).toNat)
      case atStart => exact ⟨0, by omega, rfl, g1, h1, lost, L, T6.out, hL, hlo, by omega, TW.out, HD.out⟩
      case round =>
        obtain ⟨j, hjn, rfl, g3, h3, lost3, L3, hT, hL3, hlo3, hlk3, hTW, hDD⟩ := hrel
        by_cases hlt2 : j < m2
        · obtain ⟨b, off, rfl, c0, c1', c2', c3', hci⟩ := act_at H2.out hT.b hlt2
          have i0 : (0 : Int) ≤ j := by omega
          have i1 : (j : Int) < m2 := by omega
          have T7 := Lib.hid hT
          have TW7 := Lib.hid hTW
          have D7 := Lib.hid hDD
          have HCI := Lib.hid hci
          clear hT hci hTW hDD
          go_wp2_with fail
          refine (do_c7 w _ q g3 p h3 r lost3 L3 _ _ _ (R2 j) T7.out ⟨hr1, hr2⟩ (H2.out.int _ _) (H2.out.int _ _) (H2.out.int _ _) HCI.out ⟨hlo3, by omega⟩ hL3).mono ?_
          rintro e w8 ⟨lost', L', hL', hl1, hl2, rfl, g4, h4, hT4, ho4, hg4, hh4⟩
          have T8 := Lib.hid hT4
          have TW8 := Lib.hid (Two.beside T7.out TW7.out D7.out ho4)
          have D8 := Lib.hid (D7.out.next TW7.out.lts hg4 hh4)
          clear hT4 ho4 c0 c1' c2' c3' hg4 hh4
          go_wp2_with fail
          go_roundw
          case rel => exact ⟨j + 1, by omega, by go_num, _, _, _, _, T8.out, hL', by omega, by omega, TW8.out, D8.out⟩
          case measure => simp [intOf]; omega
        · have T7 := Lib.hid hT
          have TW7 := Lib.hid hTW
          have D7 := Lib.hid hDD.symm
          clear hT hTW hDD
          go_wp2_with fail
          go_loopw [104] (fun i wr => Rel3 w wr q g3 p h3 q2 p2 r lost3 L3 m3 i) (fun i _ => m3 - (intOf i).toNat)
          case atStart => exact ⟨0, by omega, rfl, g2, h2, lost, L, TW7.out, hL, hlo, by omega, T7.out, D7.out⟩
          case round =>
            obtain ⟨j3, hjn3, rfl, g5, h5, lost5, L5, hT, hL5, hlo5, hlk5, hTW, hDD⟩ := hrel
            by_cases hlt3 : j3 < m3
            · obtain ⟨b, off, rfl, c0, c1', c2', c3', hci⟩ := act_at H3.out hT.b hlt3
              have i0 : (0 : Int) ≤ j3 := by omega
              have i1 : (j3 : Int) < m3 := by omega
              have T9 := Lib.hid hT
              have TW9 := Lib.hid hTW
              have D9 := Lib.hid hDD
              have HCI := Lib.hid hci
              clear hT hci hTW hDD
              go_wp2_with fail
              refine (do_c7 w _ q2 g5 p2 h5 r lost5 L5 _ _ _ (R3 j3) T9.out ⟨hr1, hr2⟩ (H3.out.int _ _) (H3.out.int _ _) (H3.out.int _ _) HCI.out ⟨hlo5, by omega⟩ hL5).mono ?_
              rintro e w8 ⟨lost', L', hL', hl1, hl2, rfl, g4, h4, hT4, ho4, hg4, hh4⟩
              have T8 := Lib.hid hT4
              have TW8 := Lib.hid (Two.beside T9.out TW9.out D9.out ho4)
              have D8 := Lib.hid (D9.out.next TW9.out.lts hg4 hh4)
              clear hT4 ho4 c0 c1' c2' c3' hg4 hh4
              go_wp2_with fail
              go_roundw
              case rel => exact ⟨j3 + 1, by omega, by go_num, _, _, _, _, T8.out, hL', by omega, by omega, TW8.out, D8.out⟩
              case measure => simp [intOf]; omega
            · have T9 := Lib.hid hT
              have TW9 := Lib.hid hTW
              clear hT hTW hDD
              go_wp2_with fail
              refine (all_c _ _ q g3 p h3 r lost3 L3 TW9.out hL3).mono ?_; rintro e w10 ⟨rfl, hb10⟩
              have T10 := Lib.hid (T9.out.below hb10)
              clear hb10
              go_wp2_with fail
              refine (all_c _ _ q2 g5 p2 h5 r lost5 L5 T10.out hL5).mono ?_; rintro e w11 ⟨rfl, hb11⟩
              have B11 := Lib.hid (T10.out.b.trans (hb11.mono T10.out.b.size))
              clear hb11
              go_wp2_with fail
              refine (lkwakes_c _).mono ?_; rintro e w12 ⟨rfl, hb12⟩
              go_wp2_with fail
              go_ret
              exact ⟨rfl, B11.out.trans (hb12.mono B11.out.size)⟩

set_option maxRecDepth 100000 in
theorem lawWalk : LawWalk Try.checked 14 Try.f14 := by
  intro H enc W base args ds p hval hA hsz
  rw [Try.params14] at hA hval
  obtain ⟨v0, vs0, d0, ds0, p0, q0, hargs, rfl, rfl, h0, r0⟩ := trodAll_cons hA
  obtain ⟨v1, vs1, d1, ds1, p1, q1, rfl, rfl, rfl, h1, r1⟩ := trodAll_cons r0
  obtain ⟨v2, vs2, d2, ds2, p2, q2, rfl, rfl, rfl, h2, r2⟩ := trodAll_cons r1
  obtain ⟨v3, vs3, d3, ds3, p3, q3, rfl, rfl, rfl, h3, r3⟩ := trodAll_cons r2
  obtain ⟨rfl, rfl, rfl⟩ := trodAll_nil r3
  obtain rfl : args = #[v0, v1, v2, v3] := by cases args; simp_all
  obtain ⟨a0, rfl, rfl, rfl, w0⟩ := open_int Try.underlying3 (hval 0 3 v0 rfl rfl) h0
  obtain ⟨a1, n1, c1, g1, R1, rfl, hnc1, hcm1, hr1⟩ := open_acts (k := 3) (f := 33) (l := 5) Try.underlying75 Try.underlying82 (by kernel_rfl) (by kernel_rfl) (by rfl) (by kernel_rfl) (by kernel_rfl) Try.underlying33 Try.underlying5 (by kernel_rfl) (hval 1 75 v1 rfl rfl) h1
  obtain ⟨a2, n2, c2, g2, R2, rfl, hnc2, hcm2, hr2⟩ := open_acts (k := 3) (f := 33) (l := 5) Try.underlying75 Try.underlying82 (by kernel_rfl) (by kernel_rfl) (by rfl) (by kernel_rfl) (by kernel_rfl) Try.underlying33 Try.underlying5 (by kernel_rfl) (hval 2 75 v2 rfl rfl) h2
  obtain ⟨a3, n3, c3, g3, R3, rfl, hnc3, hcm3, hr3⟩ := open_acts (k := 3) (f := 33) (l := 5) Try.underlying75 Try.underlying82 (by kernel_rfl) (by kernel_rfl) (by rfl) (by kernel_rfl) (by kernel_rfl) Try.underlying33 Try.underlying5 (by kernel_rfl) (hval 3 75 v3 rfl rfl) h3
  exact walk a0 a1 n1 c1 g1 R1 a2 n2 c2 g2 R2 a3 n3 c3 g3 R3 W (I64.of_wf w0) hr1 (Nat.le_trans hnc1 hcm1) hr2 (Nat.le_trans hnc2 hcm2) hr3 (Nat.le_trans hnc3 hcm3)

theorem lifted (os : Os) (started : os.Started) (H : Type) (enc : TypeId × Value → H) :
    ReturnsInHanded {} Try.checked os 14 .any (Rows.linkClonesSpec.pre6 enc Try.prog Try.f14 Rows.linkClonesRow.domain false) (Rows.linkClonesSpec.post enc Try.prog Try.f14 false true false false) :=
  law_lift (C := Try.checked) (s := Rows.linkClonesSpec) (tb := 4) (by kernel_rfl) started (by kernel_rfl) Try.func14
    (ChangeSpec.witness6 (enc := enc) (C := Try.checked) false ⟨#[], #[.int .i64 0, .slice none 0 0, .slice none 0 0, .slice none 0 0], []⟩ 8 (by kernel_rfl) (by kernel_rfl) (by kernel_rfl) (by kernel_rfl))
    rfl (fun H ds h => by
      match ds, h with
      | [d0, d1, d2, d3], _ => rfl) (by kernel_rfl) (by kernel_rfl) (by kernel_rfl) Try.underlying4 lawWalk

theorem over : Rows.linkClonesRow.holds Try.pinned (OpenSpec.ofChange Rows.linkClonesSpec) :=
  OpenClaim.holds_of_wide 14 Try.f14 rfl rfl rfl rfl rfl rfl rfl ⟨rfl, rfl, rfl, rfl, rfl⟩ rfl rfl rfl rfl rfl (by kernel_rfl) Try.func14 (by kernel_rfl)
    (of_decide_eq_true (by kernel_rfl)) (by unfold Func.isWrapper; first | (rw [if_pos (by decide +kernel)]; kernel_rfl) | (rw [if_neg (by decide +kernel)]; exact ⟨rfl, rfl⟩))
    (fun os started H enc _ => lifted os started H enc)

/-- The statement. -/
theorem proved : Rows.LinkClonesSaid := over
#print axioms proved

end Go.Proofs.Ytjdcjofogmplcaa.LinkClones
