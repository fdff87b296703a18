/- Package clock: Due. -/
import Derived.Test.YtfeepofdnjnkpaaClock
import Derived.Deep.RegionHeld3
namespace Go.Proofs.Ytfeepofdnjnkpaa
open Go.RowKit
set_option linter.unusedVariables false

def dueOf (L : List (Int × Int)) (now : Int) : List Int := (L.filter fun p => decide (p.2 ≤ now)).map (·.1)
def leftOf (L : List (Int × Int)) (now : Int) : List (Int × Int) := L.filter fun p => decide (now < p.2)
theorem due_snoc (L : List (Int × Int)) (now : Int) (k : Nat) (hk : k < L.length) :
    (L[k].2 ≤ now → dueOf (L.take (k + 1)) now = dueOf (L.take k) now ++ [L[k].1] ∧ leftOf (L.take (k + 1)) now = leftOf (L.take k) now) ∧
    (now < L[k].2 → dueOf (L.take (k + 1)) now = dueOf (L.take k) now ∧ leftOf (L.take (k + 1)) now = leftOf (L.take k) now ++ [L[k]]) := by
  have e : L.take (k + 1) = L.take k ++ [L[k]] := List.take_succ_eq_append_getElem hk
  obtain ⟨p, hp⟩ : ∃ p, p = L[k] := ⟨_, rfl⟩
  rw [← hp] at e ⊢
  unfold dueOf leftOf
  rw [e, List.filter_append, List.filter_append, List.map_append]
  constructor
  · intro h
    have h1 : decide (p.2 ≤ now) = true := decide_eq_true h
    have h2 : decide (now < p.2) = false := decide_eq_false (by omega)
    constructor
    · rw [List.filter_cons, h1]; rfl
    · rw [List.filter_cons, h2]; exact List.append_nil _
  · intro h
    have h1 : decide (p.2 ≤ now) = false := decide_eq_false (by omega)
    have h2 : decide (now < p.2) = true := decide_eq_true h
    constructor
    · rw [List.filter_cons, h1]; exact List.append_nil _
    · rw [List.filter_cons, h2]; rfl
theorem due_len (L : List (Int × Int)) (now : Int) (k : Nat) : (dueOf (L.take k) now).length ≤ k ∧ (leftOf (L.take k) now).length ≤ k := by
  have h1 := List.length_filter_le (fun p : Int × Int => decide (p.2 ≤ now)) (L.take k)
  have h2 := List.length_filter_le (fun p : Int × Int => decide (now < p.2)) (L.take k)
  have h3 : (L.take k).length ≤ k := by rw [List.length_take]; omega
  unfold dueOf leftOf
  rw [List.length_map]
  omega
theorem info_int' : (Try.prog.info? 3).map (fun i => (i.zero, i.size, i.bytes)) = some (some (.int .i64 0), 1, 8) := by kernel_rfl
theorem info_timer : (Try.prog.info? 81).map (fun i => (i.zero, i.size, i.bytes)) = some (some (.agg #[.int .i64 0, .int .i64 0]), 2, 16) := by kernel_rfl
theorem int_one (xs : List Int) : ∀ u ∈ xs.map (Value.int .i64), u.oneCell' = true := by
  intro u hu
  simp only [List.mem_map] at hu
  obtain ⟨p, _, rfl⟩ := hu
  rfl

def DRel (w wr : World) (now : Int) (L : List (Int × Int)) (v1 v2 i : Value) : Prop := ∃ k : Nat, k ≤ L.length ∧ i = .int .i64 k ∧ ∃ D E a1 c1 a2 c2, D = dueOf (L.take k) now ∧ E = leftOf (L.take k) now ∧
  v1 = .slice a1 D.length c1 ∧ v2 = .slice a2 E.length c2 ∧ wr.ownsRow w.heap.size 3 1 (.slice a1 D.length c1) D.length (D.map (Value.int .i64)) ∧ wr.ownsRow w.heap.size 81 2 (.slice a2 E.length c2) E.length (E.flatMap tcell) ∧ E.length ≤ c2 ∧ Below w.heap.size w wr

set_option maxHeartbeats 1600000 in
theorem due_c (B gc : Nat) (now : Int) (L : List (Int × Int)) (w : World) (h : Clk w B gc now L) (hL : ∀ p ∈ L, I64 p.1 ∧ I64 p.2) (hn : L.length ≤ 1000) (hnow : 0 ≤ now ∧ now ≤ 1048576) :
    Calls Try.prog 33 #[.pointer (some ⟨gc, 0, none⟩)] w fun e w' => ∃ a c, e = .returned (.slice a (dueOf L now).length c) ∧ w'.ownsRow w.heap.size 3 1 (.slice a (dueOf L now).length c) (dueOf L now).length ((dueOf L now).map (Value.int .i64)) ∧ Clk w' B gc now (leftOf L now) ∧ Ticked B w w' := by
  obtain ⟨i0, hi0, hz0, hz1, hz2⟩ := info_parts info_int'
  obtain ⟨j0, hj0, hy0, hy1, hy2⟩ := info_parts info_timer
  obtain ⟨a, c, k1, k2, k3⟩ := h.ex
  have K1 := Lib.hid k1
  have K2 := Lib.hid k2
  have HG := Lib.hid h.ge
  have hlt := k1.lt
  have c1 : w.cell? ⟨gc, 1, none⟩ = some (.slice a L.length c) := k1.cell 1
  clear k1 k2 h
  go_enter Try.func33, Try.ntmps33
  go_wp2_with fail
  go_loopw [3, 4, 12] (fun v1 v2 i wr => DRel w wr now L v1 v2 i) (fun _ _ i _ => L.length - (intOf i).toNat)
  case atStart => exact ⟨0, by omega, rfl, [], [], none, 0, none, 0, by simp [dueOf], by simp [leftOf], rfl, rfl, ⟨by simp, .inl ⟨rfl, rfl⟩⟩, ⟨by simp, .inl ⟨rfl, rfl⟩⟩, by simp, Below.refl _ _⟩
  case round =>
    obtain ⟨k, hk, rfl, D, E, a1, c1', a2, c2, hD, hE, rfl, rfl, hown1, hown2, hcc, hb⟩ := hrel
    have O1 := Lib.hid hown1
    have O2 := Lib.hid hown2
    have HB := Lib.hid hb
    have zr := hb.size
    have hdl := due_len L now k
    rw [← hD, ← hE] at hdl
    by_cases hkl : k < L.length
    · obtain ⟨b, off, rfl, hbl, hcell⟩ := (own_vrow (own_below K2.out hb)).2 (by omega)
      have q0 : wr.cell? ⟨b, off + k * 2, none⟩ = some (.int .i64 L[k].1) := hcell _ _ (flat_get' tcell 2 tcell_len L k 0 (by omega) hkl _ rfl)
      have q1 : wr.cell? ⟨b, off + k * 2 + 1, none⟩ = some (.int .i64 L[k].2) := by rw [Nat.add_assoc]; exact hcell _ _ (flat_get' tcell 2 tcell_len L k 1 (by omega) hkl _ rfl)
      have c0 : wr.cell? ⟨gc, 0, none⟩ = some (.int .i64 now) := (K1.out.below hb hlt).cell 0
      have i1 : (0 : Int) ≤ k := by omega
      have i2 : (k : Int) < L.length := by omega
      have hs := due_snoc L now k hkl
      rw [← hD, ← hE] at hs
      have hg := hL _ (List.getElem_mem hkl)
      obtain ⟨p, hp⟩ : ∃ p, p = L[k] := ⟨_, rfl⟩
      rw [← hp] at q0 q1 hs hg
      obtain ⟨x, y⟩ := p
      simp only at q0 q1 hs hg
      have HS := Lib.hid hs
      clear hcell hs hp hown1 hown2 hb hD hE
      by_cases hy : y ≤ now
      · have HS1 := Lib.hid (HS.out.1 hy)
        go_wp2_with fail
        obtain ⟨wa, hwa⟩ : ∃ wa, wa = wr.alloc (.cells #[.int .i64 x, .int .i64 y] 81) := ⟨_, rfl⟩
        obtain ⟨gt, hgt⟩ : ∃ gt, gt = wr.heap.size := ⟨_, rfl⟩
        rw [← hwa, ← hgt]
        have blk : Blk wa gt 81 #[.int .i64 x, .int .i64 y] := by rw [hwa, hgt]; exact Blk.new _ _ _
        have b0 : wa.cell? ⟨gt, 0, none⟩ = some (.int .i64 x) := blk.cell 0
        have b1 : wa.cell? ⟨gt, 1, none⟩ = some (.int .i64 y) := blk.cell 1
        have ca : wa.cell? ⟨gc, 0, none⟩ = some (.int .i64 now) := by rw [hwa]; exact alloc_kept _ c0
        have P1 := Lib.hid (show wa.ownsRow w.heap.size 3 1 (.slice a1 D.length c1') D.length (D.map (Value.int .i64)) by rw [hwa]; exact World.ownsRow.alloc O1.out _)
        have P2 := Lib.hid (show wa.ownsRow w.heap.size 81 2 (.slice a2 E.length c2) E.length (E.flatMap tcell) by rw [hwa]; exact World.ownsRow.alloc O2.out _)
        have PB := Lib.hid (show Below w.heap.size w wa by rw [hwa]; exact HB.out.alloc zr _)
        clear hwa hgt blk c0 q0 q1
        go_quiet (fail)
        obtain ⟨wb, hwb⟩ : ∃ wb, wb = wa.drewN nq := ⟨_, rfl⟩
        rw [← hwb]
        have d0 : wb.cell? ⟨gt, 0, none⟩ = some (.int .i64 x) := by rw [hwb]; exact b0
        have Q1 := Lib.hid (show wb.ownsRow w.heap.size 3 1 (.slice a1 D.length c1') D.length (D.map (Value.int .i64)) by rw [hwb]; exact P1.out)
        have Q2 := Lib.hid (show wb.ownsRow w.heap.size 81 2 (.slice a2 E.length c2) E.length (E.flatMap tcell) by rw [hwb]; exact P2.out)
        have QB := Lib.hid (show Below w.heap.size w wb by rw [hwb]; exact below_drewN PB.out nq)
        have zb := QB.out.size
        have hll : (D.map (Value.int .i64)).length = D.length := List.length_map _
        clear hwb b0 b1 ca
        go_wp2_with (at_builtin; refine wpList_append_lies _ rfl (.tmp 23) (.tmp 26) _ rfl w.heap.size 3 i0 _ 1 8 Try.underlying51 hi0 hz0 hz1 hz2 rfl (by omega) (.slice a1 D.length c1') D.length (D.map (Value.int .i64)) rfl (World.ownsRow.alloc Q1.out _) ⟨wb.heap.size, 0, none⟩ 1 1 [.int .i64 x] rfl rfl (World.news_of_block (cs := #[.int .i64 x]) (t := 3) (fr := (0, 0)) (heap_alloc_new wb _)) (by simp [Value.oneCell']) (by omega) (by unfold maxLen; omega) (by omega) (by simp; omega) (wb.heap.size + 1) (by simp) ?_; intro g5 cap5 w5 hown5 hgrow5 hat5 hlt5)
        have R2 := Lib.hid ((World.ownsRow.alloc Q2.out _).kept hgrow5 (own_ne Q2.out Q1.out (by decide)))
        have R5 := Lib.hid hown5
        have RB := Lib.hid ((QB.out.alloc zb _).grown hgrow5 (Nat.le_trans zb (by simp)) (fun j hj => (Q1.out.lt j hj).1))
        clear hown5 hgrow5 hat5
        go_wp2_with fail
        go_roundw
        case rel =>
          refine ⟨k + 1, by omega, by go_num, D ++ [x], E, some ⟨g5, 0, none⟩, cap5, a2, c2, HS1.out.1.symm, HS1.out.2.symm, ?_, rfl, ?_, R2.out, hcc, RB.out⟩
          · rw [List.length_append]; rfl
          · have := R5.out
            rw [List.length_append, List.map_append]
            exact this
        case measure => simp [intOf]; omega
      · have HS1 := Lib.hid (HS.out.2 (by omega))
        go_wp2_with fail
        obtain ⟨wa, hwa⟩ : ∃ wa, wa = wr.alloc (.cells #[.int .i64 x, .int .i64 y] 81) := ⟨_, rfl⟩
        obtain ⟨gt, hgt⟩ : ∃ gt, gt = wr.heap.size := ⟨_, rfl⟩
        rw [← hwa, ← hgt]
        have blk : Blk wa gt 81 #[.int .i64 x, .int .i64 y] := by rw [hwa, hgt]; exact Blk.new _ _ _
        have b0 : wa.cell? ⟨gt, 0, none⟩ = some (.int .i64 x) := blk.cell 0
        have b1 : wa.cell? ⟨gt, 1, none⟩ = some (.int .i64 y) := blk.cell 1
        have ca : wa.cell? ⟨gc, 0, none⟩ = some (.int .i64 now) := by rw [hwa]; exact alloc_kept _ c0
        have P1 := Lib.hid (show wa.ownsRow w.heap.size 3 1 (.slice a1 D.length c1') D.length (D.map (Value.int .i64)) by rw [hwa]; exact World.ownsRow.alloc O1.out _)
        have P2 := Lib.hid (show wa.ownsRow w.heap.size 81 2 (.slice a2 E.length c2) E.length (E.flatMap tcell) by rw [hwa]; exact World.ownsRow.alloc O2.out _)
        have PB := Lib.hid (show Below w.heap.size w wa by rw [hwa]; exact HB.out.alloc zr _)
        clear hwa hgt blk c0 q0 q1
        go_quiet (fail)
        obtain ⟨wb, hwb⟩ : ∃ wb, wb = wa.drewN nq := ⟨_, rfl⟩
        rw [← hwb]
        have d0 : wb.cell? ⟨gt, 0, none⟩ = some (.int .i64 x) := by rw [hwb]; exact b0
        have d1 : wb.cell? ⟨gt, 1, none⟩ = some (.int .i64 y) := by rw [hwb]; exact b1
        have Q1 := Lib.hid (show wb.ownsRow w.heap.size 3 1 (.slice a1 D.length c1') D.length (D.map (Value.int .i64)) by rw [hwb]; exact P1.out)
        have Q2 := Lib.hid (show wb.ownsRow w.heap.size 81 2 (.slice a2 E.length c2) E.length (E.flatMap tcell) by rw [hwb]; exact P2.out)
        have QB := Lib.hid (show Below w.heap.size w wb by rw [hwb]; exact below_drewN PB.out nq)
        have zb := QB.out.size
        have hll : (E.flatMap tcell).length = E.length * 2 := flat_len tcell 2 tcell_len E
        clear hwb b0 b1 ca
        go_wp2_with (at_builtin; refine wpList_append_lies _ rfl (.tmp 28) (.tmp 30) _ rfl w.heap.size 81 j0 _ 2 16 Try.underlying77 hj0 hy0 hy1 hy2 rfl (by omega) (.slice a2 E.length c2) E.length (E.flatMap tcell) rfl (World.ownsRow.alloc Q2.out _) ⟨wb.heap.size, 0, none⟩ 1 1 [.int .i64 x, .int .i64 y] rfl rfl (World.news_of_block (cs := #[.int .i64 x, .int .i64 y]) (t := 81) (fr := (0, 0)) (heap_alloc_new wb _)) (by simp [Value.oneCell']) (by omega) (by unfold maxLen; omega) (by omega) (by simp; omega) (wb.heap.size + 1) (by simp) ?_; intro g5 cap5 w5 hown5 hgrow5 hat5 hlt5)
        have R1 := Lib.hid ((World.ownsRow.alloc Q1.out _).kept hgrow5 (own_ne Q1.out Q2.out (by decide)))
        have R5 := Lib.hid hown5
        have R6 := own_cap hown5
        have RB := Lib.hid ((QB.out.alloc zb _).grown hgrow5 (Nat.le_trans zb (by simp)) (fun j hj => (Q2.out.lt j hj).1))
        clear hown5 hgrow5 hat5
        go_wp2_with fail
        go_roundw
        case rel =>
          refine ⟨k + 1, by omega, by go_num, D, E ++ [(x, y)], a1, c1', some ⟨g5, 0, none⟩, cap5, HS1.out.1.symm, HS1.out.2.symm, rfl, ?_, R1.out, ?_, ?_, RB.out⟩
          · rw [List.length_append]; rfl
          · have := R5.out
            rw [List.length_append, List.flatMap_append]
            exact this
          · rw [List.length_append]; exact R6
        case measure => simp [intOf]; omega
    · have hkk : k = L.length := by omega
      rw [hkk, List.take_length] at hD hE
      have HD := Lib.hid hD
      have HE := Lib.hid hE
      have c1'' : wr.cell? ⟨gc, 1, none⟩ = some (.slice a L.length c) := (K1.out.below hb hlt).cell 1
      have f1 := (K1.out.below hb hlt).frozen 1
      clear hD hE hown1 hown2 hb
      go_wp2_with fail
      go_ret
      have kb := K1.out.below HB.out hlt
      have kb2 := kb.set_ 1 (.slice a2 E.length c2)
      have n1 := own_blk_ne O1.out kb (by decide)
      have n2 := own_blk_ne O2.out kb (by decide)
      have hw : (wr.setCell ⟨gc, 1, none⟩ (.slice a2 E.length c2)).ownsRow B 81 2 (.slice a2 E.length c2) E.length (E.flatMap tcell) := by
        refine own_base (ownsRow_setCell_other O2.out n2 _) (fun g hg => ?_)
        have := (O2.out.lt g hg).1
        have := HG.out
        omega
      have hd := HD.out
      have he := HE.out
      subst hd
      subst he
      exact ⟨a1, c1', rfl, ownsRow_setCell_other O1.out n1 _, ⟨⟨a2, c2, kb2, hw, hcc⟩, HG.out⟩, (Ticked.of_below (Nat.le_trans HG.out (Nat.le_of_lt hlt)) HB.out).trans (Ticked.set kb (.inl rfl) HG.out _)⟩
end Go.Proofs.Ytfeepofdnjnkpaa
