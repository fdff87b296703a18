/- LedgerMore: for all numbers and batches the law returns true. No condition. -/
import Derived.Test.YtfhlcjfgbhmecaaLedgerS
import Derived.Test.YtfhlcjfgbhmecaaKeep
import Derived.Test.YtfhlcjfgbhmecaaRows
import Derived.Deep.DeepCutAuto
import Derived.Deep.CutBlock
namespace Go.Proofs.Ytfhlcjfgbhmecaa.LedgerMore
open Go.RowKit Go.ChangeShapes Go.WideShapes Go.ChangeAt
set_option linter.unusedVariables false

set_option maxRecDepth 100000 in
set_option maxHeartbeats 3200000 in
theorem walk (cl : Int) (a1 : Option Addr) (n1 c1 : Nat) (R1 : Nat → Inner) (a2 : Option Addr) (n2 c2 : Nat) (R2 : Nat → Inner) (w : World) (hcl : I64 cl) (hr1 : Rows2 w a1 n1 6 R1) (hm1 : n1 ≤ maxLen) (hc1 : n1 ≤ c1) (hr2 : Rows2 w a2 n2 6 R2) (hm2 : n2 ≤ maxLen) (hc2 : n2 ≤ c2) :
    Calls Try.prog 7 #[.int .i64 cl, .slice a1 n1 c1, .slice a2 n2 c2] w fun e w' => e = .returned (.bool true) ∧ Below w.heap.size w w' := by
  have HR1 := Lib.hid hr1
  have HR2 := Lib.hid hr2
  have M1 := Lib.hid hm1
  have M2 := Lib.hid hm2
  clear hr1 hr2 hm1 hm2
  go_enter Try.func7, Try.ntmps7
  go_wp2_with fail
  refine (within_q cl 4 _ hcl (by omega) (by omega)).mono ?_; rintro e w' ⟨q, rfl, _, q0, q4, rfl⟩
  obtain ⟨C, hC⟩ : ∃ C : Nat, 1 + q = C := ⟨(1 + q).toNat, by omega⟩
  have C1 : 1 ≤ C := by omega
  have C4 : C ≤ 4 := by omega
  go_wp2_with fail
  refine (cut_c w a1 n1 c1 R1 _ HR1.out (Below.refl _ _) M1.out).mono ?_; rintro e w1 ⟨b1, m1, d1, bsA, rfl, ho1, hbA, hlA, hmA, hb1⟩
  have BA := Lib.hid (show BRow w1 b1 m1 bsA from ⟨own_vrow ho1, fun x hx => (hbA x hx).below hb1, hmA⟩)
  have B1 := Lib.hid hb1
  clear ho1 hbA hlA hb1
  go_wp2_with fail
  clear hC q0 q4
  refine (fold_c C C1 C4 b1 m1 d1 bsA _ BA.out).mono ?_; rintro e w2 ⟨S, gd, rfl, hL2, hS2, hb2⟩
  obtain ⟨⟨E0, st0', ct0⟩, hs0⟩ : ∃ s, foldB C bsA = s := ⟨_, rfl⟩
  have hE0 : E0.length ≤ 160 := by
    have h1 := foldB_len C bsA
    have h2 := allRq_len BA.out.b
    rw [hs0] at h1
    rw [BA.out.len] at h2
    simp only at h1
    omega
  rw [hs0] at hL2
  have L2 := Lib.hid hL2
  have B2 := Lib.hid (B1.out.trans (hb2.mono B1.out.size))
  have S2 := Lib.hid (show ∀ k ∈ S, w.heap.size ≤ k from fun k hk => Nat.le_trans B1.out.size (hS2 k hk))
  clear hL2 hS2 hb2 hs0
  go_wp2_with fail
  obtain ⟨nw, hnw⟩ : ∃ nw, E0.length = nw := ⟨_, rfl⟩
  have NW := Lib.hid hnw
  have nw160 : nw ≤ 160 := by omega
  clear hnw hE0
  refine (lall_c S gd C E0 st0' ct0 _ L2.out nw NW.out (by omega)).mono ?_; rintro e w3 ⟨aw, cw, rfl, ho3, hb3⟩
  have O3 := Lib.hid ho3
  have L3 := Lib.hid (L2.out.below hb3)
  have B3 := Lib.hid (B2.out.trans (hb3.mono B2.out.size))
  have Z23 := Lib.hid hb3.size
  clear ho3 hb3
  go_wp2_with fail
  refine (cut_c w a2 n2 c2 R2 _ HR2.out B3.out M2.out).mono ?_; rintro e w4 ⟨b2, m2, d2, bsB, rfl, ho4, hbB, hlB, hmB, hb4⟩
  have OB := Lib.hid ho4
  have BB := Lib.hid hbB
  have LB := Lib.hid hlB
  have L4 := Lib.hid (L3.out.below hb4)
  have B4 := Lib.hid (B3.out.trans (hb4.mono B3.out.size))
  have WAS := Lib.hid (show VRow w4 aw nw 7 (E0.flatMap ecell) from (own_vrow O3.out).below hb4)
  have WGE := Lib.hid (own_ge O3.out)
  have BGE := Lib.hid (show ∀ p, b2 = some p → w2.heap.size ≤ p.block from fun p hp => Nat.le_trans Z23.out (own_ge ho4 p hp))
  have SL := Lib.hid (show ∀ k ∈ S, k < w2.heap.size from L2.out.lt)
  clear ho4 hbB hlB hb4
  go_upto_block 0 with fail
  go_cut [10] (fun s wx => ∃ (S' : List Nat) (X : List Ent) (st : List (Bool × Int)) (ct : List (Int × Int)), s = .int .i64 X.length ∧ X.length ≤ 160 ∧ Led wx S' gd C (E0 ++ X) st ct ∧ Mid w2.heap.size w4 wx ∧ Below w.heap.size w wx)
  case first =>
    go_wp2_with fail
    go_loopw [10, 35] (fun s i wr => ∃ (k : Nat) (S' : List Nat) (X : List Ent) (st : List (Bool × Int)) (ct : List (Int × Int)), k ≤ m2 ∧ i = .int .i64 k ∧ s = .int .i64 X.length ∧ X.length ≤ 8 * k ∧ Led wr S' gd C (E0 ++ X) st ct ∧ Mid w2.heap.size w4 wr ∧ Below w.heap.size w wr ∧ (∀ k ∈ S', w.heap.size ≤ k) ∧ (∀ k ∈ S', k < w2.heap.size ∨ w4.heap.size ≤ k)) (fun _ i _ => m2 - (intOf i).toNat)
    case atStart => exact ⟨0, S, [], st0', ct0, by omega, rfl, rfl, by simp, by rw [List.append_nil]; exact L4.out, Mid.refl _ _, B4.out, S2.out, fun k hk => .inl (SL.out k hk)⟩
    case round =>
      obtain ⟨k, S', X, st, ct, hk, rfl, rfl, hX, hL, hM, hb, hS, hS'⟩ := hrel
      have L := Lib.hid hL
      have M := Lib.hid hM
      have B := Lib.hid hb
      have SS := Lib.hid hS
      have SS' := Lib.hid hS'
      clear hL hM hb hS hS'
      by_cases hlt : k < m2
      · obtain ⟨b, off, hb2e, hbl, hcell⟩ := ((own_vrow OB.out).mid M.out BGE.out).2 (by omega)
        have kb : k < bsB.length := by rw [LB.out]; exact hlt
        have c0 : wr.cell? ⟨b, off + k, none⟩ = some (bval bsB[k]) := hcell k _ (by rw [List.getElem?_map, List.getElem?_eq_getElem kb]; rfl)
        have hx := BB.out _ (List.getElem_mem kb)
        obtain ⟨x, hx'⟩ : ∃ x, x = bsB[k] := ⟨_, rfl⟩
        rw [← hx'] at c0 hx
        have HX := Lib.hid hx
        unfold bval at c0
        have i0 : (0 : Int) ≤ k := by omega
        have i1 : (k : Int) < m2 := by omega
        have xl : (X.length : Int) ≤ 160 := by omega
        obtain ⟨xn, hxn⟩ : ∃ xn, xn = X.length := ⟨_, rfl⟩
        rw [← hxn] at hX xl ⊢
        have XN := Lib.hid hxn
        have EL := Lib.hid (show (E0 ++ X).length ≤ 4000 by rw [List.length_append, NW.out, ← hxn]; omega)
        clear hcell hx hx' hxn
        subst hb2e
        go_wp2_with fail
        refine (run_more S' gd C (E0 ++ X, st, ct) x w _ L.out HX.out B.out SS.out EL.out _ rfl).mono ?_
        rintro e w5 ⟨S5, a5, m5, c5, out5, rfl, hL5, hs5, ho5, hm5, _, _, hon5, hS5, hb5, hS5'⟩
        rw [hs5, List.append_assoc] at hL5
        have L5 := Lib.hid hL5
        have M5 := Lib.hid (M.out.step hon5 SS'.out)
        have SG5 := Lib.hid hS5
        have S5' := Lib.hid (show ∀ k ∈ S5, k < w2.heap.size ∨ w4.heap.size ≤ k from fun k hk => by
          rcases hS5' k hk with h | h
          · exact SS'.out k h
          · have := M.out.size
            exact .inr (by omega))
        have B5 := Lib.hid hb5
        have XO := Lib.hid ho5
        have m5' : (m5 : Int) ≤ 8 := by omega
        clear hL5 hs5 hon5 hS5 hS5' hb5 ho5 c0
        go_wp2_with fail
        refine ⟨⟨k + 1, _, X ++ out5, _, _, by omega, by go_num, ?_, ?_, L5.out, M5.out, B5.out, SG5.out, S5'.out⟩, by simp [intOf]; omega⟩
        · rw [List.length_append, ← XN.out, XO.out]; go_num
        · rw [List.length_append, ← XN.out, XO.out]; omega
      · have hkm : k = m2 := by omega
        go_wp2_with fail
        go_meet
        exact ⟨S', X, st, ct, rfl, by omega, L.out, M.out, B.out⟩
  case rest =>
    obtain ⟨S', X, st, ct, rfl, hX, hL, hM, hb⟩ := hcut
    have L := Lib.hid hL
    have M := Lib.hid hM
    have B := Lib.hid hb
    obtain ⟨xn, hxn⟩ : ∃ xn, xn = X.length := ⟨_, rfl⟩
    rw [← hxn] at hX ⊢
    obtain ⟨nn, hnn⟩ : ∃ nn, nn = nw + xn := ⟨_, rfl⟩
    have NN := Lib.hid (show (E0 ++ X).length = nn by rw [List.length_append, NW.out, ← hxn, hnn])
    have nn4 : nn ≤ 4000 := by omega
    have e1 : ((nn : Int) == (nw : Int) + xn) = true := beq_iff_eq.2 (by omega)
    have nle : nw ≤ nn := by omega
    clear hL hM hb hxn hnn
    go_wp2_with fail
    refine (lall_c S' gd C (E0 ++ X) st ct _ L.out nn NN.out (by omega)).mono ?_; rintro e w6 ⟨a6, c6, rfl, ho6, hb6⟩
    have R6 := Lib.hid (show VRow w6 a6 nn 7 ((E0 ++ X).flatMap ecell) from own_vrow ho6)
    have nc6 := own_cap ho6
    have W6 := Lib.hid (show VRow w6 aw nw 7 (E0.flatMap ecell) from (WAS.out.mid M.out WGE.out).below hb6)
    have B6 := Lib.hid (B.out.trans (hb6.mono B.out.size))
    have TK := Lib.hid (show (E0 ++ X).take nw = E0 by rw [← NW.out, List.take_left])
    have K6 := Lib.hid (show VRow w6 a6 nw 7 (E0.flatMap ecell) by
      have := R6.out.take nle
      rwa [flat_take ecell 7 ecell_len, TK.out] at this)
    have sl : ∀ w : World, (Instr.slice 34 (.slice a6 nn c6) none (some (.int .i64 nw)) none).run Try.prog w = .ok (.slice a6 nw c6) w := to_any (P := Try.prog) 34 38 7 Try.underlying34 (by kernel_rfl) size_entry a6 nn c6 nw nle nc6
    clear ho6 hb6
    go_wp2_with fail
    refine (same_ent_c a6 nw c6 aw nw cw E0 _ K6.out W6.out NW.out NW.out (by omega)).mono ?_; rintro e w7 ⟨rfl, hb7⟩
    have R7 := Lib.hid (R6.out.below hb7)
    have W7 := Lib.hid (W6.out.below hb7)
    have B7 := Lib.hid (B6.out.trans (hb7.mono B6.out.size))
    clear hb7
    go_wp2_with fail
    refine (prefix_c aw nw cw a6 nn c6 E0 (E0 ++ X) _ W7.out R7.out NW.out NN.out (by omega) (by omega) true (iff_of_true rfl (by rw [TK.out, List.take_of_length_le (by rw [NW.out]; exact nle)]))).mono ?_; rintro e w8 ⟨rfl, hb8⟩
    have B8 := Lib.hid (B7.out.trans (hb8.mono B7.out.size))
    clear hb8
    go_wp2_with fail
    refine (lwakes_c _).mono ?_; rintro e w9 ⟨rfl, hb9⟩
    go_wp2
    go_ret
    exact ⟨rfl, B8.out.trans (hb9.mono B8.out.size)⟩

set_option maxRecDepth 100000 in
theorem lawWalk : LawWalk Try.checked 7 Try.f7 := by
  intro H enc W base args ds p hval hA hsz
  rw [Try.params7] at hA hval
  obtain ⟨v0, vs0, d0, ds0, p0, q0, hargs, rfl, rfl, h0, r0⟩ := trodAll_cons hA
  obtain ⟨v1, vs1, d1, ds1, p1, q1, rfl, rfl, rfl, h1, r1⟩ := trodAll_cons r0
  obtain ⟨v2, vs2, d2, ds2, p2, q2, rfl, rfl, rfl, h2, r2⟩ := trodAll_cons r1
  obtain ⟨rfl, rfl, rfl⟩ := trodAll_nil r2
  obtain rfl : args = #[v0, v1, v2] := by cases args; simp_all
  obtain ⟨a0, rfl, rfl, rfl, w0⟩ := open_int Try.underlying3 (hval 0 3 v0 rfl rfl) h0
  obtain ⟨a1, n1, c1, R1, rfl, hnc1, hcm1, hr1⟩ := open_rows2 (k := 6) Try.underlying22 Try.underlying29 (by kernel_rfl) (by kernel_rfl) (by decide) (by kernel_rfl) (hval 1 22 v1 rfl rfl) h1
  obtain ⟨a2, n2, c2, R2, rfl, hnc2, hcm2, hr2⟩ := open_rows2 (k := 6) Try.underlying22 Try.underlying29 (by kernel_rfl) (by kernel_rfl) (by decide) (by kernel_rfl) (hval 2 22 v2 rfl rfl) h2
  exact walk a0 a1 n1 c1 R1 a2 n2 c2 R2 W (I64.of_wf w0) hr1 (Nat.le_trans hnc1 hcm1) hnc1 hr2 (Nat.le_trans hnc2 hcm2) hnc2

theorem lifted (os : Os) (started : os.Started) (H : Type) (enc : TypeId × Value → H) :
    ReturnsInHanded {} Try.checked os 7 .any (Rows.ledgerMoreSpec.pre6 enc Try.prog Try.f7 Rows.ledgerMoreRow.domain false) (Rows.ledgerMoreSpec.post enc Try.prog Try.f7 false true false false) :=
  law_lift (C := Try.checked) (s := Rows.ledgerMoreSpec) (tb := 4) (by kernel_rfl) started (by kernel_rfl) Try.func7
    (ChangeSpec.witness6 (enc := enc) (C := Try.checked) false ⟨#[], #[.int .i64 0, .slice none 0 0, .slice none 0 0], []⟩ 8 (by kernel_rfl) (by kernel_rfl) (by kernel_rfl) (by kernel_rfl))
    rfl (fun H ds h => by
      match ds, h with
      | [d0, d1, d2], _ => rfl) (by kernel_rfl) (by kernel_rfl) (by kernel_rfl) Try.underlying4 lawWalk

theorem over : Rows.ledgerMoreRow.holds Try.pinned (OpenSpec.ofChange Rows.ledgerMoreSpec) :=
  OpenClaim.holds_of_wide 7 Try.f7 rfl rfl rfl rfl rfl rfl rfl ⟨rfl, rfl, rfl, rfl, rfl⟩ rfl rfl rfl rfl rfl (by kernel_rfl) Try.func7 (by kernel_rfl)
    (of_decide_eq_true (by kernel_rfl)) (by unfold Func.isWrapper; first | (rw [if_pos (by decide +kernel)]; kernel_rfl) | (rw [if_neg (by decide +kernel)]; exact ⟨rfl, rfl⟩))
    (fun os started H enc _ => lifted os started H enc)

/-- The statement. -/
theorem proved : Rows.LedgerMoreSaid := over
#print axioms proved

end Go.Proofs.Ytfhlcjfgbhmecaa.LedgerMore
