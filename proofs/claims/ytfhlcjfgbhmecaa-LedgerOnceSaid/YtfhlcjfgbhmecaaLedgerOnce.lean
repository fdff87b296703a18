/- LedgerOnce: for all numbers and batches the law returns true. No condition. -/
import Derived.Test.YtfhlcjfgbhmecaaLedgerI
import Derived.Test.YtfhlcjfgbhmecaaKeep
import Derived.Test.YtfhlcjfgbhmecaaRows
import Derived.BigQuiet
namespace Go.Proofs.Ytfhlcjfgbhmecaa.LedgerOnce
open Go.RowKit Go.ChangeShapes Go.WideShapes Go.ChangeAt
set_option linter.unusedVariables false

set_option maxRecDepth 100000 in
set_option maxHeartbeats 3200000 in
theorem walk (cl : Int) (a1 : Option Addr) (n1 c1 : Nat) (R1 : Nat → Inner) (w : World) (hcl : I64 cl) (hr1 : Rows2 w a1 n1 6 R1) (hm1 : n1 ≤ maxLen) (hc1 : n1 ≤ c1) :
    Calls Try.prog 6 #[.int .i64 cl, .slice a1 n1 c1] w fun e w' => e = .returned (.bool true) ∧ Below w.heap.size w w' := by
  have HR1 := Lib.hid hr1
  have M1 := Lib.hid hm1
  clear hr1 hm1
  go_enter Try.func6, Try.ntmps6
  go_wp2_with fail
  refine (within_q cl 4 _ hcl (by omega) (by omega)).mono ?_; rintro e w' ⟨q, rfl, _, q0, q4, rfl⟩
  obtain ⟨C, hC⟩ : ∃ C : Nat, 1 + q = C := ⟨(1 + q).toNat, by omega⟩
  have C1 : 1 ≤ C := by omega
  have C4 : C ≤ 4 := by omega
  go_wp2_with fail
  refine (cut_c w a1 n1 c1 R1 _ HR1.out (Below.refl _ _) M1.out).mono ?_; rintro e w1 ⟨b1, m1, d1, bsA, rfl, ho1, hbA, hlA, hmA, hb1⟩
  have BA := Lib.hid (show BRow w1 b1 m1 bsA from ⟨own_vrow ho1, fun x hx => (hbA x hx).below hb1, hmA⟩)
  have B1 := Lib.hid hb1
  clear ho1 hbA hlA hb1
  go_wp2_with fail
  clear hC q0 q4
  refine (fold_c C C1 C4 b1 m1 d1 bsA _ BA.out).mono ?_; rintro e w2 ⟨S, gd, rfl, hL2, hS2, hb2⟩
  have GF := Lib.hid (Good.fold C bsA)
  obtain ⟨⟨E0, st0', ct0⟩, hs0⟩ : ∃ s, foldB C bsA = s := ⟨_, rfl⟩
  have hE0 : E0.length ≤ 160 := by
    have h1 := foldB_len C bsA
    have h2 := allRq_len BA.out.b
    rw [hs0] at h1
    rw [BA.out.len] at h2
    simp only at h1
    omega
  rw [hs0] at hL2 GF
  have L2 := Lib.hid hL2
  have B2 := Lib.hid (B1.out.trans (hb2.mono B1.out.size))
  clear hL2 hS2 hb2 hs0
  obtain ⟨nw, hnw⟩ : ∃ nw, E0.length = nw := ⟨_, rfl⟩
  have NW := Lib.hid hnw
  have nw160 : nw ≤ 160 := by omega
  clear hnw hE0
  go_wp2_with fail
  obtain ⟨g4, hg4⟩ : ∃ g4, g4 = w2.heap.size := ⟨_, rfl⟩
  obtain ⟨w3, hw3⟩ : ∃ w3, w3 = w2.alloc (.cells #[.int .i64 0, .int .i64 0, .int .i64 0, .int .i64 0] 47) := ⟨_, rfl⟩
  rw [← hw3, ← hg4]
  have K3 := Lib.hid (show Blk w3 g4 47 (four (fun c => lastE ([] : List Ent) c)) by rw [hw3, hg4]; exact Blk.new _ _ _)
  have L3 := Lib.hid (show Led w3 S gd C E0 st0' ct0 by rw [hw3]; exact L2.out.below ((Below.refl _ _).alloc (Nat.le_refl _) _))
  have B3 := Lib.hid (show Below w.heap.size w w3 by rw [hw3]; exact B2.out.alloc B2.out.size _)
  have G4 := Lib.hid (show w.heap.size ≤ g4 by rw [hg4]; exact B2.out.size)
  clear hw3 hg4
  refine (lall_c S gd C E0 st0' ct0 _ L3.out nw NW.out (by omega)).mono ?_; rintro e w4 ⟨aw, cw, rfl, ho4, hb4⟩
  have O4 := Lib.hid ho4
  have K4 := Lib.hid (K3.out.below hb4 K3.out.lt)
  have B4 := Lib.hid (B3.out.trans (hb4.mono B3.out.size))
  clear ho4 hb4
  go_wp2_with fail
  go_loopw [31] (fun i wr => ∃ k : Nat, k ≤ nw ∧ i = .int .i64 k ∧ wr.ownsRow w3.heap.size 38 7 (.slice aw nw cw) nw (E0.flatMap ecell) ∧ Blk wr g4 47 (four (fun c => lastE (E0.take k) c)) ∧ Below w.heap.size w wr) (fun i _ => nw - (intOf i).toNat)
  case atStart => exact ⟨0, by omega, rfl, O4.out, K4.out, B4.out⟩
  case round =>
    obtain ⟨k, hk, rfl, hO, hK, hb⟩ := hrel
    have O := Lib.hid hO
    have K := Lib.hid hK
    have B := Lib.hid hb
    by_cases hlt : k < nw
    · obtain ⟨b, off, ha, hbl, ⟨⟨x0, x1, x2, x3, x4, x5⟩, x6⟩, he1, p0, p1, _⟩ := ent_cells (own_vrow hO) NW.out k hlt
      simp only at p0 p1
      have ge := GF.out.ent k _ he1
      simp only at ge
      obtain ⟨⟨g0, g1⟩, g2⟩ := ge
      obtain ⟨c, rfl⟩ := Int.eq_ofNat_of_zero_le g0
      have c4 : c < 4 := by omega
      have q0 : wr.cell? ⟨g4, c, none⟩ = some (.int .i64 (lastE (E0.take k) c)) := (hK.cell c).trans (four_get _ c c4)
      have fz := hK.frozen c
      have NXT := Lib.hid (show ∀ y, (if (c : Int) = y then x1 else lastE (E0.take k) y) = lastE (E0.take (k + 1)) y from fun y => by
        rw [List.take_add_one, he1, Option.toList_some, lastE_snoc])
      obtain ⟨lt, hlt'⟩ : ∃ lt, lt = lastE (E0.take k) c := ⟨_, rfl⟩
      rw [← hlt'] at q0 g2
      have i0 : (0 : Int) ≤ k := by omega
      have i1 : (k : Int) < nw := by omega
      have i2 : (c : Int) < 4 := by omega
      have d0 : decide ((c : Int) < 0) = false := decide_eq_false (by omega)
      have d1 : decide ((C : Int) ≤ c) = false := decide_eq_false (by omega)
      have d1' : decide (C ≤ c) = false := decide_eq_false (by omega)
      have d1'' : decide ((c : Int) ≥ C) = false := decide_eq_false (by omega)
      have d2 : decide (x1 ≤ lt) = false := decide_eq_false (by omega)
      clear he1 hlt' hO hK hb
      subst ha
      go_wp2_with fail
      have X0 := fun (x : Later wr) => x.cell p1
      have X1 := fun (x : Later wr) => x.cell q0
      refine wp_region_later (by kernel_rfl) (by kernel_rfl) ?_
      repeat (go_big_quiet_step (fail))
      refine wpQuiet_nil ?_
      rintro _ ⟨x, rfl⟩
      have O5 := Lib.hid (own_below O.out x.b)
      have K5 := Lib.hid (K.out.later x)
      have B5 := Lib.hid (B.out.trans (x.b.mono B.out.size))
      have p1' := X0 x
      have q0' := X1 x
      have fz' := K5.out.frozen c
      clear X0 X1 p0 p1 q0 fz d0 d1 d1' d1'' d2
      go_wp2_with fail
      refine ⟨⟨k + 1, by omega, by go_num, ?_, ?_, B5.out.setCell (p := ⟨g4, c, none⟩) G4.out _⟩, by simp [intOf]; omega⟩
      · exact ownsRow_setCell_other O5.out (own_blk_ne O5.out K5.out (by decide)) _
      · have := K5.out.set_ c (.int .i64 x1)
        rw [four_set _ c c4] at this
        rw [show (fun y => lastE (E0.take (k + 1)) y) = fun y => if (c : Int) = y then x1 else lastE (E0.take k) y from funext fun y => (NXT.out y).symm]
        exact this
    · clear hO hK hb
      go_wp2_with fail
      refine (lwakes_c _).mono ?_; rintro e w9 ⟨rfl, hb9⟩
      go_wp2
      go_ret
      exact ⟨rfl, B.out.trans (hb9.mono B.out.size)⟩

set_option maxRecDepth 100000 in
theorem lawWalk : LawWalk Try.checked 6 Try.f6 := by
  intro H enc W base args ds p hval hA hsz
  rw [Try.params6] at hA hval
  obtain ⟨v0, vs0, d0, ds0, p0, q0, hargs, rfl, rfl, h0, r0⟩ := trodAll_cons hA
  obtain ⟨v1, vs1, d1, ds1, p1, q1, rfl, rfl, rfl, h1, r1⟩ := trodAll_cons r0
  obtain ⟨rfl, rfl, rfl⟩ := trodAll_nil r1
  obtain rfl : args = #[v0, v1] := by cases args; simp_all
  obtain ⟨a0, rfl, rfl, rfl, w0⟩ := open_int Try.underlying3 (hval 0 3 v0 rfl rfl) h0
  obtain ⟨a1, n1, c1, R1, rfl, hnc1, hcm1, hr1⟩ := open_rows2 (k := 6) Try.underlying22 Try.underlying29 (by kernel_rfl) (by kernel_rfl) (by decide) (by kernel_rfl) (hval 1 22 v1 rfl rfl) h1
  exact walk a0 a1 n1 c1 R1 W (I64.of_wf w0) hr1 (Nat.le_trans hnc1 hcm1) hnc1

theorem lifted (os : Os) (started : os.Started) (H : Type) (enc : TypeId × Value → H) :
    ReturnsInHanded {} Try.checked os 6 .any (Rows.ledgerOnceSpec.pre6 enc Try.prog Try.f6 Rows.ledgerOnceRow.domain false) (Rows.ledgerOnceSpec.post enc Try.prog Try.f6 false true false false) :=
  law_lift (C := Try.checked) (s := Rows.ledgerOnceSpec) (tb := 4) (by kernel_rfl) started (by kernel_rfl) Try.func6
    (ChangeSpec.witness6 (enc := enc) (C := Try.checked) false ⟨#[], #[.int .i64 0, .slice none 0 0], []⟩ 8 (by kernel_rfl) (by kernel_rfl) (by kernel_rfl) (by kernel_rfl))
    rfl (fun H ds h => by
      match ds, h with
      | [d0, d1], _ => rfl) (by kernel_rfl) (by kernel_rfl) (by kernel_rfl) Try.underlying4 lawWalk

theorem over : Rows.ledgerOnceRow.holds Try.pinned (OpenSpec.ofChange Rows.ledgerOnceSpec) :=
  OpenClaim.holds_of_wide 6 Try.f6 rfl rfl rfl rfl rfl rfl rfl ⟨rfl, rfl, rfl, rfl, rfl⟩ rfl rfl rfl rfl rfl (by kernel_rfl) Try.func6 (by kernel_rfl)
    (of_decide_eq_true (by kernel_rfl)) (by unfold Func.isWrapper; first | (rw [if_pos (by decide +kernel)]; kernel_rfl) | (rw [if_neg (by decide +kernel)]; exact ⟨rfl, rfl⟩))
    (fun os started H enc _ => lifted os started H enc)

/-- The statement. -/
theorem proved : Rows.LedgerOnceSaid := over
#print axioms proved

end Go.Proofs.Ytfhlcjfgbhmecaa.LedgerOnce
