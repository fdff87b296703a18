/- LedgerClones: for every number of clients and all batches the law returns true: a clone is the same, and goes its own way; what is handed out is not its own. No condition. -/
import Derived.Test.YtfhlcjfgbhmecaaRLedS
import Derived.Test.YtfhlcjfgbhmecaaKeep
import Derived.Test.YtfhlcjfgbhmecaaRows
import Derived.Test.YtfhlcjfgbhmecaaWhole
namespace Go.Proofs.Ytfhlcjfgbhmecaa.LedgerClones
open Go.RowKit Go.ChangeShapes Go.WideShapes Go.ChangeAt
set_option linter.unusedVariables false

theorem rl_new (C : Nat) (v : Value) : (rlist 0 st0 [] v).toArray.setIfInBounds 0 (.int .i64 C) = (rlist C st0 (List.replicate C (0, 0)) v).toArray := by
  have h : ∀ k, (List.replicate C ((0 : Int), (0 : Int))).getD k (0, 0) = (0, 0) := fun k => by
    rw [List.getD_eq_getElem?_getD, List.getElem?_replicate]
    split <;> rfl
  unfold rlist tailL tmL rsL
  rw [h, h, h, h, List.setIfInBounds_toArray]
  rfl
theorem rl_ne (C : Int) (st : List (Bool × Int)) (ct : List (Int × Int)) (v : Value) : ¬ (rlist C st ct v).toArray = #[] := by simp [rlist]


theorem rlist_size (C : Int) (st : List (Bool × Int)) (ct : List (Int × Int)) (v : Value) (h : st.length = 64) : (rlist C st ct v).toArray.size = 138 := by
  simp [rlist, rcellsL_len' st h, tailL, tmL, rsL]
theorem rlist_one (C : Int) (st : List (Bool × Int)) (ct : List (Int × Int)) (a : Option Addr) (n c : Nat) : (rlist C st ct (.slice a n c)).toArray.all (·.oneCell') = true := by
  rw [Array.all_eq_true']
  intro v hv
  simp only [List.mem_toArray, rlist, tailL, tmL, rsL, rcellsL, List.mem_cons, List.mem_append, List.mem_map, List.not_mem_nil, or_false] at hv
  rcases hv with rfl | (⟨x, _, rfl⟩ | ⟨x, _, rfl⟩) | (rfl | rfl | rfl | rfl) | (rfl | rfl | rfl | rfl) | rfl <;> rfl
/-- A ledger and the reference's, alike. -/
structure Duo (w wr : World) (S F : List Nat) (gd gr C : Nat) (s : LSt) : Prop where
  l : Led wr S gd C s.1 s.2.1 s.2.2
  r : RLg wr F gr C s.1 s.2.1 s.2.2
  d : ∀ x ∈ S, x ∉ F
  s0 : ∀ x ∈ S, w.heap.size ≤ x
  g0 : w.heap.size ≤ gr
section
variable {w wr wx : World} {S F T : List Nat} {gd gr C : Nat} {s : LSt}
theorem Duo.only (h : Duo w wr S F gd gr C s) (ho : Only T wr wx) (h1 : ∀ x ∈ S, x ∉ T) (h2 : ∀ x ∈ F, x ∉ T) : Duo w wx S F gd gr C s := ⟨h.l.only ho h1, h.r.only ho h2, h.d, h.s0, h.g0⟩
theorem Duo.below (h : Duo w wr S F gd gr C s) (hb : Below wr.heap.size wr wx) : Duo w wx S F gd gr C s := h.only (Only.of_below (S := []) hb) (by simp) (by simp)
theorem Duo.gS (h : Duo w wr S F gd gr C s) : gr ∉ S := fun hm => h.d gr hm h.r.mem
end

set_option maxRecDepth 100000 in
set_option maxHeartbeats 6400000 in
theorem walk (cl : Int) (a1 : Option Addr) (n1 c1 : Nat) (R1 : Nat → Inner) (a2 : Option Addr) (n2 c2 : Nat) (R2 : Nat → Inner) (a3 : Option Addr) (n3 c3 : Nat) (R3 : Nat → Inner) (w : World) (hcl : I64 cl)
    (hr1 : Rows2 w a1 n1 6 R1) (hm1 : n1 ≤ maxLen) (hc1 : n1 ≤ c1) (hr2 : Rows2 w a2 n2 6 R2) (hm2 : n2 ≤ maxLen) (hc2 : n2 ≤ c2) (hr3 : Rows2 w a3 n3 6 R3) (hm3 : n3 ≤ maxLen) (hc3 : n3 ≤ c3) :
    Calls Try.prog 13 #[.int .i64 cl, .slice a1 n1 c1, .slice a2 n2 c2, .slice a3 n3 c3] w fun e w' => e = .returned (.bool true) ∧ Below w.heap.size w w' := by
  have HR1 := Lib.hid hr1
  have M1 := Lib.hid hm1
  have HR2 := Lib.hid hr2
  have M2 := Lib.hid hm2
  have HR3 := Lib.hid hr3
  have M3 := Lib.hid hm3
  clear hr1 hm1 hr2 hm2 hr3 hm3
  have hz := rlzero
  obtain ⟨Z, hZ⟩ : ∃ Z, Z = (rlist 0 st0 [] (.slice none 0 0)).toArray := ⟨_, rfl⟩
  rw [← hZ] at hz
  have hne : ¬ Z = #[] := by rw [hZ]; exact rl_ne _ _ _ _
  have ZS := Lib.hid (show Z.size = 138 by rw [hZ]; exact rlist_size _ _ _ _ (by simp [st0]))
  have ZV := Lib.hid hZ
  clear hZ
  go_enter Try.func13, Try.ntmps13
  go_wp2_with fail
  refine (within_q cl 4 _ hcl (by omega) (by omega)).mono ?_; rintro e w' ⟨q, rfl, _, q0, q4, rfl⟩
  obtain ⟨C, hC⟩ : ∃ C : Nat, 1 + q = C := ⟨(1 + q).toNat, by omega⟩
  have C1 : 1 ≤ C := by omega
  have C4 : C ≤ 4 := by omega
  go_wp2_with fail
  refine (cut_c w a1 n1 c1 R1 _ HR1.out (Below.refl _ _) M1.out).mono ?_; rintro e w1 ⟨b1, m1, d1, bsA, rfl, ho1, hbA, hlA, hmA, hb1⟩
  have BA := Lib.hid (show BRow w1 b1 m1 bsA from ⟨own_vrow ho1, fun x hx => (hbA x hx).below hb1, hmA⟩)
  have B1 := Lib.hid hb1
  clear ho1 hbA hlA hb1
  go_wp2_with fail
  refine (cut_c w a2 n2 c2 R2 _ HR2.out B1.out M2.out).mono ?_; rintro e w2 ⟨b2, m2, d2, bsB, rfl, ho2, hbB, hlB, hmB, hb2⟩
  have OB := Lib.hid ho2
  have KB : Hid (∀ q, (Value.slice b2 m2 d2).ownBlock = some q → q < w2.heap.size) := Lib.hid (fun q hq => (World.ownsRow.lt ho2 q hq).2)
  have z23' := hb2.size
  have BB := Lib.hid hbB
  have LB := Lib.hid hlB
  have BA2 := Lib.hid (BA.out.below hb2)
  have B2 := Lib.hid (B1.out.trans (hb2.mono B1.out.size))
  clear ho2 hbB hlB hb2 BA B1
  go_wp2_with fail
  refine (cut_c w a3 n3 c3 R3 _ HR3.out B2.out M3.out).mono ?_; rintro e w3 ⟨b3, m3, d3, bsC, rfl, ho3, hbC, hlC, hmC, hb3⟩
  have OC := Lib.hid ho3
  have KC : Hid (∀ q, (Value.slice b3 m3 d3).ownBlock = some q → q < w3.heap.size) := Lib.hid (fun q hq => (World.ownsRow.lt ho3 q hq).2)
  have z23 := hb3.size
  have BC := Lib.hid hbC
  have LC := Lib.hid hlC
  have BA3 := Lib.hid (BA2.out.below hb3)
  have OB3 := Lib.hid (own_below OB.out hb3)
  have B3 := Lib.hid (B2.out.trans (hb3.mono B2.out.size))
  clear ho3 hbC hlC hb3 BA2 OB
  go_wp2_with fail
  clear hC q0 q4
  refine (fold_c C C1 C4 b1 m1 d1 bsA _ BA3.out).mono ?_; rintro e w4 ⟨S0, gd, rfl, hL4, hS4, hb4⟩
  have EL : Hid ((foldB C bsA).1.length ≤ 160) := Lib.hid (by
    have h1 := foldB_len C bsA
    have h2 := allRq_len BA3.out.b
    rw [BA3.out.len] at h2
    omega)
  have L4 := Lib.hid hL4
  have S4 := Lib.hid hS4
  have BA4 := Lib.hid (BA3.out.below hb4)
  have OB4 := Lib.hid (own_below OB3.out hb4)
  have OC4 := Lib.hid (own_below OC.out hb4)
  have B4 := Lib.hid (B3.out.trans (hb4.mono B3.out.size))
  have z34 := Lib.hid hb4.size
  clear hL4 hS4 hb4 BA3 OB3 OC
  have HZ := Lib.hid (show Z.setIfInBounds 0 (.int .i64 C) = (rlist C st0 (List.replicate C (0, 0)) (.slice none 0 0)).toArray by rw [ZV.out]; exact rl_new C _)
  go_upto_block 0 with fail
  obtain ⟨w5, hw5⟩ : ∃ w5, w5 = w4.alloc (.cells (Z.setIfInBounds 0 (.int .i64 C)) 56) := ⟨_, rfl⟩
  obtain ⟨gr, hgr⟩ : ∃ gr, gr = w4.heap.size := ⟨_, rfl⟩
  rw [← hw5, ← hgr]
  have b45 : Below w4.heap.size w4 w5 := by rw [hw5]; exact (Below.refl _ _).alloc (Nat.le_refl _) _
  have RB := Lib.hid (show Blk w5 gr 56 (rlist C st0 (List.replicate C (0, 0)) (.slice none 0 0)).toArray by rw [hw5, hgr, HZ.out]; exact Blk.new _ _ _)
  have R5 := Lib.hid (show RLg w5 [gr] gr C [] st0 (List.replicate C (0, 0)) from ⟨⟨none, 0, rfl, ⟨RB.out, by simp [st0]⟩, ⟨rfl, .inl ⟨rfl, rfl⟩⟩⟩, C4, by simp, Smalls.zero⟩)
  have GR := Lib.hid (show w4.heap.size ≤ gr from Nat.le_of_eq hgr.symm)
  have B45 := Lib.hid b45
  clear hw5 hgr b45 HZ RB
  go_cut [] (fun wx => ∃ F, RLg wx F gr C (foldB C bsA).1 (foldB C bsA).2.1 (foldB C bsA).2.2 ∧ (∀ x ∈ F, w4.heap.size ≤ x) ∧ Below w4.heap.size w4 wx)
  case first =>
    go_wp2_with fail
    go_loopw [44] (fun i wr => ∃ (k : Nat) (F : List Nat), k ≤ m1 ∧ i = .int .i64 k ∧ RLg wr F gr C (foldB C (bsA.take k)).1 (foldB C (bsA.take k)).2.1 (foldB C (bsA.take k)).2.2 ∧ (∀ x ∈ F, w4.heap.size ≤ x) ∧ Below w4.heap.size w4 wr) (fun i _ => m1 - (intOf i).toNat)
    case atStart => exact ⟨0, [gr], by omega, rfl, R5.out, by simpa using GR.out, B45.out⟩
    case round =>
      obtain ⟨k, F, hk, rfl, hR, hF, hb⟩ := hrel
      have R := Lib.hid hR
      have FF := Lib.hid hF
      have B := Lib.hid hb
      clear hR hF hb
      by_cases hlt : k < m1
      · obtain ⟨b, off, rfl, hbl, hcell⟩ := (BA4.out.v.below B.out).2 (by omega)
        have kb : k < bsA.length := by rw [BA4.out.len]; exact hlt
        have c0 : wr.cell? ⟨b, off + k, none⟩ = some (bval bsA[k]) := hcell k _ (by rw [List.getElem?_map, List.getElem?_eq_getElem kb]; rfl)
        have hx := BA4.out.b _ (List.getElem_mem kb)
        have ft := foldB_take C bsA k kb
        obtain ⟨x, hx'⟩ : ∃ x, x = bsA[k] := ⟨_, rfl⟩
        rw [← hx'] at c0 hx ft
        obtain ⟨xa, xn, xc, xr⟩ := x
        have HX := Lib.hid hx
        have hx8 : xn ≤ 8 := hx.m
        have XL : Hid (xr.length = xn) := Lib.hid hx.l
        have FT : Hid (foldB C (bsA.take (k + 1)) = runL (foldB C (bsA.take k)) xr) := Lib.hid ft
        have FL := Lib.hid (show (foldB C (bsA.take k)).1.length ≤ 160 by
          have h1 := foldB_len C (bsA.take k)
          have h2 := allRq_len (w := w4) (bs := bsA.take k) (fun y hy => BA4.out.b y (List.mem_of_mem_take hy))
          rw [List.length_take, BA4.out.len] at h2
          have := BA4.out.m
          omega)
        obtain ⟨⟨A, st, ct⟩, hA⟩ : ∃ y, foldB C (bsA.take k) = y := ⟨_, rfl⟩
        rw [hA] at R FT FL
        obtain ⟨⟨out, st', ct'⟩, hrun⟩ : ∃ y, runL ([], st, ct) xr = y := ⟨_, rfl⟩
        have RUN := Lib.hid hrun
        have FT' : Hid (foldB C (bsA.take (k + 1)) = (A ++ out, st', ct')) := Lib.hid (by rw [FT.out, runL_app, hrun])
        have FL' : A.length ≤ 160 := FL.out
        unfold bval at c0
        simp only at c0
        have i0 : (0 : Int) ≤ k := by omega
        have i1 : (k : Int) < m1 := by omega
        clear hcell hx ft hx' hA hrun FT FL
        go_wp2_with fail
        refine (rrun_c F gr C A st ct xa xn xc xr wr R.out (HX.out.v.below B.out) (fun h0 p hp e => by
          have h1 := HX.out.s h0 p hp
          have h2 := GR.out
          omega) XL.out (by omega) HX.out.i out st' ct' RUN.out out.length rfl).mono ?_
        rintro e w6 ⟨F6, a6, c6, rfl, hR6, ho6, hon6, hF6⟩
        have R6 := Lib.hid hR6
        have FF6 := Lib.hid (show ∀ x ∈ F6, w4.heap.size ≤ x from fun x hx => by
          rcases hF6 x hx with h | h
          · rw [h]; exact GR.out
          · exact Nat.le_trans B.out.size h)
        have B6 := Lib.hid (hon6.below B.out B.out.size (by simpa using GR.out))
        clear hR6 ho6 hon6 hF6 c0
        go_wp2_with fail
        go_roundw
        case rel => exact ⟨k + 1, F6, by omega, by go_num, by rw [FT'.out]; exact R6.out, FF6.out, B6.out⟩
        case measure => simp [intOf]; omega
      · have e : bsA.take k = bsA := List.take_of_length_le (by rw [BA4.out.len]; omega)
        rw [e] at R
        go_wp2_with fail
        go_meet
        exact ⟨F, R.out, FF.out, B.out⟩
  case rest =>
    obtain ⟨F, hR, hF, hb⟩ := hcut
    obtain ⟨w6, hw6⟩ : ∃ w6, w6 = wc := ⟨_, rfl⟩
    rw [← hw6] at hR hb ⊢
    clear hw6
    obtain ⟨s0, hs0⟩ : ∃ s, s = foldB C bsA := ⟨_, rfl⟩
    rw [← hs0] at hR L4 EL
    have L6 := Lib.hid (L4.out.below hb)
    have R6 := Lib.hid hR
    have LF := Lib.hid (show ∀ x ∈ F, x < w6.heap.size from hR.lt)
    have FF := Lib.hid hF
    have OB6 := Lib.hid (own_below OB4.out hb)
    have OC6 := Lib.hid (own_below OC4.out hb)
    have LTS := Lib.hid (show ∀ x ∈ S0, x < w4.heap.size from L4.out.lt)
    have B6 := Lib.hid (B4.out.trans (hb.mono B4.out.size))
    have z46 := Lib.hid hb.size
    have e160 := EL.out
    clear hR hF hb hs0 L4 R5 OB4 OC4 BA4 B45
    go_wp2_with fail
    refine (lclone_c S0 gd C s0.1 s0.2.1 s0.2.2 _ L6.out (by omega)).mono ?_; rintro e w7 ⟨S2, gy, rfl, hL7, hS7, hb7⟩
    have Y7 := Lib.hid hL7
    have SY := Lib.hid hS7
    have L7 := Lib.hid (L6.out.below hb7)
    have R7 := Lib.hid (R6.out.below hb7)
    have OB7 := Lib.hid (own_below OB6.out hb7)
    have OC7 := Lib.hid (own_below OC6.out hb7)
    have B7 := Lib.hid (B6.out.trans (hb7.mono B6.out.size))
    have z67 := Lib.hid hb7.size
    clear hL7 hS7 hb7 OB6 OC6 L6
    go_wp2_with fail
    refine (lsame_c S0 gd C S2 gy C s0.1 s0.2.1 s0.2.2 _ L7.out Y7.out (by omega)).mono ?_; rintro e w8 ⟨rfl, hb8⟩
    have Y8 := Lib.hid (Y7.out.below hb8)
    have L8 := Lib.hid (L7.out.below hb8)
    have R8 := Lib.hid (R7.out.below hb8)
    have OB8 := Lib.hid (own_below OB7.out hb8)
    have OC8 := Lib.hid (own_below OC7.out hb8)
    have B8 := Lib.hid (B7.out.trans (hb8.mono B7.out.size))
    have z78 := Lib.hid hb8.size
    have YL : Hid (∀ x ∈ S2, w6.heap.size ≤ x ∧ x < w8.heap.size) := Lib.hid (fun x hx => ⟨SY.out x hx, Y8.out.lt x hx⟩)
    clear hb8 OB7 OC7 L7 R7 Y7
    obtain ⟨aR, cR, hFe, hRS, hRO⟩ := R8.out.ex
    obtain ⟨Cs, hCs⟩ : ∃ Cs, Cs = (rlist C s0.2.1 s0.2.2 (.slice aR s0.1.length cR)).toArray := ⟨_, rfl⟩
    have hblk := Lib.hid (show Blk w8 gr 56 Cs by rw [hCs]; exact hRS.b)
    have hsz := Lib.hid (show Cs.size = 138 by rw [hCs]; exact rlist_size _ _ _ _ hRS.n)
    have hinf := Lib.hid (show (Try.prog.info? 56).map (·.size) = some Cs.size by rw [hsz.out]; kernel_rfl)
    have hone := Lib.hid (show Cs.all (·.oneCell') = true by rw [hCs]; exact rlist_one _ _ _ _ _ _)
    have CE := Lib.hid hCs
    have FE := Lib.hid hFe
    have RO := Lib.hid hRO
    have N64 := Lib.hid hRS.n
    clear hCs hFe hRS hRO
    go_upto_block 2 with (first
      | (refine wpList_load_row rfl 56 (.tmp 65) rfl gr rfl 56 Cs (0, 0) _ hblk.out Try.underlying56 rfl hinf.out ?_)
      | (refine wpList_store_row rfl 56 (.tmp 14) (.tmp 66) rfl w8.heap.size Cs rfl rfl 56 Z (Blk.new _ _ _) hinf.out (by rw [hsz.out, ZS.out]) hone.out ?_; rw [World.setRow_alloc_new]))
    obtain ⟨w9, hw9⟩ : ∃ w9, w9 = w8.alloc (.cells Cs 56) := ⟨_, rfl⟩
    obtain ⟨gq, hgq⟩ : ∃ gq, gq = w8.heap.size := ⟨_, rfl⟩
    rw [← hw9, ← hgq]
    have b89 : Below w8.heap.size w8 w9 := by rw [hw9]; exact (Below.refl _ _).alloc (Nat.le_refl _) _
    have QB : Blk w9 gq 56 (rlist C s0.2.1 s0.2.2 (.slice aR s0.1.length cR)).toArray := by rw [hw9, hgq, ← CE.out]; exact Blk.new _ _ _
    have zg := z34.out
    have z1 := z46.out
    have z2 := z67.out
    have z3 := z78.out
    have zq := QB.lt
    have zw := B8.out.size
    have hgr := R8.out.mem
    have hl4 := FF.out gr hgr
    have hl6 := LF.out gr hgr
    have aRF : ∀ x ∈ blks aR, x ∈ F := fun x hx => by rw [FE.out]; exact List.mem_cons_of_mem _ hx
    have hgra : gr ∉ blks aR := fun hm => by
      cases aR with
      | none => cases hm
      | some p =>
        simp only [blks, List.mem_singleton] at hm
        exact own_blk_ne RO.out hblk.out (by decide) (by rw [hm]; rfl)
    have AF := Lib.hid aRF
    have D9 := Lib.hid (show Duo w w9 S0 F gd gr C s0 from ⟨L8.out.below b89, R8.out.below b89, fun x hx hm => by have := LTS.out x hx; have := FF.out x hm; omega, fun x hx => by have := S4.out x hx; have := B3.out.size; omega, by have := B4.out.size; omega⟩)
    have E9 := Lib.hid (show Duo w w9 S2 (gq :: blks aR) gy gq C s0 from ⟨Y8.out.below b89, ⟨⟨aR, cR, rfl, ⟨QB, N64.out⟩, own_below RO.out b89⟩, C4, L8.out.len, L8.out.sm⟩, fun x hx hm => by
        have h1 := YL.out x hx
        rcases List.mem_cons.1 hm with e | e
        · omega
        · have := LF.out x (aRF x e); omega, fun x hx => by have := (YL.out x hx).1; have := B6.out.size; omega, by omega⟩)
    have OB9 := Lib.hid (own_below OB8.out b89)
    have OC9 := Lib.hid (own_below OC8.out b89)
    have B9 := Lib.hid (B8.out.trans (b89.mono B8.out.size))
    have GRA := Lib.hid hgra
    have zb : Hid (w3.heap.size ≤ w4.heap.size ∧ w4.heap.size ≤ w6.heap.size ∧ w6.heap.size ≤ w7.heap.size ∧ w7.heap.size ≤ w8.heap.size ∧ w8.heap.size ≤ gq ∧ gq < w9.heap.size ∧ w4.heap.size ≤ gr ∧ gr < w6.heap.size) := Lib.hid ⟨zg, z1, z2, z3, by omega, zq, hl4, hl6⟩
    have GQ0 : Hid (gq ≤ w8.heap.size) := Lib.hid (by omega)
    clear hw9 hgq b89 QB zg z1 z2 z3 zq zw hgr hl4 hl6 aRF hgra hblk hsz hinf hone CE hz hne ZS ZV Y8 L8 R8 OB8 OC8
    go_cut [] (fun wx => ∃ S F' s, Duo w wx S F' gd gr C s ∧ s.1.length ≤ 320 ∧ Duo w wx S2 (gq :: blks aR) gy gq C s0 ∧ (∀ x ∈ S, x ∈ S0 ∨ w9.heap.size ≤ x) ∧ (∀ x ∈ F', x ∈ F ∨ w9.heap.size ≤ x) ∧ wx.ownsRow w2.heap.size 29 1 (.slice b3 m3 d3) m3 (bsC.map bval) ∧ Below w.heap.size w wx)
    case first =>
      go_wp2_with fail
      go_loopw [69] (fun i wr => ∃ (k : Nat) (S F' : List Nat) (s : LSt), k ≤ m2 ∧ i = .int .i64 k ∧ Duo w wr S F' gd gr C s ∧ s.1.length ≤ 160 + 8 * k ∧ Duo w wr S2 (gq :: blks aR) gy gq C s0 ∧ (∀ x ∈ S, x ∈ S0 ∨ w9.heap.size ≤ x) ∧ (∀ x ∈ F', x ∈ F ∨ w9.heap.size ≤ x) ∧
        wr.ownsRow w1.heap.size 29 1 (.slice b2 m2 d2) m2 (bsB.map bval) ∧ wr.ownsRow w2.heap.size 29 1 (.slice b3 m3 d3) m3 (bsC.map bval) ∧ Below w.heap.size w wr ∧ w9.heap.size ≤ wr.heap.size) (fun i _ => m2 - (intOf i).toNat)
      case atStart => exact ⟨0, S0, F, s0, by omega, rfl, D9.out, by omega, E9.out, fun x hx => .inl hx, fun x hx => .inl hx, OB9.out, OC9.out, B9.out, Nat.le_refl _⟩
      case round =>
        obtain ⟨k, S, F', ⟨A, st, ct⟩, hk, rfl, hD, hlen, hE, hS, hF', hOB, hOC, hb, hz9⟩ := hrel
        obtain ⟨wo, rfl⟩ : ∃ wo, wo = wr := ⟨_, rfl⟩
        have D := Lib.hid hD
        have E := Lib.hid hE
        have SS := Lib.hid hS
        have FSx := Lib.hid hF'
        have OBr := Lib.hid hOB
        have OCr := Lib.hid hOC
        have B := Lib.hid hb
        simp only at hlen
        clear hD hE hS hF' hOB hOC hb
        by_cases hlt : k < m2
        · have kb : k < bsB.length := by rw [LB.out]; exact hlt
          obtain ⟨b, off, hb2e, hbl, hcell⟩ := (own_vrow OBr.out).2 (by omega)
          have c0 : wo.cell? ⟨b, off + k, none⟩ = some (bval bsB[k]) := hcell k _ (by rw [List.getElem?_map, List.getElem?_eq_getElem kb]; rfl)
          have hx := BB.out _ (List.getElem_mem kb)
          obtain ⟨x, hx'⟩ : ∃ x, x = bsB[k] := ⟨_, rfl⟩
          rw [← hx'] at c0 hx
          obtain ⟨xa, xn, xc, xr⟩ := x
          have HX := Lib.hid hx
          have hx8 : xn ≤ 8 := hx.m
          have XL : Hid (xr.length = xn) := Lib.hid hx.l
          obtain ⟨⟨out, st', ct'⟩, hrun⟩ : ∃ y, runL ([], st, ct) xr = y := ⟨_, rfl⟩
          have RUN := Lib.hid hrun
          have RUN' : Hid (runL (A, st, ct) xr = (A ++ out, st', ct')) := Lib.hid (by rw [runL_app, hrun])
          have hout : out.length ≤ xn := by
            have := (runL_inv (s := ([], st, ct)) D.out.l.sm xr).2.2
            rw [hrun, XL.out] at this
            simpa using this
          unfold bval at c0
          simp only at c0
          have bq : b < w2.heap.size := KB.out b (by rw [hb2e]; rfl)
          have i0 : (0 : Int) ≤ k := by omega
          have i1 : (k : Int) < m2 := by omega
          have nS : Hid (∀ q, q < w3.heap.size → q ∉ S) := Lib.hid (fun q hq hm => by
            have hz := zb.out
            rcases SS.out q hm with h | h
            · have := S4.out q h; omega
            · omega)
          clear hcell hx hx' hrun
          subst hb2e
          go_wp2_with fail
          refine (run_more S gd C (A, st, ct) ⟨xa, xn, xc, xr⟩ w wo D.out.l HX.out B.out D.out.s0 (by simp only; omega) _ RUN'.out).mono ?_
          rintro e w5 ⟨S5, a5, m5, c5, out5, rfl, hL5, hs5, _, _, _, _, hon5, hS5, hb5, hS5'⟩
          have L5 := Lib.hid hL5
          have SG5 := Lib.hid hS5
          have S5' := Lib.hid hS5'
          have B5 := Lib.hid hb5
          have R5 := Lib.hid (D.out.r.only hon5 (fun q hq hm => D.out.d q hm hq))
          have E5 := Lib.hid (E.out.only hon5 (fun q hq hm => by
            have hz := zb.out
            have h1 := YL.out q hq
            rcases SS.out q hm with h | h
            · have := LTS.out q h; omega
            · omega) (fun q hq hm => by
            have hz := zb.out
            have h0 := GQ0.out
            rcases List.mem_cons.1 hq with e | e
            · rcases SS.out q hm with h | h
              · have := LTS.out q h; omega
              · omega
            · have h1 := FF.out q (AF.out q e)
              have h2 := LF.out q (AF.out q e)
              rcases SS.out q hm with h | h
              · have := LTS.out q h; omega
              · omega))
          have OB5 := Lib.hid (own_only OBr.out hon5 (fun q hq => nS.out q (by have := KB.out q hq; omega)))
          have OC5 := Lib.hid (own_only OCr.out hon5 (fun q hq => nS.out q (KC.out q hq)))
          have c5' : w5.cell? ⟨b, off + k, none⟩ = some (.slice xa xn xc) := hon5.cell_ c0 (nS.out b (by omega))
          have z5 : Hid (wo.heap.size ≤ w5.heap.size) := Lib.hid hon5.size
          have gS5 : Hid (gr ∉ S5) := Lib.hid (fun hm => by
            rcases S5'.out _ hm with h | h
            · exact D.out.gS h
            · have := D.out.r.lt _ D.out.r.mem; omega)
          have LF5 : Hid (∀ q ∈ F', q < wo.heap.size) := Lib.hid D.out.r.lt
          clear hL5 hs5 hon5 hS5 hb5 hS5' c0
          go_wp2_with fail
          refine (rrun_c F' gr C A st ct xa xn xc xr w5 R5.out (HX.out.v.below B5.out) (fun h0 p hp e => by
            have h1 := HX.out.s h0 p hp
            have h2 := D.out.g0
            omega) XL.out (by omega) HX.out.i out st' ct' RUN.out out.length rfl).mono ?_
          rintro e w6' ⟨F6, a6, c6, rfl, hR6, _, hon6, hF6⟩
          have FIN : Hid (Duo w w6' S5 F6 gd gr C (A ++ out, st', ct') ∧ (A ++ out).length ≤ 160 + 8 * (k + 1) ∧ Duo w w6' S2 (gq :: blks aR) gy gq C s0 ∧ (∀ x ∈ S5, x ∈ S0 ∨ w9.heap.size ≤ x) ∧ (∀ x ∈ F6, x ∈ F ∨ w9.heap.size ≤ x) ∧
              w6'.ownsRow w1.heap.size 29 1 (.slice (some ⟨b, off, none⟩) m2 d2) m2 (bsB.map bval) ∧ w6'.ownsRow w2.heap.size 29 1 (.slice b3 m3 d3) m3 (bsC.map bval) ∧ Below w.heap.size w w6' ∧ w9.heap.size ≤ w6'.heap.size) := Lib.hid (by
            have hz := zb.out
            have h5 := z5.out
            have h0 := GQ0.out
            have h6 := hon6.size
            refine ⟨⟨L5.out.only hon6 (fun q hq hm => gS5.out (by simp only [List.mem_singleton] at hm; rw [← hm]; exact hq)), hR6, fun q hq hm => ?_, SG5.out, D.out.g0⟩, by rw [List.length_append]; omega, E5.out.only hon6 (fun q hq hm => ?_) (fun q hq hm => ?_), fun q hq => ?_, fun q hq => ?_, own_only OB5.out hon6 (fun q hq hm => ?_), own_only OC5.out hon6 (fun q hq hm => ?_), hon6.below B5.out B5.out.size (by simpa using D.out.g0), by omega⟩
            · rcases hF6 q hm with h | h
              · exact gS5.out (by rw [← h]; exact hq)
              · have := L5.out.lt q hq; omega
            · simp only [List.mem_singleton] at hm
              have := YL.out q hq; omega
            · simp only [List.mem_singleton] at hm
              rcases List.mem_cons.1 hq with e | e
              · omega
              · exact GRA.out (by rw [← hm]; exact e)
            · rcases S5'.out q hq with h | h
              · exact SS.out q h
              · exact .inr (by omega)
            · rcases hF6 q hq with h | h
              · rw [h]; exact FSx.out gr D.out.r.mem
              · exact .inr (by omega)
            · simp only [List.mem_singleton] at hm
              have := KB.out q hq; omega
            · simp only [List.mem_singleton] at hm
              have := KC.out q hq; omega)
          clear hR6 hon6 hF6 c5'
          go_wp2_with fail
          go_roundw
          case rel => exact ⟨k + 1, S5, F6, (A ++ out, st', ct'), by omega, by go_num, FIN.out.1, FIN.out.2.1, FIN.out.2.2.1, FIN.out.2.2.2.1, FIN.out.2.2.2.2.1, FIN.out.2.2.2.2.2.1, FIN.out.2.2.2.2.2.2.1, FIN.out.2.2.2.2.2.2.2.1, FIN.out.2.2.2.2.2.2.2.2⟩
          case measure => simp [intOf]; omega
        · go_wp2_with fail
          go_meet
          exact ⟨S, F', (A, st, ct), D.out, by simp only; omega, E.out, SS.out, FSx.out, OCr.out, B.out⟩
    case rest =>
      obtain ⟨S, F', s, hD, hlen, hE, hS, hF', hOC, hb⟩ := hcut
      obtain ⟨wa, hwa⟩ : ∃ wa, wa = wc := ⟨_, rfl⟩
      rw [← hwa] at hD hE hOC hb ⊢
      clear hwa
      have DA := Lib.hid hD
      have EA := Lib.hid hE
      have SS := Lib.hid hS
      have FSx := Lib.hid hF'
      have OCA := Lib.hid hOC
      have BA' := Lib.hid hb
      have LS := Lib.hid (show ∀ x ∈ S, x < wa.heap.size from hD.l.lt)
      have LFA := Lib.hid (show ∀ x ∈ F', x < wa.heap.size from hD.r.lt)
      have LS2 := Lib.hid (show ∀ x ∈ S2, x < wa.heap.size from hE.l.lt)
      have LF2 := Lib.hid (show ∀ x ∈ gq :: blks aR, x < wa.heap.size from hE.r.lt)
      clear hD hE hS hF' hOC hb D9 E9 OB9 OC9 B9
      go_upto_block 4 with fail
      go_cut [] (fun wx => ∃ Sy Fy sy, Duo w wx Sy Fy gy gq C sy ∧ sy.1.length ≤ 320 ∧ Duo w wx S F' gd gr C s ∧ Below w.heap.size w wx)
      case first =>
        go_wp2_with fail
        go_loopw [87] (fun i wr => ∃ (k : Nat) (Sy Fy : List Nat) (sy : LSt), k ≤ m3 ∧ i = .int .i64 k ∧ Duo w wr Sy Fy gy gq C sy ∧ sy.1.length ≤ 160 + 8 * k ∧ Duo w wr S F' gd gr C s ∧ (∀ x ∈ Sy, x ∈ S2 ∨ wa.heap.size ≤ x) ∧ (∀ x ∈ Fy, x ∈ gq :: blks aR ∨ wa.heap.size ≤ x) ∧
          wr.ownsRow w2.heap.size 29 1 (.slice b3 m3 d3) m3 (bsC.map bval) ∧ Below w.heap.size w wr ∧ wa.heap.size ≤ wr.heap.size) (fun i _ => m3 - (intOf i).toNat)
        case atStart => exact ⟨0, S2, gq :: blks aR, s0, by omega, rfl, EA.out, by omega, DA.out, fun x hx => .inl hx, fun x hx => .inl hx, OCA.out, BA'.out, Nat.le_refl _⟩
        case round =>
          obtain ⟨k, Sy, Fy, ⟨A, st, ct⟩, hk, rfl, hE, hlen2, hD, hS, hF', hOC, hb, hz9⟩ := hrel
          obtain ⟨wo, rfl⟩ : ∃ wo, wo = wr := ⟨_, rfl⟩
          have D := Lib.hid hD
          have E := Lib.hid hE
          have SY2 := Lib.hid hS
          have FY := Lib.hid hF'
          have OCr := Lib.hid hOC
          have B := Lib.hid hb
          simp only at hlen2
          clear hD hE hS hF' hOC hb
          have zaw : Hid (w9.heap.size ≤ wa.heap.size ∨ True) := Lib.hid (.inr trivial)
          by_cases hlt : k < m3
          · have kb : k < bsC.length := by rw [LC.out]; exact hlt
            obtain ⟨b, off, hb3e, hbl, hcell⟩ := (own_vrow OCr.out).2 (by omega)
            have c0 : wo.cell? ⟨b, off + k, none⟩ = some (bval bsC[k]) := hcell k _ (by rw [List.getElem?_map, List.getElem?_eq_getElem kb]; rfl)
            have hx := BC.out _ (List.getElem_mem kb)
            obtain ⟨x, hx'⟩ : ∃ x, x = bsC[k] := ⟨_, rfl⟩
            rw [← hx'] at c0 hx
            obtain ⟨xa, xn, xc, xr⟩ := x
            have HX := Lib.hid hx
            have hx8 : xn ≤ 8 := hx.m
            have XL : Hid (xr.length = xn) := Lib.hid hx.l
            obtain ⟨⟨out, st', ct'⟩, hrun⟩ : ∃ y, runL ([], st, ct) xr = y := ⟨_, rfl⟩
            have RUN := Lib.hid hrun
            have RUN' : Hid (runL (A, st, ct) xr = (A ++ out, st', ct')) := Lib.hid (by rw [runL_app, hrun])
            have hout : out.length ≤ xn := by
              have := (runL_inv (s := ([], st, ct)) E.out.l.sm xr).2.2
              rw [hrun, XL.out] at this
              simpa using this
            unfold bval at c0
            simp only at c0
            have bq : b < w3.heap.size := KC.out b (by rw [hb3e]; rfl)
            have i0 : (0 : Int) ≤ k := by omega
            have i1 : (k : Int) < m3 := by omega
            have zqa := LF2.out gq (by simp)
            have nS : Hid (∀ q, q < w3.heap.size → q ∉ Sy) := Lib.hid (fun q hq hm => by
              have hz := zb.out
              rcases SY2.out q hm with h | h
              · have := YL.out q h; omega
              · omega)
            clear hcell hx hx' hrun
            subst hb3e
            go_wp2_with fail
            refine (run_more Sy gy C (A, st, ct) ⟨xa, xn, xc, xr⟩ w wo E.out.l HX.out B.out E.out.s0 (by simp only; omega) _ RUN'.out).mono ?_
            rintro e w5 ⟨S5, a5, m5, c5, out5, rfl, hL5, hs5, _, _, _, _, hon5, hS5, hb5, hS5'⟩
            have L5 := Lib.hid hL5
            have SG5 := Lib.hid hS5
            have S5' := Lib.hid hS5'
            have B5 := Lib.hid hb5
            have R5 := Lib.hid (E.out.r.only hon5 (fun q hq hm => E.out.d q hm hq))
            have D5 := Lib.hid (D.out.only hon5 (fun q hq hm => by
              have hz := zb.out
              have h2 := LS.out q hq
              rcases SY2.out q hm with h | h
              · have h1 := YL.out q h
                rcases SS.out q hq with h3 | h3
                · have := LTS.out q h3; omega
                · omega
              · omega) (fun q hq hm => by
              have hz := zb.out
              have h2 := LFA.out q hq
              rcases SY2.out q hm with h | h
              · have h1 := YL.out q h
                rcases FSx.out q hq with h3 | h3
                · have := LF.out q h3; omega
                · omega
              · omega))
            have OC5 := Lib.hid (own_only OCr.out hon5 (fun q hq => nS.out q (KC.out q hq)))
            have c5' : w5.cell? ⟨b, off + k, none⟩ = some (.slice xa xn xc) := hon5.cell_ c0 (nS.out b (by omega))
            have z5 : Hid (wo.heap.size ≤ w5.heap.size) := Lib.hid hon5.size
            have gS5 : Hid (gq ∉ S5) := Lib.hid (fun hm => by
              rcases S5'.out _ hm with h | h
              · exact E.out.gS h
              · have := E.out.r.lt _ E.out.r.mem; omega)
            clear hL5 hs5 hon5 hS5 hb5 hS5' c0
            go_wp2_with fail
            refine (rrun_c Fy gq C A st ct xa xn xc xr w5 R5.out (HX.out.v.below B5.out) (fun h0 p hp e => by
              have h1 := HX.out.s h0 p hp
              have h2 := E.out.g0
              omega) XL.out (by omega) HX.out.i out st' ct' RUN.out out.length rfl).mono ?_
            rintro e w6' ⟨F6, a6, c6, rfl, hR6, _, hon6, hF6⟩
            have FIN : Hid (Duo w w6' S5 F6 gy gq C (A ++ out, st', ct') ∧ (A ++ out).length ≤ 160 + 8 * (k + 1) ∧ Duo w w6' S F' gd gr C s ∧ (∀ x ∈ S5, x ∈ S2 ∨ wa.heap.size ≤ x) ∧ (∀ x ∈ F6, x ∈ gq :: blks aR ∨ wa.heap.size ≤ x) ∧
                w6'.ownsRow w2.heap.size 29 1 (.slice (some ⟨b, off, none⟩) m3 d3) m3 (bsC.map bval) ∧ Below w.heap.size w w6' ∧ wa.heap.size ≤ w6'.heap.size) := Lib.hid (by
              have hz := zb.out
              have h5 := z5.out
              have h0 := GQ0.out
              have h6 := hon6.size
              refine ⟨⟨L5.out.only hon6 (fun q hq hm => gS5.out (by simp only [List.mem_singleton] at hm; rw [← hm]; exact hq)), hR6, fun q hq hm => ?_, SG5.out, E.out.g0⟩, by rw [List.length_append]; omega, D5.out.only hon6 (fun q hq hm => ?_) (fun q hq hm => ?_), fun q hq => ?_, fun q hq => ?_, own_only OC5.out hon6 (fun q hq hm => ?_), hon6.below B5.out B5.out.size (by simpa using E.out.g0), by omega⟩
              · rcases hF6 q hm with h | h
                · exact gS5.out (by rw [← h]; exact hq)
                · have := L5.out.lt q hq; omega
              · simp only [List.mem_singleton] at hm
                rcases SS.out q hq with h3 | h3
                · have := LTS.out q h3; omega
                · omega
              · simp only [List.mem_singleton] at hm
                rcases FSx.out q hq with h3 | h3
                · have := LF.out q h3; omega
                · omega
              · rcases S5'.out q hq with h | h
                · exact SY2.out q h
                · exact .inr (by omega)
              · rcases hF6 q hq with h | h
                · rw [h]; exact FY.out gq E.out.r.mem
                · exact .inr (by omega)
              · simp only [List.mem_singleton] at hm
                have := KC.out q hq; omega)
            clear hR6 hon6 hF6 c5'
            go_wp2_with fail
            go_roundw
            case rel => exact ⟨k + 1, S5, F6, (A ++ out, st', ct'), by omega, by go_num, FIN.out.1, FIN.out.2.1, FIN.out.2.2.1, FIN.out.2.2.2.1, FIN.out.2.2.2.2.1, FIN.out.2.2.2.2.2.1, FIN.out.2.2.2.2.2.2.1, FIN.out.2.2.2.2.2.2.2⟩
            case measure => simp [intOf]; omega
          · go_wp2_with fail
            go_meet
            exact ⟨Sy, Fy, (A, st, ct), E.out, by simp only; omega, D.out, B.out⟩
      case rest =>
        obtain ⟨Sy, Fy, sy, hE, hlen2, hD, hb⟩ := hcut
        have D := Lib.hid hD
        have E := Lib.hid hE
        have B := Lib.hid hb
        clear hD hE hb
        go_wp2_with fail
        refine (lstore_c S gd C s.1 s.2.1 s.2.2 _ D.out.l).mono ?_; rintro e wd ⟨g8, rfl, h8, hg8, hb8⟩
        have H8 := Lib.hid h8
        have D8 := Lib.hid (D.out.below hb8)
        have E8 := Lib.hid (E.out.below hb8)
        have B8' := Lib.hid (B.out.trans (hb8.mono B.out.size))
        have G8 := Lib.hid hg8
        have LDx := Lib.hid D.out.l.lt
        have LDf := Lib.hid D.out.r.lt
        have LEx := Lib.hid E.out.l.lt
        have LEf := Lib.hid E.out.r.lt
        clear h8 hb8 hg8
        go_wp2_with fail
        refine (apply_c g8 s.2.1 1 1 77 _ H8.out D.out.l.sm (by unfold I64; omega) (by unfold I64; omega) (by unfold I64; omega) _ rfl _ rfl).mono ?_; rintro e we ⟨rfl, hSe, hoe⟩
        have De := Lib.hid (D8.out.only hoe (fun q hq hm => by simp only [List.mem_singleton] at hm; have := LDx.out q hq; have := G8.out; omega) (fun q hq hm => by simp only [List.mem_singleton] at hm; have := LDf.out q hq; have := G8.out; omega))
        have Ee := Lib.hid (E8.out.only hoe (fun q hq hm => by simp only [List.mem_singleton] at hm; have := LEx.out q hq; have := G8.out; omega) (fun q hq hm => by simp only [List.mem_singleton] at hm; have := LEf.out q hq; have := G8.out; omega))
        have Be := Lib.hid (hoe.below B8'.out B8'.out.size (by have := G8.out; have := B.out.size; simp; omega))
        clear hSe hoe
        go_wp2_with fail
        refine (lright_c S gd F' gr C s.1 s.2.1 s.2.2 _ De.out.l De.out.r (by omega)).mono ?_; rintro e wf ⟨rfl, hbf⟩
        have Ef := Lib.hid (Ee.out.below hbf)
        have Bf := Lib.hid (Be.out.trans (hbf.mono Be.out.size))
        clear hbf
        go_wp2_with fail
        refine (lright_c Sy gy Fy gq C sy.1 sy.2.1 sy.2.2 _ Ef.out.l Ef.out.r (by omega)).mono ?_; rintro e wg ⟨rfl, hbg⟩
        have Bg := Lib.hid (Bf.out.trans (hbg.mono Bf.out.size))
        clear hbg
        go_wp2_with fail
        refine (lwakes_c _).mono ?_; rintro e wh ⟨rfl, hbh⟩
        go_wp2_with fail
        go_ret
        exact ⟨rfl, Bg.out.trans (hbh.mono Bg.out.size)⟩

set_option maxRecDepth 100000 in
theorem lawWalk : LawWalk Try.checked 13 Try.f13 := by
  intro H enc W base args ds p hval hA hsz
  rw [Try.params13] at hA hval
  obtain ⟨v0, vs0, d0, ds0, p0, q0, hargs, rfl, rfl, h0, r0⟩ := trodAll_cons hA
  obtain ⟨v1, vs1, d1, ds1, p1, q1, rfl, rfl, rfl, h1, r1⟩ := trodAll_cons r0
  obtain ⟨v2, vs2, d2, ds2, p2, q2, rfl, rfl, rfl, h2, r2⟩ := trodAll_cons r1
  obtain ⟨v3, vs3, d3, ds3, p3, q3, rfl, rfl, rfl, h3, r3⟩ := trodAll_cons r2
  obtain ⟨rfl, rfl, rfl⟩ := trodAll_nil r3
  obtain rfl : args = #[v0, v1, v2, v3] := by cases args; simp_all
  obtain ⟨a0, rfl, rfl, rfl, w0⟩ := open_int Try.underlying3 (hval 0 3 v0 rfl rfl) h0
  obtain ⟨a1, n1, c1, R1, rfl, hnc1, hcm1, hr1⟩ := open_rows2 (k := 6) Try.underlying22 Try.underlying29 (by kernel_rfl) (by kernel_rfl) (by decide) (by kernel_rfl) (hval 1 22 v1 rfl rfl) h1
  obtain ⟨a2, n2, c2, R2, rfl, hnc2, hcm2, hr2⟩ := open_rows2 (k := 6) Try.underlying22 Try.underlying29 (by kernel_rfl) (by kernel_rfl) (by decide) (by kernel_rfl) (hval 2 22 v2 rfl rfl) h2
  obtain ⟨a3, n3, c3, R3, rfl, hnc3, hcm3, hr3⟩ := open_rows2 (k := 6) Try.underlying22 Try.underlying29 (by kernel_rfl) (by kernel_rfl) (by decide) (by kernel_rfl) (hval 3 22 v3 rfl rfl) h3
  exact walk a0 a1 n1 c1 R1 a2 n2 c2 R2 a3 n3 c3 R3 W (I64.of_wf w0) hr1 (Nat.le_trans hnc1 hcm1) hnc1 hr2 (Nat.le_trans hnc2 hcm2) hnc2 hr3 (Nat.le_trans hnc3 hcm3) hnc3

theorem lifted (os : Os) (started : os.Started) (H : Type) (enc : TypeId × Value → H) :
    ReturnsInHanded {} Try.checked os 13 .any (Rows.ledgerClonesSpec.pre6 enc Try.prog Try.f13 Rows.ledgerClonesRow.domain false) (Rows.ledgerClonesSpec.post enc Try.prog Try.f13 false true false false) :=
  law_lift (C := Try.checked) (s := Rows.ledgerClonesSpec) (tb := 4) (by kernel_rfl) started (by kernel_rfl) Try.func13
    (ChangeSpec.witness6 (enc := enc) (C := Try.checked) false ⟨#[], #[.int .i64 0, .slice none 0 0, .slice none 0 0, .slice none 0 0], []⟩ 8 (by kernel_rfl) (by kernel_rfl) (by kernel_rfl) (by kernel_rfl))
    rfl (fun H ds h => by
      match ds, h with
      | [d0, d1, d2, d3], _ => rfl) (by kernel_rfl) (by kernel_rfl) (by kernel_rfl) Try.underlying4 lawWalk

theorem over : Rows.ledgerClonesRow.holds Try.pinned (OpenSpec.ofChange Rows.ledgerClonesSpec) :=
  OpenClaim.holds_of_wide 13 Try.f13 rfl rfl rfl rfl rfl rfl rfl ⟨rfl, rfl, rfl, rfl, rfl⟩ rfl rfl rfl rfl rfl (by kernel_rfl) Try.func13 (by kernel_rfl)
    (of_decide_eq_true (by kernel_rfl)) (by unfold Func.isWrapper; first | (rw [if_pos (by decide +kernel)]; kernel_rfl) | (rw [if_neg (by decide +kernel)]; exact ⟨rfl, rfl⟩))
    (fun os started H enc _ => lifted os started H enc)

/-- The statement. -/
theorem proved : Rows.LedgerClonesSaid := over
#print axioms proved

end Go.Proofs.Ytfhlcjfgbhmecaa.LedgerClones
