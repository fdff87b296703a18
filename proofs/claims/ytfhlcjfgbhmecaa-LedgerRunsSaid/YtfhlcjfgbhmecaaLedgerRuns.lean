/- LedgerRuns: for every number of clients and all batches the law returns true: entries, times, replies, store are the service's. No condition. -/
import Derived.Test.YtfhlcjfgbhmecaaRLedS
import Derived.Test.YtfhlcjfgbhmecaaKeep
import Derived.Test.YtfhlcjfgbhmecaaRows
namespace Go.Proofs.Ytfhlcjfgbhmecaa.LedgerRuns
open Go.RowKit Go.ChangeShapes Go.WideShapes Go.ChangeAt
set_option linter.unusedVariables false

theorem info_req : (Try.prog.info? 33).map (fun i => (i.zero, i.size, i.bytes)) = some (some (.agg #[.int .i64 0, .int .i64 0, .int .i64 0, .int .i64 0, .int .i64 0, .int .i64 0]), 6, 48) := by kernel_rfl
theorem rqc_one (rs : List Rq) : ∀ v ∈ rs.flatMap rqc, v.oneCell' = true := by
  intro v hv
  obtain ⟨p, _, hp⟩ := List.mem_flatMap.1 hv
  simp only [rqc, List.mem_cons, List.not_mem_nil, or_false] at hp
  rcases hp with rfl | rfl | rfl | rfl | rfl | rfl <;> rfl
theorem copy_rq (a : Option Addr) (n c : Nat) (rs : List Rq) (w : World) (h : VRow w a n 6 (rs.flatMap rqc)) (hn : n ≤ 1048576) :
    Calls Try.prog 27 #[.slice a n c] w fun e w' => ∃ a' c', e = .returned (.slice a' n c') ∧ w'.ownsRow w.heap.size 33 6 (.slice a' n c') n (rs.flatMap rqc) ∧ Below w.heap.size w w' := by
  obtain ⟨i0, hi0, hz0, hz1, hz2⟩ := info_parts info_req
  have H := Lib.hid h
  clear h
  go_enter Try.func27, Try.ntmps27
  go_wp2_with (at_builtin; refine wpList_app rfl _ _ _ rfl w.heap.size 33 i0 _ 6 48 Try.underlying29 hi0 hz0 hz1 hz2 rfl (by omega) none 0 0 [] rfl ⟨rfl, .inl ⟨rfl, rfl⟩⟩ a n c (rs.flatMap rqc) rfl H.out (rqc_one rs) (by unfold maxLen; omega) (by omega) (Nat.le_refl _) ?_; intro a5 c5 w5 h5)
  go_ret
  have h6 := h5.own
  rw [Nat.zero_add, List.nil_append] at h6
  exact ⟨_, _, rfl, h6, h5.only.to_below⟩
theorem own_cell {w : World} {base g n c s : Nat} {e : TypeId} {us : List Value} (h : w.ownsRow base e s (.slice (some ⟨g, 0, none⟩) n c) n us) (i : Nat) (hi : i < n * s) : ∃ u, w.cell? ⟨g, i, none⟩ = some u := by
  rw [World.ownsRow.cellAt h i hi]
  have hl : i < us.length := by rw [h.1]; exact hi
  exact ⟨us[i], List.getElem?_eq_getElem hl⟩

theorem rl_new (C : Nat) (v : Value) : (rlist 0 st0 [] v).toArray.setIfInBounds 0 (.int .i64 C) = (rlist C st0 (List.replicate C (0, 0)) v).toArray := by
  have h : ∀ k, (List.replicate C ((0 : Int), (0 : Int))).getD k (0, 0) = (0, 0) := fun k => by
    rw [List.getD_eq_getElem?_getD, List.getElem?_replicate]
    split <;> rfl
  unfold rlist tailL tmL rsL
  rw [h, h, h, h, List.setIfInBounds_toArray]
  rfl
theorem rl_ne (C : Int) (st : List (Bool × Int)) (ct : List (Int × Int)) (v : Value) : ¬ (rlist C st ct v).toArray = #[] := by simp [rlist]

def Rel (w w2 w3 wr : World) (gd gr C : Nat) (i : Value) (m1 : Nat) : Prop :=
  ∃ (k : Nat) (S F : List Nat) (es : List Ent) (st : List (Bool × Int)) (ct : List (Int × Int)), k ≤ m1 ∧ i = .int .i64 k ∧ Led wr S gd C es st ct ∧ RLg wr F gr C es st ct ∧ es.length ≤ 8 * k ∧ (∀ x ∈ S, x ∉ F) ∧
    (∀ x ∈ S, w.heap.size ≤ x ∧ (x < w2.heap.size ∨ w3.heap.size ≤ x)) ∧ (∀ x ∈ F, w.heap.size ≤ x ∧ (x < w2.heap.size ∨ w3.heap.size ≤ x)) ∧ Mid w2.heap.size w3 wr ∧ Below w.heap.size w wr

set_option maxRecDepth 100000 in
set_option maxHeartbeats 6400000 in
theorem walk (cl : Int) (a1 : Option Addr) (n1 c1 : Nat) (R1 : Nat → Inner) (w : World) (hcl : I64 cl) (hr1 : Rows2 w a1 n1 6 R1) (hm1 : n1 ≤ maxLen) (hc1 : n1 ≤ c1) :
    Calls Try.prog 8 #[.int .i64 cl, .slice a1 n1 c1] w fun e w' => e = .returned (.bool true) ∧ Below w.heap.size w w' := by
  have HR1 := Lib.hid hr1
  have M1 := Lib.hid hm1
  clear hr1 hm1
  go_enter Try.func8, Try.ntmps8
  by_cases hin : 1 ≤ cl ∧ cl ≤ 4
  · obtain ⟨C, rfl⟩ := Int.eq_ofNat_of_zero_le (show 0 ≤ cl by omega)
    have C1 : 1 ≤ C := by omega
    have C4 : C ≤ 4 := by omega
    have hz := rlzero
    obtain ⟨Z, hZ⟩ : ∃ Z, Z = (rlist 0 st0 [] (.slice none 0 0)).toArray := ⟨_, rfl⟩
    rw [← hZ] at hz
    have hne : ¬ Z = #[] := by rw [hZ]; exact rl_ne _ _ _ _
    have HZ := Lib.hid (show Z.setIfInBounds 0 (.int .i64 C) = (rlist C st0 (List.replicate C (0, 0)) (.slice none 0 0)).toArray by rw [hZ]; exact rl_new C _)
    have d1 : decide ((C : Int) < 1) = false := decide_eq_false (by omega)
    have d2 : decide ((4 : Int) < C) = false := decide_eq_false (by omega)
    have d2' : decide (4 < C) = false := decide_eq_false (by omega)
    clear hZ hin
    go_wp2_with fail
    refine (lnew_ok C C1 C4 _).mono ?_; rintro e w1 ⟨S0, gd, rfl, hL1, hS1, hb1⟩
    have L1 := Lib.hid hL1
    have S1 := Lib.hid hS1
    have B1 := Lib.hid hb1
    clear hL1 hS1 hb1
    go_wp2_with fail
    obtain ⟨w2, hw2⟩ : ∃ w2, w2 = w1.alloc (.cells (Z.setIfInBounds 0 (.int .i64 C)) 56) := ⟨_, rfl⟩
    obtain ⟨gr, hgr⟩ : ∃ gr, gr = w1.heap.size := ⟨_, rfl⟩
    rw [← hw2, ← hgr]
    have b12 : Below w1.heap.size w1 w2 := by rw [hw2]; exact (Below.refl _ _).alloc (Nat.le_refl _) _
    have RB := Lib.hid (show Blk w2 gr 56 (rlist C st0 (List.replicate C (0, 0)) (.slice none 0 0)).toArray by rw [hw2, hgr, HZ.out]; exact Blk.new _ _ _)
    have RL2 := Lib.hid (show RLg w2 [gr] gr C [] st0 (List.replicate C (0, 0)) from ⟨⟨none, 0, rfl, ⟨RB.out, by simp [st0]⟩, ⟨rfl, .inl ⟨rfl, rfl⟩⟩⟩, C4, by simp, Smalls.zero⟩)
    have L2 := Lib.hid (L1.out.below b12)
    have B2 := Lib.hid (B1.out.trans (b12.mono B1.out.size))
    have LS := Lib.hid (show ∀ x ∈ S0, x < w1.heap.size from L1.out.lt)
    have GR1 := Lib.hid (show gr = w1.heap.size from hgr)
    have z12 := Lib.hid (show gr < w2.heap.size from RB.out.lt)
    clear hw2 hgr b12 hz hne HZ RB L1 B1
    refine (cut_c w a1 n1 c1 R1 _ HR1.out B2.out M1.out).mono ?_; rintro e w3 ⟨b1, m1, e1, bsB, rfl, ho3, hbB, hlB, hmB, hb3⟩
    have OB := Lib.hid ho3
    have BB := Lib.hid hbB
    have LB := Lib.hid hlB
    have BGE := Lib.hid (show ∀ p, b1 = some p → w2.heap.size ≤ p.block from own_ge ho3)
    have L3 := Lib.hid (L2.out.below hb3)
    have RL3 := Lib.hid (RL2.out.below hb3)
    have B3 := Lib.hid (B2.out.trans (hb3.mono B2.out.size))
    have START : Hid (Rel w w2 w3 w3 gd gr C (.int .i64 0) m1) := Lib.hid ⟨0, S0, [gr], [], st0, _, by omega, rfl, L3.out, RL3.out, by simp, fun x hx hm => by
        have h1 := LS.out x hx
        have h2 := GR1.out
        simp only [List.mem_singleton] at hm
        omega, fun x hx => ⟨S1.out x hx, .inl (by have h1 := LS.out x hx; have h2 := GR1.out; have h3 := z12.out; omega)⟩, fun x hx => by
        have h2 := GR1.out
        have h3 := z12.out
        have h4 := B2.out.size
        simp only [List.mem_singleton] at hx
        subst hx
        refine ⟨?_, .inl h3⟩
        by_cases hs : gd ∈ S0
        · have h5 := S1.out gd hs
          have h6 := LS.out gd hs
          omega
        · exfalso
          obtain ⟨gs, gc, gl, al, cl, hS, _⟩ := L2.out.ex
          exact hs (by rw [hS]; simp), Mid.refl _ _, B3.out⟩
    clear ho3 hbB hlB hb3 L2 RL2 B2 L3 RL3 B3 LS S1
    go_wp2_with fail
    go_loopw [46] (fun i wr => Rel w w2 w3 wr gd gr C i m1) (fun i _ => m1 - (intOf i).toNat)
    case atStart => exact START.out
    case round =>
      obtain ⟨k, S, F, es, st, ct, hk, rfl, hL, hRL, hes, hSF, hS, hF, hM, hb⟩ := hrel
      obtain ⟨wo, rfl⟩ : ∃ wo, wo = wr := ⟨_, rfl⟩
      have L := Lib.hid hL
      have RL := Lib.hid hRL
      have SF := Lib.hid hSF
      have SS := Lib.hid hS
      have FF := Lib.hid hF
      have M := Lib.hid hM
      have B := Lib.hid hb
      clear hL hRL hSF hS hF hM hb
      by_cases hlt : k < m1
      · obtain ⟨b, off, hb1e, hbl, hcell⟩ := ((own_vrow OB.out).mid M.out BGE.out).2 (by omega)
        have kb : k < bsB.length := by rw [LB.out]; exact hlt
        have c0 : wo.cell? ⟨b, off + k, none⟩ = some (bval bsB[k]) := hcell k _ (by rw [List.getElem?_map, List.getElem?_eq_getElem kb]; rfl)
        have hx := BB.out _ (List.getElem_mem kb)
        obtain ⟨x, hx'⟩ : ∃ x, x = bsB[k] := ⟨_, rfl⟩
        rw [← hx'] at c0 hx
        obtain ⟨xa, xn, xc, xr⟩ := x
        have HX := Lib.hid hx
        have hx8 : xn ≤ 8 := hx.m
        have XL : Hid (xr.length = xn) := Lib.hid hx.l
        unfold bval at c0
        simp only at c0
        have bmid : w2.heap.size ≤ b ∧ b < w3.heap.size := ⟨BGE.out _ hb1e, by
          obtain ⟨p, hp⟩ : ∃ p, b1 = some p := ⟨_, hb1e⟩
          have := (World.ownsRow.lt OB.out b (by rw [hb1e]; rfl)).2
          exact this⟩
        have i0 : (0 : Int) ≤ k := by omega
        have i1 : (k : Int) < m1 := by omega
        clear hcell hx hx'
        subst hb1e
        go_wp2_with fail
        refine (copy_rq xa xn xc xr _ (HX.out.v.below B.out) (by omega)).mono ?_; rintro e w4 ⟨ab, cb, rfl, hob, hb4⟩
        have OAB := Lib.hid hob
        have B4 := Lib.hid hb4
        have c4 := kept hb4 _ _ c0
        have L4 := Lib.hid (L.out.below hb4)
        have RL4 := Lib.hid (RL.out.below hb4)
        clear hob hb4 c0
        obtain ⟨⟨out, st', ct'⟩, hrun⟩ : ∃ y, runL ([], st, ct) xr = y := ⟨_, rfl⟩
        have RUN := Lib.hid hrun
        have hout : out.length ≤ xn := by
          have := (runL_inv (s := ([], st, ct)) L.out.sm xr).2.2
          rw [hrun, XL.out] at this
          simpa using this
        have zS : Hid (∀ q ∈ S, q < wo.heap.size) := Lib.hid L.out.lt
        have zF : Hid (∀ q ∈ F, q < wo.heap.size) := Lib.hid RL.out.lt
        clear hrun
        go_wp2_with fail
        refine (run_c S gd C es st ct ab xn cb xr w4 L4.out (own_vrow OAB.out) (fun _ p hp hm => by
          have h1 := own_ge OAB.out p hp
          have h2 := zS.out _ hm
          omega) XL.out (by omega) HX.out.i out st' ct' RUN.out out.length rfl).mono ?_
        rintro e w5 ⟨S5, a5, c5, rfl, hL5, ho5, hal5, hon5, hS5⟩
        have L5 := Lib.hid hL5
        have O5 := Lib.hid ho5
        have AL5 := Lib.hid hal5
        have ON5 := Lib.hid hon5
        have S5' := Lib.hid hS5
        have c5' : w5.cell? ⟨b, off + k, none⟩ = some (.slice xa xn xc) := hon5.cell_ c4 (fun hm => by
          have h1 := (SS.out _ hm).2
          simp only at h1
          omega)
        have RL5 := Lib.hid (RL4.out.only hon5 (fun q hq hm => SF.out q hm hq))
        have W4 := Lib.hid (B.out.trans (B4.out.mono B.out.size))
        have W5 := Lib.hid (hon5.below W4.out W4.out.size (fun q hq => (SS.out q hq).1))
        have OAB5 := Lib.hid (own_only OAB.out hon5 (fun q hq hm => by
          have h1 := (World.ownsRow.lt OAB.out q hq).1
          have h2 := zS.out _ hm
          omega))
        have gF : Hid (gr ∈ F) := Lib.hid RL.out.mem
        clear hL5 ho5 hal5 hon5 hS5 c4
        go_wp2_with fail
        refine (rrun_c F gr C es st ct xa xn xc xr w5 RL5.out (HX.out.v.below W5.out) (fun h0 p hp e => by
          have h1 := HX.out.s h0 p hp
          have h2 := (FF.out gr gF.out).1
          omega) XL.out (by omega) HX.out.i out st' ct' RUN.out out.length rfl).mono ?_
        rintro e w6 ⟨F6, a6, c6, rfl, hR6, ho6, hon6, hF6⟩
        have R6 := Lib.hid hR6
        have V6 := Lib.hid (own_vrow ho6)
        have ON6 := Lib.hid hon6
        have F6' := Lib.hid hF6
        have gS5 : Hid (gr ∉ S5) := Lib.hid (fun hm => by
          rcases S5'.out _ hm with h | h
          · exact SF.out _ h gF.out
          · have h1 := zF.out _ gF.out
            have h2 := B4.out.size
            omega)
        have L6 := Lib.hid (L5.out.only hon6 (fun q hq hm => gS5.out (by simp only [List.mem_singleton] at hm; rw [← hm]; exact hq)))
        have A6 := Lib.hid (own_only O5.out hon6 (fun q hq hm => by
          simp only [List.mem_singleton] at hm
          have h1 := (World.ownsRow.lt O5.out q hq).1
          have h2 := zF.out _ gF.out
          have h3 := B4.out.size
          omega))
        have AB6 := Lib.hid (own_only OAB5.out hon6 (fun q hq hm => by
          simp only [List.mem_singleton] at hm
          have h1 := (World.ownsRow.lt OAB5.out q hq).1
          have h2 := zF.out _ gF.out
          omega))
        clear hR6 ho6 hon6 hF6 c5'
        go_wp2_with fail
        refine (same_ent_c a5 out.length c5 a6 out.length c6 out _ (own_vrow A6.out) V6.out rfl rfl (by omega)).mono ?_; rintro e w7 ⟨rfl, hb7⟩
        obtain ⟨ol, hol⟩ : ∃ ol, ol = out.length := ⟨_, rfl⟩
        have OL := Lib.hid hol
        have AB7 := Lib.hid (own_below AB6.out hb7)
        have A7 : Hid (w7.ownsRow w4.heap.size 38 7 (.slice a5 ol c5) ol (out.flatMap ecell)) := Lib.hid (by rw [hol]; exact own_below A6.out hb7)
        have L7 := Lib.hid (L6.out.below hb7)
        have R7 := Lib.hid (R6.out.below hb7)
        have B7 := Lib.hid hb7
        rw [← hol] at hout ⊢
        clear hb7 hol A6 AB6 V6 L6 R6
        have KAB : Hid (∀ q, q ∈ (ab.map (·.block)).toList → wo.heap.size ≤ q ∧ q < w4.heap.size) := Lib.hid (fun q hq => World.ownsRow.lt OAB.out q (by rw [own_block_eq]; exact Option.mem_toList.1 hq))
        have KA : Hid (∀ q, q ∈ (a5.map (·.block)).toList → w4.heap.size ≤ q ∧ q < w5.heap.size) := Lib.hid (fun q hq => World.ownsRow.lt O5.out q (by rw [own_block_eq]; exact Option.mem_toList.1 hq))
        go_wp2_with fail
        go_loopw [68] (fun i wx => ∃ j : Nat, j ≤ xn ∧ i = .int .i64 j ∧ Only (ab.map (·.block)).toList w7 wx ∧ ∃ us : List Value, wx.ownsRow wo.heap.size 33 6 (.slice ab xn cb) xn us) (fun i _ => xn - (intOf i).toNat)
        case atStart => exact ⟨0, by omega, rfl, Only.refl _ _, _, AB7.out⟩
        case round =>
          obtain ⟨j, hj, rfl, hon, us, ho⟩ := hrel
          have ON := Lib.hid hon
          have OO := Lib.hid ho
          clear hon
          by_cases hjl : j < xn
          · obtain ⟨gb, rfl⟩ : ∃ gb, ab = some ⟨gb, 0, none⟩ := by
              rcases own_addr ho with ⟨_, h0, _⟩ | h0
              · omega
              · exact h0
            obtain ⟨v0, q0⟩ := own_cell ho (j * 6) (by omega)
            obtain ⟨v1, q1⟩ := own_cell ho (j * 6 + 1) (by omega)
            obtain ⟨v2, q2⟩ := own_cell ho (j * 6 + 2) (by omega)
            obtain ⟨v3, q3⟩ := own_cell ho (j * 6 + 3) (by omega)
            obtain ⟨v4, q4⟩ := own_cell ho (j * 6 + 4) (by omega)
            obtain ⟨v5, q5⟩ := own_cell ho (j * 6 + 5) (by omega)
            have f0 := World.ownsRow.frozenAt ho (j * 6)
            have f1 := World.ownsRow.frozenAt ho (j * 6 + 1)
            have f2 := World.ownsRow.frozenAt ho (j * 6 + 2)
            have f3 := World.ownsRow.frozenAt ho (j * 6 + 3)
            have f4 := World.ownsRow.frozenAt ho (j * 6 + 4)
            have f5 := World.ownsRow.frozenAt ho (j * 6 + 5)
            have i7 : (0 : Int) ≤ j := by omega
            have i8 : (j : Int) < xn := by omega
            clear ho
            go_wp2_with fail
            go_roundw
            case rel => exact ⟨j + 1, by omega, by go_num, (((((ON.out.setCell (.inl (by simp)) _).setCell (.inl (by simp)) _).setCell (.inl (by simp)) _).setCell (.inl (by simp)) _).setCell (.inl (by simp)) _).setCell (.inl (by simp)) _, _,
              (World.ownsRow.stored (World.ownsRow.stored (World.ownsRow.stored (World.ownsRow.stored (World.ownsRow.stored (World.ownsRow.stored OO.out (j * 6) _).1 (j * 6 + 1) _).1 (j * 6 + 2) _).1 (j * 6 + 3) _).1 (j * 6 + 4) _).1 (j * 6 + 5) _).1⟩
            case measure => simp [intOf]; omega
          · obtain ⟨w8, rfl⟩ : ∃ w8, w8 = wr := ⟨_, rfl⟩
            have A8 := Lib.hid (own_only A7.out ON.out (fun q hq hm => by
              have h1 := KAB.out q hm
              have h2 := (World.ownsRow.lt A7.out q hq).1
              omega))
            have nS5 : Hid (∀ q ∈ S5, q ∉ (ab.map (·.block)).toList) := Lib.hid (fun q hq hm => by
              have h1 := KAB.out q hm
              rcases S5'.out _ hq with h | h
              · have := zS.out _ h; omega
              · omega)
            have nF6 : Hid (∀ q ∈ F6, q ∉ (ab.map (·.block)).toList) := Lib.hid (fun q hq hm => by
              have h1 := KAB.out q hm
              rcases F6'.out _ hq with h | h
              · have := zF.out _ gF.out; omega
              · have := ON5.out.size; omega)
            have L8 := Lib.hid (L7.out.only ON.out nS5.out)
            have R8 := Lib.hid (R7.out.only ON.out nF6.out)
            clear ho A7 L7 R7 nS5 nF6
            go_wp2_with fail
            go_loopw [78] (fun i wx => ∃ j : Nat, j ≤ ol ∧ i = .int .i64 j ∧ Only (a5.map (·.block)).toList w8 wx ∧ ∃ us : List Value, wx.ownsRow w4.heap.size 38 7 (.slice a5 ol c5) ol us) (fun i _ => ol - (intOf i).toNat)
            case atStart => exact ⟨0, by omega, rfl, Only.refl _ _, _, A8.out⟩
            case round =>
              obtain ⟨j2, hj2, rfl, hon2, us2, ho2⟩ := hrel
              have ON2 := Lib.hid hon2
              have OO2 := Lib.hid ho2
              clear hon2
              by_cases hjl2 : j2 < ol
              · obtain ⟨gb, rfl⟩ : ∃ gb, a5 = some ⟨gb, 0, none⟩ := by
                  rcases own_addr ho2 with ⟨_, h0, _⟩ | h0
                  · omega
                  · exact h0
                obtain ⟨v0, q0⟩ := own_cell ho2 (j2 * 7) (by omega)
                obtain ⟨v1, q1⟩ := own_cell ho2 (j2 * 7 + 1) (by omega)
                obtain ⟨v2, q2⟩ := own_cell ho2 (j2 * 7 + 2) (by omega)
                obtain ⟨v3, q3⟩ := own_cell ho2 (j2 * 7 + 3) (by omega)
                obtain ⟨v4, q4⟩ := own_cell ho2 (j2 * 7 + 4) (by omega)
                obtain ⟨v5, q5⟩ := own_cell ho2 (j2 * 7 + 5) (by omega)
                obtain ⟨v6, q6⟩ := own_cell ho2 (j2 * 7 + 6) (by omega)
                have f0 := World.ownsRow.frozenAt ho2 (j2 * 7)
                have f1 := World.ownsRow.frozenAt ho2 (j2 * 7 + 1)
                have f2 := World.ownsRow.frozenAt ho2 (j2 * 7 + 2)
                have f3 := World.ownsRow.frozenAt ho2 (j2 * 7 + 3)
                have f4 := World.ownsRow.frozenAt ho2 (j2 * 7 + 4)
                have f5 := World.ownsRow.frozenAt ho2 (j2 * 7 + 5)
                have f6 := World.ownsRow.frozenAt ho2 (j2 * 7 + 6)
                have i7 : (0 : Int) ≤ j2 := by omega
                have i8 : (j2 : Int) < ol := by omega
                clear ho2
                go_wp2_with fail
                go_roundw
                case rel => exact ⟨j2 + 1, by omega, by go_num, ((((((ON2.out.setCell (.inl (by simp)) _).setCell (.inl (by simp)) _).setCell (.inl (by simp)) _).setCell (.inl (by simp)) _).setCell (.inl (by simp)) _).setCell (.inl (by simp)) _).setCell (.inl (by simp)) _, _,
                  (World.ownsRow.stored (World.ownsRow.stored (World.ownsRow.stored (World.ownsRow.stored (World.ownsRow.stored (World.ownsRow.stored (World.ownsRow.stored OO2.out (j2 * 7) _).1 (j2 * 7 + 1) _).1 (j2 * 7 + 2) _).1 (j2 * 7 + 3) _).1 (j2 * 7 + 4) _).1 (j2 * 7 + 5) _).1 (j2 * 7 + 6) _).1⟩
                case measure => simp [intOf]; omega
              · have nS5 : ∀ q ∈ S5, q ∉ (a5.map (·.block)).toList := fun q hq hm => AL5.out q (by rw [own_block_eq]; exact Option.mem_toList.1 hm) hq
                have nF6 : ∀ q ∈ F6, q ∉ (a5.map (·.block)).toList := fun q hq hm => by
                  have h1 := KA.out q hm
                  rcases F6'.out _ hq with h | h
                  · have := zF.out _ gF.out; have := B4.out.size; omega
                  · omega
                have L9 := Lib.hid (L8.out.only ON2.out nS5)
                have R9 := Lib.hid (R8.out.only ON2.out nF6)
                have z3 := M.out.size
                have M9 := Lib.hid ((((((M.out.below B4.out).step ON5.out (fun q hq => (SS.out q hq).2)).step ON6.out (fun q hq => by
                  simp only [List.mem_singleton] at hq
                  subst hq
                  exact (FF.out _ gF.out).2)).below B7.out).step ON.out (fun q hq => .inr (by have := KAB.out q hq; omega))).step ON2.out (fun q hq => .inr (by have := KA.out q hq; have := B4.out.size; omega)))
                have zw := B.out.size
                have W6 := ON6.out.below W5.out W5.out.size (fun q hq => by
                  simp only [List.mem_singleton] at hq
                  subst hq
                  exact (FF.out _ gF.out).1)
                have W7 := W6.trans (B7.out.mono W6.size)
                have W8 := ON.out.below W7 W7.size (fun q hq => by have := KAB.out q hq; omega)
                have W9 := Lib.hid (ON2.out.below W8 W8.size (fun q hq => by have := KA.out q hq; have := B4.out.size; omega))
                have FIN : Hid ((es ++ out).length ≤ 8 * (k + 1) ∧ (∀ x ∈ S5, x ∉ F6) ∧ (∀ x ∈ S5, w.heap.size ≤ x ∧ (x < w2.heap.size ∨ w3.heap.size ≤ x)) ∧ (∀ x ∈ F6, w.heap.size ≤ x ∧ (x < w2.heap.size ∨ w3.heap.size ≤ x))) := Lib.hid (by
                  have z4 := B4.out.size
                  have z5 := ON5.out.size
                  refine ⟨by rw [List.length_append, ← OL.out]; omega, fun q hq hm => ?_, fun q hq => ?_, fun q hq => ?_⟩
                  · rcases F6'.out _ hm with h | h
                    · exact gS5.out (by rw [← h]; exact hq)
                    · have := L5.out.lt q hq; omega
                  · rcases S5'.out _ hq with h | h
                    · exact SS.out _ h
                    · exact ⟨by omega, .inr (by omega)⟩
                  · rcases F6'.out _ hq with h | h
                    · rw [h]; exact FF.out _ gF.out
                    · exact ⟨by omega, .inr (by omega)⟩)
                clear ho2 nS5 nF6 W6 W7 W8 A8 L8 R8
                go_wp2_with fail
                go_roundw
                case rel => exact ⟨k + 1, S5, F6, es ++ out, st', ct', by omega, by go_num, L9.out, R9.out, FIN.out.1, FIN.out.2.1, FIN.out.2.2.1, FIN.out.2.2.2, M9.out, W9.out⟩
                case measure => simp [intOf]; omega
      · go_wp2_with fail
        refine (lright_c S gd F gr C es st ct _ L.out RL.out (by omega)).mono ?_; rintro e w4 ⟨rfl, hb4⟩
        have B9 := Lib.hid (B.out.trans (hb4.mono B.out.size))
        clear hb4
        go_wp2_with fail
        refine (lwakes_c _).mono ?_; rintro e w5 ⟨rfl, hb5⟩
        go_wp2_with fail
        go_ret
        exact ⟨rfl, B9.out.trans (hb5.mono B9.out.size)⟩
  · have hno : cl < 1 ∨ 4 < cl := by omega
    have NO := Lib.hid hno
    rcases (show cl < 1 ∨ (¬ cl < 1 ∧ 4 < cl) by omega) with h1 | ⟨h1, h2⟩
    all_goals
      clear hin hno
      go_wp2_with fail
      refine (lnew_no cl NO.out _).mono ?_; rintro e w1 ⟨rfl, rfl⟩
      go_wp2_with fail
      refine (lwakes_c _).mono ?_; rintro e w5 ⟨rfl, hb5⟩
      go_wp2_with fail
      go_ret
      exact ⟨rfl, hb5⟩

set_option maxRecDepth 100000 in
theorem lawWalk : LawWalk Try.checked 8 Try.f8 := by
  intro H enc W base args ds p hval hA hsz
  rw [Try.params8] at hA hval
  obtain ⟨v0, vs0, d0, ds0, p0, q0, hargs, rfl, rfl, h0, r0⟩ := trodAll_cons hA
  obtain ⟨v1, vs1, d1, ds1, p1, q1, rfl, rfl, rfl, h1, r1⟩ := trodAll_cons r0
  obtain ⟨rfl, rfl, rfl⟩ := trodAll_nil r1
  obtain rfl : args = #[v0, v1] := by cases args; simp_all
  obtain ⟨a0, rfl, rfl, rfl, w0⟩ := open_int Try.underlying3 (hval 0 3 v0 rfl rfl) h0
  obtain ⟨a1, n1, c1, R1, rfl, hnc1, hcm1, hr1⟩ := open_rows2 (k := 6) Try.underlying22 Try.underlying29 (by kernel_rfl) (by kernel_rfl) (by decide) (by kernel_rfl) (hval 1 22 v1 rfl rfl) h1
  exact walk a0 a1 n1 c1 R1 W (I64.of_wf w0) hr1 (Nat.le_trans hnc1 hcm1) hnc1

theorem lifted (os : Os) (started : os.Started) (H : Type) (enc : TypeId × Value → H) :
    ReturnsInHanded {} Try.checked os 8 .any (Rows.ledgerRunsSpec.pre6 enc Try.prog Try.f8 Rows.ledgerRunsRow.domain false) (Rows.ledgerRunsSpec.post enc Try.prog Try.f8 false true false false) :=
  law_lift (C := Try.checked) (s := Rows.ledgerRunsSpec) (tb := 4) (by kernel_rfl) started (by kernel_rfl) Try.func8
    (ChangeSpec.witness6 (enc := enc) (C := Try.checked) false ⟨#[], #[.int .i64 0, .slice none 0 0], []⟩ 8 (by kernel_rfl) (by kernel_rfl) (by kernel_rfl) (by kernel_rfl))
    rfl (fun H ds h => by
      match ds, h with
      | [d0, d1], _ => rfl) (by kernel_rfl) (by kernel_rfl) (by kernel_rfl) Try.underlying4 lawWalk

theorem over : Rows.ledgerRunsRow.holds Try.pinned (OpenSpec.ofChange Rows.ledgerRunsSpec) :=
  OpenClaim.holds_of_wide 8 Try.f8 rfl rfl rfl rfl rfl rfl rfl ⟨rfl, rfl, rfl, rfl, rfl⟩ rfl rfl rfl rfl rfl (by kernel_rfl) Try.func8 (by kernel_rfl)
    (of_decide_eq_true (by kernel_rfl)) (by unfold Func.isWrapper; first | (rw [if_pos (by decide +kernel)]; kernel_rfl) | (rw [if_neg (by decide +kernel)]; exact ⟨rfl, rfl⟩))
    (fun os started H enc _ => lifted os started H enc)

/-- The statement. -/
theorem proved : Rows.LedgerRunsSaid := over
#print axioms proved

end Go.Proofs.Ytfhlcjfgbhmecaa.LedgerRuns
