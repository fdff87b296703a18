/- Fold, of batches whatever their lengths. -/
import Derived.Test.YtfhlcjfgbhmecaaLedgerT
namespace Go.Proofs.Ytfhlcjfgbhmecaa
open Go.RowKit
set_option linter.unusedVariables false

structure BatchV (w : World) (x : Bt) : Prop where
  v : VRow w x.a x.n 6 (x.rs.flatMap rqc)
  l : x.rs.length = x.n
  k : x.n ≤ x.c
  i : ∀ r ∈ x.rs, RqI r
  s : 0 < x.n → ∀ p, x.a = some p → p.block < w.heap.size
structure BRowV (w : World) (a : Option Addr) (n : Nat) (bs : List Bt) : Prop where
  v : VRow w a n 1 (bs.map bval)
  b : ∀ x ∈ bs, BatchV w x
  m : n ≤ 20
  t : (allRq bs).length ≤ 1000
theorem BRowV.len {w : World} {a : Option Addr} {n : Nat} {bs : List Bt} (h : BRowV w a n bs) : bs.length = n := by have := h.v.1; simpa using this
theorem Batch.toV {w : World} {x : Bt} (h : Batch w x) : BatchV w x := ⟨h.v, h.l, h.k, h.i, h.s⟩
theorem own_lt {w : World} {base n s c : Nat} {e : TypeId} {a : Option Addr} {xs : List Value} (h : w.ownsRow base e s (.slice a n c) n xs) : ∀ p, a = some p → p.block < w.heap.size := by
  rintro p rfl
  exact (h.lt p.block (by simp [Value.ownBlock])).2

/-- One more batch run. -/
theorem run_moreV (S : List Nat) (gd C : Nat) (s : LSt) (x : Bt) (W w : World) (h : Led w S gd C s.1 s.2.1 s.2.2) (hx : BatchV W x) (hb : Below W.heap.size W w) (hS : ∀ k ∈ S, W.heap.size ≤ k) (hn : s.1.length + x.n ≤ 4000) (s' : LSt) (hs : runL s x.rs = s') :
    Calls Try.prog 18 #[.pointer (some ⟨gd, 0, none⟩), .slice x.a x.n x.c] w fun e w' => ∃ S' a' m c' out, e = .returned (.slice a' m c') ∧ Led w' S' gd C s'.1 s'.2.1 s'.2.2 ∧ s'.1 = s.1 ++ out ∧ out.length = m ∧
      w'.ownsRow w.heap.size 38 7 (.slice a' m c') m (out.flatMap ecell) ∧ (∀ g, (Value.slice a' m c').ownBlock = some g → g ∉ S') ∧ Only S w w' ∧ (∀ k ∈ S', W.heap.size ≤ k) ∧ Below W.heap.size W w' ∧ (∀ k ∈ S', k ∈ S ∨ w.heap.size ≤ k) := by
  obtain ⟨A, st, ct⟩ := s
  obtain ⟨⟨out, st', ct'⟩, hr⟩ : ∃ y, runL ([], st, ct) x.rs = y := ⟨_, rfl⟩
  have he : s' = (A ++ out, st', ct') := by rw [← hs, runL_app, hr]
  subst he
  have hlen : out.length ≤ x.n := by
    have := (runL_inv (s := ([], st, ct)) h.sm x.rs).2.2
    rw [hr, hx.l] at this
    simpa using this
  have hn' : A.length + x.n ≤ 4000 := hn
  refine (run_c S gd C A st ct x.a x.n x.c x.rs w h (hx.v.below (hb.mono (Nat.le_refl _))) (fun h0 p hp hm => by have := hS _ hm; have := hx.s h0 p hp; omega) hx.l (by omega) hx.i out st' ct' hr out.length rfl).mono ?_
  rintro e w' ⟨S', a', c', rfl, hL, ho, hal, hon, hS'⟩
  refine ⟨S', a', out.length, c', out, rfl, hL, rfl, rfl, ho, hal, hon, fun k hk => ?_, hon.below hb hb.size hS, hS'⟩
  rcases hS' k hk with h1 | h1
  · exact hS k h1
  · exact Nat.le_trans hb.size h1
set_option maxRecDepth 100000 in
set_option maxHeartbeats 1600000 in
theorem foldv_c (C : Nat) (h1 : 1 ≤ C) (h4 : C ≤ 4) (a : Option Addr) (n c : Nat) (bs : List Bt) (w : World) (h : BRowV w a n bs) :
    Calls Try.prog 25 #[.int .i64 C, .slice a n c] w fun e w' => ∃ S gd, e = .returned (.tuple #[.pointer (some ⟨gd, 0, none⟩), .int .i64 0]) ∧ Led w' S gd C (foldB C bs).1 (foldB C bs).2.1 (foldB C bs).2.2 ∧ (∀ k ∈ S, w.heap.size ≤ k) ∧ Below w.heap.size w w' := by
  have H := Lib.hid h
  have LEN := Lib.hid h.len
  have hn := h.m
  clear h
  go_enter Try.func25, Try.ntmps25
  go_wp2_with fail
  refine (lnew_ok C h1 h4 _).mono ?_; rintro e w1 ⟨S, gd, rfl, hL, hS, hb1⟩
  have L1 := Lib.hid hL
  have S1 := Lib.hid hS
  have B1 := Lib.hid hb1
  clear hL hS hb1
  go_wp2_with fail
  go_loopw [20] (fun i wr => ∃ k : Nat, k ≤ n ∧ i = .int .i64 k ∧ ∃ S, Led wr S gd C (foldB C (bs.take k)).1 (foldB C (bs.take k)).2.1 (foldB C (bs.take k)).2.2 ∧ (∀ k ∈ S, w.heap.size ≤ k) ∧ Below w.heap.size w wr) (fun i _ => n - (intOf i).toNat)
  case atStart => exact ⟨0, by omega, rfl, S, L1.out, S1.out, B1.out⟩
  case round =>
    obtain ⟨k, hk, rfl, S2, hL2, hS2, hb2⟩ := hrel
    have L2 := Lib.hid hL2
    have SS := Lib.hid hS2
    have B2 := Lib.hid hb2
    clear hL2 hS2 hb2
    by_cases hlt : k < n
    · obtain ⟨b, off, rfl, hbl, hcell⟩ := (H.out.v.below B2.out).2 (by omega)
      have kb : k < bs.length := by rw [LEN.out]; exact hlt
      have c0 : wr.cell? ⟨b, off + k, none⟩ = some (bval bs[k]) := hcell k _ (by rw [List.getElem?_map, List.getElem?_eq_getElem kb]; rfl)
      have hx := H.out.b _ (List.getElem_mem kb)
      obtain ⟨s', hs'⟩ : ∃ s', foldB C (bs.take (k + 1)) = s' := ⟨_, rfl⟩
      have ft := foldB_take C bs k kb
      rw [hs'] at ft
      obtain ⟨x, hx'⟩ : ∃ x, x = bs[k] := ⟨_, rfl⟩
      rw [← hx'] at c0 hx ft
      have HX := Lib.hid hx
      have FT := Lib.hid ft.symm
      have HS := Lib.hid hs'
      have FL := Lib.hid (show (foldB C (bs.take k)).1.length + x.n ≤ 4000 by
        have h1 := foldB_len C (bs.take k)
        have h2 := H.out.t
        have h3 : (allRq (bs.take (k + 1))).length = (allRq (bs.take k)).length + x.rs.length := by
          unfold allRq
          rw [List.take_add_one, List.getElem?_eq_getElem kb, Option.toList_some, List.flatMap_append, List.length_append, ← hx']
          simp
        have h4 : (allRq (bs.take (k + 1))).length ≤ (allRq bs).length := by
          unfold allRq
          conv => rhs; rw [← List.take_append_drop (k + 1) bs, List.flatMap_append, List.length_append]
          omega
        have h5 := hx.l
        omega)
      unfold bval at c0
      have i0 : (0 : Int) ≤ k := by omega
      have i1 : (k : Int) < n := by omega
      clear hcell hx ft hx' hs'
      go_wp2_with fail
      refine (run_moreV S2 gd C (foldB C (bs.take k)) x w _ L2.out HX.out B2.out SS.out FL.out s' FT.out).mono ?_
      rintro e w3 ⟨S3, a3, m3, c3, out3, rfl, hL3, _, _, _, _, _, hS3, hb3, _⟩
      have L3 := Lib.hid hL3
      have SS3 := Lib.hid hS3
      have B3 := Lib.hid hb3
      clear hL3 hS3 hb3 c0
      go_wp2_with fail
      refine ⟨⟨k + 1, by omega, by go_num, S3, ?_, SS3.out, B3.out⟩, by simp [intOf]; omega⟩
      rw [HS.out]
      exact L3.out
    · have hkn : k = n := by omega
      have e : bs.take k = bs := List.take_of_length_le (by rw [LEN.out]; omega)
      rw [e] at L2
      go_wp2_with fail
      go_ret2
      exact ⟨S2, gd, rfl, L2.out, SS.out, B2.out⟩
end Go.Proofs.Ytfhlcjfgbhmecaa
