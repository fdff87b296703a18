/- NdD, NetL. -/
import Derived.Test.YtfhlcjfgbhmecaaZNdC
import Derived.Test.YtfhlcjfgbhmecaaZApp
import Derived.BigQuiet
import Derived.Deep.CutRange
import Derived.Deep.DeepCutAuto
import Derived.Deep.CutBlock
/- psephosref21.Node.Clone. Printed by gennodeclone2.py. -/
namespace Go.Proofs.Ytfhlcjfgbhmecaa
open Go.RowKit
set_option linter.unusedVariables false
set_option maxRecDepth 100000

set_option maxHeartbeats 6400000 in
theorem rnclone_c (B p nb : Nat) (w : World) (h : NodeB B w p) : Calls Try.prog 94 #[.pointer (some ⟨p, 0, none⟩), .pointer (some ⟨nb, 0, none⟩)] w fun e w' => ∃ q, e = .returned (.pointer (some ⟨q, 0, none⟩)) ∧ Below w.heap.size w w' := by
  obtain ⟨cs, ai, ci, am, cm, xs, ys, hx⟩ := h
  obtain ⟨ie, hie, hz0, hzs, hzb⟩ := info_inst_parts
  obtain ⟨zi, hzi, hzn⟩ := hz0
  obtain ⟨mi, mi0, mz0, mz1, mz2⟩ := info_parts info_measN
  obtain ⟨i275, hi275⟩ : ∃ i, Try.prog.info? 68 = some i := Option.isSome_iff_exists.1 (by kernel_rfl)
  obtain ⟨i191, hi191⟩ : ∃ i, Try.prog.info? 3 = some i := Option.isSome_iff_exists.1 (by kernel_rfl)
  obtain ⟨i192, hi192⟩ : ∃ i, Try.prog.info? 3 = some i := Option.isSome_iff_exists.1 (by kernel_rfl)
  obtain ⟨i543, hi543⟩ : ∃ i, Try.prog.info? 33 = some i := Option.isSome_iff_exists.1 (by kernel_rfl)
  obtain ⟨i544, hi544⟩ : ∃ i, Try.prog.info? 59 = some i := Option.isSome_iff_exists.1 (by kernel_rfl)
  have P275 : Hid (w.cell? ⟨p, 275, none⟩ = some (.slice none 0 0)) := Lib.hid ((hx.blk.cell 275).trans (hx.nil 275 (by simp)))
  have P191 : Hid (w.cell? ⟨p, 191, none⟩ = some (.slice none 0 0)) := Lib.hid ((hx.blk.cell 191).trans (hx.nil 191 (by simp)))
  have P192 : Hid (w.cell? ⟨p, 192, none⟩ = some (.slice none 0 0)) := Lib.hid ((hx.blk.cell 192).trans (hx.nil 192 (by simp)))
  have P543 : Hid (w.cell? ⟨p, 543, none⟩ = some (.slice none 0 0)) := Lib.hid ((hx.blk.cell 543).trans (hx.nil 543 (by simp)))
  have P544 : Hid (w.cell? ⟨p, 544, none⟩ = some (.slice none 0 0)) := Lib.hid ((hx.blk.cell 544).trans (hx.nil 544 (by simp)))
  have P20 : Hid (w.cell? ⟨p, 20, none⟩ = some (.slice ai 2 ci)) := Lib.hid ((hx.blk.cell 20).trans hx.fi)
  have P274 : Hid (w.cell? ⟨p, 274, none⟩ = some (.slice am 2 cm)) := Lib.hid ((hx.blk.cell 274).trans hx.fm)
  have HX := Lib.hid hx
  clear hx
  go_enter Try.func94, Try.ntmps94
  go_upto_region 2 with (first
    | (refine wpList_load_row rfl 187 (.tmp 7) rfl p rfl 187 cs (0, 0) _ HX.out.blk Try.underlying187 rfl (by rw [HX.out.size]; kernel_rfl) ?_; try simp only [Act.put])
    | (refine wpList_store_row rfl 187 (.tmp 5) (.tmp 8) rfl w.heap.size cs rfl rfl 187 _ (Blk.new _ _ _) (by rw [HX.out.size]; kernel_rfl) (by rw [HX.out.size]; kernel_rfl) HX.out.one ?_; rw [World.setRow_alloc_new]; try simp only [Act.put]))
  obtain ⟨w1, hw1⟩ : ∃ w1, w1 = w.alloc (.cells cs 187) := ⟨_, rfl⟩
  obtain ⟨q, hq⟩ : ∃ q, q = w.heap.size := ⟨_, rfl⟩
  rw [← hw1, ← hq]
  have hk1 : Blk w1 q 187 cs := by rw [hw1, hq]; exact Blk.new _ _ _
  have BX : Hid (Below w.heap.size w w1) := Lib.hid (by rw [hw1]; exact (Below.refl _ _).alloc (Nat.le_refl _) _)
  have QE := Lib.hid hq
  clear hw1 hq
  have f16 := hk1.frozen 16
  obtain ⟨u16, g16⟩ : ∃ u, w1.cell? ⟨q, 16, none⟩ = some u := ⟨_, (hk1.cell 16).trans (Array.getElem?_eq_getElem (by rw [HX.out.size]; omega))⟩
  go_upto_region 3 with fail
  have KX := Lib.hid (hk1.set_ 16 (.pointer (some ⟨nb, 0, none⟩)))
  have BY := Lib.hid (BX.out.setCell (p := ⟨q, 16, none⟩) (by rw [QE.out]; exact Nat.le_refl _) (.pointer (some ⟨nb, 0, none⟩)))
  obtain ⟨w2, hw2⟩ : ∃ w2, w2 = w1.setCell ⟨q, 16, none⟩ (.pointer (some ⟨nb, 0, none⟩)) := ⟨_, rfl⟩
  obtain ⟨c2, hc2⟩ : ∃ c, c = cs.setIfInBounds 16 (.pointer (some ⟨nb, 0, none⟩)) := ⟨_, rfl⟩
  have Z2 : Hid (c2.size = 545) := Lib.hid (by rw [hc2]; simpa using HX.out.size)
  rw [← hw2] at KX BY ⊢
  rw [← hc2] at KX
  clear hw2 hc2 f16 g16 hk1 BX
  have p20 : w2.cell? ⟨p, 20, none⟩ = some (.slice ai 2 ci) := kept BY.out _ _ P20.out
  have V20 : Hid (VRow w2 ai 2 294 xs) := Lib.hid ((own_vrow HX.out.irow).below BY.out)
  go_upto_region 4 with (at_builtin; refine wpList_app rfl _ _ _ rfl w2.heap.size 197 ie zi 294 3912 Try.underlying163 hie hzi hzs hzb hzn (by omega) none 0 0 [] rfl ⟨rfl, .inl ⟨rfl, rfl⟩⟩ ai 2 ci xs rfl V20.out HX.out.ione (by unfold maxLen; omega) (by omega) (Nat.le_refl _) ?_; intro a20 d20 w3 h8; have b8 : Below w2.heap.size w2 w3 := h8.only.to_below; have KX8 := KX.out.below b8 KX.out.lt; have BY8 : Hid (Below w.heap.size w w3) := Lib.hid (BY.out.trans (b8.mono BY.out.size)); have f20 := KX8.frozen 20; obtain ⟨u20, g20⟩ : ∃ u, w3.cell? ⟨q, 20, none⟩ = some u := ⟨_, (KX8.cell 20).trans (Array.getElem?_eq_getElem (by rw [Z2.out]; omega))⟩; have KX := Lib.hid KX8; clear KX8 b8 h8; try simp only [Act.put])
  have KX := Lib.hid (KX.out.set_ 20 (.slice a20 (0 + 2) d20))
  have BY := Lib.hid (BY8.out.setCell (p := ⟨q, 20, none⟩) (by rw [QE.out]; exact Nat.le_refl _) (.slice a20 (0 + 2) d20))
  obtain ⟨w4, hw2⟩ : ∃ w', w' = w3.setCell ⟨q, 20, none⟩ (.slice a20 (0 + 2) d20) := ⟨_, rfl⟩
  obtain ⟨c4, hc2⟩ : ∃ c, c = c2.setIfInBounds 20 (.slice a20 (0 + 2) d20) := ⟨_, rfl⟩
  have Z4 : Hid (c4.size = 545) := Lib.hid (by rw [hc2]; simpa using Z2.out)
  rw [← hw2] at KX BY
  first | rw [← hw2] | (simp only [Nat.zero_add] at hw2 hc2 KX ⊢; rw [← hw2])
  rw [← hc2] at KX
  clear hw2 hc2 f20 g20 p20 V20 BY8
  have p274 : w4.cell? ⟨p, 274, none⟩ = some (.slice am 2 cm) := kept BY.out _ _ P274.out
  have V274 : Hid (VRow w4 am 2 2 ys) := Lib.hid ((own_vrow HX.out.mrow).below BY.out)
  go_upto_region 5 with (at_builtin; refine wpList_app rfl _ _ _ rfl w4.heap.size 199 mi _ 2 16 Try.underlying177 mi0 mz0 mz1 mz2 rfl (by omega) none 0 0 [] rfl ⟨rfl, .inl ⟨rfl, rfl⟩⟩ am 2 cm ys rfl V274.out HX.out.mone (by unfold maxLen; omega) (by omega) (Nat.le_refl _) ?_; intro a274 d274 w5 h8; have b8 : Below w4.heap.size w4 w5 := h8.only.to_below; have KX8 := KX.out.below b8 KX.out.lt; have BY8 : Hid (Below w.heap.size w w5) := Lib.hid (BY.out.trans (b8.mono BY.out.size)); have f274 := KX8.frozen 274; obtain ⟨u274, g274⟩ : ∃ u, w5.cell? ⟨q, 274, none⟩ = some u := ⟨_, (KX8.cell 274).trans (Array.getElem?_eq_getElem (by rw [Z4.out]; omega))⟩; have KX := Lib.hid KX8; clear KX8 b8 h8; try simp only [Act.put])
  have KX := Lib.hid (KX.out.set_ 274 (.slice a274 (0 + 2) d274))
  have BY := Lib.hid (BY8.out.setCell (p := ⟨q, 274, none⟩) (by rw [QE.out]; exact Nat.le_refl _) (.slice a274 (0 + 2) d274))
  obtain ⟨w6, hw2⟩ : ∃ w', w' = w5.setCell ⟨q, 274, none⟩ (.slice a274 (0 + 2) d274) := ⟨_, rfl⟩
  obtain ⟨c6, hc2⟩ : ∃ c, c = c4.setIfInBounds 274 (.slice a274 (0 + 2) d274) := ⟨_, rfl⟩
  have Z6 : Hid (c6.size = 545) := Lib.hid (by rw [hc2]; simpa using Z4.out)
  rw [← hw2] at KX BY
  first | rw [← hw2] | (simp only [Nat.zero_add] at hw2 hc2 KX ⊢; rw [← hw2])
  rw [← hc2] at KX
  clear hw2 hc2 f274 g274 p274 V274 BY8
  have p275 : w6.cell? ⟨p, 275, none⟩ = some (.slice none 0 0) := kept BY.out _ _ P275.out
  have f275 := KX.out.frozen 275
  obtain ⟨u275, g275⟩ : ∃ u, w6.cell? ⟨q, 275, none⟩ = some u := ⟨_, (KX.out.cell 275).trans (Array.getElem?_eq_getElem (by rw [Z6.out]; omega))⟩
  go_upto_region 6 with (at_builtin; refine wpList_append_no rfl _ _ _ rfl 68 i275 Try.underlying178 hi275 none none 0 0 0 (.inl ⟨rfl, rfl, rfl⟩) (Nat.le_refl _) rfl rfl ?_; try simp only [Act.put])
  have KX := Lib.hid (KX.out.set_ 275 (.slice none 0 0))
  have BY := Lib.hid (BY.out.setCell (p := ⟨q, 275, none⟩) (by rw [QE.out]; exact Nat.le_refl _) (.slice none 0 0))
  obtain ⟨w7, hw2⟩ : ∃ w', w' = w6.setCell ⟨q, 275, none⟩ (.slice none 0 0) := ⟨_, rfl⟩
  obtain ⟨c7, hc2⟩ : ∃ c, c = c6.setIfInBounds 275 (.slice none 0 0) := ⟨_, rfl⟩
  have Z7 : Hid (c7.size = 545) := Lib.hid (by rw [hc2]; simpa using Z6.out)
  rw [← hw2] at KX BY ⊢
  rw [← hc2] at KX
  clear hw2 hc2 f275 g275 p275
  have p191 : w7.cell? ⟨p, 191, none⟩ = some (.slice none 0 0) := kept BY.out _ _ P191.out
  have f191 := KX.out.frozen 191
  obtain ⟨u191, g191⟩ : ∃ u, w7.cell? ⟨q, 191, none⟩ = some u := ⟨_, (KX.out.cell 191).trans (Array.getElem?_eq_getElem (by rw [Z7.out]; omega))⟩
  go_upto_region 7 with (at_builtin; refine wpList_append_no rfl _ _ _ rfl 3 i191 Try.underlying73 hi191 none none 0 0 0 (.inl ⟨rfl, rfl, rfl⟩) (Nat.le_refl _) rfl rfl ?_; try simp only [Act.put])
  have KX := Lib.hid (KX.out.set_ 191 (.slice none 0 0))
  have BY := Lib.hid (BY.out.setCell (p := ⟨q, 191, none⟩) (by rw [QE.out]; exact Nat.le_refl _) (.slice none 0 0))
  obtain ⟨w8, hw2⟩ : ∃ w', w' = w7.setCell ⟨q, 191, none⟩ (.slice none 0 0) := ⟨_, rfl⟩
  obtain ⟨c8, hc2⟩ : ∃ c, c = c7.setIfInBounds 191 (.slice none 0 0) := ⟨_, rfl⟩
  have Z8 : Hid (c8.size = 545) := Lib.hid (by rw [hc2]; simpa using Z7.out)
  rw [← hw2] at KX BY ⊢
  rw [← hc2] at KX
  clear hw2 hc2 f191 g191 p191
  have p192 : w8.cell? ⟨p, 192, none⟩ = some (.slice none 0 0) := kept BY.out _ _ P192.out
  have f192 := KX.out.frozen 192
  obtain ⟨u192, g192⟩ : ∃ u, w8.cell? ⟨q, 192, none⟩ = some u := ⟨_, (KX.out.cell 192).trans (Array.getElem?_eq_getElem (by rw [Z8.out]; omega))⟩
  go_upto_region 8 with (at_builtin; refine wpList_append_no rfl _ _ _ rfl 3 i192 Try.underlying73 hi192 none none 0 0 0 (.inl ⟨rfl, rfl, rfl⟩) (Nat.le_refl _) rfl rfl ?_; try simp only [Act.put])
  have KX := Lib.hid (KX.out.set_ 192 (.slice none 0 0))
  have BY := Lib.hid (BY.out.setCell (p := ⟨q, 192, none⟩) (by rw [QE.out]; exact Nat.le_refl _) (.slice none 0 0))
  obtain ⟨w9, hw2⟩ : ∃ w', w' = w8.setCell ⟨q, 192, none⟩ (.slice none 0 0) := ⟨_, rfl⟩
  obtain ⟨c9, hc2⟩ : ∃ c, c = c8.setIfInBounds 192 (.slice none 0 0) := ⟨_, rfl⟩
  have Z9 : Hid (c9.size = 545) := Lib.hid (by rw [hc2]; simpa using Z8.out)
  rw [← hw2] at KX BY ⊢
  rw [← hc2] at KX
  clear hw2 hc2 f192 g192 p192
  have p543 : w9.cell? ⟨p, 543, none⟩ = some (.slice none 0 0) := kept BY.out _ _ P543.out
  have f543 := KX.out.frozen 543
  obtain ⟨u543, g543⟩ : ∃ u, w9.cell? ⟨q, 543, none⟩ = some u := ⟨_, (KX.out.cell 543).trans (Array.getElem?_eq_getElem (by rw [Z9.out]; omega))⟩
  go_upto_region 9 with (at_builtin; refine wpList_append_no rfl _ _ _ rfl 33 i543 Try.underlying29 hi543 none none 0 0 0 (.inl ⟨rfl, rfl, rfl⟩) (Nat.le_refl _) rfl rfl ?_; try simp only [Act.put])
  have KX := Lib.hid (KX.out.set_ 543 (.slice none 0 0))
  have BY := Lib.hid (BY.out.setCell (p := ⟨q, 543, none⟩) (by rw [QE.out]; exact Nat.le_refl _) (.slice none 0 0))
  obtain ⟨w10, hw2⟩ : ∃ w', w' = w9.setCell ⟨q, 543, none⟩ (.slice none 0 0) := ⟨_, rfl⟩
  obtain ⟨c10, hc2⟩ : ∃ c, c = c9.setIfInBounds 543 (.slice none 0 0) := ⟨_, rfl⟩
  have Z10 : Hid (c10.size = 545) := Lib.hid (by rw [hc2]; simpa using Z9.out)
  rw [← hw2] at KX BY ⊢
  rw [← hc2] at KX
  clear hw2 hc2 f543 g543 p543
  have p544 : w10.cell? ⟨p, 544, none⟩ = some (.slice none 0 0) := kept BY.out _ _ P544.out
  have f544 := KX.out.frozen 544
  obtain ⟨u544, g544⟩ : ∃ u, w10.cell? ⟨q, 544, none⟩ = some u := ⟨_, (KX.out.cell 544).trans (Array.getElem?_eq_getElem (by rw [Z10.out]; omega))⟩
  go_upto_region 10 with (at_builtin; refine wpList_append_no rfl _ _ _ rfl 59 i544 Try.underlying148 hi544 none none 0 0 0 (.inl ⟨rfl, rfl, rfl⟩) (Nat.le_refl _) rfl rfl ?_; try simp only [Act.put])
  have KX := Lib.hid (KX.out.set_ 544 (.slice none 0 0))
  have BY := Lib.hid (BY.out.setCell (p := ⟨q, 544, none⟩) (by rw [QE.out]; exact Nat.le_refl _) (.slice none 0 0))
  obtain ⟨w11, hw2⟩ : ∃ w', w' = w10.setCell ⟨q, 544, none⟩ (.slice none 0 0) := ⟨_, rfl⟩
  obtain ⟨c11, hc2⟩ : ∃ c, c = c10.setIfInBounds 544 (.slice none 0 0) := ⟨_, rfl⟩
  have Z11 : Hid (c11.size = 545) := Lib.hid (by rw [hc2]; simpa using Z10.out)
  rw [← hw2] at KX BY ⊢
  rw [← hc2] at KX
  clear hw2 hc2 f544 g544 p544
  go_wp2_with fail
  go_ret
  exact ⟨q, by first | rfl | trivial, BY.out⟩
end Go.Proofs.Ytfhlcjfgbhmecaa
/- Package net: place. -/
namespace Go.Proofs.Ytfhlcjfgbhmecaa
open Go.RowKit
set_option linter.unusedVariables false
set_option maxRecDepth 100000

theorem place_c {B gn n : Nat} {ps : List Int} {q g : Nat → Nat} {room : Int} {lost : Nat → Int} {ms : Nat → List (Value × List Int)} (x : Int) (w : World) (h : Nt B w gn n ps q g room lost ms) (hn : n ≤ 4096) (j : Int)
    (hj : (∃ i : Nat, j = i ∧ ps[i]? = some x ∧ ∀ m, m < i → ps[m]? ≠ some x) ∨ (j = -1 ∧ ∀ m, m < n → ps[m]? ≠ some x)) :
    Calls Try.prog 99 #[.pointer (some ⟨gn, 0, none⟩), .int .i64 x] w fun e w' => e = .returned (.int .i64 j) ∧ w = w' := by
  obtain ⟨ap, cp, al, cl, ra, rc, h1, h2, h3, h4⟩ := h.ex
  have len : ps.length = n := by have := h2.1; simpa using this
  have c0 : w.cell? ⟨gn, 0, none⟩ = some (.slice ap n cp) := h1.cell 0
  have H2 := Lib.hid h2
  have HJ := Lib.hid hj
  have LEN := Lib.hid len
  clear h h1 h2 h3 h4 hj len
  go_enter Try.func99, Try.ntmps99
  go_wp2_with fail
  go_loopw [12] (fun i wr => ∃ k : Nat, k ≤ n ∧ i = .int .i64 k ∧ wr = w ∧ ∀ m, m < k → ps[m]? ≠ some x) (fun i _ => n - (intOf i).toNat)
  case atStart => exact ⟨0, by omega, rfl, rfl, fun m hm => absurd hm (by omega)⟩
  case round =>
    obtain ⟨k, hk, rfl, rfl, hno⟩ := hrel
    have NO := Lib.hid hno
    clear hno
    by_cases hlt : k < n
    · obtain ⟨gp, rfl⟩ : ∃ gp, ap = some ⟨gp, 0, none⟩ := by
        rcases H2.out.2 with ⟨hv, h0⟩ | ⟨g, cp, cur, hv, _⟩
        · omega
        · injection hv with hv
          exact ⟨g, hv⟩
      have hkl : k < ps.length := by have := LEN.out; omega
      obtain ⟨y, hy⟩ : ∃ y, y = ps[k] := ⟨_, rfl⟩
      have x0 : wr.cell? ⟨gp, k, none⟩ = some (.int .i64 y) := (Row.of_own H2.out).cell (by rw [List.getElem?_map, List.getElem?_eq_getElem hkl, hy]; rfl)
      have YK := Lib.hid (show ps[k]? = some y by rw [List.getElem?_eq_getElem hkl, hy])
      have i0 : (0 : Int) ≤ k := by omega
      have i1 : (k : Int) < n := by omega
      clear hy hkl
      by_cases hyx : y = x
      · have e : j = k := by
          subst hyx
          rcases HJ.out with ⟨i, rfl, e1, e2⟩ | ⟨_, e2⟩
          · rcases Nat.lt_trichotomy i k with hik | rfl | hik
            · exact absurd e1 (NO.out i hik)
            · rfl
            · exact absurd YK.out (e2 k hik)
          · exact absurd YK.out (e2 k hlt)
        have E := Lib.hid e
        have hb : (y == x) = true := by rw [hyx]; exact beq_self_eq_true x
        clear e
        subst hyx
        go_wp2_with fail
        go_ret
        exact ⟨by rw [E.out]; rfl, (by first | rfl | trivial)⟩
      · have hb : (y == x) = false := beq_eq_false_iff_ne.2 hyx
        go_wp2_with fail
        go_roundw
        case rel => exact ⟨k + 1, by omega, by go_num, (by first | rfl | trivial), fun m hm => by
          by_cases e : m = k
          · subst e; rw [YK.out]; exact fun h => hyx (Option.some.inj h)
          · exact NO.out m (by omega)⟩
        case measure => simp [intOf]; omega
    · have hkn : k = n := by omega
      have e : j = -1 := by
        rcases HJ.out with ⟨i, _, e1, _⟩ | ⟨e1, _⟩
        · have := (List.getElem?_eq_some_iff.1 e1).1
          have := LEN.out
          exact absurd e1 (NO.out i (by omega))
        · exact e1
      have E := Lib.hid e
      have i1 : ¬ (k : Int) < n := by omega
      clear e hkn
      go_wp2_with fail
      go_ret
      exact ⟨by rw [E.out]; rfl, (by first | rfl | trivial)⟩
end Go.Proofs.Ytfhlcjfgbhmecaa
