/- NetK. -/
import Derived.Test.YtfhlcjfgbhmecaaZNetU
/- Package net: calls over a link that is, and over none. Printed by gennetk.py. -/
namespace Go.Proofs.Ytfhlcjfgbhmecaa
open Go.RowKit
set_option linter.unusedVariables false
set_option maxRecDepth 100000

/-- Which link is from x to y. -/
def NoLnk (n : Nat) (ps : List Int) (x y : Int) : Prop := ∃ i j, Pl n ps x i ∧ Pl n ps y j ∧ (i = -1 ∨ j = -1 ∨ i = j)
def Lnk (n : Nat) (ps : List Int) (x y : Int) (k : Nat) : Prop := ∃ a b, At n ps x a ∧ At n ps y b ∧ a ≠ b ∧ a * n + b = k
theorem Lnk.lt {n : Nat} {ps : List Int} {x y : Int} {k : Nat} (h : Lnk n ps x y k) : k < n * n := by
  obtain ⟨a, b, ha, hb, _, rfl⟩ := h
  exact at_lt ha.1 hb.1
def outAt {α : Type} (l : List α) (i : Nat) : List α := l.take i ++ l.drop (i + 1)
section
variable {B gn n : Nat} {ps : List Int} {q g : Nat → Nat} {room : Int} {lost : Nat → Int} {ms : Nat → List (Value × List Int)}
theorem link_at (x y : Int) (w : World) (h : Nt B w gn n ps q g room lost ms) (hn : n ≤ 4096) (k : Nat) (hl : Lnk n ps x y k) :
    Calls Try.prog 64 #[.pointer (some ⟨gn, 0, none⟩), .int .i64 x, .int .i64 y] w fun e w' => e = .returned (.pointer (some ⟨q k, 0, none⟩)) ∧ w = w' := by
  obtain ⟨a, b, ha, hb, hab, hk⟩ := hl
  exact link_ok x y w h hn a b ha.1 hb.1 hab ha.2 hb.2 k hk
theorem link_nil (x y : Int) (w : World) (h : Nt B w gn n ps q g room lost ms) (hn : n ≤ 4096) (hl : NoLnk n ps x y) :
    Calls Try.prog 64 #[.pointer (some ⟨gn, 0, none⟩), .int .i64 x, .int .i64 y] w fun e w' => e = .returned (.pointer none) ∧ w = w' := by
  obtain ⟨i, j, hx, hy, hno⟩ := hl
  by_cases h1 : i = -1 ∨ j = -1
  · exact link_none x y w h hn i j hx hy h1
  · have hij : i = j := by omega
    subst hij
    have H := Lib.hid h
    have HX := Lib.hid hx
    have HY := Lib.hid hy
    have i6 : ¬ i < 0 := by
      rcases hx with ⟨m, rfl, _⟩ | ⟨rfl, _⟩
      · omega
      · omega
    clear h hx hy hno h1
    go_enter Try.func64, Try.ntmps64
    go_wp2_with fail
    refine (place_c x _ H.out hn i HX.out).mono ?_; rintro e w' ⟨rfl, rfl⟩
    go_wp2_with fail
    refine (place_c y _ H.out hn i HY.out).mono ?_; rintro e w' ⟨rfl, rfl⟩
    go_wp2_with fail
    go_ret
    exact ⟨by first | rfl | trivial, by first | rfl | trivial⟩
theorem nlen_none (x y : Int) (w : World) (h : Nt B w gn n ps q g room lost ms) (hn : n ≤ 4096) (hl : NoLnk n ps x y) :
    Calls Try.prog 34 #[.pointer (some ⟨gn, 0, none⟩), .int .i64 x, .int .i64 y] w fun e w' => e = .returned (.int .i64 0) ∧ w = w' := by
  have H := Lib.hid h
  have HL := Lib.hid hl
  clear h hl
  go_enter Try.func34, Try.ntmps34
  go_wp2_with fail
  refine (link_nil x y _ H.out hn HL.out).mono ?_; rintro e w' ⟨rfl, rfl⟩
  go_wp2_with fail
  go_ret
  exact ⟨by first | rfl | trivial, by first | rfl | trivial⟩
theorem ntake_none (x y : Int) (i : Int) (w : World) (h : Nt B w gn n ps q g room lost ms) (hn : n ≤ 4096) (hl : NoLnk n ps x y) :
    Calls Try.prog 38 #[.pointer (some ⟨gn, 0, none⟩), .int .i64 x, .int .i64 y, .int .i64 i] w fun e w' => e = .returned (.tuple #[.slice none 0 0, .bool false]) ∧ w = w' := by
  have H := Lib.hid h
  have HL := Lib.hid hl
  clear h hl
  go_enter Try.func38, Try.ntmps38
  go_wp2_with fail
  refine (link_nil x y _ H.out hn HL.out).mono ?_; rintro e w' ⟨rfl, rfl⟩
  go_wp2_with fail
  go_ret2
  exact ⟨by first | rfl | trivial, by first | rfl | trivial⟩
theorem npeek_none (x y : Int) (i : Int) (w : World) (h : Nt B w gn n ps q g room lost ms) (hn : n ≤ 4096) (hl : NoLnk n ps x y) :
    Calls Try.prog 33 #[.pointer (some ⟨gn, 0, none⟩), .int .i64 x, .int .i64 y, .int .i64 i] w fun e w' => e = .returned (.tuple #[.slice none 0 0, .bool false]) ∧ w = w' := by
  have H := Lib.hid h
  have HL := Lib.hid hl
  clear h hl
  go_enter Try.func33, Try.ntmps33
  go_wp2_with fail
  refine (link_nil x y _ H.out hn HL.out).mono ?_; rintro e w' ⟨rfl, rfl⟩
  go_wp2_with fail
  go_ret2
  exact ⟨by first | rfl | trivial, by first | rfl | trivial⟩
theorem ndup_none (x y : Int) (i : Int) (w : World) (h : Nt B w gn n ps q g room lost ms) (hn : n ≤ 4096) (hl : NoLnk n ps x y) :
    Calls Try.prog 87 #[.pointer (some ⟨gn, 0, none⟩), .int .i64 x, .int .i64 y, .int .i64 i] w fun e w' => e = .returned (.bool false) ∧ w = w' := by
  have H := Lib.hid h
  have HL := Lib.hid hl
  clear h hl
  go_enter Try.func87, Try.ntmps87
  go_wp2_with fail
  refine (link_nil x y _ H.out hn HL.out).mono ?_; rintro e w' ⟨rfl, rfl⟩
  go_wp2_with fail
  go_ret
  exact ⟨by first | rfl | trivial, by first | rfl | trivial⟩
theorem nmove_none (x y : Int) (i j : Int) (w : World) (h : Nt B w gn n ps q g room lost ms) (hn : n ≤ 4096) (hl : NoLnk n ps x y) :
    Calls Try.prog 89 #[.pointer (some ⟨gn, 0, none⟩), .int .i64 x, .int .i64 y, .int .i64 i, .int .i64 j] w fun e w' => e = .returned (.bool false) ∧ w = w' := by
  have H := Lib.hid h
  have HL := Lib.hid hl
  clear h hl
  go_enter Try.func89, Try.ntmps89
  go_wp2_with fail
  refine (link_nil x y _ H.out hn HL.out).mono ?_; rintro e w' ⟨rfl, rfl⟩
  go_wp2_with fail
  go_ret
  exact ⟨by first | rfl | trivial, by first | rfl | trivial⟩
theorem nlen_c' (x y : Int) (w : World) (h : Nt B w gn n ps q g room lost ms) (hn : n ≤ 4096) (k : Nat) (hl : Lnk n ps x y k) (l : Nat) (hm : (ms k).length = l) :
    Calls Try.prog 34 #[.pointer (some ⟨gn, 0, none⟩), .int .i64 x, .int .i64 y] w fun e w' => e = .returned (.int .i64 l) ∧ w = w' := by
  have H := Lib.hid h
  have HL := Lib.hid hl
  have hkn := hl.lt
  have Q := Lib.hid (h.qs.que k hkn)
  clear h hl
  go_enter Try.func34, Try.ntmps34
  go_wp2_with fail
  refine (link_at x y _ H.out hn k HL.out).mono ?_; rintro e w' ⟨rfl, rfl⟩
  go_wp2_with fail
  refine (lq_len_c (q k) (g k) room (lost k) (ms k) _ Q.out l hm).mono ?_; rintro e w' ⟨rfl, rfl⟩
  go_wp2_with fail
  go_ret
  exact ⟨by first | rfl | trivial, by first | rfl | trivial⟩
theorem ntake_no' (x y : Int) (i : Int) (w : World) (h : Nt B w gn n ps q g room lost ms) (hn : n ≤ 4096) (k : Nat) (hl : Lnk n ps x y k) (hi : I64 i) (hno : ¬ (0 ≤ i ∧ i < (ms k).length)) :
    Calls Try.prog 38 #[.pointer (some ⟨gn, 0, none⟩), .int .i64 x, .int .i64 y, .int .i64 i] w fun e w' => e = .returned (.tuple #[.slice none 0 0, .bool false]) ∧ w = w' := by
  have H := Lib.hid h
  have HL := Lib.hid hl
  have hkn := hl.lt
  have Q := Lib.hid (h.qs.que k hkn)
  clear h hl
  go_enter Try.func38, Try.ntmps38
  go_wp2_with fail
  refine (link_at x y _ H.out hn k HL.out).mono ?_; rintro e w' ⟨rfl, rfl⟩
  go_wp2_with fail
  refine (take_no (q k) (g k) room (lost k) (ms k) i _ Q.out hi hno).mono ?_; rintro e w' ⟨rfl, rfl⟩
  go_wp2_with fail
  go_ret2
  exact ⟨by first | rfl | trivial, by first | rfl | trivial⟩
theorem npeek_no' (x y : Int) (i : Int) (w : World) (h : Nt B w gn n ps q g room lost ms) (hn : n ≤ 4096) (k : Nat) (hl : Lnk n ps x y k) (hi : I64 i) (hno : ¬ (0 ≤ i ∧ i < (ms k).length)) :
    Calls Try.prog 33 #[.pointer (some ⟨gn, 0, none⟩), .int .i64 x, .int .i64 y, .int .i64 i] w fun e w' => e = .returned (.tuple #[.slice none 0 0, .bool false]) ∧ w = w' := by
  have H := Lib.hid h
  have HL := Lib.hid hl
  have hkn := hl.lt
  have Q := Lib.hid (h.qs.que k hkn)
  clear h hl
  go_enter Try.func33, Try.ntmps33
  go_wp2_with fail
  refine (link_at x y _ H.out hn k HL.out).mono ?_; rintro e w' ⟨rfl, rfl⟩
  go_wp2_with fail
  refine (peek_no (q k) (g k) room (lost k) (ms k) i _ Q.out hi hno).mono ?_; rintro e w' ⟨rfl, rfl⟩
  go_wp2_with fail
  go_ret2
  exact ⟨by first | rfl | trivial, by first | rfl | trivial⟩
theorem nmove_no' (x y : Int) (i j : Int) (w : World) (h : Nt B w gn n ps q g room lost ms) (hn : n ≤ 4096) (k : Nat) (hl : Lnk n ps x y k) (hi : I64 i) (hj : I64 j) (hno : ¬ ((0 ≤ i ∧ i < (ms k).length) ∧ (0 ≤ j ∧ j < (ms k).length))) :
    Calls Try.prog 89 #[.pointer (some ⟨gn, 0, none⟩), .int .i64 x, .int .i64 y, .int .i64 i, .int .i64 j] w fun e w' => e = .returned (.bool false) ∧ w = w' := by
  have H := Lib.hid h
  have HL := Lib.hid hl
  have hkn := hl.lt
  have Q := Lib.hid (h.qs.que k hkn)
  clear h hl
  go_enter Try.func89, Try.ntmps89
  go_wp2_with fail
  refine (link_at x y _ H.out hn k HL.out).mono ?_; rintro e w' ⟨rfl, rfl⟩
  go_wp2_with fail
  refine (move_no (q k) (g k) room (lost k) (ms k) i j _ Q.out hi hj hno).mono ?_; rintro e w' ⟨rfl, rfl⟩
  go_wp2_with fail
  go_ret
  exact ⟨by first | rfl | trivial, by first | rfl | trivial⟩
theorem ndup_no' (x y : Int) (i : Int) (w : World) (h : Nt B w gn n ps q g room lost ms) (hn : n ≤ 4096) (k : Nat) (hl : Lnk n ps x y k) (hr : 1 ≤ room ∧ room ≤ 256) (hi : I64 i) (hno : ¬ (0 ≤ i ∧ i < (ms k).length) ∨ room ≤ (ms k).length) :
    Calls Try.prog 87 #[.pointer (some ⟨gn, 0, none⟩), .int .i64 x, .int .i64 y, .int .i64 i] w fun e w' => e = .returned (.bool false) ∧ ∃ j, w' = w.drewN j := by
  have H := Lib.hid h
  have HL := Lib.hid hl
  have hkn := hl.lt
  have Q := Lib.hid (h.qs.que k hkn)
  clear h hl
  go_enter Try.func87, Try.ntmps87
  go_wp2_with fail
  refine (link_at x y _ H.out hn k HL.out).mono ?_; rintro e w' ⟨rfl, rfl⟩
  go_wp2_with fail
  refine (dup_no (q k) (g k) room (lost k) (ms k) i _ Q.out hr hi hno).mono ?_; rintro e w' ⟨rfl, j, rfl⟩
  go_wp2_with fail
  go_ret
  exact ⟨by first | rfl | trivial, j, by first | rfl | trivial⟩
theorem ndup_ok' (x y : Int) (w : World) (h : Nt B w gn n ps q g room lost ms) (hn : n ≤ 4096) (k : Nat) (hl : Lnk n ps x y k) (hr : 1 ≤ room ∧ room ≤ 256) (i : Nat) (hi : i < (ms k).length) (hlt : (ms k).length < room) :
    Calls Try.prog 87 #[.pointer (some ⟨gn, 0, none⟩), .int .i64 x, .int .i64 y, .int .i64 i] w fun e w' => ∃ g', e = .returned (.bool true) ∧ Nt B w' gn n ps q (upq g k g') room (upq lost k (lost k)) (upq ms k (ms k ++ [(ms k)[i]])) ∧ Only [q k, g k] w w' ∧ (g' = g k ∨ w.heap.size ≤ g') := by
  have H := Lib.hid h
  have HL := Lib.hid hl
  have hkn := hl.lt
  have Q := Lib.hid (h.qs.que k hkn)
  clear h hl
  go_enter Try.func87, Try.ntmps87
  go_wp2_with fail
  refine (link_at x y _ H.out hn k HL.out).mono ?_; rintro e w' ⟨rfl, rfl⟩
  go_wp2_with fail
  refine (dup_ok (q k) (g k) room (lost k) (ms k) i _ Q.out hr hi hlt).mono ?_; rintro e w2 ⟨g', rfl, hq2, ho2, hg2⟩
  have N2 := Lib.hid (H.out.turn hkn hq2 ho2 hg2)
  have O2 := Lib.hid ho2
  have G2 := Lib.hid hg2
  clear hq2 ho2 hg2
  go_wp2_with fail
  go_ret
  exact ⟨g', by first | rfl | trivial, N2.out, O2.out, G2.out⟩
theorem nmove_ok' (x y : Int) (w : World) (h : Nt B w gn n ps q g room lost ms) (hn : n ≤ 4096) (k : Nat) (hl : Lnk n ps x y k) (i j : Nat) (hi : i < (ms k).length) (hj : j < (ms k).length) :
    Calls Try.prog 89 #[.pointer (some ⟨gn, 0, none⟩), .int .i64 x, .int .i64 y, .int .i64 i, .int .i64 j] w fun e w' => ∃ g', e = .returned (.bool true) ∧ Nt B w' gn n ps q (upq g k g') room (upq lost k (lost k)) (upq ms k (moved (ms k) i j (ms k)[i])) ∧ Only [q k, g k] w w' ∧ (g' = g k ∨ w.heap.size ≤ g') := by
  have H := Lib.hid h
  have HL := Lib.hid hl
  have hkn := hl.lt
  have Q := Lib.hid (h.qs.que k hkn)
  clear h hl
  go_enter Try.func89, Try.ntmps89
  go_wp2_with fail
  refine (link_at x y _ H.out hn k HL.out).mono ?_; rintro e w' ⟨rfl, rfl⟩
  go_wp2_with fail
  refine (move_ok (q k) (g k) room (lost k) (ms k) i j _ Q.out hi hj).mono ?_; rintro e w2 ⟨g', rfl, hq2, ho2, hg2⟩
  have N2 := Lib.hid (H.out.turn hkn hq2 ho2 hg2)
  have O2 := Lib.hid ho2
  have G2 := Lib.hid hg2
  clear hq2 ho2 hg2
  go_wp2_with fail
  go_ret
  exact ⟨g', by first | rfl | trivial, N2.out, O2.out, G2.out⟩
theorem ntake_ok' (x y : Int) (z : Int) (w : World) (h : Nt B w gn n ps q g room lost ms) (hn : n ≤ 4096) (k : Nat) (hl : Lnk n ps x y k) (i : Nat) (hi : i < (ms k).length) (hz : z = i) :
    Calls Try.prog 38 #[.pointer (some ⟨gn, 0, none⟩), .int .i64 x, .int .i64 y, .int .i64 z] w fun e w' => ∃ g' v, e = .returned (.tuple #[v, .bool true]) ∧ Txt w' w.heap.size v (ms k)[i].2 ∧ Nt B w' gn n ps q (upq g k g') room (upq lost k (lost k)) (upq ms k (outAt (ms k) i)) ∧ Only [q k, g k] w w' ∧ (g' = g k ∨ w.heap.size ≤ g') := by
  have H := Lib.hid h
  have HL := Lib.hid hl
  have hkn := hl.lt
  have Q := Lib.hid (h.qs.que k hkn)
  have HZ := Lib.hid hz
  clear h hl hz
  go_enter Try.func38, Try.ntmps38
  go_wp2_with fail
  refine (link_at x y _ H.out hn k HL.out).mono ?_; rintro e w' ⟨rfl, rfl⟩
  go_wp2_with fail
  refine (take_ok (q k) (g k) room (lost k) (ms k) i _ Q.out hi z HZ.out).mono ?_; rintro e w2 ⟨g', v, rfl, t2, hq2, ho2, hg2, -⟩
  have T2 := Lib.hid t2
  have N2 := Lib.hid (H.out.turn hkn hq2 ho2 hg2)
  have O2 := Lib.hid ho2
  have G2 := Lib.hid hg2
  clear t2 hq2 ho2 hg2
  go_wp2_with fail
  go_ret2
  exact ⟨g', v, by first | rfl | trivial, T2.out, N2.out, O2.out, G2.out⟩
theorem npeek_ok' (x y : Int) (z : Int) (w : World) (h : Nt B w gn n ps q g room lost ms) (hn : n ≤ 4096) (k : Nat) (hl : Lnk n ps x y k) (i : Nat) (hi : i < (ms k).length) (hz : z = i) :
    Calls Try.prog 33 #[.pointer (some ⟨gn, 0, none⟩), .int .i64 x, .int .i64 y, .int .i64 z] w fun e w' => ∃ v, e = .returned (.tuple #[v, .bool true]) ∧ Txt w' w.heap.size v (ms k)[i].2 ∧ Below w.heap.size w w' := by
  have H := Lib.hid h
  have HL := Lib.hid hl
  have hkn := hl.lt
  have Q := Lib.hid (h.qs.que k hkn)
  clear h hl
  subst hz
  go_enter Try.func33, Try.ntmps33
  go_wp2_with fail
  refine (link_at x y _ H.out hn k HL.out).mono ?_; rintro e w' ⟨rfl, rfl⟩
  go_wp2_with fail
  refine (peek_ok (q k) (g k) room (lost k) (ms k) i _ Q.out hi).mono ?_; rintro e w2 ⟨v, rfl, t2, b2⟩
  have T2 := Lib.hid t2
  have B2 := Lib.hid b2
  clear t2 b2
  go_wp2_with fail
  go_ret2
  exact ⟨v, by first | rfl | trivial, T2.out, B2.out⟩
theorem npush_none (x y : Int) (v : Option Addr) (m c : Nat) (w : World) (h : Nt B w gn n ps q g room lost ms) (hn : n ≤ 4096) (hl : NoLnk n ps x y) :
    Calls Try.prog 32 #[.pointer (some ⟨gn, 0, none⟩), .int .i64 x, .agg #[.int .i64 y, .slice v m c]] w fun e w' => e = .returned (.bool false) ∧ Below w.heap.size w w' := by
  have H := Lib.hid h
  have HL := Lib.hid hl
  clear h hl
  go_enter Try.func32, Try.ntmps32
  go_wp2_with fail
  refine (link_nil x y _ (H.out.below ((Below.refl _ _).alloc (Nat.le_refl _) _)) hn HL.out).mono ?_; rintro e w' ⟨rfl, rfl⟩
  go_wp2_with fail
  go_ret
  exact ⟨by first | rfl | trivial, (Below.refl _ _).alloc (Nat.le_refl _) _⟩
theorem npush_at (x y : Int) (v : Option Addr) (m c : Nat) (bs : List Int) (w : World) (h : Nt B w gn n ps q g room lost ms) (hn : n ≤ 4096) (hr : 1 ≤ room ∧ room ≤ 256) (k : Nat) (hl : Lnk n ps x y k) (hv : VRow w v m 1 (brow bs)) (hm : m ≤ 65536) (hlt : (ms k).length < room) :
    Calls Try.prog 32 #[.pointer (some ⟨gn, 0, none⟩), .int .i64 x, .agg #[.int .i64 y, .slice v m c]] w fun e w' => ∃ g' z, e = .returned (.bool true) ∧ Nt B w' gn n ps q (upq g k g') room (upq lost k (lost k)) (upq ms k (ms k ++ [(z, bs)])) ∧ Only [q k, g k] w w' ∧ (g' = g k ∨ w.heap.size ≤ g') := by
  obtain ⟨w1, hw1⟩ : ∃ w1, w1 = w.alloc (.cells #[.int .i64 y, .slice v m c] 68) := ⟨_, rfl⟩
  have b1 : Below w.heap.size w w1 := by rw [hw1]; exact (Below.refl _ _).alloc (Nat.le_refl _) _
  have hkn := hl.lt
  have H := Lib.hid (h.below b1)
  have HL := Lib.hid hl
  have HV := Lib.hid (hv.below b1)
  have HR := Lib.hid hr
  have Q := Lib.hid ((h.below b1).qs.que k hkn)
  have B1 := Lib.hid b1
  have s1 : w1.cell? ⟨w.heap.size, 1, none⟩ = some (.slice v m c) := by rw [hw1]; exact (Blk.new w _ _).cell 1
  have s0 : w1.cell? ⟨w.heap.size, 0, none⟩ = some (.int .i64 y) := by rw [hw1]; exact (Blk.new w _ _).cell 0
  have HW := Lib.hid hw1
  clear h hl hv hr hw1 b1
  go_enter Try.func32, Try.ntmps32
  go_upto_region 1 with fail
  rw [← HW.out]
  go_wp2_with fail
  refine (link_at x y _ H.out hn k HL.out).mono ?_; rintro e w' ⟨rfl, rfl⟩
  go_wp2_with fail
  refine (push_ok (q k) (g k) room (lost k) (ms k) v m c bs _ Q.out HR.out HV.out hm hlt).mono ?_; rintro e w2 ⟨g', z, rfl, hq2, ho2, hg2, _⟩
  have N2 := Lib.hid (H.out.turn hkn hq2 ho2 hg2)
  have O2 := Lib.hid ((Only.of_below (S := [q k, g k]) B1.out).trans ho2)
  have G2 : Hid (g' = g k ∨ w.heap.size ≤ g') := Lib.hid (hg2.imp id (Nat.le_trans B1.out.size))
  clear hq2 ho2 hg2
  go_wp2_with fail
  go_ret
  exact ⟨g', z, by first | rfl | trivial, N2.out, O2.out, G2.out⟩
theorem npush_no (x y : Int) (v : Option Addr) (m c : Nat) (w : World) (h : Nt B w gn n ps q g room lost ms) (hn : n ≤ 4096) (hr : 1 ≤ room ∧ room ≤ 256) (k : Nat) (hl : Lnk n ps x y k) (hlo : 0 ≤ lost k ∧ lost k ≤ 1048576) (hm : m ≤ 4611686018427387904) (hno : room ≤ (ms k).length ∨ 65536 < m) :
    Calls Try.prog 32 #[.pointer (some ⟨gn, 0, none⟩), .int .i64 x, .agg #[.int .i64 y, .slice v m c]] w fun e w' => e = .returned (.bool false) ∧ Nt B w' gn n ps q (upq g k (g k)) room (upq lost k (lost k + 1)) (upq ms k (ms k)) ∧ Only [q k, g k] w w' := by
  obtain ⟨w1, hw1⟩ : ∃ w1, w1 = w.alloc (.cells #[.int .i64 y, .slice v m c] 68) := ⟨_, rfl⟩
  have b1 : Below w.heap.size w w1 := by rw [hw1]; exact (Below.refl _ _).alloc (Nat.le_refl _) _
  have hkn := hl.lt
  have H := Lib.hid (h.below b1)
  have HL := Lib.hid hl
  have HR := Lib.hid hr
  have Q := Lib.hid ((h.below b1).qs.que k hkn)
  have B1 := Lib.hid b1
  have s1 : w1.cell? ⟨w.heap.size, 1, none⟩ = some (.slice v m c) := by rw [hw1]; exact (Blk.new w _ _).cell 1
  have s0 : w1.cell? ⟨w.heap.size, 0, none⟩ = some (.int .i64 y) := by rw [hw1]; exact (Blk.new w _ _).cell 0
  have HW := Lib.hid hw1
  clear h hl hr hw1 b1
  go_enter Try.func32, Try.ntmps32
  go_upto_region 1 with fail
  rw [← HW.out]
  go_wp2_with fail
  refine (link_at x y _ H.out hn k HL.out).mono ?_; rintro e w' ⟨rfl, rfl⟩
  go_wp2_with fail
  refine (push_no (q k) (g k) room (lost k) (ms k) v m c _ Q.out HR.out hlo hm hno).mono ?_; rintro e w2 ⟨rfl, hq2, ho2⟩
  have N2 := Lib.hid (H.out.turn hkn hq2 ho2 (.inl rfl))
  have O2 := Lib.hid ((Only.of_below (S := [q k, g k]) B1.out).trans ho2)
  clear hq2 ho2
  go_wp2_with fail
  go_ret
  exact ⟨by first | rfl | trivial, N2.out, O2.out⟩
end
end Go.Proofs.Ytfhlcjfgbhmecaa
