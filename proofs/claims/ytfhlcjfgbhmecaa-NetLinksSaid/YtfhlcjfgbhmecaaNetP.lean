/- Package net: Push over a link. -/
import Derived.Test.YtfhlcjfgbhmecaaNetN
namespace Go.Proofs.Ytfhlcjfgbhmecaa
open Go.RowKit
set_option linter.unusedVariables false
set_option maxRecDepth 100000

section
variable {B gn n : Nat} {ps : List Int} {q g : Nat → Nat} {room : Int} {lost : Nat → Int} {ms : Nat → List (Value × List Int)}
theorem npush_self (x : Int) (v : Option Addr) (m c : Nat) (w : World) (h : Nt B w gn n ps q g room lost ms) (hn : n ≤ 4096) (a : Nat) (hx : At n ps x a) :
    Calls Try.prog 32 #[.pointer (some ⟨gn, 0, none⟩), .int .i64 x, .agg #[.int .i64 x, .slice v m c]] w fun e w' => e = .returned (.bool false) ∧ Below w.heap.size w w' := by
  have H := Lib.hid h
  have HX := Lib.hid hx
  clear h hx
  go_enter Try.func32, Try.ntmps32
  go_wp2_with fail
  refine (link_self x _ (H.out.below ((Below.refl _ _).alloc (Nat.le_refl _) _)) hn a HX.out).mono ?_; rintro e w' ⟨rfl, rfl⟩
  go_wp2_with fail
  go_ret
  exact ⟨by first | rfl | trivial, (Below.refl _ _).alloc (Nat.le_refl _) _⟩
theorem npush_ok (x y : Int) (v : Option Addr) (m c : Nat) (bs : List Int) (w : World) (h : Nt B w gn n ps q g room lost ms) (hn : n ≤ 4096) (hr : 1 ≤ room ∧ room ≤ 256) (a b : Nat) (hab : a ≠ b) (hx : At n ps x a) (hy : At n ps y b) (k : Nat) (hk : a * n + b = k) (hkn : k < n * n) (hv : VRow w v m 1 (brow bs)) (hm : m ≤ 65536) (hlt : (ms k).length < room) :
    Calls Try.prog 32 #[.pointer (some ⟨gn, 0, none⟩), .int .i64 x, .agg #[.int .i64 y, .slice v m c]] w fun e w' => ∃ g' z, e = .returned (.bool true) ∧ Nt B w' gn n ps q (upq g k g') room (upq lost k (lost k)) (upq ms k (ms k ++ [(z, bs)])) ∧ Only [q k, g k] w w' := by
  obtain ⟨w1, hw1⟩ : ∃ w1, w1 = w.alloc (.cells #[.int .i64 y, .slice v m c] 68) := ⟨_, rfl⟩
  have b1 : Below w.heap.size w w1 := by rw [hw1]; exact (Below.refl _ _).alloc (Nat.le_refl _) _
  have H := Lib.hid (h.below b1)
  have HX := Lib.hid hx
  have HY := Lib.hid hy
  have HK := Lib.hid hk
  have HV := Lib.hid (hv.below b1)
  have HR := Lib.hid hr
  have Q := Lib.hid ((h.below b1).qs.que k hkn)
  have B1 := Lib.hid b1
  have s1 : w1.cell? ⟨w.heap.size, 1, none⟩ = some (.slice v m c) := by rw [hw1]; exact (Blk.new w _ _).cell 1
  have s0 : w1.cell? ⟨w.heap.size, 0, none⟩ = some (.int .i64 y) := by rw [hw1]; exact (Blk.new w _ _).cell 0
  have HW := Lib.hid hw1
  clear h hx hy hk hv hr hw1 b1
  go_enter Try.func32, Try.ntmps32
  go_upto_region 1 with fail
  rw [← HW.out]
  go_wp2_with fail
  refine (link_ok x y _ H.out hn a b HX.out.1 HY.out.1 hab HX.out.2 HY.out.2 k HK.out).mono ?_; rintro e w' ⟨rfl, rfl⟩
  go_wp2_with fail
  refine (push_ok (q k) (g k) room (lost k) (ms k) v m c bs _ Q.out HR.out HV.out hm hlt).mono ?_; rintro e w2 ⟨g', z, rfl, hq2, ho2, hg2, _⟩
  have N2 := Lib.hid (H.out.turn hkn hq2 ho2 hg2)
  have O2 := Lib.hid ((Only.of_below (S := [q k, g k]) B1.out).trans ho2)
  clear hq2 ho2 hg2
  go_wp2_with fail
  go_ret
  exact ⟨g', z, by first | rfl | trivial, N2.out, O2.out⟩
end
end Go.Proofs.Ytfhlcjfgbhmecaa
