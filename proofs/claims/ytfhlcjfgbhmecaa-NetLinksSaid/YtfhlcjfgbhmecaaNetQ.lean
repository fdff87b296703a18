/- Package net: Peek; Lost where nothing was lost. -/
import Derived.Test.YtfhlcjfgbhmecaaNetP
namespace Go.Proofs.Ytfhlcjfgbhmecaa
open Go.RowKit
set_option linter.unusedVariables false
set_option maxRecDepth 100000

section
variable {B gn n : Nat} {ps : List Int} {q g : Nat → Nat} {room : Int} {lost : Nat → Int} {ms : Nat → List (Value × List Int)}
theorem npeek_self (x : Int) (i : Int) (w : World) (h : Nt B w gn n ps q g room lost ms) (hn : n ≤ 4096) (a : Nat) (hx : At n ps x a) :
    Calls Try.prog 33 #[.pointer (some ⟨gn, 0, none⟩), .int .i64 x, .int .i64 x, .int .i64 i] w fun e w' => e = .returned (.tuple #[.slice none 0 0, .bool false]) ∧ w = w' := by
  have H := Lib.hid h
  have HX := Lib.hid hx
  clear h hx
  go_enter Try.func33, Try.ntmps33
  go_wp2_with fail
  refine (link_self x _ H.out hn a HX.out).mono ?_; rintro e w' ⟨rfl, rfl⟩
  go_wp2_with fail
  go_ret2
  exact ⟨by first | rfl | trivial, by first | rfl | trivial⟩
theorem npeek_no (x y : Int) (i : Int) (w : World) (h : Nt B w gn n ps q g room lost ms) (hn : n ≤ 4096) (a b : Nat) (hab : a ≠ b) (hx : At n ps x a) (hy : At n ps y b) (k : Nat) (hk : a * n + b = k) (hkn : k < n * n) (hi : I64 i) (hno : ¬ (0 ≤ i ∧ i < (ms k).length)) :
    Calls Try.prog 33 #[.pointer (some ⟨gn, 0, none⟩), .int .i64 x, .int .i64 y, .int .i64 i] w fun e w' => e = .returned (.tuple #[.slice none 0 0, .bool false]) ∧ w = w' := by
  have H := Lib.hid h
  have HX := Lib.hid hx
  have HY := Lib.hid hy
  have HK := Lib.hid hk
  have HI := Lib.hid hi
  have HO := Lib.hid hno
  have Q := Lib.hid (h.qs.que k hkn)
  clear h hx hy hk hi hno
  go_enter Try.func33, Try.ntmps33
  go_wp2_with fail
  refine (link_ok x y _ H.out hn a b HX.out.1 HY.out.1 hab HX.out.2 HY.out.2 k HK.out).mono ?_; rintro e w' ⟨rfl, rfl⟩
  go_wp2_with fail
  refine (peek_no (q k) (g k) room (lost k) (ms k) i _ Q.out HI.out HO.out).mono ?_; rintro e w' ⟨rfl, rfl⟩
  go_wp2_with fail
  go_ret2
  exact ⟨by first | rfl | trivial, by first | rfl | trivial⟩
theorem npeek_ok (x y : Int) (i : Nat) (w : World) (h : Nt B w gn n ps q g room lost ms) (hn : n ≤ 4096) (a b : Nat) (hab : a ≠ b) (hx : At n ps x a) (hy : At n ps y b) (k : Nat) (hk : a * n + b = k) (hkn : k < n * n) (hi : i < (ms k).length) (z : Int) (hz : z = i) :
    Calls Try.prog 33 #[.pointer (some ⟨gn, 0, none⟩), .int .i64 x, .int .i64 y, .int .i64 z] w fun e w' => ∃ v, e = .returned (.tuple #[v, .bool true]) ∧ Txt w' w.heap.size v (ms k)[i].2 ∧ Below w.heap.size w w' := by
  subst hz
  have H := Lib.hid h
  have HX := Lib.hid hx
  have HY := Lib.hid hy
  have HK := Lib.hid hk
  have Q := Lib.hid (h.qs.que k hkn)
  have HI := Lib.hid hi
  clear h hx hy hk
  go_enter Try.func33, Try.ntmps33
  go_wp2_with fail
  refine (link_ok x y _ H.out hn a b HX.out.1 HY.out.1 hab HX.out.2 HY.out.2 k HK.out).mono ?_; rintro e w' ⟨rfl, rfl⟩
  go_wp2_with fail
  refine (peek_ok (q k) (g k) room (lost k) (ms k) i _ Q.out hi).mono ?_; rintro e w2 ⟨v, rfl, t2, b2⟩
  have T2 := Lib.hid t2
  have B2 := Lib.hid b2
  clear t2 b2
  go_wp2_with fail
  go_ret2
  exact ⟨v, by first | rfl | trivial, T2.out, B2.out⟩
end
end Go.Proofs.Ytfhlcjfgbhmecaa
