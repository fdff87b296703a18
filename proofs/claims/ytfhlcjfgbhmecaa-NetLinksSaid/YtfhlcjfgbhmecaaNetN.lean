/- Package net: link where there is none; Push, Len over a link. -/
import Derived.Test.YtfhlcjfgbhmecaaNetM
namespace Go.Proofs.Ytfhlcjfgbhmecaa
open Go.RowKit
set_option linter.unusedVariables false
set_option maxRecDepth 100000

/-- The place of a party. -/
def At (n : Nat) (ps : List Int) (x : Int) (a : Nat) : Prop := a < n ∧ ps[a]? = some x ∧ ∀ m, m < a → ps[m]? ≠ some x
section
variable {B gn n : Nat} {ps : List Int} {q g : Nat → Nat} {room : Int} {lost : Nat → Int} {ms : Nat → List (Value × List Int)}
theorem link_self (x : Int) (w : World) (h : Nt B w gn n ps q g room lost ms) (hn : n ≤ 4096) (a : Nat) (hx : At n ps x a) :
    Calls Try.prog 64 #[.pointer (some ⟨gn, 0, none⟩), .int .i64 x, .int .i64 x] w fun e w' => e = .returned (.pointer none) ∧ w = w' := by
  have H := Lib.hid h
  have HX := Lib.hid hx
  have i1 : a < n := hx.1
  have i6 : ¬ (a : Int) < 0 := by omega
  clear h hx
  go_enter Try.func64, Try.ntmps64
  go_wp2_with fail
  refine (place_c x _ H.out hn a (.inl ⟨a, rfl, HX.out.2⟩)).mono ?_; rintro e w' ⟨rfl, rfl⟩
  go_wp2_with fail
  refine (place_c x _ H.out hn a (.inl ⟨a, rfl, HX.out.2⟩)).mono ?_; rintro e w' ⟨rfl, rfl⟩
  go_wp2_with fail
  go_ret
  exact ⟨by first | rfl | trivial, by first | rfl | trivial⟩
theorem nlen_c (x y : Int) (w : World) (h : Nt B w gn n ps q g room lost ms) (hn : n ≤ 4096) (a b : Nat) (hab : a ≠ b) (hx : At n ps x a) (hy : At n ps y b) (k : Nat) (hk : a * n + b = k) (hkn : k < n * n) (l : Nat) (hl : (ms k).length = l) :
    Calls Try.prog 34 #[.pointer (some ⟨gn, 0, none⟩), .int .i64 x, .int .i64 y] w fun e w' => e = .returned (.int .i64 l) ∧ w = w' := by
  have H := Lib.hid h
  have HX := Lib.hid hx
  have HY := Lib.hid hy
  have HK := Lib.hid hk
  have HL := Lib.hid hl
  have Q := Lib.hid (h.qs.que k hkn)
  clear h hx hy hk hl
  go_enter Try.func34, Try.ntmps34
  go_wp2_with fail
  refine (link_ok x y _ H.out hn a b HX.out.1 HY.out.1 hab HX.out.2 HY.out.2 k HK.out).mono ?_; rintro e w' ⟨rfl, rfl⟩
  go_wp2_with fail
  refine (lq_len_c (q k) (g k) room (lost k) (ms k) _ Q.out l HL.out).mono ?_; rintro e w' ⟨rfl, rfl⟩
  go_wp2_with fail
  go_ret
  exact ⟨by first | rfl | trivial, by first | rfl | trivial⟩
end
end Go.Proofs.Ytfhlcjfgbhmecaa
