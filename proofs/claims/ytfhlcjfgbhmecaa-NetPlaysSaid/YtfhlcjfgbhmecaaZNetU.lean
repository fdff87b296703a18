/- NetU. -/
import Derived.Test.YtfhlcjfgbhmecaaZNetR
/- Package net: a link of no party; Take over a link. -/
namespace Go.Proofs.Ytfhlcjfgbhmecaa
open Go.RowKit
set_option linter.unusedVariables false
set_option maxRecDepth 100000

section
variable {B gn n : Nat} {ps : List Int} {q g : Nat → Nat} {room : Int} {lost : Nat → Int} {ms : Nat → List (Value × List Int)}
/-- What place answers. -/
def Pl (n : Nat) (ps : List Int) (x j : Int) : Prop := (∃ i : Nat, j = i ∧ ps[i]? = some x ∧ ∀ m, m < i → ps[m]? ≠ some x) ∨ (j = -1 ∧ ∀ m, m < n → ps[m]? ≠ some x)
theorem link_none (x y : Int) (w : World) (h : Nt B w gn n ps q g room lost ms) (hn : n ≤ 4096) (i j : Int) (hx : Pl n ps x i) (hy : Pl n ps y j) (hno : i = -1 ∨ j = -1) :
    Calls Try.prog 64 #[.pointer (some ⟨gn, 0, none⟩), .int .i64 x, .int .i64 y] w fun e w' => e = .returned (.pointer none) ∧ w = w' := by
  have H := Lib.hid h
  have HX := Lib.hid hx
  have HY := Lib.hid hy
  have i1 : i < 0 ∨ (¬ i < 0 ∧ j < 0) := by
    rcases hno with e | e
    · exact .inl (by omega)
    · by_cases hi : i < 0
      · exact .inl hi
      · exact .inr ⟨hi, by omega⟩
  clear h hx hy hno
  rcases i1 with i1 | ⟨i1, i2⟩
  all_goals
    go_enter Try.func64, Try.ntmps64
    go_wp2_with fail
    refine (place_c x _ H.out hn i HX.out).mono ?_; rintro e w' ⟨rfl, rfl⟩
    go_wp2_with fail
    refine (place_c y _ H.out hn j HY.out).mono ?_; rintro e w' ⟨rfl, rfl⟩
    go_wp2_with fail
    go_ret
    exact ⟨by first | rfl | trivial, by first | rfl | trivial⟩
end
end Go.Proofs.Ytfhlcjfgbhmecaa
