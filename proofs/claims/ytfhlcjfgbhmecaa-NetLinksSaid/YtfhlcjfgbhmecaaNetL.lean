/- Package net: place. -/
import Derived.Test.YtfhlcjfgbhmecaaNetT
import Derived.BigQuiet
import Derived.Deep.CutRange
import Derived.Deep.DeepCutAuto
import Derived.Deep.CutBlock
namespace Go.Proofs.Ytfhlcjfgbhmecaa
open Go.RowKit
set_option linter.unusedVariables false
set_option maxRecDepth 100000

theorem place_c {B gn n : Nat} {ps : List Int} {q g : Nat → Nat} {room : Int} {lost : Nat → Int} {ms : Nat → List (Value × List Int)} (x : Int) (w : World) (h : Nt B w gn n ps q g room lost ms) (hn : n ≤ 4096) (j : Int)
    (hj : (∃ i : Nat, j = i ∧ ps[i]? = some x ∧ ∀ m, m < i → ps[m]? ≠ some x) ∨ (j = -1 ∧ ∀ m, m < n → ps[m]? ≠ some x)) :
    Calls Try.prog 99 #[.pointer (some ⟨gn, 0, none⟩), .int .i64 x] w fun e w' => e = .returned (.int .i64 j) ∧ w = w' := by
  obtain ⟨ap, cp, al, cl, ra, rc, h1, h2, h3, h4⟩ := h.ex
  have len : ps.length = n := by have := h2.1; simpa using this
  have c0 : w.cell? ⟨gn, 0, none⟩ = some (.slice ap n cp) := h1.cell 0
  have H2 := Lib.hid h2
  have HJ := Lib.hid hj
  have LEN := Lib.hid len
  clear h h1 h2 h3 h4 hj len
  go_enter Try.func99, Try.ntmps99
  go_wp2_with fail
  go_loopw [12] (fun i wr => ∃ k : Nat, k ≤ n ∧ i = .int .i64 k ∧ wr = w ∧ ∀ m, m < k → ps[m]? ≠ some x) (fun i _ => n - (intOf i).toNat)
  case atStart => exact ⟨0, by omega, rfl, rfl, fun m hm => absurd hm (by omega)⟩
  case round =>
    obtain ⟨k, hk, rfl, rfl, hno⟩ := hrel
    have NO := Lib.hid hno
    clear hno
    by_cases hlt : k < n
    · obtain ⟨gp, rfl⟩ : ∃ gp, ap = some ⟨gp, 0, none⟩ := by
        rcases H2.out.2 with ⟨hv, h0⟩ | ⟨g, cp, cur, hv, _⟩
        · omega
        · injection hv with hv
          exact ⟨g, hv⟩
      have hkl : k < ps.length := by have := LEN.out; omega
      obtain ⟨y, hy⟩ : ∃ y, y = ps[k] := ⟨_, rfl⟩
      have x0 : wr.cell? ⟨gp, k, none⟩ = some (.int .i64 y) := (Row.of_own H2.out).cell (by rw [List.getElem?_map, List.getElem?_eq_getElem hkl, hy]; rfl)
      have YK := Lib.hid (show ps[k]? = some y by rw [List.getElem?_eq_getElem hkl, hy])
      have i0 : (0 : Int) ≤ k := by omega
      have i1 : (k : Int) < n := by omega
      clear hy hkl
      by_cases hyx : y = x
      · have e : j = k := by
          subst hyx
          rcases HJ.out with ⟨i, rfl, e1, e2⟩ | ⟨_, e2⟩
          · rcases Nat.lt_trichotomy i k with hik | rfl | hik
            · exact absurd e1 (NO.out i hik)
            · rfl
            · exact absurd YK.out (e2 k hik)
          · exact absurd YK.out (e2 k hlt)
        have E := Lib.hid e
        have hb : (y == x) = true := by rw [hyx]; exact beq_self_eq_true x
        clear e
        subst hyx
        go_wp2_with fail
        go_ret
        exact ⟨by rw [E.out]; rfl, (by first | rfl | trivial)⟩
      · have hb : (y == x) = false := beq_eq_false_iff_ne.2 hyx
        go_wp2_with fail
        go_roundw
        case rel => exact ⟨k + 1, by omega, by go_num, (by first | rfl | trivial), fun m hm => by
          by_cases e : m = k
          · subst e; rw [YK.out]; exact fun h => hyx (Option.some.inj h)
          · exact NO.out m (by omega)⟩
        case measure => simp [intOf]; omega
    · have hkn : k = n := by omega
      have e : j = -1 := by
        rcases HJ.out with ⟨i, _, e1, _⟩ | ⟨e1, _⟩
        · have := (List.getElem?_eq_some_iff.1 e1).1
          have := LEN.out
          exact absurd e1 (NO.out i (by omega))
        · exact e1
      have E := Lib.hid e
      have i1 : ¬ (k : Int) < n := by omega
      clear e hkn
      go_wp2_with fail
      go_ret
      exact ⟨by rw [E.out]; rfl, (by first | rfl | trivial)⟩
end Go.Proofs.Ytfhlcjfgbhmecaa
