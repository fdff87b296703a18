/- Package net: link. -/
import Derived.Test.YtfhlcjfgbhmecaaNetL
namespace Go.Proofs.Ytfhlcjfgbhmecaa
open Go.RowKit
set_option linter.unusedVariables false
set_option maxRecDepth 100000

theorem own_at {w : World} {base n c : Nat} {e : TypeId} {a : Option Addr} {xs : List Value} (h : w.ownsRow base e 1 (.slice a n c) n xs) {k : Nat} (hk : k < n) {v : Value} (hv : xs[k]? = some v) : ∃ g, a = some ⟨g, 0, none⟩ ∧ w.cell? ⟨g, k, none⟩ = some v := by
  obtain ⟨g, rfl⟩ : ∃ g, a = some ⟨g, 0, none⟩ := by
    rcases h.2 with ⟨hv, h0⟩ | ⟨g, cp, cur, hv, _⟩
    · omega
    · injection hv with hv
      exact ⟨g, hv⟩
  exact ⟨g, rfl, (Row.of_own h).cell hv⟩
theorem link_ok {B gn n : Nat} {ps : List Int} {q g : Nat → Nat} {room : Int} {lost : Nat → Int} {ms : Nat → List (Value × List Int)} (x y : Int) (w : World) (h : Nt B w gn n ps q g room lost ms) (hn : n ≤ 4096) (a b : Nat) (ha : a < n) (hb : b < n) (hab : a ≠ b)
    (hx : ps[a]? = some x ∧ ∀ m, m < a → ps[m]? ≠ some x) (hy : ps[b]? = some y ∧ ∀ m, m < b → ps[m]? ≠ some y) (k : Nat) (hk : a * n + b = k) :
    Calls Try.prog 64 #[.pointer (some ⟨gn, 0, none⟩), .int .i64 x, .int .i64 y] w fun e w' => e = .returned (.pointer (some ⟨q k, 0, none⟩)) ∧ w = w' := by
  have H := Lib.hid h
  obtain ⟨ap, cp, al, cl, ra, rc, h1, h2, h3, h4⟩ := h.ex
  have c1 : w.cell? ⟨gn, 1, none⟩ = some (.slice al n cl) := h1.cell 1
  obtain ⟨gl, rfl, r0⟩ := own_at h3 ha (v := .slice (ra a) n (rc a)) (by simp [ha])
  obtain ⟨gr, hgr, r1⟩ := own_at (h4 a ha) hb (v := .pointer (some ⟨q k, 0, none⟩)) (by simp [hb, hk])
  rw [hgr] at r0
  obtain ⟨rca, hrc⟩ : ∃ z, z = rc a := ⟨_, rfl⟩
  rw [← hrc] at r0
  obtain ⟨qk, hqk⟩ : ∃ z, z = q k := ⟨_, rfl⟩
  rw [← hqk] at r1 ⊢
  have HX := Lib.hid hx
  have HY := Lib.hid hy
  have i0 : (0 : Int) ≤ a := by omega
  have i1 : (a : Int) < n := by omega
  have i2 : (0 : Int) ≤ b := by omega
  have i3 : (b : Int) < n := by omega
  have i4 : ¬ (a : Int) = b := by omega
  have i5 : ((a : Int) == b) = false := beq_eq_false_iff_ne.2 i4
  have i6 : ¬ (a : Int) < 0 := by omega
  have i7 : ¬ (b : Int) < 0 := by omega
  clear h h1 h2 h3 h4 hgr hrc hqk hx hy hk
  go_enter Try.func64, Try.ntmps64
  go_wp2_with fail
  refine (place_c x _ H.out hn a (.inl ⟨a, rfl, HX.out⟩)).mono ?_; rintro e w' ⟨rfl, rfl⟩
  go_wp2_with fail
  refine (place_c y _ H.out hn b (.inl ⟨b, rfl, HY.out⟩)).mono ?_; rintro e w' ⟨rfl, rfl⟩
  go_wp2_with fail
  go_ret
  exact ⟨by first | rfl | trivial, by first | rfl | trivial⟩
end Go.Proofs.Ytfhlcjfgbhmecaa
