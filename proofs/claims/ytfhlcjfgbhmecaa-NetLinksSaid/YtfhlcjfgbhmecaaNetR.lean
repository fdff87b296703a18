/- Package net: Lost where nothing was lost. -/
import Derived.Test.YtfhlcjfgbhmecaaNetQ
namespace Go.Proofs.Ytfhlcjfgbhmecaa
open Go.RowKit
set_option linter.unusedVariables false
set_option maxRecDepth 100000

theorem at_lt {n a b : Nat} (ha : a < n) (hb : b < n) : a * n + b < n * n := by
  have h1 : (a + 1) * n ≤ n * n := Nat.mul_le_mul_right n ha
  have h2 : (a + 1) * n = a * n + n := Nat.succ_mul a n
  omega
theorem nlost_c {B gn n : Nat} {ps : List Int} {q g : Nat → Nat} {room : Int} {lost : Nat → Int} {ms : Nat → List (Value × List Int)} (w : World) (h : Nt B w gn n ps q g room lost ms) (hn : n ≤ 4096) (hl : ∀ k, k < n * n → lost k = 0) :
    Calls Try.prog 35 #[.pointer (some ⟨gn, 0, none⟩)] w fun e w' => e = .returned (.int .i64 0) ∧ w = w' := by
  obtain ⟨ap, cp, al, cl, ra, rc, h1, h2, h3, h4⟩ := h.ex
  have c1 : w.cell? ⟨gn, 1, none⟩ = some (.slice al n cl) := h1.cell 1
  have H3 := Lib.hid h3
  have H4 := Lib.hid h4
  have HL := Lib.hid hl
  have QS := Lib.hid h.qs
  clear h h1 h2 h3 h4 hl
  go_enter Try.func35, Try.ntmps35
  go_wp2_with fail
  go_loopw [3, 13] (fun s i wr => ∃ a : Nat, a ≤ n ∧ i = .int .i64 a ∧ s = .int .i64 0 ∧ wr = w) (fun _ i _ => n - (intOf i).toNat)
  case atStart => exact ⟨0, by omega, rfl, rfl, rfl⟩
  case round =>
    obtain ⟨a, ha, rfl, rfl, rfl⟩ := hrel
    by_cases hlt : a < n
    · obtain ⟨gl, hgl, r0⟩ := own_at H3.out hlt (v := .slice (ra a) n (rc a)) (by simp [hlt])
      subst hgl
      have R4 := Lib.hid (H4.out a hlt)
      obtain ⟨xa, hxa⟩ : ∃ z, z = ra a := ⟨_, rfl⟩
      obtain ⟨xc, hxc⟩ : ∃ z, z = rc a := ⟨_, rfl⟩
      rw [← hxa, ← hxc] at r0 R4
      have i0 : (0 : Int) ≤ a := by omega
      have i1 : (a : Int) < n := by omega
      clear hxa hxc
      go_wp2_with fail
      go_loopw [3, 19] (fun s i wx => ∃ b : Nat, b ≤ n ∧ i = .int .i64 b ∧ s = .int .i64 0 ∧ wx = wr) (fun _ i _ => n - (intOf i).toNat)
      case atStart => exact ⟨0, by omega, rfl, rfl, rfl⟩
      case round =>
        obtain ⟨b, hb, rfl, rfl, rfl⟩ := hrel
        by_cases hlt2 : b < n
        · obtain ⟨gr, hgr, r1⟩ := own_at R4.out hlt2 (v := .pointer (some ⟨q (a * n + b), 0, none⟩)) (by simp [hlt2])
          subst hgr
          have Q := Lib.hid (QS.out.que _ (at_lt hlt hlt2))
          have L0 := HL.out _ (at_lt hlt hlt2)
          rw [L0] at Q
          obtain ⟨k, hk⟩ : ∃ k, k = a * n + b := ⟨_, rfl⟩
          rw [← hk] at Q r1
          obtain ⟨qk, hqk⟩ : ∃ z, z = q k := ⟨_, rfl⟩
          rw [← hqk] at Q r1
          have i2 : (0 : Int) ≤ b := by omega
          have i3 : (b : Int) < n := by omega
          clear L0 hk hqk
          go_wp2_with fail
          refine (lq_lost_c qk (g k) room 0 (ms k) _ Q.out).mono ?_; rintro e w' ⟨rfl, rfl⟩
          go_wp2_with fail
          go_roundw
          case rel => exact ⟨b + 1, by omega, by go_num, by first | rfl | trivial, by first | rfl | trivial⟩
          case measure => simp [intOf]; omega
        · have i3 : ¬ (b : Int) < n := by omega
          go_wp2_with fail
          go_roundw
          case rel => exact ⟨a + 1, by omega, by go_num, by first | rfl | trivial, by first | rfl | trivial⟩
          case measure => simp [intOf]; omega
    · have i1 : ¬ (a : Int) < n := by omega
      go_wp2_with fail
      go_ret
      exact ⟨by first | rfl | trivial, by first | rfl | trivial⟩
end Go.Proofs.Ytfhlcjfgbhmecaa
