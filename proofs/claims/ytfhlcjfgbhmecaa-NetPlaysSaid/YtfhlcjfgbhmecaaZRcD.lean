/- RcD. -/
import Derived.Test.YtfhlcjfgbhmecaaZRcC
/- psephosref21.Cluster.push where there is no room; Inject. -/
namespace Go.Proofs.Ytfhlcjfgbhmecaa
open Go.RowKit
set_option linter.unusedVariables false
set_option maxRecDepth 100000

section
variable {w0 w w' : World} {B x : Nat} {room lost : Int} {M : Nat → List (Value × List Int)} {gf cf nb : Nat} {an : Option Addr} {cn : Nat} {ac : Option Addr} {cc ge ce gq cq : Nat} {ra : Nat → Option Addr} {rc : Nat → Nat} {pn pc : Nat → Nat} {nk : Prop}
set_option maxHeartbeats 3200000 in
theorem rpush_full (s d : Int) (v : Option Addr) (m c : Nat) (h : RX w0 w B x room lost M gf cf nb an cn ac cc ge ce gq cq ra rc pn pc nk) (k : Nat) (hk : k < 30) (hr : EIdx s d k) (hfull : room ≤ (M k).length) (hlo : 0 ≤ lost ∧ lost ≤ 1048576) :
    Calls Try.prog 105 #[.pointer (some ⟨x, 0, none⟩), .int .i64 s, .agg #[.int .i64 d, .slice v m c]] w fun e w' => e = .returned (.bool false) ∧ RX w0 w' B x room (lost + 1) M gf cf nb an cn ac cc ge ce gq cq ra rc pn pc nk ∧ Only [x] w w' := by
  obtain ⟨w1, hw1⟩ : ∃ w1, w1 = w.alloc (.cells #[.int .i64 d, .slice v m c] 68) := ⟨_, rfl⟩
  obtain ⟨gs, hgs⟩ : ∃ g, g = w.heap.size := ⟨_, rfl⟩
  have b1 : Below w.heap.size w w1 := by rw [hw1]; exact (Below.refl _ _).alloc (Nat.le_refl _) _
  have s0 : w1.cell? ⟨gs, 0, none⟩ = some (.int .i64 d) := by rw [hw1, hgs]; exact (Blk.new w _ _).cell 0
  have H := Lib.hid (h.keep b1)
  have HR := Lib.hid hr
  have HB := Lib.hid b1
  have HW := Lib.hid hw1
  have HG := Lib.hid hgs
  obtain ⟨L, hL⟩ : ∃ L, L = (M k).length := ⟨_, rfl⟩
  rw [← hL] at hfull
  obtain ⟨ak, hak⟩ : ∃ a, a = ra k := ⟨_, rfl⟩
  obtain ⟨ck, hck⟩ : ∃ a, a = rc k := ⟨_, rfl⟩
  have KS : ∀ w', Below w1.heap.size w1 w' → w'.cell? ⟨x, 20, none⟩ = some (.slice (some ⟨gq, 0, none⟩) 30 cq) ∧ w'.cell? ⟨gq, k, none⟩ = some (.slice ak L ck) ∧ w'.cell? ⟨x, 4, none⟩ = some (.int .i64 room) := fun w' o => ⟨(H.out.keep o).blk.cell 20, by rw [hak, hck, hL]; exact (H.out.keep o).queue_at hk, (H.out.keep o).blk.cell 4⟩
  clear h hr b1 hw1 hgs hL hak hck
  have i0 : ¬ (k : Int) < 0 := by omega
  have i1 : (k : Int) < 30 := by omega
  have i2 : (0 : Int) ≤ k := by omega
  go_enter Try.func105, Try.ntmps105
  go_upto_region 1 with fail
  rw [← HW.out, ← HG.out]
  go_wp2_with fail
  refine (rlink_c s d k H.out HR.out).mono ?_; rintro e w' ⟨rfl, rfl⟩
  have e0 : decide (room ≤ (L : Int)) = true := decide_eq_true hfull
  have e1 : decide ((L : Int) ≥ room) = true := decide_eq_true hfull
  go_upto_region 4 with fail
  obtain ⟨q20, qk, q4⟩ := KS w1 (Below.refl _ _)
  go_quiet (fail)
  clear q20 qk q4 s0 e0 e1
  obtain ⟨w2, hw2⟩ : ∃ w2, w2 = w1.drewN nq := ⟨_, rfl⟩
  have b2 : Below w1.heap.size w1 w2 := by rw [hw2]; exact below_drewN (Below.refl _ _) _
  rw [← hw2]
  clear hw2
  have H2 := H.out.keep b2
  obtain ⟨hrx, hon⟩ := H2.lose (lost + 1)
  have R9 := Lib.hid hrx
  have O9 := Lib.hid ((Only.of_below (S := [x]) HB.out).trans ((Only.of_below b2).trans hon))
  have l21 : w2.cell? ⟨x, 21, none⟩ = some (.int .i64 lost) := H2.blk.cell 21
  have f21 := H2.blk.frozen 21
  have el : IntKind.i64.wrap (lost + 1) = lost + 1 := IntWalk.i64_in _ (by omega)
  clear H2 hrx hon b2 KS
  go_wp2_with fail
  go_ret
  exact ⟨by first | rfl | trivial, R9.out, O9.out⟩
theorem pints_at {xs : List Int} {k : Nat} {y : Int} (h : xs[k]? = some y) : (pints xs)[k]? = some (.int .i64 y) := by simp [pints, h]
theorem rin_c (g : Nat) (cf : Nat) (s : Int) (i : Nat) (hV : VRow w (some ⟨g, 0, none⟩) 8 1 (pints eight)) (hi : eight[i]? = some s) (hno : ∀ j, j < i → eight[j]? ≠ some s) :
    Calls Try.prog 77 #[.slice (some ⟨g, 0, none⟩) 8 cf, .int .i64 s] w fun e w' => e = .returned (.bool true) ∧ w = w' := by
  have hi8 : i < 8 := (List.getElem?_eq_some_iff.1 hi).1
  have V := Lib.hid hV
  have HI := Lib.hid hi
  have HN := Lib.hid hno
  clear hV hi hno
  go_enter Try.func77, Try.ntmps77
  go_wp2_with fail
  go_loopw [8] (fun v wr => ∃ k : Nat, k ≤ i ∧ v = .int .i64 k ∧ wr = w) (fun v _ => 8 - (intOf v).toNat)
  case atStart => exact ⟨0, by omega, rfl, rfl⟩
  case round =>
    obtain ⟨k, hk, rfl, rfl⟩ := hrel
    obtain ⟨y, hy⟩ : ∃ y, eight[k]? = some y := ⟨_, List.getElem?_eq_getElem (by show k < 8; omega)⟩
    obtain ⟨b, off, hbo, _, hc⟩ := V.out.2 (by omega)
    injection hbo with hbo
    injection hbo with h1 h2
    subst h1
    subst h2
    have c0 : wr.cell? ⟨g, k, none⟩ = some (.int .i64 y) := by have := hc k _ (pints_at hy); rw [Nat.zero_add] at this; exact this
    have i0 : (0 : Int) ≤ k := by omega
    have i1 : (k : Int) < 8 := by omega
    by_cases hki : k = i
    · have e : y = s := by
        rw [hki, HI.out] at hy
        exact (Option.some.inj hy).symm
      subst e
      clear hc hki hy
      go_wp2_with fail
      go_ret
      exact ⟨by first | rfl | trivial, by first | rfl | trivial⟩
    · have e : (y == s) = false := beq_eq_false_iff_ne.2 fun e => HN.out k (by omega) (by rw [hy, e])
      have e2 : ¬ y = s := by simpa using e
      clear hc hy
      go_wp2_with fail
      go_roundw
      case rel => exact ⟨k + 1, by omega, by go_num, by first | rfl | trivial⟩
      case measure => simp [intOf]; omega
/-- A party of those that may send. -/
def Sends (s : Int) : Prop := ∃ i : Nat, eight[i]? = some s ∧ ∀ j, j < i → eight[j]? ≠ some s
theorem rin_x (s : Int) (hs : Sends s) (h : RX w0 w B x room lost M gf cf nb an cn ac cc ge ce gq cq ra rc pn pc nk) :
    Calls Try.prog 77 #[.slice (some ⟨gf, 0, none⟩) 8 cf, .int .i64 s] w fun e w' => e = .returned (.bool true) ∧ w = w' := by
  obtain ⟨i, h1, h2⟩ := hs
  exact rin_c gf cf s i h.frow h1 h2
theorem rinject_none (s d : Int) (v : Option Addr) (m c : Nat) (hs : Sends s) (h : RX w0 w B x room lost M gf cf nb an cn ac cc ge ce gq cq ra rc pn pc nk) (hr : EIdx s d (-1)) :
    Calls Try.prog 84 #[.pointer (some ⟨x, 0, none⟩), .int .i64 s, .int .i64 d, .slice v m c] w fun e w' => e = .returned (.int .i64 4) ∧ w = w' := by
  have H := Lib.hid h
  have HR := Lib.hid hr
  have HS := Lib.hid hs
  have c15 : w.cell? ⟨x, 15, none⟩ = some (.slice (some ⟨gf, 0, none⟩) 8 cf) := h.blk.cell 15
  clear h hr hs
  go_enter Try.func84, Try.ntmps84
  go_wp2_with fail
  refine (rin_x s HS.out H.out).mono ?_; rintro e w' ⟨rfl, rfl⟩
  go_wp2_with fail
  refine (rlink_c s d (-1) H.out HR.out).mono ?_; rintro e w' ⟨rfl, rfl⟩
  go_wp2_with fail
  go_ret
  exact ⟨by first | rfl | trivial, by first | rfl | trivial⟩
theorem rinject_full (s d : Int) (v : Option Addr) (m c : Nat) (hs : Sends s) (h : RX w0 w B x room lost M gf cf nb an cn ac cc ge ce gq cq ra rc pn pc nk) (k : Nat) (hk : k < 30) (hr : EIdx s d k) (hfull : room ≤ (M k).length) (hlo : 0 ≤ lost ∧ lost ≤ 1048576) :
    Calls Try.prog 84 #[.pointer (some ⟨x, 0, none⟩), .int .i64 s, .int .i64 d, .slice v m c] w fun e w' => e = .returned (.int .i64 3) ∧ RX w0 w' B x room (lost + 1) M gf cf nb an cn ac cc ge ce gq cq ra rc pn pc nk ∧ Only [x] w w' := by
  have H := Lib.hid h
  have HR := Lib.hid hr
  have HS := Lib.hid hs
  have HF := Lib.hid hfull
  have c15 : w.cell? ⟨x, 15, none⟩ = some (.slice (some ⟨gf, 0, none⟩) 8 cf) := h.blk.cell 15
  have i0 : ¬ (k : Int) < 0 := by omega
  clear h hr hs hfull
  go_enter Try.func84, Try.ntmps84
  go_wp2_with fail
  refine (rin_x s HS.out H.out).mono ?_; rintro e w' ⟨rfl, rfl⟩
  go_wp2_with fail
  refine (rlink_c s d k H.out HR.out).mono ?_; rintro e w' ⟨rfl, rfl⟩
  go_wp2_with fail
  refine (rpush_full s d v m c H.out k hk HR.out HF.out hlo).mono ?_; rintro e w' ⟨rfl, hx, ho⟩
  have HX := Lib.hid hx
  have HO := Lib.hid ho
  clear hx ho c15
  go_wp2_with fail
  go_ret
  exact ⟨by first | rfl | trivial, HX.out, HO.out⟩
theorem rinject_ok (s d : Int) (v : Option Addr) (m c : Nat) (bs : List Int) (hs : Sends s) (h : RX w0 w B x room lost M gf cf nb an cn ac cc ge ce gq cq ra rc pn pc nk) (k : Nat) (hk : k < 30) (hr : EIdx s d k) (hm : bs.length = m) (hm2 : m ≤ 65536) (hv : Msg w0 (.slice v m c, bs)) (hlt : (M k).length < room) (hrm : room ≤ 256) :
    Calls Try.prog 84 #[.pointer (some ⟨x, 0, none⟩), .int .i64 s, .int .i64 d, .slice v m c] w fun e w' => ∃ a' c', e = .returned (.int .i64 0) ∧ RX w0 w' B x room lost (upq M k (M k ++ [(.slice v m c, bs)])) gf cf nb an cn ac cc ge ce gq cq (upq ra k a') (upq rc k c') pn pc nk ∧ Only [gq] w w' ∧ ∀ p, a'.map (·.block) = some p → w.heap.size ≤ p := by
  have H := Lib.hid h
  have HR := Lib.hid hr
  have HS := Lib.hid hs
  have HF := Lib.hid hlt
  have HV := Lib.hid hv
  have HM := Lib.hid hm
  have HM2 := Lib.hid hm2
  have HRM := Lib.hid hrm
  have c15 : w.cell? ⟨x, 15, none⟩ = some (.slice (some ⟨gf, 0, none⟩) 8 cf) := h.blk.cell 15
  have i0 : ¬ (k : Int) < 0 := by omega
  clear h hr hs hlt hv hm hm2 hrm
  go_enter Try.func84, Try.ntmps84
  go_wp2_with fail
  refine (rin_x s HS.out H.out).mono ?_; rintro e w' ⟨rfl, rfl⟩
  go_wp2_with fail
  refine (rlink_c s d k H.out HR.out).mono ?_; rintro e w' ⟨rfl, rfl⟩
  go_wp2_with fail
  refine (rpush_at s d v m c bs H.out k hk HR.out HM.out HM2.out HV.out HF.out HRM.out).mono ?_; rintro e w' ⟨a', c', rfl, hx, ho, hnw⟩
  have HX := Lib.hid hx
  have HO := Lib.hid ho
  have NW := Lib.hid hnw
  clear hx ho hnw c15
  go_wp2_with fail
  go_ret
  exact ⟨a', c', by first | rfl | trivial, HX.out, HO.out, NW.out⟩
end
end Go.Proofs.Ytfhlcjfgbhmecaa
