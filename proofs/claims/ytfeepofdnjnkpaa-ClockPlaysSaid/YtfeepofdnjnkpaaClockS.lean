/- Package clock: Set. -/
import Derived.Test.YtfeepofdnjnkpaaClockD
import Derived.Laws.IdiomCopy
namespace Go.Proofs.Ytfeepofdnjnkpaa
open Go.RowKit
set_option linter.unusedVariables false

theorem place_get {L : List (Int × Int)} {id : Int} {k : Nat} (h : Place L id k true) : k < L.length := by
  rcases Nat.lt_or_ge k L.length with h1 | h1
  · exact h1
  · exact absurd (h.no (by omega)) (by decide)

theorem Ticked.row {B : Nat} {w : World} {base g i : Nat} {e : TypeId} {s n c : Nat} {xs : List Value} (h : w.ownsRow base e s (.slice (some ⟨g, 0, none⟩) n c) n xs) (he : e = 81) (hB : B ≤ g) (u : Value) : Ticked B w (w.setCell ⟨g, i, none⟩ u) := by
  obtain ⟨cur, hb, _⟩ := (Row.of_own h).parts
  exact Ticked.set hb (.inr he) hB u

/-- A timer that is there is set anew. -/
theorem set_has (B gc : Nat) (now : Int) (L : List (Int × Int)) (id t : Int) (w : World) (h : Clk w B gc now L) (hL : ∀ p ∈ L, I64 p.1 ∧ I64 p.2) (hn : L.length ≤ 1000) (hi : I64 id) (ht : 1 ≤ t ∧ t ≤ 1048576) (hnow : 0 ≤ now ∧ now ≤ 1048576) (k : Nat) (hp : Place L id k true) :
    Calls Try.prog 31 #[.pointer (some ⟨gc, 0, none⟩), .int .i64 id, .int .i64 t] w fun e w' => e = .returned (.bool true) ∧ Clk w' B gc now (L.set k (id, now + t)) ∧ Ticked B w w' := by
  have H := Lib.hid h
  have HP := Lib.hid hp
  have hkl := place_get hp
  have hBw : B ≤ w.heap.size := Nat.le_trans h.ge (Nat.le_of_lt h.lt)
  clear h hp
  go_enter Try.func31, Try.ntmps31
  go_wp2_with fail
  refine (place_c B gc now L id _ H.out hL hn hi k true HP.out).mono ?_; rintro e w1 ⟨rfl, hb1⟩
  have H1 := H.out.below hb1
  have HB := Lib.hid hb1
  have HG := Lib.hid H1.ge
  obtain ⟨a, c, k1, k2, k3⟩ := H1.ex
  obtain ⟨b, rfl⟩ : ∃ b, a = some ⟨b, 0, none⟩ := by
    rcases k2.2 with ⟨_, h0⟩ | ⟨g, cap, cur, hv, _⟩
    · omega
    · injection hv with hv
      exact ⟨g, hv⟩
  have c0 : w1.cell? ⟨gc, 0, none⟩ = some (.int .i64 now) := k1.cell 0
  have c1 : w1.cell? ⟨gc, 1, none⟩ = some (.slice (some ⟨b, 0, none⟩) L.length c) := k1.cell 1
  have i0 : (0 : Int) ≤ k := by omega
  have i1 : (k : Int) < L.length := by omega
  have fr := (Row.of_own k2).frozen
  have q0 : w1.cell? ⟨b, k * 2, none⟩ = some (.int .i64 L[k].1) := (Row.of_own k2).cell (flat_get' tcell 2 tcell_len L k 0 (by omega) hkl _ rfl)
  have q1 : w1.cell? ⟨b, k * 2 + 1, none⟩ = some (.int .i64 L[k].2) := (Row.of_own k2).cell (flat_get' tcell 2 tcell_len L k 1 (by omega) hkl _ rfl)
  obtain ⟨x0, hx0⟩ : ∃ x, x = L[k].1 := ⟨_, rfl⟩
  obtain ⟨x1, hx1⟩ : ∃ x, x = L[k].2 := ⟨_, rfl⟩
  rw [← hx0] at q0
  rw [← hx1] at q1
  clear hx0 hx1
  have f0 := fr (k * 2)
  have f1 := fr (k * 2 + 1)
  have K1 := Lib.hid k1
  have K2 := Lib.hid k2
  have hbB : B ≤ b := (k2.lt b rfl).1
  have hs : IntKind.i64.wrap (now + t) = now + t := IntWalk.i64_in _ (by omega)
  clear k1 k2 H1 fr hb1
  go_wp2_with fail
  go_still_tail 14, (by kernel_rfl)
  change wpList _ _ _ _ _ w1.drew
  go_wp2_with fail
  go_ret
  have r1 : Row w1.drew b 81 2 L.length c (L.flatMap tcell) := (Row.of_own K2.out).drew
  have r3 := (r1.set_ (k * 2) (.int .i64 id)).set_ (k * 2 + 1) (.int .i64 (now + t))
  rw [flat_set2 tcell tcell_len (id, now + t) _ _ rfl L k hkl] at r3
  have kb := K1.out.drew
  have nbg : gc ≠ b := fun e => own_blk_ne K2.out K1.out (by decide) (by rw [e]; rfl)
  have t1 := Ticked.row (i := k * 2) r1 rfl hbB (.int .i64 id)
  have t2 := Ticked.row (i := k * 2 + 1) (r1.set_ (k * 2) (.int .i64 id)) rfl hbB (.int .i64 (now + t))
  have t0 : Ticked B w w1.drew := Ticked.of_below hBw HB.out.drew
  exact ⟨rfl, ⟨⟨some ⟨b, 0, none⟩, c, by rw [List.length_set]; exact (kb.far nbg _).far nbg _, by rw [List.length_set]; exact r3.own hbB, by rw [List.length_set]; exact k3⟩, HG.out⟩, t0.trans (t1.trans t2)⟩
end Go.Proofs.Ytfeepofdnjnkpaa
