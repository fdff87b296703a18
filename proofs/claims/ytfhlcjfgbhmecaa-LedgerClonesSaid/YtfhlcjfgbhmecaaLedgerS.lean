/- Same of entries; what lies between stays. -/
import Derived.Test.YtfhlcjfgbhmecaaLedgerF
namespace Go.Proofs.Ytfhlcjfgbhmecaa
open Go.RowKit
set_option linter.unusedVariables false

/-- The blocks from lo up to w's end are as they were at w. -/
structure Mid (lo : Nat) (w w' : World) : Prop where
  size : w.heap.size ≤ w'.heap.size
  blk : ∀ k, lo ≤ k → k < w.heap.size → w'.heap[k]? = w.heap[k]?
theorem Mid.refl (lo : Nat) (w : World) : Mid lo w w := ⟨Nat.le_refl _, fun _ _ _ => rfl⟩
theorem Mid.step {lo : Nat} {w wr wx : World} {S : List Nat} (h : Mid lo w wr) (ho : Only S wr wx) (hS : ∀ k ∈ S, k < lo ∨ w.heap.size ≤ k) : Mid lo w wx :=
  ⟨Nat.le_trans h.size ho.size, fun k h1 h2 => (ho.block k (Nat.lt_of_lt_of_le h2 h.size) (fun hm => by rcases hS k hm with h3 | h3 <;> omega)).trans (h.blk k h1 h2)⟩
theorem Mid.below {lo : Nat} {w wr wx : World} (h : Mid lo w wr) (hb : Below wr.heap.size wr wx) : Mid lo w wx := h.step (Only.of_below (S := []) hb) (by simp)
theorem VRow.mid {lo : Nat} {w wr : World} {a : Option Addr} {n s : Nat} {vs : List Value} (h : VRow w a n s vs) (m : Mid lo w wr) (ha : ∀ p, a = some p → lo ≤ p.block) : VRow wr a n s vs :=
  h.keep m.size fun b hb hlt => m.blk b (by
    cases a with
    | none => cases hb
    | some p => cases hb; exact ha p rfl) hlt
theorem own_ge {w : World} {base n s c : Nat} {e : TypeId} {a : Option Addr} {xs : List Value} (h : w.ownsRow base e s (.slice a n c) n xs) : ∀ p, a = some p → base ≤ p.block := by
  rintro p rfl
  exact (h.lt p.block (by simp [Value.ownBlock])).1
theorem Rows2.below {w w' : World} {a : Option Addr} {n k : Nat} {R : Nat → Inner} (h : Rows2 w a n k R) (hb : Below w.heap.size w w') : Rows2 w' a n k R := fun hn => by
  obtain ⟨b, off, e, hlt, hc⟩ := h hn
  exact ⟨b, off, e, Nat.lt_of_lt_of_le hlt hb.size, fun i hi => by
    obtain ⟨h1, h2, h3, h4⟩ := hc i hi
    exact ⟨(hb.cell (p := ⟨b, off + i, none⟩) hlt).trans h1, h2, h3, h4.below hb⟩⟩

set_option maxRecDepth 100000 in
set_option maxHeartbeats 1600000 in
theorem same_ent_c (a1 : Option Addr) (n1 c1 : Nat) (a2 : Option Addr) (n2 c2 : Nat) (E : List Ent) (w : World) (h1 : VRow w a1 n1 7 (E.flatMap ecell)) (h2 : VRow w a2 n2 7 (E.flatMap ecell)) (l1 : E.length = n1) (l2 : E.length = n2) (hn : n1 ≤ 4096) :
    Calls Try.prog 26 #[.slice a1 n1 c1, .slice a2 n2 c2] w fun e w' => e = .returned (.bool true) ∧ Below w.heap.size w w' := by
  have hnn : n1 = n2 := by omega
  subst hnn
  have H1 := Lib.hid h1
  have H2 := Lib.hid h2
  have LE := Lib.hid l1
  clear h1 h2 l1 l2
  go_enter Try.func26, Try.ntmps26
  go_wp2_with fail
  go_loopw [5] (fun i wr => ∃ k : Nat, k ≤ n1 ∧ i = .int .i64 k ∧ Below w.heap.size w wr) (fun i _ => n1 - (intOf i).toNat)
  case atStart => exact ⟨0, by omega, rfl, Below.refl _ _⟩
  case round =>
    obtain ⟨k, hk, rfl, hb⟩ := hrel
    have B := Lib.hid hb
    by_cases hlt : k < n1
    · obtain ⟨b1, o1, rfl, hb1, ⟨⟨x0, x1, x2, x3, x4, x5⟩, x6⟩, he1, p0, p1, p2, p3, p4, p5, p6⟩ := ent_cells (H1.out.below B.out) LE.out k hlt
      obtain ⟨b2, o2, rfl, hb2, e2, he2, q0, q1, q2, q3, q4, q5, q6⟩ := ent_cells (H2.out.below B.out) LE.out k hlt
      rw [he1] at he2
      cases he2
      simp only at p0 p1 p2 p3 p4 p5 p6 q0 q1 q2 q3 q4 q5 q6
      have i0 : (0 : Int) ≤ k := by omega
      have i1 : (k : Int) < n1 := by omega
      clear he1 hb1 hb2 hb
      go_wp2_with fail
      go_quiet (fail)
      go_wp2_with fail
      refine ⟨⟨k + 1, by omega, by go_num, below_drewN B.out nq⟩, by simp [intOf]; omega⟩
    · clear hb
      go_wp2_with fail
      go_ret
      exact ⟨rfl, B.out⟩
end Go.Proofs.Ytfhlcjfgbhmecaa
