/- Many queues beside one another: one turns, the others stand. -/
import Derived.Test.YtfhlcjfgbhmecaaLinkN
namespace Go.Proofs.Ytfhlcjfgbhmecaa
open Go.RowKit
set_option linter.unusedVariables false

def upq {α : Type} (f : Nat → α) (i : Nat) (x : α) : Nat → α := fun j => if j = i then x else f j
theorem upq_same {α : Type} (f : Nat → α) (i : Nat) (x : α) : upq f i x i = x := if_pos rfl
theorem upq_ne {α : Type} (f : Nat → α) {i j : Nat} (x : α) (h : j ≠ i) : upq f i x j = f j := if_neg h
/-- N queues: their blocks q, their lists' blocks g. -/
structure Qs (w : World) (N : Nat) (q g : Nat → Nat) (room : Int) (lost : Nat → Int) (ms : Nat → List (Value × List Int)) : Prop where
  que : ∀ k, k < N → Que w (q k) (g k) room (lost k) (ms k)
  apart : ∀ i j, i < N → j < N → i ≠ j → q i ≠ q j ∧ q i ≠ g j ∧ g i ≠ q j ∧ g i ≠ g j
section
variable {w w' : World} {N : Nat} {q g : Nat → Nat} {room : Int} {lost : Nat → Int} {ms : Nat → List (Value × List Int)}
theorem Qs.nil (w : World) (q g : Nat → Nat) (room : Int) (lost : Nat → Int) (ms : Nat → List (Value × List Int)) : Qs w 0 q g room lost ms := ⟨fun k hk => absurd hk (by omega), fun i j hi => absurd hi (by omega)⟩
theorem Qs.below (h : Qs w N q g room lost ms) (hb : Below w.heap.size w w') : Qs w' N q g room lost ms := ⟨fun k hk => (h.que k hk).below hb, h.apart⟩
/-- One queue more, made anew. -/
theorem Qs.add (h : Qs w N q g room lost ms) (hb : Below w.heap.size w w') {x : Nat} (hx : Que w' x x room 0 []) (hge : w.heap.size ≤ x) : Qs w' (N + 1) (upq q N x) (upq g N x) room (upq lost N 0) (upq ms N []) := by
  refine ⟨fun k hk => ?_, fun i j hi hj hne => ?_⟩
  · by_cases e : k = N
    · subst e; rw [upq_same, upq_same, upq_same, upq_same]; exact hx
    · rw [upq_ne _ _ e, upq_ne _ _ e, upq_ne _ _ e, upq_ne _ _ e]; exact (h.que k (by omega)).below hb
  · by_cases ei : i = N
    · subst ei
      have ej : j ≠ i := fun e => hne e.symm
      rw [upq_same, upq_same, upq_ne _ _ ej, upq_ne _ _ ej]
      have l1 := (h.que j (by omega)).lt
      have l2 := (h.que j (by omega)).glt
      exact ⟨by omega, by omega, by omega, by omega⟩
    · by_cases ej : j = N
      · subst ej
        rw [upq_same, upq_same, upq_ne _ _ ei, upq_ne _ _ ei]
        have l1 := (h.que i (by omega)).lt
        have l2 := (h.que i (by omega)).glt
        exact ⟨by omega, by omega, by omega, by omega⟩
      · rw [upq_ne _ _ ei, upq_ne _ _ ei, upq_ne _ _ ej, upq_ne _ _ ej]
        exact h.apart i j (by omega) (by omega) hne
/-- One queue turns. -/
theorem Qs.turn (h : Qs w N q g room lost ms) {k : Nat} (hk : k < N) {g' : Nat} {lost' : Int} {ms' : List (Value × List Int)} (hq : Que w' (q k) g' room lost' ms') (ho : Only [q k, g k] w w') (hg : g' = g k ∨ w.heap.size ≤ g') :
    Qs w' N q (upq g k g') room (upq lost k lost') (upq ms k ms') := by
  refine ⟨fun j hj => ?_, fun i j hi hj hne => ?_⟩
  · by_cases e : j = k
    · subst e; rw [upq_same, upq_same, upq_same]; exact hq
    · rw [upq_ne _ _ e, upq_ne _ _ e, upq_ne _ _ e]
      obtain ⟨a1, a2, a3, a4⟩ := h.apart j k hj hk e
      exact (h.que j hj).only ho (by simp [a1, a2]) (by simp [a3, a4]) (h.que k hk).no8
  · obtain ⟨a1, a2, a3, a4⟩ := h.apart i j hi hj hne
    have l1 := (h.que i hi).lt
    have l2 := (h.que i hi).glt
    have l3 := (h.que j hj).lt
    have l4 := (h.que j hj).glt
    by_cases ei : i = k
    · subst ei
      have ej : j ≠ i := fun e => hne e.symm
      rw [upq_same, upq_ne _ _ ej]
      rcases hg with rfl | hg
      · exact ⟨a1, a2, a3, a4⟩
      · exact ⟨a1, a2, by omega, by omega⟩
    · by_cases ej : j = k
      · subst ej
        rw [upq_same, upq_ne _ _ ei]
        rcases hg with rfl | hg
        · exact ⟨a1, a2, a3, a4⟩
        · exact ⟨a1, by omega, a3, by omega⟩
      · rw [upq_ne _ _ ei, upq_ne _ _ ej]
        exact ⟨a1, a2, a3, a4⟩
/-- What lies beside all queues stands when one turns. -/
theorem Qs.off {k : Nat} {x : Nat} {t : TypeId} {cs : Array Value} (hk : Blk w x t cs) (ho : Only [q k, g k] w w') (h1 : x ≠ q k) (h2 : x ≠ g k) : Blk w' x t cs := hk.only ho (by simp [h1, h2])
end
end Go.Proofs.Ytfhlcjfgbhmecaa
