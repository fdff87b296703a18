/- A net as it lies: parties, rows of queues. -/
import Derived.Test.YtfhlcjfgbhmecaaNetS
import Derived.Test.YtfhlcjfgbhmecaaRow
namespace Go.Proofs.Ytfhlcjfgbhmecaa
open Go.RowKit
set_option linter.unusedVariables false

theorem Que.types {w : World} {q g : Nat} {room lost : Int} {ms : List (Value × List Int)} (h : Que w q g room lost ms) : ∀ k ∈ [q, g], ∀ cs t, Blk w k t cs → t = 161 ∨ t = 59 := by
  obtain ⟨a, c, h1, h2, h3⟩ := h.ex
  have same : ∀ {k : Nat} {t t' : TypeId} {cs cs' : Array Value}, Blk w k t cs → Blk w k t' cs' → t' = t := fun {k t t' cs cs'} x y => by
    unfold Blk at x y
    rw [x] at y
    injection y with y
    injection y with _ y
    exact y.symm
  intro k hk cs t hb
  simp only [List.mem_cons, List.not_mem_nil, or_false] at hk
  rcases hk with rfl | rfl
  · exact .inl (same h1 hb)
  · rcases h3 with ⟨_, rfl⟩ | rfl
    · exact .inl (same h1 hb)
    · obtain ⟨cur, _, h4, _⟩ := h2.blk
      exact .inr (same h4 hb)
/-- A row of another kind stands where only blocks of two kinds turn. -/
theorem own_kinds {base s n : Nat} {e t1 t2 : TypeId} {v : Value} {xs : List Value} {w w' : World} {S : List Nat} (h : w.ownsRow base e s v n xs) (ho : Only S w w') (hS : ∀ k ∈ S, ∀ cs t, Blk w k t cs → t = t1 ∨ t = t2) (h1 : e ≠ t1) (h2 : e ≠ t2) : w'.ownsRow base e s v n xs := by
  refine own_only h ho fun k hk hm => ?_
  rcases h.2 with ⟨hv, _⟩ | ⟨k', cp, cur, hv, _, hh, _⟩
  · rw [hv] at hk; simp [Value.ownBlock] at hk
  · rw [hv] at hk
    simp only [Value.ownBlock, Option.some.injEq] at hk
    subst hk
    rcases hS _ hm cur e hh with e1 | e1
    · exact h1 e1
    · exact h2 e1
/-- The net at gn, of n parties ps; queue a * n + b from party a to party b. -/
structure Nt (B : Nat) (w : World) (gn n : Nat) (ps : List Int) (q g : Nat → Nat) (room : Int) (lost : Nat → Int) (ms : Nat → List (Value × List Int)) : Prop where
  ex : ∃ (ap : Option Addr) (cp : Nat) (al : Option Addr) (cl : Nat) (ra : Nat → Option Addr) (rc : Nat → Nat),
    Blk w gn 116 #[.slice ap n cp, .slice al n cl] ∧ w.ownsRow B 3 1 (.slice ap n cp) n (ps.map fun (x : Int) => Value.int .i64 x) ∧
    w.ownsRow B 117 1 (.slice al n cl) n ((List.range n).map fun a => Value.slice (ra a) n (rc a)) ∧
    ∀ a, a < n → w.ownsRow B 118 1 (.slice (ra a) n (rc a)) n ((List.range n).map fun b => Value.pointer (some ⟨q (a * n + b), 0, none⟩))
  qs : Qs w (n * n) q g room lost ms
section
variable {B : Nat} {w w' : World} {gn n : Nat} {ps : List Int} {q g : Nat → Nat} {room : Int} {lost : Nat → Int} {ms : Nat → List (Value × List Int)}
theorem Nt.below (h : Nt B w gn n ps q g room lost ms) (hb : Below w.heap.size w w') : Nt B w' gn n ps q g room lost ms := by
  obtain ⟨ap, cp, al, cl, ra, rc, h1, h2, h3, h4⟩ := h.ex
  exact ⟨⟨ap, cp, al, cl, ra, rc, h1.below hb h1.lt, own_below h2 hb, own_below h3 hb, fun a ha => own_below (h4 a ha) hb⟩, h.qs.below hb⟩
theorem Nt.turn (h : Nt B w gn n ps q g room lost ms) {k : Nat} (hk : k < n * n) {g' : Nat} {lost' : Int} {ms' : List (Value × List Int)} (hq : Que w' (q k) g' room lost' ms') (ho : Only [q k, g k] w w') (hg : g' = g k ∨ w.heap.size ≤ g') :
    Nt B w' gn n ps q (upq g k g') room (upq lost k lost') (upq ms k ms') := by
  obtain ⟨ap, cp, al, cl, ra, rc, h1, h2, h3, h4⟩ := h.ex
  have T := (h.qs.que k hk).types
  refine ⟨⟨ap, cp, al, cl, ra, rc, h1.only ho fun hm => ?_, own_kinds h2 ho T (by decide) (by decide), own_kinds h3 ho T (by decide) (by decide), fun a ha => own_kinds (h4 a ha) ho T (by decide) (by decide)⟩, h.qs.turn hk hq ho hg⟩
  rcases T _ hm _ _ h1 with e | e
  · exact absurd e (by decide)
  · exact absurd e (by decide)
end
end Go.Proofs.Ytfhlcjfgbhmecaa
