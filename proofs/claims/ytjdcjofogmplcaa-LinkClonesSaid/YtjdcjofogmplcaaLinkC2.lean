/- A queue beside bytes that turn; a plain one that loses. -/
import Derived.Test.YtjdcjofogmplcaaLinkC
namespace Go.Proofs.Ytjdcjofogmplcaa
open Go.RowKit
set_option linter.unusedVariables false
section
variable {w0 w w' : World} {q g p h g' h' : Nat} {room lost lost' : Int} {ms ms' ps ps' : List (Value × List Int)} {L : List (List Int)}
/-- Blocks of bytes that are none of its own have turned. -/
theorem Que.far8 {S : List Nat} (k : Que w q g room lost ms) (ho : Only S w w') (n1 : q ∉ S) (n2 : g ∉ S) (ht : ∀ m ∈ ms, ∀ b, m.1.ownBlock = some b → b ∉ S) : Que w' q g room lost ms := by
  obtain ⟨a, c, h1, h2, h3⟩ := k.ex
  refine ⟨⟨a, c, h1.only ho n1, h2.only ho ?_, h3⟩, fun m hm => ⟨?_, (k.tx m hm).2⟩, k.n⟩
  · rintro p rfl
    rcases h3 with ⟨h0, _⟩ | h0
    · cases h0
    · injection h0 with h0
      subst h0
      exact n2
  · obtain ⟨a', c', e, h4⟩ := (k.tx m hm).1
    exact ⟨a', c', e, own_only h4 ho fun b hb => ht m hm b (by rw [e]; exact hb)⟩
theorem Txt.lt {B : Nat} {v : Value} {bs : List Int} (h : Txt w B v bs) : ∀ b, v.ownBlock = some b → B ≤ b ∧ b < w.heap.size := by
  obtain ⟨a, c, rfl, h1⟩ := h
  exact fun b hb => World.ownsRow.lt h1 b hb
/-- The plain one has lost one. -/
theorem Pl.lose (k : Pl w0 w p h room lost ps) (x : Int) : Pl w0 (w.setCell ⟨p, 1, none⟩ (.int .i64 x)) p h room x ps := by
  obtain ⟨a, c, h1, h2, h3⟩ := k.ex
  refine ⟨⟨a, c, h1.set_ 1 _, own_only (S := [p]) h2 ((Only.refl _ _).setCell (.inl (by simp)) _) fun b hb => ?_, h3⟩, k.old⟩
  simp only [List.mem_cons, List.not_mem_nil, or_false]
  rintro rfl
  exact own_blk h2 h1 (by decide) hb.symm
end
end Go.Proofs.Ytjdcjofogmplcaa
