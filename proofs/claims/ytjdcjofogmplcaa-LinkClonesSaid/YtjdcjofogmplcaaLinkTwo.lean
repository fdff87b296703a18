/- Two queues beside each other, each with its plain one. -/
import Derived.Test.YtjdcjofogmplcaaLinkA
namespace Go.Proofs.Ytjdcjofogmplcaa
open Go.RowKit
set_option linter.unusedVariables false

/-- None of the one's blocks is the other's. -/
def Dis (xs ys : List Nat) : Prop := ∀ x ∈ xs, ∀ y ∈ ys, x ≠ y
theorem Dis.symm {xs ys : List Nat} (h : Dis xs ys) : Dis ys xs := fun y hy x hx => (h x hx y hy).symm
theorem Dis.next {q g p h g' h' N : Nat} {ys : List Nat} (k : Dis [q, g, p, h] ys) (hy : ∀ y ∈ ys, y < N) (hg : g' = g ∨ N ≤ g') (hh : h' = h ∨ h' = p ∨ N ≤ h') : Dis [q, g', p, h'] ys := by
  intro x hx y hyy
  simp only [List.mem_cons, List.not_mem_nil, or_false] at hx
  have hlt := hy y hyy
  rcases hx with rfl | rfl | rfl | rfl
  · exact k _ (by simp) y hyy
  · rcases hg with rfl | e
    · exact k _ (by simp) y hyy
    · omega
  · exact k _ (by simp) y hyy
  · rcases hh with rfl | rfl | e
    · exact k _ (by simp) y hyy
    · exact k _ (by simp) y hyy
    · omega
section
variable {w0 w w' : World} {q g p h : Nat} {room lost : Int} {L : List (List Int)}
theorem Two.lts (k : Two w0 w q g p h room lost L) : ∀ y ∈ [q, g, p, h], y < w.heap.size := by
  obtain ⟨ms, h1, _⟩ := k.que
  obtain ⟨ps, h2, _⟩ := k.pl
  intro y hy
  simp only [List.mem_cons, List.not_mem_nil, or_false] at hy
  rcases hy with rfl | rfl | rfl | rfl
  · exact h1.lt
  · exact h1.glt
  · exact h2.lt
  · exact h2.hlt
theorem Two.no8 (k : Two w0 w q g p h room lost L) : ∀ y ∈ [q, g, p], ∀ cs, ¬ Blk w y 5 cs := by
  obtain ⟨ms, h1, _⟩ := k.que
  obtain ⟨ps, h2, _⟩ := k.pl
  obtain ⟨a, c, b1, _⟩ := h2.ex
  intro y hy cs hb
  simp only [List.mem_cons, List.not_mem_nil, or_false] at hy
  rcases hy with rfl | rfl | rfl
  · exact h1.no8 _ (by simp) cs hb
  · exact h1.no8 _ (by simp) cs hb
  · exact Blk.ne_ b1 hb (by decide) rfl
/-- The other one's act leaves this one as it is. -/
theorem Two.beside {q2 g2 p2 h2 : Nat} {room2 lost2 : Int} {L2 : List (List Int)} (k : Two w0 w q g p h room lost L) (k2 : Two w0 w q2 g2 p2 h2 room2 lost2 L2) (hd : Dis [q, g, p, h] [q2, g2, p2, h2]) (ho : Only [q, g, p] w w') : Two w0 w' q2 g2 p2 h2 room2 lost2 L2 := by
  have hn : ∀ y ∈ [q2, g2, p2, h2], y ∉ [q, g, p] := fun y hy hm => hd y (by
    simp only [List.mem_cons, List.not_mem_nil, or_false] at hm ⊢
    rcases hm with e | e | e <;> simp [e]) y hy rfl
  exact k2.only ho (hn _ (by simp)) (hn _ (by simp)) (hn _ (by simp)) (hn _ (by simp)) k.no8 (by simp; exact ⟨k.hq, k.hg, k.hp⟩)
end
end Go.Proofs.Ytjdcjofogmplcaa
