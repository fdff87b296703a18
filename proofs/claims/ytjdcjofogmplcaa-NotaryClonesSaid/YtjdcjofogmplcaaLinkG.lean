/- The law's plain queue beside the program's: their common state. -/
import Derived.Test.YtjdcjofogmplcaaLinkW
import Derived.Test.YtjdcjofogmplcaaApp
import Derived.Test.YtjdcjofogmplcaaBytes
namespace Go.Proofs.Ytjdcjofogmplcaa
open Go.RowKit
set_option linter.unusedVariables false

/-- A text of old memory. -/
def Old (w0 : World) (m : Value × List Int) : Prop := ∃ a c, m.1 = .slice a m.2.length c ∧ m.2.length ≤ c ∧ c ≤ maxLen ∧ VRow w0 a m.2.length 1 (brow m.2) ∧ m.2.length ≤ 50
theorem Old.one {w0 : World} {m : Value × List Int} (h : Old w0 m) : m.1.oneCell' = true := by
  obtain ⟨a, c, e, _⟩ := h
  rw [e]; rfl
/-- The plain queue at p, its row at h (p, where it has none). -/
structure Pl (w0 w : World) (p h : Nat) (room lost : Int) (ps : List (Value × List Int)) : Prop where
  ex : ∃ a c, Blk w p 79 #[.int .i64 room, .int .i64 lost, .slice a ps.length c] ∧ w.ownsRow w0.heap.size 33 1 (.slice a ps.length c) ps.length (ps.map Prod.fst) ∧ (a = none ∧ h = p ∨ a = some ⟨h, 0, none⟩)
  old : ∀ m ∈ ps, Old w0 m
section
variable {w0 w w' : World} {p h : Nat} {room lost : Int} {ps : List (Value × List Int)} {S : List Nat}
theorem Pl.lt (k : Pl w0 w p h room lost ps) : p < w.heap.size := by
  obtain ⟨a, c, h1, _⟩ := k.ex
  exact h1.lt
theorem Pl.only (k : Pl w0 w p h room lost ps) (ho : Only S w w') (hp : p ∉ S) (hh : h ∉ S) : Pl w0 w' p h room lost ps := by
  obtain ⟨a, c, h1, h2, h3⟩ := k.ex
  refine ⟨⟨a, c, h1.only ho hp, own_only h2 ho fun g hg => ?_, h3⟩, k.old⟩
  rw [own_block_eq] at hg
  rcases h3 with ⟨rfl, _⟩ | rfl
  · cases hg
  · simp only [Option.map_some, Option.some.injEq] at hg
    subst hg
    exact hh
theorem Pl.below (k : Pl w0 w p h room lost ps) (hb : Below w.heap.size w w') : Pl w0 w' p h room lost ps := k.only (Only.of_below (S := []) hb) (by simp) (by simp)
theorem Pl.drewN (k : Pl w0 w p h room lost ps) (j : Nat) : Pl w0 (w.drewN j) p h room lost ps := k.only (S := []) ((Only.refl _ _).drewN j) (by simp) (by simp)
theorem Pl.drew (k : Pl w0 w p h room lost ps) : Pl w0 w.drew p h room lost ps := k.only (S := []) ((Only.refl _ _).drew) (by simp) (by simp)
theorem Pl.hlt (k : Pl w0 w p h room lost ps) : h < w.heap.size := by
  obtain ⟨a, c, h1, h2, h3⟩ := k.ex
  rcases h3 with ⟨_, rfl⟩ | rfl
  · exact h1.lt
  · exact (World.ownsRow.lt h2 h rfl).2
theorem Pl.row (k : Pl w0 w p h room lost ps) : ∃ a c, w.cell? ⟨p, 0, none⟩ = some (.int .i64 room) ∧ w.cell? ⟨p, 1, none⟩ = some (.int .i64 lost) ∧ w.cell? ⟨p, 2, none⟩ = some (.slice a ps.length c) ∧ VRow w a ps.length 1 (ps.map Prod.fst) ∧ ps.length ≤ c ∧ c ≤ maxLen := by
  obtain ⟨a, c, h1, h2, h3⟩ := k.ex
  exact ⟨a, c, h1.cell 0, h1.cell 1, h1.cell 2, own_vrow h2, own_cap h2, (Loose.of_own h2).cap_max⟩
/-- A row laid anew. -/
theorem Pl.next {w1 w2 : World} {ps' : List (Value × List Int)} {a' : Option Addr} {c' n' : Nat} (k : Pl w0 w1 p h room lost ps) (hn : ps'.length = n') (ho : w2.ownsRow w1.heap.size 33 1 (.slice a' n' c') n' (ps'.map Prod.fst)) (hold : ∀ m ∈ ps', Old w0 m)
    (hb : Below w1.heap.size w1 w2) (h0 : w0.heap.size ≤ w1.heap.size) :
    ∃ h', Pl w0 (w2.setCell ⟨p, 2, none⟩ (.slice a' n' c')) p h' room lost ps' ∧ Only [p] w1 (w2.setCell ⟨p, 2, none⟩ (.slice a' n' c')) ∧ (h' = p ∨ w1.heap.size ≤ h') := by
  subst hn
  obtain ⟨a, c, h1, h2, h3⟩ := k.ex
  have hb' : Only [] w1 w2 := Only.of_below hb
  have b2 : Blk w2 p 79 _ := h1.only hb' (by simp)
  refine ⟨match a' with | none => p | some q => q.block, ?_, ((hb'.mono (by simp)).setCell (.inl (by simp)) _), ?_⟩
  · refine ⟨⟨a', c', b2.set_ 2 _, own_only (S := [p]) (own_base_le ho h0) ((Only.refl _ _).setCell (.inl (by simp)) _) fun g hg => ?_, ?_⟩, hold⟩
    · simp only [List.mem_cons, List.not_mem_nil, or_false]
      rintro rfl
      exact own_blk ho b2 (by decide) hg.symm
    · cases a' with
      | none => exact .inl ⟨rfl, rfl⟩
      | some q =>
        refine .inr ?_
        obtain ⟨cur, hq, _⟩ := (Loose.of_own ho).blk
        rw [← hq]
  · cases a' with
    | none => exact .inl rfl
    | some q => exact .inr (World.ownsRow.lt ho _ rfl).1
end

/-- A queue and the plain one: the same. -/
structure Two (w0 w : World) (q g p h : Nat) (room lost : Int) (L : List (List Int)) : Prop where
  que : ∃ ms, Que w q g room lost ms ∧ ms.map Prod.snd = L
  pl : ∃ ps, Pl w0 w p h room lost ps ∧ ps.map Prod.snd = L
  gh : g ≠ h
  b : Below w0.heap.size w0 w
  hq : w0.heap.size ≤ q
  hg : w0.heap.size ≤ g
  hp : w0.heap.size ≤ p
  hh : w0.heap.size ≤ h
section
variable {w0 w w' : World} {q g p h : Nat} {room lost : Int} {L : List (List Int)} {S : List Nat}
theorem Two.pq (k : Two w0 w q g p h room lost L) : p ≠ q := by
  obtain ⟨ms, h1, _⟩ := k.que
  obtain ⟨ps, h2, _⟩ := k.pl
  obtain ⟨a, c, b1, _⟩ := h1.ex
  obtain ⟨a', c', b2, _⟩ := h2.ex
  exact Blk.ne_ b2 b1 (by decide)
theorem Two.pg (k : Two w0 w q g p h room lost L) : p ≠ g := by
  obtain ⟨ms, h1, _⟩ := k.que
  obtain ⟨ps, h2, _⟩ := k.pl
  obtain ⟨a, c, b1, b3, b4⟩ := h1.ex
  obtain ⟨a', c', b2, _⟩ := h2.ex
  rcases b4 with ⟨_, rfl⟩ | rfl
  · exact Blk.ne_ b2 b1 (by decide)
  · obtain ⟨cur, _, b5, _⟩ := b3.blk
    exact Blk.ne_ b2 b5 (by decide)
theorem Two.hq' (k : Two w0 w q g p h room lost L) : h ≠ q := by
  obtain ⟨ms, h1, _⟩ := k.que
  obtain ⟨ps, h2, _⟩ := k.pl
  obtain ⟨a, c, b1, _⟩ := h1.ex
  obtain ⟨a', c', b2, b3, b4⟩ := h2.ex
  rcases b4 with ⟨_, rfl⟩ | rfl
  · exact Blk.ne_ b2 b1 (by decide)
  · obtain ⟨cur, _, b5, _⟩ := (Loose.of_own b3).blk
    exact Blk.ne_ b5 b1 (by decide)
theorem no8' {w : World} {p : Nat} {t : TypeId} {cs : Array Value} (h : Blk w p t cs) (hne : t ≠ 5) : ∀ cs', ¬ Blk w p 5 cs' := fun cs' hb => Blk.ne_ h hb hne rfl
end
end Go.Proofs.Ytjdcjofogmplcaa
