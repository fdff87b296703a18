/- append of nothing to a row of one's own, as a step of a plain walk. Over any program. -/
import Derived.Test.YtfhlcjfgbhmecaaOwn
import Derived.Deep.AppendLies
namespace Go.Proofs.Ytfhlcjfgbhmecaa
open Go.RowKit
set_option linter.unusedVariables false
set_option linter.unusedSimpArgs false

theorem run_append_none {P : Program} (w : World) (t ty e : TypeId) (i : TypeInfo) (ht : P.underlying t = some (.slice e)) (hi : P.info? e = some i) (a A : Option Addr) (n cap c : Nat) (ha : a = none ∧ n = 0 ∧ cap = 0 ∨ ∃ g, a = some ⟨g, 0, none⟩) (hn : n ≤ cap) :
    (Builtin.append_ #[t, t] ty #[.slice a n cap, .slice A 0 c]).run P w = .ok (.slice a n cap) w := by
  have hl : ∀ (x : Addr), (loadCells x 0).run P w = .ok #[] w := fun x => by simpa using run_loadCells_list (P := P) w x [] (by simp)
  rcases ha with ⟨rfl, rfl, rfl⟩ | ⟨g, rfl⟩
  · cases A <;> simp [Builtin.append_, run_underlying ht, sizeOf, typeInfo, hi, Builtin.lenOf, Builtin.firstCells, storeCells, hl]
  · cases A <;> simp [Builtin.append_, run_underlying ht, sizeOf, typeInfo, hi, Builtin.lenOf, Builtin.firstCells, hn, storeCells, hl]
theorem own_addr {w : World} {base n s c : Nat} {e : TypeId} {a : Option Addr} {xs : List Value} (h : w.ownsRow base e s (.slice a n c) n xs) : a = none ∧ n = 0 ∧ c = 0 ∨ ∃ g, a = some ⟨g, 0, none⟩ := by
  rcases h.2 with ⟨hv, h0⟩ | ⟨g, cap, cur, hv, _⟩
  · injection hv with e1 e2 e3
    exact .inl ⟨e1, h0, e3⟩
  · injection hv with e1 e2 e3
    exact .inr ⟨g, e1⟩
theorem wpList_append_no {P : Program} {w : World} {ops : Array Oper} {rest : List Oper} {o : Oper} {a : Act} {Q : Exit → Act → World → Prop} (hgd : o.guard = none) (s x : Operand) (t : TypeId)
    (ho : o.op = .call { callee := .builtin .append, args := #[s, x], argTypes := #[t, t] }) (e : TypeId) (i : TypeInfo) (ht : P.underlying t = some (.slice e)) (hi : P.info? e = some i) (b A : Option Addr) (n cap c : Nat)
    (hb : b = none ∧ n = 0 ∧ cap = 0 ∨ ∃ g, b = some ⟨g, 0, none⟩) (hn : n ≤ cap) (hs : a.eval s = .slice b n cap) (hx : a.eval x = .slice A 0 c) (h : wpList P ops Q rest (a.put o.dst (.slice b n cap)) w) : wpList P ops Q (o :: rest) a w :=
  wpList_plain hgd fun _ hK => by
    have hrun := run_append_none (P := P) w t o.type e i ht hi b A n cap c hb hn
    unfold Oper.wp
    simp [execOp, ho, resolve, invoke, builtin, hs, hx, hrun, Result.andThen]
    exact hK _ _ h
theorem own_sep {w : World} {base n s c g : Nat} {e t : TypeId} {a : Option Addr} {xs : List Value} {cs : Array Value} (h : w.ownsRow base e s (.slice a n c) n xs) (hg : Blk w g t cs) (hne : e ≠ t) : ∀ p, a = some p → p.block ≠ g := by
  rintro p rfl rfl
  exact own_blk_ne h hg hne (by simp [Value.ownBlock])
end Go.Proofs.Ytfhlcjfgbhmecaa
