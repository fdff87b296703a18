/- copy of elements of several cells. Over any program. -/
import Derived.Test.YtfeepofdnjnkpaaRow
import Derived.Test.YtfeepofdnjnkpaaFlat
import Derived.Laws.IdiomCopy
import Derived.Laws.CopyOwn
namespace Go.Proofs.Ytfeepofdnjnkpaa
open Go.RowKit
set_option linter.unusedVariables false
variable {P : Program}

theorem run_copy_wide (w : World) (dT sT ty elem : TypeId) (b o dLen dCap : Nat) (a : Addr) (sLen sCap n S : Nat) (cs : List Value)
    (hu : P.underlying dT = some (.slice elem)) (hs : (P.info? elem).map (·.size) = some S) (hn : n = Nat.min sLen dLen) (hcs : cs.length = n * S)
    (hsrc : ∀ j v, cs[j]? = some v → w.cell? (a.add j) = some v) (hc : ∀ j, j < cs.length → (w.cell? ⟨b, o + j, none⟩).isSome = true) (hf : ∀ j, j < cs.length → w.frozen? ⟨b, o + j, none⟩ = false) (h1 : ∀ v ∈ cs, v.oneCell' = true) :
    (Builtin.copy_ #[dT, sT] ty #[.slice (some ⟨b, o, none⟩) dLen dCap, .slice (some a) sLen sCap]).run P w = .ok (goInt n) (w.setCells b o cs) := by
  have hl := run_loadCells_list (P := P) w a cs hsrc
  rw [hcs] at hl
  have hst := run_storeCells_cells (P := P) b o cs 0 w (by simpa using hc) (by simpa using hf) h1
  cases hq : P.info? elem with
  | none => simp [hq] at hs
  | some i =>
    have hi : i.size = S := by simpa [hq] using hs
    simp [Builtin.copy_, run_underlying hu, Builtin.lenOf, Builtin.firstCells, sizeOf, typeInfo, hq, hi, ← hn, hl, hst]
theorem run_copy_no (w : World) (dT sT ty elem : TypeId) (d a : Option Addr) (dLen dCap sLen sCap S : Nat) (hu : P.underlying dT = some (.slice elem)) (hs : (P.info? elem).map (·.size) = some S) (hn : Nat.min sLen dLen = 0) :
    (Builtin.copy_ #[dT, sT] ty #[.slice d dLen dCap, .slice a sLen sCap]).run P w = .ok (goInt 0) w := by
  cases hq : P.info? elem with
  | none => simp [hq] at hs
  | some i =>
    have hl : ∀ (x : Addr), (loadCells x 0).run P w = .ok #[] w := fun x => by simpa using run_loadCells_list (P := P) w x [] (by simp)
    cases d <;> cases a <;> simp [Builtin.copy_, run_underlying hu, Builtin.lenOf, Builtin.firstCells, sizeOf, typeInfo, hq, hn, storeCells, hl]
theorem wpList_copy_no {w : World} {ops : Array Oper} {rest : List Oper} {o : Oper} {a : Act} {Q : Exit → Act → World → Prop} (hgd : o.guard = none) (d s : Operand) (dT sT : TypeId)
    (ho : o.op = .call { callee := .builtin .copy, args := #[d, s], argTypes := #[dT, sT] }) (elem : TypeId) (hu : P.underlying dT = some (.slice elem)) (S : Nat) (hsz : (P.info? elem).map (·.size) = some S)
    (dp sp : Option Addr) (dLen dCap sLen sCap : Nat) (hd : a.eval d = .slice dp dLen dCap) (hs : a.eval s = .slice sp sLen sCap) (hn : Nat.min sLen dLen = 0)
    (h : wpList P ops Q rest (a.put o.dst (goInt 0)) w) : wpList P ops Q (o :: rest) a w := by
  refine wpList_plain hgd fun K hK => ?_
  have hrun := run_copy_no (P := P) w dT sT o.type elem dp sp dLen dCap sLen sCap S hu hsz hn
  unfold Oper.wp
  simp [execOp, ho, resolve, invoke, builtin, hd, hs, hrun, Result.andThen]
  exact hK _ _ h
theorem row_setCells {g : Nat} {t : TypeId} {s n cap : Nat} : ∀ (vs : List Value) (o : Nat) (w : World) (L : List Value), Row w g t s n cap L → Row (w.setCells g o vs) g t s n cap (setMany L o vs)
  | [], _, _, _, h => h
  | v :: vs, o, w, L, h => row_setCells vs (o + 1) _ _ (h.set_ o v)
theorem only_setCells' {S : List Nat} {g : Nat} (hg : g ∈ S) : ∀ (vs : List Value) (o : Nat) (a w : World), Only S a w → Only S a (w.setCells g o vs)
  | [], _, _, _, h => h
  | v :: vs, o, a, w, h => only_setCells' hg vs (o + 1) a _ (h.setCell (.inl hg) v)
/-- copy inside one row of elements of S cells: dst from place off on, src from place off' on. -/
theorem wpList_copy_row {w : World} {ops : Array Oper} {rest : List Oper} {o : Oper} {a : Act} {Q : Exit → Act → World → Prop} (hgd : o.guard = none) (d s : Operand) (dT sT : TypeId)
    (ho : o.op = .call { callee := .builtin .copy, args := #[d, s], argTypes := #[dT, sT] }) (elem : TypeId) (hu : P.underlying dT = some (.slice elem)) (S : Nat) (hsz : (P.info? elem).map (·.size) = some S)
    (g e m cap : Nat) (t : TypeId) (xs : List Value) (hrow : Row w g t S m cap xs) (off off' dLen dCap sLen sCap n : Nat) (hd : a.eval d = .slice (some ⟨g, off, none⟩) dLen dCap) (hs : a.eval s = .slice (some ⟨g, off', none⟩) sLen sCap) (hn : n = Nat.min sLen dLen)
    (h1 : off + n * S ≤ m * S) (h2 : off' + n * S ≤ m * S) (hone : ∀ v ∈ xs, v.oneCell' = true)
    (h : ∀ w', Hid (Row w' g t S m cap (setMany xs off ((xs.drop off').take (n * S)))) → Only [g] w w' → wpList P ops Q rest (a.put o.dst (goInt n)) w') : wpList P ops Q (o :: rest) a w := by
  have hlen := hrow.len
  obtain ⟨cs, hcs⟩ : ∃ cs, cs = (xs.drop off').take (n * S) := ⟨_, rfl⟩
  have hcl : cs.length = n * S := by rw [hcs, List.length_take, List.length_drop]; omega
  refine wpList_plain hgd fun K hK => ?_
  have hrun := run_copy_wide (P := P) w dT sT o.type elem g off dLen dCap ⟨g, off', none⟩ sLen sCap n S cs hu hsz hn hcl (fun j v hv => by
      have hj : j < n * S := by rw [← hcl]; exact (List.getElem?_eq_some_iff.1 hv).1
      have e : ((⟨g, off', none⟩ : Addr).add j) = ⟨g, off' + j, none⟩ := by unfold Addr.add; split <;> simp_all
      rw [e]
      refine hrow.cell ?_
      rw [← hv, hcs, List.getElem?_take, if_pos hj, List.getElem?_drop])
    (fun j hj => by rw [hrow.cell (List.getElem?_eq_getElem (show off + j < xs.length by omega))]; rfl) (fun j _ => hrow.frozen _) (fun v hv => hone v (by rw [hcs] at hv; exact List.mem_of_mem_drop (List.mem_of_mem_take hv)))
  unfold Oper.wp
  simp [execOp, ho, resolve, invoke, builtin, hd, hs, hrun, Result.andThen]
  refine hK _ _ (h _ ?_ ?_)
  · rw [← hcs]
    exact Lib.hid (row_setCells cs off w xs hrow)
  · exact only_setCells' (by simp) cs off w w (Only.refl _ _)
end Go.Proofs.Ytfeepofdnjnkpaa
