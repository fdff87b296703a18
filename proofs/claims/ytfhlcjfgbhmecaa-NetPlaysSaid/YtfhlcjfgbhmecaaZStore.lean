/- Store. -/
import Derived.Test.YtfhlcjfgbhmecaaProg
import Derived.Test.YtfhlcjfgbhmecaaZFrame
import Derived.Test.YtfhlcjfgbhmecaaZOpen
import Derived.StillTailTactics
import Derived.Deep.QuietTactic
import Derived.BigQuiet
import Derived.OwnWalk
import Derived.Laws.StructEq
/- Package store: what its functions do. -/
namespace Go.Proofs.Ytfhlcjfgbhmecaa
open Go.RowKit
set_option linter.unusedVariables false

/-- A key's cells. -/
def kcell (c : Bool × Int) : List Value := [.bool c.1, .int .i64 c.2]
theorem kcell_len (c : Bool × Int) : (kcell c).length = 2 := rfl
/-- A store's cells. -/
def kcells (st : List (Bool × Int)) : Array Value := (st.flatMap kcell).toArray
theorem kcells_size (st : List (Bool × Int)) : (kcells st).size = st.length * 2 := by
  unfold kcells
  rw [List.size_toArray, flat_len kcell 2 kcell_len]
/-- Nothing. -/
def st0 : List (Bool × Int) := List.replicate 64 (false, 0)
/-- The store at gs: all keys. -/
structure Store (w : World) (gs : Nat) (st : List (Bool × Int)) : Prop where
  b : Blk w gs 130 (kcells st)
  n : st.length = 64
section
variable {w w' : World} {gs : Nat} {st : List (Bool × Int)} {S : List Nat}
theorem Store.lt (h : Store w gs st) : gs < w.heap.size := h.b.lt
theorem Store.only (h : Store w gs st) (ho : Only S w w') (hn : gs ∉ S) : Store w' gs st := ⟨h.b.only ho hn, h.n⟩
theorem Store.below (h : Store w gs st) (hb : Below w.heap.size w w') : Store w' gs st := ⟨h.b.below hb h.b.lt, h.n⟩
theorem Store.drew (h : Store w gs st) : Store w.drew gs st := ⟨h.b, h.n⟩
theorem Store.drewN (h : Store w gs st) (n : Nat) : Store (w.drewN n) gs st := ⟨h.b, h.n⟩
theorem Store.alloc (h : Store w gs st) (o : Obj) : Store (w.alloc o) gs st := ⟨h.b.alloc o, h.n⟩
theorem Store.at0 (h : Store w gs st) (k : Nat) (hk : k < st.length) : w.cell? ⟨gs, k * 2, none⟩ = some (.bool st[k].1) :=
  (h.b.cell (k * 2)).trans (by unfold kcells; rw [List.getElem?_toArray]; exact flat_get' kcell 2 kcell_len st k 0 (by omega) hk _ rfl)
theorem Store.at1 (h : Store w gs st) (k : Nat) (hk : k < st.length) : w.cell? ⟨gs, k * 2 + 1, none⟩ = some (.int .i64 st[k].2) :=
  (h.b.cell (k * 2 + 1)).trans (by unfold kcells; rw [List.getElem?_toArray]; exact flat_get' kcell 2 kcell_len st k 1 (by omega) hk _ rfl)
theorem Store.set (h : Store w gs st) {k : Nat} (hk : k < st.length) (a : Bool) (v : Int) : Store ((w.setCell ⟨gs, k * 2, none⟩ (.bool a)).setCell ⟨gs, k * 2 + 1, none⟩ (.int .i64 v)) gs (st.set k (a, v)) := by
  refine ⟨?_, by rw [List.length_set]; exact h.n⟩
  have e := (h.b.set_ (k * 2) (.bool a)).set_ (k * 2 + 1) (.int .i64 v)
  unfold kcells at e ⊢
  rw [← flat_set2 kcell kcell_len (a, v) (.bool a) (.int .i64 v) rfl st k hk]
  simpa only [List.setIfInBounds_toArray] using e
end

theorem info_cell : (Try.prog.info? 127).map (fun i => (i.zero, i.size, i.bytes)) = some (some (.agg #[.bool false, .int .i64 0]), 2, 16) := by kernel_rfl
theorem kcells_extract (st : List (Bool × Int)) (k : Nat) (hk : k < st.length) : (kcells st).extract (k * 2) (k * 2 + 2) = #[.bool st[k].1, .int .i64 st[k].2] := by
  apply Array.ext_getElem?
  intro i
  rw [Array.getElem?_extract]
  have h0 := flat_get' kcell 2 kcell_len st k 0 (by omega) hk (.bool st[k].1) rfl
  have h1 := flat_get' kcell 2 kcell_len st k 1 (by omega) hk (.int .i64 st[k].2) rfl
  have hs : k * 2 + 2 ≤ (kcells st).size := by rw [kcells_size]; omega
  have e : min (k * 2 + 2) (kcells st).size - k * 2 = 2 := by omega
  rw [e]
  match i with
  | 0 => rw [if_pos (by omega)]; unfold kcells; rw [List.getElem?_toArray]; exact h0
  | 1 => rw [if_pos (by omega)]; unfold kcells; rw [List.getElem?_toArray]; exact h1
  | i + 2 => rw [if_neg (by omega)]; simp
/-- A key's cells out of a copy of all. -/
theorem index_c (st : List (Bool × Int)) (hn : st.length = 64) (k : Nat) (hk : k < st.length) (w : World) :
    (Instr.index 128 (.agg (kcells st)) (.int .i64 k)).run Try.prog w = .ok (.agg #[.bool st[k].1, .int .i64 st[k].2]) w := by
  obtain ⟨i0, hi0, _, hz1, _⟩ := info_parts info_cell
  have h1 : (0 : Int) ≤ (k : Int) ∧ (k : Int) < (64 : Nat) := by omega
  simp only [Instr.index, Sem.run_bind, asIntOf, Sem.run_pure, Result.andThen_ok, run_underlying Try.underlying128, if_pos h1, sizeOf, typeInfo, part, Int.toNat_natCast]
  simp [hi0, hz1, kcells_extract st k hk]
theorem kcells_info : (Try.prog.info? 128).map (·.size) = some 128 := by kernel_rfl

theorem new_c (w : World) : Calls Try.prog 53 #[] w fun e w' => ∃ gs, e = .returned (.pointer (some ⟨gs, 0, none⟩)) ∧ Store w' gs st0 ∧ w.heap.size ≤ gs ∧ Below w.heap.size w w' := by
  have hb : ∀ w : World, (zeroValue 130).run Try.prog w = .ok (.agg (kcells st0)) w := fun w => by kernel_rfl
  have hn : st0.length = 64 := rfl
  obtain ⟨Z, hZ⟩ : ∃ Z, Z = kcells st0 := ⟨_, rfl⟩
  rw [← hZ] at hb
  have HZ := Lib.hid hZ
  have HN := Lib.hid hn
  clear hZ hn
  go_enter Try.func53, Try.ntmps53
  go_wp2
  go_ret
  exact ⟨w.heap.size, rfl, ⟨by rw [← HZ.out]; exact Blk.new _ _ _, HN.out⟩, Nat.le_refl _, (Below.refl _ _).alloc (Nat.le_refl _) _⟩

theorem small_c (v : Int) (w : World) (b : Bool) (hb : decide (-2147483648 < v ∧ v < 2147483648) = b) :
    Calls Try.prog 74 #[.int .i64 v] w fun e w' => e = .returned (.bool b) ∧ w = w' := by
  by_cases h1 : -2147483648 < v
  · by_cases h2 : v < 2147483648
    · obtain rfl : b = true := by rw [← hb]; exact decide_eq_true ⟨h1, h2⟩
      clear hb
      go_enter Try.func74, Try.ntmps74
      go_wp2
      go_ret
      exact ⟨rfl, rfl⟩
    · obtain rfl : b = false := by rw [← hb]; exact decide_eq_false fun h => h2 h.2
      clear hb
      go_enter Try.func74, Try.ntmps74
      go_wp2
      go_ret
      exact ⟨rfl, rfl⟩
  · obtain rfl : b = false := by rw [← hb]; exact decide_eq_false fun h => h1 h.1
    clear hb
    go_enter Try.func74, Try.ntmps74
    go_wp2
    go_ret
    exact ⟨rfl, rfl⟩
end Go.Proofs.Ytfhlcjfgbhmecaa
