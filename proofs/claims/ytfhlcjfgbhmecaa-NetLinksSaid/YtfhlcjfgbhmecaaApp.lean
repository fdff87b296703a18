/- append of any slice, none too, to a row of the call's own: as a step of a plain walk and of a region that draws its order. Over any program. -/
import Derived.Test.YtfhlcjfgbhmecaaAppNo
import Derived.Test.YtfhlcjfgbhmecaaOnly
import Derived.Test.YtfhlcjfgbhmecaaLoose
import Derived.Test.YtfhlcjfgbhmecaaTake
namespace Go.Proofs.Ytfhlcjfgbhmecaa
open Go.RowKit
set_option linter.unusedVariables false

theorem only_of_grown {w w' : World} {row : Option Nat} (h : w.grownBy w' row) : Only row.toList w w' :=
  (Only.refl _ w).grown h fun k hk => by subst hk; simp
/-- The row behind an append: its cells, what has turned, where it lies. -/
structure Apped (w w' : World) (base : Nat) (e : TypeId) (s : Nat) (a0 a' : Option Addr) (n cap : Nat) (xs : List Value) : Prop where
  own : w'.ownsRow base e s (.slice a' n cap) n xs
  only : Only (a0.map (·.block)).toList w w'
  at_ : ∀ k, a'.map (·.block) = some k → a0.map (·.block) = some k ∨ w.heap.size ≤ k
theorem own_block_eq {a : Option Addr} {n c : Nat} : (Value.slice a n c).ownBlock = a.map (·.block) := by cases a <;> rfl

/-- An element laid into a block of its own. -/
theorem own_one (w : World) (t : TypeId) (u : Value) : VRow (w.alloc (.cells #[u] t)) (some ⟨w.heap.size, 0, none⟩) 1 1 [u] := VRow.of_blk (n := 1) (s := 1) (Blk.new w t #[u]) rfl
theorem own_base_le {w : World} {base base' : Nat} {e : TypeId} {s n : Nat} {v : Value} {xs : List Value} (h : w.ownsRow base e s v n xs) (hle : base' ≤ base) : w.ownsRow base' e s v n xs :=
  own_base h fun g hg => Nat.le_trans hle (World.ownsRow.lt h g hg).1
theorem Apped.below {v w w' : World} {B base : Nat} {e : TypeId} {s n0 c0 n cap : Nat} {a0 a' : Option Addr} {xs0 xs : List Value} (h : Apped w w' base e s a0 a' n cap xs) (ho : w.ownsRow base e s (.slice a0 n0 c0) n0 xs0) (hb : Below B v w) (hB : B ≤ base) (hB2 : B ≤ w.heap.size) : Below B v w' := by
  refine h.only.below hb hB2 fun k hk => ?_
  have hk' : a0.map (·.block) = some k := Option.mem_toList.1 hk
  exact Nat.le_trans hB (World.ownsRow.lt ho k (by rw [own_block_eq]; exact hk')).1

/-- l[k:] of a row of one's own: the instruction, and what it reads as. -/
theorem from_v {P : Program} {w : World} {base T E s n c : Nat} {a : Option Addr} {xs : List Value} (h : w.ownsRow base E s (.slice a n c) n xs) (hT : P.underlying T = some (.slice E)) (hE : P.elem T = E) (hs : ∀ w : World, (sizeOf E).run P w = .ok s w) (k : Nat) (hk : k ≤ n) (i : Int) (hi : i = k) :
    ∃ A, (∀ (w : World), (Instr.slice T (.slice a n c) (some (.int .i64 i)) none none).run P w = .ok (.slice A (n - k) (c - k)) w) ∧ VRow w A (n - k) s (xs.drop (k * s)) := by
  obtain ⟨A, h1, h2⟩ := from_loose (P := P) (T := T) (Loose.of_own h) hT hE hs k hk i hi
  refine ⟨A, h1, ?_⟩
  by_cases hlt : k < n
  · obtain ⟨g, rfl, rfl⟩ := h2 hlt
    obtain ⟨b, off, e, hv⟩ := (own_vrow h).from_ hlt
    injection e with e
    injection e with e1 e2
    subst e1
    subst e2
    rwa [Nat.zero_add] at hv
  · have e : n - k = 0 := by omega
    have e2 : xs.drop (k * s) = [] := List.drop_of_length_le (by rw [h.1]; exact Nat.mul_le_mul_right s (by omega))
    rw [e, e2]
    exact VRow.nil _ _ _

theorem wpList_app {P : Program} {w : World} {ops : Array Oper} {rest : List Oper} {o : Oper} {a : Act} {Q : Exit → Act → World → Prop} (hgd : o.guard = none) (s x : Operand) (t : TypeId)
    (ho : o.op = .call { callee := .builtin .append, args := #[s, x], argTypes := #[t, t] })
    (base : Nat) (e : TypeId) (i : TypeInfo) (z : Value) (size bytes : Nat) (ht : P.underlying t = some (.slice e)) (hi : P.info? e = some i) (hz : i.zero = some z)
    (hsize : i.size = size) (hby : i.bytes = bytes) (hzs : z.cells.size = size) (hsz : 0 < size)
    (a0 : Option Addr) (n c0 : Nat) (xs : List Value) (hs : a.eval s = .slice a0 n c0) (hown : w.ownsRow base e size (.slice a0 n c0) n xs)
    (A : Option Addr) (m c : Nat) (ys : List Value) (hx : a.eval x = .slice A m c) (hr : VRow w A m size ys) (h1 : ∀ u ∈ ys, u.oneCell' = true)
    (h63 : n + m ≤ maxLen) (hbytes : (n + m) * bytes ≤ 140737488355328) (hbase : base ≤ w.heap.size)
    (h : ∀ a' cap w', Apped w w' base e size a0 a' (n + m) cap (xs ++ ys) → wpList P ops Q rest (a.put o.dst (.slice a' (n + m) cap)) w') : wpList P ops Q (o :: rest) a w := by
  by_cases h0 : m = 0
  · subst h0
    obtain rfl : ys = [] := List.eq_nil_of_length_eq_zero (by rw [hr.1]; simp)
    refine wpList_append_no hgd s x t ho e i ht hi a0 A n c0 c (own_addr hown) (own_cap hown) hs hx ?_
    exact h a0 c0 w ⟨by rw [List.append_nil]; exact hown, Only.refl _ _, fun k hk => .inl hk⟩
  · obtain ⟨b, off, rfl, hlt, hc⟩ := hr.2 (by omega)
    refine wpList_append_lies _ hgd s x t ho base e i z size bytes ht hi hz hsize hby hzs hsz (.slice a0 n c0) n xs hs hown ⟨b, off, none⟩ m c ys hx hr.1 (fun j u hj => by rw [addr_add]; exact hc j u hj) h1 (by omega) h63 hbytes hbase _ rfl ?_
    intro g cap w' k1 k2 k3 k4
    refine h _ cap w' ⟨k1, by rw [← own_block_eq (n := n) (c := c0)]; exact only_of_grown k2, fun k hk => ?_⟩
    simp only [Option.map_some, Option.some.injEq] at hk
    subst hk
    rw [own_block_eq] at k3
    rcases k3 with k3 | k3
    · exact .inl k3
    · exact .inr (by omega)
theorem step_app {P : Program} {w : World} {ops : Array Oper} {o : Oper} {a : Act} {K : Act → World → Prop} {Q : Exit → Act → World → Prop} {E : Prop} (hgd : o.guard = none) (s x : Operand) (t : TypeId)
    (ho : o.op = .call { callee := .builtin .append, args := #[s, x], argTypes := #[t, t] })
    (base : Nat) (e : TypeId) (i : TypeInfo) (z : Value) (size bytes : Nat) (ht : P.underlying t = some (.slice e)) (hi : P.info? e = some i) (hz : i.zero = some z)
    (hsize : i.size = size) (hby : i.bytes = bytes) (hzs : z.cells.size = size) (hsz : 0 < size)
    (a0 : Option Addr) (n c0 : Nat) (xs : List Value) (hs : a.eval s = .slice a0 n c0) (hown : w.ownsRow base e size (.slice a0 n c0) n xs)
    (A : Option Addr) (m c : Nat) (ys : List Value) (hx : a.eval x = .slice A m c) (hr : VRow w A m size ys) (h1 : ∀ u ∈ ys, u.oneCell' = true)
    (h63 : n + m ≤ maxLen) (hbytes : (n + m) * bytes ≤ 140737488355328) (hbase : base ≤ w.heap.size)
    (h : ∀ a' cap w', Apped w w' base e size a0 a' (n + m) cap (xs ++ ys) → K (a.put o.dst (.slice a' (n + m) cap)) w') :
    if Region.wanted o (yielded ops a.tmps) = true then Oper.wp P o a w K Q else E := by
  by_cases h0 : m = 0
  · subst h0
    obtain rfl : ys = [] := List.eq_nil_of_length_eq_zero (by rw [hr.1]; simp)
    refine step_append_none hgd s x t ho e i ht hi a0 A n c0 c (own_addr hown) (own_cap hown) hs hx ?_
    exact h a0 c0 w ⟨by rw [List.append_nil]; exact hown, Only.refl _ _, fun k hk => .inl hk⟩
  · obtain ⟨b, off, rfl, hlt, hc⟩ := hr.2 (by omega)
    refine step_append_lies _ hgd s x t ho base e i z size bytes ht hi hz hsize hby hzs hsz (.slice a0 n c0) n xs hs hown ⟨b, off, none⟩ m c ys hx hr.1 (fun j u hj => by rw [addr_add]; exact hc j u hj) h1 (by omega) h63 hbytes hbase _ rfl ?_
    intro g cap w' k1 k2 k3 k4
    refine h _ cap w' ⟨k1, by rw [← own_block_eq (n := n) (c := c0)]; exact only_of_grown k2, fun k hk => ?_⟩
    simp only [Option.map_some, Option.some.injEq] at hk
    subst hk
    rw [own_block_eq] at k3
    rcases k3 with k3 | k3
    · exact .inl k3
    · exact .inr (by omega)
end Go.Proofs.Ytfhlcjfgbhmecaa
