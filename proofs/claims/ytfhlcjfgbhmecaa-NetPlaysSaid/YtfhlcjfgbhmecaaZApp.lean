/- NetS, NetT, Take, App. -/
import Derived.Test.YtfhlcjfgbhmecaaZLinkN
import Derived.Test.YtfhlcjfgbhmecaaZFrame
import Derived.Test.YtfhlcjfgbhmecaaZOnly
import Derived.Test.YtfhlcjfgbhmecaaZOpen
import Derived.Laws.Build
import Derived.OwnWalk
import Derived.Test.YtfhlcjfgbhmecaaZLoose
/- Many queues beside one another: one turns, the others stand. -/
namespace Go.Proofs.Ytfhlcjfgbhmecaa
open Go.RowKit
set_option linter.unusedVariables false

def upq {α : Type} (f : Nat → α) (i : Nat) (x : α) : Nat → α := fun j => if j = i then x else f j
theorem upq_same {α : Type} (f : Nat → α) (i : Nat) (x : α) : upq f i x i = x := if_pos rfl
theorem upq_ne {α : Type} (f : Nat → α) {i j : Nat} (x : α) (h : j ≠ i) : upq f i x j = f j := if_neg h
/-- N queues: their blocks q, their lists' blocks g. -/
structure Qs (w : World) (N : Nat) (q g : Nat → Nat) (room : Int) (lost : Nat → Int) (ms : Nat → List (Value × List Int)) : Prop where
  que : ∀ k, k < N → Que w (q k) (g k) room (lost k) (ms k)
  apart : ∀ i j, i < N → j < N → i ≠ j → q i ≠ q j ∧ q i ≠ g j ∧ g i ≠ q j ∧ g i ≠ g j
section
variable {w w' : World} {N : Nat} {q g : Nat → Nat} {room : Int} {lost : Nat → Int} {ms : Nat → List (Value × List Int)}
theorem Qs.nil (w : World) (q g : Nat → Nat) (room : Int) (lost : Nat → Int) (ms : Nat → List (Value × List Int)) : Qs w 0 q g room lost ms := ⟨fun k hk => absurd hk (by omega), fun i j hi => absurd hi (by omega)⟩
theorem Qs.below (h : Qs w N q g room lost ms) (hb : Below w.heap.size w w') : Qs w' N q g room lost ms := ⟨fun k hk => (h.que k hk).below hb, h.apart⟩
/-- One queue more, made anew. -/
theorem Qs.add (h : Qs w N q g room lost ms) (hb : Below w.heap.size w w') {x : Nat} (hx : Que w' x x room 0 []) (hge : w.heap.size ≤ x) : Qs w' (N + 1) (upq q N x) (upq g N x) room (upq lost N 0) (upq ms N []) := by
  refine ⟨fun k hk => ?_, fun i j hi hj hne => ?_⟩
  · by_cases e : k = N
    · subst e; rw [upq_same, upq_same, upq_same, upq_same]; exact hx
    · rw [upq_ne _ _ e, upq_ne _ _ e, upq_ne _ _ e, upq_ne _ _ e]; exact (h.que k (by omega)).below hb
  · by_cases ei : i = N
    · subst ei
      have ej : j ≠ i := fun e => hne e.symm
      rw [upq_same, upq_same, upq_ne _ _ ej, upq_ne _ _ ej]
      have l1 := (h.que j (by omega)).lt
      have l2 := (h.que j (by omega)).glt
      exact ⟨by omega, by omega, by omega, by omega⟩
    · by_cases ej : j = N
      · subst ej
        rw [upq_same, upq_same, upq_ne _ _ ei, upq_ne _ _ ei]
        have l1 := (h.que i (by omega)).lt
        have l2 := (h.que i (by omega)).glt
        exact ⟨by omega, by omega, by omega, by omega⟩
      · rw [upq_ne _ _ ei, upq_ne _ _ ei, upq_ne _ _ ej, upq_ne _ _ ej]
        exact h.apart i j (by omega) (by omega) hne
/-- One queue turns. -/
theorem Qs.turn (h : Qs w N q g room lost ms) {k : Nat} (hk : k < N) {g' : Nat} {lost' : Int} {ms' : List (Value × List Int)} (hq : Que w' (q k) g' room lost' ms') (ho : Only [q k, g k] w w') (hg : g' = g k ∨ w.heap.size ≤ g') :
    Qs w' N q (upq g k g') room (upq lost k lost') (upq ms k ms') := by
  refine ⟨fun j hj => ?_, fun i j hi hj hne => ?_⟩
  · by_cases e : j = k
    · subst e; rw [upq_same, upq_same, upq_same]; exact hq
    · rw [upq_ne _ _ e, upq_ne _ _ e, upq_ne _ _ e]
      obtain ⟨a1, a2, a3, a4⟩ := h.apart j k hj hk e
      exact (h.que j hj).only ho (by simp [a1, a2]) (by simp [a3, a4]) (h.que k hk).no8
  · obtain ⟨a1, a2, a3, a4⟩ := h.apart i j hi hj hne
    have l1 := (h.que i hi).lt
    have l2 := (h.que i hi).glt
    have l3 := (h.que j hj).lt
    have l4 := (h.que j hj).glt
    by_cases ei : i = k
    · subst ei
      have ej : j ≠ i := fun e => hne e.symm
      rw [upq_same, upq_ne _ _ ej]
      rcases hg with rfl | hg
      · exact ⟨a1, a2, a3, a4⟩
      · exact ⟨a1, a2, by omega, by omega⟩
    · by_cases ej : j = k
      · subst ej
        rw [upq_same, upq_ne _ _ ei]
        rcases hg with rfl | hg
        · exact ⟨a1, a2, a3, a4⟩
        · exact ⟨a1, by omega, a3, by omega⟩
      · rw [upq_ne _ _ ei, upq_ne _ _ ej]
        exact ⟨a1, a2, a3, a4⟩
/-- What lies beside all queues stands when one turns. -/
theorem Qs.off {k : Nat} {x : Nat} {t : TypeId} {cs : Array Value} (hk : Blk w x t cs) (ho : Only [q k, g k] w w') (h1 : x ≠ q k) (h2 : x ≠ g k) : Blk w' x t cs := hk.only ho (by simp [h1, h2])
end
end Go.Proofs.Ytfhlcjfgbhmecaa
/- A net as it lies: parties, rows of queues. -/
namespace Go.Proofs.Ytfhlcjfgbhmecaa
open Go.RowKit
set_option linter.unusedVariables false

theorem Que.types {w : World} {q g : Nat} {room lost : Int} {ms : List (Value × List Int)} (h : Que w q g room lost ms) : ∀ k ∈ [q, g], ∀ cs t, Blk w k t cs → t = 161 ∨ t = 59 := by
  obtain ⟨a, c, h1, h2, h3⟩ := h.ex
  have same : ∀ {k : Nat} {t t' : TypeId} {cs cs' : Array Value}, Blk w k t cs → Blk w k t' cs' → t' = t := fun {k t t' cs cs'} x y => by
    unfold Blk at x y
    rw [x] at y
    injection y with y
    injection y with _ y
    exact y.symm
  intro k hk cs t hb
  simp only [List.mem_cons, List.not_mem_nil, or_false] at hk
  rcases hk with rfl | rfl
  · exact .inl (same h1 hb)
  · rcases h3 with ⟨_, rfl⟩ | rfl
    · exact .inl (same h1 hb)
    · obtain ⟨cur, _, h4, _⟩ := h2.blk
      exact .inr (same h4 hb)
/-- A row of another kind stands where only blocks of two kinds turn. -/
theorem own_kinds {base s n : Nat} {e t1 t2 : TypeId} {v : Value} {xs : List Value} {w w' : World} {S : List Nat} (h : w.ownsRow base e s v n xs) (ho : Only S w w') (hS : ∀ k ∈ S, ∀ cs t, Blk w k t cs → t = t1 ∨ t = t2) (h1 : e ≠ t1) (h2 : e ≠ t2) : w'.ownsRow base e s v n xs := by
  refine own_only h ho fun k hk hm => ?_
  rcases h.2 with ⟨hv, _⟩ | ⟨k', cp, cur, hv, _, hh, _⟩
  · rw [hv] at hk; simp [Value.ownBlock] at hk
  · rw [hv] at hk
    simp only [Value.ownBlock, Option.some.injEq] at hk
    subst hk
    rcases hS _ hm cur e hh with e1 | e1
    · exact h1 e1
    · exact h2 e1
/-- The net at gn, of n parties ps; queue a * n + b from party a to party b. -/
structure Nt (B : Nat) (w : World) (gn n : Nat) (ps : List Int) (q g : Nat → Nat) (room : Int) (lost : Nat → Int) (ms : Nat → List (Value × List Int)) : Prop where
  ex : ∃ (ap : Option Addr) (cp : Nat) (al : Option Addr) (cl : Nat) (ra : Nat → Option Addr) (rc : Nat → Nat),
    Blk w gn 116 #[.slice ap n cp, .slice al n cl] ∧ w.ownsRow B 3 1 (.slice ap n cp) n (ps.map fun (x : Int) => Value.int .i64 x) ∧
    w.ownsRow B 117 1 (.slice al n cl) n ((List.range n).map fun a => Value.slice (ra a) n (rc a)) ∧
    ∀ a, a < n → w.ownsRow B 118 1 (.slice (ra a) n (rc a)) n ((List.range n).map fun b => Value.pointer (some ⟨q (a * n + b), 0, none⟩))
  qs : Qs w (n * n) q g room lost ms
section
variable {B : Nat} {w w' : World} {gn n : Nat} {ps : List Int} {q g : Nat → Nat} {room : Int} {lost : Nat → Int} {ms : Nat → List (Value × List Int)}
theorem Nt.below (h : Nt B w gn n ps q g room lost ms) (hb : Below w.heap.size w w') : Nt B w' gn n ps q g room lost ms := by
  obtain ⟨ap, cp, al, cl, ra, rc, h1, h2, h3, h4⟩ := h.ex
  exact ⟨⟨ap, cp, al, cl, ra, rc, h1.below hb h1.lt, own_below h2 hb, own_below h3 hb, fun a ha => own_below (h4 a ha) hb⟩, h.qs.below hb⟩
theorem Nt.turn (h : Nt B w gn n ps q g room lost ms) {k : Nat} (hk : k < n * n) {g' : Nat} {lost' : Int} {ms' : List (Value × List Int)} (hq : Que w' (q k) g' room lost' ms') (ho : Only [q k, g k] w w') (hg : g' = g k ∨ w.heap.size ≤ g') :
    Nt B w' gn n ps q (upq g k g') room (upq lost k lost') (upq ms k ms') := by
  obtain ⟨ap, cp, al, cl, ra, rc, h1, h2, h3, h4⟩ := h.ex
  have T := (h.qs.que k hk).types
  refine ⟨⟨ap, cp, al, cl, ra, rc, h1.only ho fun hm => ?_, own_kinds h2 ho T (by decide) (by decide), own_kinds h3 ho T (by decide) (by decide), fun a ha => own_kinds (h4 a ha) ho T (by decide) (by decide)⟩, h.qs.turn hk hq ho hg⟩
  rcases T _ hm _ _ h1 with e | e
  · exact absurd e (by decide)
  · exact absurd e (by decide)
end
end Go.Proofs.Ytfhlcjfgbhmecaa
/- x[:k], in whatever world. Over any program. -/
namespace Go.Proofs.Ytfhlcjfgbhmecaa
open Go.RowKit
set_option linter.unusedVariables false

theorem to_any {P : Program} (T E s : Nat) (hT : P.underlying T = some (.slice E)) (hE : P.elem T = E) (hs : ∀ w : World, (sizeOf E).run P w = .ok s w) (a : Option Addr) (n c k : Nat) (hk : k ≤ n) (hn : n ≤ c) (w : World) :
    (Instr.slice T (.slice a n c) none (some (.int .i64 k)) none).run P w = .ok (.slice a k c) w := by
  have h := run_slice_h (P := P) (w := w) T a n c (by rw [hE]; exact hT) .i64 k (by omega) (by omega)
  rw [h, hE, hs w]
  show Result.ok (sliced a 0 ((k : Int).toNat) c s) w = _
  rw [Int.toNat_natCast]
  have e : a.map (·.add (0 * s)) = a := by
    cases a with
    | none => rfl
    | some p => simp [Addr.add]
  simp only [sliced, e, Nat.sub_zero]
  split <;> rfl
theorem VRow.take {w : World} {a : Option Addr} {n s : Nat} {vs : List Value} (h : VRow w a n s vs) {k : Nat} (hk : k ≤ n) : VRow w a k s (vs.take (k * s)) :=
  ⟨by rw [List.length_take, h.1]; exact Nat.min_eq_left (Nat.mul_le_mul_right s hk), fun h0 => by
    obtain ⟨b, off, rfl, hlt, hc⟩ := h.2 (by omega)
    exact ⟨b, off, rfl, hlt, fun i v hv => hc i v (by
      rw [List.getElem?_take] at hv
      split at hv
      · exact hv
      · cases hv)⟩⟩
theorem flat_take {α β : Type} (f : α → List β) (s : Nat) (hs : ∀ x, (f x).length = s) : ∀ (st : List α) (k : Nat), (st.flatMap f).take (k * s) = (st.take k).flatMap f
  | [], k => by simp
  | x :: xs, 0 => by simp
  | x :: xs, k + 1 => by
    rw [List.flatMap_cons, List.take_succ_cons, List.flatMap_cons, List.take_append, hs, List.take_of_length_le (by rw [hs, Nat.add_mul]; omega)]
    congr 1
    rw [← flat_take f s hs xs k]
    congr 1
    rw [Nat.add_mul]
    omega
end Go.Proofs.Ytfhlcjfgbhmecaa
/- append of any slice, none too, to a row of the call's own: as a step of a plain walk and of a region that draws its order. Over any program. -/
namespace Go.Proofs.Ytfhlcjfgbhmecaa
open Go.RowKit
set_option linter.unusedVariables false

theorem only_of_grown {w w' : World} {row : Option Nat} (h : w.grownBy w' row) : Only row.toList w w' :=
  (Only.refl _ w).grown h fun k hk => by subst hk; simp
/-- The row behind an append: its cells, what has turned, where it lies. -/
structure Apped (w w' : World) (base : Nat) (e : TypeId) (s : Nat) (a0 a' : Option Addr) (n cap : Nat) (xs : List Value) : Prop where
  own : w'.ownsRow base e s (.slice a' n cap) n xs
  only : Only (a0.map (·.block)).toList w w'
  at_ : ∀ k, a'.map (·.block) = some k → a0.map (·.block) = some k ∨ w.heap.size ≤ k
theorem own_block_eq {a : Option Addr} {n c : Nat} : (Value.slice a n c).ownBlock = a.map (·.block) := by cases a <;> rfl

/-- An element laid into a block of its own. -/
theorem own_one (w : World) (t : TypeId) (u : Value) : VRow (w.alloc (.cells #[u] t)) (some ⟨w.heap.size, 0, none⟩) 1 1 [u] := VRow.of_blk (n := 1) (s := 1) (Blk.new w t #[u]) rfl
theorem own_base_le {w : World} {base base' : Nat} {e : TypeId} {s n : Nat} {v : Value} {xs : List Value} (h : w.ownsRow base e s v n xs) (hle : base' ≤ base) : w.ownsRow base' e s v n xs :=
  own_base h fun g hg => Nat.le_trans hle (World.ownsRow.lt h g hg).1
theorem Apped.below {v w w' : World} {B base : Nat} {e : TypeId} {s n0 c0 n cap : Nat} {a0 a' : Option Addr} {xs0 xs : List Value} (h : Apped w w' base e s a0 a' n cap xs) (ho : w.ownsRow base e s (.slice a0 n0 c0) n0 xs0) (hb : Below B v w) (hB : B ≤ base) (hB2 : B ≤ w.heap.size) : Below B v w' := by
  refine h.only.below hb hB2 fun k hk => ?_
  have hk' : a0.map (·.block) = some k := Option.mem_toList.1 hk
  exact Nat.le_trans hB (World.ownsRow.lt ho k (by rw [own_block_eq]; exact hk')).1

/-- l[k:] of a row of one's own: the instruction, and what it reads as. -/
theorem from_v {P : Program} {w : World} {base T E s n c : Nat} {a : Option Addr} {xs : List Value} (h : w.ownsRow base E s (.slice a n c) n xs) (hT : P.underlying T = some (.slice E)) (hE : P.elem T = E) (hs : ∀ w : World, (sizeOf E).run P w = .ok s w) (k : Nat) (hk : k ≤ n) (i : Int) (hi : i = k) :
    ∃ A, (∀ (w : World), (Instr.slice T (.slice a n c) (some (.int .i64 i)) none none).run P w = .ok (.slice A (n - k) (c - k)) w) ∧ VRow w A (n - k) s (xs.drop (k * s)) := by
  obtain ⟨A, h1, h2⟩ := from_loose (P := P) (T := T) (Loose.of_own h) hT hE hs k hk i hi
  refine ⟨A, h1, ?_⟩
  by_cases hlt : k < n
  · obtain ⟨g, rfl, rfl⟩ := h2 hlt
    obtain ⟨b, off, e, hv⟩ := (own_vrow h).from_ hlt
    injection e with e
    injection e with e1 e2
    subst e1
    subst e2
    rwa [Nat.zero_add] at hv
  · have e : n - k = 0 := by omega
    have e2 : xs.drop (k * s) = [] := List.drop_of_length_le (by rw [h.1]; exact Nat.mul_le_mul_right s (by omega))
    rw [e, e2]
    exact VRow.nil _ _ _

theorem wpList_app {P : Program} {w : World} {ops : Array Oper} {rest : List Oper} {o : Oper} {a : Act} {Q : Exit → Act → World → Prop} (hgd : o.guard = none) (s x : Operand) (t : TypeId)
    (ho : o.op = .call { callee := .builtin .append, args := #[s, x], argTypes := #[t, t] })
    (base : Nat) (e : TypeId) (i : TypeInfo) (z : Value) (size bytes : Nat) (ht : P.underlying t = some (.slice e)) (hi : P.info? e = some i) (hz : i.zero = some z)
    (hsize : i.size = size) (hby : i.bytes = bytes) (hzs : z.cells.size = size) (hsz : 0 < size)
    (a0 : Option Addr) (n c0 : Nat) (xs : List Value) (hs : a.eval s = .slice a0 n c0) (hown : w.ownsRow base e size (.slice a0 n c0) n xs)
    (A : Option Addr) (m c : Nat) (ys : List Value) (hx : a.eval x = .slice A m c) (hr : VRow w A m size ys) (h1 : ∀ u ∈ ys, u.oneCell' = true)
    (h63 : n + m ≤ maxLen) (hbytes : (n + m) * bytes ≤ 140737488355328) (hbase : base ≤ w.heap.size)
    (h : ∀ a' cap w', Apped w w' base e size a0 a' (n + m) cap (xs ++ ys) → wpList P ops Q rest (a.put o.dst (.slice a' (n + m) cap)) w') : wpList P ops Q (o :: rest) a w := by
  by_cases h0 : m = 0
  · subst h0
    obtain rfl : ys = [] := List.eq_nil_of_length_eq_zero (by rw [hr.1]; simp)
    refine wpList_append_no hgd s x t ho e i ht hi a0 A n c0 c (own_addr hown) (own_cap hown) hs hx ?_
    exact h a0 c0 w ⟨by rw [List.append_nil]; exact hown, Only.refl _ _, fun k hk => .inl hk⟩
  · obtain ⟨b, off, rfl, hlt, hc⟩ := hr.2 (by omega)
    refine wpList_append_lies _ hgd s x t ho base e i z size bytes ht hi hz hsize hby hzs hsz (.slice a0 n c0) n xs hs hown ⟨b, off, none⟩ m c ys hx hr.1 (fun j u hj => by rw [addr_add]; exact hc j u hj) h1 (by omega) h63 hbytes hbase _ rfl ?_
    intro g cap w' k1 k2 k3 k4
    refine h _ cap w' ⟨k1, by rw [← own_block_eq (n := n) (c := c0)]; exact only_of_grown k2, fun k hk => ?_⟩
    simp only [Option.map_some, Option.some.injEq] at hk
    subst hk
    rw [own_block_eq] at k3
    rcases k3 with k3 | k3
    · exact .inl k3
    · exact .inr (by omega)
theorem step_app {P : Program} {w : World} {ops : Array Oper} {o : Oper} {a : Act} {K : Act → World → Prop} {Q : Exit → Act → World → Prop} {E : Prop} (hgd : o.guard = none) (s x : Operand) (t : TypeId)
    (ho : o.op = .call { callee := .builtin .append, args := #[s, x], argTypes := #[t, t] })
    (base : Nat) (e : TypeId) (i : TypeInfo) (z : Value) (size bytes : Nat) (ht : P.underlying t = some (.slice e)) (hi : P.info? e = some i) (hz : i.zero = some z)
    (hsize : i.size = size) (hby : i.bytes = bytes) (hzs : z.cells.size = size) (hsz : 0 < size)
    (a0 : Option Addr) (n c0 : Nat) (xs : List Value) (hs : a.eval s = .slice a0 n c0) (hown : w.ownsRow base e size (.slice a0 n c0) n xs)
    (A : Option Addr) (m c : Nat) (ys : List Value) (hx : a.eval x = .slice A m c) (hr : VRow w A m size ys) (h1 : ∀ u ∈ ys, u.oneCell' = true)
    (h63 : n + m ≤ maxLen) (hbytes : (n + m) * bytes ≤ 140737488355328) (hbase : base ≤ w.heap.size)
    (h : ∀ a' cap w', Apped w w' base e size a0 a' (n + m) cap (xs ++ ys) → K (a.put o.dst (.slice a' (n + m) cap)) w') :
    if Region.wanted o (yielded ops a.tmps) = true then Oper.wp P o a w K Q else E := by
  by_cases h0 : m = 0
  · subst h0
    obtain rfl : ys = [] := List.eq_nil_of_length_eq_zero (by rw [hr.1]; simp)
    refine step_append_none hgd s x t ho e i ht hi a0 A n c0 c (own_addr hown) (own_cap hown) hs hx ?_
    exact h a0 c0 w ⟨by rw [List.append_nil]; exact hown, Only.refl _ _, fun k hk => .inl hk⟩
  · obtain ⟨b, off, rfl, hlt, hc⟩ := hr.2 (by omega)
    refine step_append_lies _ hgd s x t ho base e i z size bytes ht hi hz hsize hby hzs hsz (.slice a0 n c0) n xs hs hown ⟨b, off, none⟩ m c ys hx hr.1 (fun j u hj => by rw [addr_add]; exact hc j u hj) h1 (by omega) h63 hbytes hbase _ rfl ?_
    intro g cap w' k1 k2 k3 k4
    refine h _ cap w' ⟨k1, by rw [← own_block_eq (n := n) (c := c0)]; exact only_of_grown k2, fun k hk => ?_⟩
    simp only [Option.map_some, Option.some.injEq] at hk
    subst hk
    rw [own_block_eq] at k3
    rcases k3 with k3 | k3
    · exact .inl k3
    · exact .inr (by omega)
end Go.Proofs.Ytfhlcjfgbhmecaa
