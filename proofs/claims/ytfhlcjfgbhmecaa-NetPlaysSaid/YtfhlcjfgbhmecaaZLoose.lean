/- Loose. -/
import Derived.Test.YtfhlcjfgbhmecaaZFrame
import Derived.Test.YtfhlcjfgbhmecaaZOnly
import Derived.Test.YtfhlcjfgbhmecaaZOpen
import Derived.Deep.RegionLawGrows
import Derived.Laws.IdiomCopy
/- A slice whose capacity may be less than its block's: append to it, with room or without. Over any program. -/
namespace Go.Proofs.Ytfhlcjfgbhmecaa
open Go.RowKit
set_option linter.unusedVariables false

/-- The slice at a (the head of a block of type e, or nil): n elements of s cells each, xs; room for c. -/
def Loose (w : World) (a : Option Addr) (e : TypeId) (s n c : Nat) (xs : List Value) : Prop :=
  xs.length = n * s ∧ n ≤ c ∧ c ≤ maxLen ∧ (a = none ∧ n = 0 ∧ c = 0 ∨ ∃ (g : Nat) (cur : Array Value), a = some ⟨g, 0, none⟩ ∧ Blk w g e cur ∧ c * s ≤ cur.size ∧ ∀ (i : Nat) (v : Value), xs[i]? = some v → cur[i]? = some v)
section
variable {w w' : World} {a : Option Addr} {e : TypeId} {s n c : Nat} {xs : List Value} {S : List Nat}
theorem Loose.nil (w : World) (e : TypeId) (s : Nat) : Loose w none e s 0 0 [] := ⟨by simp, Nat.le_refl _, Nat.zero_le _, .inl ⟨rfl, rfl, rfl⟩⟩
theorem Loose.len (h : Loose w a e s n c xs) : xs.length = n * s := h.1
theorem Loose.cap_le (h : Loose w a e s n c xs) : n ≤ c := h.2.1
theorem Loose.cap_max (h : Loose w a e s n c xs) : c ≤ maxLen := h.2.2.1
theorem Loose.of_own {base : Nat} (h : w.ownsRow base e s (.slice a n c) n xs) : Loose w a e s n c xs := by
  rcases h.2 with ⟨hv, h0⟩ | ⟨g, cap, cur, hv, _, hh, h1, h2, h3, h4⟩
  · injection hv with e1 e2 e3
    subst e1; subst h0; subst e3
    exact ⟨h.1, Nat.le_refl _, Nat.zero_le _, .inl ⟨rfl, rfl, rfl⟩⟩
  · injection hv with e1 e2 e3
    subst e1; subst e3
    refine ⟨h.1, h1, h2, .inr ⟨g, cur, rfl, hh, by rw [h3]; exact Nat.le_refl _, fun i v hv => ?_⟩⟩
    rw [← h4, List.getElem?_take] at hv
    split at hv
    · simpa using hv
    · cases hv
theorem Loose.at_ {g o : Nat} (h : Loose w (some ⟨g, o, none⟩) e s n c xs) : o = 0 := by
  rcases h.2.2.2 with ⟨hv, _⟩ | ⟨g', cur, hv, _⟩
  · cases hv
  · injection hv with hv
    injection hv
theorem Loose.blk {p : Addr} (h : Loose w (some p) e s n c xs) : ∃ cur : Array Value, p = ⟨p.block, 0, none⟩ ∧ Blk w p.block e cur ∧ c * s ≤ cur.size ∧ ∀ (i : Nat) (v : Value), xs[i]? = some v → cur[i]? = some v := by
  rcases h.2.2.2 with ⟨hv, _⟩ | ⟨g', cur, hv, h1, h2, h3⟩
  · cases hv
  · injection hv with hv
    subst hv
    exact ⟨cur, rfl, h1, h2, h3⟩
theorem Loose.lt {p : Addr} (h : Loose w (some p) e s n c xs) : p.block < w.heap.size := by
  obtain ⟨cur, _, h1, _⟩ := h.blk
  exact h1.lt
theorem Loose.only (h : Loose w a e s n c xs) (ho : Only S w w') (hn : ∀ p, a = some p → p.block ∉ S) : Loose w' a e s n c xs := by
  refine ⟨h.1, h.2.1, h.2.2.1, ?_⟩
  rcases h.2.2.2 with hv | ⟨g, cur, rfl, h1, h2, h3⟩
  · exact .inl hv
  · exact .inr ⟨g, cur, rfl, h1.only ho (hn _ rfl), h2, h3⟩
theorem Loose.below (h : Loose w a e s n c xs) (hb : Below w.heap.size w w') : Loose w' a e s n c xs := h.only (Only.of_below (S := []) hb) (fun _ _ => List.not_mem_nil)
theorem Loose.drew (h : Loose w a e s n c xs) : Loose w.drew a e s n c xs := h
theorem Loose.drewN (h : Loose w a e s n c xs) (k : Nat) : Loose (w.drewN k) a e s n c xs := h
theorem Loose.alloc (h : Loose w a e s n c xs) (o : Obj) : Loose (w.alloc o) a e s n c xs := h.below ((Below.refl _ _).alloc (Nat.le_refl _) _)
theorem Loose.far (h : Loose w a e s n c xs) {p : Addr} (hp : ∀ q, a = some q → q.block ≠ p.block) (u : Value) : Loose (w.setCell p u) a e s n c xs :=
  h.only (S := [p.block]) ((Only.refl _ w).setCell (.inl (by simp)) u) fun q hq => by simpa using hp q hq
theorem Loose.vrow (h : Loose w a e s n c xs) (hs : 0 < s) : VRow w a n s xs := by
  refine ⟨h.1, fun hn => ?_⟩
  rcases h.2.2.2 with ⟨_, h0, _⟩ | ⟨g, cur, rfl, h1, h2, h3⟩
  · omega
  · exact ⟨g, 0, rfl, h1.lt, fun i v hv => by rw [Nat.zero_add, h1.cell]; exact h3 i v hv⟩
theorem Loose.news {p : Addr} (h : Loose w (some p) e s n c xs) : ∀ j u, xs[j]? = some u → w.cell? (p.add j) = some u := by
  obtain ⟨cur, hp, h1, h2, h3⟩ := h.blk
  intro j u hu
  rw [hp]
  have e : ((⟨p.block, 0, none⟩ : Addr).add j) = ⟨p.block, j, none⟩ := by
    rw [addr_add, Nat.zero_add]
  rw [e, h1.cell]
  exact h3 j u hu
/-- Cut to k elements, and to a capacity of k. -/
theorem Loose.cut (h : Loose w a e s n c xs) {k : Nat} (hk : k ≤ n) (c' : Nat) (h1 : k ≤ c') (h2 : c' ≤ c) : Loose w a e s k c' (xs.take (k * s)) := by
  refine ⟨by rw [List.length_take, h.1]; exact Nat.min_eq_left (Nat.mul_le_mul_right s hk), h1, Nat.le_trans h2 h.2.2.1, ?_⟩
  rcases h.2.2.2 with ⟨rfl, h0, h3⟩ | ⟨g, cur, rfl, h3, h4, h5⟩
  · exact .inl ⟨rfl, by omega, by omega⟩
  · refine .inr ⟨g, cur, rfl, h3, Nat.le_trans (Nat.mul_le_mul_right s h2) h4, fun i v hv => h5 i v ?_⟩
    rw [List.getElem?_take] at hv
    split at hv
    · exact hv
    · cases hv
theorem Loose.ne (h : Loose w a e s n c xs) {g' : Nat} {t : TypeId} {cs : Array Value} (h' : Blk w g' t cs) (hne : e ≠ t) : ∀ p, a = some p → p.block ≠ g' := by
  rintro p rfl
  obtain ⟨cur, _, h1, _⟩ := h.blk
  exact h1.ne_ h' hne
theorem Loose.ne' (h : Loose w a e s n c xs) {a' : Option Addr} {e' : TypeId} {s' n' c' : Nat} {xs' : List Value} (h' : Loose w a' e' s' n' c' xs') (hne : e ≠ e') : ∀ p q, a = some p → a' = some q → p.block ≠ q.block := by
  rintro p q rfl rfl
  obtain ⟨cur, _, h1, _⟩ := h.blk
  obtain ⟨cur', _, h1', _⟩ := h'.blk
  exact h1.ne_ h1' hne
end
theorem blk_setCells' {g : Nat} {t : TypeId} : ∀ (vs : List Value) (o : Nat) (w : World) (cur : Array Value), Blk w g t cur → ∃ cur', Blk (w.setCells g o vs) g t cur' ∧ cur'.size = cur.size
  | [], o, w, cur, h => ⟨cur, h, rfl⟩
  | v :: vs, o, w, cur, h => by
    obtain ⟨cur', h1, h2⟩ := blk_setCells' vs (o + 1) _ _ (h.set_ o v)
    exact ⟨cur', h1, by rw [h2]; simp⟩
theorem only_setCellsL {S : List Nat} {g : Nat} (hg : g ∈ S) : ∀ (vs : List Value) (o : Nat) (a w : World), Only S a w → Only S a (w.setCells g o vs)
  | [], o, a, w, h => h
  | v :: vs, o, a, w, h => only_setCellsL hg vs (o + 1) a _ (h.setCell (.inl hg) v)

/-- append, one step of a region that draws: what it was, with the new ones behind it; in the same block, or in a new one. -/
theorem step_append_loose {P : Program} {ops : Array Oper} {o : Oper} {a : Act} {w : World} {K : Act → World → Prop} {Q : Exit → Act → World → Prop} {E : Prop}
    (hg : o.guard = none) (s x : Operand) (t : TypeId) (hop : o.op = Op.call { callee := Callee.builtin Builtin.append, args := #[s, x], argTypes := #[t, t] })
    (e : TypeId) (i : TypeInfo) (z : Value) (size bytes : Nat) (h1 : P.underlying t = some (.slice e)) (h2 : P.info? e = some i) (h3 : i.zero = some z) (h4 : i.size = size) (h5 : i.bytes = bytes) (h6 : z.cells.size = size) (h7 : 0 < size)
    (ao : Option Addr) (n cap : Nat) (olds : List Value) (hs : a.eval s = .slice ao n cap) (hl : Loose w ao e size n cap olds)
    (ad : Addr) (m c : Nat) (news : List Value) (hx : a.eval x = .slice (some ad) m c) (hn : news.length = m * size) (hc : ∀ j u, news[j]? = some u → w.cell? (ad.add j) = some u) (h1c : ∀ u ∈ news, u.oneCell' = true)
    (hm : 0 < m) (b1 : n + m ≤ maxLen) (b2 : (n + m) * bytes ≤ 140737488355328)
    (hK : ∀ g' c' w', Loose w' (some ⟨g', 0, none⟩) e size (n + m) c' (olds ++ news) → Only (ao.map (·.block)).toList w w' → (ao = some ⟨g', 0, none⟩ ∨ w.heap.size ≤ g') → K (a.put o.dst (.slice (some ⟨g', 0, none⟩) (n + m) c')) w') :
    if Region.wanted o (yielded ops a.tmps) = true then Oper.wp P o a w K Q else E := by
  by_cases hr : n + m ≤ cap
  · obtain ⟨q, rfl⟩ : ∃ q, ao = some q := by
      rcases hl.2.2.2 with ⟨_, h0, h00⟩ | ⟨g, _, rfl, _⟩
      · omega
      · exact ⟨_, rfl⟩
    obtain ⟨cur, hq, hb, hcs, hat⟩ := hl.blk
    obtain ⟨g, rfl⟩ : ∃ g, q = ⟨g, 0, none⟩ := ⟨_, hq⟩
    have hcs' : n * size + m * size ≤ cur.size := by rw [← Nat.add_mul]; exact Nat.le_trans (Nat.mul_le_mul_right size hr) hcs
    have hsp : ∀ j, j < news.length → (w.cell? ⟨g, 0 + n * size + j, none⟩).isSome = true ∧ w.frozen? ⟨g, 0 + n * size + j, none⟩ = false := by
      intro j hj
      rw [hn] at hj
      refine ⟨?_, hb.frozen _⟩
      rw [hb.cell]
      have : 0 + n * size + j < cur.size := by omega
      simp only [Array.getElem?_eq_getElem this, Option.isSome_some]
    refine step_append_room hg s x t hop e i size h1 h2 h4 g 0 n cap hs ad m c news hx hn hc h1c hr hsp ?_
    refine hK g cap _ ⟨by rw [List.length_append, hl.1, hn, Nat.add_mul], hr, hl.2.2.1, .inr ?_⟩ (only_setCellsL (by simp) _ _ _ _ (Only.refl _ w)) (.inl rfl)
    obtain ⟨cur', hb', hsz⟩ := blk_setCells' news (0 + n * size) w cur hb
    refine ⟨g, cur', rfl, hb', by rw [hsz]; exact hcs, fun j v hv => ?_⟩
    rw [← hb'.cell]
    by_cases hj : j < n * size
    · rw [World.cell?_setCells_out g news _ w _ (fun _ _ => .inl (by show j < _; omega)), hb.cell]
      rw [List.getElem?_append_left (by rw [hl.1]; exact hj)] at hv
      exact hat j v hv
    · rw [List.getElem?_append_right (by rw [hl.1]; omega), hl.1] at hv
      have hjn : j - n * size < news.length := (List.getElem?_eq_some_iff.1 hv).1
      have := World.cell?_setCells_in g news (0 + n * size) w (fun j hj => (hsp j hj).1) (j - n * size) hjn
      rw [show 0 + n * size + (j - n * size) = j by omega] at this
      rw [this, ← hv, List.getElem?_eq_getElem hjn]
  · refine step_append_grows hg s x t hop e i z size bytes h1 h2 h3 h4 h5 h6 h7 ao n cap olds hs ?_ hl.1 ?_ ad m c news hx hn hc h1c (by omega) b1 b2 ?_
    · intro h0
      rcases hl.2.2.2 with ⟨_, h0, h00⟩ | ⟨g, _, rfl, _⟩
      · exact ⟨h0, h00⟩
      · cases h0
    · rintro b rfl j u hu
      exact hl.news j u hu
    · intro v' w' hown hgrow
      rcases hown.2 with ⟨rfl, h0⟩ | ⟨g', cap', cur', rfl, hge, _⟩
      · omega
      · exact hK g' cap' w' (Loose.of_own hown) ((Only.refl _ w).grown hgrow (fun k hk => by cases hk)) (.inr hge)

theorem step_append_none {P : Program} {w : World} {ops : Array Oper} {o : Oper} {a : Act} {K : Act → World → Prop} {Q : Exit → Act → World → Prop} {E : Prop} (hgd : o.guard = none) (s x : Operand) (t : TypeId)
    (ho : o.op = .call { callee := .builtin .append, args := #[s, x], argTypes := #[t, t] }) (e : TypeId) (i : TypeInfo) (ht : P.underlying t = some (.slice e)) (hi : P.info? e = some i) (b A : Option Addr) (n cap c : Nat)
    (hb : b = none ∧ n = 0 ∧ cap = 0 ∨ ∃ g, b = some ⟨g, 0, none⟩) (hn : n ≤ cap)
    (hs : a.eval s = .slice b n cap) (hx : a.eval x = .slice A 0 c) (h : K (a.put o.dst (.slice b n cap)) w) :
    if Region.wanted o (yielded ops a.tmps) = true then Oper.wp P o a w K Q else E := by
  have hw : Region.wanted o (yielded ops a.tmps) = true := by simp [Region.wanted, hgd]
  rw [if_pos hw]
  have hrun := run_append_none (P := P) w t o.type e i ht hi b A n cap c hb hn
  unfold Oper.wp
  simp [execOp, ho, resolve, invoke, builtin, hs, hx, hrun, Result.andThen]
  exact h
theorem Loose.addr {w : World} {a : Option Addr} {e : TypeId} {s n c : Nat} {xs : List Value} (h : Loose w a e s n c xs) : a = none ∧ n = 0 ∧ c = 0 ∨ ∃ g, a = some ⟨g, 0, none⟩ := by
  rcases h.2.2.2 with h | ⟨g, _, h, _⟩
  · exact .inl h
  · exact .inr ⟨g, h⟩
/-- l[k:] of a slice at the head of a block, or nil. -/
theorem from_loose {P : Program} {w0 : World} {a : Option Addr} {T E s n c : Nat} {xs : List Value} (h : Loose w0 a E s n c xs) (hT : P.underlying T = some (.slice E)) (hE : P.elem T = E) (hs : ∀ w : World, (sizeOf E).run P w = .ok s w) (k : Nat) (hk : k ≤ n) (i : Int) (hi : i = k) :
    ∃ A, (∀ (w : World), (Instr.slice T (.slice a n c) (some (.int .i64 i)) none none).run P w = .ok (.slice A (n - k) (c - k)) w) ∧ (k < n → ∃ g, a = some ⟨g, 0, none⟩ ∧ A = some ⟨g, k * s, none⟩) := by
  subst hi
  have hc := h.cap_le
  refine ⟨if c = k then a else a.map (·.add (k * s)), fun w => ?_, fun hlt => ?_⟩
  · have h := run_slice_l (P := P) (w := w) T a n c (by rw [hE]; exact hT) .i64 k (by omega) (by omega)
    rw [h, hE, hs w]
    show Result.ok (sliced a ((k : Int).toNat) n c s) w = _
    rw [Int.toNat_natCast]
    simp only [sliced]
  · rcases h.addr with ⟨_, h0, _⟩ | ⟨g, rfl⟩
    · omega
    · exact ⟨g, rfl, by rw [if_neg (by omega)]; simp [addr_add]⟩
/-- l[:k:k]. -/
theorem to_loose {P : Program} {a : Option Addr} {T E s n c : Nat} (hT : P.underlying T = some (.slice E)) (hE : P.elem T = E) (hs : ∀ w : World, (sizeOf E).run P w = .ok s w) (k : Nat) (hk : k ≤ n) (hc : n ≤ c) (w : World) :
    (Instr.slice T (.slice a n c) none (some (.int .i64 k)) (some (.int .i64 k))).run P w = .ok (.slice a k k) w := by
  have h := run_slice_hm (P := P) (w := w) T a n c (by rw [hE]; exact hT) .i64 .i64 k k (by omega) (by omega) (by omega)
  rw [h, hE, hs w]
  show Result.ok (sliced a 0 ((k : Int).toNat) ((k : Int).toNat) s) w = _
  simp only [sliced, Int.toNat_natCast, Nat.sub_zero]
  have e : a.map (·.add (0 * s)) = a := by
    cases a with
    | none => rfl
    | some p => simp [Addr.add]
  rw [e]
  split <;> rfl
end Go.Proofs.Ytfhlcjfgbhmecaa
