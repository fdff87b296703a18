/- PlO, PlanS, Deep. -/
import Derived.Test.YtfhlcjfgbhmecaaZPlN
import Derived.Test.YtfhlcjfgbhmecaaZPlan
import Derived.Test.YtfhlcjfgbhmecaaZOpen
/- NetPlays: the calls that hand a message out, the message named. -/
namespace Go.Proofs.Ytfhlcjfgbhmecaa
open Go.RowKit
set_option linter.unusedVariables false
set_option maxRecDepth 100000
theorem upq_eta9 {α : Type} (f : Nat → α) (k : Nat) : upq f k (f k) = f := by
  funext j
  unfold upq
  split
  · rename_i e; rw [e]
  · rfl
section
variable {w0 w w' : World} {gn x : Nat} {room Sn Sr : Int} {Qn Qr : Nat → List (List Int)} {nk : Prop} {av : Nat → Prop}
theorem j_take_bs (h : J2 w0 w gn x room Sn Sr Qn Qr nk av) (s d z : Int) (a b : Nat) (ha : a < 6) (hb : b < 6) (hab : a ≠ b) (hl : Lnk 6 six s d (a * 6 + b)) (i : Nat) (hz : z = i) (bs : List Int) (hi : (Qn (a * 6 + b))[i]? = some bs) :
    Calls Try.prog 38 #[.pointer (some ⟨gn, 0, none⟩), .int .i64 s, .int .i64 d, .int .i64 z] w fun e w' => ∃ v, e = .returned (.tuple #[v, .bool true]) ∧ Txt w' w.heap.size v bs ∧ J2 w0 w' gn x room Sn Sr (upq Qn (a * 6 + b) (outAt (Qn (a * 6 + b)) i)) Qr nk av ∧ Stay w w' := by
  obtain ⟨h1, h2⟩ := List.getElem?_eq_some_iff.1 hi
  refine (j_take_ok h s d z a b ha hb hab hl i hz h1).mono ?_
  rintro e w' ⟨v, h3, h4, h5⟩
  rw [h2] at h4
  exact ⟨v, h3, h4, h5⟩
theorem j_peek_bs (h : J2 w0 w gn x room Sn Sr Qn Qr nk av) (s d z : Int) (a b : Nat) (hl : Lnk 6 six s d (a * 6 + b)) (i : Nat) (hz : z = i) (bs : List Int) (hi : (Qn (a * 6 + b))[i]? = some bs) :
    Calls Try.prog 33 #[.pointer (some ⟨gn, 0, none⟩), .int .i64 s, .int .i64 d, .int .i64 z] w fun e w' => ∃ v, e = .returned (.tuple #[v, .bool true]) ∧ Txt w' w.heap.size v bs ∧ Below w.heap.size w w' := by
  obtain ⟨h1, h2⟩ := List.getElem?_eq_some_iff.1 hi
  refine (j_peek_ok h s d z a b hl i hz h1).mono ?_
  rintro e w' ⟨v, h3, h4, h5⟩
  rw [h2] at h4
  exact ⟨v, h3, h4, h5⟩
theorem j_rdrop_bs (h : J2 w0 w gn x room Sn Sr Qn Qr nk av) (s d z : Int) (a b : Nat) (ha : a < 6) (hb : b < 6) (hab : a ≠ b) (hl : EIdx s d (eidx a b : Nat)) (i : Nat) (hz : z = i) (bs : List Int) (hi : (Qr (a * 6 + b))[i]? = some bs) :
    Calls Try.prog 85 #[.pointer (some ⟨x, 0, none⟩), .int .i64 s, .int .i64 d, .int .i64 z] w fun e w' => ∃ va cv, e = .returned (.tuple #[.slice va bs.length cv, .bool true]) ∧ VRow w0 va bs.length 1 (brow bs) ∧ J2 w0 w' gn x room Sn Sr Qn (upq Qr (a * 6 + b) (outAt (Qr (a * 6 + b)) i)) nk av ∧ Stay w w' := by
  obtain ⟨h1, h2⟩ := List.getElem?_eq_some_iff.1 hi
  refine (j_rdrop_ok h s d z a b ha hb hab hl i hz h1).mono ?_
  rintro e w' ⟨va, cv, h3, h4, h5⟩
  rw [h2] at h3 h4
  exact ⟨va, cv, h3, h4, h5⟩
theorem J2.queue_bs (h : J2 w0 w gn x room Sn Sr Qn Qr nk av) (a b : Nat) (ha : a < 6) (hb : b < 6) (hab : a ≠ b) (i : Nat) (bs : List Int) (hi : (Qr (a * 6 + b))[i]? = some bs) :
    ∃ (gq cq gr o c : Nat) (av : Option Addr) (cv : Nat), w.cell? ⟨x, 20, none⟩ = some (.slice (some ⟨gq, 0, none⟩) 30 cq) ∧ w.cell? ⟨gq, eidx a b, none⟩ = some (.slice (some ⟨gr, o, none⟩) (Qr (a * 6 + b)).length c) ∧
      w.cell? ⟨gr, o + i, none⟩ = some (.slice av bs.length cv) ∧ VRow w0 av bs.length 1 (brow bs) := by
  obtain ⟨h1, h2⟩ := List.getElem?_eq_some_iff.1 hi
  obtain ⟨gq, cq, A, c, q1, q2, q3⟩ := h.queue a b ha hb hab
  obtain ⟨gr, o, va, cv, rfl, _, q4, q5⟩ := q3 i h1
  rw [h2] at q4 q5
  exact ⟨gq, cq, gr, o, c, va, cv, q1, q2, q4, q5⟩
end
end Go.Proofs.Ytfhlcjfgbhmecaa
/- A plan's operation that its guard leaves out. Over any program. -/
namespace Go.Proofs.Ytfhlcjfgbhmecaa
open Go.RowKit
section
variable {P : Program} {Q : Exit → Act → World → Prop} {S : World → Prop} {n : Nat}
theorem wpPlan_skip {l : List Oper} {i : Nat} {p : Plan} {o : Oper} {a : Act} {w : World} (hi : nth l i = some o) (hw : Region.wanted o (yielded l.toArray a.tmps) = false) (hS : S w)
    (h : wpPlan P l.toArray Q S n p (a.put o.dst undef) w) : wpPlan P l.toArray Q S n (.take i p) a w :=
  ⟨o, undef, nth_arr hi, .inr ⟨hw, rfl⟩, hS, h⟩
end
end Go.Proofs.Ytfhlcjfgbhmecaa
/- Arguments opened deep: slices of structs of structs; slices of slices. Over any program. -/
namespace Go.Proofs.Ytfhlcjfgbhmecaa
open Go.ChangeShapes Go.WideShapes Go.ChangeAt Go.RowKit Go.Deep
set_option linter.unusedVariables false
section
variable {H : Type} {enc : TypeId × Value → H} {P : Program} {w : World} {base : Nat} {spare : Nat → Bool} {held : Bool}

/-- The type of the cell at a place of a type: an int or a slice, under structs of structs. -/
def leafAt (P : Program) : Nat → TypeId → Nat → Option TypeId
  | 0, _, _ => none
  | fu + 1, t, j => match P.underlying t with
    | some (.struct fs) => match fs.toList.find? (fun f => decide (f.offset ≤ j) && decide (j < f.offset + P.cellsOf f.type)) with
      | some f => leafAt P fu f.type (j - f.offset)
      | none => none
    | some (.int _) => if j = 0 then some t else none
    | some (.slice _) => if j = 0 then some t else none
    | _ => none
theorem trod_leaf : ∀ (fu : Nat) (t : TypeId) (j : Nat) (l : TypeId) (fuel : Nat) (cs : List Value) (x : DataW H × List MemPlace), leafAt P fu t j = some l → DataW.trod enc P w base spare held fuel t cs = some x →
    ∃ v n y, cs[j]? = some v ∧ DataW.trod enc P w base spare held n l [v] = some y
  | 0, t, j, l, fuel, cs, x, h, _ => by cases h
  | fu + 1, t, j, l, fuel, cs, x, h, hx => by
    unfold leafAt at h
    split at h
    · rename_i fs ht
      split at h
      · rename_i f hf
        obtain ⟨xs, n, _, _, hl, hlen, hg⟩ := DataW.trod_struct ht hx
        have hm := List.mem_of_find?_eq_some hf
        have hp := List.find?_some hf
        simp only [Bool.and_eq_true, decide_eq_true_eq] at hp
        obtain ⟨i, hi, he⟩ := List.mem_iff_getElem.1 hm
        have hfi : fs[i]? = some f := by
          rw [← he]
          simp only [Array.getElem_toList]
          exact Array.getElem?_eq_getElem (by simpa using hi)
        have hgi := hg i f hfi
        have hil : i < xs.length := by rw [hlen]; simpa using hi
        rw [List.getElem?_eq_getElem hil] at hgi
        obtain ⟨v, n', y, hv, hy⟩ := trod_leaf fu f.type (j - f.offset) l n _ _ h hgi
        refine ⟨v, n', y, ?_, hy⟩
        rw [List.getElem?_take] at hv
        split at hv
        · rw [List.getElem?_drop] at hv
          rwa [show f.offset + (j - f.offset) = j by omega] at hv
        · cases hv
      · cases h
    · rename_i k ht
      split at h
      · rename_i hj
        cases h
        obtain ⟨z, rfl, _, _⟩ := DataW.trod_int ht hx
        exact ⟨_, fuel, x, by rw [hj]; rfl, hx⟩
      · cases h
    · rename_i e ht
      split at h
      · rename_i hj
        cases h
        rcases DataW.trod_slice ht hx with ⟨rfl, _⟩ | ⟨a, len, cap, _, _, _, _, rfl, _⟩
        · exact ⟨_, fuel, x, by rw [hj]; rfl, hx⟩
        · exact ⟨_, fuel, x, by rw [hj]; rfl, hx⟩
      · cases h
    · cases h

/-- All its cells are ints. -/
def allInts (P : Program) (t : TypeId) : Bool := (List.range (P.cellsOf t)).all fun j => match leafAt P 8 t j with
  | some l => (match P.underlying l with | some (.int .i64) => true | _ => false)
  | none => false
theorem allInts_at {t : TypeId} (h : allInts P t = true) {j : Nat} (hj : j < P.cellsOf t) : ∃ l, leafAt P 8 t j = some l ∧ P.underlying l = some (.int .i64) := by
  have := List.all_eq_true.1 h j (List.mem_range.2 hj)
  split at this
  · rename_i l hl
    split at this
    · rename_i hu
      exact ⟨l, hl, hu⟩
    · cases this
  · cases this

theorem flat_of_trod {t e : TypeId} {k : Nat} {a0 : Option Addr} {n c fuel : Nat} {x : DataW H × List MemPlace} (ht : P.underlying t = some (.slice e)) (hk : P.cellsOf e = k) (hpos : 0 < k) (hint : allInts P e = true)
    (hf : DataW.trod enc P w base (fun _ => true) held fuel t [.slice a0 n c] = some x) : n ≤ c ∧ c ≤ maxLen ∧ ∃ g, Flat w a0 n k g := by
  subst hk
  rcases Go.Deep.open_slice ht hf with ⟨hcs, _⟩ | ⟨a, len, cap, m, nn, D, Pl, hcs, _, hl, hm, hmm, _, hi⟩
  · simp only [List.cons.injEq, and_true] at hcs
    injection hcs with h1 h2 h3
    subst h1
    subst h2
    subst h3
    exact ⟨Nat.le_refl _, by simp [maxLen], fun _ => 0, fun _ => I64.zero, fun h => absurd h (by omega)⟩
  · simp only [List.cons.injEq, and_true] at hcs
    injection hcs with h1 h2 h3
    subst h1
    subst h2
    subst h3
    have hmc : m = c := by simpa using hmm
    subst hmc
    have key : ∀ i, i < n * P.cellsOf e → ∃ z : Int, w.cell? (a.add i) = some (.int .i64 z) ∧ I64 z := by
      intro i hin
      have h1 : i / P.cellsOf e < n := (Nat.div_lt_iff_lt_mul hpos).2 hin
      have h2 : i % P.cellsOf e < P.cellsOf e := Nat.mod_lt _ hpos
      obtain ⟨cs', hc, hy⟩ := hi (i / P.cellsOf e) (by omega)
      obtain ⟨l, hl1, hl2⟩ := allInts_at hint h2
      obtain ⟨v, n', y, hv, hy'⟩ := trod_leaf 8 e _ l _ cs' _ hl1 hy
      obtain ⟨z, hz, _, hw⟩ := DataW.trod_int hl2 hy'
      simp only [List.cons.injEq, and_true] at hz
      subst hz
      obtain ⟨_, _, hat⟩ := World.cells?_some hc
      have hc' := (hat _ h2).trans hv
      rw [Go.Deep.add_add, show i / P.cellsOf e * P.cellsOf e + i % P.cellsOf e = i by rw [Nat.mul_comm]; exact Nat.div_add_mod i _] at hc'
      exact ⟨z, hc', I64.of_wf hw⟩
    refine ⟨hl, hm, fun i => if i < n * P.cellsOf e then intIn (w.cell? (a.add i)) else 0, ?_, ?_⟩
    · intro i
      by_cases hin : i < n * P.cellsOf e
      · obtain ⟨z, hz, hw⟩ := key i hin
        simp only [if_pos hin, hz, intIn]
        exact hw
      · simp only [if_neg hin]
        exact I64.zero
    · intro hn
      have h0 : 0 < n * P.cellsOf e := Nat.mul_pos hn hpos
      obtain ⟨z, hz, _⟩ := key 0 h0
      obtain ⟨b, off, spot⟩ := a
      have hspot : spot = none := by simpa [Addr.add] using World.cell?_spot hz
      subst hspot
      refine ⟨b, off, rfl, by simpa [Addr.add] using lt_of_cell hz, fun i hin => ?_⟩
      obtain ⟨z, hz, _⟩ := key i hin
      simp only [if_pos hin, hz, intIn]
      rw [← hz, addr_add]

theorem open_flatD {t e : TypeId} {k : Nat} {v : Value} {r : Reach} {b0 : Nat} {d : DataW H} {p : List MemPlace} (ht : P.underlying t = some (.slice e)) (hk : P.cellsOf e = k) (hpos : 0 < k) (hint : allInts P e = true)
    (hv : Value.okWide P w r b0 t v) (h : DataW.Trod enc P w base (fun _ => true) held t v d p) : ∃ a n c g, v = .slice a n c ∧ n ≤ c ∧ c ≤ maxLen ∧ Flat w a n k g := by
  obtain ⟨a0, n, c, rfl⟩ := okWide_slice ht hv
  obtain ⟨fuel, hf⟩ := h
  obtain ⟨h1, h2, g, hg⟩ := flat_of_trod ht hk hpos hint hf
  exact ⟨a0, n, c, g, rfl, h1, h2, hg⟩

/-- One slice of a slice of slices: where it lies, how long it is, what it reads as. -/
structure Inner where
  a : Option Addr
  n : Nat
  c : Nat
  g : Nat → Int
/-- A slice of slices of structs of k integers each. -/
def Rows2 (w : World) (a : Option Addr) (n k : Nat) (R : Nat → Inner) : Prop :=
  0 < n → ∃ b off, a = some ⟨b, off, none⟩ ∧ b < w.heap.size ∧ ∀ i, i < n → w.cell? ⟨b, off + i, none⟩ = some (.slice (R i).a (R i).n (R i).c) ∧ (R i).n ≤ (R i).c ∧ (R i).c ≤ maxLen ∧ Flat w (R i).a (R i).n k (R i).g
theorem open_rows2 {t e f : TypeId} {k : Nat} {v : Value} {r : Reach} {b0 : Nat} {d : DataW H} {p : List MemPlace} (ht : P.underlying t = some (.slice e)) (he : P.underlying e = some (.slice f)) (hc1 : P.cellsOf e = 1) (hk : P.cellsOf f = k) (hpos : 0 < k) (hint : allInts P f = true)
    (hv : Value.okWide P w r b0 t v) (h : DataW.Trod enc P w base (fun _ => true) held t v d p) : ∃ a n c R, v = .slice a n c ∧ n ≤ c ∧ c ≤ maxLen ∧ Rows2 w a n k R := by
  obtain ⟨a0, n, c, rfl⟩ := okWide_slice ht hv
  obtain ⟨fuel, hf⟩ := h
  rcases Go.Deep.open_slice ht hf with ⟨hcs, _⟩ | ⟨a, len, cap, m, nn, D, Pl, hcs, _, hl, hm, hmm, _, hi⟩
  · simp [Value.cells] at hcs
    obtain ⟨rfl, rfl, rfl⟩ := hcs
    exact ⟨none, 0, 0, fun _ => ⟨none, 0, 0, fun _ => 0⟩, rfl, by omega, by simp [maxLen], fun h => absurd h (by omega)⟩
  · simp [Value.cells] at hcs
    obtain ⟨rfl, rfl, rfl⟩ := hcs
    have hmc : m = c := by simpa using hmm
    subst hmc
    have key : ∀ i, i < n → ∃ R : Inner, w.cell? (a.add i) = some (.slice R.a R.n R.c) ∧ R.n ≤ R.c ∧ R.c ≤ maxLen ∧ Flat w R.a R.n k R.g := by
      intro i hin
      obtain ⟨cs', hc, hy⟩ := hi i (by omega)
      rw [hc1] at hc
      obtain ⟨_, hlen, hat⟩ := World.cells?_some hc
      have h0 := hat 0 (by omega)
      rw [Nat.mul_one] at h0
      obtain ⟨v, rfl⟩ : ∃ v, cs' = [v] := by
        match cs', hlen with
        | [v], _ => exact ⟨v, rfl⟩
      have hcell : w.cell? (a.add i) = some v := by rw [Go.Deep.add_add] at h0; simpa using h0
      rcases DataW.trod_slice he hy with ⟨hv, _⟩ | ⟨a', len', cap', _, _, _, _, hv, _⟩
      · simp only [List.cons.injEq, and_true] at hv
        subst hv
        obtain ⟨h1, h2, g, hg⟩ := flat_of_trod he hk hpos hint hy
        exact ⟨⟨none, 0, 0, g⟩, hcell, h1, h2, hg⟩
      · simp only [List.cons.injEq, and_true] at hv
        subst hv
        obtain ⟨h1, h2, g, hg⟩ := flat_of_trod he hk hpos hint hy
        exact ⟨⟨some a', len', cap', g⟩, hcell, h1, h2, hg⟩
    refine ⟨some a, n, m, fun i => if h : i < n then Classical.choose (key i h) else ⟨none, 0, 0, fun _ => 0⟩, rfl, hl, hm, fun hn => ?_⟩
    obtain ⟨R0, hR0, _⟩ := key 0 hn
    obtain ⟨b, off, spot⟩ := a
    have hspot : spot = none := by simpa [Addr.add] using World.cell?_spot hR0
    subst hspot
    refine ⟨b, off, rfl, by simpa [Addr.add] using lt_of_cell hR0, fun i hin => ?_⟩
    have hk' := Classical.choose_spec (key i hin)
    simp only [dif_pos hin]
    rw [← addr_add]
    exact hk'
end
end Go.Proofs.Ytfhlcjfgbhmecaa
