/- Flat, Row, AppNo, Frame. -/
import Derived.Test.YtfhlcjfgbhmecaaZOnly
import Derived.OneCell
import Derived.Deep.AppendLies
import Derived.WalkKit
import Derived.ProofKit
import Derived.OpenShut
import Derived.Below
import Derived.Carry
import Derived.SizedLaws
/- Rows of cells: a list of things, each of s cells, one behind the other. Plain lists. -/
namespace Go.Proofs.Ytfhlcjfgbhmecaa
open Go.RowKit
set_option linter.unusedVariables false
section
variable {α β : Type}

theorem flat_len (f : α → List β) (s : Nat) (hs : ∀ x, (f x).length = s) : ∀ st : List α, (st.flatMap f).length = st.length * s
  | [] => by simp
  | y :: ys => by simp [flat_len f s hs ys, hs, Nat.add_mul, Nat.add_comm]
theorem flat_get (f : α → List β) (s : Nat) (hs : ∀ x, (f x).length = s) : ∀ (st : List α) (k j : Nat), j < s → (st.flatMap f)[k * s + j]? = st[k]?.bind fun x => (f x)[j]?
  | [], k, j, hj => by simp
  | y :: ys, 0, j, hj => by
    rw [List.flatMap_cons, List.getElem?_append_left (by rw [hs]; omega)]
    simp
  | y :: ys, k + 1, j, hj => by
    have e : (k + 1) * s + j = s + (k * s + j) := by rw [Nat.add_mul]; omega
    rw [List.flatMap_cons, List.getElem?_append_right (by rw [hs, e]; omega), hs, e, Nat.add_sub_cancel_left, flat_get f s hs ys k j hj]
    simp

/-- Several things set, one behind the other. -/
def setMany : List β → Nat → List β → List β
  | L, _, [] => L
  | L, i, v :: vs => setMany (L.set i v) (i + 1) vs
theorem setMany_right (A : List β) : ∀ (B R : List β) (i : Nat), setMany (A ++ R) (A.length + i) B = A ++ setMany R i B
  | [], R, i => rfl
  | v :: vs, R, i => by
    unfold setMany
    rw [List.set_append_right _ _ (by omega), Nat.add_sub_cancel_left, Nat.add_assoc, setMany_right A vs _ (i + 1)]
theorem setMany_left : ∀ (B A R : List β), A.length = B.length → setMany (A ++ R) 0 B = B ++ R
  | [], [], R, h => rfl
  | v :: vs, a :: as, R, h => by
    have e := setMany_right [v] vs (as ++ R) 0
    unfold setMany
    show setMany (v :: (as ++ R)) (0 + 1) vs = _
    have e' : setMany (v :: (as ++ R)) (0 + 1) vs = v :: setMany (as ++ R) 0 vs := by simpa using e
    rw [e', setMany_left vs as R (by simpa using h)]
    rfl
theorem flat_set (f : α → List β) (s : Nat) (hs : ∀ x, (f x).length = s) (x : α) : ∀ (st : List α) (k : Nat), k < st.length → setMany (st.flatMap f) (k * s) (f x) = (st.set k x).flatMap f
  | y :: ys, 0, _ => by
    rw [List.flatMap_cons, Nat.zero_mul, setMany_left _ _ _ (by rw [hs, hs])]
    rfl
  | y :: ys, k + 1, h => by
    have e : (k + 1) * s = (f y).length + k * s := by rw [hs, Nat.add_mul]; omega
    rw [List.flatMap_cons, e, setMany_right, flat_set f s hs x ys k (by simpa using h)]
    rfl
theorem flat_set2 (f : α → List β) (hs : ∀ x, (f x).length = 2) (x : α) (a b : β) (hx : f x = [a, b]) (st : List α) (k : Nat) (h : k < st.length) :
    ((st.flatMap f).set (k * 2) a).set (k * 2 + 1) b = (st.set k x).flatMap f := by
  rw [← flat_set f 2 hs x st k h, hx]
  rfl
theorem flat_set3 (f : α → List β) (hs : ∀ x, (f x).length = 3) (x : α) (a b c : β) (hx : f x = [a, b, c]) (st : List α) (k : Nat) (h : k < st.length) :
    (((st.flatMap f).set (k * 3) a).set (k * 3 + 1) b).set (k * 3 + 1 + 1) c = (st.set k x).flatMap f := by
  rw [← flat_set f 3 hs x st k h, hx]
  rfl
theorem flat_get' (f : α → List β) (s : Nat) (hs : ∀ x, (f x).length = s) (st : List α) (k j : Nat) (hj : j < s) (hk : k < st.length) (v : β) (hv : (f st[k])[j]? = some v) : (st.flatMap f)[k * s + j]? = some v := by
  rw [flat_get f s hs st k j hj, List.getElem?_eq_getElem hk]
  exact hv
end
end Go.Proofs.Ytfhlcjfgbhmecaa
/- A row of cells at the head of a block, with room behind it: what a slice of the program's own looks at. Over any program. -/
namespace Go.Proofs.Ytfhlcjfgbhmecaa
open Go.RowKit
set_option linter.unusedVariables false

/-- The slice of n elements (s cells each) of type e at the head of block g holds xs; it has room for cap. -/
def Row (w : World) (g : Nat) (e : TypeId) (s n cap : Nat) (xs : List Value) : Prop := w.ownsRow 0 e s (.slice (some ⟨g, 0, none⟩) n cap) n xs
section
variable {w w' : World} {g : Nat} {e : TypeId} {s n cap : Nat} {xs : List Value} {S : List Nat}
theorem own_base {base base' : Nat} {v : Value} (h : w.ownsRow base e s v n xs) (hb : ∀ g, v.ownBlock = some g → base' ≤ g) : w.ownsRow base' e s v n xs := by
  refine ⟨h.1, ?_⟩
  rcases h.2 with hv | ⟨g, cap, cur, rfl, _, rest⟩
  · exact .inl hv
  · exact .inr ⟨g, cap, cur, rfl, hb g rfl, rest⟩
theorem Row.of_own {base : Nat} (h : w.ownsRow base e s (.slice (some ⟨g, 0, none⟩) n cap) n xs) : Row w g e s n cap xs := own_base h fun _ _ => Nat.zero_le _
theorem Row.own (h : Row w g e s n cap xs) {base : Nat} (hb : base ≤ g) : w.ownsRow base e s (.slice (some ⟨g, 0, none⟩) n cap) n xs := own_base h fun k hk => by
  simp [Value.ownBlock] at hk
  subst hk
  exact hb
theorem Row.len (h : Row w g e s n cap xs) : xs.length = n * s := h.1
theorem Row.lt (h : Row w g e s n cap xs) : g < w.heap.size := (World.ownsRow.lt h g rfl).2
theorem Row.parts (h : Row w g e s n cap xs) : ∃ cur, Blk w g e cur ∧ n ≤ cap ∧ cap ≤ maxLen ∧ cur.size = cap * s ∧ cur.toList.take (n * s) = xs := by
  rcases h.2 with ⟨h', _⟩ | ⟨g', cap', cur, h', _, hg, h1, h2, h3, h4⟩
  · simp at h'
  · simp only [Value.slice.injEq, Option.some.injEq, Addr.mk.injEq, and_true, true_and] at h'
    obtain ⟨rfl, rfl⟩ := h'
    exact ⟨cur, hg, h1, h2, h3, h4⟩
theorem Row.cap_le (h : Row w g e s n cap xs) : n ≤ cap := by
  obtain ⟨_, _, h1, _⟩ := h.parts
  exact h1
theorem Row.cap_max (h : Row w g e s n cap xs) : cap ≤ maxLen := by
  obtain ⟨_, _, _, h1, _⟩ := h.parts
  exact h1
theorem Row.cell (h : Row w g e s n cap xs) {j : Nat} {v : Value} (hv : xs[j]? = some v) : w.cell? ⟨g, j, none⟩ = some v := by
  have hj : j < n * s := by
    rw [← h.1]
    exact (List.getElem?_eq_some_iff.1 hv).1
  rw [World.ownsRow.cellAt h j hj, hv]
theorem Row.frozen (h : Row w g e s n cap xs) (j : Nat) : w.frozen? ⟨g, j, none⟩ = false := World.ownsRow.frozenAt h j
theorem Row.drew (h : Row w g e s n cap xs) : Row w.drew g e s n cap xs := h
theorem Row.drewN (h : Row w g e s n cap xs) (k : Nat) : Row (w.drewN k) g e s n cap xs := h
theorem Row.only (h : Row w g e s n cap xs) (ho : Only S w w') (hn : g ∉ S) : Row w' g e s n cap xs := own_only h ho fun k hk => by
  simp [Value.ownBlock] at hk
  subst hk
  exact hn
theorem Row.below (h : Row w g e s n cap xs) (hb : Below w.heap.size w w') : Row w' g e s n cap xs := h.only (Only.of_below (S := []) hb) (List.not_mem_nil)
theorem Row.alloc (h : Row w g e s n cap xs) (o : Obj) : Row (w.alloc o) g e s n cap xs := World.ownsRow.alloc h o
theorem Row.set_ (h : Row w g e s n cap xs) (j : Nat) (u : Value) : Row (w.setCell ⟨g, j, none⟩ u) g e s n cap (xs.set j u) := (World.ownsRow.stored h j u).1
theorem Row.far (h : Row w g e s n cap xs) {p : Addr} (hp : g ≠ p.block) (u : Value) : Row (w.setCell p u) g e s n cap xs := ownsRow_setCell_other h (fun e => hp (Option.some.inj e)) u
theorem Row.of_blk {cs : Array Value} (h : Blk w g e cs) (hs : cs.size = n * s) (hm : n ≤ maxLen) : Row w g e s n n cs.toList :=
  ⟨by simpa using hs, .inr ⟨g, n, cs, rfl, Nat.zero_le _, h, Nat.le_refl _, hm, hs, List.take_of_length_le (by rw [← hs]; exact Nat.le_of_eq Array.length_toList)⟩⟩
theorem Row.ne (h : Row w g e s n cap xs) {g' : Nat} {t : TypeId} {cs : Array Value} (h' : Blk w g' t cs) (hne : e ≠ t) : g ≠ g' := by
  obtain ⟨cur, hb, _⟩ := h.parts
  exact hb.ne_ h' hne
theorem Row.news (h : Row w g e s n cap xs) : ∀ j u, xs[j]? = some u → w.cell? ((⟨g, 0, none⟩ : Addr).add j) = some u := by
  intro j u hu
  have e : ((⟨g, 0, none⟩ : Addr).add j) = ⟨g, j, none⟩ := by
    unfold Addr.add
    by_cases hj : j = 0
    · subst hj; simp
    · simp [hj]
  rw [e]
  exact h.cell hu
end
end Go.Proofs.Ytfhlcjfgbhmecaa
/- append of nothing to a row of one's own, as a step of a plain walk. Over any program. -/
namespace Go.Proofs.Ytfhlcjfgbhmecaa
open Go.RowKit
set_option linter.unusedVariables false
set_option linter.unusedSimpArgs false

theorem run_append_none {P : Program} (w : World) (t ty e : TypeId) (i : TypeInfo) (ht : P.underlying t = some (.slice e)) (hi : P.info? e = some i) (a A : Option Addr) (n cap c : Nat) (ha : a = none ∧ n = 0 ∧ cap = 0 ∨ ∃ g, a = some ⟨g, 0, none⟩) (hn : n ≤ cap) :
    (Builtin.append_ #[t, t] ty #[.slice a n cap, .slice A 0 c]).run P w = .ok (.slice a n cap) w := by
  have hl : ∀ (x : Addr), (loadCells x 0).run P w = .ok #[] w := fun x => by simpa using run_loadCells_list (P := P) w x [] (by simp)
  rcases ha with ⟨rfl, rfl, rfl⟩ | ⟨g, rfl⟩
  · cases A <;> simp [Builtin.append_, run_underlying ht, sizeOf, typeInfo, hi, Builtin.lenOf, Builtin.firstCells, storeCells, hl]
  · cases A <;> simp [Builtin.append_, run_underlying ht, sizeOf, typeInfo, hi, Builtin.lenOf, Builtin.firstCells, hn, storeCells, hl]
theorem own_addr {w : World} {base n s c : Nat} {e : TypeId} {a : Option Addr} {xs : List Value} (h : w.ownsRow base e s (.slice a n c) n xs) : a = none ∧ n = 0 ∧ c = 0 ∨ ∃ g, a = some ⟨g, 0, none⟩ := by
  rcases h.2 with ⟨hv, h0⟩ | ⟨g, cap, cur, hv, _⟩
  · injection hv with e1 e2 e3
    exact .inl ⟨e1, h0, e3⟩
  · injection hv with e1 e2 e3
    exact .inr ⟨g, e1⟩
theorem wpList_append_no {P : Program} {w : World} {ops : Array Oper} {rest : List Oper} {o : Oper} {a : Act} {Q : Exit → Act → World → Prop} (hgd : o.guard = none) (s x : Operand) (t : TypeId)
    (ho : o.op = .call { callee := .builtin .append, args := #[s, x], argTypes := #[t, t] }) (e : TypeId) (i : TypeInfo) (ht : P.underlying t = some (.slice e)) (hi : P.info? e = some i) (b A : Option Addr) (n cap c : Nat)
    (hb : b = none ∧ n = 0 ∧ cap = 0 ∨ ∃ g, b = some ⟨g, 0, none⟩) (hn : n ≤ cap) (hs : a.eval s = .slice b n cap) (hx : a.eval x = .slice A 0 c) (h : wpList P ops Q rest (a.put o.dst (.slice b n cap)) w) : wpList P ops Q (o :: rest) a w :=
  wpList_plain hgd fun _ hK => by
    have hrun := run_append_none (P := P) w t o.type e i ht hi b A n cap c hb hn
    unfold Oper.wp
    simp [execOp, ho, resolve, invoke, builtin, hs, hx, hrun, Result.andThen]
    exact hK _ _ h
theorem own_sep {w : World} {base n s c g : Nat} {e t : TypeId} {a : Option Addr} {xs : List Value} {cs : Array Value} (h : w.ownsRow base e s (.slice a n c) n xs) (hg : Blk w g t cs) (hne : e ≠ t) : ∀ p, a = some p → p.block ≠ g := by
  rintro p rfl rfl
  exact own_blk_ne h hg hne (by simp [Value.ownBlock])
end Go.Proofs.Ytfhlcjfgbhmecaa
/- The frame of every law here: what the walk must show, and that it is enough for the given statement. Over any program. -/
namespace Go.Proofs.Ytfhlcjfgbhmecaa
open Go.ChangeShapes Go.WideShapes Go.ChangeAt Go.RowKit
set_option linter.unusedVariables false
section
variable {H : Type} {enc : TypeId × Value → H} {P : Program}

theorem trodAll_below (hl : laidOutB P = true) {W W' : World} (hb : Below W.heap.size W W') : ∀ {ts : List TypeId} {vs : List Value} {ds : List (DataW H)} {ps : List MemPlace},
    ts.all (fun t => P.readableRec t && decide (t < P.types.size)) = true → DataW.TrodAll enc P W 0 (fun _ => true) true ts vs ds ps → (∀ x ∈ ps, x.block < W.heap.size) →
    DataW.TrodAll enc P W' 0 (fun b => decide (b < W.heap.size)) true ts vs ds ps
  | [], vs, ds, ps, _, h, _ => by
    obtain ⟨rfl, rfl, rfl⟩ := trodAll_nil h
    exact trodAll_mk0
  | t :: ts, vs, ds, ps, ht, h, hlt => by
    obtain ⟨v, vs', d, ds', p, q, rfl, rfl, rfl, h1, h2⟩ := trodAll_cons h
    simp only [List.all_cons, Bool.and_eq_true, decide_eq_true_eq] at ht
    exact trodAll_cons_mk (Below.trod hl ht.1.1 ht.1.2 h1 hb (fun x hx => hlt x (List.mem_append_left _ hx)))
      (trodAll_below hl hb (by simpa using ht.2) h2 (fun x hx => hlt x (List.mem_append_right _ hx)))

/-- What the walk of a law is asked: whatever the arguments, the law returns true, and what was there is there as it was. -/
def LawWalk (C : Checked) (F : FuncId) (fn : Func) : Prop :=
  ∀ (H : Type) (enc : TypeId × Value → H) (W : World) (base : Nat) (args : Array Value) (ds : List (DataW H)) (p : List MemPlace),
    (∀ (j : Nat) t v, fn.params[j]? = some t → args[j]? = some v → Value.okWide C.prog W .any base t v) →
    DataW.TrodAll enc C.prog W 0 (fun _ => true) true fn.params.toList args.toList ds p →
    (DataW.weightsEach C.prog fn.params.toList ds).all (· ≤ reachBytes) = true →
    Calls C.prog F args W fun e W' => e = .returned (.bool true) ∧ Below W.heap.size W W'

theorem law_lift {C : Checked} {os : Os} {F : FuncId} {fn : Func} {s : ChangeSpec} {tb : TypeId}
    (own : ownKnob C.prog.godebug = none) (started : os.Started) (noInit : C.prog.inits.idxOf? F = none) (hfn : C.prog.funcs[F]? = some fn)
    (witness : ∃ (w : World) (tape : Tape) (i : Input), w.os = os ∧ (w.forCall tape i).Shaped C.prog ∧ i.vars = [] ∧ Input.okWide C.prog (w.forCall tape i) .any w.heap.size F i ∧
      s.pre6 enc C.prog fn [] false (w.forCall tape i).memory i.args ∧ ({} : Assume).holds C.prog (lone (Frame.enter C.prog F i.args .normal) [] (w.forCall tape i)))
    (hv : s.vars = []) (hs : ∀ (H : Type) (ds : List (DataW H)), ds.length = fn.params.size → s.fn H ds = { results := [.lit (.bool true)], args := ds })
    (hl : laidOutB C.prog = true) (hp : fn.params.toList.all (fun t => C.prog.readableRec t && decide (t < C.prog.types.size)) = true)
    (hr : fn.resultTypes = #[tb]) (hb : C.prog.underlying tb = some .bool)
    (walk : LawWalk C F fn) :
    ReturnsInHanded {} C os F .any (s.pre6 enc C.prog fn [] false) (s.post enc C.prog fn false true false false) := by
  refine returnsInHanded_of_change_sized own started noInit hfn witness ?_
  intro W base args ds gs before hval hW _ hsz _
  have hW' := hW
  obtain ⟨p, q, hA, hV, rfl, hfz, hnd⟩ := hW
  rw [hv] at hV
  obtain ⟨rfl, rfl⟩ := trodVars_none hV
  have hlen : ∀ {ts : List TypeId} {vs : List Value} {ds : List (DataW H)} {ps : List MemPlace}, DataW.TrodAll enc C.prog W 0 (fun _ => true) true ts vs ds ps → ds.length = ts.length := by
    intro ts
    induction ts with
    | nil => intro vs ds ps h; obtain ⟨_, rfl, _⟩ := trodAll_nil h; rfl
    | cons t ts ih =>
      intro vs ds ps h
      obtain ⟨v, vs', d, ds', p, q, rfl, rfl, rfl, h1, h2⟩ := trodAll_cons h
      simp [ih h2]
  have hdl : ds.length = fn.params.size := by simpa using hlen hA
  have hlt : ∀ x ∈ p, x.block < W.heap.size := fun x hx => hW'.lt x (by simpa using hx)
  have hsz' : (DataW.weightsEach C.prog fn.params.toList ds).all (· ≤ reachBytes) = true := by
    have hvt : s.plain.varTypes C.prog = [] := by simp [ChangeSpec.plain, DataSpec.varTypes, hv]
    rw [hvt] at hsz
    simpa using hsz
  refine (walk H enc W base args ds p hval hA hsz').mono fun e W' ⟨he, bel⟩ => ?_
  subst he
  have hfn' : s.fn H (ds ++ []) = { results := [.lit (.bool true)], args := ds } := by rw [List.append_nil]; exact hs H ds hdl
  refine ⟨_, rfl, _, _, _, [], p, [], hW', ?_, ?_, ?_, bel.frame _, fun h => by cases h⟩
  · rw [hfn', hr]
    exact trodAll_mk1 (shut_bool hb _)
  · rw [hfn']
    exact trodAll_below hl bel hp hA hlt
  · rw [hfn', hv]
    exact rfl
end
end Go.Proofs.Ytfhlcjfgbhmecaa
