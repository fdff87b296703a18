/- Maps from pairs to ints: what they hold; the instructions on them. -/
import Derived.Test.YtfhlcjfgbhmecaaPairs
import Derived.Test.YtfhlcjfgbhmecaaOnly
import Derived.DeepKeys4
import Derived.Maps.OwnSet
namespace Go.Proofs.Ytfhlcjfgbhmecaa
open Go.RowKit Go.Maps
open Go.ChangeMaps (setBlock heap_setBlock_same)
set_option linter.unusedVariables false
set_option maxRecDepth 20000

theorem plaw : Keyed Try.prog 75 := Keyed.of_law (deep_law_laid (by kernel_rfl) (m := 2) (by omega) (of_decide_eq_true (by kernel_rfl)) (by kernel_rfl) (by rw [Try.underlying75]))
/-- A pair, as a key. -/
def pv (e : Int × Int) : Value := .agg #[.int .i64 e.1, .int .i64 e.2]
def OkP (e : Int × Int) : Prop := I64 e.1 ∧ I64 e.2
theorem lits_int (d : Nat) (x : Int) (hx : I64 x) : Try.prog.keyLits (d + 1) 3 [.int .i64 x] = some [.int .i64 x] := by
  have h1 : (Lit.int .i64 x).wf = true := WalkArith.wf_i64 hx
  rw [Program.keyLits.eq_def]
  simp only [Try.underlying3]
  rw [if_pos (by first | exact ⟨rfl, h1⟩ | exact ⟨trivial, h1⟩ | simpa using h1)]
theorem lits_two (d : Nat) (x y : Int) (hx : I64 x) (hy : I64 y) : Try.prog.keyLits (d + 2) 75 [.int .i64 x, .int .i64 y] = some [.int .i64 x, .int .i64 y] := by
  have c1 : Try.prog.cellsOf 3 = 1 := by kernel_rfl
  have c3 : Try.prog.cellsOf 75 = 2 := by kernel_rfl
  rw [Program.keyLits.eq_def]
  simp only [Try.underlying75]
  rw [if_pos (by rw [c3]; rfl), c1]
  have e0 := lits_int d x hx
  have e1 := lits_int d y hy
  have e2 : List.range 2 = [0, 1] := rfl
  rw [e2]
  simp [List.mapM_cons, List.mapM_nil, e0, e1]
theorem pof {e : Int × Int} (h : OkP e) : ∃ l, keyOf Try.prog 75 (pv e) = some l := by
  have hf : (pv e).formed Try.prog 75 = true := by
    unfold pv
    simp [Value.formed, Try.underlying75]
    kernel_rfl
  have c4 : Try.prog.keyType 75 = true := by kernel_rfl
  obtain ⟨d, hd⟩ : ∃ d, Try.prog.types.size + 1 = d + 2 := ⟨Try.prog.types.size - 1, by have : 1 ≤ Try.prog.types.size := of_decide_eq_true (by kernel_rfl); omega⟩
  unfold keyOf
  rw [Try.underlying75]
  simp only []
  rw [if_pos (by rw [c4, hf]; rfl), hd]
  unfold pv
  have e : (Value.agg #[.int .i64 e.1, .int .i64 e.2]).cells.toList = [.int .i64 e.1, .int .i64 e.2] := by simp [Value.cells]
  rw [e, lits_two d _ _ h.1 h.2]
  exact ⟨_, rfl⟩
theorem pv_inj {a b : Int × Int} (h : pv a = pv b) : a = b := by
  unfold pv at h
  injection h with h
  have h1 : Value.int .i64 a.1 = .int .i64 b.1 ∧ Value.int .i64 a.2 = .int .i64 b.2 := by simpa using h
  injection h1.1 with _ e1
  injection h1.2 with _ e2
  exact Prod.ext e1 e2

/-- What stands at a pair; 0, if nothing does. -/
def getK (K : List ((Int × Int) × Int)) (p : Int × Int) : Int := ((K.find? fun e => decide (e.1 = p)).map Prod.snd).getD 0
def hasK (K : List ((Int × Int) × Int)) (p : Int × Int) : Prop := ∃ e ∈ K, e.1 = p
def setK (K : List ((Int × Int) × Int)) (p : Int × Int) (v : Int) : List ((Int × Int) × Int) := K.map fun e => if e.1 = p then (p, v) else e
/-- The map at b holds just the entries of K. -/
structure CMap (w : World) (b : Nat) (K : List ((Int × Int) × Int)) : Prop where
  ex : ∃ es clock, w.heap[b]? = some (.map es clock) ∧ es.size = K.length ∧ ∀ (i : Nat) (e : (Int × Int) × Int), K[i]? = some e → ∃ bo, es[i]? = some ⟨pv e.1, .int .i64 e.2, bo⟩
  ok : ∀ e ∈ K, OkP e.1
  nd : (K.map Prod.fst).Nodup
section
variable {w w' : World} {b : Nat} {K : List ((Int × Int) × Int)} {p : Int × Int}
theorem CMap.lt (h : CMap w b K) : b < w.heap.size := by
  obtain ⟨es, cl, hb, _⟩ := h.ex
  rcases Nat.lt_or_ge b w.heap.size with hlt | hge
  · exact hlt
  · rw [Array.getElem?_eq_none hge] at hb; cases hb
theorem CMap.only {S : List Nat} (h : CMap w b K) (ho : Only S w w') (hn : b ∉ S) : CMap w' b K := by
  obtain ⟨es, cl, hb, h1, h2⟩ := h.ex
  exact ⟨⟨es, cl, by rw [ho.block b h.lt hn]; exact hb, h1, h2⟩, h.ok, h.nd⟩
theorem CMap.below (h : CMap w b K) (hb : Below w.heap.size w w') : CMap w' b K := h.only (Only.of_below (S := []) hb) (by simp)
theorem CMap.made (w : World) : CMap (w.alloc (.map #[] 0)) w.heap.size [] := ⟨⟨#[], 0, heap_alloc_new w _, rfl, fun i e h => by simp at h⟩, by simp, by simp⟩
theorem getK_at (hnd : (K.map Prod.fst).Nodup) {e : (Int × Int) × Int} (he : e ∈ K) : getK K e.1 = e.2 := by
  unfold getK
  induction K with
  | nil => cases he
  | cons x r ih =>
    simp only [List.map_cons, List.nodup_cons] at hnd
    rw [List.find?_cons]
    by_cases hx : x.1 = e.1
    · rw [decide_eq_true hx]
      rcases List.mem_cons.1 he with rfl | he
      · rfl
      · exact absurd (hx ▸ List.mem_map.2 ⟨e, he, rfl⟩) hnd.1
    · rw [decide_eq_false hx]
      rcases List.mem_cons.1 he with rfl | he
      · exact absurd rfl hx
      · exact ih hnd.2 he
theorem getK_no (h : ¬ hasK K p) : getK K p = 0 := by
  unfold getK
  rw [List.find?_eq_none.2 (fun e he hd => h ⟨e, he, of_decide_eq_true hd⟩)]
  rfl
theorem CMap.ents (h : CMap w b K) {es : Array MapEntry} {cl : Nat} (hb : w.heap[b]? = some (.map es cl)) : es.size = K.length ∧ ∀ x ∈ es.toList, ∃ (i : Nat) (e : (Int × Int) × Int), K[i]? = some e ∧ es[i]? = some x ∧ x.key = pv e.1 ∧ x.val = .int .i64 e.2 := by
  obtain ⟨es', cl', hb', h1, h2⟩ := h.ex
  rw [hb] at hb'
  injection hb' with hb'
  injection hb' with e1 _
  subst e1
  refine ⟨h1, fun x hx => ?_⟩
  obtain ⟨i, hi⟩ := List.mem_iff_getElem?.1 hx
  have hi' : es[i]? = some x := by simpa using hi
  have hlt : i < K.length := by rw [← h1]; exact (Array.getElem?_eq_some_iff.1 hi').1
  obtain ⟨bo, h3⟩ := h2 i K[i] (List.getElem?_eq_getElem hlt)
  rw [h3] at hi'
  injection hi' with hi'
  subst hi'
  exact ⟨i, K[i], List.getElem?_eq_getElem hlt, h3, rfl, rfl⟩
/-- 'm[p]'. -/
theorem CMap.look (h : CMap w b K) (hp : OkP p) : (Instr.lookup 74 (.map (some b)) (pv p) false).run Try.prog w = .ok (.int .i64 (getK K p)) w := by
  obtain ⟨es, cl, hb, h1, h2⟩ := h.ex
  obtain ⟨h1', h3⟩ := h.ents hb
  obtain ⟨l, hl⟩ := pof hp
  have hes : ∀ x ∈ es.toList, ∃ l, keyOf Try.prog 75 x.key = some l := fun x hx => by
    obtain ⟨i, e, hi, _, hk, _⟩ := h3 x hx
    rw [hk]
    exact pof (h.ok e (List.mem_of_getElem? hi))
  rcases plaw.find w hl es.toList hes with ⟨f1, f2⟩ | ⟨j, e0, f1, f2, f3⟩
  · have hn : ¬ hasK K p := fun ⟨e, he, hk⟩ => by
      obtain ⟨i, hi⟩ := List.mem_iff_getElem?.1 he
      obtain ⟨bo, hx⟩ := h2 i e hi
      exact f2 _ (by rw [← Array.getElem?_toList] at hx; exact List.mem_of_getElem? hx) (by rw [hk])
    rw [getK_no hn]
    simp [Instr.lookup, run_underlying Try.underlying74, MapKept.run_getObj_map hb, plaw.check w _ hl, f1, Result.andThen]
  · obtain ⟨i, e, hi, _, hk, hv⟩ := h3 e0 (List.mem_of_getElem? f2)
    have hm := List.mem_of_getElem? hi
    obtain rfl : e.1 = p := pv_inj (by rw [← hk, f3])
    rw [getK_at h.nd hm, ← hv]
    simp [Instr.lookup, run_underlying Try.underlying74, MapKept.run_getObj_map hb, plaw.check w _ hl, f1, Result.andThen]
theorem CMap.len (h : CMap w b K) (ty : TypeId) : (Builtin.len_ #[74] ty #[.map (some b)]).run Try.prog w = .ok (.int .i64 K.length) w := by
  obtain ⟨es, cl, hb, h1, h2⟩ := h.ex
  rw [← h1]
  simp [Builtin.len_, run_underlying Try.underlying74, MapKept.run_getObj_map hb, goInt, Result.andThen]
theorem only_setB (w : World) (b : Nat) (o : Obj) : Only [b] w (setBlock w b o) := by
  refine ⟨rfl, rfl, rfl, by simp [setBlock], fun k hk hn => ?_⟩
  simp only [List.mem_cons, List.not_mem_nil, or_false] at hn
  simp [setBlock, Ne.symm hn]
/-- 'm[p] = v', of a new pair. -/
theorem CMap.put (h : CMap w b K) (hp : OkP p) (hn : ¬ hasK K p) (v : Int) : ∃ w', (Instr.mapUpdate 74 (.map (some b)) (pv p) (.int .i64 v)).run Try.prog w = .ok () w' ∧ CMap w' b (K ++ [(p, v)]) ∧ Only [b] w w' := by
  obtain ⟨es, cl, hb, h1, h2⟩ := h.ex
  obtain ⟨h1', h3⟩ := h.ents hb
  obtain ⟨l, hl⟩ := pof hp
  have hes : ∀ x ∈ es.toList, ∃ l, keyOf Try.prog 75 x.key = some l := fun x hx => by
    obtain ⟨i, e, hi, _, hk, _⟩ := h3 x hx
    rw [hk]
    exact pof (h.ok e (List.mem_of_getElem? hi))
  rcases plaw.find w hl es.toList hes with ⟨f1, f2⟩ | ⟨j, e0, f1, f2, f3⟩
  · refine ⟨setBlock w b (.map (es.push ⟨pv p, .int .i64 v, cl⟩) (cl + 1)), ?_, ⟨⟨_, _, heap_setBlock_same hb _, by simp [h1], ?_⟩, ?_, ?_⟩, only_setB _ _ _⟩
    · simp [Instr.mapUpdate, run_underlying Try.underlying74, MapKept.run_getObj_map hb, plaw.check w false hl, f1, MapKept.run_setObj_map _ hb, Result.andThen, setBlock]
    · intro i e hi
      rcases Nat.lt_or_ge i K.length with hlt | hge
      · rw [List.getElem?_append_left hlt] at hi
        obtain ⟨bo, hx⟩ := h2 i e hi
        exact ⟨bo, by rw [Array.getElem?_push, if_neg (by omega)]; exact hx⟩
      · rw [List.getElem?_append_right hge] at hi
        have hi0 : i - K.length = 0 := by have := (List.getElem?_eq_some_iff.1 hi).1; simp at this; omega
        rw [hi0] at hi
        obtain rfl : (p, v) = e := by simpa using hi
        exact ⟨cl, by rw [Array.getElem?_push, if_pos (by omega)]⟩
    · intro e he
      rcases List.mem_append.1 he with he | he
      · exact h.ok e he
      · simp only [List.mem_singleton] at he
        subst he
        exact hp
    · rw [List.map_append, List.nodup_append]
      refine ⟨h.nd, by simp, fun x hx y hy e => ?_⟩
      obtain ⟨z, hz, rfl⟩ := List.mem_map.1 hx
      simp only [List.map_cons, List.map_nil, List.mem_singleton] at hy
      exact hn ⟨z, hz, by rw [e, hy]⟩
  · obtain ⟨i, e, hi, _, hk, hv⟩ := h3 e0 (List.mem_of_getElem? f2)
    exact absurd ⟨e, List.mem_of_getElem? hi, pv_inj (by rw [← hk, f3])⟩ hn
theorem setK_fst (K : List ((Int × Int) × Int)) (p : Int × Int) (v : Int) : (setK K p v).map Prod.fst = K.map Prod.fst := by
  unfold setK
  rw [List.map_map]
  refine List.map_congr_left fun e he => ?_
  simp only [Function.comp]
  split
  · rename_i h; exact h.symm
  · rfl
/-- 'm[p] = v', of a pair that is there. -/
theorem CMap.put_old (h : CMap w b K) (hp : OkP p) (hn : hasK K p) (v : Int) : ∃ w', (Instr.mapUpdate 74 (.map (some b)) (pv p) (.int .i64 v)).run Try.prog w = .ok () w' ∧ CMap w' b (setK K p v) ∧ Only [b] w w' := by
  obtain ⟨es, cl, hb, h1, h2⟩ := h.ex
  obtain ⟨h1', h3⟩ := h.ents hb
  obtain ⟨l, hl⟩ := pof hp
  have hes : ∀ x ∈ es.toList, ∃ l, keyOf Try.prog 75 x.key = some l := fun x hx => by
    obtain ⟨i, e, hi, _, hk, _⟩ := h3 x hx
    rw [hk]
    exact pof (h.ok e (List.mem_of_getElem? hi))
  rcases plaw.find w hl es.toList hes with ⟨f1, f2⟩ | ⟨j, e0, f1, f2, f3⟩
  · obtain ⟨e, he, hk⟩ := hn
    obtain ⟨i, hi⟩ := List.mem_iff_getElem?.1 he
    obtain ⟨bo, hx⟩ := h2 i e hi
    exact absurd (congrArg pv hk) (f2 _ (by rw [← Array.getElem?_toList] at hx; exact List.mem_of_getElem? hx))
  · have f2' : es[j]? = some e0 := by simpa using f2
    refine ⟨setBlock w b (.map (es.modify j fun e => { e with key := pv p, val := .int .i64 v }) cl), ?_, ⟨⟨_, _, heap_setBlock_same hb _, by simp [setK, h1], ?_⟩, ?_, by rw [setK_fst]; exact h.nd⟩, only_setB _ _ _⟩
    · have st := plaw.stays w hl
      simp [Instr.mapUpdate, run_underlying Try.underlying74, MapKept.run_getObj_map hb, plaw.check w false hl, f1, f2', f3, st, MapKept.run_setObj_map _ hb, Result.andThen, setBlock]
    · intro i e hi
      simp only [setK, List.getElem?_map, Option.map_eq_some_iff] at hi
      obtain ⟨e1, hi1, rfl⟩ := hi
      obtain ⟨bo, hx⟩ := h2 i e1 hi1
      by_cases hij : j = i
      · subst hij
        rw [f2'] at hx
        injection hx with hx
        have hx3 := congrArg MapEntry.key hx
        have hk : e1.1 = p := pv_inj (hx3.symm.trans f3)
        rw [if_pos hk]
        exact ⟨bo, by rw [Array.getElem?_modify, if_pos rfl, f2', hx]; rfl⟩
      · have hk : e1.1 ≠ p := fun hk => by
          have hj : j < K.length := by rw [← h1]; exact (Array.getElem?_eq_some_iff.1 f2').1
          have hil : i < K.length := (List.getElem?_eq_some_iff.1 hi1).1
          obtain ⟨bo2, hx2⟩ := h2 j K[j] (List.getElem?_eq_getElem hj)
          have hkj : (K[j]).1 = p := by
            rw [f2'] at hx2
            injection hx2 with hx2
            have hx3 := congrArg MapEntry.key hx2
            exact pv_inj (hx3.symm.trans f3)
          have hki : (K[i]).1 = p := by
            have := (List.getElem?_eq_some_iff.1 hi1).2
            rw [this]; exact hk
          have key := List.pairwise_iff_getElem.1 h.nd
          rcases Nat.lt_or_gt_of_ne hij with hlt | hlt
          · exact key j i (by simpa using hj) (by simpa using hil) hlt (by simp [hkj, hki])
          · exact key i j (by simpa using hil) (by simpa using hj) hlt (by simp [hkj, hki])
        rw [if_neg hk]
        exact ⟨bo, by rw [Array.getElem?_modify, if_neg hij]; exact hx⟩
    · intro e he
      simp only [setK, List.mem_map] at he
      obtain ⟨e1, he1, rfl⟩ := he
      split
      · exact hp
      · exact h.ok e1 he1
end
end Go.Proofs.Ytfhlcjfgbhmecaa
