/- The clones of both notaries. -/
import Derived.Test.YtjdcjofogmplcaaNotP
import Derived.Maps.RangeWalk
namespace Go.Proofs.Ytjdcjofogmplcaa
open Go.RowKit Go.Maps
open Go.ChangeMaps (setBlock heap_setBlock_same)
set_option linter.unusedVariables false

/-- The map at m holds just those entries of es that were handed out. -/
def Part (w : World) (m : Nat) (es : Array MapEntry) (seen : Array Nat) : Prop :=
  ∃ es' cl', w.heap[m]? = some (.map es' cl') ∧ (∀ e' ∈ es'.toList, ∃ e ∈ es.toList, seen.contains e.born = true ∧ e'.key = e.key ∧ e'.val = e.val) ∧ (∀ e ∈ es.toList, seen.contains e.born = true → ∃ e' ∈ es'.toList, e'.key = e.key) ∧
    (∀ e ∈ es'.toList, e.born < cl') ∧ (es'.toList.map (·.born)).Nodup ∧ (es'.toList.map (·.key)).Nodup
/-- The entries of a notary's map. -/
structure Ents (K : List (Int × List Int)) (es : Array MapEntry) : Prop where
  size : es.size = K.length
  each : ∀ e ∈ es.toList, ∃ (i : Nat) (q : Int × List Int), K[i]? = some q ∧ e.key = kv q ∧ e.val = .int .i64 ((i : Int) + 1)
  all : ∀ q ∈ K, ∃ e ∈ es.toList, e.key = kv q
  ok : ∀ q ∈ K, OkE q
  nd : K.Nodup
  n : K.length ≤ 1048576
  keys : (es.toList.map (·.key)).Nodup
  borns : (es.toList.map (·.born)).Nodup
theorem nodup_at {α β : Type} {f : α → β} : ∀ {l : List α}, (l.map f).Nodup → ∀ {x y : α}, x ∈ l → y ∈ l → f x = f y → x = y
  | [], _, x, y, hx, _, _ => by cases hx
  | z :: l, h, x, y, hx, hy, e => by
    rw [List.map_cons, List.nodup_cons] at h
    rcases List.mem_cons.1 hx with hxz | hx1
    · rcases List.mem_cons.1 hy with hyz | hy1
      · rw [hxz, hyz]
      · exact absurd (List.mem_map.2 ⟨y, hy1, by rw [← e, hxz]⟩) h.1
    · rcases List.mem_cons.1 hy with hyz | hy1
      · exact absurd (List.mem_map.2 ⟨x, hx1, by rw [e, hyz]⟩) h.1
      · exact nodup_at h.2 hx1 hy1 e
theorem parties_one (K : List (Int × List Int)) : ∀ u ∈ parties K, u.oneCell' = true := fun u hu => by
  obtain ⟨x, _, rfl⟩ := List.mem_map.1 hu
  rfl
theorem texts_one (K : List (Int × List Int)) : ∀ u ∈ texts K, u.oneCell' = true := fun u hu => by
  obtain ⟨x, _, rfl⟩ := List.mem_map.1 hu
  rfl
section
variable {w w' : World} {b m : Nat} {K : List (Int × List Int)} {es : Array MapEntry} {seen : Array Nat}
theorem NMap.ents (h : NMap w b K) : ∃ es cl, w.heap[b]? = some (.map es cl) ∧ Ents K es ∧ ∀ e ∈ es.toList, e.born < cl := by
  obtain ⟨es, cl, hb, h1, h2, h3⟩ := h.ex
  obtain ⟨p1, p2, p3⟩ := h.born es cl hb
  exact ⟨es, cl, hb, ⟨h1, h2, h3, h.ok, h.nd, h.n, p3, p2⟩, p1⟩
theorem Part.only {S : List Nat} (h : Part w m es seen) (hm : m < w.heap.size) (ho : Only S w w') (hn : m ∉ S) : Part w' m es seen := by
  obtain ⟨es', cl', hb, h⟩ := h
  exact ⟨es', cl', by rw [ho.block m hm hn]; exact hb, h⟩
theorem Part.done (h : Part w m es seen) (E : Ents K es) (h0 : (leftOf es seen).size = 0) : NMap w m K := by
  obtain ⟨es', cl', hb, h1, h2, h3, h4, h5⟩ := h
  have hs := all_seen es seen h0
  refine ⟨⟨es', cl', hb, ?_, ?_, ?_⟩, E.ok, E.nd, E.n, ?_⟩
  · have hp : (es'.toList.map (·.key)).Perm (es.toList.map (·.key)) := (List.perm_ext_iff_of_nodup h5 E.keys).2 fun k => by
      constructor
      · intro hk
        obtain ⟨e', he', rfl⟩ := List.mem_map.1 hk
        obtain ⟨e, he, _, e1, _⟩ := h1 e' he'
        exact List.mem_map.2 ⟨e, he, e1.symm⟩
      · intro hk
        obtain ⟨e, he, rfl⟩ := List.mem_map.1 hk
        obtain ⟨e', he', e1⟩ := h2 e he (hs e he)
        exact List.mem_map.2 ⟨e', he', e1⟩
    have := hp.length_eq
    simpa [E.size] using this
  · intro e' he'
    obtain ⟨e, he, _, e1, e2⟩ := h1 e' he'
    obtain ⟨i, q, h6, h7, h8⟩ := E.each e he
    exact ⟨i, q, h6, e1.trans h7, e2.trans h8⟩
  · intro q hq
    obtain ⟨e, he, e1⟩ := E.all q hq
    obtain ⟨e', he', e2⟩ := h2 e he (hs e he)
    exact ⟨e', he', e2.trans e1⟩
  · intro es2 cl2 hb2
    rw [hb] at hb2
    injection hb2 with hb2
    injection hb2 with e1 e2
    subst e1
    subst e2
    exact ⟨h3, h4, h5⟩
theorem Part.put (h : Part w m es seen) (E : Ents K es) {e : MapEntry} (he : e ∈ (leftOf es seen).toList) :
    ∃ w', (Instr.mapUpdate 88 (.map (some m)) e.key e.val).run Try.prog w = .ok () w' ∧ Part w' m es (seen.push e.born) ∧ Only [m] w w' := by
  obtain ⟨es', cl', hb, h1, h2, h3, h4, h5⟩ := h
  obtain ⟨hem, hes⟩ := mem_left he
  have hkey : ∀ x ∈ es.toList, ∃ l, keyOf Try.prog 93 x.key = some l := fun x hx => by
    obtain ⟨i, q, hi, hk, _⟩ := E.each x hx
    rw [hk]
    exact kof_kv (E.ok q (List.mem_of_getElem? hi))
  obtain ⟨l, hl⟩ := hkey e hem
  have hes' : ∀ x ∈ es'.toList, ∃ l, keyOf Try.prog 93 x.key = some l := fun x hx => by
    obtain ⟨y, hy, _, e1, _⟩ := h1 x hx
    rw [e1]
    exact hkey y hy
  have hno : ∀ x ∈ es'.toList, ¬ x.key = e.key := fun x hx hk => by
    obtain ⟨y, hy, e0, e1, _⟩ := h1 x hx
    obtain rfl := nodup_at E.keys hy hem (e1.symm.trans hk)
    rw [hes] at e0
    cases e0
  rcases klaw.find w hl es'.toList hes' with ⟨f1, f2⟩ | ⟨j, e0, f1, f2, f3⟩
  · refine ⟨setBlock w m (.map (es'.push ⟨e.key, e.val, cl'⟩) (cl' + 1)), ?_, ⟨_, _, heap_setBlock_same hb _, ?_, ?_, ?_, ?_, ?_⟩, only_setBlock _ _ _⟩
    · simp [Instr.mapUpdate, run_underlying Try.underlying88, MapKept.run_getObj_map hb, klaw.check w false hl, f1, MapKept.run_setObj_map _ hb, Result.andThen, setBlock]
    · intro x hx
      simp only [Array.toList_push, List.mem_append, List.mem_singleton] at hx
      rcases hx with hx | rfl
      · obtain ⟨y, hy, e0, e1, e2⟩ := h1 x hx
        exact ⟨y, hy, by rw [contains_push, e0]; rfl, e1, e2⟩
      · exact ⟨e, hem, by rw [contains_push]; simp, rfl, rfl⟩
    · intro x hx hs
      rw [contains_push] at hs
      by_cases hxe : x.born = e.born
      · obtain rfl : x = e := nodup_at E.borns hx hem hxe
        exact ⟨⟨x.key, x.val, cl'⟩, by simp, rfl⟩
      · have hs' : seen.contains x.born = true := by
          cases hc : seen.contains x.born with
          | true => rfl
          | false => rw [hc] at hs; simp [hxe] at hs
        obtain ⟨y, hy, e1⟩ := h2 x hx hs'
        exact ⟨y, by simp [hy], e1⟩
    · intro x hx
      simp only [Array.toList_push, List.mem_append, List.mem_singleton] at hx
      rcases hx with hx | rfl
      · exact Nat.lt_succ_of_lt (h3 x hx)
      · exact Nat.lt_succ_self _
    · rw [Array.toList_push, List.map_append, List.nodup_append]
      refine ⟨h4, by simp, fun x hx y hy e => ?_⟩
      obtain ⟨z, hz, rfl⟩ := List.mem_map.1 hx
      simp only [List.map_cons, List.map_nil, List.mem_singleton] at hy
      have := h3 z hz
      omega
    · rw [Array.toList_push, List.map_append, List.nodup_append]
      refine ⟨h5, by simp, fun x hx y hy e => ?_⟩
      obtain ⟨z, hz, rfl⟩ := List.mem_map.1 hx
      simp only [List.map_cons, List.map_nil, List.mem_singleton] at hy
      exact hno z hz (by rw [e, hy])
  · exact absurd f3 (hno e0 (List.mem_of_getElem? f2))
end

section
variable {P : Program} (w : World) {ops : Array Oper} {rest : List Oper} {o : Oper} {a : Act} {Q : Exit → Act → World → Prop}
theorem wpList_range_raw (hg : o.guard = none) (m : Operand) (t : TypeId) (hop : o.op = Op.range t m) (k e : TypeId) (ht : P.underlying t = some (.map k e)) (b : Nat) (es : Array MapEntry) (cl : Nat)
    (hm : a.eval m = .map (some b)) (hb : w.heap[b]? = some (.map es cl))
    (hK : wpList P ops Q rest (a.put o.dst (.pointer (some ⟨w.heap.size, 0, none⟩))) (w.alloc (.mapIter (some b) cl #[] cl))) :
    wpList P ops Q (o :: rest) a w := by
  refine wpList_plain hg fun K' hK' => ?_
  have hrun := run_range_map (P := P) w t k e b es cl ht hb
  unfold Oper.wp
  simp [execOp, hop, hm, hrun, Result.andThen]
  exact hK' _ _ hK
theorem wpList_next_raw (hg : o.guard = none) (it : Operand) (hop : o.op = Op.next it false) (r bm since c0 : Nat) (seen : Array Nat) (es : Array MapEntry) (clock : Nat)
    (hit : a.eval it = .pointer (some ⟨r, 0, none⟩)) (hr : w.heap[r]? = some (.mapIter (some bm) since seen c0)) (hb : w.heap[bm]? = some (.map es clock)) (hold : ∀ x ∈ es.toList, x.born < since) (hsc : since ≤ c0)
    (hn : (es.toList.map (·.born)).Nodup) (hne : bm ≠ r) (hsh : ∀ e ∈ es.toList, ∃ p s v, e.key = .agg #[.int .i64 p, .string s] ∧ e.val = .int .i64 v)
    (hDone : (leftOf es seen).size = 0 → wpList P ops Q rest (a.put o.dst (.tuple #[.bool false])) w)
    (hMore : ∀ e p s v w', e ∈ (leftOf es seen).toList → e.key = .agg #[.int .i64 p, .string s] → e.val = .int .i64 v → w'.heap[r]? = some (.mapIter (some bm) since (seen.push e.born) clock) → Only [r] w w' →
      (Instr.entry (.pointer (some ⟨r, 0, none⟩))).run P w' = .ok (.tuple #[.agg #[.int .i64 p, .string s], .int .i64 v]) w' → wpList P ops Q rest (a.put o.dst (.tuple #[.bool true, .agg #[.int .i64 p, .string s], .int .i64 v])) w') :
    wpList P ops Q (o :: rest) a w := by
  refine wpList_plain hg fun K' hK' => ?_
  unfold Oper.wp
  rcases run_next_at (P := P) w o.type r bm since c0 seen es clock hr hb hold hsc with ⟨h0, hrun⟩ | ⟨e, he, w1, hal, hrun⟩
  · simp [execOp, hop, hit, hrun, Result.andThen]
    exact hK' _ _ (hDone h0)
  · obtain ⟨hem, hes⟩ := mem_left he
    obtain ⟨p, s, v, e1, e2⟩ := hsh e hem
    have hr1 : w1.heap[r]? = some (.mapIter (some bm) since seen c0) := by rcases hal with rfl | rfl <;> exact hr
    have hb1 : w1.heap[bm]? = some (.map es clock) := by rcases hal with rfl | rfl <;> exact hb
    have ho : Only [r] w (setBlock w1 r (.mapIter (some bm) since (seen.push e.born) clock)) := by
      rcases hal with rfl | rfl
      · exact only_setBlock _ _ _
      · exact (Only.refl _ _).drew.trans (only_setBlock _ _ _)
    have hr2 : (setBlock w1 r (.mapIter (some bm) since (seen.push e.born) clock)).heap[r]? = some (.mapIter (some bm) since (seen.push e.born) clock) := (MapKept.heap_set hr1).1
    have hlt : bm < w1.heap.size := by
      rcases Nat.lt_or_ge bm w1.heap.size with hlt | hge
      · exact hlt
      · rw [Array.getElem?_eq_none hge] at hb1; cases hb1
    have hb2 : (setBlock w1 r (.mapIter (some bm) since (seen.push e.born) clock)).heap[bm]? = some (.map es clock) := by
      rw [(only_setBlock w1 r _).block bm hlt (by simpa using hne)]
      exact hb1
    have hen := run_entry_at (P := P) _ r bm since seen es clock e hr2 hb2 hem hn
    rw [e1, e2] at hen
    simp [execOp, hop, hit, hrun, Result.andThen, e1, e2]
    exact hK' _ _ (hMore e p s v _ he e1 e2 hr2 ho hen)
end

set_option maxRecDepth 100000 in
set_option maxHeartbeats 3200000 in
theorem nclone_c (n b : Nat) (K : List (Int × List Int)) (w : World) (h : Nty w n b K) :
    Calls Try.prog 28 #[.pointer (some ⟨n, 0, none⟩)] w fun e w' => ∃ m bm, e = .returned (.pointer (some ⟨m, 0, none⟩)) ∧ Nty w' m bm K ∧ w.heap.size ≤ m ∧ w.heap.size ≤ bm ∧ Below w.heap.size w w' := by
  obtain ⟨es, cl, hb, hE, hold⟩ := h.map.ents
  have E := Lib.hid hE
  have OLD := Lib.hid hold
  have c0 : w.cell? ⟨n, 0, none⟩ = some (.map (some b)) := h.obj.cell 0
  have hbl := h.map.lt
  clear h hE hold
  go_enter Try.func28, Try.ntmps28
  go_wp2_with fail
  refine (nnew_c _).mono ?_; rintro e w1 ⟨m, bm, rfl, hN1, hm1, hbm1, hw1⟩
  have c1 := kept hw1 _ _ c0
  have hb1 : w1.heap[b]? = some (.map es cl) := by rw [(Only.of_below (S := []) hw1).block b hbl (by simp)]; exact hb
  have hne : bm ≠ m := fun e => hN1.ne e.symm
  have l1 := hN1.obj.lt
  have l2 := hN1.map.lt
  have l3 := Nat.lt_of_lt_of_le hbl hw1.size
  have PT : Part w1 bm es #[] := by
    obtain ⟨es1, cl1, h1, hE1, h3⟩ := hN1.map.ents
    have e0 : es1.toList = [] := List.eq_nil_of_length_eq_zero (by have := hE1.size; simpa using this)
    exact ⟨es1, cl1, h1, by simp [e0], by simp, h3, hE1.borns, hE1.keys⟩
  have N1 := Lib.hid hN1
  have PT1 := Lib.hid PT
  have B1 := Lib.hid hw1
  have HB1 := Lib.hid hb1
  clear hN1 PT hw1 hb hb1 c0
  go_wp2_with (first
    | (at_range; refine wpList_range_raw _ rfl _ _ rfl _ _ Try.underlying88 b es cl rfl HB1.out ?_)
    | go_in)
  go_frame
  obtain ⟨r, hr⟩ : ∃ r, r = w1.heap.size := ⟨_, rfl⟩
  obtain ⟨w2, hw2⟩ : ∃ w2, w2 = w1.alloc (.mapIter (some b) cl #[] cl) := ⟨_, rfl⟩
  rw [← hr, ← hw2]
  have o2 : Only [] w1 w2 := by rw [hw2]; exact (Only.refl _ _).alloc _
  have R2 : w2.heap[r]? = some (.mapIter (some b) cl #[] cl) := by rw [hw2, hr]; exact heap_alloc_new _ _
  have hrl : r < w2.heap.size := by rw [hw2, hr]; simp
  have START : Hid (∃ seen c0, w2.heap[r]? = some (.mapIter (some b) cl seen c0) ∧ cl ≤ c0 ∧ w2.heap[b]? = some (.map es cl) ∧ Blk w2 m 90 #[.map (some bm)] ∧ Part w2 bm es seen ∧ Below w.heap.size w w2 ∧ w1.heap.size + 1 ≤ w2.heap.size) := by
    refine Lib.hid ⟨#[], cl, R2, Nat.le_refl _, ?_, N1.out.obj.only o2 (by simp), PT1.out.only l2 o2 (by simp), B1.out.trans (o2.to_below.mono B1.out.size), by rw [hw2]; simp⟩
    rw [o2.block b l3 (by simp)]
    exact HB1.out
  have r1 : w1.heap.size ≤ r := Nat.le_of_eq hr.symm
  have r2 : r < w1.heap.size + 1 := by omega
  clear hw2 o2 R2 hrl c1 hr
  go_loopw [5] (fun _ wr => ∃ seen c0, wr.heap[r]? = some (.mapIter (some b) cl seen c0) ∧ cl ≤ c0 ∧ wr.heap[b]? = some (.map es cl) ∧ Blk wr m 90 #[.map (some bm)] ∧ Part wr bm es seen ∧ Below w.heap.size w wr ∧ w1.heap.size + 1 ≤ wr.heap.size)
    (fun _ wr => wr.rangeLeft b r)
  case atStart => exact START.out
  case round =>
    obtain ⟨seen, c0, hr1, hc0, hb1, hM, hPt, hB, hsz⟩ := hrel
    have hleft : wr.rangeLeft b r = (leftOf es seen).size := by simp [World.rangeLeft, hb1, hr1]
    have LEFT := Lib.hid hleft
    have MM := Lib.hid hM
    have PP := Lib.hid hPt
    have BB := Lib.hid hB
    have HR := Lib.hid hr1
    have HB := Lib.hid hb1
    have SZ := Lib.hid hsz
    clear hleft hM hPt hB hr1 hb1 hsz
    go_wp2_with (first
      | (at_next; refine wpList_next_raw _ rfl _ rfl r b cl c0 seen es cl rfl HR.out HB.out OLD.out hc0 E.out.borns (by omega) (fun e he => by
          obtain ⟨i, q, _, h1, h2⟩ := E.out.each e he
          exact ⟨q.1, _, _, h1, h2⟩) ?_ ?_)
      | go_in)
    · intro h0
      go_wp2_with fail
      go_ret
      exact ⟨m, bm, rfl, ⟨MM.out, PP.out.done E.out (by first | exact h0 | simp [h0])⟩, hm1, hbm1, BB.out⟩
    · intro e p s v w3 he ek ev hr3 ho3 hen
      have HE : Hid (e ∈ (leftOf es seen).toList) := Lib.hid (by first | exact he | simpa using he)
      have R3 : Hid (w3.heap[r]? = some (.mapIter (some b) cl (seen.push e.born) cl)) := Lib.hid hr3
      have O3 := Lib.hid ho3
      have EK := Lib.hid ek
      have EV := Lib.hid ev
      have l4 := SZ.out
      have M3 := Lib.hid (MM.out.only ho3 (by simp; omega))
      have P3 := Lib.hid (PP.out.only (by omega) ho3 (by simp; omega))
      have B3 := Lib.hid (ho3.below BB.out BB.out.size (by simp; have := B1.out.size; omega))
      have HB3 : Hid (w3.heap[b]? = some (.map es cl)) := Lib.hid (by rw [ho3.block b (by omega) (by simp; omega)]; exact HB.out)
      clear he hr3 ho3 ek ev
      go_upto_region 5 with fail
      obtain ⟨w4, hw4⟩ : ∃ w4, w4 = w3.alloc (.cells #[.int .i64 p, .string s] 93) := ⟨_, rfl⟩
      obtain ⟨ga, hga⟩ : ∃ ga, ga = w3.heap.size := ⟨_, rfl⟩
      rw [← hw4, ← hga]
      have hA : Blk w4 ga 93 #[.int .i64 p, .string s] := by rw [hw4, hga]; exact Blk.new _ _ _
      have o4 : Only [] w3 w4 := by rw [hw4]; exact (Only.refl _ _).alloc _
      have a0 := (hA.cell 0).trans (show _ = some (.int .i64 p) from rfl)
      have a1 := (hA.cell 1).trans (show _ = some (.string s) from rfl)
      have l5 : w1.heap.size + 1 ≤ w3.heap.size := Nat.le_trans SZ.out O3.out.size
      have M4 := Lib.hid (M3.out.only o4 (by simp))
      have m0 : w4.cell? ⟨m, 0, none⟩ = some (.map (some bm)) := M4.out.cell 0
      have P4 := Lib.hid (P3.out.only (by omega) o4 (by simp))
      have B4 := Lib.hid (o4.below B3.out B3.out.size (by simp))
      have R4 : Hid (w4.heap[r]? = some (.mapIter (some b) cl (seen.push e.born) cl)) := Lib.hid (by rw [o4.block r (by omega) (by simp)]; exact R3.out)
      have HB4 : Hid (w4.heap[b]? = some (.map es cl)) := Lib.hid (by rw [o4.block b (by omega) (by simp)]; exact HB3.out)
      have l6 : w1.heap.size + 1 ≤ w4.heap.size := Nat.le_trans l5 o4.size
      clear hw4 hga hA o4 hen
      have KS : ∀ j, (w4.drewN j).cell? ⟨ga, 0, none⟩ = some (.int .i64 p) ∧ (w4.drewN j).cell? ⟨ga, 1, none⟩ = some (.string s) ∧ (w4.drewN j).cell? ⟨m, 0, none⟩ = some (.map (some bm)) := fun j => ⟨a0, a1, m0⟩
      refine wp_region_plan (fun w' => w'.cell? ⟨ga, 0, none⟩ = some (.int .i64 p) ∧ w'.cell? ⟨ga, 1, none⟩ = some (.string s) ∧ w'.cell? ⟨m, 0, none⟩ = some (.map (some bm))) 6 (.take 0 (.take 1 (.take 2 (.take 3 (.take 4 (.take 5 (.one 6 .done))))))) (by kernel_rfl) (by kernel_rfl) (by kernel_rfl) (KS 1) ?_
      intro hS0
      repeat (refine' wpPlan_take rfl (by rfl) (by assumption) ?_ ?_; rotate_left; (· (intro w hSw; (try dsimp only at hSw); go_simp; try with_reducible rfl)); try simp only [Act.put, List.setIfInBounds_toArray, List.set_cons_zero, List.set_cons_succ])
      obtain ⟨w5, hw5, hpt5, ho5⟩ := (P4.out.only (w' := w4.drew) (by omega) (S := []) ((Only.refl _ _).drew) (by simp)).put E.out HE.out
      have hup : (Instr.mapUpdate 88 (.map (some bm)) (.agg #[.int .i64 p, .string s]) (.int .i64 v)).run Try.prog w4.drew = .ok () w5 := by rw [← EK.out, ← EV.out]; exact hw5
      clear hw5
      refine wpPlan_last rfl (fun KT hKT => ?_)
      go_simp
      refine hKT.out _ _ ?_; clear hKT KT; try simp only [Act.put, List.setIfInBounds_toArray, List.set_cons_zero, List.set_cons_succ]
      refine wpPlan_done ?_
      have ho6 : Only [bm] w4 w5 := (Only.refl _ _).drew.trans ho5
      have R5 : w5.heap[r]? = some (.mapIter (some b) cl (seen.push e.born) cl) := by rw [ho6.block r (by omega) (by simp; omega)]; exact R4.out
      have HB5 : w5.heap[b]? = some (.map es cl) := by rw [ho6.block b (by omega) (by simp; omega)]; exact HB4.out
      have REL : Hid (∃ seen c0, w5.heap[r]? = some (.mapIter (some b) cl seen c0) ∧ cl ≤ c0 ∧ w5.heap[b]? = some (.map es cl) ∧ Blk w5 m 90 #[.map (some bm)] ∧ Part w5 bm es seen ∧ Below w.heap.size w w5 ∧ w1.heap.size + 1 ≤ w5.heap.size) :=
        Lib.hid ⟨_, cl, R5, Nat.le_refl _, HB5, M4.out.only ho6 (by simp; exact hne.symm), hpt5, ho6.below B4.out B4.out.size (by simp; exact hbm1), Nat.le_trans l6 ho6.size⟩
      have MEAS : Hid (w5.rangeLeft b r < (leftOf es seen).size) := Lib.hid (by
        have := left_shrinks es seen e HE.out
        simpa [World.rangeLeft, HB5, R5] using this)
      clear R5 HB5 ho6 ho5 hpt5 hup KS hS0
      go_wp2_with fail
      go_roundw
      case rel => exact REL.out
      case measure => rw [LEFT.out]; exact MEAS.out

set_option maxRecDepth 100000 in
set_option maxHeartbeats 3200000 in
theorem rcopy_c (w0 w : World) (r : Nat) (F : List Nat) (K : List (Int × List Int)) (h : Rty w0 w r F K) (hb : Below w0.heap.size w0 w) (hn : K.length ≤ 1048576) :
    Calls Try.prog 29 #[.pointer (some ⟨r, 0, none⟩)] w fun e w' => ∃ r' F', e = .returned (.pointer (some ⟨r', 0, none⟩)) ∧ Rty w0 w' r' F' K ∧ Below w.heap.size w w' ∧ ∀ x ∈ F', w.heap.size ≤ x := by
  obtain ⟨ti, hi0, hz0, hz1, hz2⟩ := info_parts info_int1
  obtain ⟨si, hj0, hy0, hy1, hy2⟩ := info_parts info_str1
  obtain ⟨A, C, A', C', c0, c1, v0, v1⟩ := h.rows
  have V0 := Lib.hid v0
  have V1 := Lib.hid v1
  have hw0 := hb.size
  obtain ⟨n, hn'⟩ : ∃ n, n = K.length := ⟨_, rfl⟩
  rw [← hn'] at c0 c1 V0 V1 hn
  have HN := Lib.hid hn'
  clear v0 v1 h hb hn'
  have fin : ∀ w7 a5 c5 a8 c8, Below w.heap.size w w7 → w7.ownsRow w.heap.size 3 1 (.slice a5 n c5) n (parties K) → w7.ownsRow w.heap.size 9 1 (.slice a8 n c8) n (texts K) → ∃ F', Rty w0 (w7.alloc (.cells #[.slice a5 n c5, .slice a8 n c8] 30)) w7.heap.size F' K ∧ Below w.heap.size w (w7.alloc (.cells #[.slice a5 n c5, .slice a8 n c8] 30)) ∧ ∀ x ∈ F', w.heap.size ≤ x := by
    intro w7 a5 c5 a8 c8 b7 o5 o8
    have b8 : Below w7.heap.size w7 (w7.alloc (.cells #[.slice a5 n c5, .slice a8 n c8] 30)) := (Below.refl _ _).alloc (Nat.le_refl _) _
    refine ⟨_, ⟨⟨a5, c5, a8, c8, by rw [← HN.out]; exact Blk.new _ _ _, by rw [← HN.out]; exact own_base_le (own_below o5 b8) hw0, by rw [← HN.out]; exact own_base_le (own_below o8 b8) hw0, rfl⟩, Nat.le_trans hw0 b7.size⟩, b7.alloc b7.size _, fun x hx => ?_⟩
    simp only [List.mem_cons, List.mem_append, Option.mem_toList] at hx
    rcases hx with rfl | hx | hx
    · exact b7.size
    · exact (World.ownsRow.lt o5 x (by rw [own_block_eq]; exact hx)).1
    · exact (World.ownsRow.lt o8 x (by rw [own_block_eq]; exact hx)).1
  have FIN := Lib.hid fin
  clear fin
  go_enter Try.func29, Try.ntmps29
  go_upto_region 1 with fail
  have KS : ∀ w', Below w.heap.size w w' → w'.cell? ⟨r, 0, none⟩ = some (.slice A n C) ∧ w'.cell? ⟨r, 1, none⟩ = some (.slice A' n C') ∧ Below w.heap.size w w' := fun w' o => ⟨kept o _ _ c0, kept o _ _ c1, o⟩
  refine wp_region_plan (fun w' => w'.cell? ⟨r, 0, none⟩ = some (.slice A n C) ∧ w'.cell? ⟨r, 1, none⟩ = some (.slice A' n C') ∧ Below w.heap.size w w') 13 (.take 0 (.take 1 (.take 2 (.take 3 (.take 5 (.take 6 (.take 7 (.take 8 (.one 4 (.one 9 (.take 10 (.one 11 (.take 12 .done))))))))))))) (by kernel_rfl) (by kernel_rfl) (by kernel_rfl) (KS _ (Below.refl _ _).drew) ?_
  intro hS0
  repeat (refine' wpPlan_take rfl (by rfl) (by assumption) ?_ ?_; rotate_left; (· (intro w hSw; (try dsimp only at hSw); go_simp; try with_reducible rfl)); try simp only [Act.put, List.setIfInBounds_toArray, List.set_cons_zero, List.set_cons_succ])
  have B1 : Below w.heap.size w w.drew := (Below.refl _ _).drew
  refine wpPlan_one rfl (fun KT hKT => ?_)
  refine step_app (by rfl) _ _ _ (by rfl) w.heap.size 3 ti _ 1 8 Try.underlying27 hi0 hz0 hz1 hz2 rfl (by omega) none 0 0 [] (by rfl) ⟨rfl, .inl ⟨rfl, rfl⟩⟩ A n C (parties K) (by rfl) (V0.out.below B1) (parties_one K) (by unfold maxLen; omega) (by omega) B1.size ?_
  intro a5 c5 w5 h5
  have B5 : Below w.heap.size w w5 := B1.trans h5.only.to_below
  refine hKT.out _ _ (KS _ B5) (fun _ => ?_); clear hKT KT; try simp only [Act.put, List.setIfInBounds_toArray, List.set_cons_zero, List.set_cons_succ]
  repeat (refine' wpPlan_take rfl (by rfl) (by assumption) ?_ ?_; rotate_left; (· (intro w hSw; (try dsimp only at hSw); go_simp; try with_reducible rfl)); try simp only [Act.put, List.setIfInBounds_toArray, List.set_cons_zero, List.set_cons_succ])
  refine wpPlan_one rfl (fun KT hKT => ?_)
  refine step_app (by rfl) _ _ _ (by rfl) w.heap.size 9 si _ 1 16 Try.underlying28 hj0 hy0 hy1 hy2 rfl (by omega) none 0 0 [] (by rfl) ⟨rfl, .inl ⟨rfl, rfl⟩⟩ A' n C' (texts K) (by rfl) (V1.out.below B5) (texts_one K) (by unfold maxLen; omega) (by omega) B5.size ?_
  intro a8 c8 w8 h8
  have B8 : Below w.heap.size w w8 := B5.trans (h8.only.to_below.mono B5.size)
  have p5 := own_below h5.own h8.only.to_below
  have p8 := h8.own
  simp only [Nat.zero_add, List.nil_append] at p5 p8
  refine hKT.out _ _ (KS _ B8) (fun _ => ?_); clear hKT KT; try simp only [Act.put, List.setIfInBounds_toArray, List.set_cons_zero, List.set_cons_succ]
  repeat (refine' wpPlan_take rfl (by rfl) (by assumption) ?_ ?_; rotate_left; (· (intro w hSw; (try dsimp only at hSw); go_simp; try with_reducible rfl)); try simp only [Act.put, List.setIfInBounds_toArray, List.set_cons_zero, List.set_cons_succ])
  refine wpPlan_one rfl (fun KT hKT => ?_)
  go_simp
  refine hKT.out _ _ (KS _ (B8.alloc B8.size _)) (fun _ => ?_); clear hKT KT; try simp only [Act.put, List.setIfInBounds_toArray, List.set_cons_zero, List.set_cons_succ]
  repeat (refine' wpPlan_take rfl (by rfl) (by assumption) ?_ ?_; rotate_left; (· (intro w hSw; (try dsimp only at hSw); go_simp; try with_reducible rfl)); try simp only [Act.put, List.setIfInBounds_toArray, List.set_cons_zero, List.set_cons_succ])
  refine wpPlan_done ?_
  go_wp2_with fail
  go_ret
  obtain ⟨F', h1, h2, h3⟩ := FIN.out w8 a5 c5 a8 c8 B8 p5 p8
  exact ⟨_, F', rfl, h1, h2, h3⟩
end Go.Proofs.Ytjdcjofogmplcaa
