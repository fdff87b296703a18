/- StoreB, StoreD, ArrEq. -/
import Derived.Test.YtfhlcjfgbhmecaaZStoreA
import Derived.Deep.AppendLies
import Derived.Laws.OwnMore
import Derived.Laws.StructEq
import Derived.WalkKit
/- store.All, Get, Len, Same, Clone. -/
namespace Go.Proofs.Ytfhlcjfgbhmecaa
open Go.RowKit
set_option linter.unusedVariables false

/-- The keys that have a value, and their values, of the first k keys. -/
def allTo (st : List (Bool × Int)) : Nat → List (Int × Int)
  | 0 => []
  | k + 1 => if (st.getD k (false, 0)).1 then allTo st k ++ [((k : Int), (st.getD k (false, 0)).2)] else allTo st k
theorem allTo_succ (st : List (Bool × Int)) (k : Nat) : allTo st (k + 1) = if (st.getD k (false, 0)).1 then allTo st k ++ [((k : Int), (st.getD k (false, 0)).2)] else allTo st k := rfl
def acell (p : Int × Int) : List Value := [.int .i64 p.1, .int .i64 p.2]
theorem acell_len (p : Int × Int) : (acell p).length = 2 := rfl
theorem allTo_len (st : List (Bool × Int)) : ∀ k, (allTo st k).length ≤ k
  | 0 => Nat.le_refl _
  | k + 1 => by
    have := allTo_len st k
    unfold allTo
    split
    · rw [List.length_append]; simp; omega
    · omega
theorem info_two : (Try.prog.info? 75).map (fun i => (i.zero, i.size, i.bytes)) = some (some (.agg #[.int .i64 0, .int .i64 0]), 2, 16) := by kernel_rfl

/-- A slice of pairs that reads as these. -/
def PRow (w : World) (base : Nat) (v : Value) (l : List (Int × Int)) : Prop := w.ownsRow base 75 2 v l.length (l.flatMap acell)

set_option maxRecDepth 100000 in
set_option maxHeartbeats 1600000 in
theorem all_c (gs : Nat) (st : List (Bool × Int)) (w : World) (h : Store w gs st) :
    Calls Try.prog 58 #[.pointer (some ⟨gs, 0, none⟩)] w fun e w' => ∃ a c, e = .returned (.slice a (allTo st 64).length c) ∧ PRow w' w.heap.size (.slice a (allTo st 64).length c) (allTo st 64) ∧ Below w.heap.size w w' := by
  obtain ⟨i0, hi0, hz0, hz1, hz2⟩ := info_parts info_two
  have H := Lib.hid h
  have hg1 := Lib.hid (show w.heap[gs]? = some (.cells (kcells st) 130 (0, 0)) from h.b)
  have hsz1 := Lib.hid (show (Try.prog.info? 128).map (·.size) = some (kcells st).size by rw [kcells_size, h.n]; exact kcells_info)
  clear h
  go_enter Try.func58, Try.ntmps58
  go_wp2_with (refine wpList_load_row rfl 128 (.tmp 8) rfl gs rfl 130 (kcells st) (0, 0) _ hg1.out Try.underlying128 rfl hsz1.out ?_)
  go_loopw [3, 10] (fun v i wr => ∃ k : Nat, k ≤ 64 ∧ i = .int .i64 k ∧ (∃ a c, v = .slice a (allTo st k).length c ∧ PRow wr w.heap.size (.slice a (allTo st k).length c) (allTo st k)) ∧ Below w.heap.size w wr) (fun _ i _ => 64 - (intOf i).toNat)
  case atStart => exact ⟨0, by omega, rfl, ⟨none, 0, rfl, World.ownsRow_nil _ _ _ _⟩, Below.refl _ _⟩
  case round =>
    obtain ⟨k, hk64, rfl, ⟨a, c, rfl, hown⟩, hb⟩ := hrel
    have HB := Lib.hid hb
    have HO := Lib.hid hown
    have hsz := hb.size
    clear hb hown
    by_cases hlt' : k < 64
    · have hkl : k < st.length := by rw [H.out.n]; exact hlt'
      have hidx := index_c st H.out.n k hkl
      have hg : st.getD k (false, 0) = st[k] := by simp [List.getD, hkl]
      have hlen := allTo_len st k
      obtain ⟨c0, hc⟩ : ∃ c, c = st[k] := ⟨_, rfl⟩
      rw [← hc] at hidx hg
      obtain ⟨c1, c2⟩ := c0
      have hstep : allTo st (k + 1) = if c1 then allTo st k ++ [((k : Int), c2)] else allTo st k := by rw [allTo_succ, hg]
      have HS := Lib.hid hstep
      clear hc hg hstep
      obtain ⟨L, hL⟩ : ∃ L, L = allTo st k := ⟨_, rfl⟩
      rw [← hL] at HS HO hlen ⊢
      clear hL
      cases c1 with
      | false =>
        go_wp2
        go_roundw
        case rel =>
          refine ⟨k + 1, by omega, by go_num, ⟨a, c, ?_, ?_⟩, HB.out.alloc hsz _⟩
          · rw [HS.out]; rfl
          · rw [HS.out]; exact HO.out.alloc _
        case measure => simp [intOf]; omega
      | true =>
        go_wp2_with (at_builtin; refine wpList_append_lies _ rfl (.tmp 16) (.tmp 21) _ rfl w.heap.size 75 i0 _ 2 16 Try.underlying76 hi0 hz0 hz1 hz2 rfl (by omega) (.slice a L.length c) L.length (L.flatMap acell) rfl ((World.ownsRow.alloc HO.out _).alloc _) ⟨wr.heap.size + 1, 0, none⟩ 1 1 [.int .i64 k, .int .i64 c2] rfl rfl (World.news_of_block (cs := #[.int .i64 k, .int .i64 c2]) (t := 75) (fr := (0, 0)) (heap_alloc2_new wr _ _)) (by simp [Value.oneCell']) (by omega) (by unfold maxLen; omega) (by omega) (by simp; omega) (wr.heap.size + 2) (by simp) ?_; intro g cap w5 hown5 hgrow5 hat5 hlt5)
        have HO5 := Lib.hid hown5
        have hb5 : Below w.heap.size w w5 := ((HB.out.alloc hsz _).alloc (by simp; omega) _).grown hgrow5 (by simp; omega) (fun k hk => (World.ownsRow.lt HO.out k hk).1)
        have HB5 := Lib.hid hb5
        clear hown5 hgrow5 hat5 hb5
        go_roundw
        case rel =>
          refine ⟨k + 1, by omega, by go_num, ⟨some ⟨g, 0, none⟩, cap, ?_, ?_⟩, HB5.out⟩
          · rw [HS.out, if_pos rfl, List.length_append]; rfl
          · rw [HS.out, if_pos rfl]
            have e := HO5.out
            unfold PRow
            rw [List.length_append, List.flatMap_append]
            exact e
        case measure => simp [intOf]; omega
    · have hk' : k = 64 := by omega
      subst hk'
      go_wp2
      go_ret
      exact ⟨a, c, rfl, HO.out, HB.out⟩
end Go.Proofs.Ytfhlcjfgbhmecaa
/- store.Len, Same, Clone. -/
namespace Go.Proofs.Ytfhlcjfgbhmecaa
open Go.RowKit
set_option linter.unusedVariables false

theorem kcell_one (st : List (Bool × Int)) : ∀ u ∈ st.flatMap kcell, u.oneCell' = true := by
  intro u hu
  simp only [List.mem_flatMap, kcell, List.mem_cons, List.not_mem_nil, or_false] at hu
  obtain ⟨p, _, rfl | rfl⟩ := hu <;> rfl

theorem fold_set_get : ∀ (L : List Value) (i : Nat) (A : Array Value) (j : Nat), i + L.length ≤ A.size →
    ((L.zipIdx i).foldl (fun c x => c.setIfInBounds x.2 x.1) A)[j]? = if i ≤ j ∧ j < i + L.length then L[j - i]? else A[j]?
  | [], i, A, j, h => by
    rw [if_neg (by rw [List.length_nil]; omega)]
    rfl
  | v :: L, i, A, j, h => by
    simp only [List.length_cons] at h
    rw [List.zipIdx_cons, List.foldl_cons, fold_set_get L (i + 1) _ j (by simp; omega)]
    simp only [List.length_cons]
    by_cases h1 : i + 1 ≤ j ∧ j < i + 1 + L.length
    · rw [if_pos h1, if_pos (by omega), show j - i = (j - (i + 1)) + 1 by omega, List.getElem?_cons_succ]
    · rw [if_neg h1]
      by_cases hij : j = i
      · subst hij
        rw [if_pos (by omega), Nat.sub_self, List.getElem?_cons_zero, Array.getElem?_setIfInBounds_self_of_lt (by omega)]
      · rw [if_neg (by omega), Array.getElem?_setIfInBounds_ne (Ne.symm hij)]
theorem fold_set (A : Array Value) (L : List Value) (h : A.size = L.length) : Array.foldl (fun cs x => cs.setIfInBounds x.2 x.1) A L.toArray.zipIdx 0 L.toArray.size = L.toArray := by
  rw [show L.toArray.size = L.toArray.zipIdx.size by simp, ← Array.foldl_toList, Array.toList_zipIdx]
  apply Array.ext_getElem?
  intro j
  rw [fold_set_get L 0 A j (by omega)]
  by_cases hj : j < L.length
  · rw [if_pos (by omega), Nat.sub_zero]; simp
  · rw [if_neg (by omega), Array.getElem?_eq_none (by omega)]; simp; omega

set_option maxRecDepth 100000 in
set_option maxHeartbeats 800000 in
theorem sclone_c (gs : Nat) (st : List (Bool × Int)) (w : World) (h : Store w gs st) :
    Calls Try.prog 72 #[.pointer (some ⟨gs, 0, none⟩)] w fun e w' => ∃ gt, e = .returned (.pointer (some ⟨gt, 0, none⟩)) ∧ Store w' gt st ∧ w.heap.size ≤ gt ∧ Below w.heap.size w w' := by
  have H := Lib.hid h
  have hg1 := Lib.hid (show w.heap[gs]? = some (.cells (kcells st) 130 (0, 0)) from h.b)
  have hsz1 := Lib.hid (show (Try.prog.info? 128).map (·.size) = some (kcells st).size by rw [kcells_size, h.n]; exact kcells_info)
  clear h
  have hz0 : ∀ w : World, (zeroValue 130).run Try.prog w = .ok (.agg (kcells st0)) w := fun w => by kernel_rfl
  have hs1 : (kcells st).size = 128 := by rw [kcells_size, H.out.n]
  have hs0 : (kcells st0).size = 128 := by rw [kcells_size]; rfl
  have hf : Array.foldl (fun cs x => cs.setIfInBounds x.2 x.1) (kcells st0) (kcells st).zipIdx 0 128 = kcells st := by
    have := fold_set (kcells st0) (st.flatMap kcell) (by rw [hs0, flat_len kcell 2 kcell_len, H.out.n])
    have e : (st.flatMap kcell).toArray.size = 128 := hs1
    rw [e] at this
    exact this
  obtain ⟨Z0, hZ0⟩ : ∃ Z, Z = kcells st0 := ⟨_, rfl⟩
  rw [← hZ0] at hz0 hs0 hf
  have HN := Lib.hid H.out.n
  clear hZ0
  go_enter Try.func72, Try.ntmps72
  go_wp2_with (refine wpList_load_row rfl 128 (.tmp 5) rfl gs rfl 130 (kcells st) (0, 0) _ hg1.out Try.underlying128 rfl hsz1.out ?_)
  go_ret
  exact ⟨w.heap.size, rfl, ⟨Blk.new _ _ _, HN.out⟩, Nat.le_refl _, (Below.refl _ _).alloc (Nat.le_refl _) _⟩

set_option maxRecDepth 100000 in
set_option maxHeartbeats 1600000 in
theorem ssame_c (gs gt : Nat) (st st' : List (Bool × Int)) (w : World) (h : Store w gs st) (h' : Store w gt st') (b : Bool) (hb : decide (st = st') = b) :
    Calls Try.prog 43 #[.pointer (some ⟨gs, 0, none⟩), .pointer (some ⟨gt, 0, none⟩)] w fun e w' => e = .returned (.bool b) ∧ Below w.heap.size w w' := by
  have H := Lib.hid h
  have H' := Lib.hid h'
  have hg1 := Lib.hid (show w.heap[gs]? = some (.cells (kcells st) 130 (0, 0)) from h.b)
  have hsz1 := Lib.hid (show (Try.prog.info? 128).map (·.size) = some (kcells st).size by rw [kcells_size, h.n]; exact kcells_info)
  have HBB := Lib.hid hb
  clear h h' hb
  go_enter Try.func43, Try.ntmps43
  go_wp2_with (refine wpList_load_row rfl 128 (.tmp 9) rfl gs rfl 130 (kcells st) (0, 0) _ hg1.out Try.underlying128 rfl hsz1.out ?_)
  go_loopw [11] (fun i wr => ∃ k : Nat, k ≤ 64 ∧ i = .int .i64 k ∧ (∀ j, j < k → st[j]? = st'[j]?) ∧ Below w.heap.size w wr) (fun i _ => 64 - (intOf i).toNat)
  case atStart => exact ⟨0, by omega, rfl, fun j hj => absurd hj (by omega), Below.refl _ _⟩
  case round =>
    obtain ⟨k, hk64, rfl, hs, hb⟩ := hrel
    have HB := Lib.hid hb
    have HS := Lib.hid hs
    have hz := hb.size
    clear hb hs
    by_cases hlt : k < 64
    · have hkl : k < st.length := by rw [H.out.n]; exact hlt
      have hkl' : k < st'.length := by rw [H'.out.n]; exact hlt
      have hidx := index_c st H.out.n k hkl
      have G' := H'.out.below HB.out
      have d0 := G'.at0 k hkl'
      have d1 := G'.at1 k hkl'
      obtain ⟨x, hx⟩ : ∃ x, x = st[k] := ⟨_, rfl⟩
      obtain ⟨y, hy⟩ : ∃ y, y = st'[k] := ⟨_, rfl⟩
      rw [← hx] at hidx
      rw [← hy] at d0 d1
      obtain ⟨x0, x1⟩ := x
      obtain ⟨y0, y1⟩ := y
      have HX := Lib.hid hx
      have HY := Lib.hid hy
      have i0 : (0 : Int) ≤ k := by omega
      have i1 : (k : Int) < 64 := by omega
      clear G' hx hy
      have hbad : (x0, x1) ≠ (y0, y1) → b = false := fun hne => by
        rw [← HBB.out]
        refine decide_eq_false fun he => hne ?_
        rw [HX.out, HY.out]
        subst he
        rfl
      have HBAD := Lib.hid hbad
      clear hbad
      go_wp2_with fail
      obtain ⟨w6, hw6⟩ : ∃ w6, w6 = wr.alloc (.cells #[.bool x0, .int .i64 x1] 127) := ⟨_, rfl⟩
      rw [← hw6]
      have hb6 : Below w.heap.size w w6 := by rw [hw6]; exact HB.out.alloc hz _
      have hB : Blk w6 wr.heap.size 127 #[.bool x0, .int .i64 x1] := by rw [hw6]; exact Blk.new _ _ _
      have p0 := (hB.cell 0).trans (show _ = some (.bool x0) from rfl)
      have p1 := (hB.cell 1).trans (show _ = some (.int .i64 x1) from rfl)
      have q0 : w6.cell? ⟨gt, k * 2, none⟩ = some (.bool y0) := by rw [hw6]; exact alloc_kept _ d0
      have q1 : w6.cell? ⟨gt, k * 2 + 1, none⟩ = some (.int .i64 y1) := by rw [hw6]; exact alloc_kept _ d1
      have HB6 := Lib.hid hb6
      clear hw6 hB d0 d1 hb6
      by_cases e0 : x0 = y0
      · by_cases e1 : x1 = y1
        · subst e0
          subst e1
          go_quiet (fail)
          go_wp2
          go_roundw
          case rel =>
            refine ⟨k + 1, by omega, by go_num, fun j hj => ?_, below_drewN HB6.out nq⟩
            by_cases hjk : j < k
            · exact HS.out j hjk
            · obtain rfl : j = k := by omega
              rw [List.getElem?_eq_getElem hkl, List.getElem?_eq_getElem hkl', ← HX.out, ← HY.out]
          case measure => simp [intOf]; omega
        · have e2 : (x1 == y1) = false := beq_eq_false_iff_ne.2 e1
          obtain rfl : b = false := HBAD.out (by simp [e1])
          subst e0
          clear HBAD
          go_quiet (fail)
          go_wp2
          go_ret
          exact ⟨rfl, below_drewN HB6.out nq⟩
      · have e2 : (x0 == y0) = false := beq_eq_false_iff_ne.2 e0
        obtain rfl : b = false := HBAD.out (by simp [e0])
        clear HBAD
        go_quiet (fail)
        go_wp2
        go_ret
        exact ⟨rfl, below_drewN HB6.out nq⟩
    · have hkk : k = 64 := by omega
      obtain rfl : b = true := by
        rw [← HBB.out]
        refine decide_eq_true (List.ext_getElem? fun j => ?_)
        by_cases hj : j < k
        · exact HS.out j hj
        · rw [List.getElem?_eq_none (by rw [H.out.n]; omega), List.getElem?_eq_none (by rw [H'.out.n]; omega)]
      clear hkk
      go_wp2
      go_ret
      exact ⟨rfl, HB.out⟩
end Go.Proofs.Ytfhlcjfgbhmecaa
/- Two arrays of one-celled things compared by ==. Over any program. -/
namespace Go.Proofs.Ytfhlcjfgbhmecaa
open Go.RowKit
set_option linter.unusedVariables false
section
variable {P : Program} (w : World)

theorem arr_loop (d : Nat) (e : TypeId) (xs ys : Array Value) (hagg : (isAgg e).run P w = .ok false w) : ∀ (m k : Nat),
    (∀ i, k ≤ i → i < k + m → ∃ x y r, xs[i]? = some x ∧ ys[i]? = some y ∧ (Op.equalIn d e x y).run P w = .ok r w ∧ (r = true ↔ x = y)) →
    ∃ b : Bool, (b = true ↔ ∀ i, k ≤ i → i < k + m → xs[i]? = ys[i]?) ∧ (Sem.run P (forIn (List.range' k m) ((none, ()) : Option Bool × Unit) fun i __s => do
            let __do_lift ← part e xs i
            let __do_lift_1 ← part e ys i
            let __do_lift ← Op.equalIn d e __do_lift __do_lift_1
            if __do_lift = false then pure (ForInStep.done (some false, ())) else pure (ForInStep.yield (none, ()))) w) =
      .ok (if b then (none, ()) else (some false, ())) w
  | 0, k, h => ⟨true, by simp; intro i h1 h2; omega, by simp⟩
  | m + 1, k, h => by
    obtain ⟨x, y, r, hx, hy, he, hr⟩ := h k (Nat.le_refl _) (by omega)
    obtain ⟨b, hb, ih⟩ := arr_loop d e xs ys hagg m (k + 1) (fun i h1 h2 => h i (by omega) (by omega))
    rw [List.range'_succ]
    simp only [List.forIn_cons, Sem.run_bind, part, hagg, Result.andThen_ok, Bool.false_eq_true, if_false, hx, hy, Sem.run_pure, he]
    cases r with
    | true =>
      have hxy : x = y := hr.1 rfl
      refine ⟨b, ?_, ?_⟩
      · rw [hb]
        constructor
        · intro hall i h1 h2
          by_cases hik : i = k
          · subst hik
            rw [hx, hy, hxy]
          · exact hall i (by omega) (by omega)
        · exact fun h' i h1 h2 => h' i (by omega) (by omega)
      · simp only [Bool.true_eq_false, if_false, Sem.run_pure, Result.andThen_ok]
        exact ih
    | false =>
      refine ⟨false, ?_, ?_⟩
      · constructor
        · intro h'; cases h'
        · intro h'
          have := h' k (Nat.le_refl _) (by omega)
          rw [hx, hy] at this
          exact (hr.2 (Option.some.inj this))
      · simp only [if_true, Sem.run_pure, Result.andThen_ok, Bool.false_eq_true, if_false]

theorem run_equalIn_array (d : Nat) (t e : TypeId) (n : Nat) (i : TypeInfo) (xs ys : Array Value) (ht : P.underlying t = some (.array n e)) (hi : P.info? e = some i) (hs : i.size = 1) (hagg : (isAgg e).run P w = .ok false w)
    (h : ∀ i, i < n → ∃ x y r, xs[i]? = some x ∧ ys[i]? = some y ∧ (Op.equalIn d e x y).run P w = .ok r w ∧ (r = true ↔ x = y)) (b : Bool) (hb : b = true ↔ ∀ i, i < n → xs[i]? = ys[i]?) :
    (Op.equalIn (d + 1) t (.agg xs) (.agg ys)).run P w = .ok b w := by
  obtain ⟨b', hb', hl⟩ := arr_loop w d e xs ys hagg n 0 (fun i _ h2 => h i (by omega))
  have e1 : b = b' := by
    have : b = true ↔ b' = true := by
      rw [hb, hb']
      exact ⟨fun h i _ h2 => h i (by omega), fun h i h2 => h i (Nat.zero_le _) (by omega)⟩
    cases b <;> cases b' <;> simp_all
  subst e1
  simp only [Op.equalIn, Sem.run_bind, run_underlying ht, Result.andThen_ok]
  simp [sizeOf, typeInfo, hi, hs]
  rw [hl]
  cases b <;> rfl

/-- Four integers against four. -/
theorem run_equalIn_four (d : Nat) (t e : TypeId) (i : TypeInfo) (ht : P.underlying t = some (.array 4 e)) (hi : P.info? e = some i) (hs : i.size = 1) (hagg : (isAgg e).run P w = .ok false w) (he : P.underlying e = some (.int .i64))
    (x0 x1 x2 x3 y0 y1 y2 y3 : Int) (b : Bool) (hb : b = true ↔ x0 = y0 ∧ x1 = y1 ∧ x2 = y2 ∧ x3 = y3) :
    (Op.equalIn (d + 1 + 1) t (.agg #[.int .i64 x0, .int .i64 x1, .int .i64 x2, .int .i64 x3]) (.agg #[.int .i64 y0, .int .i64 y1, .int .i64 y2, .int .i64 y3])).run P w = .ok b w := by
  refine run_equalIn_array w (d + 1) t e 4 i _ _ ht hi hs hagg ?_ b ?_
  · intro j hj
    have key : ∀ x y : Int, ∃ r : Bool, (Op.equalIn (d + 1) e (.int .i64 x) (.int .i64 y)).run P w = .ok r w ∧ (r = true ↔ Value.int .i64 x = .int .i64 y) := fun x y =>
      ⟨x == y, run_equalIn_int w d e .i64 .i64 x y he, by simp⟩
    match j, hj with
    | 0, _ => obtain ⟨r, h1, h2⟩ := key x0 y0; exact ⟨_, _, r, rfl, rfl, h1, h2⟩
    | 1, _ => obtain ⟨r, h1, h2⟩ := key x1 y1; exact ⟨_, _, r, rfl, rfl, h1, h2⟩
    | 2, _ => obtain ⟨r, h1, h2⟩ := key x2 y2; exact ⟨_, _, r, rfl, rfl, h1, h2⟩
    | 3, _ => obtain ⟨r, h1, h2⟩ := key x3 y3; exact ⟨_, _, r, rfl, rfl, h1, h2⟩
  · rw [hb]
    constructor
    · rintro ⟨rfl, rfl, rfl, rfl⟩ j _
      rfl
    · intro h
      have h0 := h 0 (by omega)
      have h1 := h 1 (by omega)
      have h2 := h 2 (by omega)
      have h3 := h 3 (by omega)
      simp at h0 h1 h2 h3
      exact ⟨h0, h1, h2, h3⟩
end
end Go.Proofs.Ytfhlcjfgbhmecaa
