/- store.Len, Same, Clone. -/
import Derived.Test.YtfhlcjfgbhmecaaStoreB
namespace Go.Proofs.Ytfhlcjfgbhmecaa
open Go.RowKit
set_option linter.unusedVariables false

theorem kcell_one (st : List (Bool × Int)) : ∀ u ∈ st.flatMap kcell, u.oneCell' = true := by
  intro u hu
  simp only [List.mem_flatMap, kcell, List.mem_cons, List.not_mem_nil, or_false] at hu
  obtain ⟨p, _, rfl | rfl⟩ := hu <;> rfl

theorem fold_set_get : ∀ (L : List Value) (i : Nat) (A : Array Value) (j : Nat), i + L.length ≤ A.size →
    ((L.zipIdx i).foldl (fun c x => c.setIfInBounds x.2 x.1) A)[j]? = if i ≤ j ∧ j < i + L.length then L[j - i]? else A[j]?
  | [], i, A, j, h => by
    rw [if_neg (by rw [List.length_nil]; omega)]
    rfl
  | v :: L, i, A, j, h => by
    simp only [List.length_cons] at h
    rw [List.zipIdx_cons, List.foldl_cons, fold_set_get L (i + 1) _ j (by simp; omega)]
    simp only [List.length_cons]
    by_cases h1 : i + 1 ≤ j ∧ j < i + 1 + L.length
    · rw [if_pos h1, if_pos (by omega), show j - i = (j - (i + 1)) + 1 by omega, List.getElem?_cons_succ]
    · rw [if_neg h1]
      by_cases hij : j = i
      · subst hij
        rw [if_pos (by omega), Nat.sub_self, List.getElem?_cons_zero, Array.getElem?_setIfInBounds_self_of_lt (by omega)]
      · rw [if_neg (by omega), Array.getElem?_setIfInBounds_ne (Ne.symm hij)]
theorem fold_set (A : Array Value) (L : List Value) (h : A.size = L.length) : Array.foldl (fun cs x => cs.setIfInBounds x.2 x.1) A L.toArray.zipIdx 0 L.toArray.size = L.toArray := by
  rw [show L.toArray.size = L.toArray.zipIdx.size by simp, ← Array.foldl_toList, Array.toList_zipIdx]
  apply Array.ext_getElem?
  intro j
  rw [fold_set_get L 0 A j (by omega)]
  by_cases hj : j < L.length
  · rw [if_pos (by omega), Nat.sub_zero]; simp
  · rw [if_neg (by omega), Array.getElem?_eq_none (by omega)]; simp; omega

set_option maxRecDepth 100000 in
set_option maxHeartbeats 800000 in
theorem sclone_c (gs : Nat) (st : List (Bool × Int)) (w : World) (h : Store w gs st) :
    Calls Try.prog 72 #[.pointer (some ⟨gs, 0, none⟩)] w fun e w' => ∃ gt, e = .returned (.pointer (some ⟨gt, 0, none⟩)) ∧ Store w' gt st ∧ w.heap.size ≤ gt ∧ Below w.heap.size w w' := by
  have H := Lib.hid h
  have hg1 := Lib.hid (show w.heap[gs]? = some (.cells (kcells st) 130 (0, 0)) from h.b)
  have hsz1 := Lib.hid (show (Try.prog.info? 128).map (·.size) = some (kcells st).size by rw [kcells_size, h.n]; exact kcells_info)
  clear h
  have hz0 : ∀ w : World, (zeroValue 130).run Try.prog w = .ok (.agg (kcells st0)) w := fun w => by kernel_rfl
  have hs1 : (kcells st).size = 128 := by rw [kcells_size, H.out.n]
  have hs0 : (kcells st0).size = 128 := by rw [kcells_size]; rfl
  have hf : Array.foldl (fun cs x => cs.setIfInBounds x.2 x.1) (kcells st0) (kcells st).zipIdx 0 128 = kcells st := by
    have := fold_set (kcells st0) (st.flatMap kcell) (by rw [hs0, flat_len kcell 2 kcell_len, H.out.n])
    have e : (st.flatMap kcell).toArray.size = 128 := hs1
    rw [e] at this
    exact this
  obtain ⟨Z0, hZ0⟩ : ∃ Z, Z = kcells st0 := ⟨_, rfl⟩
  rw [← hZ0] at hz0 hs0 hf
  have HN := Lib.hid H.out.n
  clear hZ0
  go_enter Try.func72, Try.ntmps72
  go_wp2_with (refine wpList_load_row rfl 128 (.tmp 5) rfl gs rfl 130 (kcells st) (0, 0) _ hg1.out Try.underlying128 rfl hsz1.out ?_)
  go_ret
  exact ⟨w.heap.size, rfl, ⟨Blk.new _ _ _, HN.out⟩, Nat.le_refl _, (Below.refl _ _).alloc (Nat.le_refl _) _⟩

set_option maxRecDepth 100000 in
set_option maxHeartbeats 1600000 in
theorem ssame_c (gs gt : Nat) (st st' : List (Bool × Int)) (w : World) (h : Store w gs st) (h' : Store w gt st') (b : Bool) (hb : decide (st = st') = b) :
    Calls Try.prog 43 #[.pointer (some ⟨gs, 0, none⟩), .pointer (some ⟨gt, 0, none⟩)] w fun e w' => e = .returned (.bool b) ∧ Below w.heap.size w w' := by
  have H := Lib.hid h
  have H' := Lib.hid h'
  have hg1 := Lib.hid (show w.heap[gs]? = some (.cells (kcells st) 130 (0, 0)) from h.b)
  have hsz1 := Lib.hid (show (Try.prog.info? 128).map (·.size) = some (kcells st).size by rw [kcells_size, h.n]; exact kcells_info)
  have HBB := Lib.hid hb
  clear h h' hb
  go_enter Try.func43, Try.ntmps43
  go_wp2_with (refine wpList_load_row rfl 128 (.tmp 9) rfl gs rfl 130 (kcells st) (0, 0) _ hg1.out Try.underlying128 rfl hsz1.out ?_)
  go_loopw [11] (fun i wr => ∃ k : Nat, k ≤ 64 ∧ i = .int .i64 k ∧ (∀ j, j < k → st[j]? = st'[j]?) ∧ Below w.heap.size w wr) (fun i _ => 64 - (intOf i).toNat)
  case atStart => exact ⟨0, by omega, rfl, fun j hj => absurd hj (by omega), Below.refl _ _⟩
  case round =>
    obtain ⟨k, hk64, rfl, hs, hb⟩ := hrel
    have HB := Lib.hid hb
    have HS := Lib.hid hs
    have hz := hb.size
    clear hb hs
    by_cases hlt : k < 64
    · have hkl : k < st.length := by rw [H.out.n]; exact hlt
      have hkl' : k < st'.length := by rw [H'.out.n]; exact hlt
      have hidx := index_c st H.out.n k hkl
      have G' := H'.out.below HB.out
      have d0 := G'.at0 k hkl'
      have d1 := G'.at1 k hkl'
      obtain ⟨x, hx⟩ : ∃ x, x = st[k] := ⟨_, rfl⟩
      obtain ⟨y, hy⟩ : ∃ y, y = st'[k] := ⟨_, rfl⟩
      rw [← hx] at hidx
      rw [← hy] at d0 d1
      obtain ⟨x0, x1⟩ := x
      obtain ⟨y0, y1⟩ := y
      have HX := Lib.hid hx
      have HY := Lib.hid hy
      have i0 : (0 : Int) ≤ k := by omega
      have i1 : (k : Int) < 64 := by omega
      clear G' hx hy
      have hbad : (x0, x1) ≠ (y0, y1) → b = false := fun hne => by
        rw [← HBB.out]
        refine decide_eq_false fun he => hne ?_
        rw [HX.out, HY.out]
        subst he
        rfl
      have HBAD := Lib.hid hbad
      clear hbad
      go_wp2_with fail
      obtain ⟨w6, hw6⟩ : ∃ w6, w6 = wr.alloc (.cells #[.bool x0, .int .i64 x1] 127) := ⟨_, rfl⟩
      rw [← hw6]
      have hb6 : Below w.heap.size w w6 := by rw [hw6]; exact HB.out.alloc hz _
      have hB : Blk w6 wr.heap.size 127 #[.bool x0, .int .i64 x1] := by rw [hw6]; exact Blk.new _ _ _
      have p0 := (hB.cell 0).trans (show _ = some (.bool x0) from rfl)
      have p1 := (hB.cell 1).trans (show _ = some (.int .i64 x1) from rfl)
      have q0 : w6.cell? ⟨gt, k * 2, none⟩ = some (.bool y0) := by rw [hw6]; exact alloc_kept _ d0
      have q1 : w6.cell? ⟨gt, k * 2 + 1, none⟩ = some (.int .i64 y1) := by rw [hw6]; exact alloc_kept _ d1
      have HB6 := Lib.hid hb6
      clear hw6 hB d0 d1 hb6
      by_cases e0 : x0 = y0
      · by_cases e1 : x1 = y1
        · subst e0
          subst e1
          go_quiet (fail)
          go_wp2
          go_roundw
          case rel =>
            refine ⟨k + 1, by omega, by go_num, fun j hj => ?_, below_drewN HB6.out nq⟩
            by_cases hjk : j < k
            · exact HS.out j hjk
            · obtain rfl : j = k := by omega
              rw [List.getElem?_eq_getElem hkl, List.getElem?_eq_getElem hkl', ← HX.out, ← HY.out]
          case measure => simp [intOf]; omega
        · have e2 : (x1 == y1) = false := beq_eq_false_iff_ne.2 e1
          obtain rfl : b = false := HBAD.out (by simp [e1])
          subst e0
          clear HBAD
          go_quiet (fail)
          go_wp2
          go_ret
          exact ⟨rfl, below_drewN HB6.out nq⟩
      · have e2 : (x0 == y0) = false := beq_eq_false_iff_ne.2 e0
        obtain rfl : b = false := HBAD.out (by simp [e0])
        clear HBAD
        go_quiet (fail)
        go_wp2
        go_ret
        exact ⟨rfl, below_drewN HB6.out nq⟩
    · have hkk : k = 64 := by omega
      obtain rfl : b = true := by
        rw [← HBB.out]
        refine decide_eq_true (List.ext_getElem? fun j => ?_)
        by_cases hj : j < k
        · exact HS.out j hj
        · rw [List.getElem?_eq_none (by rw [H.out.n]; omega), List.getElem?_eq_none (by rw [H'.out.n]; omega)]
      clear hkk
      go_wp2
      go_ret
      exact ⟨rfl, HB.out⟩
end Go.Proofs.Ytfhlcjfgbhmecaa
