/- psephoskeep.Same on slices of pairs. -/
import Derived.Test.YtfhlcjfgbhmecaaStoreD
import Derived.Test.YtfhlcjfgbhmecaaArrEq
namespace Go.Proofs.Ytfhlcjfgbhmecaa
open Go.RowKit
set_option linter.unusedVariables false

theorem info_int : (Try.prog.info? 3).map (fun i => (i.zero, i.size, i.bytes)) = some (some (.int .i64 0), 1, 8) := by kernel_rfl
theorem arr_two (x0 x1 y0 y1 : Int) (b : Bool) (hb : b = true ↔ x0 = y0 ∧ x1 = y1) (w : World) :
    (Op.equalIn 10000 75 (.agg #[.int .i64 x0, .int .i64 x1]) (.agg #[.int .i64 y0, .int .i64 y1])).run Try.prog w = .ok b w := by
  obtain ⟨i, h1, _, h2, _⟩ := info_parts info_int
  refine run_equalIn_array w 9999 75 3 2 i _ _ Try.underlying75 h1 h2 (by kernel_rfl) ?_ b ?_
  · intro j hj
    have key : ∀ x y : Int, ∃ r : Bool, (Op.equalIn (9998 + 1) 3 (.int .i64 x) (.int .i64 y)).run Try.prog w = .ok r w ∧ (r = true ↔ Value.int .i64 x = .int .i64 y) := fun x y =>
      ⟨x == y, run_equalIn_int w 9998 3 .i64 .i64 x y Try.underlying3, by simp⟩
    match j, hj with
    | 0, _ => obtain ⟨r, h1, h2⟩ := key x0 y0; exact ⟨_, _, r, rfl, rfl, h1, h2⟩
    | 1, _ => obtain ⟨r, h1, h2⟩ := key x1 y1; exact ⟨_, _, r, rfl, rfl, h1, h2⟩
  · rw [hb]
    constructor
    · rintro ⟨rfl, rfl⟩ j _
      rfl
    · intro h
      have h0 := h 0 (by omega)
      have h1 := h 1 (by omega)
      simp at h0 h1
      exact ⟨h0, h1⟩

set_option maxHeartbeats 1600000 in
theorem same2_c (a b : Option Addr) (n m c d : Nat) (l l' : List (Int × Int)) (w : World) (h : VRow w a n 2 (l.flatMap acell)) (h' : VRow w b m 2 (l'.flatMap acell)) (hl : l.length = n) (hl' : l'.length = m) (hn : n ≤ 4096) (hm : m ≤ 4096) (bb : Bool) (hb : decide (l = l') = bb) :
    Calls Try.prog 50 #[.slice a n c, .slice b m d] w fun e w' => e = .returned (.bool bb) ∧ Below w.heap.size w w' := by
  have H := Lib.hid h
  have H' := Lib.hid h'
  have HL := Lib.hid hl
  have HL' := Lib.hid hl'
  have HBB := Lib.hid hb
  by_cases hnm : n = m
  · subst hnm
    clear h h' hl hl' hb
    go_enter Try.func50, Try.ntmps50
    go_wp2_with fail
    go_loopw [5] (fun i wr => ∃ k : Nat, k ≤ n ∧ i = .int .i64 k ∧ (∀ j, j < k → l[j]? = l'[j]?) ∧ Below w.heap.size w wr) (fun i _ => n - (intOf i).toNat)
    case atStart => exact ⟨0, by omega, rfl, fun j hj => absurd hj (by omega), Below.refl _ _⟩
    case round =>
      obtain ⟨k, hkn, rfl, hs, hb⟩ := hrel
      have HB := Lib.hid hb
      have HS := Lib.hid hs
      clear hs hb
      by_cases hlt : k < n
      · have hk1 : k < l.length := by rw [HL.out]; exact hlt
        have hk2 : k < l'.length := by rw [HL'.out]; exact hlt
        obtain ⟨b1, o1, rfl, hb1, hc1⟩ := H.out.2 (by omega)
        obtain ⟨b2, o2, rfl, hb2, hc2⟩ := H'.out.2 (by omega)
        obtain ⟨x, hx⟩ : ∃ x, x = l[k] := ⟨_, rfl⟩
        obtain ⟨y, hy⟩ : ∃ y, y = l'[k] := ⟨_, rfl⟩
        have a0 : wr.cell? ⟨b1, o1 + k * 2, none⟩ = some (.int .i64 x.1) := (HB.out.cell (p := ⟨b1, o1 + k * 2, none⟩) hb1).trans (hc1 _ _ (flat_get' acell 2 acell_len l k 0 (by omega) hk1 _ (by rw [hx]; rfl)))
        have a1 : wr.cell? ⟨b1, o1 + k * 2 + 1, none⟩ = some (.int .i64 x.2) := (HB.out.cell (p := ⟨b1, o1 + k * 2 + 1, none⟩) hb1).trans (by rw [Nat.add_assoc]; exact hc1 _ _ (flat_get' acell 2 acell_len l k 1 (by omega) hk1 _ (by rw [hx]; rfl)))
        have d0 : wr.cell? ⟨b2, o2 + k * 2, none⟩ = some (.int .i64 y.1) := (HB.out.cell (p := ⟨b2, o2 + k * 2, none⟩) hb2).trans (hc2 _ _ (flat_get' acell 2 acell_len l' k 0 (by omega) hk2 _ (by rw [hy]; rfl)))
        have d1 : wr.cell? ⟨b2, o2 + k * 2 + 1, none⟩ = some (.int .i64 y.2) := (HB.out.cell (p := ⟨b2, o2 + k * 2 + 1, none⟩) hb2).trans (by rw [Nat.add_assoc]; exact hc2 _ _ (flat_get' acell 2 acell_len l' k 1 (by omega) hk2 _ (by rw [hy]; rfl)))
        obtain ⟨x0, x1⟩ := x
        obtain ⟨y0, y1⟩ := y
        have HX := Lib.hid hx
        have HY := Lib.hid hy
        have i0 : (0 : Int) ≤ k := by omega
        have i1 : (k : Int) < n := by omega
        have hbad : ¬ (x0 = y0 ∧ x1 = y1) → bb = false := fun hne => by
          rw [← HBB.out]
          refine decide_eq_false fun he => hne ?_
          have e : (x0, x1) = (y0, y1) := by
            rw [HX.out, HY.out]
            subst he
            rfl
          exact ⟨congrArg Prod.fst e, congrArg Prod.snd e⟩
        have HBAD := Lib.hid hbad
        clear hx hy hc1 hc2 hbad
        by_cases he : x0 = y0 ∧ x1 = y1
        · have E := arr_two x0 x1 y0 y1 true ⟨fun _ => he, fun _ => rfl⟩
          have HE := Lib.hid he
          clear he
          go_wp2_with fail
          go_quiet (fail)
          go_wp2
          go_roundw
          case rel =>
            refine ⟨k + 1, by omega, by go_num, fun j hj => ?_, below_drewN HB.out nq⟩
            by_cases hjk : j < k
            · exact HS.out j hjk
            · obtain rfl : j = k := by omega
              rw [List.getElem?_eq_getElem hk1, List.getElem?_eq_getElem hk2, ← HX.out, ← HY.out, HE.out.1, HE.out.2]
          case measure => simp [intOf]; omega
        · have E := arr_two x0 x1 y0 y1 false ⟨(fun h => by cases h), fun h => absurd h he⟩
          obtain rfl : bb = false := HBAD.out he
          clear he HBAD
          go_wp2_with fail
          go_quiet (fail)
          go_wp2
          go_ret
          exact ⟨rfl, below_drewN HB.out nq⟩
      · have hkk : k = n := by omega
        obtain rfl : bb = true := by
          rw [← HBB.out]
          refine decide_eq_true (List.ext_getElem? fun j => ?_)
          by_cases hj : j < k
          · exact HS.out j hj
          · rw [List.getElem?_eq_none (by rw [HL.out]; omega), List.getElem?_eq_none (by rw [HL'.out]; omega)]
        clear hkk
        go_wp2
        go_ret
        exact ⟨rfl, HB.out⟩
  · obtain rfl : bb = false := by
      rw [← hb]
      refine decide_eq_false fun he => hnm ?_
      rw [← hl, ← hl', he]
    have e1 : ((n : Int) != (m : Int)) = true := bne_iff_ne.2 (by omega)
    clear h h' hl hl' hb hnm
    go_enter Try.func50, Try.ntmps50
    go_wp2
    go_ret
    exact ⟨rfl, Below.refl _ _⟩

end Go.Proofs.Ytfhlcjfgbhmecaa
