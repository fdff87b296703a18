/- Whether a store is what the reference's is: the law's comparison. -/
import Derived.Test.YtghaahagacffiaaRStore
import Derived.Test.YtghaahagacffiaaSame2
import Derived.Test.YtghaahagacffiaaStoreW
namespace Go.Proofs.Ytghaahagacffiaa
open Go.RowKit
set_option linter.unusedVariables false

/-- A key without a value has 0. -/
def Zeros (st : List (Bool × Int)) : Prop := ∀ c ∈ st, c.1 = false → c.2 = 0
theorem Zeros.zero : Zeros st0 := by
  intro c hc _
  rw [List.eq_of_mem_replicate hc]
theorem Zeros.set {st : List (Bool × Int)} (h : Zeros st) (k : Nat) {c : Bool × Int} (hc : c.1 = false → c.2 = 0) : Zeros (st.set k c) := by
  intro d hd hf
  rcases List.mem_or_eq_of_mem_set hd with h1 | h1
  · exact h _ h1 hf
  · subst h1
    exact hc hf
theorem Zeros.op {st : List (Bool × Int)} (h : Zeros st) (kind key val : Int) : Zeros (opSt st kind key val) := by
  unfold opSt
  split
  · split
    · exact h.set _ (fun h => by cases h)
    · split
      · split
        · exact h.set _ (fun h => by cases h)
        · exact h
      · split
        · exact h.set _ (fun _ => rfl)
        · exact h
  · exact h
def sumP (l : List (Int × Int)) : Int := (l.map (·.2)).sum
theorem sumP_snoc (l : List (Int × Int)) (p : Int × Int) : sumP (l ++ [p]) = sumP l + p.2 := by
  simp only [sumP, List.map_append, List.sum_append, List.map_cons, List.map_nil, List.sum_cons, List.sum_nil, Int.add_zero]
theorem sum_all {st : List (Bool × Int)} (hz : Zeros st) : ∀ k, k ≤ st.length → sumP (allTo st k) = sumSt (st.take k)
  | 0, _ => rfl
  | k + 1, h => by
    have hk : k < st.length := by omega
    have ih := sum_all hz k (by omega)
    have hg : st.getD k (false, 0) = st[k] := by simp [List.getD, hk]
    rw [allTo_succ, hg, sum_take st k hk]
    split
    · rw [sumP_snoc, ih]
    · rename_i hf
      rw [ih, hz _ (List.getElem_mem hk) (by simpa using hf)]
      omega
theorem sum_set : ∀ (st : List (Bool × Int)) (k : Nat) (hk : k < st.length) (c : Bool × Int), sumSt (st.set k c) = sumSt st - st[k].2 + c.2
  | x :: st, 0, _, c => by
    simp only [sumSt, List.set_cons_zero, List.map_cons, List.sum_cons, List.getElem_cons_zero]
    omega
  | x :: st, k + 1, hk, c => by
    have ih := sum_set st k (by simpa using hk) c
    simp only [sumSt, List.set_cons_succ, List.map_cons, List.sum_cons, List.getElem_cons_succ] at ih ⊢
    omega


theorem get_zero {st : List (Bool × Int)} (hz : Zeros st) (hl : st.length = 64) (j : Nat) (hj : j < 64) : sgetB st j = (st[j]'(by omega)).1 ∧ sgetR st j = (st[j]'(by omega)).2 := by
  have hlt : j < st.length := by omega
  have hg : st.getD j (false, 0) = st[j] := by simp [List.getD, hlt]
  have hB : sgetB st j = st[j].1 := by unfold sgetB; rw [decide_eq_true (show 0 ≤ (j : Int) ∧ (j : Int) < 64 by omega), Int.toNat_natCast, hg]; rfl
  refine ⟨hB, ?_⟩
  unfold sgetR
  rw [hB, Int.toNat_natCast, hg]
  split
  · rfl
  · rename_i hf
    exact (hz _ (List.getElem_mem hlt) (by simpa using hf)).symm
theorem get_out (st : List (Bool × Int)) (z : Int) (h : z < 0 ∨ 64 ≤ z) : sgetB st z = false ∧ sgetR st z = 0 := by
  have hB : sgetB st z = false := by unfold sgetB; rw [decide_eq_false (by omega)]; rfl
  exact ⟨hB, by unfold sgetR; rw [hB]; rfl⟩

set_option maxRecDepth 100000 in
set_option maxHeartbeats 1600000 in
theorem right_c (gs gr : Nat) (st : List (Bool × Int)) (w : World) (h : Store w gs st) (h' : RStore w gr st) (hz : Zeros st) :
    Calls Try.prog 18 #[.pointer (some ⟨gs, 0, none⟩), .pointer (some ⟨gr, 0, none⟩)] w fun e w' => e = .returned (.bool true) ∧ Below w.heap.size w w' := by
  have H := Lib.hid h
  have H' := Lib.hid h'
  have HZ := Lib.hid hz
  clear h h' hz
  go_enter Try.func18, Try.ntmps18
  go_wp2_with fail
  refine (rall_c gr st _ H'.out).mono ?_; rintro e w1 ⟨ax, cx, rfl, hx, hb1⟩
  have H1 := Lib.hid (H.out.below hb1)
  have HR1 := Lib.hid (H'.out.below hb1)
  have X1 := Lib.hid (own_vrow hx)
  have HB1 := Lib.hid hb1
  have z1 := hb1.size
  clear hx hb1
  go_wp2_with fail
  refine (all_c gs st _ H1.out).mono ?_; rintro e w2 ⟨ay, cy, rfl, hy, hb2⟩
  have H2 := Lib.hid (H1.out.below hb2)
  have HR2 := Lib.hid (HR1.out.below hb2)
  have X2 := Lib.hid (X1.out.below hb2)
  have Y2 := Lib.hid (own_vrow hy)
  have HB2 := Lib.hid (HB1.out.trans (hb2.mono z1))
  have z2 := HB2.out.size
  have hlen := allTo_len st 64
  clear hy hb2
  go_wp2_with fail
  refine (same2_c ay ax _ _ cy cx (allTo st 64) (allTo st 64) _ Y2.out X2.out rfl rfl (by omega) (by omega) true (decide_eq_true rfl)).mono ?_; rintro e w3 ⟨rfl, hb3⟩
  have H3 := Lib.hid (H2.out.below hb3)
  have HR3 := Lib.hid (HR2.out.below hb3)
  have HB3 := Lib.hid (HB2.out.trans (hb3.mono z2))
  have z3 := HB3.out.size
  have e0 : (((allTo st 64).length : Int) != ((allTo st 64).length : Int)) = false := by simp
  clear hb3
  go_wp2_with fail
  refine (len_c gs st _ H3.out _ rfl).mono ?_; rintro e w4 ⟨rfl, hb4⟩
  have H4 := Lib.hid (H3.out.below hb4)
  have HR4 := Lib.hid (HR3.out.below hb4)
  have HB4 := Lib.hid (HB3.out.trans (hb4.mono z3))
  clear hb4
  go_wp2_with fail
  go_loop [6] (fun i => ∃ z : Int, -1 ≤ z ∧ z ≤ 65 ∧ i = .int .i64 z) (fun i => (65 - intOf i).toNat)
  case atStart => exact ⟨-1, by omega, by omega, rfl⟩
  case round =>
    obtain ⟨z, hz1, hz2, rfl⟩ := hrel
    rcases (show z < 0 ∨ (0 ≤ z ∧ z < 64) ∨ z = 64 ∨ z = 65 by omega) with hz | ⟨hz3, hz4⟩ | rfl | rfl
    · have g1 := Lib.hid (get_out st z (by omega)).1
      have g2 := Lib.hid (get_out st z (by omega)).2
      go_wp2_with fail
      refine (sget_c gs st z _ H4.out (I64.of (by omega) (by omega)) false g1.out 0 g2.out).mono ?_; rintro e w' ⟨rfl, rfl⟩
      go_wp2
      go_round
      case rel => exact ⟨z + 1, by omega, by omega, by go_num⟩
      case measure => simp [intOf]; omega
    · obtain ⟨j, rfl⟩ := Int.eq_ofNat_of_zero_le hz3
      have hj : j < 64 := by omega
      have hjl : j < st.length := by rw [H4.out.n]; exact hj
      have hg := get_zero HZ.out H4.out.n j hj
      have c1 := HR4.out.val j hjl
      have c2 := HR4.out.has j hjl
      obtain ⟨v, hv⟩ : ∃ v, v = st[j].2 := ⟨_, rfl⟩
      obtain ⟨b, hb⟩ : ∃ b, b = st[j].1 := ⟨_, rfl⟩
      rw [← hv, ← hb] at hg
      rw [← hv] at c1
      rw [← hb] at c2
      have g1 := Lib.hid hg.1
      have g2 := Lib.hid hg.2
      have e1 : (v != v) = false := by simp
      have e2 : (b != b) = false := by simp
      clear hg hv hb
      go_wp2_with fail
      refine (sget_c gs st j _ H4.out (I64.of (by omega) (by omega)) b g1.out v g2.out).mono ?_; rintro e w' ⟨rfl, rfl⟩
      go_wp2
      go_round
      case rel => exact ⟨j + 1, by omega, by omega, by go_num⟩
      case measure => simp [intOf]; omega
    · have g1 := Lib.hid (get_out st 64 (by omega)).1
      have g2 := Lib.hid (get_out st 64 (by omega)).2
      go_wp2_with fail
      refine (sget_c gs st 64 _ H4.out (I64.of (by omega) (by omega)) false g1.out 0 g2.out).mono ?_; rintro e w' ⟨rfl, rfl⟩
      go_wp2
      go_round
      case rel => exact ⟨65, by omega, by omega, by go_num⟩
      case measure => simp [intOf]
    · go_wp2
      go_ret
      exact ⟨rfl, HB4.out⟩
end Go.Proofs.Ytghaahagacffiaa
