/- The reference's ledger: its cells; Apply and All of the store within. -/
import Derived.Test.YtfhlcjfgbhmecaaLedgerT
import Derived.Test.YtfhlcjfgbhmecaaRCells
import Derived.Deep.RegionHeld3
namespace Go.Proofs.Ytfhlcjfgbhmecaa
open Go.RowKit
set_option linter.unusedVariables false

def tmL (ct : List (Int × Int)) : List Value := [.int .i64 (ct.getD 0 (0, 0)).1, .int .i64 (ct.getD 1 (0, 0)).1, .int .i64 (ct.getD 2 (0, 0)).1, .int .i64 (ct.getD 3 (0, 0)).1]
def rsL (ct : List (Int × Int)) : List Value := [.int .i64 (ct.getD 0 (0, 0)).2, .int .i64 (ct.getD 1 (0, 0)).2, .int .i64 (ct.getD 2 (0, 0)).2, .int .i64 (ct.getD 3 (0, 0)).2]
/-- What stands behind the store. -/
def tailL (ct : List (Int × Int)) (v : Value) : List Value := tmL ct ++ (rsL ct ++ [v])
/-- The ledger's cells. -/
def rlist (C : Int) (st : List (Bool × Int)) (ct : List (Int × Int)) (v : Value) : List Value := .int .i64 C :: (rcellsL st ++ tailL ct v)
theorem rcellsL_len' (st : List (Bool × Int)) (h : st.length = 64) : (rcellsL st).length = 128 := by unfold rcellsL; rw [List.length_append, List.length_map, List.length_map, h]
theorem rl_store (C : Int) (st : List (Bool × Int)) (ct : List (Int × Int)) (v : Value) (h : st.length = 64) (k : Nat) (hk : k < 128) : (rlist C st ct v)[1 + k]? = (rcellsL st)[k]? := by
  unfold rlist
  rw [Nat.add_comm, List.getElem?_cons_succ, List.getElem?_append_left (by rw [rcellsL_len' st h]; exact hk)]
theorem rl_tail (C : Int) (st : List (Bool × Int)) (ct : List (Int × Int)) (v : Value) (h : st.length = 64) (k : Nat) : (rlist C st ct v)[129 + k]? = (tailL ct v)[k]? := by
  unfold rlist
  rw [show 129 + k = (128 + k) + 1 by omega, List.getElem?_cons_succ, List.getElem?_append_right (by rw [rcellsL_len' st h]; omega), rcellsL_len' st h, Nat.add_sub_cancel_left]
theorem tail_time (ct : List (Int × Int)) (v : Value) (n : Nat) (hn : n < 4) : (tailL ct v)[n]? = some (.int .i64 (ct.getD n (0, 0)).1) := by
  match n, hn with
  | 0, _ => rfl
  | 1, _ => rfl
  | 2, _ => rfl
  | 3, _ => rfl
theorem tail_res (ct : List (Int × Int)) (v : Value) (n : Nat) (hn : n < 4) : (tailL ct v)[4 + n]? = some (.int .i64 (ct.getD n (0, 0)).2) := by
  match n, hn with
  | 0, _ => rfl
  | 1, _ => rfl
  | 2, _ => rfl
  | 3, _ => rfl
theorem getD_set2 (st : List (Int × Int)) (n i : Nat) (x d : Int × Int) (hn : n < st.length) : (st.set n x).getD i d = if n = i then x else st.getD i d := by
  by_cases h : n = i
  · subst h
    simp [List.getD, hn]
  · rw [if_neg h]
    simp [List.getD, List.getElem?_set_ne h]
theorem tail_set (ct : List (Int × Int)) (v : Value) (n : Nat) (t r : Int) (h4 : n < 4) (hn : n < ct.length) : ((tailL ct v).set n (.int .i64 t)).set (4 + n) (.int .i64 r) = tailL (ct.set n (t, r)) v := by
  unfold tailL tmL rsL
  simp only [getD_set2 ct n _ (t, r) (0, 0) hn]
  match n, h4 with
  | 0, _ => simp
  | 1, _ => simp
  | 2, _ => simp
  | 3, _ => simp
theorem rl_set_store (C : Int) (st : List (Bool × Int)) (ct : List (Int × Int)) (v : Value) (hl : st.length = 64) (k : Nat) (hk : k < 64) (b : Bool) (x : Int) :
    ((rlist C st ct v).set (1 + k) (.int .i64 x)).set (65 + k) (.bool b) = rlist C (st.set k (b, x)) ct v := by
  unfold rlist
  rw [show 1 + k = k + 1 by omega, show 65 + k = (64 + k) + 1 by omega, List.set_cons_succ, List.set_cons_succ, List.set_append_left _ _ (by rw [rcellsL_len' st hl]; omega), List.set_append_left _ _ (by rw [List.length_set, rcellsL_len' st hl]; omega), rcells_set st hl k hk b x]
theorem rl_set_tail (C : Int) (st : List (Bool × Int)) (ct : List (Int × Int)) (v : Value) (hl : st.length = 64) (n : Nat) (h4 : n < 4) (hn : n < ct.length) (t r : Int) :
    ((rlist C st ct v).set (129 + n) (.int .i64 t)).set (133 + n) (.int .i64 r) = rlist C st (ct.set n (t, r)) v := by
  unfold rlist
  rw [show 129 + n = (128 + n) + 1 by omega, show 133 + n = (128 + (4 + n)) + 1 by omega, List.set_cons_succ, List.set_cons_succ, List.set_append_right _ _ (by rw [rcellsL_len' st hl]; omega), List.set_append_right _ _ (by rw [rcellsL_len' st hl]; omega), rcellsL_len' st hl, Nat.add_sub_cancel_left, Nat.add_sub_cancel_left, tail_set ct v n t r h4 hn]
theorem rl_set_l (C : Int) (st : List (Bool × Int)) (ct : List (Int × Int)) (v u : Value) (hl : st.length = 64) : (rlist C st ct v).set 137 u = rlist C st ct u := by
  unfold rlist
  rw [show 137 = (128 + 8) + 1 from rfl, List.set_cons_succ, List.set_append_right _ _ (by rw [rcellsL_len' st hl]; omega), rcellsL_len' st hl, Nat.add_sub_cancel_left]
  rfl

/-- The reference's ledger at gr. -/
structure RSL (C : Int) (ct : List (Int × Int)) (v : Value) (w : World) (gr : Nat) (st : List (Bool × Int)) : Prop where
  b : Blk w gr 56 (rlist C st ct v).toArray
  n : st.length = 64
section
variable {C : Int} {ct : List (Int × Int)} {v : Value} {w w' : World} {gr : Nat} {st : List (Bool × Int)} {S : List Nat}
theorem RSL.lt (h : RSL C ct v w gr st) : gr < w.heap.size := h.b.lt
theorem RSL.only (h : RSL C ct v w gr st) (ho : Only S w w') (hn : gr ∉ S) : RSL C ct v w' gr st := ⟨h.b.only ho hn, h.n⟩
theorem RSL.below (h : RSL C ct v w gr st) (hb : Below w.heap.size w w') : RSL C ct v w' gr st := ⟨h.b.below hb h.b.lt, h.n⟩
theorem RSL.drew (h : RSL C ct v w gr st) : RSL C ct v w.drew gr st := ⟨h.b, h.n⟩
theorem RSL.drewN (h : RSL C ct v w gr st) (n : Nat) : RSL C ct v (w.drewN n) gr st := ⟨h.b, h.n⟩
theorem RSL.cl (h : RSL C ct v w gr st) : w.cell? ⟨gr, 0, none⟩ = some (.int .i64 C) := h.b.cell 0
theorem RSL.val (h : RSL C ct v w gr st) (k : Nat) (hk : k < st.length) : w.cell? ⟨gr, 1 + k, none⟩ = some (.int .i64 st[k].2) :=
  (h.b.cell (1 + k)).trans (by rw [List.getElem?_toArray, rl_store C st ct v h.n k (by rw [h.n] at hk; omega), rcellsL, List.getElem?_append_left (by simpa using hk), List.getElem?_map, List.getElem?_eq_getElem hk]; rfl)
theorem RSL.has (h : RSL C ct v w gr st) (k : Nat) (hk : k < st.length) : w.cell? ⟨gr, 65 + k, none⟩ = some (.bool st[k].1) :=
  (h.b.cell (65 + k)).trans (by rw [List.getElem?_toArray, show 65 + k = 1 + (64 + k) by omega, rl_store C st ct v h.n (64 + k) (by rw [h.n] at hk; omega), rcellsL, List.getElem?_append_right (by rw [List.length_map, h.n]; omega), List.length_map, h.n, Nat.add_sub_cancel_left, List.getElem?_map, List.getElem?_eq_getElem hk]; rfl)
theorem RSL.time (h : RSL C ct v w gr st) (k : Nat) (hk : k < 4) : w.cell? ⟨gr, 129 + k, none⟩ = some (.int .i64 (ct.getD k (0, 0)).1) :=
  (h.b.cell (129 + k)).trans (by rw [List.getElem?_toArray, rl_tail C st ct v h.n, tail_time ct v k hk])
theorem RSL.res (h : RSL C ct v w gr st) (k : Nat) (hk : k < 4) : w.cell? ⟨gr, 133 + k, none⟩ = some (.int .i64 (ct.getD k (0, 0)).2) :=
  (h.b.cell (133 + k)).trans (by rw [List.getElem?_toArray, show 133 + k = 129 + (4 + k) by omega, rl_tail C st ct v h.n, tail_res ct v k hk])
theorem RSL.log (h : RSL C ct v w gr st) : w.cell? ⟨gr, 137, none⟩ = some v :=
  (h.b.cell 137).trans (by rw [List.getElem?_toArray, show 137 = 129 + 8 from rfl, rl_tail C st ct v h.n]; rfl)
theorem RSL.set (h : RSL C ct v w gr st) {k : Nat} (hk : k < 64) (b : Bool) (x : Int) : RSL C ct v ((w.setCell ⟨gr, 1 + k, none⟩ (.int .i64 x)).setCell ⟨gr, 65 + k, none⟩ (.bool b)) gr (st.set k (b, x)) := by
  refine ⟨?_, by rw [List.length_set]; exact h.n⟩
  have e := (h.b.set_ (1 + k) (.int .i64 x)).set_ (65 + k) (.bool b)
  rw [← rl_set_store C st ct v h.n k hk b x]
  simpa only [List.setIfInBounds_toArray] using e
theorem RSL.put (h : RSL C ct v w gr st) {k : Nat} (hk : k < 4) (hc : k < ct.length) (t r : Int) : RSL C (ct.set k (t, r)) v ((w.setCell ⟨gr, 129 + k, none⟩ (.int .i64 t)).setCell ⟨gr, 133 + k, none⟩ (.int .i64 r)) gr st := by
  refine ⟨?_, h.n⟩
  have e := (h.b.set_ (129 + k) (.int .i64 t)).set_ (133 + k) (.int .i64 r)
  rw [← rl_set_tail C st ct v h.n k hk hc t r]
  simpa only [List.setIfInBounds_toArray] using e
theorem RSL.logged (h : RSL C ct v w gr st) (u : Value) : RSL C ct u (w.setCell ⟨gr, 137, none⟩ u) gr st := by
  refine ⟨?_, h.n⟩
  have e := h.b.set_ 137 u
  rw [← rl_set_l C st ct v u h.n]
  simpa only [List.setIfInBounds_toArray] using e
end
theorem rlzero (w : World) : (zeroValue 56).run Try.prog w = .ok (.agg (rlist 0 st0 [] (.slice none 0 0)).toArray) w := by kernel_rfl

set_option maxHeartbeats 800000 in
theorem lapply_no (C : Int) (ct : List (Int × Int)) (vv : Value) (gr : Nat) (st : List (Bool × Int)) (kind key val : Int) (w : World) (h : RSL C ct vv w gr st) (hk : I64 kind) (h2 : I64 key) (h3 : I64 val) (hb : opB key val = false) :
    Calls Try.prog 57 #[.pointer (some ⟨gr, 1, none⟩), .agg #[.int .i64 kind, .int .i64 key, .int .i64 val]] w fun e w' => e = .returned (.int .i64 0) ∧ Below w.heap.size w w' := by
  have hcase : key < 0 ∨ (¬ key < 0 ∧ 64 ≤ key) ∨ (¬ key < 0 ∧ ¬ 64 ≤ key ∧ val ≤ -2147483648) ∨ (¬ key < 0 ∧ ¬ 64 ≤ key ∧ ¬ val ≤ -2147483648 ∧ 2147483648 ≤ val) := by
    unfold opB at hb
    by_cases hk : 0 ≤ key ∧ key < 64
    · rw [decide_eq_true hk, Bool.true_and] at hb
      have := of_decide_eq_false hb
      omega
    · omega
  clear hb h
  rcases hcase with h1 | ⟨h1, h2⟩ | ⟨h1, h2, h4⟩ | ⟨h1, h2, h4, h5⟩
  all_goals
    go_enter Try.func57, Try.ntmps57
    go_wp2
    go_ret
    exact ⟨rfl, (Below.refl _ _).alloc (Nat.le_refl _) _⟩

set_option maxRecDepth 100000 in
set_option maxHeartbeats 3200000 in
theorem lapply_yes (C : Int) (ct : List (Int × Int)) (vv : Value) (gr : Nat) (st : List (Bool × Int)) (kind val : Int) (n : Nat) (w : World) (h : RSL C ct vv w gr st) (hsm : Smalls st) (hk : I64 kind) (h3 : I64 val) (hn : n < 64) (hv : smallB val = true) :
    Calls Try.prog 57 #[.pointer (some ⟨gr, 1, none⟩), .agg #[.int .i64 kind, .int .i64 n, .int .i64 val]] w fun e w' => e = .returned (.int .i64 (opR st kind n val)) ∧ RSL C ct vv w' gr (opSt st kind n val) ∧ Only [gr] w w' := by
  have H := Lib.hid h
  have hlt : n < st.length := by rw [h.n]; exact hn
  have hval : valOf st n = st[n].2 := by simp [valOf, List.getD, hlt]
  have hbd := hsm.get n
  have hvb := of_decide_eq_true hv
  have hgs := h.lt
  have hob : opB n val = true := by
    unfold opB
    rw [hv, Bool.and_true]
    exact decide_eq_true ⟨by omega, by omega⟩
  obtain ⟨T, hT⟩ : ∃ T, T = valOf st n := ⟨_, rfl⟩
  rw [← hT] at hbd hval
  have hR : opR st kind n val = if kind = 1 then T else if kind = 2 then T else if kind = 3 then (if smallB (T + val) then T + val else T) else if kind = 4 then T else if kind = 5 then sumSt st else 0 := by
    unfold opR
    rw [if_pos hob, hT]
  have hS : opSt st kind n val = if kind = 1 then st.set n (true, val) else if kind = 3 then (if smallB (T + val) then st.set n (true, T + val) else st) else if kind = 4 then st.set n (false, 0) else st := by
    unfold opSt
    rw [if_pos hob, hT]
    rfl
  have HR := Lib.hid hR
  have HS := Lib.hid hS
  have HT := Lib.hid hT
  have HVAL := Lib.hid hval
  have i0 : (0 : Int) ≤ n := by omega
  have i1 : (n : Int) < 64 := by omega
  have g1 : ¬ val ≤ -2147483648 := by omega
  have g2 : ¬ 2147483648 ≤ val := by omega
  have HSM := Lib.hid hsm
  clear h hv hT hval hob hR hS hsm
  go_enter Try.func57, Try.ntmps57
  go_wp2_with fail
  obtain ⟨w1, hw1⟩ : ∃ w1, w1 = w.alloc (.cells #[.int .i64 kind, .int .i64 n, .int .i64 val] 31) := ⟨_, rfl⟩
  obtain ⟨ga, hga⟩ : ∃ ga, ga = w.heap.size := ⟨_, rfl⟩
  rw [← hw1, ← hga]
  have hA : Blk w1 ga 31 #[.int .i64 kind, .int .i64 n, .int .i64 val] := by rw [hw1, hga]; exact Blk.new _ _ _
  have hb1 : Below w.heap.size w w1 := by rw [hw1]; exact (Below.refl _ _).alloc (Nat.le_refl _) _
  have H1 := Lib.hid (H.out.below hb1)
  have a0 := (hA.cell 0).trans (show _ = some (.int .i64 kind) from rfl)
  have a1 := (hA.cell 1).trans (show _ = some (.int .i64 n) from rfl)
  have a2 := (hA.cell 2).trans (show _ = some (.int .i64 val) from rfl)
  have o1 := Lib.hid (Only.of_below (S := [gr]) hb1)
  have t0 := H1.out.val n hlt
  rw [← HVAL.out] at t0
  have hgg : ga ≠ gr := by rw [hga]; omega
  clear hw1 hga hA hb1
  go_quiet (fail)
  have H2 := Lib.hid (H1.out.drewN nq)
  have o2 := Lib.hid (o1.out.drewN nq)
  have b0 : (w1.drewN nq).cell? ⟨ga, 0, none⟩ = _ := a0
  have b1 : (w1.drewN nq).cell? ⟨ga, 1, none⟩ = _ := a1
  have b2 : (w1.drewN nq).cell? ⟨ga, 2, none⟩ = _ := a2
  clear a0 a1 a2 H1 o1 t0
  generalize w1.drewN nq = w2 at H2 o2 b0 b1 b2 ⊢
  have t1 := H2.out.val n hlt
  rw [← HVAL.out] at t1
  have t2 := H2.out.has n hlt
  have f0 := H2.out.b.frozen (1 + n)
  have f1 := H2.out.b.frozen (65 + n)
  rcases (show kind = 1 ∨ kind = 2 ∨ kind = 3 ∨ kind = 4 ∨ kind = 5 ∨ (kind ≠ 1 ∧ kind ≠ 2 ∧ kind ≠ 3 ∧ kind ≠ 4 ∧ kind ≠ 5) by omega) with rfl | rfl | rfl | rfl | rfl | ⟨k1, k2, k3, k4, k5⟩
  · have HR' := Lib.hid (HR.out.trans (if_pos rfl))
    have HS' := Lib.hid (HS.out.trans (if_pos rfl))
    clear HR HS
    go_wp2_with fail
    go_region_held3 (fun w' => w'.cell? ⟨ga, 1, none⟩ = some (.int .i64 n) ∧ w'.cell? ⟨ga, 2, none⟩ = some (.int .i64 val)) (first | exact ⟨far_cell b1 hgg, far_cell b2 hgg⟩ | exact ⟨far_cell (far_cell b1 hgg) hgg, far_cell (far_cell b2 hgg) hgg⟩ | go_keep) (fail)
    go_wp2
    go_ret
    exact ⟨by rw [HR'.out]; rfl, by rw [HS'.out]; exact (H2.out.set hn true val).drew, ((o2.out.setCell (.inl (by simp)) _).setCell (.inl (by simp)) _).drew⟩
  · have HR' := Lib.hid (HR.out.trans ((if_neg (by decide)).trans (if_pos rfl)))
    have HS' := Lib.hid (HS.out.trans ((if_neg (by decide)).trans ((if_neg (by decide)).trans (if_neg (by decide)))))
    clear HR HS
    go_wp2
    go_ret
    exact ⟨by rw [HR'.out]; rfl, by rw [HS'.out]; exact H2.out, o2.out⟩
  · have hR' := HR.out.trans ((if_neg (by decide)).trans ((if_neg (by decide)).trans (if_pos rfl)))
    have hS' := HS.out.trans ((if_neg (by decide)).trans (if_pos rfl))
    clear HR HS
    by_cases hs : smallB (T + val) = true
    · rw [if_pos hs] at hR' hS'
      have HR' := Lib.hid hR'
      have HS' := Lib.hid hS'
      have hsb := of_decide_eq_true hs
      have q1 : ¬ T + val ≤ -2147483648 := by omega
      have q2 : ¬ 2147483648 ≤ T + val := by omega
      clear hR' hS' hs hsb
      go_wp2_with fail
      go_region_held3 (fun w' => w'.cell? ⟨ga, 1, none⟩ = some (.int .i64 n) ∧ w'.cell? ⟨ga, 2, none⟩ = some (.int .i64 val)) (first | exact ⟨far_cell b1 hgg, far_cell b2 hgg⟩ | exact ⟨far_cell (far_cell b1 hgg) hgg, far_cell (far_cell b2 hgg) hgg⟩ | go_keep) (fail)
      go_wp2
      go_ret
      exact ⟨by rw [HR'.out]; rfl, by rw [HS'.out]; exact (H2.out.set hn true (T + val)).drew, ((o2.out.setCell (.inl (by simp)) _).setCell (.inl (by simp)) _).drew⟩
    · rw [if_neg hs] at hR' hS'
      have HR' := Lib.hid hR'
      have HS' := Lib.hid hS'
      have hsb := of_decide_eq_false (show smallB (T + val) = false by simpa using hs)
      have q : T + val ≤ -2147483648 ∨ (¬ T + val ≤ -2147483648 ∧ 2147483648 ≤ T + val) := by omega
      clear hR' hS' hs hsb
      rcases q with q1 | ⟨q1, q2⟩
      all_goals
        go_wp2
        go_ret
        exact ⟨by rw [HR'.out]; rfl, by rw [HS'.out]; exact H2.out, o2.out⟩
  · have HR' := Lib.hid (HR.out.trans ((if_neg (by decide)).trans ((if_neg (by decide)).trans ((if_neg (by decide)).trans (if_pos rfl)))))
    have HS' := Lib.hid (HS.out.trans ((if_neg (by decide)).trans ((if_neg (by decide)).trans (if_pos rfl))))
    clear HR HS
    go_wp2_with fail
    go_region_held3 (fun w' => w'.cell? ⟨ga, 1, none⟩ = some (.int .i64 n) ∧ w'.cell? ⟨ga, 2, none⟩ = some (.int .i64 val)) (first | exact ⟨far_cell b1 hgg, far_cell b2 hgg⟩ | exact ⟨far_cell (far_cell b1 hgg) hgg, far_cell (far_cell b2 hgg) hgg⟩ | go_keep) (fail)
    go_wp2
    go_ret
    exact ⟨by rw [HR'.out]; rfl, by rw [HS'.out]; exact (H2.out.set hn false 0).drew, ((o2.out.setCell (.inl (by simp)) _).setCell (.inl (by simp)) _).drew⟩
  · have HR' := Lib.hid (HR.out.trans ((if_neg (by decide)).trans ((if_neg (by decide)).trans ((if_neg (by decide)).trans ((if_neg (by decide)).trans (if_pos rfl))))))
    have HS' := Lib.hid (HS.out.trans ((if_neg (by decide)).trans ((if_neg (by decide)).trans (if_neg (by decide)))))
    clear t2 f0 f1 HR HS
    go_wp2_with fail
    go_loop [7, 8] (fun s i => ∃ k : Nat, k ≤ 64 ∧ i = .int .i64 k ∧ s = .int .i64 (sumSt (st.take k))) (fun _ i => 64 - (intOf i).toNat)
    case atStart => exact ⟨0, by omega, rfl, rfl⟩
    case round =>
      obtain ⟨k, hk64, rfl, rfl⟩ := hrel
      by_cases hlt' : k < 64
      · have hkl : k < st.length := by rw [H2.out.n]; exact hlt'
        have hsn := Lib.hid (sum_take st k hkl)
        have hbd1 := sum_take_bd HSM.out k
        have hbd2 := HSM.out st[k] (List.getElem_mem hkl)
        have ck := H2.out.val k hkl
        obtain ⟨c, hc⟩ : ∃ c, c = st[k].2 := ⟨_, rfl⟩
        rw [← hc] at ck hbd2
        have HC := Lib.hid hc
        have u0 : -2147483648 * 64 ≤ sumSt (st.take k) := by omega
        have u1 : sumSt (st.take k) ≤ 2147483648 * 64 := by omega
        have v0 : -2147483648 < c := hbd2.1
        have v1 : c < 2147483648 := hbd2.2
        have i2 : (0 : Int) ≤ k := by omega
        have i3 : (k : Int) < 64 := by omega
        clear hbd1 hbd2 hc
        go_wp2
        go_round
        case rel => exact ⟨k + 1, by omega, by go_num, by rw [hsn.out, ← HC.out]⟩
        case measure => simp [intOf]; omega
      · have hk' : k = 64 := by omega
        subst hk'
        have ht : st.take 64 = st := List.take_of_length_le (by rw [H2.out.n]; omega)
        rw [ht]
        clear ht
        go_wp2
        go_ret
        exact ⟨by rw [HR'.out]; rfl, by rw [HS'.out]; exact H2.out, o2.out⟩
  · have HR' := Lib.hid (HR.out.trans ((if_neg k1).trans ((if_neg k2).trans ((if_neg k3).trans ((if_neg k4).trans (if_neg k5))))))
    have HS' := Lib.hid (HS.out.trans ((if_neg k1).trans ((if_neg k3).trans (if_neg k4))))
    have e1 : (kind == 1) = false := beq_eq_false_iff_ne.2 k1
    have e2 : (kind == 2) = false := beq_eq_false_iff_ne.2 k2
    have e3 : (kind == 3) = false := beq_eq_false_iff_ne.2 k3
    have e4 : (kind == 4) = false := beq_eq_false_iff_ne.2 k4
    have e5 : (kind == 5) = false := beq_eq_false_iff_ne.2 k5
    go_wp2
    go_ret
    exact ⟨by rw [HR'.out]; rfl, by rw [HS'.out]; exact H2.out, o2.out⟩

theorem lapply_c (C : Int) (ct : List (Int × Int)) (vv : Value) (gr : Nat) (st : List (Bool × Int)) (kind key val : Int) (w : World) (h : RSL C ct vv w gr st) (hsm : Smalls st) (hk : I64 kind) (h2 : I64 key) (h3 : I64 val) (r : Int) (hr : opR st kind key val = r) (st' : List (Bool × Int)) (hs : opSt st kind key val = st') :
    Calls Try.prog 57 #[.pointer (some ⟨gr, 1, none⟩), .agg #[.int .i64 kind, .int .i64 key, .int .i64 val]] w fun e w' => e = .returned (.int .i64 r) ∧ RSL C ct vv w' gr st' ∧ Only [gr] w w' := by
  subst hr
  subst hs
  by_cases hb : opB key val = true
  · have hb' := hb
    unfold opB at hb'
    simp only [Bool.and_eq_true, decide_eq_true_eq] at hb'
    obtain ⟨⟨k0, k1⟩, hv⟩ := hb'
    obtain ⟨n, rfl⟩ := Int.eq_ofNat_of_zero_le k0
    exact lapply_yes C ct vv gr st kind val n w h hsm hk h3 (by omega) hv
  · have hb' : opB key val = false := by simpa using hb
    have e1 : opR st kind key val = 0 := by unfold opR; rw [hb']; rfl
    have e2 : opSt st kind key val = st := by unfold opSt; rw [hb']; rfl
    rw [e1, e2]
    exact (lapply_no C ct vv gr st kind key val w h hk h2 h3 hb').mono fun e w' ⟨he, hb⟩ => ⟨he, h.below hb, Only.of_below hb⟩

set_option maxRecDepth 100000 in
set_option maxHeartbeats 1600000 in
theorem lrall_c (C : Int) (ct : List (Int × Int)) (vv : Value) (gr : Nat) (st : List (Bool × Int)) (w : World) (h : RSL C ct vv w gr st) :
    Calls Try.prog 59 #[.pointer (some ⟨gr, 1, none⟩)] w fun e w' => ∃ a c, e = .returned (.slice a (allTo st 64).length c) ∧ PRow w' w.heap.size (.slice a (allTo st 64).length c) (allTo st 64) ∧ Below w.heap.size w w' := by
  obtain ⟨i0, hi0, hz0, hz1, hz2⟩ := info_parts info_two
  have H := Lib.hid h
  clear h
  go_enter Try.func59, Try.ntmps59
  go_wp2_with fail
  go_loopw [3, 4] (fun v i wr => ∃ k : Nat, k ≤ 64 ∧ i = .int .i64 k ∧ (∃ a c, v = .slice a (allTo st k).length c ∧ PRow wr w.heap.size (.slice a (allTo st k).length c) (allTo st k)) ∧ Below w.heap.size w wr) (fun _ i _ => 64 - (intOf i).toNat)
  case atStart => exact ⟨0, by omega, rfl, ⟨none, 0, rfl, World.ownsRow_nil _ _ _ _⟩, Below.refl _ _⟩
  case round =>
    obtain ⟨k, hk64, rfl, ⟨a, c, rfl, hown⟩, hb⟩ := hrel
    have HB := Lib.hid hb
    have HO := Lib.hid hown
    have hsz := hb.size
    clear hb hown
    by_cases hlt' : k < 64
    · have hkl : k < st.length := by rw [H.out.n]; exact hlt'
      have H1 := H.out.below HB.out
      have ck := H1.val k hkl
      have dk := H1.has k hkl
      have hg : st.getD k (false, 0) = st[k] := by simp [List.getD, hkl]
      have hlen := allTo_len st k
      obtain ⟨c0, hc⟩ : ∃ c, c = st[k] := ⟨_, rfl⟩
      rw [← hc] at ck dk hg
      obtain ⟨c1, c2⟩ := c0
      have hstep : allTo st (k + 1) = if c1 then allTo st k ++ [((k : Int), c2)] else allTo st k := by rw [allTo_succ, hg]
      have HS := Lib.hid hstep
      have i2 : (0 : Int) ≤ k := by omega
      have i3 : (k : Int) < 64 := by omega
      have nk := World.new_ne wr _ ck
      clear hc hg hstep H1
      obtain ⟨L, hL⟩ : ∃ L, L = allTo st k := ⟨_, rfl⟩
      rw [← hL] at HS HO hlen ⊢
      clear hL
      cases c1 with
      | false =>
        go_wp2
        go_roundw
        case rel =>
          refine ⟨k + 1, by omega, by go_num, ⟨a, c, ?_, ?_⟩, HB.out⟩
          · rw [HS.out]; rfl
          · rw [HS.out]; exact HO.out
        case measure => simp [intOf]; omega
      | true =>
        go_wp2_with (at_builtin; refine wpList_append_lies _ rfl (.tmp 15) (.tmp 24) _ rfl w.heap.size 75 i0 _ 2 16 Try.underlying76 hi0 hz0 hz1 hz2 rfl (by omega) (.slice a L.length c) L.length (L.flatMap acell) rfl (World.ownsRow.alloc HO.out _) ⟨wr.heap.size, 0, none⟩ 1 1 [.int .i64 k, .int .i64 c2] rfl rfl (World.news_of_block (cs := #[.int .i64 k, .int .i64 c2]) (t := 75) (fr := (0, 0)) (heap_alloc_new wr _)) (by simp [Value.oneCell']) (by omega) (by unfold maxLen; omega) (by omega) (by simp; omega) (wr.heap.size + 1) (by simp) ?_; intro g cap w5 hown5 hgrow5 hat5 hlt5)
        have HO5 := Lib.hid hown5
        have hb5 : Below w.heap.size w w5 := (HB.out.alloc hsz _).grown hgrow5 (by simp; omega) (fun k hk => (World.ownsRow.lt HO.out k hk).1)
        have HB5 := Lib.hid hb5
        clear hown5 hgrow5 hat5 hb5
        go_roundw
        case rel =>
          refine ⟨k + 1, by omega, by go_num, ⟨some ⟨g, 0, none⟩, cap, ?_, ?_⟩, HB5.out⟩
          · rw [HS.out, if_pos rfl, List.length_append]; rfl
          · rw [HS.out, if_pos rfl]
            have e := HO5.out
            unfold PRow
            rw [List.length_append, List.flatMap_append]
            exact e
        case measure => simp [intOf]; omega
    · have hk' : k = 64 := by omega
      subst hk'
      go_wp2
      go_ret
      exact ⟨a, c, rfl, HO.out, HB.out⟩
end Go.Proofs.Ytfhlcjfgbhmecaa
