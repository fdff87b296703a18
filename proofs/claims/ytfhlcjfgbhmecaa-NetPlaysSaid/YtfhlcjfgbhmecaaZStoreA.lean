/- StoreA. -/
import Derived.Test.YtfhlcjfgbhmecaaZStore
/- store.Apply: what it does, kind by kind. -/
namespace Go.Proofs.Ytfhlcjfgbhmecaa
open Go.RowKit
set_option linter.unusedVariables false

/-- Is a value's size small enough? -/
def smallB (v : Int) : Bool := decide (-2147483648 < v ∧ v < 2147483648)
/-- May this be done at all? -/
def opB (key val : Int) : Bool := decide (0 ≤ key ∧ key < 64) && smallB val
/-- What a key has. -/
def valOf (st : List (Bool × Int)) (key : Int) : Int := (st.getD key.toNat (false, 0)).2
def sumSt (st : List (Bool × Int)) : Int := (st.map (·.2)).sum
/-- What an operation tells. -/
def opR (st : List (Bool × Int)) (kind key val : Int) : Int :=
  if opB key val then
    if kind = 1 then valOf st key else if kind = 2 then valOf st key
    else if kind = 3 then (if smallB (valOf st key + val) then valOf st key + val else valOf st key)
    else if kind = 4 then valOf st key else if kind = 5 then sumSt st else 0
  else 0
/-- What is there behind it. -/
def opSt (st : List (Bool × Int)) (kind key val : Int) : List (Bool × Int) :=
  if opB key val then
    if kind = 1 then st.set key.toNat (true, val)
    else if kind = 3 then (if smallB (valOf st key + val) then st.set key.toNat (true, valOf st key + val) else st)
    else if kind = 4 then st.set key.toNat (false, 0) else st
  else st
/-- All values are small. -/
def Smalls (st : List (Bool × Int)) : Prop := ∀ c ∈ st, -2147483648 < c.2 ∧ c.2 < 2147483648
theorem Smalls.zero : Smalls st0 := by
  intro c hc
  rw [List.eq_of_mem_replicate hc]
  decide
theorem Smalls.get {st : List (Bool × Int)} (h : Smalls st) (key : Int) : -2147483648 < valOf st key ∧ valOf st key < 2147483648 := by
  unfold valOf
  by_cases hk : key.toNat < st.length
  · rw [List.getD_eq_getElem?_getD, List.getElem?_eq_getElem hk]
    exact h _ (List.getElem_mem hk)
  · rw [List.getD_eq_getElem?_getD, List.getElem?_eq_none (by omega)]
    decide
theorem Smalls.set {st : List (Bool × Int)} (h : Smalls st) (k : Nat) (b : Bool) {v : Int} (hv : -2147483648 < v ∧ v < 2147483648) : Smalls (st.set k (b, v)) := by
  intro c hc
  rcases List.mem_or_eq_of_mem_set hc with h1 | h1
  · exact h _ h1
  · subst h1
    exact hv
theorem opSt_len (st : List (Bool × Int)) (kind key val : Int) : (opSt st kind key val).length = st.length := by
  unfold opSt
  repeat (first | rfl | split | simp)
theorem Smalls.op {st : List (Bool × Int)} (h : Smalls st) (kind key val : Int) : Smalls (opSt st kind key val) := by
  unfold opSt
  by_cases hb : opB key val = true
  · rw [if_pos hb]
    have hv : -2147483648 < val ∧ val < 2147483648 := by
      unfold opB smallB at hb
      simp only [Bool.and_eq_true, decide_eq_true_eq] at hb
      exact hb.2
    by_cases h1 : kind = 1
    · rw [if_pos h1]; exact h.set _ _ hv
    · rw [if_neg h1]
      by_cases h3 : kind = 3
      · rw [if_pos h3]
        by_cases hs : smallB (valOf st key + val) = true
        · rw [if_pos hs]; exact h.set _ _ (of_decide_eq_true hs)
        · rw [if_neg hs]; exact h
      · rw [if_neg h3]
        by_cases h4 : kind = 4
        · rw [if_pos h4]; exact h.set _ _ (by decide)
        · rw [if_neg h4]; exact h
  · rw [if_neg hb]; exact h

theorem sum_take (st : List (Bool × Int)) (k : Nat) (hk : k < st.length) : sumSt (st.take (k + 1)) = sumSt (st.take k) + st[k].2 := by
  rw [List.take_succ_eq_append_getElem hk]
  simp only [sumSt, List.map_append, List.sum_append, List.map_cons, List.map_nil, List.sum_cons, List.sum_nil, Int.add_zero]
theorem sum_take_bd {st : List (Bool × Int)} (h : Smalls st) : ∀ k : Nat, -2147483648 * (k : Int) ≤ sumSt (st.take k) ∧ sumSt (st.take k) ≤ 2147483648 * (k : Int)
  | 0 => by simp [sumSt]
  | k + 1 => by
    have ih := sum_take_bd h k
    by_cases hk : k < st.length
    · have := h _ (List.getElem_mem hk)
      rw [sum_take st k hk]
      omega
    · rw [List.take_of_length_le (by omega)] at ih ⊢
      omega

set_option maxHeartbeats 800000 in
theorem apply_no (gs : Nat) (st : List (Bool × Int)) (kind key val : Int) (w : World) (h : Store w gs st) (hk : I64 kind) (h2 : I64 key) (h3 : I64 val) (hb : opB key val = false) :
    Calls Try.prog 45 #[.pointer (some ⟨gs, 0, none⟩), .agg #[.int .i64 kind, .int .i64 key, .int .i64 val]] w fun e w' => e = .returned (.int .i64 0) ∧ Below w.heap.size w w' := by
  have hcase : key < 0 ∨ (¬ key < 0 ∧ 64 ≤ key) ∨ (¬ key < 0 ∧ ¬ 64 ≤ key ∧ smallB val = false) := by
    unfold opB at hb
    by_cases hk : 0 ≤ key ∧ key < 64
    · rw [decide_eq_true hk, Bool.true_and] at hb
      exact .inr (.inr ⟨by omega, by omega, hb⟩)
    · omega
  clear hb h
  rcases hcase with h1 | ⟨h1, h2⟩ | ⟨h1, h2, hs⟩
  · go_enter Try.func45, Try.ntmps45
    go_wp2
    go_ret
    exact ⟨rfl, (Below.refl _ _).alloc (Nat.le_refl _) _⟩
  · go_enter Try.func45, Try.ntmps45
    go_wp2
    go_ret
    exact ⟨rfl, (Below.refl _ _).alloc (Nat.le_refl _) _⟩
  · have HS := Lib.hid hs
    clear hs
    go_enter Try.func45, Try.ntmps45
    go_wp2_with (go_at_call 74; refine (small_c val _ false HS.out).mono ?_; rintro e w' ⟨rfl, rfl⟩)
    go_ret
    exact ⟨rfl, (Below.refl _ _).alloc (Nat.le_refl _) _⟩

set_option maxRecDepth 100000 in
set_option maxHeartbeats 1600000 in
theorem apply_yes (gs : Nat) (st : List (Bool × Int)) (kind val : Int) (n : Nat) (w : World) (h : Store w gs st) (hsm : Smalls st) (hk : I64 kind) (h3 : I64 val) (hn : n < 64) (hv : smallB val = true) :
    Calls Try.prog 45 #[.pointer (some ⟨gs, 0, none⟩), .agg #[.int .i64 kind, .int .i64 n, .int .i64 val]] w fun e w' => e = .returned (.int .i64 (opR st kind n val)) ∧ Store w' gs (opSt st kind n val) ∧ Only [gs] w w' := by
  have H := Lib.hid h
  have HV := Lib.hid hv
  have hlt : n < st.length := by rw [h.n]; exact hn
  have hval : valOf st n = st[n].2 := by simp [valOf, List.getD, hlt]
  have hbd := hsm.get n
  have hvb := of_decide_eq_true hv
  have hgs := h.lt
  have hob : opB n val = true := by
    unfold opB
    rw [hv, Bool.and_true]
    exact decide_eq_true ⟨by omega, by omega⟩
  obtain ⟨T, hT⟩ : ∃ T, T = valOf st n := ⟨_, rfl⟩
  rw [← hT] at hbd hval
  have hR : opR st kind n val = if kind = 1 then T else if kind = 2 then T else if kind = 3 then (if smallB (T + val) then T + val else T) else if kind = 4 then T else if kind = 5 then sumSt st else 0 := by
    unfold opR
    rw [if_pos hob, hT]
  have hS : opSt st kind n val = if kind = 1 then st.set n (true, val) else if kind = 3 then (if smallB (T + val) then st.set n (true, T + val) else st) else if kind = 4 then st.set n (false, 0) else st := by
    unfold opSt
    rw [if_pos hob, hT]
    rfl
  have HR := Lib.hid hR
  have HS := Lib.hid hS
  have HT := Lib.hid hT
  have HVAL := Lib.hid hval
  have i0 : (0 : Int) ≤ n := by omega
  have i1 : (n : Int) < 64 := by omega
  have HSM := Lib.hid hsm
  clear h hv hT hval hob hR hS hsm
  go_enter Try.func45, Try.ntmps45
  go_wp2_with fail
  refine (small_c val _ true HV.out).mono ?_; rintro e w' ⟨rfl, rfl⟩
  go_wp2_with fail
  obtain ⟨w1, hw1⟩ : ∃ w1, w1 = w.alloc (.cells #[.int .i64 kind, .int .i64 n, .int .i64 val] 31) := ⟨_, rfl⟩
  obtain ⟨ga, hga⟩ : ∃ ga, ga = w.heap.size := ⟨_, rfl⟩
  rw [← hw1, ← hga]
  have hA : Blk w1 ga 31 #[.int .i64 kind, .int .i64 n, .int .i64 val] := by rw [hw1, hga]; exact Blk.new _ _ _
  have hb1 : Below w.heap.size w w1 := by rw [hw1]; exact (Below.refl _ _).alloc (Nat.le_refl _) _
  have H1 := Lib.hid (H.out.below hb1)
  have a0 := (hA.cell 0).trans (show _ = some (.int .i64 kind) from rfl)
  have a1 := (hA.cell 1).trans (show _ = some (.int .i64 n) from rfl)
  have a2 := (hA.cell 2).trans (show _ = some (.int .i64 val) from rfl)
  have o1 := Lib.hid (Only.of_below (S := [gs]) hb1)
  have hgg : ga ≠ gs := by rw [hga]; omega
  clear hw1 hga hA hb1
  go_quiet (fail)
  have H2 := Lib.hid (H1.out.drewN nq)
  have o2 := Lib.hid (o1.out.drewN nq)
  have b0 : (w1.drewN nq).cell? ⟨ga, 0, none⟩ = _ := a0
  have b2 : (w1.drewN nq).cell? ⟨ga, 2, none⟩ = _ := a2
  clear a0 a1 a2 H1 o1
  generalize w1.drewN nq = w2 at H2 o2 b0 b2 ⊢
  have t1 := H2.out.at1 n hlt
  rw [← HVAL.out] at t1
  have t0 := H2.out.at0 n hlt
  have f0 := H2.out.b.frozen (n * 2)
  have f1 := H2.out.b.frozen (n * 2 + 1)
  rcases (show kind = 1 ∨ kind = 2 ∨ kind = 3 ∨ kind = 4 ∨ kind = 5 ∨ (kind ≠ 1 ∧ kind ≠ 2 ∧ kind ≠ 3 ∧ kind ≠ 4 ∧ kind ≠ 5) by omega) with rfl | rfl | rfl | rfl | rfl | ⟨k1, k2, k3, k4, k5⟩
  · have HR' := Lib.hid (HR.out.trans (if_pos rfl))
    have HS' := Lib.hid (HS.out.trans (if_pos rfl))
    go_wp2
    go_ret
    refine ⟨by rw [HR'.out]; rfl, by rw [HS'.out]; exact H2.out.set hlt true val, (o2.out.setCell (.inl (by simp)) _).setCell (.inl (by simp)) _⟩
  · have HR' := Lib.hid (HR.out.trans ((if_neg (by decide)).trans (if_pos rfl)))
    have HS' := Lib.hid (HS.out.trans ((if_neg (by decide)).trans ((if_neg (by decide)).trans (if_neg (by decide)))))
    go_wp2
    go_ret
    exact ⟨by rw [HR'.out]; rfl, by rw [HS'.out]; exact H2.out, o2.out⟩
  · have hR' := HR.out.trans ((if_neg (by decide)).trans ((if_neg (by decide)).trans (if_pos rfl)))
    have hS' := HS.out.trans ((if_neg (by decide)).trans (if_pos rfl))
    obtain ⟨bb, hbb⟩ : ∃ bb, smallB (T + val) = bb := ⟨_, rfl⟩
    rw [hbb] at hR' hS'
    have HR' := Lib.hid hR'
    have HS' := Lib.hid hS'
    have HBB := Lib.hid hbb
    clear hR' hS' hbb
    cases bb with
    | true =>
      go_wp2_with (go_at_call 74; refine (small_c (T + val) _ true HBB.out).mono ?_; rintro e w' ⟨rfl, rfl⟩)
      go_ret
      refine ⟨by rw [HR'.out]; rfl, by rw [HS'.out]; exact H2.out.set hlt true (T + val), (o2.out.setCell (.inl (by simp)) _).setCell (.inl (by simp)) _⟩
    | false =>
      go_wp2_with (go_at_call 74; refine (small_c (T + val) _ false HBB.out).mono ?_; rintro e w' ⟨rfl, rfl⟩)
      go_ret
      exact ⟨by rw [HR'.out]; rfl, by rw [HS'.out]; exact H2.out, o2.out⟩
  · have HR' := Lib.hid (HR.out.trans ((if_neg (by decide)).trans ((if_neg (by decide)).trans ((if_neg (by decide)).trans (if_pos rfl)))))
    have HS' := Lib.hid (HS.out.trans ((if_neg (by decide)).trans ((if_neg (by decide)).trans (if_pos rfl))))
    go_wp2
    go_ret
    refine ⟨by rw [HR'.out]; rfl, by rw [HS'.out]; exact H2.out.set hlt false 0, (o2.out.setCell (.inl (by simp)) _).setCell (.inl (by simp)) _⟩
  · have HR' := Lib.hid (HR.out.trans ((if_neg (by decide)).trans ((if_neg (by decide)).trans ((if_neg (by decide)).trans ((if_neg (by decide)).trans (if_pos rfl))))))
    have HS' := Lib.hid (HS.out.trans ((if_neg (by decide)).trans ((if_neg (by decide)).trans (if_neg (by decide)))))
    clear t0 f0 f1
    have hg1 := Lib.hid (show w2.heap[gs]? = some (.cells (kcells st) 130 (0, 0)) from H2.out.b)
    have hsz1 := Lib.hid (show (Try.prog.info? 128).map (·.size) = some (kcells st).size by rw [kcells_size, H2.out.n]; exact kcells_info)
    go_wp2_with (refine wpList_load_row rfl 128 (.tmp 77) rfl gs rfl 130 (kcells st) (0, 0) _ hg1.out Try.underlying128 rfl hsz1.out ?_)
    have hgw := o2.out.size
    clear t1 b0 b2
    go_loopw [7, 79] (fun s i wr => ∃ k : Nat, k ≤ 64 ∧ i = .int .i64 k ∧ s = .int .i64 (sumSt (st.take k)) ∧ Below w2.heap.size w2 wr) (fun _ i _ => 64 - (intOf i).toNat)
    case atStart => exact ⟨0, by omega, rfl, rfl, Below.refl _ _⟩
    case round =>
      obtain ⟨k, hk64, rfl, rfl, hb⟩ := hrel
      have HB := Lib.hid hb
      by_cases hlt' : k < 64
      · have hkl : k < st.length := by rw [H2.out.n]; exact hlt'
        have hidx := index_c st H2.out.n k hkl
        have hsn := Lib.hid (sum_take st k hkl)
        have hbd1 := sum_take_bd HSM.out k
        have hbd2 := HSM.out st[k] (List.getElem_mem hkl)
        obtain ⟨c, hc⟩ : ∃ c, c = st[k] := ⟨_, rfl⟩
        rw [← hc] at hidx hbd2
        obtain ⟨c1, c2⟩ := c
        have HC := Lib.hid hc
        clear hc hb
        have hsz := HB.out.size
        have u0 : -2147483648 * 64 ≤ sumSt (st.take k) := by omega
        have u1 : sumSt (st.take k) ≤ 2147483648 * 64 := by omega
        have v0 : -2147483648 < c2 := hbd2.1
        have v1 : c2 < 2147483648 := hbd2.2
        clear hbd1 hbd2
        go_wp2
        go_roundw
        case rel => exact ⟨k + 1, by omega, by go_num, by rw [hsn.out, ← HC.out], HB.out.alloc hsz _⟩
        case measure => simp [intOf]; omega
      · have hk' : k = 64 := by omega
        subst hk'
        have ht : st.take 64 = st := List.take_of_length_le (by rw [H2.out.n]; omega)
        rw [ht]
        have H4 := Lib.hid (H2.out.below HB.out)
        have o4 := Lib.hid (o2.out.belows HB.out)
        clear ht
        go_wp2
        go_ret
        exact ⟨by rw [HR'.out]; rfl, by rw [HS'.out]; exact H4.out, o4.out⟩
  · have HR' := Lib.hid (HR.out.trans ((if_neg k1).trans ((if_neg k2).trans ((if_neg k3).trans ((if_neg k4).trans (if_neg k5))))))
    have HS' := Lib.hid (HS.out.trans ((if_neg k1).trans ((if_neg k3).trans (if_neg k4))))
    have e1 : (kind == 1) = false := beq_eq_false_iff_ne.2 k1
    have e2 : (kind == 2) = false := beq_eq_false_iff_ne.2 k2
    have e3 : (kind == 3) = false := beq_eq_false_iff_ne.2 k3
    have e4 : (kind == 4) = false := beq_eq_false_iff_ne.2 k4
    have e5 : (kind == 5) = false := beq_eq_false_iff_ne.2 k5
    go_wp2
    go_ret
    exact ⟨by rw [HR'.out]; rfl, by rw [HS'.out]; exact H2.out, o2.out⟩

theorem apply_c (gs : Nat) (st : List (Bool × Int)) (kind key val : Int) (w : World) (h : Store w gs st) (hsm : Smalls st) (hk : I64 kind) (h2 : I64 key) (h3 : I64 val) (r : Int) (hr : opR st kind key val = r) (st' : List (Bool × Int)) (hs : opSt st kind key val = st') :
    Calls Try.prog 45 #[.pointer (some ⟨gs, 0, none⟩), .agg #[.int .i64 kind, .int .i64 key, .int .i64 val]] w fun e w' => e = .returned (.int .i64 r) ∧ Store w' gs st' ∧ Only [gs] w w' := by
  subst hr
  subst hs
  by_cases hb : opB key val = true
  · have hb' := hb
    unfold opB at hb'
    simp only [Bool.and_eq_true, decide_eq_true_eq] at hb'
    obtain ⟨⟨k0, k1⟩, hv⟩ := hb'
    obtain ⟨n, rfl⟩ := Int.eq_ofNat_of_zero_le k0
    exact apply_yes gs st kind val n w h hsm hk h3 (by omega) hv
  · have hb' : opB key val = false := by simpa using hb
    have e1 : opR st kind key val = 0 := by unfold opR; rw [hb']; rfl
    have e2 : opSt st kind key val = st := by unfold opSt; rw [hb']; rfl
    rw [e1, e2]
    exact (apply_no gs st kind key val w h hk h2 h3 hb').mono fun e w' ⟨he, hb⟩ => ⟨he, h.below hb, Only.of_below hb⟩
end Go.Proofs.Ytfhlcjfgbhmecaa
