/- StoreSums: for all operations, keys and values the law returns true: the sum is of all values; what was added is there; reading changes nothing. No condition. -/
import Derived.Test.YtghaahagacffiaaStoreW
import Derived.Test.YtghaahagacffiaaStoreP
import Derived.Test.YtghaahagacffiaaSame2
import Derived.Test.YtghaahagacffiaaRows
import Derived.Deep.DeepCutAuto
import Derived.Deep.CutBlock
namespace Go.Proofs.Ytghaahagacffiaa.StoreSums
open Go.RowKit Go.ChangeShapes Go.WideShapes Go.ChangeAt
set_option linter.unusedVariables false

/-- A key without a value has 0. -/
def Zeros (st : List (Bool × Int)) : Prop := ∀ c ∈ st, c.1 = false → c.2 = 0
theorem Zeros.zero : Zeros st0 := by
  intro c hc _
  rw [List.eq_of_mem_replicate hc]
theorem Zeros.set {st : List (Bool × Int)} (h : Zeros st) (k : Nat) {c : Bool × Int} (hc : c.1 = false → c.2 = 0) : Zeros (st.set k c) := by
  intro d hd hf
  rcases List.mem_or_eq_of_mem_set hd with h1 | h1
  · exact h _ h1 hf
  · subst h1
    exact hc hf
theorem Zeros.op {st : List (Bool × Int)} (h : Zeros st) (kind key val : Int) : Zeros (opSt st kind key val) := by
  unfold opSt
  split
  · split
    · exact h.set _ (fun h => by cases h)
    · split
      · split
        · exact h.set _ (fun h => by cases h)
        · exact h
      · split
        · exact h.set _ (fun _ => rfl)
        · exact h
  · exact h
def sumP (l : List (Int × Int)) : Int := (l.map (·.2)).sum
theorem sumP_snoc (l : List (Int × Int)) (p : Int × Int) : sumP (l ++ [p]) = sumP l + p.2 := by
  simp only [sumP, List.map_append, List.sum_append, List.map_cons, List.map_nil, List.sum_cons, List.sum_nil, Int.add_zero]
theorem sum_all {st : List (Bool × Int)} (hz : Zeros st) : ∀ k, k ≤ st.length → sumP (allTo st k) = sumSt (st.take k)
  | 0, _ => rfl
  | k + 1, h => by
    have hk : k < st.length := by omega
    have ih := sum_all hz k (by omega)
    have hg : st.getD k (false, 0) = st[k] := by simp [List.getD, hk]
    rw [allTo_succ, hg, sum_take st k hk]
    split
    · rw [sumP_snoc, ih]
    · rename_i hf
      rw [ih, hz _ (List.getElem_mem hk) (by simpa using hf)]
      omega
theorem sum_set : ∀ (st : List (Bool × Int)) (k : Nat) (hk : k < st.length) (c : Bool × Int), sumSt (st.set k c) = sumSt st - st[k].2 + c.2
  | x :: st, 0, _, c => by
    simp only [sumSt, List.set_cons_zero, List.map_cons, List.sum_cons, List.getElem_cons_zero]
    omega
  | x :: st, k + 1, hk, c => by
    have ih := sum_set st k (by simpa using hk) c
    simp only [sumSt, List.set_cons_succ, List.map_cons, List.sum_cons, List.getElem_cons_succ] at ih ⊢
    omega

def Cut1 (w wx : World) (gs : Nat) : Prop := ∃ s, Store wx gs s ∧ Smalls s ∧ Zeros s ∧ Below w.heap.size w wx
def Rel1 (w wr : World) (gs n : Nat) (i : Value) : Prop := ∃ k : Nat, k ≤ n ∧ k ≤ 60 ∧ i = .int .i64 k ∧ Cut1 w wr gs
theorem op_yes' {j : Nat} (hj : j < 64) {v : Int} (h : -2147483648 < v ∧ v < 2147483648) : opB j v = true := by
  unfold opB smallB
  rw [decide_eq_true (show 0 ≤ (j : Int) ∧ (j : Int) < 64 by omega), decide_eq_true h]
  rfl

theorem op_sumR (st : List (Bool × Int)) : opR st 5 0 0 = sumSt st := by
  unfold opR
  rw [if_pos (by decide), if_neg (by omega), if_neg (by omega), if_neg (by omega), if_neg (by omega), if_pos rfl]

set_option maxRecDepth 100000 in
set_option maxHeartbeats 3200000 in
theorem walk (a : Option Addr) (n c : Nat) (g : Nat → Int) (key val : Int) (w : World) (hr : Flat w a n 3 g) (hm : n ≤ maxLen) (y0 : I64 key) (y1 : I64 val) :
    Calls Try.prog 6 #[.slice a n c, .int .i64 key, .int .i64 val] w fun e w' => e = .returned (.bool true) ∧ Below w.heap.size w w' := by
  unfold maxLen at hm
  have hR := Lib.hid hr
  clear hr
  go_enter Try.func6, Try.ntmps6
  go_wp2_with fail
  refine (new_c _).mono ?_; rintro e w1 ⟨gs, rfl, s1, hgs, hb1⟩
  have S1 := Lib.hid s1
  clear s1
  go_upto_block 0 with fail
  go_cut [8] (fun s8 wx => Cut1 w wx gs)
  case first =>
    go_wp2_with fail
    go_loopw [8] (fun i wr => Rel1 w wr gs n i) (fun i _ => n - (intOf i).toNat)
    case atStart => exact ⟨0, by omega, by omega, rfl, _, S1.out, Smalls.zero, Zeros.zero, hb1⟩
    case round =>
      obtain ⟨k, hkn, hk80, rfl, s, hS, hms, hzs, hb⟩ := hrel
      have HS := Lib.hid hS
      have MS := Lib.hid hms
      have ZS := Lib.hid hzs
      have hwr := hb.size
      have HB := Lib.hid hb
      clear hS hms hb hzs
      rcases (show (k < n ∧ k < 60) ∨ (¬ k < n) ∨ (k < n ∧ ¬ k < 60) by omega) with ⟨hlt, h80⟩ | hlt | ⟨hlt, h80⟩
      · obtain ⟨hi64, hrow⟩ := hR.out
        obtain ⟨b, off, rfl, hbl, hcell⟩ := hrow (by omega)
        have cw : ∀ j, j < 3 → wr.cell? ⟨b, off + k * 3 + j, none⟩ = some (.int .i64 (g (k * 3 + j))) := fun j hj => by
          rw [HB.out.cell (p := ⟨b, off + k * 3 + j, none⟩) hbl, Nat.add_assoc]
          exact hcell _ (by omega)
        have c0 : wr.cell? ⟨b, off + k * 3, none⟩ = some (.int .i64 (g (k * 3))) := cw 0 (by omega)
        have c1 := cw 1 (by omega)
        have c2 := cw 2 (by omega)
        have i0 : (0 : Int) ≤ k := by omega
        have i1 : (k : Int) < n := by omega
        clear cw hcell hrow
        go_wp2_with fail
        refine (apply_c gs s _ _ _ _ HS.out MS.out (hi64 _) (hi64 _) (hi64 _) _ rfl _ rfl).mono ?_; rintro e w3 ⟨rfl, hS3, o3⟩
        have HS3 := Lib.hid hS3
        have HB3 := Lib.hid (o3.below HB.out hwr (by simpa using hgs))
        clear hS3 o3 c0 c1 c2
        go_wp2_with fail
        go_roundw
        case rel => exact ⟨k + 1, by omega, by omega, by go_num, _, HS3.out, MS.out.op _ _ _, ZS.out.op _ _ _, HB3.out⟩
        case measure => simp [intOf]; omega
      all_goals
        go_wp2_with fail
        go_meet
        exact ⟨s, HS.out, MS.out, ZS.out, HB.out⟩
  case rest =>
    obtain ⟨s, hS, hms, hzs, hb⟩ := hcut
    have HS := Lib.hid hS
    have MS := Lib.hid hms
    have z0 := hb.size
    have hsum := sum_all hzs 64 (by rw [hS.n]; omega)
    rw [List.take_of_length_le (by rw [hS.n]; omega)] at hsum
    clear hS hms hzs
    go_wp2_with fail
    refine (all_c gs s _ HS.out).mono ?_; rintro e w2 ⟨ax, cx, rfl, hx, hb2⟩
    have HS2 := Lib.hid (HS.out.below hb2)
    have hb02 := hb.trans (hb2.mono z0)
    have X2 := Lib.hid (own_vrow hx)
    have hbase : ∀ b, ax.map (·.block) = some b → wc.heap.size ≤ b := fun b hb => by
      cases ax with
      | none => cases hb
      | some p =>
        have := (World.ownsRow.lt hx p.block rfl).1
        simp at hb
        omega
    have HBASE := Lib.hid hbase
    have lts := HS.out.lt
    have hxl := allTo_len s 64
    have hM : ∀ p ∈ allTo s 64, -2147483648 < p.2 ∧ p.2 < 2147483648 := fun p hp => by
      have h1 := (allTo_mem hp).2.2
      have h2 := MS.out.get p.1
      omega
    have HM := Lib.hid hM
    obtain ⟨L, hL⟩ : ∃ L, L = allTo s 64 := ⟨_, rfl⟩
    rw [← hL] at X2 hxl HM hsum ⊢
    have HL := Lib.hid hL
    have HSUM := Lib.hid hsum
    clear hx hb2 hbase hL hM hsum
    go_upto_block 2 with fail
    go_cut [9, 38] (fun s9 s38 wx => s9 = .int .i64 (sumP L) ∧ wx = w2)
    case first =>
      go_wp2_with fail
      go_loop [9, 38] (fun v i => ∃ k : Nat, k ≤ L.length ∧ i = .int .i64 k ∧ v = .int .i64 (sumP (L.take k))) (fun _ i => L.length - (intOf i).toNat)
      case atStart => exact ⟨0, by omega, rfl, rfl⟩
      case round =>
        obtain ⟨k, hkn, rfl, rfl⟩ := hrel
        by_cases hlt : k < L.length
        · obtain ⟨b1, o1, rfl, hb1, hc1⟩ := X2.out.2 (by omega)
          have q1 : w2.cell? ⟨b1, o1 + k * 2 + 1, none⟩ = some (.int .i64 L[k].2) := by rw [Nat.add_assoc]; exact hc1 _ _ (flat_get' acell 2 acell_len L k 1 (by omega) hlt _ rfl)
          have r3 := HM.out L[k] (List.getElem_mem hlt)
          have hsn : sumP (L.take (k + 1)) = sumP (L.take k) + L[k].2 := by rw [List.take_succ_eq_append_getElem hlt, sumP_snoc]
          have hbd : ∀ j : Nat, -2147483648 * (j : Int) ≤ sumP (L.take j) ∧ sumP (L.take j) ≤ 2147483648 * (j : Int) := fun j => by
            induction j with
            | zero => simp [sumP]
            | succ j ih =>
              by_cases hj : j < L.length
              · rw [List.take_succ_eq_append_getElem hj, sumP_snoc]
                have := HM.out L[j] (List.getElem_mem hj)
                omega
              · rw [List.take_of_length_le (by omega)] at ih ⊢
                omega
          have hbk := hbd k
          obtain ⟨x1, hx1⟩ : ∃ x, x = L[k].2 := ⟨_, rfl⟩
          rw [← hx1] at q1 r3 hsn
          have HSN := Lib.hid hsn
          have u0 : -2147483648 * 64 ≤ sumP (L.take k) := by omega
          have u1 : sumP (L.take k) ≤ 2147483648 * 64 := by omega
          have i0 : (0 : Int) ≤ k := by omega
          have i1 : (k : Int) < L.length := by omega
          clear hc1 hx1 hsn hbd hbk
          go_wp2
          go_round
          case rel => exact ⟨k + 1, by omega, by go_num, by rw [HSN.out]⟩
          case measure => simp [intOf]; omega
        · have hkl : k = L.length := by omega
          have ht : L.take k = L := List.take_of_length_le (by omega)
          rw [ht]
          clear hkl ht
          go_wp2_with fail
          go_meet
          exact ⟨rfl, rfl⟩
    case rest =>
      obtain ⟨rfl, rfl⟩ := hcut
      rw [HSUM.out]
      have hTb := sum_take_bd MS.out 64
      rw [List.take_of_length_le (by rw [HS2.out.n]; omega)] at hTb
      obtain ⟨T, hT⟩ : ∃ T, T = sumSt s := ⟨_, rfl⟩
      rw [← hT] at hTb ⊢
      have HT := Lib.hid hT
      have t0 : -137438953472 ≤ T := by omega
      have t1 : T ≤ 137438953472 := by omega
      clear hT hTb
      go_wp2_with fail
      refine (within_q key 64 _ y0 (by omega) (by omega)).mono ?_; rintro e w' ⟨q', rfl, hq, hq0, hq4, rfl⟩
      obtain ⟨j, rfl⟩ := Int.eq_ofNat_of_zero_le hq0
      have hj : j < 64 := by omega
      have ik : I64 (j : Int) := I64.of (by omega) (by omega)
      clear hq
      go_wp2_with fail
      refine (within_q val 2000 _ y1 (by omega) (by omega)).mono ?_; rintro e w' ⟨v, rfl, hv, v0, v1, rfl⟩
      clear hv
      have hjl : j < s.length := by rw [HS2.out.n]; exact hj
      have hwb := MS.out.get j
      have hwas : valOf s j = s[j].2 := by simp [valOf, List.getD, hjl]
      have hV : -2147483648 < v - 1000 ∧ v - 1000 < 2147483648 := by omega
      have A1 := Lib.hid (show opR s 5 0 0 = T by rw [op_sumR, HT.out])
      have A2 := Lib.hid (op_sum s 0 0)
      obtain ⟨W, hW⟩ : ∃ W, W = valOf s j := ⟨_, rfl⟩
      rw [← hW] at hwb hwas
      have B1 := Lib.hid (show opR s 2 j 0 = W by unfold opR; rw [if_pos (op_yes' hj (by omega)), if_neg (by omega), if_pos rfl, hW])
      have B2 := Lib.hid (show opSt s 2 j 0 = s by unfold opSt; split <;> rfl)
      have C1 := Lib.hid (show opR s 1 j (v - 1000) = W by unfold opR; rw [if_pos (op_yes' hj hV), if_pos rfl, hW])
      have C2 := Lib.hid (show opSt s 1 j (v - 1000) = s.set j (true, v - 1000) by unfold opSt; rw [if_pos (op_yes' hj hV), if_pos rfl, Int.toNat_natCast])
      have hval1 : valOf (s.set j (true, v - 1000)) j = v - 1000 := by simp [valOf, List.getD, hjl]
      have hsm5 : smallB (v - 1000 + 5) = true := decide_eq_true (by omega)
      have D1 := Lib.hid (show opR (s.set j (true, v - 1000)) 3 j 5 = v - 1000 + 5 by unfold opR; rw [if_pos (op_yes' hj (by omega)), if_neg (by omega), if_neg (by omega), if_pos rfl, hval1, if_pos hsm5])
      have D2 := Lib.hid (show opSt (s.set j (true, v - 1000)) 3 j 5 = s.set j (true, v - 1000 + 5) by unfold opSt; rw [if_pos (op_yes' hj (by omega)), if_neg (by omega), if_pos rfl, hval1, if_pos hsm5, Int.toNat_natCast, List.set_set])
      have hgd : (s.set j (true, v - 1000 + 5)).getD j (false, 0) = (true, v - 1000 + 5) := set_at _ _ _ hjl
      have G1 := Lib.hid (show sgetB (s.set j (true, v - 1000 + 5)) j = true by unfold sgetB; rw [Int.toNat_natCast, hgd, decide_eq_true (show 0 ≤ (j : Int) ∧ (j : Int) < 64 by omega)]; rfl)
      have G2 := Lib.hid (show sgetR (s.set j (true, v - 1000 + 5)) j = v - 1000 + 5 by unfold sgetR; rw [G1.out, Int.toNat_natCast, hgd]; rfl)
      have E1 := Lib.hid (show opR (s.set j (true, v - 1000 + 5)) 5 0 0 = T - W + (v - 1000) + 5 by
        rw [op_sumR, sum_set s j hjl, ← HT.out, ← hwas]
        show T - W + (v - 1000 + 5) = _
        omega)
      have E2 := Lib.hid (op_sum (s.set j (true, v - 1000 + 5)) 0 0)
      have M1 := Lib.hid (MS.out.set j true hV)
      have M2 := Lib.hid (MS.out.set j true (show -2147483648 < v - 1000 + 5 ∧ v - 1000 + 5 < 2147483648 by omega))
      have e1 : (T != T) = false := by simp
      have e2 : (W != W) = false := by simp
      obtain ⟨S1', hS1⟩ : ∃ x, x = s.set j (true, v - 1000) := ⟨_, rfl⟩
      obtain ⟨S2', hS2⟩ : ∃ x, x = s.set j (true, v - 1000 + 5) := ⟨_, rfl⟩
      rw [← hS1] at C2 D1 D2 M1
      rw [← hS2] at D2 G1 G2 E1 E2 M2
      have z2 := hb02.size
      have lt2 := HS2.out.lt
      clear hwas hW hval1 hsm5 hgd hS1 hS2 hV
      go_wp2_with fail
      refine (apply_c gs s 5 0 0 _ HS2.out MS.out (I64.of (by omega) (by omega)) (I64.of (by omega) (by omega)) (I64.of (by omega) (by omega)) T A1.out s A2.out).mono ?_; rintro e w3 ⟨rfl, hS3, o3⟩
      go_wp2_with fail
      refine (apply_c gs s 2 j 0 _ hS3 MS.out (I64.of (by omega) (by omega)) ik (I64.of (by omega) (by omega)) W B1.out s B2.out).mono ?_; rintro e w4 ⟨rfl, hS4, o4⟩
      have o34 := o3.trans o4
      have HS4 := Lib.hid hS4
      have hb04 : Below w.heap.size w w4 := o34.below hb02 z2 (by simpa using hgs)
      have X5 := Lib.hid (X2.out.only o34 (fun b hb => by
        have := HBASE.out b hb
        simp
        omega))
      have z4 := hb04.size
      clear hS3 o3 hS4 o4 o34 X2
      go_wp2_with fail
      refine (all_c gs s _ HS4.out).mono ?_; rintro e w5 ⟨ay, cy, rfl, hy, hb5⟩
      rw [← HL.out]
      rw [← HL.out] at hy
      have Y5 := Lib.hid (own_vrow hy)
      have X6 := Lib.hid (X5.out.below hb5)
      have HS5 := Lib.hid (HS4.out.below hb5)
      have hb05 := hb04.trans (hb5.mono z4)
      have z5 := hb05.size
      clear hy hb5 X5
      go_wp2_with fail
      refine (same2_c ay ax L.length L.length cy cx L L _ Y5.out X6.out rfl rfl (by omega) (by omega) true (decide_eq_true rfl)).mono ?_; rintro e w6 ⟨rfl, hb6⟩
      have HS6 := Lib.hid (HS5.out.below hb6)
      have hb06 := hb05.trans (hb6.mono z5)
      have z6 := hb06.size
      clear hb6 Y5 X6
      go_wp2_with fail
      refine (apply_c gs s 1 j (v - 1000) _ HS6.out MS.out (I64.of (by omega) (by omega)) ik (I64.of (by omega) (by omega)) W C1.out S1' C2.out).mono ?_; rintro e w7 ⟨rfl, hS7, o7⟩
      go_wp2_with fail
      refine (apply_c gs S1' 3 j 5 _ hS7 M1.out (I64.of (by omega) (by omega)) ik (I64.of (by omega) (by omega)) _ D1.out S2' D2.out).mono ?_; rintro e w8 ⟨rfl, hS8, o8⟩
      go_wp2_with fail
      refine (sget_c gs S2' j _ hS8 ik true G1.out _ G2.out).mono ?_; rintro e w' ⟨rfl, rfl⟩
      go_wp2_with fail
      refine (apply_c gs S2' 5 0 0 _ hS8 M2.out (I64.of (by omega) (by omega)) (I64.of (by omega) (by omega)) (I64.of (by omega) (by omega)) _ E1.out S2' E2.out).mono ?_; rintro e w9 ⟨rfl, hS9, o9⟩
      have hb09 : Below w.heap.size w w9 := ((o7.trans o8).trans o9).below hb06 z6 (by simpa using hgs)
      go_wp2_with fail
      refine (swakes_c _).mono ?_; rintro e w10 ⟨rfl, hb10⟩
      go_wp2
      go_ret
      exact ⟨rfl, hb09.trans (hb10.mono hb09.size)⟩

theorem lawWalk : LawWalk Try.checked 6 Try.f6 := by
  intro H enc W base args ds p hval hA hsz
  rw [Try.params6] at hA hval
  obtain ⟨v0, vs0, d0, ds0, p0, q0, hargs, rfl, rfl, h0, r0⟩ := trodAll_cons hA
  obtain ⟨v1, vs1, d1, ds1, p1, q1, rfl, rfl, rfl, h1, r1⟩ := trodAll_cons r0
  obtain ⟨v2, vs2, d2, ds2, p2, q2, rfl, rfl, rfl, h2, r2⟩ := trodAll_cons r1
  obtain ⟨rfl, rfl, rfl⟩ := trodAll_nil r2
  obtain rfl : args = #[v0, v1, v2] := by cases args; simp_all
  obtain ⟨a0, n0, c0, g0, rfl, hnc0, hcm0, hr0⟩ := open_flat Try.underlying30 Try.underlying27 (by kernel_rfl) (by kernel_rfl) (by decide) (by kernel_rfl) (hval 0 30 v0 rfl rfl) h0
  obtain ⟨a1, rfl, rfl, rfl, w1⟩ := open_int Try.underlying3 (hval 1 3 v1 rfl rfl) h1
  obtain ⟨a2, rfl, rfl, rfl, w2⟩ := open_int Try.underlying3 (hval 2 3 v2 rfl rfl) h2
  exact walk a0 n0 c0 g0 a1 a2 W hr0 (Nat.le_trans hnc0 hcm0) (I64.of_wf w1) (I64.of_wf w2)

theorem lifted (os : Os) (started : os.Started) (H : Type) (enc : TypeId × Value → H) :
    ReturnsInHanded {} Try.checked os 6 .any (Rows.storeSumsSpec.pre6 enc Try.prog Try.f6 Rows.storeSumsRow.domain false) (Rows.storeSumsSpec.post enc Try.prog Try.f6 false true false false) :=
  law_lift (C := Try.checked) (s := Rows.storeSumsSpec) (tb := 4) (by kernel_rfl) started (by kernel_rfl) Try.func6
    (ChangeSpec.witness6 (enc := enc) (C := Try.checked) false ⟨#[], #[.slice none 0 0, .int .i64 0, .int .i64 0], []⟩ 8 (by kernel_rfl) (by kernel_rfl) (by kernel_rfl) (by kernel_rfl))
    rfl (fun H ds h => by
      match ds, h with
      | [d0, d1, d2], _ => rfl) (by kernel_rfl) (by kernel_rfl) (by kernel_rfl) Try.underlying4 lawWalk

theorem over : Rows.storeSumsRow.holds Try.pinned (OpenSpec.ofChange Rows.storeSumsSpec) :=
  OpenClaim.holds_of_wide 6 Try.f6 rfl rfl rfl rfl rfl rfl rfl ⟨rfl, rfl, rfl, rfl, rfl⟩ rfl rfl rfl rfl rfl (by kernel_rfl) Try.func6 (by kernel_rfl)
    (of_decide_eq_true (by kernel_rfl)) (by unfold Func.isWrapper; first | (rw [if_pos (by decide +kernel)]; kernel_rfl) | (rw [if_neg (by decide +kernel)]; exact ⟨rfl, rfl⟩))
    (fun os started H enc _ => lifted os started H enc)

/-- The statement. -/
theorem proved : Rows.StoreSumsSaid := over
#print axioms proved

end Go.Proofs.Ytghaahagacffiaa.StoreSums
