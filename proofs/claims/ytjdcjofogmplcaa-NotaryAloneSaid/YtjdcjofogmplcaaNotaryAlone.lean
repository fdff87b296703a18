/- NotaryAlone: for all lists of acts, every party and bytes the law returns true: a seal that was given to one party is nobody else's, nor of other bytes. No condition. -/
import Derived.Test.YtjdcjofogmplcaaNotW
import Derived.Test.YtjdcjofogmplcaaRows
import Derived.Deep.DeepCutAuto
import Derived.Deep.CutBlock
namespace Go.Proofs.Ytjdcjofogmplcaa.NotaryAlone
open Go.RowKit Go.ChangeShapes Go.WideShapes Go.ChangeAt
set_option linter.unusedVariables false

theorem str_ne {s t : ByteArray} (h : ¬ s = t) : (s.toList == t.toList) = false :=
  beq_eq_false_iff_ne.2 fun e => h (by
    rw [ByteArray.toList_eq, ByteArray.toList_eq] at e
    cases s
    cases t
    simp_all)

def Rel (w wr : World) (n b len : Nat) (i : Value) : Prop :=
  ∃ k : Nat, k ≤ len ∧ k ≤ 60 ∧ i = .int .i64 k ∧ ∃ KL, Nty wr n b KL ∧ KL.length ≤ k ∧ Below w.heap.size w wr
def Cut (w wx : World) (n b : Nat) : Prop := ∃ KL, Nty wx n b KL ∧ KL.length ≤ 60 ∧ Below w.heap.size w wx

set_option maxRecDepth 100000 in
set_option maxHeartbeats 6400000 in
theorem walk (a : Option Addr) (len c : Nat) (g : Nat → Nat → Int) (R : Nat → Byt) (party : Int) (B : Byt) (w : World) (hr : ActsB w a len 3 g R) (hm : len ≤ maxLen) (hp : I64 party) (hB : B.Is w) :
    Calls Try.prog 4 #[.slice a len c, .int .i64 party, .slice B.a B.xs.length B.c] w fun e w' => e = .returned (.bool true) ∧ Below w.heap.size w w' := by
  unfold maxLen at hm
  have hR := Lib.hid hr
  have HB0 := Lib.hid hB
  have HP := Lib.hid hp
  obtain ⟨m, hml⟩ : ∃ m, m = B.xs.length := ⟨_, rfl⟩
  have OQ : Hid (OkE (party, B.xs)) := Lib.hid ⟨hp, hB.byte, Nat.le_trans hB.cap hB.max⟩
  have VQ : Hid (VRow w B.a m 1 (brow B.xs)) := by rw [hml]; exact Lib.hid hB.row
  rw [← hml]
  clear hr hB hml hp
  go_enter Try.func4, Try.ntmps4
  go_wp2_with fail
  refine (nnew_c _).mono ?_; rintro e w1 ⟨n, b, rfl, hN1, hn1, hb1, hw1⟩
  have N1 := Lib.hid hN1
  have B1 := Lib.hid hw1
  clear hN1 hw1
  go_upto_block 0 with fail
  go_cut [8] (fun s8 wx => Cut w wx n b)
  case first =>
    go_wp2_with fail
    go_loopw [8] (fun i wr => Rel w wr n b len i) (fun i _ => len - (intOf i).toNat)
    case atStart => exact ⟨0, by omega, by omega, rfl, [], N1.out, by simp, B1.out⟩
    case round =>
      obtain ⟨k, hkn, hk60, rfl, KL, hN, hK, hb⟩ := hrel
      rcases (show (k < len ∧ k < 60) ∨ (¬ k < len) ∨ (k < len ∧ ¬ k < 60) by omega) with ⟨hlt, h60⟩ | hlt | ⟨hlt, h60⟩
      · obtain ⟨bb, off, rfl, hbl, hcell⟩ := hR.out.row (by omega)
        obtain ⟨hc, hc3, hci⟩ := hcell k hlt
        have d1 := hc 1 (by omega)
        obtain ⟨r, hrl⟩ : ∃ r, r = (R k).xs.length := ⟨_, rfl⟩
        obtain ⟨p1, hp1⟩ : ∃ p1, p1 = g k 1 := ⟨_, rfl⟩
        rw [← hp1] at d1
        rw [← hrl] at hc3
        have KS : ∀ w', Below w.heap.size w w' → w'.cell? ⟨bb, off + k * 4 + 1, none⟩ = some (.int .i64 p1) ∧ w'.cell? ⟨bb, off + k * 4 + 3, none⟩ = some (.slice (R k).a r (R k).c) ∧ Below w.heap.size w w' := fun w' o => ⟨(o.cell (p := ⟨bb, off + k * 4 + 1, none⟩) hbl).trans d1, (o.cell (p := ⟨bb, off + k * 4 + 3, none⟩) hbl).trans hc3, o⟩
        have OK : Hid (OkE (p1, (R k).xs)) := Lib.hid ⟨by rw [hp1]; exact hR.out.int _ _, hci.byte, Nat.le_trans hci.cap hci.max⟩
        have VK : Hid (VRow w (R k).a r 1 (brow (R k).xs)) := by rw [hrl]; exact Lib.hid hci.row
        have i0 : (0 : Int) ≤ k := by omega
        have i1 : (k : Int) < len := by omega
        have NN := Lib.hid hN
        have BB := Lib.hid hb
        clear hN hcell hc hc3 hci hb d1 hrl hp1
        go_upto_region 7 with fail
        refine wp_region_plan (fun w' => w'.cell? ⟨bb, off + k * 4 + 1, none⟩ = some (.int .i64 p1) ∧ w'.cell? ⟨bb, off + k * 4 + 3, none⟩ = some (.slice (R k).a r (R k).c) ∧ Below w.heap.size w w') 13 (.take 0 (.take 1 (.take 2 (.take 3 (.take 4 (.take 5 (.take 6 (.take 7 (.take 8 (.take 9 (.take 10 (.one 11 (.take 12 .done))))))))))))) (by kernel_rfl) (by kernel_rfl) (by kernel_rfl) (KS _ BB.out.drew) ?_
        intro hS0
        repeat (refine' wpPlan_take rfl (by rfl) (by assumption) ?_ ?_; rotate_left; (· (intro w hSw; (try dsimp only at hSw); go_simp; try with_reducible rfl)); try simp only [Act.put, List.setIfInBounds_toArray, List.set_cons_zero, List.set_cons_succ])
        refine wpPlan_one rfl (fun K hK => ?_)
        go_simp
        refine (nseal_c n b KL p1 (R k).a r (R k).c (R k).xs _ (NN.out.drewN 1) (VK.out.below BB.out.drew) OK.out (by omega) _ rfl _ rfl).mono ?_
        rintro e w3 ⟨rfl, hN3, ho3⟩
        have B3 : Below w.heap.size w w3 := ho3.below BB.out.drew BB.out.drew.size (by simp; exact hb1)
        refine hK.out _ _ (KS _ B3) (fun _ => ?_); clear hK K; try simp only [Act.put, List.setIfInBounds_toArray, List.set_cons_zero, List.set_cons_succ]
        repeat (refine' wpPlan_take rfl (by rfl) (by assumption) ?_ ?_; rotate_left; (· (intro w hSw; (try dsimp only at hSw); go_simp; try with_reducible rfl)); try simp only [Act.put, List.setIfInBounds_toArray, List.set_cons_zero, List.set_cons_succ])
        refine wpPlan_done ?_
        have N3 := Lib.hid hN3
        have BB3 := Lib.hid B3
        have HMEM := Lib.hid (mem_sealed KL (p1, (R k).xs))
        have HLEN := Lib.hid (len_sealed KL (p1, (R k).xs))
        obtain ⟨K3, hK3⟩ : ∃ K3, K3 = sealed KL (p1, (R k).xs) := ⟨_, rfl⟩
        rw [← hK3] at N3 HMEM HLEN ⊢
        obtain ⟨x, hx⟩ : ∃ x, x = num K3 (p1, (R k).xs) := ⟨_, rfl⟩
        rw [← hx]
        have HX := Lib.hid hx
        have c1 := (KS _ B3).1
        have c3 := (KS _ B3).2.1
        obtain ⟨s1, hs1⟩ : ∃ s1, s1 = strOfNums (R k).xs := ⟨_, rfl⟩
        obtain ⟨s2, hs2⟩ : ∃ s2, s2 = strOfNums B.xs := ⟨_, rfl⟩
        have cv1 : ∀ j, (convert 33 9 (.slice (R k).a r (R k).c)).run Try.prog (w3.drewN j) = .ok (.string s1) (w3.drewN j) := fun j => by rw [hs1]; exact conv_bytes (w := w3.drewN j) (VK.out.below (below_drewN B3 j))
        have cv2 : ∀ j, (convert 33 9 (.slice B.a m B.c)).run Try.prog (w3.drewN j) = .ok (.string s2) (w3.drewN j) := fun j => by rw [hs2]; exact conv_bytes (w := w3.drewN j) (VQ.out.below (below_drewN B3 j))
        have hcase : (party = p1 ∧ s2 = s1 ∧ (decide ((party, B.xs) ∈ K3) && decide (num K3 (party, B.xs) = x)) = true) ∨ (¬ party = p1 ∧ (decide ((party, B.xs) ∈ K3) && decide (num K3 (party, B.xs) = x)) = false) ∨ (party = p1 ∧ ¬ s2 = s1 ∧ (decide ((party, B.xs) ∈ K3) && decide (num K3 (party, B.xs) = x)) = false) := by
          have hno : (party, B.xs) ≠ (p1, (R k).xs) → (decide ((party, B.xs) ∈ K3) && decide (num K3 (party, B.xs) = x)) = false := fun hne => by
            by_cases hmm : (party, B.xs) ∈ K3
            · have : ¬ num K3 (party, B.xs) = x := fun e => hne (num_inj hmm HMEM.out (by rw [e, HX.out]))
              simp [this]
            · simp [hmm]
          by_cases e1 : party = p1
          · by_cases e2 : B.xs = (R k).xs
            · refine .inl ⟨e1, by rw [hs1, hs2, e2], ?_⟩
              rw [e1, e2, decide_eq_true HMEM.out, HX.out]
              simp
            · exact .inr (.inr ⟨e1, fun h => e2 (str_inj OQ.out.b OK.out.b (by rw [← hs1, ← hs2]; exact h)), hno fun h => e2 (by injection h)⟩)
          · exact .inr (.inl ⟨e1, hno fun h => e1 (by injection h)⟩)
        have RK := Lib.hid (show (decide ((p1, (R k).xs) ∈ K3) && decide (num K3 (p1, (R k).xs) = x)) = true by rw [decide_eq_true HMEM.out, HX.out]; simp)
        clear hx hs1 hs2 hK3 hN3 ho3 B3 KS hS0
        rcases hcase with ⟨e1, e2, hrr⟩ | ⟨e1, hrr⟩ | ⟨e1, e2, hrr⟩
        · subst e1
          subst e2
          have RQ := Lib.hid hrr
          clear hrr
          go_upto_region 8 with fail
          go_quiet (first
            | (go_at_call_of 19 (#[Value.pointer (some ⟨n, 0, none⟩), Value.int .i64 party, Value.slice (R k).a r (R k).c, Value.int .i64 x] : Array Value); exact Calls.quiet_of (ncheck_c n b K3 party _ _ _ (R k).xs x _ (N3.out.drewN _) (VK.out.below (below_drewN BB3.out _)) OK.out true RK.out))
            | (go_at_call_of 19 (#[Value.pointer (some ⟨n, 0, none⟩), Value.int .i64 party, Value.slice B.a m B.c, Value.int .i64 x] : Array Value); exact Calls.quiet_of (ncheck_c n b K3 party _ _ _ B.xs x _ (N3.out.drewN _) (VQ.out.below (below_drewN BB3.out _)) OQ.out true RQ.out)))
          go_wp2_with fail
          go_roundw
          case rel => exact ⟨k + 1, by omega, by omega, by go_num, K3, N3.out.drewN _, by have := HLEN.out; omega, below_drewN BB3.out _⟩
          case measure => simp [intOf]; omega
        · have e3 : (party == p1) = false := beq_eq_false_iff_ne.2 e1
          have e4 : decide (party = p1) = false := decide_eq_false e1
          have RQ := Lib.hid hrr
          clear hrr e1
          go_upto_region 8 with fail
          go_quiet (first
            | (go_at_call_of 19 (#[Value.pointer (some ⟨n, 0, none⟩), Value.int .i64 p1, Value.slice (R k).a r (R k).c, Value.int .i64 x] : Array Value); exact Calls.quiet_of (ncheck_c n b K3 p1 _ _ _ (R k).xs x _ (N3.out.drewN _) (VK.out.below (below_drewN BB3.out _)) OK.out true RK.out))
            | (go_at_call_of 19 (#[Value.pointer (some ⟨n, 0, none⟩), Value.int .i64 party, Value.slice B.a m B.c, Value.int .i64 x] : Array Value); exact Calls.quiet_of (ncheck_c n b K3 party _ _ _ B.xs x _ (N3.out.drewN _) (VQ.out.below (below_drewN BB3.out _)) OQ.out false RQ.out)))
          go_wp2_with fail
          go_roundw
          case rel => exact ⟨k + 1, by omega, by omega, by go_num, K3, N3.out.drewN _, by have := HLEN.out; omega, below_drewN BB3.out _⟩
          case measure => simp [intOf]; omega
        · subst e1
          have e3 : (s2.toList == s1.toList) = false := str_ne e2
          have RQ := Lib.hid hrr
          clear hrr e2
          go_upto_region 8 with fail
          go_quiet (first
            | (go_at_call_of 19 (#[Value.pointer (some ⟨n, 0, none⟩), Value.int .i64 party, Value.slice (R k).a r (R k).c, Value.int .i64 x] : Array Value); exact Calls.quiet_of (ncheck_c n b K3 party _ _ _ (R k).xs x _ (N3.out.drewN _) (VK.out.below (below_drewN BB3.out _)) OK.out true RK.out))
            | (go_at_call_of 19 (#[Value.pointer (some ⟨n, 0, none⟩), Value.int .i64 party, Value.slice B.a m B.c, Value.int .i64 x] : Array Value); exact Calls.quiet_of (ncheck_c n b K3 party _ _ _ B.xs x _ (N3.out.drewN _) (VQ.out.below (below_drewN BB3.out _)) OQ.out false RQ.out)))
          go_wp2_with fail
          go_roundw
          case rel => exact ⟨k + 1, by omega, by omega, by go_num, K3, N3.out.drewN _, by have := HLEN.out; omega, below_drewN BB3.out _⟩
          case measure => simp [intOf]; omega
      all_goals
        go_wp2_with fail
        go_meet
        exact ⟨KL, hN, by omega, hb⟩
  case rest =>
    obtain ⟨KL, hN, hK, hb⟩ := hcut
    have N2 := Lib.hid hN
    have B2 := Lib.hid hb
    have nz : ∀ x : Int, x ≤ 0 ∨ (KL.length : Int) < x → (decide ((party, B.xs) ∈ KL) && decide (num KL (party, B.xs) = x)) = false := fun x hx => by
      by_cases hmm : (party, B.xs) ∈ KL
      · have h1 := num_pos hmm
        have : ¬ num KL (party, B.xs) = x := by omega
        simp [this]
      · simp [hmm]
    have NZ := Lib.hid nz
    clear hN hb nz
    go_wp2_with fail
    refine (ncheck_c n b KL party _ _ _ B.xs 0 _ N2.out (VQ.out.below B2.out) OQ.out false (NZ.out 0 (by omega))).mono ?_; rintro e w3 ⟨rfl, j3, hj3⟩
    have N3 := Lib.hid (show Nty w3 n b KL by rw [hj3]; exact N2.out.drewN j3)
    have B3 := Lib.hid (show Below w.heap.size w w3 by rw [hj3]; exact below_drewN B2.out j3)
    clear hj3
    go_wp2_with fail
    refine (ncheck_c n b KL party _ _ _ B.xs (-1) _ N3.out (VQ.out.below B3.out) OQ.out false (NZ.out (-1) (by omega))).mono ?_; rintro e w4 ⟨rfl, j4, hj4⟩
    have N4 := Lib.hid (show Nty w4 n b KL by rw [hj4]; exact N3.out.drewN j4)
    have B4 := Lib.hid (show Below w.heap.size w w4 by rw [hj4]; exact below_drewN B3.out j4)
    clear hj4
    go_wp2_with fail
    refine (nlen_c n b KL _ N4.out _ rfl).mono ?_; rintro e w5 ⟨rfl, rfl⟩
    have i9 : IntKind.i64.wrap ((KL.length : Int) + 1) = (KL.length : Int) + 1 := IntWalk.i64_in _ (by omega)
    go_wp2_with fail
    refine (ncheck_c n b KL party _ _ _ B.xs ((KL.length : Int) + 1) _ N4.out (VQ.out.below B4.out) OQ.out false (NZ.out _ (by omega))).mono ?_; rintro e w6 ⟨rfl, j6, hj6⟩
    have B6 := Lib.hid (show Below w.heap.size w w6 by rw [hj6]; exact below_drewN B4.out j6)
    clear hj6
    go_wp2_with fail
    refine (nwakes_c _).mono ?_; rintro e w7 ⟨rfl, hb7⟩
    go_wp2_with fail
    go_ret
    exact ⟨rfl, B6.out.trans (hb7.mono B6.out.size)⟩

set_option maxRecDepth 100000 in
theorem lawWalk : LawWalk Try.checked 4 Try.f4 := by
  intro H enc W base args ds p hval hA hsz
  rw [Try.params4] at hA hval
  obtain ⟨v0, vs0, d0, ds0, p0, q0, hargs, rfl, rfl, h0, r0⟩ := trodAll_cons hA
  obtain ⟨v1, vs1, d1, ds1, p1, q1, rfl, rfl, rfl, h1, r1⟩ := trodAll_cons r0
  obtain ⟨v2, vs2, d2, ds2, p2, q2, rfl, rfl, rfl, h2, r2⟩ := trodAll_cons r1
  obtain ⟨rfl, rfl, rfl⟩ := trodAll_nil r2
  obtain rfl : args = #[v0, v1, v2] := by cases args; simp_all
  obtain ⟨a0, n0, c0, g0, R0, rfl, hnc0, hcm0, hr0⟩ := open_acts (k := 3) (f := 33) (l := 5) Try.underlying22 Try.underlying36 (by kernel_rfl) (by kernel_rfl) (by rfl) (by kernel_rfl) (by kernel_rfl) Try.underlying33 Try.underlying5 (by kernel_rfl) (hval 0 22 v0 rfl rfl) h0
  obtain ⟨a1, rfl, rfl, rfl, w1⟩ := open_int Try.underlying3 (hval 1 3 v1 rfl rfl) h1
  obtain ⟨R2, rfl, hr2⟩ := open_bytes Try.underlying33 Try.underlying5 (by kernel_rfl) (hval 2 33 v2 rfl rfl) h2
  exact walk a0 n0 c0 g0 R0 a1 R2 W hr0 (Nat.le_trans hnc0 hcm0) (I64.of_wf w1) hr2

theorem lifted (os : Os) (started : os.Started) (H : Type) (enc : TypeId × Value → H) :
    ReturnsInHanded {} Try.checked os 4 .any (Rows.notaryAloneSpec.pre6 enc Try.prog Try.f4 Rows.notaryAloneRow.domain false) (Rows.notaryAloneSpec.post enc Try.prog Try.f4 false true false false) :=
  law_lift (C := Try.checked) (s := Rows.notaryAloneSpec) (tb := 4) (by kernel_rfl) started (by kernel_rfl) Try.func4
    (ChangeSpec.witness6 (enc := enc) (C := Try.checked) false ⟨#[], #[.slice none 0 0, .int .i64 0, .slice none 0 0], []⟩ 8 (by kernel_rfl) (by kernel_rfl) (by kernel_rfl) (by kernel_rfl))
    rfl (fun H ds h => by
      match ds, h with
      | [d0, d1, d2], _ => rfl) (by kernel_rfl) (by kernel_rfl) (by kernel_rfl) Try.underlying4 lawWalk

theorem over : Rows.notaryAloneRow.holds Try.pinned (OpenSpec.ofChange Rows.notaryAloneSpec) :=
  OpenClaim.holds_of_wide 4 Try.f4 rfl rfl rfl rfl rfl rfl rfl ⟨rfl, rfl, rfl, rfl, rfl⟩ rfl rfl rfl rfl rfl (by kernel_rfl) Try.func4 (by kernel_rfl)
    (of_decide_eq_true (by kernel_rfl)) (by unfold Func.isWrapper; first | (rw [if_pos (by decide +kernel)]; kernel_rfl) | (rw [if_neg (by decide +kernel)]; exact ⟨rfl, rfl⟩))
    (fun os started H enc _ => lifted os started H enc)

/-- The statement. -/
theorem proved : Rows.NotaryAloneSaid := over
#print axioms proved

end Go.Proofs.Ytjdcjofogmplcaa.NotaryAlone
