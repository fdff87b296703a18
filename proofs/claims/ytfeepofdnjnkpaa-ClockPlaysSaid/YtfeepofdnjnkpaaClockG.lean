/- The law's act: what is due. -/
import Derived.Test.YtfeepofdnjnkpaaClockDo
import Derived.Test.YtfeepofdnjnkpaaLater
import Derived.Deep.CutRange
import Derived.Deep.DeepCutAuto
import Derived.Deep.CutBlock
import Derived.BigQuiet
namespace Go.Proofs.Ytfeepofdnjnkpaa
open Go.RowKit
set_option linter.unusedVariables false

theorem due_w (B gc : Nat) (now : Int) (L : List (Int × Int)) (w : World) (h : Clk w B gc now L) (hL : ∀ p ∈ L, I64 p.1 ∧ I64 p.2) (hn : L.length ≤ 1000) (hnow : 0 ≤ now ∧ now ≤ 1048576) (D : List Int) (E : List (Int × Int)) (hD : dueOf L now = D) (hE : leftOf L now = E) (n : Nat) (hl : D.length = n) :
    Calls Try.prog 33 #[.pointer (some ⟨gc, 0, none⟩)] w fun e w' => ∃ a c, e = .returned (.slice a n c) ∧ w'.ownsRow w.heap.size 3 1 (.slice a n c) n (irow D) ∧ Clk w' B gc now E ∧ Ticked B w w' := by
  subst hD
  subst hE
  subst hl
  exact due_c B gc now L w h hL hn hnow

/-- What is told of the due ones, of what is left behind each, at the end. -/
structure DueF (L : List (Int × Int)) (now : Int) (D : List Int) (m : Nat) : Prop where
  len : D.length = m
  has : ∀ k, k < m → ∃ y ∈ L, y.1 = D.getD k 0 ∧ y.2 ≤ now
  step : ∀ k, k < m → ∀ x, Rest L now (k + 1) x ↔ Rest L now k x ∧ x.1 ≠ D.getD k 0
  lt : ∀ j, j + 1 < m → D.getD j 0 < D.getD (j + 1) 0
  in_ : ∀ k, k < m → ∀ y ∈ L, y.1 = D.getD k 0 → Rest L now k y
theorem irow_get (D : List Int) (k : Nat) (h : k < D.length) : (irow D)[k]? = some (.int .i64 (D.getD k 0)) := by
  simp only [irow, List.getElem?_map, List.getD_eq_getElem?_getD, List.getElem?_eq_getElem h]; rfl
theorem drewN_add (w : World) (a b : Nat) : (w.drewN a).drewN b = w.drewN (a + b) := by
  induction b with
  | zero => rfl
  | succ b ih =>
    show ((w.drewN a).drewN b).drew = _
    rw [ih]; rfl
theorem due_facts {L : List (Int × Int)} (hU : Up L) (now : Int) {D : List Int} (hD : dueOf L now = D) {m : Nat} (hm : D.length = m) : DueF L now D m := by
  subst hD
  have g : ∀ k (h : k < m), (dueOf L now).getD k 0 = (dueOf L now)[k]'(by omega) := fun k h => by rw [List.getD_eq_getElem?_getD, List.getElem?_eq_getElem (by omega)]; rfl
  refine ⟨hm, fun k h => ?_, fun k h x => ?_, fun j h => ?_, fun k h y hy e => ⟨hy, .inr ?_⟩⟩
  · rw [g k h]; exact due_has (by omega)
  · rw [g k h]; exact rest_step hU now (by omega) x
  · rw [g j (by omega), g (j + 1) h]
    exact List.pairwise_iff_getElem.1 (due_up hU now) j (j + 1) (by omega) (by omega) (by omega)
  · rw [g k h] at e
    rw [e]
    exact List.mem_iff_getElem.2 ⟨0, by rw [List.length_drop]; omega, by rw [List.getElem_drop]; rfl⟩
/-- Where the k-th due one stands. -/
theorem due_at {L P : List (Int × Int)} {now : Int} {D : List Int} {m : Nat} (hU : Up L) (F : DueF L now D m) {k : Nat} (hk : k < m) (hP : Has (Rest L now k) P) {i : Int} (hf : FindAt P (D.getD k 0) i) :
    ∃ (j : Nat) (hj : j < P.length), i = (j : Int) ∧ P[j].1 = D.getD k 0 ∧ P[j].2 ≤ now ∧ Has (Rest L now (k + 1)) (P.take j ++ P.drop (j + 1)) := by
  obtain ⟨y, hy, e1, e2⟩ := F.has k hk
  have hyP : y ∈ P := (hP.1 y).2 (F.in_ k hk y hy e1)
  rcases hf with ⟨_, h2⟩ | ⟨j, hj, rfl, h2, _⟩
  · exact absurd e1 (h2 y hyP)
  · have hjL : P[j] ∈ L := ((hP.1 _).1 (List.getElem_mem hj)).1
    have e3 : P[j] = y := hU.inj hjL hy (h2.trans e1.symm)
    exact ⟨j, hj, rfl, h2, by rw [e3]; exact e2, (hP.drop hj h2).congr fun x => (F.step k hk x).symm⟩

set_option maxRecDepth 100000 in
set_option maxHeartbeats 6400000 in
theorem do_due (B gc gp : Nat) (now : Int) (L P : List (Int × Int)) (d id t : Int) (w : World) (hC : Clk w B gc now L) (hP : Pn w B gp now P) (M : Mt L P) (hnow : 0 ≤ now ∧ now ≤ 300) (hn : L.length ≤ 300) (xd : I64 d) (hi : I64 id) (xt : I64 t) (hd : d % 8 = 7) :
    Calls Try.prog 38 #[.pointer (some ⟨gc, 0, none⟩), .pointer (some ⟨gp, 0, none⟩), .agg #[.int .i64 d, .int .i64 id, .int .i64 t]] w (DoPost B gc gp now L.length w) := by
  obtain ⟨fi, hfi⟩ := find_ex P id
  have HC := Lib.hid hC
  have HP := Lib.hid hP
  have MM := Lib.hid M
  have HD := Lib.hid hd
  have HI := Lib.hid hi
  have HF := Lib.hid hfi
  have PL := Lib.hid (show P.length ≤ 300 by rw [M.len]; exact hn)
  have GPL := Lib.hid hP.lt
  have BW : B ≤ w.heap.size := Nat.le_trans hC.ge (Nat.le_of_lt hC.lt)
  clear hC hP M hd hi hfi
  go_enter Try.func38, Try.ntmps38
  go_upto_region 2 with fail
  obtain ⟨w1, hw1⟩ : ∃ w1, w1 = w.alloc (.cells #[.int .i64 d, .int .i64 id, .int .i64 t] 73) := ⟨_, rfl⟩
  obtain ⟨ga, hga⟩ : ∃ ga, ga = w.heap.size := ⟨_, rfl⟩
  rw [← hw1, ← hga]
  have hA : Blk w1 ga 73 #[.int .i64 d, .int .i64 id, .int .i64 t] := by rw [hw1, hga]; exact Blk.new _ _ _
  have b1 : Below w.heap.size w w1 := by rw [hw1]; exact (Below.refl _ _).alloc (Nat.le_refl _) _
  have A1 := Lib.hid hA
  have B1 := Lib.hid b1
  have C1 := Lib.hid (HC.out.below b1)
  have P1 := Lib.hid (HP.out.below b1)
  have a0 : w1.cell? ⟨ga, 0, none⟩ = some (.int .i64 d) := hA.cell 0
  have a1 : w1.cell? ⟨ga, 1, none⟩ = some (.int .i64 id) := hA.cell 1
  have a2 : w1.cell? ⟨ga, 2, none⟩ = some (.int .i64 t) := hA.cell 2
  have GA : Hid (w.heap.size ≤ ga) := Lib.hid (Nat.le_of_eq hga.symm)
  clear hw1 hga hA b1
  go_wp2_with fail
  refine (find_c B gp now P id _ P1.out (by have := PL.out; omega) HI.out fi HF.out).mono ?_; rintro e w' ⟨rfl, rfl⟩
  go_wp2_with fail
  refine (within_q d 8 _ xd (by omega) (by omega)).mono ?_; rintro e w' ⟨x, rfl, hx5, _, _, rfl⟩
  obtain rfl : x = 7 := by rw [hx5.out, HD.out]
  clear hx5
  have UPL := Lib.hid MM.out.up
  obtain ⟨D, hD⟩ : ∃ D, dueOf L now = D := ⟨_, rfl⟩
  obtain ⟨E, hE⟩ : ∃ E, leftOf L now = E := ⟨_, rfl⟩
  obtain ⟨m, hm⟩ : ∃ m, D.length = m := ⟨_, rfl⟩
  have hm300 : m ≤ 300 := by
    rw [← hm, ← hD, dueOf, List.length_map]
    exact Nat.le_trans (List.length_filter_le _ _) hn
  have hE300 : E.length ≤ L.length := by rw [← hE]; exact List.length_filter_le _ _
  have DF := Lib.hid (due_facts MM.out.up now hD hm)
  have H0 : Hid (Has (Rest L now 0) P) := Lib.hid (MM.out.has.congr fun x => (rest_zero L now x).symm)
  have HEND : Hid (∀ Pt, Has (Rest L now m) Pt → Mt E Pt ∧ ∀ x ∈ Pt, now < x.2) := Lib.hid fun Pt h => by
    have h2 : Has (· ∈ E) Pt := h.congr fun x => by rw [← hm, ← hE, ← hD]; exact rest_end L now x
    refine ⟨⟨by rw [← hE]; exact MM.out.up.sublist List.filter_sublist, h2, fun x hx => MM.out.bd x (by rw [← hE] at hx; exact (List.mem_filter.1 hx).1)⟩, fun x hx => ?_⟩
    have h3 := (h2.1 x).1 hx
    rw [← hE] at h3
    exact of_decide_eq_true (List.mem_filter.1 h3).2
  go_wp2_with fail
  refine (due_w B gc now L _ C1.out MM.out.fine (by omega) (by omega) D E hD hE m hm).mono ?_; rintro e w3 ⟨a, c, rfl, ho, hC3, ht3⟩
  have C3 := Lib.hid hC3
  have P3 := Lib.hid (P1.out.ticked ht3)
  have B3 := Lib.hid ((B1.out.mono BW).trans ht3.b)
  have Z3 := Lib.hid ht3.b.size
  have O3 := Lib.hid ho
  obtain ⟨b1, hb1⟩ : ∃ b, b = w1.heap.size := ⟨_, rfl⟩
  rw [← hb1] at O3
  have GPB : Hid (B ≤ gp) := Lib.hid HP.out.ge
  have BW3 : Hid (B ≤ w3.heap.size) := Lib.hid (Nat.le_trans BW (Nat.le_trans B1.out.size Z3.out))
  clear hC3 ht3 ho hb1 hD hE hm a0 a1 a2
  go_wp2_with fail
  go_loopw [27] (fun i wr => ∃ k : Nat, k ≤ m ∧ i = .int .i64 k ∧ ∃ Pt, Has (Rest L now k) Pt ∧ Pt.length ≤ 300 ∧ Pn wr B gp now Pt ∧ Clk wr B gc now E ∧ wr.ownsRow b1 3 1 (.slice a m c) m (irow D) ∧ Below B w wr ∧ B ≤ wr.heap.size) (fun i _ => m - (intOf i).toNat)
  case atStart => exact ⟨0, by omega, rfl, P, H0.out, PL.out, P3.out, C3.out, O3.out, B3.out, BW3.out⟩
  case round =>
    obtain ⟨k, hk, rfl, Pt, hHas, hPt, hPn, hClk, hO, hB, hBz⟩ := hrel
    have HAS := Lib.hid hHas
    have PN := Lib.hid hPn
    have CK := Lib.hid hClk
    have OO := Lib.hid hO
    have BB := Lib.hid hB
    by_cases hlt : k < m
    · have kd : k < D.length := by have := DF.out.len; omega
      obtain ⟨b, off, rfl, hbl, hcell⟩ := (own_vrow hO).2 (by omega)
      have c0 : wr.cell? ⟨b, off + k, none⟩ = some (.int .i64 (D.getD k 0)) := hcell k _ (irow_get D k kd)
      obtain ⟨i, hfi⟩ := find_ex Pt (D.getD k 0)
      obtain ⟨j, hj, rfl, e1, e2, hnext⟩ := due_at UPL.out DF.out hlt hHas hfi
      have HFI := Lib.hid hfi
      have NEXT := Lib.hid hnext
      obtain ⟨aP, cP, aQ, cQ, kP, rP, rQ⟩ := hPn.ex
      have p0 : wr.cell? ⟨gp, 0, none⟩ = some (.int .i64 now) := kP.cell 0
      have p2 : wr.cell? ⟨gp, 2, none⟩ = some (.slice aQ Pt.length cQ) := kP.cell 2
      obtain ⟨b2, o2, rfl, hb2, hc2⟩ := (own_vrow rQ).2 (by omega)
      have c2 : wr.cell? ⟨b2, o2 + j, none⟩ = some (.int .i64 Pt[j].2) := hc2 j _ (by simp [ats, hj])
      have PREV := Lib.hid (show ∀ j', k = j' + 1 → ∃ y, y < D.getD k 0 ∧ wr.cell? ⟨b, off + j', none⟩ = some (.int .i64 y) from fun j' hj' => by
        subst hj'
        exact ⟨D.getD j' 0, DF.out.lt j' hlt, hcell j' _ (irow_get D j' (by omega))⟩)
      have FV : Hid (I64 (D.getD k 0)) := Lib.hid (by
        obtain ⟨y, hy, h1, _⟩ := DF.out.has k hlt
        rw [← h1]
        exact (MM.out.bd y hy).1)
      obtain ⟨v, hv⟩ : ∃ v, v = Pt[j].2 := ⟨_, rfl⟩
      rw [← hv] at c2 e2
      obtain ⟨x, hx⟩ : ∃ x, x = D.getD k 0 := ⟨_, rfl⟩
      rw [← hx] at c0 HFI PREV FV
      obtain ⟨pl, hpl⟩ : ∃ pl, pl = Pt.length := ⟨_, rfl⟩
      rw [← hpl] at p2
      have j0 : (0 : Int) ≤ j := by omega
      have j1 : (j : Int) < pl := by omega
      have i0 : (0 : Int) ≤ k := by omega
      have i1 : (k : Int) < m := by omega
      have hJ : Hid (j < Pt.length) := Lib.hid hj
      clear hHas hPn hClk hO hB hcell hfi e1 hnext kP rP rQ hc2 hv hx hpl hj
      go_wp2_with fail
      refine (find_c B gp now Pt x _ PN.out (by omega) FV.out j HFI.out).mono ?_; rintro e w' ⟨rfl, rfl⟩
      have g0 : decide ((j : Int) < 0) = false := decide_eq_false (by omega)
      have g1 : decide (now < v) = false := decide_eq_false (by omega)
      obtain ⟨j', hj'⟩ : ∃ j', k = 0 ∨ k = j' + 1 := ⟨k - 1, by omega⟩
      rcases hj' with hj' | hj'
      case' inl =>
        have g3 : decide ((0 : Int) < k) = false := decide_eq_false (by omega)
        have g3' : decide (0 < k) = false := decide_eq_false (by omega)
        clear hj' PREV
      case' inr =>
        obtain ⟨y, hd1, c3⟩ := PREV.out j' hj'
        have g3 : decide ((0 : Int) < k) = true := decide_eq_true (by omega)
        have g3' : decide (0 < k) = true := decide_eq_true (by omega)
        have g4 : decide (x ≤ y) = false := decide_eq_false (by omega)
        have i6 : (0 : Int) ≤ j' := by omega
        have i7 : (j' : Int) < m := by omega
        have e2' : IntKind.i64.wrap ((k : Int) - 1) = (j' : Int) := by rw [IntWalk.i64_in _ (by omega)]; omega
        clear hj' PREV hd1
      all_goals
        go_wp2_with fail
        go_quiet (fail)
        have PN' := Lib.hid (PN.out.drewN nq)
        have CK' := Lib.hid (CK.out.drewN nq)
        have OO' := Lib.hid (own_only OO.out ((Only.refl [] wr).drewN nq) (by simp))
        have BB' := Lib.hid (below_drewN BB.out nq)
        have BZ' : Hid (B ≤ (wr.drewN nq).heap.size) := Lib.hid hBz
        obtain ⟨w5, hw5⟩ : ∃ w5, w5 = wr.drewN nq := ⟨_, rfl⟩
        rw [← hw5] at PN' CK' OO' BB' BZ' ⊢
        clear hw5
        go_wp2_with fail
        refine (pdrop_c B gp now Pt j _ PN'.out (by omega) hJ.out).mono ?_; rintro e w4 ⟨rfl, hP4, ho4⟩
        have P4 := Lib.hid hP4
        have C4 := Lib.hid (CK'.out.only ho4 PN'.out.typ)
        have B4 := Lib.hid (ho4.below BB'.out BZ'.out (by simp; exact GPB.out))
        have O4 := Lib.hid (own_only OO'.out ho4 (fun g hg hm => by
          obtain ⟨_, _, _, _, hk1, _, _⟩ := PN'.out.ex
          simp only [List.mem_singleton] at hm
          exact own_blk_ne OO'.out hk1 (by decide) (by rw [hg, hm])))
        have Z4 := Lib.hid (Nat.le_trans BZ'.out ho4.size)
        clear hP4 ho4
        go_wp2_with fail
        go_roundw
        case rel => exact ⟨k + 1, by omega, by go_num, _, NEXT.out, by rw [List.length_append, List.length_take, List.length_drop]; have := hJ.out; omega, P4.out, C4.out, O4.out, B4.out, Z4.out⟩
        case measure => simp [intOf]; omega
    · have hkm : k = m := by omega
      subst hkm
      obtain ⟨hmt, hgt⟩ := HEND.out Pt hHas
      have MT := Lib.hid hmt
      have GT := Lib.hid hgt
      obtain ⟨aP, cP, aQ, cQ, kP, rP, rQ⟩ := hPn.ex
      have p0 : wr.cell? ⟨gp, 0, none⟩ = some (.int .i64 now) := kP.cell 0
      have p2 : wr.cell? ⟨gp, 2, none⟩ = some (.slice aQ Pt.length cQ) := kP.cell 2
      have VQ := Lib.hid (own_vrow rQ)
      obtain ⟨pl, hpl⟩ : ∃ pl, pl = Pt.length := ⟨_, rfl⟩
      rw [← hpl] at p2 VQ hPt
      have PLE := Lib.hid hpl
      obtain ⟨w6, hw6⟩ : ∃ w6, w6 = wr := ⟨_, rfl⟩
      rw [← hw6] at p0 p2 VQ PN CK BB ⊢
      clear hw6 hHas hPn hClk hO hB kP rP rQ hmt hgt hpl OO HAS hBz
      go_wp2_with fail
      go_loopw [7, 77] (fun o i wr => o = .bool true ∧ ∃ k : Nat, k ≤ pl ∧ i = .int .i64 k ∧ ∃ nn, wr = w6.drewN nn) (fun _ i _ => pl - (intOf i).toNat)
      case atStart => exact ⟨rfl, 0, by omega, rfl, 0, rfl⟩
      case round =>
        obtain ⟨rfl, q, hq, rfl, nn, rfl⟩ := hrel
        by_cases hqlt : q < pl
        · obtain ⟨b2, o2, rfl, hb2, hc2⟩ := VQ.out.2 (by omega)
          have hqP : q < Pt.length := by have := PLE.out; omega
          have c2 : (w6.drewN nn).cell? ⟨b2, o2 + q, none⟩ = some (.int .i64 Pt[q].2) := hc2 q _ (by simp [ats, hqP])
          have p0' : (w6.drewN nn).cell? ⟨gp, 0, none⟩ = some (.int .i64 now) := p0
          have p2' : (w6.drewN nn).cell? ⟨gp, 2, none⟩ = some (.slice (some ⟨b2, o2, none⟩) pl cQ) := p2
          have hgq := GT.out _ (List.getElem_mem hqP)
          obtain ⟨v, hv⟩ : ∃ v, v = Pt[q].2 := ⟨_, rfl⟩
          rw [← hv] at c2 hgq
          have g1 : decide (now < v) = true := decide_eq_true hgq
          have i2 : (0 : Int) ≤ q := by omega
          have i3 : (q : Int) < pl := by omega
          obtain ⟨w7, hw7⟩ : ∃ w7, w7 = w6.drewN nn := ⟨_, rfl⟩
          rw [← hw7] at c2 p0' p2' ⊢
          have HW7 := Lib.hid hw7
          clear hw7 hc2 hv hgq
          go_wp2_with fail
          go_quiet (fail)
          go_wp2_with fail
          go_roundw
          case rel => exact ⟨rfl, q + 1, by omega, by go_num, nn + nq, by rw [HW7.out, drewN_add]⟩
          case measure => simp [intOf]; omega
        · have C3' := Lib.hid (CK.out.drewN nn)
          have P3' := Lib.hid (PN.out.drewN nn)
          have B3' := Lib.hid (below_drewN BB.out nn)
          obtain ⟨w7, hw7⟩ : ∃ w7, w7 = w6.drewN nn := ⟨_, rfl⟩
          rw [← hw7] at C3' P3' B3' ⊢
          clear hw7 p0 p2
          obtain ⟨aT, cT, aT2, cT2, kT, _, _⟩ := P3'.out.ex
          have g0 : World.cell? _ ⟨gp, 0, none⟩ = some (.int .i64 (now)) := kT.cell 0
          clear kT
          go_upto_region 38 with fail
          go_quiet ((go_at_call 34; exact Calls.quiet_of_same ((now_c B gc (now) (E) _ (C3'.out.drewN _)).mono fun _ _ e => ⟨e.1, e.2.symm⟩)))
          go_wp2_with fail
          all_goals go_ret
          all_goals exact ⟨rfl, now, E, Pt, C3'.out.drewN _, P3'.out.drewN _, MT.out, by omega, by omega, by omega, below_drewN B3'.out _⟩

end Go.Proofs.Ytfeepofdnjnkpaa
