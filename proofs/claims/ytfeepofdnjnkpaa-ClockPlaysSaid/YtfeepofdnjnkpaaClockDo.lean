/- The law's act on a clock and on the plain one: ticks, drops, what is left, what may not be set. -/
import Derived.Test.YtfeepofdnjnkpaaClockM
import Derived.Test.YtfeepofdnjnkpaaKeep
import Derived.Deep.CutRange
import Derived.Deep.DeepCutAuto
import Derived.Deep.CutBlock
namespace Go.Proofs.Ytfeepofdnjnkpaa
open Go.RowKit
set_option linter.unusedVariables false

/-- What an act leaves. -/
def DoPost (B gc gp : Nat) (now : Int) (n : Nat) (w : World) : Ending → World → Prop := fun e w' =>
  e = .returned (.bool true) ∧ ∃ now' L' P', Clk w' B gc now' L' ∧ Pn w' B gp now' P' ∧ Mt L' P' ∧ now ≤ now' ∧ now' ≤ now + 1 ∧ L'.length ≤ n + 1 ∧ Below B w w'
theorem Pn.tick {w : World} {B gp : Nat} {now : Int} {P : List (Int × Int)} (h : Pn w B gp now P) (m : Int) : Pn (w.setCell ⟨gp, 0, none⟩ (.int .i64 m)) B gp m P := by
  obtain ⟨a, c, a', c', h1, h2, h3⟩ := h.ex
  exact ⟨⟨a, c, a', c', h1.set_ 0 _, ownsRow_setCell_other h2 (own_blk_ne h2 h1 (by decide)) _, ownsRow_setCell_other h3 (own_blk_ne h3 h1 (by decide)) _⟩, h.ge⟩
theorem Pn.typ {w : World} {B gp : Nat} {now : Int} {P : List (Int × Int)} (h : Pn w B gp now P) : ∀ k ∈ [gp], ∀ cs t, Blk w k t cs → t ≠ 79 ∧ t ≠ 81 := by
  obtain ⟨a, c, a', c', h1, h2, h3⟩ := h.ex
  intro k hk cs t hb
  simp only [List.mem_singleton] at hk
  subst hk
  refine ⟨fun e => ?_, fun e => ?_⟩
  · subst e; exact Blk.ne_ h1 hb (by decide) rfl
  · subst e; exact Blk.ne_ h1 hb (by decide) rfl

set_option maxRecDepth 100000 in
set_option maxHeartbeats 3200000 in
theorem do_tick0 (B gc gp : Nat) (now : Int) (L P : List (Int × Int)) (d id t : Int) (w : World) (hC : Clk w B gc now L) (hP : Pn w B gp now P) (M : Mt L P) (hnow : 0 ≤ now ∧ now ≤ 300) (hn : L.length ≤ 300) (xd : I64 d) (hi : I64 id) (xt : I64 t) (hd : d % 8 = 0) :
    Calls Try.prog 38 #[.pointer (some ⟨gc, 0, none⟩), .pointer (some ⟨gp, 0, none⟩), .agg #[.int .i64 d, .int .i64 id, .int .i64 t]] w (DoPost B gc gp now L.length w) := by
  obtain ⟨fi, hfi⟩ := find_ex P id
  have HC := Lib.hid hC
  have HP := Lib.hid hP
  have MM := Lib.hid M
  have HD := Lib.hid hd
  have HI := Lib.hid hi
  have HF := Lib.hid hfi
  have PL := Lib.hid (show P.length ≤ 300 by rw [M.len]; exact hn)
  have GPL := Lib.hid hP.lt
  have BW : B ≤ w.heap.size := Nat.le_trans hC.ge (Nat.le_of_lt hC.lt)
  clear hC hP M hd hi hfi
  go_enter Try.func38, Try.ntmps38
  go_upto_region 2 with fail
  obtain ⟨w1, hw1⟩ : ∃ w1, w1 = w.alloc (.cells #[.int .i64 d, .int .i64 id, .int .i64 t] 73) := ⟨_, rfl⟩
  obtain ⟨ga, hga⟩ : ∃ ga, ga = w.heap.size := ⟨_, rfl⟩
  rw [← hw1, ← hga]
  have hA : Blk w1 ga 73 #[.int .i64 d, .int .i64 id, .int .i64 t] := by rw [hw1, hga]; exact Blk.new _ _ _
  have b1 : Below w.heap.size w w1 := by rw [hw1]; exact (Below.refl _ _).alloc (Nat.le_refl _) _
  have A1 := Lib.hid hA
  have B1 := Lib.hid b1
  have C1 := Lib.hid (HC.out.below b1)
  have P1 := Lib.hid (HP.out.below b1)
  have a0 : w1.cell? ⟨ga, 0, none⟩ = some (.int .i64 d) := hA.cell 0
  have a1 : w1.cell? ⟨ga, 1, none⟩ = some (.int .i64 id) := hA.cell 1
  have a2 : w1.cell? ⟨ga, 2, none⟩ = some (.int .i64 t) := hA.cell 2
  have GA : Hid (w.heap.size ≤ ga) := Lib.hid (Nat.le_of_eq hga.symm)
  clear hw1 hga hA b1
  go_wp2_with fail
  refine (find_c B gp now P id _ P1.out (by have := PL.out; omega) HI.out fi HF.out).mono ?_; rintro e w' ⟨rfl, rfl⟩
  go_wp2_with fail
  refine (within_q d 8 _ xd (by omega) (by omega)).mono ?_; rintro e w' ⟨x, rfl, hx5, _, _, rfl⟩
  obtain rfl : x = 0 := by rw [hx5.out, HD.out]
  clear hx5
  obtain ⟨aP, cP, aQ, cQ, kP, _, _⟩ := P1.out.ex
  have g0 : w1.cell? ⟨gp, 0, none⟩ = some (.int .i64 now) := kP.cell 0
  have f0 := kP.frozen 0
  have e9 : IntKind.i64.wrap (now + 1) = now + 1 := IntWalk.i64_in _ (by omega)
  clear kP
  go_wp2_with fail
  obtain ⟨w2, hw2⟩ : ∃ w2, w2 = w1.setCell ⟨gp, 0, none⟩ (.int .i64 (now + 1)) := ⟨_, rfl⟩
  rw [← hw2]
  have o2 : Only [gp] w1 w2 := by rw [hw2]; exact (Only.refl _ _).setCell (.inl (by simp)) _
  have P2 := Lib.hid (show Pn w2 B gp (now + 1) P by rw [hw2]; exact P1.out.tick _)
  have C2 := Lib.hid (C1.out.only o2 P1.out.typ)
  have B2 := Lib.hid (o2.below (B1.out.mono BW) (Nat.le_trans BW B1.out.size) (by simp; exact HP.out.ge))
  clear hw2 o2 g0 f0 a0 a1 a2
  refine (tick_c B gc now L _ C2.out hnow.1 (by omega)).mono ?_; rintro e w3 ⟨rfl, hC3, ht3⟩
  have C3 := Lib.hid hC3
  have P3 := Lib.hid (P2.out.ticked ht3)
  have B3 := Lib.hid (B2.out.trans ht3.b)
  clear hC3 ht3
  obtain ⟨aT, cT, aT2, cT2, kT, _, _⟩ := P3.out.ex
  have g0 : World.cell? _ ⟨gp, 0, none⟩ = some (.int .i64 (now + 1)) := kT.cell 0
  clear kT
  go_upto_region 38 with fail
  go_quiet ((go_at_call 34; exact Calls.quiet_of_same ((now_c B gc (now + 1) (L) _ (C3.out.drewN _)).mono fun _ _ e => ⟨e.1, e.2.symm⟩)))
  go_wp2_with fail
  all_goals go_ret
  all_goals exact ⟨rfl, now + 1, L, P, C3.out.drewN _, P3.out.drewN _, MM.out, by omega, by omega, by omega, below_drewN B3.out _⟩

set_option maxRecDepth 100000 in
set_option maxHeartbeats 3200000 in
theorem do_tick1 (B gc gp : Nat) (now : Int) (L P : List (Int × Int)) (d id t : Int) (w : World) (hC : Clk w B gc now L) (hP : Pn w B gp now P) (M : Mt L P) (hnow : 0 ≤ now ∧ now ≤ 300) (hn : L.length ≤ 300) (xd : I64 d) (hi : I64 id) (xt : I64 t) (hd : d % 8 = 1) :
    Calls Try.prog 38 #[.pointer (some ⟨gc, 0, none⟩), .pointer (some ⟨gp, 0, none⟩), .agg #[.int .i64 d, .int .i64 id, .int .i64 t]] w (DoPost B gc gp now L.length w) := by
  obtain ⟨fi, hfi⟩ := find_ex P id
  have HC := Lib.hid hC
  have HP := Lib.hid hP
  have MM := Lib.hid M
  have HD := Lib.hid hd
  have HI := Lib.hid hi
  have HF := Lib.hid hfi
  have PL := Lib.hid (show P.length ≤ 300 by rw [M.len]; exact hn)
  have GPL := Lib.hid hP.lt
  have BW : B ≤ w.heap.size := Nat.le_trans hC.ge (Nat.le_of_lt hC.lt)
  clear hC hP M hd hi hfi
  go_enter Try.func38, Try.ntmps38
  go_upto_region 2 with fail
  obtain ⟨w1, hw1⟩ : ∃ w1, w1 = w.alloc (.cells #[.int .i64 d, .int .i64 id, .int .i64 t] 73) := ⟨_, rfl⟩
  obtain ⟨ga, hga⟩ : ∃ ga, ga = w.heap.size := ⟨_, rfl⟩
  rw [← hw1, ← hga]
  have hA : Blk w1 ga 73 #[.int .i64 d, .int .i64 id, .int .i64 t] := by rw [hw1, hga]; exact Blk.new _ _ _
  have b1 : Below w.heap.size w w1 := by rw [hw1]; exact (Below.refl _ _).alloc (Nat.le_refl _) _
  have A1 := Lib.hid hA
  have B1 := Lib.hid b1
  have C1 := Lib.hid (HC.out.below b1)
  have P1 := Lib.hid (HP.out.below b1)
  have a0 : w1.cell? ⟨ga, 0, none⟩ = some (.int .i64 d) := hA.cell 0
  have a1 : w1.cell? ⟨ga, 1, none⟩ = some (.int .i64 id) := hA.cell 1
  have a2 : w1.cell? ⟨ga, 2, none⟩ = some (.int .i64 t) := hA.cell 2
  have GA : Hid (w.heap.size ≤ ga) := Lib.hid (Nat.le_of_eq hga.symm)
  clear hw1 hga hA b1
  go_wp2_with fail
  refine (find_c B gp now P id _ P1.out (by have := PL.out; omega) HI.out fi HF.out).mono ?_; rintro e w' ⟨rfl, rfl⟩
  go_wp2_with fail
  refine (within_q d 8 _ xd (by omega) (by omega)).mono ?_; rintro e w' ⟨x, rfl, hx5, _, _, rfl⟩
  obtain rfl : x = 1 := by rw [hx5.out, HD.out]
  clear hx5
  obtain ⟨aP, cP, aQ, cQ, kP, _, _⟩ := P1.out.ex
  have g0 : w1.cell? ⟨gp, 0, none⟩ = some (.int .i64 now) := kP.cell 0
  have f0 := kP.frozen 0
  have e9 : IntKind.i64.wrap (now + 1) = now + 1 := IntWalk.i64_in _ (by omega)
  clear kP
  go_wp2_with fail
  obtain ⟨w2, hw2⟩ : ∃ w2, w2 = w1.setCell ⟨gp, 0, none⟩ (.int .i64 (now + 1)) := ⟨_, rfl⟩
  rw [← hw2]
  have o2 : Only [gp] w1 w2 := by rw [hw2]; exact (Only.refl _ _).setCell (.inl (by simp)) _
  have P2 := Lib.hid (show Pn w2 B gp (now + 1) P by rw [hw2]; exact P1.out.tick _)
  have C2 := Lib.hid (C1.out.only o2 P1.out.typ)
  have B2 := Lib.hid (o2.below (B1.out.mono BW) (Nat.le_trans BW B1.out.size) (by simp; exact HP.out.ge))
  clear hw2 o2 g0 f0 a0 a1 a2
  refine (tick_c B gc now L _ C2.out hnow.1 (by omega)).mono ?_; rintro e w3 ⟨rfl, hC3, ht3⟩
  have C3 := Lib.hid hC3
  have P3 := Lib.hid (P2.out.ticked ht3)
  have B3 := Lib.hid (B2.out.trans ht3.b)
  clear hC3 ht3
  obtain ⟨aT, cT, aT2, cT2, kT, _, _⟩ := P3.out.ex
  have g0 : World.cell? _ ⟨gp, 0, none⟩ = some (.int .i64 (now + 1)) := kT.cell 0
  clear kT
  go_upto_region 38 with fail
  go_quiet ((go_at_call 34; exact Calls.quiet_of_same ((now_c B gc (now + 1) (L) _ (C3.out.drewN _)).mono fun _ _ e => ⟨e.1, e.2.symm⟩)))
  go_wp2_with fail
  all_goals go_ret
  all_goals exact ⟨rfl, now + 1, L, P, C3.out.drewN _, P3.out.drewN _, MM.out, by omega, by omega, by omega, below_drewN B3.out _⟩

set_option maxRecDepth 100000 in
set_option maxHeartbeats 3200000 in
theorem do_tick2 (B gc gp : Nat) (now : Int) (L P : List (Int × Int)) (d id t : Int) (w : World) (hC : Clk w B gc now L) (hP : Pn w B gp now P) (M : Mt L P) (hnow : 0 ≤ now ∧ now ≤ 300) (hn : L.length ≤ 300) (xd : I64 d) (hi : I64 id) (xt : I64 t) (hd : d % 8 = 2) :
    Calls Try.prog 38 #[.pointer (some ⟨gc, 0, none⟩), .pointer (some ⟨gp, 0, none⟩), .agg #[.int .i64 d, .int .i64 id, .int .i64 t]] w (DoPost B gc gp now L.length w) := by
  obtain ⟨fi, hfi⟩ := find_ex P id
  have HC := Lib.hid hC
  have HP := Lib.hid hP
  have MM := Lib.hid M
  have HD := Lib.hid hd
  have HI := Lib.hid hi
  have HF := Lib.hid hfi
  have PL := Lib.hid (show P.length ≤ 300 by rw [M.len]; exact hn)
  have GPL := Lib.hid hP.lt
  have BW : B ≤ w.heap.size := Nat.le_trans hC.ge (Nat.le_of_lt hC.lt)
  clear hC hP M hd hi hfi
  go_enter Try.func38, Try.ntmps38
  go_upto_region 2 with fail
  obtain ⟨w1, hw1⟩ : ∃ w1, w1 = w.alloc (.cells #[.int .i64 d, .int .i64 id, .int .i64 t] 73) := ⟨_, rfl⟩
  obtain ⟨ga, hga⟩ : ∃ ga, ga = w.heap.size := ⟨_, rfl⟩
  rw [← hw1, ← hga]
  have hA : Blk w1 ga 73 #[.int .i64 d, .int .i64 id, .int .i64 t] := by rw [hw1, hga]; exact Blk.new _ _ _
  have b1 : Below w.heap.size w w1 := by rw [hw1]; exact (Below.refl _ _).alloc (Nat.le_refl _) _
  have A1 := Lib.hid hA
  have B1 := Lib.hid b1
  have C1 := Lib.hid (HC.out.below b1)
  have P1 := Lib.hid (HP.out.below b1)
  have a0 : w1.cell? ⟨ga, 0, none⟩ = some (.int .i64 d) := hA.cell 0
  have a1 : w1.cell? ⟨ga, 1, none⟩ = some (.int .i64 id) := hA.cell 1
  have a2 : w1.cell? ⟨ga, 2, none⟩ = some (.int .i64 t) := hA.cell 2
  have GA : Hid (w.heap.size ≤ ga) := Lib.hid (Nat.le_of_eq hga.symm)
  clear hw1 hga hA b1
  go_wp2_with fail
  refine (find_c B gp now P id _ P1.out (by have := PL.out; omega) HI.out fi HF.out).mono ?_; rintro e w' ⟨rfl, rfl⟩
  go_wp2_with fail
  refine (within_q d 8 _ xd (by omega) (by omega)).mono ?_; rintro e w' ⟨x, rfl, hx5, _, _, rfl⟩
  obtain rfl : x = 2 := by rw [hx5.out, HD.out]
  clear hx5
  obtain ⟨aP, cP, aQ, cQ, kP, _, _⟩ := P1.out.ex
  have g0 : w1.cell? ⟨gp, 0, none⟩ = some (.int .i64 now) := kP.cell 0
  have f0 := kP.frozen 0
  have e9 : IntKind.i64.wrap (now + 1) = now + 1 := IntWalk.i64_in _ (by omega)
  clear kP
  go_wp2_with fail
  obtain ⟨w2, hw2⟩ : ∃ w2, w2 = w1.setCell ⟨gp, 0, none⟩ (.int .i64 (now + 1)) := ⟨_, rfl⟩
  rw [← hw2]
  have o2 : Only [gp] w1 w2 := by rw [hw2]; exact (Only.refl _ _).setCell (.inl (by simp)) _
  have P2 := Lib.hid (show Pn w2 B gp (now + 1) P by rw [hw2]; exact P1.out.tick _)
  have C2 := Lib.hid (C1.out.only o2 P1.out.typ)
  have B2 := Lib.hid (o2.below (B1.out.mono BW) (Nat.le_trans BW B1.out.size) (by simp; exact HP.out.ge))
  clear hw2 o2 g0 f0 a0 a1 a2
  refine (tick_c B gc now L _ C2.out hnow.1 (by omega)).mono ?_; rintro e w3 ⟨rfl, hC3, ht3⟩
  have C3 := Lib.hid hC3
  have P3 := Lib.hid (P2.out.ticked ht3)
  have B3 := Lib.hid (B2.out.trans ht3.b)
  clear hC3 ht3
  obtain ⟨aT, cT, aT2, cT2, kT, _, _⟩ := P3.out.ex
  have g0 : World.cell? _ ⟨gp, 0, none⟩ = some (.int .i64 (now + 1)) := kT.cell 0
  clear kT
  go_upto_region 38 with fail
  go_quiet ((go_at_call 34; exact Calls.quiet_of_same ((now_c B gc (now + 1) (L) _ (C3.out.drewN _)).mono fun _ _ e => ⟨e.1, e.2.symm⟩)))
  go_wp2_with fail
  all_goals go_ret
  all_goals exact ⟨rfl, now + 1, L, P, C3.out.drewN _, P3.out.drewN _, MM.out, by omega, by omega, by omega, below_drewN B3.out _⟩

set_option maxRecDepth 100000 in
set_option maxHeartbeats 3200000 in
theorem do_drop (B gc gp : Nat) (now : Int) (L P : List (Int × Int)) (d id t : Int) (w : World) (hC : Clk w B gc now L) (hP : Pn w B gp now P) (M : Mt L P) (hnow : 0 ≤ now ∧ now ≤ 300) (hn : L.length ≤ 300) (xd : I64 d) (hi : I64 id) (xt : I64 t) (hd : d % 8 = 5) :
    Calls Try.prog 38 #[.pointer (some ⟨gc, 0, none⟩), .pointer (some ⟨gp, 0, none⟩), .agg #[.int .i64 d, .int .i64 id, .int .i64 t]] w (DoPost B gc gp now L.length w) := by
  obtain ⟨k, is, hpl⟩ := place_ex L id
  have PLC := Lib.hid hpl
  clear hpl
  obtain ⟨fi, hfi⟩ := find_ex P id
  have HC := Lib.hid hC
  have HP := Lib.hid hP
  have MM := Lib.hid M
  have HD := Lib.hid hd
  have HI := Lib.hid hi
  have HF := Lib.hid hfi
  have PL := Lib.hid (show P.length ≤ 300 by rw [M.len]; exact hn)
  have GPL := Lib.hid hP.lt
  have BW : B ≤ w.heap.size := Nat.le_trans hC.ge (Nat.le_of_lt hC.lt)
  clear hC hP M hd hi hfi
  go_enter Try.func38, Try.ntmps38
  go_upto_region 2 with fail
  obtain ⟨w1, hw1⟩ : ∃ w1, w1 = w.alloc (.cells #[.int .i64 d, .int .i64 id, .int .i64 t] 73) := ⟨_, rfl⟩
  obtain ⟨ga, hga⟩ : ∃ ga, ga = w.heap.size := ⟨_, rfl⟩
  rw [← hw1, ← hga]
  have hA : Blk w1 ga 73 #[.int .i64 d, .int .i64 id, .int .i64 t] := by rw [hw1, hga]; exact Blk.new _ _ _
  have b1 : Below w.heap.size w w1 := by rw [hw1]; exact (Below.refl _ _).alloc (Nat.le_refl _) _
  have A1 := Lib.hid hA
  have B1 := Lib.hid b1
  have C1 := Lib.hid (HC.out.below b1)
  have P1 := Lib.hid (HP.out.below b1)
  have a0 : w1.cell? ⟨ga, 0, none⟩ = some (.int .i64 d) := hA.cell 0
  have a1 : w1.cell? ⟨ga, 1, none⟩ = some (.int .i64 id) := hA.cell 1
  have a2 : w1.cell? ⟨ga, 2, none⟩ = some (.int .i64 t) := hA.cell 2
  have GA : Hid (w.heap.size ≤ ga) := Lib.hid (Nat.le_of_eq hga.symm)
  clear hw1 hga hA b1
  go_wp2_with fail
  refine (find_c B gp now P id _ P1.out (by have := PL.out; omega) HI.out fi HF.out).mono ?_; rintro e w' ⟨rfl, rfl⟩
  go_wp2_with fail
  refine (within_q d 8 _ xd (by omega) (by omega)).mono ?_; rintro e w' ⟨x, rfl, hx5, _, _, rfl⟩
  obtain rfl : x = 5 := by rw [hx5.out, HD.out]
  clear hx5
  cases is with
  | false =>
    have hfi := find_not MM.out.up MM.out.has HF.out PLC.out
    subst hfi
    go_wp2_with fail
    refine (drop_out B gc now L id _ C1.out MM.out.fine (by omega) HI.out k PLC.out).mono ?_; rintro e w3 ⟨rfl, hb3⟩
    have C3 := Lib.hid (C1.out.below hb3)
    have P3 := Lib.hid (P1.out.below hb3)
    have B3 := Lib.hid ((B1.out.mono BW).trans (hb3.mono (Nat.le_trans BW B1.out.size)))
    clear hb3 a0 a1 a2
    obtain ⟨aT, cT, aT2, cT2, kT, _, _⟩ := P3.out.ex
    have g0 : World.cell? _ ⟨gp, 0, none⟩ = some (.int .i64 (now)) := kT.cell 0
    clear kT
    go_upto_region 38 with fail
    go_quiet ((go_at_call 34; exact Calls.quiet_of_same ((now_c B gc (now) (L) _ (C3.out.drewN _)).mono fun _ _ e => ⟨e.1, e.2.symm⟩)))
    go_wp2_with fail
    all_goals go_ret
    all_goals exact ⟨rfl, now, L, P, C3.out.drewN _, P3.out.drewN _, MM.out, by omega, by omega, by omega, below_drewN B3.out _⟩
  | true =>
    obtain ⟨j, hj, hk, rfl, he, he2⟩ := find_yes MM.out.up MM.out.has HF.out PLC.out
    have j0 : (0 : Int) ≤ j := by omega
    go_wp2_with fail
    refine (drop_in B gc now L id _ C1.out MM.out.fine (by omega) HI.out k PLC.out).mono ?_; rintro e w3 ⟨rfl, hC3, ht3⟩
    have C3 := Lib.hid hC3
    have P3 := Lib.hid (P1.out.ticked ht3)
    have B3 := Lib.hid ((B1.out.mono BW).trans ht3.b)
    have Z3 := Lib.hid ht3.b.size
    clear hC3 ht3 a0 a1 a2
    go_wp2_with fail
    refine (pdrop_c B gp now P j _ P3.out (by have := PL.out; omega) hj).mono ?_; rintro e w4 ⟨rfl, hP4, ho4⟩
    have P4 := Lib.hid hP4
    have C4 := Lib.hid (C3.out.only ho4 P3.out.typ)
    have B4 := Lib.hid (ho4.below B3.out (Nat.le_trans BW (Nat.le_trans B1.out.size Z3.out)) (by simp; exact HP.out.ge))
    have M4 := Lib.hid (MM.out.cut hk hj (by rw [he]))
    clear hP4 ho4 he
    obtain ⟨aT, cT, aT2, cT2, kT, _, _⟩ := P4.out.ex
    have g0 : World.cell? _ ⟨gp, 0, none⟩ = some (.int .i64 (now)) := kT.cell 0
    clear kT
    go_upto_region 38 with fail
    go_quiet ((go_at_call 34; exact Calls.quiet_of_same ((now_c B gc (now) (L.take k ++ L.drop (k + 1)) _ (C4.out.drewN _)).mono fun _ _ e => ⟨e.1, e.2.symm⟩)))
    go_wp2_with fail
    all_goals go_ret
    all_goals exact ⟨rfl, now, L.take k ++ L.drop (k + 1), P.take j ++ P.drop (j + 1), C4.out.drewN _, P4.out.drewN _, M4.out, by omega, by omega, by rw [List.length_append, List.length_take, List.length_drop]; omega, below_drewN B4.out _⟩

end Go.Proofs.Ytfeepofdnjnkpaa
