/- Package ledger: Run. -/
import Derived.Test.YtfhlcjfgbhmecaaLedger
import Derived.Test.YtfhlcjfgbhmecaaAppNo
import Derived.Deep.DeepCutAuto
import Derived.Deep.CutBlock
namespace Go.Proofs.Ytfhlcjfgbhmecaa
open Go.RowKit
set_option linter.unusedVariables false

theorem info_entry : (Try.prog.info? 38).map (fun i => (i.zero, i.size, i.bytes)) = some (some (.agg #[.int .i64 0, .int .i64 0, .int .i64 0, .int .i64 0, .int .i64 0, .int .i64 0, .int .i64 0]), 7, 56) := by kernel_rfl

theorem far7 {w : World} {q : Addr} {v : Value} {g : Nat} {a0 a1 a2 a3 a4 a5 a6 : Value} (h : w.cell? q = some v) (hne : q.block ≠ g) :
    (((((((w.setCell ⟨g, 0, none⟩ a0).setCell ⟨g, 1, none⟩ a1).setCell ⟨g, 2, none⟩ a2).setCell ⟨g, 3, none⟩ a3).setCell ⟨g, 4, none⟩ a4).setCell ⟨g, 5, none⟩ a5).setCell ⟨g, 6, none⟩ a6).cell? q = some v :=
  far_cell (far_cell (far_cell (far_cell (far_cell (far_cell (far_cell h hne) hne) hne) hne) hne) hne) hne
/-- What holds within the loop of Run. -/
structure RunAt (w wr : World) (gs gc gl : Nat) (C : Nat) (s : LSt) (a1 : Option Addr) (c1 : Nat) : Prop where
  o : wr.ownsRow w.heap.size 38 7 (.slice a1 s.1.length c1) s.1.length (s.1.flatMap ecell)
  sto : Store wr gs s.2.1
  cac : Cache wr gc gl s.2.2
  sm : Smalls s.2.1
  len : s.2.2.length = C
  only : Only [gs, gl] w wr

theorem box_cut {w wb w4 wx : World} {ge gt gd gs gc gl C : Nat} {s : LSt} {a1 : Option Addr} {c1 : Nat} {st2 : List (Bool × Int)} {cs : Array Value} (A3 : RunAt w wb gs gc gl C s a1 c1) (T3 : Blk wb gt 33 cs)
    (h3 : wb.cell? ⟨gd, 3, none⟩ = some (.pointer (some ⟨gc, 0, none⟩))) (Q : Only [gs] wb w4) (R : Only [ge] w4 wx) (hS4 : Store w4 gs st2) (hge : wb.heap.size ≤ ge) (n1 : gt ≠ gs) (n2 : gd ≠ gs) (n3 : gc ≠ gs) (n4 : gl ≠ gs) :
    w.heap.size ≤ ge ∧ Blk wx gt 33 cs ∧ wx.cell? ⟨gd, 3, none⟩ = some (.pointer (some ⟨gc, 0, none⟩)) ∧
    wx.ownsRow w.heap.size 38 7 (.slice a1 s.1.length c1) s.1.length (s.1.flatMap ecell) ∧ Store wx gs st2 ∧ Cache wx gc gl s.2.2 ∧ Only [gs, gl] w wx := by
  have zw := A3.only.size
  have tl := T3.lt
  have dl : gd < wb.heap.size := lt_of_cell' (p := ⟨gd, 3, none⟩) h3
  have sl := A3.sto.lt
  have cl := A3.cac.clt
  have ll := A3.cac.llt
  refine ⟨by omega, (T3.only Q (by simpa using n1)).only R (by simp; omega), R.cell_ (Q.cell_ h3 (by simpa using n2)) (by simp; omega), ?_, hS4.only R (by simp; omega), (A3.cac.only Q (by simpa using n3) (by simpa using n4)).only R (by simp; omega) (by simp; omega), (A3.only.then Q (by simp)).then R (by simp; omega)⟩
  have o4 := own_only A3.o Q (fun g hg => by
    have := own_blk_ne A3.o A3.sto.b (by decide)
    rw [hg] at this
    simpa using fun e => this (by rw [e]))
  exact own_only o4 R (fun g hg => by
    have := (A3.o.lt g hg).2
    simp
    omega)

set_option maxRecDepth 100000 in
set_option maxHeartbeats 6400000 in
theorem run_c (S : List Nat) (gd C : Nat) (es : List Ent) (st : List (Bool × Int)) (ct : List (Int × Int)) (a : Option Addr) (n c : Nat) (rs : List Rq) (w : World) (h : Led w S gd C es st ct) (hv : VRow w a n 6 (rs.flatMap rqc)) (hsep : 0 < n → ∀ p, a = some p → p.block ∉ S) (hl : rs.length = n) (hn : es.length + n ≤ 4096)
    (hi : ∀ r ∈ rs, RqI r) (out : List Ent) (st' : List (Bool × Int)) (ct' : List (Int × Int)) (hs : runL ([], st, ct) rs = (out, st', ct')) (m : Nat) (hm : out.length = m) :
    Calls Try.prog 18 #[.pointer (some ⟨gd, 0, none⟩), .slice a n c] w fun e w' => ∃ S' a' c', e = .returned (.slice a' m c') ∧ Led w' S' gd C (es ++ out) st' ct' ∧
      w'.ownsRow w.heap.size 38 7 (.slice a' m c') m (out.flatMap ecell) ∧ (∀ g, (Value.slice a' m c').ownBlock = some g → g ∉ S') ∧ Only S w w' ∧ (∀ k ∈ S', k ∈ S ∨ w.heap.size ≤ k) := by
  obtain ⟨i0, hi0, hz0, hz1, hz2⟩ := info_parts info_entry
  obtain ⟨gs, gc, gl, al, cl, hS, k1, k2, k3, k4⟩ := h.ex
  have c1' := h.c
  have K1 := Lib.hid k1
  have K2 := Lib.hid k2
  have K3 := Lib.hid k3
  have K4 := Lib.hid k4
  have LE := Lib.hid h.lt
  have HSS := Lib.hid hS
  have SEP := Lib.hid hsep
  have CL := Lib.hid h.len
  have SM := Lib.hid h.sm
  have C4 := c1'.2
  have C1 := c1'.1
  have e0 : w.cell? ⟨gd, 0, none⟩ = some (.int .i64 C) := k1.cell 0
  have e2 : w.cell? ⟨gd, 2, none⟩ = some (.pointer (some ⟨gs, 0, none⟩)) := k1.cell 2
  have e3 : w.cell? ⟨gd, 3, none⟩ = some (.pointer (some ⟨gc, 0, none⟩)) := k1.cell 3
  have n1 : gd ≠ gs := Blk.ne_ k1 k3.b (by decide)
  have n2 : gd ≠ gl := by obtain ⟨cp, h1, h2⟩ := k4.ex; exact (h2.ne k1 (by decide)).symm
  have n3 : gs ≠ gl := by obtain ⟨cp, h1, h2⟩ := k4.ex; exact (h2.ne k3.b (by decide)).symm
  have n4 : gc ≠ gs := by obtain ⟨cp, h1, h2⟩ := k4.ex; exact Blk.ne_ h1 k3.b (by decide)
  have n5 : gc ≠ gl := k4.ne
  have NE := Lib.hid (show gd ≠ gs ∧ gd ≠ gl ∧ gs ≠ gl ∧ gc ≠ gs ∧ gc ≠ gl from ⟨n1, n2, n3, n4, n5⟩)
  have GD := Lib.hid k1.lt
  have HV := Lib.hid hv
  have HI := Lib.hid hi
  have HS := Lib.hid hs
  have HM := Lib.hid hm
  subst hl
  have E0 := Lib.hid (show Only [gs, gl] w w from Only.refl _ _)
  clear k1 k2 k3 k4 h hS hsep c1' n1 n2 n3 n4 n5 hv hi hs hm
  go_enter Try.func18, Try.ntmps18
  go_wp2_with fail
  go_loopw [5, 11] (fun o i wr => ∃ k : Nat, k ≤ rs.length ∧ i = .int .i64 k ∧ ∃ s a1 c1, s = runL ([], st, ct) (rs.take k) ∧ o = .slice a1 s.1.length c1 ∧ RunAt w wr gs gc gl C s a1 c1) (fun _ i _ => rs.length - (intOf i).toNat)
  case atStart =>
    exact ⟨0, by omega, rfl, ([], st, ct), none, 0, rfl, rfl, ⟨by simp, .inl ⟨rfl, rfl⟩⟩, K3.out, K4.out, SM.out, CL.out, E0.out⟩
  case round =>
    obtain ⟨k, hk, rfl, s, a1, c1, hsk, rfl, hA⟩ := hrel
    have A := Lib.hid hA
    have SK := Lib.hid hsk
    have dl : s.1.length ≤ k := by
      have := (runL_inv (s := ([], st, ct)) SM.out (rs.take k)).2.2
      rw [← hsk, List.length_take] at this
      simp only [List.length_nil] at this
      omega
    have zr := hA.only.size
    have f0 := hA.only.cell_ e0 (by have := NE.out; simp; omega)
    have f2 := hA.only.cell_ e2 (by have := NE.out; simp; omega)
    have f3 := hA.only.cell_ e3 (by have := NE.out; simp; omega)
    by_cases hkl : k < rs.length
    · obtain ⟨b, off, rfl, hbl, hcell⟩ := HV.out.2 (by omega)
      have hbS := SEP.out (by omega) _ rfl
      rw [HSS.out] at hbS
      simp only [List.mem_cons, not_or] at hbS
      have bs := Lib.hid (show b ≠ gs ∧ b ≠ gl from ⟨hbS.2.1, hbS.2.2.2.1⟩)
      have cw : ∀ j v, j < 6 → (rqc rs[k])[j]? = some v → wr.cell? ⟨b, off + k * 6 + j, none⟩ = some v := fun j v hj hv => by
        refine hA.only.cell_ ?_ (by have := bs.out; simp; omega)
        rw [Nat.add_assoc]
        exact hcell _ _ (flat_get' rqc 6 rqc_len rs k j hj hkl v hv)
      obtain ⟨r, hr⟩ : ∃ r, r = rs[k] := ⟨_, rfl⟩
      have hri := HI.out _ (List.getElem_mem hkl)
      have hstep := runL_take ([], st, ct) rs k hkl
      rw [← hr] at cw hri hstep
      rw [← hsk] at hstep
      obtain ⟨r0, r1, r2, r3, r4, r5⟩ := r
      have q0 : wr.cell? ⟨b, off + k * 6, none⟩ = some (.int .i64 r0) := cw 0 _ (by omega) rfl
      have q1 : wr.cell? ⟨b, off + k * 6 + 1, none⟩ = some (.int .i64 r1) := cw 1 _ (by omega) rfl
      have q2 : wr.cell? ⟨b, off + k * 6 + 2, none⟩ = some (.int .i64 r2) := cw 2 _ (by omega) rfl
      have q3 : wr.cell? ⟨b, off + k * 6 + 3, none⟩ = some (.int .i64 r3) := cw 3 _ (by omega) rfl
      have q4 : wr.cell? ⟨b, off + k * 6 + 4, none⟩ = some (.int .i64 r4) := cw 4 _ (by omega) rfl
      have q5 : wr.cell? ⟨b, off + k * 6 + 5, none⟩ = some (.int .i64 r5) := cw 5 _ (by omega) rfl
      obtain ⟨x0, x1, x2, x3, x4, x5⟩ := hri
      simp only at x0 x1 x2 x3 x4 x5
      have ST := Lib.hid hstep
      have i1 : (0 : Int) ≤ k := by omega
      have i2 : (k : Int) < rs.length := by omega
      clear hcell hbS cw hr hstep hsk hA
      go_wp2_with fail
      obtain ⟨gt, hgt⟩ : ∃ gt, gt = wr.heap.size := ⟨_, rfl⟩
      obtain ⟨wa, hwa⟩ : ∃ wa, wa = wr.alloc (.cells #[.int .i64 r0, .int .i64 r1, .int .i64 r2, .int .i64 r3, .int .i64 r4, .int .i64 r5] 33) := ⟨_, rfl⟩
      rw [← hwa, ← hgt]
      have T := Lib.hid (show Blk wa gt 33 #[.int .i64 r0, .int .i64 r1, .int .i64 r2, .int .i64 r3, .int .i64 r4, .int .i64 r5] by rw [hwa, hgt]; exact Blk.new _ _ _)
      have B2 := Lib.hid (show Below wr.heap.size wr wa by rw [hwa]; exact (Below.refl _ _).alloc (Nat.le_refl _) _)
      have A2 := Lib.hid (show RunAt w wa gs gc gl C s a1 c1 from ⟨own_below A.out.o B2.out, A.out.sto.below B2.out, A.out.cac.below B2.out, A.out.sm, A.out.len, A.out.only.belows B2.out⟩)
      have GT := Lib.hid (show w.heap.size ≤ gt ∧ gt < wa.heap.size from ⟨by rw [hgt]; exact zr, T.out.lt⟩)
      have g0 : wa.cell? ⟨gd, 0, none⟩ = some (.int .i64 C) := kept B2.out _ _ f0
      have g2 : wa.cell? ⟨gd, 2, none⟩ = some (.pointer (some ⟨gs, 0, none⟩)) := kept B2.out _ _ f2
      have g3 : wa.cell? ⟨gd, 3, none⟩ = some (.pointer (some ⟨gc, 0, none⟩)) := kept B2.out _ _ f3
      clear hwa hgt f0 f2 f3 q0 q1 q2 q3 q4 q5 A
      have t0 : wa.cell? ⟨gt, 0, none⟩ = some (.int .i64 r0) := T.out.cell 0
      have t1 : wa.cell? ⟨gt, 1, none⟩ = some (.int .i64 r1) := T.out.cell 1
      have X0 := fun (x : Later wa) => x.cell t0
      have X1 := fun (x : Later wa) => x.cell t1
      have Y0 := fun (x : Later wa) => x.cell g0
      have Y3 := fun (x : Later wa) => x.cell g3
      obtain ⟨lt, hlt'⟩ : ∃ lt, lastOf s.2.2 r0 = lt := ⟨_, rfl⟩
      have LT := Lib.hid hlt'
      have hC := A2.out.len
      have OKD := Lib.hid (show okR s.2.2 (r0, r1, r2, r3, r4, r5) = (decide (0 ≤ r0 ∧ r0 < (C : Int)) && decide (lt < r1)) by unfold okR hasB; rw [hC, hlt'])
      clear hlt' hC
      rcases (show r0 < 0 ∨ (0 ≤ r0 ∧ (C : Int) ≤ r0) ∨ (0 ≤ r0 ∧ r0 < (C : Int) ∧ r1 ≤ lt) ∨ (0 ≤ r0 ∧ r0 < (C : Int) ∧ lt < r1) by omega) with hc | ⟨hc, hc2⟩ | ⟨hc, hc2, hc3⟩ | ⟨hc, hc2, hc3⟩
      case' inl =>
        have NO := Lib.hid (show runL ([], st, ct) (rs.take (k + 1)) = s by rw [ST.out]; unfold stepR; rw [OKD.out, decide_eq_false (by omega)]; rfl)
        have d0 : decide (r0 < 0) = true := decide_eq_true hc
      case' inr.inl =>
        have NO := Lib.hid (show runL ([], st, ct) (rs.take (k + 1)) = s by rw [ST.out]; unfold stepR; rw [OKD.out, decide_eq_false (by omega)]; rfl)
        have d0 : decide (r0 < 0) = false := decide_eq_false (by omega)
        have d1 : decide ((C : Int) ≤ r0) = true := decide_eq_true hc2
        have d1' : decide (r0 ≥ (C : Int)) = true := decide_eq_true hc2
      case' inr.inr.inl =>
        have NO := Lib.hid (show runL ([], st, ct) (rs.take (k + 1)) = s by rw [ST.out]; unfold stepR; rw [OKD.out, decide_eq_false (show ¬ lt < r1 by omega), Bool.and_false]; rfl)
        have d0 : decide (r0 < 0) = false := decide_eq_false (by omega)
        have d1 : decide ((C : Int) ≤ r0) = false := decide_eq_false (by omega)
        have d1' : decide (r0 ≥ (C : Int)) = false := decide_eq_false (by omega)
        have d2 : decide (r1 ≤ lt) = true := decide_eq_true hc3
      case' inr.inr.inr =>
        have d0 : decide (r0 < 0) = false := decide_eq_false (by omega)
        have d1 : decide ((C : Int) ≤ r0) = false := decide_eq_false (by omega)
        have d1' : decide (r0 ≥ (C : Int)) = false := decide_eq_false (by omega)
        have d2 : decide (r1 ≤ lt) = false := decide_eq_false (by omega)
      case inr.inr.inr =>
        obtain ⟨re, hre⟩ : ∃ re, opR s.2.1 r2 r3 r4 = re := ⟨_, rfl⟩
        obtain ⟨st2, hst2⟩ : ∃ st2, opSt s.2.1 r2 r3 r4 = st2 := ⟨_, rfl⟩
        obtain ⟨ct2, hct2⟩ : ∃ ct2, putSt s.2.2 r0 r1 re = ct2 := ⟨_, rfl⟩
        have hok : okR s.2.2 (r0, r1, r2, r3, r4, r5) = true := by rw [OKD.out, decide_eq_true (show 0 ≤ r0 ∧ r0 < (C : Int) from ⟨hc, hc2⟩), decide_eq_true hc3]; rfl
        have NX := Lib.hid (show runL ([], st, ct) (rs.take (k + 1)) = (s.1 ++ [((r0, r1, r2, r3, r4, r5), re)], st2, ct2) by
          rw [ST.out]; unfold stepR; rw [if_pos hok]; unfold resR; simp only [hre, hst2, hct2])
        have RE := Lib.hid hre
        have ST2 := Lib.hid hst2
        have CT2 := Lib.hid hct2
        have PB := Lib.hid (show putB s.2.2 r0 r1 = true by
          unfold okR at hok
          unfold putB
          simp only [Bool.and_eq_true, decide_eq_true_eq] at hok ⊢
          refine ⟨hok.1, ?_⟩
          have := hok.2
          unfold lastOf at this
          rwa [if_pos hok.1] at this)
        clear hre hst2 hct2 hok
        refine wp_region_later (by kernel_rfl) (by kernel_rfl) ?_
        repeat (go_big_quiet_step (first
          | (go_at_call 54; exact Later.same (last_c gc gl s.2.2 r0 _ (A2.out.cac.below (Later.b _)) (by rw [A2.out.len]; exact C4) x0 lt LT.out))))
        refine wpQuiet_nil ?_
        rintro _ ⟨x, rfl⟩
        have A3 := Lib.hid (show RunAt w x.w gs gc gl C s a1 c1 from ⟨own_below A2.out.o x.b, A2.out.sto.below x.b, A2.out.cac.below x.b, A2.out.sm, A2.out.len, A2.out.only.belows x.b⟩)
        have T3 := Lib.hid (T.out.later x)
        have h2 : x.w.cell? ⟨gd, 2, none⟩ = _ := x.cell g2
        have h3 : x.w.cell? ⟨gd, 3, none⟩ = _ := x.cell g3
        have zx := Lib.hid x.b.size
        clear X0 X1 Y0 Y3 t0 t1 g0 g2 g3
        obtain ⟨wb, hwb⟩ : ∃ wb, wb = x.w := ⟨_, rfl⟩
        rw [← hwb] at A3 T3 h2 h3 zx ⊢
        clear hwb
        have t0 : wb.cell? ⟨gt, 0, none⟩ = some (.int .i64 r0) := T3.out.cell 0
        have t1 : wb.cell? ⟨gt, 1, none⟩ = some (.int .i64 r1) := T3.out.cell 1
        have t2 : wb.cell? ⟨gt, 2, none⟩ = some (.int .i64 r2) := T3.out.cell 2
        have t3 : wb.cell? ⟨gt, 3, none⟩ = some (.int .i64 r3) := T3.out.cell 3
        have t4 : wb.cell? ⟨gt, 4, none⟩ = some (.int .i64 r4) := T3.out.cell 4
        have t5 : wb.cell? ⟨gt, 5, none⟩ = some (.int .i64 r5) := T3.out.cell 5
        have ngt := Lib.hid (show gt ≠ gs ∧ gt ≠ gl by have := K3.out.lt; have := K4.out.llt; have := GT.out; omega)
        go_wp2_with fail
        go_cut [8] (fun s8 wx => ∃ ge, s8 = .pointer (some ⟨ge, 0, none⟩) ∧ Blk wx ge 38 #[.int .i64 r0, .int .i64 r1, .int .i64 r2, .int .i64 r3, .int .i64 r4, .int .i64 r5, .int .i64 re] ∧ w.heap.size ≤ ge ∧ Blk wx gt 33 #[.int .i64 r0, .int .i64 r1, .int .i64 r2, .int .i64 r3, .int .i64 r4, .int .i64 r5] ∧ wx.cell? ⟨gd, 3, none⟩ = some (.pointer (some ⟨gc, 0, none⟩)) ∧
          wx.ownsRow w.heap.size 38 7 (.slice a1 s.1.length c1) s.1.length (s.1.flatMap ecell) ∧ Store wx gs st2 ∧ Cache wx gc gl s.2.2 ∧ Only [gs, gl] w wx)
        case first =>
          clear e0 e2 e3 d0 d1 d1' d2 hc3 x0 x1 x5 zr dl i1 i2 hi0 hz0 hz1 hz2
          have ng : gt ≠ wb.heap.size ∧ gd ≠ wb.heap.size := by have := T3.out.lt; have := GD.out; have := A3.out.only.size; omega
          go_region_held3 (fun w' => w'.cell? ⟨gt, 0, none⟩ = some (.int .i64 r0) ∧ w'.cell? ⟨gt, 1, none⟩ = some (.int .i64 r1) ∧ w'.cell? ⟨gt, 2, none⟩ = some (.int .i64 r2) ∧ w'.cell? ⟨gt, 3, none⟩ = some (.int .i64 r3) ∧ w'.cell? ⟨gt, 4, none⟩ = some (.int .i64 r4) ∧ w'.cell? ⟨gt, 5, none⟩ = some (.int .i64 r5) ∧ w'.cell? ⟨gd, 2, none⟩ = some (.pointer (some ⟨gs, 0, none⟩)))
            (first | with_reducible exact ⟨s0, s1, s2, s3, s4, s5, s6⟩ | with_reducible exact ⟨far7 s0 ng.1, far7 s1 ng.1, far7 s2 ng.1, far7 s3 ng.1, far7 s4 ng.1, far7 s5 ng.1, far7 s6 ng.2⟩ | go_keep)
            (first | (go_at_call 45; refine (apply_c gs s.2.1 r2 r3 r4 _ (by first | exact A3.out.sto.drew | exact (A3.out.sto.alloc _).drew) A3.out.sm x2 x3 x4 re RE.out st2 ST2.out).mono ?_; rintro e w4 ⟨rfl, hS4, ho4⟩; have s0 := ho4.cell_ (p := ⟨gt, 0, none⟩) (by first | exact t0 | exact alloc_kept _ t0) (by have := ngt.out.1; simpa using this); have s1 := ho4.cell_ (p := ⟨gt, 1, none⟩) (by first | exact t1 | exact alloc_kept _ t1) (by have := ngt.out.1; simpa using this); have s2 := ho4.cell_ (p := ⟨gt, 2, none⟩) (by first | exact t2 | exact alloc_kept _ t2) (by have := ngt.out.1; simpa using this); have s3 := ho4.cell_ (p := ⟨gt, 3, none⟩) (by first | exact t3 | exact alloc_kept _ t3) (by have := ngt.out.1; simpa using this); have s4 := ho4.cell_ (p := ⟨gt, 4, none⟩) (by first | exact t4 | exact alloc_kept _ t4) (by have := ngt.out.1; simpa using this); have s5 := ho4.cell_ (p := ⟨gt, 5, none⟩) (by first | exact t5 | exact alloc_kept _ t5) (by have := ngt.out.1; simpa using this); have s6 := ho4.cell_ (p := ⟨gd, 2, none⟩) (by first | exact h2 | exact alloc_kept _ h2) (by have := NE.out.1; simpa using this); try (have be := Blk.only (show Blk (wb.alloc (.cells #[.int .i64 0, .int .i64 0, .int .i64 0, .int .i64 0, .int .i64 0, .int .i64 0, .int .i64 0] 38)).drew wb.heap.size 38 #[.int .i64 0, .int .i64 0, .int .i64 0, .int .i64 0, .int .i64 0, .int .i64 0, .int .i64 0] from Blk.new wb 38 #[.int .i64 0, .int .i64 0, .int .i64 0, .int .i64 0, .int .i64 0, .int .i64 0, .int .i64 0]) ho4 (by have := A3.out.sto.lt; simp; omega); have u0 := be.cell 0; have fz0 := be.frozen 0; have u1 := be.cell 1; have fz1 := be.frozen 1; have u2 := be.cell 2; have fz2 := be.frozen 2; have u3 := be.cell 3; have fz3 := be.frozen 3; have u4 := be.cell 4; have fz4 := be.frozen 4; have u5 := be.cell 5; have fz5 := be.frozen 5; have u6 := be.cell 6; have fz6 := be.frozen 6)))
          all_goals
            have AX := Lib.hid A3.out
            have NX4 := Lib.hid (show gt ≠ gs ∧ gd ≠ gs ∧ gc ≠ gs ∧ gl ≠ gs from ⟨ngt.out.1, NE.out.1, NE.out.2.2.2.1, NE.out.2.2.1.symm⟩)
            have H3 := Lib.hid h3
            have HO4 := Lib.hid ho4
            have HS4 := Lib.hid hS4
            try have BE := Lib.hid be
            clear s0 s1 s2 s3 s4 s5 s6 t0 t1 t2 t3 t4 t5 h2 h3 ho4 hS4 x2 x3 x4
            try clear be u0 u1 u2 u3 u4 u5 u6 fz0 fz1 fz2 fz3 fz4 fz5 fz6
            go_wp2_with fail
            go_meet
          · have Q : Only [gs] wb w4 := ((Only.refl [gs] wb).drew).trans HO4.out
            have hz : wb.heap.size ≤ w4.heap.size := Q.size
            have hc := box_cut A3.out T3.out H3.out Q (Only.of_below (S := [w4.heap.size]) ((Below.refl w4.heap.size w4).alloc (Nat.le_refl _) (.cells #[.int .i64 r0, .int .i64 r1, .int .i64 r2, .int .i64 r3, .int .i64 r4, .int .i64 r5, .int .i64 re] 38))) HS4.out hz NX4.out.1 NX4.out.2.1 NX4.out.2.2.1 NX4.out.2.2.2
            exact ⟨w4.heap.size, rfl, Blk.new _ _ _, hc⟩
          · have Q : Only [gs] wb w4 := (((Only.refl [gs] wb).alloc _).drew).trans HO4.out
            have R := ((((((((Only.refl [wb.heap.size] w4).setCell (p := ⟨wb.heap.size, 0, none⟩) (.inl (by simp)) (.int .i64 r0)).setCell (p := ⟨wb.heap.size, 1, none⟩) (.inl (by simp)) (.int .i64 r1)).setCell (p := ⟨wb.heap.size, 2, none⟩) (.inl (by simp)) (.int .i64 r2)).setCell (p := ⟨wb.heap.size, 3, none⟩) (.inl (by simp)) (.int .i64 r3)).setCell (p := ⟨wb.heap.size, 4, none⟩) (.inl (by simp)) (.int .i64 r4)).setCell (p := ⟨wb.heap.size, 5, none⟩) (.inl (by simp)) (.int .i64 r5)).setCell (p := ⟨wb.heap.size, 6, none⟩) (.inl (by simp)) (.int .i64 re))
            have hc := box_cut A3.out T3.out H3.out Q R HS4.out (Nat.le_refl _) NX4.out.1 NX4.out.2.1 NX4.out.2.2.1 NX4.out.2.2.2
            have bb := ((((((BE.out.set_ 0 (.int .i64 r0)).set_ 1 (.int .i64 r1)).set_ 2 (.int .i64 r2)).set_ 3 (.int .i64 r3)).set_ 4 (.int .i64 r4)).set_ 5 (.int .i64 r5)).set_ 6 (.int .i64 re)
            exact ⟨wb.heap.size, rfl, bb, hc⟩
        case rest =>
          obtain ⟨ge, rfl, hge, hgw, hT, hc3, ho, hS, hC, hO⟩ := hcut
          have GE := Lib.hid hge
          have OO := Lib.hid ho
          have SS := Lib.hid hS
          have CC := Lib.hid hC
          have ON := Lib.hid hO
          have CN := Lib.hid (show s.2.2.length ≤ 4 by rw [A2.out.len]; exact C4)
          have SML := Lib.hid (stepR_sm A2.out.sm (r0, r1, r2, r3, r4, r5))
          have t0 : wc.cell? ⟨gt, 0, none⟩ = some (.int .i64 r0) := hT.cell 0
          have t1 : wc.cell? ⟨gt, 1, none⟩ = some (.int .i64 r1) := hT.cell 1
          have e6 : wc.cell? ⟨ge, 6, none⟩ = some (.int .i64 re) := hge.cell 6
          clear hge hT ho hS hC hO ngt d0 d1 d1' d2
          go_wp2_with fail
          go_still_tail 10, (by kernel_rfl)
          change wpList _ _ _ _ _ wc.drew
          go_wp2_with fail
          refine (put_c gc gl s.2.2 r0 r1 re _ CC.out.drew CN.out x0 true PB.out ct2 CT2.out).mono ?_; rintro e w5 ⟨rfl, hC5, ho5⟩
          have glb : ∃ cur, Blk wc gl 158 cur := by
            obtain ⟨cp, h1, h2⟩ := CC.out.ex
            obtain ⟨cur, h3, _⟩ := h2.parts
            exact ⟨cur, h3⟩
          obtain ⟨cur, hcur⟩ := glb
          have hge5 : Blk w5 ge 38 _ := GE.out.drew.only ho5 (by have := Blk.ne_ GE.out hcur (by decide); simpa using this)
          have u0 : w5.cell? ⟨ge, 0, none⟩ = some (.int .i64 r0) := hge5.cell 0
          have u1 : w5.cell? ⟨ge, 1, none⟩ = some (.int .i64 r1) := hge5.cell 1
          have u2 : w5.cell? ⟨ge, 2, none⟩ = some (.int .i64 r2) := hge5.cell 2
          have u3 : w5.cell? ⟨ge, 3, none⟩ = some (.int .i64 r3) := hge5.cell 3
          have u4 : w5.cell? ⟨ge, 4, none⟩ = some (.int .i64 r4) := hge5.cell 4
          have u5 : w5.cell? ⟨ge, 5, none⟩ = some (.int .i64 r5) := hge5.cell 5
          have u6 : w5.cell? ⟨ge, 6, none⟩ = some (.int .i64 re) := hge5.cell 6
          have o5 : w5.ownsRow w.heap.size 38 7 (.slice a1 s.1.length c1) s.1.length (s.1.flatMap ecell) := own_only OO.out.drew ho5 (fun g hg => by
            have := own_blk_ne OO.out hcur (by decide)
            rw [hg] at this
            simpa using fun e => this (by rw [e]))
          have O5 := Lib.hid o5
          have S5 := Lib.hid (SS.out.drew.only ho5 (by have := NE.out.2.2.1; simpa using this))
          have C5 := Lib.hid hC5
          have N5 := Lib.hid (ON.out.drew.then ho5 (by simp))
          have z5 := N5.out.size
          have hll : (s.1.flatMap ecell).length = s.1.length * 7 := flat_len ecell 7 ecell_len s.1
          clear t0 t1 e6 hc3 ho5 hcur hge5 o5 hC5
          go_wp2_with (at_builtin; refine wpList_append_lies _ rfl (.tmp 59) (.tmp 61) _ rfl w.heap.size 38 i0 _ 7 56 Try.underlying34 hi0 hz0 hz1 hz2 rfl (by omega) (.slice a1 s.1.length c1) s.1.length (s.1.flatMap ecell) rfl (World.ownsRow.alloc O5.out _) ⟨w5.heap.size, 0, none⟩ 1 1 [.int .i64 r0, .int .i64 r1, .int .i64 r2, .int .i64 r3, .int .i64 r4, .int .i64 r5, .int .i64 re] rfl rfl (World.news_of_block (cs := #[.int .i64 r0, .int .i64 r1, .int .i64 r2, .int .i64 r3, .int .i64 r4, .int .i64 r5, .int .i64 re]) (t := 38) (fr := (0, 0)) (Blk.new _ _ _)) (by simp [Value.oneCell']) (by omega) (by unfold maxLen; omega) (by omega) (by simp; omega) (w5.heap.size + 1) (by simp) ?_; intro g5 cap5 w6 hown6 hgrow6 hat6 hlt6)
          have Rg : Only (blks a1) (w5.alloc (.cells #[.int .i64 r0, .int .i64 r1, .int .i64 r2, .int .i64 r3, .int .i64 r4, .int .i64 r5, .int .i64 re] 38)) w6 := (Only.refl (blks a1) _).grown hgrow6 (fun k hk => .inl (blks_own hk))
          have nb : ∀ g t cs, Blk w5 g t cs → 38 ≠ t → g ∉ blks a1 := fun g t cs hb hne hm => by
            cases a1 with
            | none => cases hm
            | some p =>
              simp only [blks, List.mem_singleton] at hm
              exact own_sep O5.out hb hne p rfl hm.symm
          refine ⟨⟨k + 1, by omega, by go_num, (s.1 ++ [((r0, r1, r2, r3, r4, r5), re)], st2, ct2), some ⟨g5, 0, none⟩, cap5, NX.out.symm, by rw [List.length_append]; rfl, ?_⟩, by simp [intOf]; omega⟩
          obtain ⟨cp5, cb5, cr5⟩ := C5.out.ex
          obtain ⟨cur5, cu5, _⟩ := cr5.parts
          refine ⟨?_, (S5.out.alloc _).only Rg (nb _ _ _ S5.out.b (by decide)), (C5.out.below ((Below.refl _ _).alloc (Nat.le_refl _) _)).only Rg (nb _ _ _ cb5 (by decide)) (nb _ _ _ cu5 (by decide)), ?_, by rw [← CT2.out, putSt_len]; exact A2.out.len, ?_⟩
          · rw [List.length_append, List.flatMap_append]
            exact hown6
          · have e := SML.out
            rw [← ST.out, NX.out] at e
            exact e
          · exact (N5.out.alloc _).grown hgrow6 (fun g hg => .inr (O5.out.lt g hg).1)
      all_goals
        refine wp_region_later (by kernel_rfl) (by kernel_rfl) ?_
        repeat (go_big_quiet_step (first
          | (go_at_call 54; exact Later.same (last_c gc gl s.2.2 r0 _ (A2.out.cac.below (Later.b _)) (by rw [A2.out.len]; exact C4) x0 lt LT.out))))
        refine wpQuiet_nil ?_
        rintro _ ⟨x, rfl⟩
        have A3 := Lib.hid (show RunAt w x.w gs gc gl C s a1 c1 from ⟨own_below A2.out.o x.b, A2.out.sto.below x.b, A2.out.cac.below x.b, A2.out.sm, A2.out.len, A2.out.only.belows x.b⟩)
        clear X0 X1 Y0 Y3 t0 t1 g0 g2 g3
        go_wp2_with fail
        refine ⟨⟨k + 1, by omega, by go_num, s, a1, c1, NO.out.symm, rfl, A3.out⟩, by simp [intOf]; omega⟩
    · have hkk : k = rs.length := by omega
      subst hkk
      rw [List.take_length, HS.out] at hsk
      subst hsk
      have OUT := Lib.hid hA.o
      have RA := Lib.hid hA
      have h1 := K1.out.only hA.only (by have := NE.out; simp; omega)
      have H1 := Lib.hid h1
      have g0 : wr.cell? ⟨gd, 1, none⟩ = some (.slice al es.length cl) := h1.cell 1
      have fz := h1.frozen 1
      have kl : wr.ownsRow 0 38 7 (.slice al es.length cl) es.length (es.flatMap ecell) := own_only K2.out hA.only (fun g hg => by
        have hm := blks_own hg
        have a1' := own_blk_ne K2.out K3.out.b (by decide)
        obtain ⟨cp, h1', h2'⟩ := K4.out.ex
        obtain ⟨cur, h3', _⟩ := h2'.parts
        have a2' := own_blk_ne K2.out h3' (by decide)
        rw [hg] at a1' a2'
        simp only [List.mem_cons, List.not_mem_nil, or_false, not_or]
        exact ⟨fun e => a1' (by rw [e]), fun e => a2' (by rw [e])⟩)
      have KL := Lib.hid kl
      have KB := Lib.hid (show ∀ g, (Value.slice al es.length cl).ownBlock = some g → g < w.heap.size from fun g hg => (K2.out.lt g hg).2)
      have zo : out.length ≤ rs.length := dl
      have zes := own_cap kl
      have ol : es.length ≤ 4096 := by omega
      have adr := own_addr kl
      have MM := HM.out
      clear h1 kl hA e0 e2 e3 f0 f2 f3
      have SIN := Lib.hid (show gd ∈ S ∧ gs ∈ S ∧ gl ∈ S ∧ ∀ k ∈ blks al, k ∈ S by
        rw [HSS.out]
        exact ⟨by simp, by simp, by simp, fun k hk => by simp [hk]⟩)
      have MO := Lib.hid (RA.out.only.mono (T := S) (fun k hk => .inl (by
        simp only [List.mem_cons, List.not_mem_nil, or_false] at hk
        rcases hk with rfl | rfl
        · exact SIN.out.2.1
        · exact SIN.out.2.2.1)))
      have SEPA := Lib.hid (show ∀ g t cs, Blk w g t cs → 38 ≠ t → g ∉ blks al from fun g t cs hb hne hm => by
        cases al with
        | none => cases hm
        | some p =>
          simp only [blks, List.mem_singleton] at hm
          exact own_sep K2.out hb hne p rfl hm.symm)
      have SG := Lib.hid (show gd ∉ blks al ∧ gs ∉ blks al ∧ gc ∉ blks al ∧ gl ∉ blks al by
        obtain ⟨cp, cb, cr⟩ := K4.out.ex
        obtain ⟨cur, cu, _⟩ := cr.parts
        exact ⟨SEPA.out _ _ _ K1.out (by decide), SEPA.out _ _ _ K3.out.b (by decide), SEPA.out _ _ _ cb (by decide), SEPA.out _ _ _ cu (by decide)⟩)
      have GCD := Lib.hid (show gc ≠ gd by
        obtain ⟨cp, cb, cr⟩ := K4.out.ex
        exact Blk.ne_ cb K1.out (by decide))
      have CC4 := c
      by_cases h0 : out.length = 0
      · obtain rfl : out = [] := List.length_eq_zero_iff.1 h0
        obtain rfl : m = 0 := MM.symm
        clear h0 MM zo
        go_wp2_with (at_builtin; refine wpList_append_no rfl (.tmp 68) (.tmp 69) _ rfl 38 i0 Try.underlying34 hi0 al a1 es.length cl c1 adr zes rfl rfl ?_)
        go_ret
        have R := (Only.refl [gd] wr).setCell (p := ⟨gd, 1, none⟩) (.inl (by simp)) (.slice al es.length cl)
        refine ⟨S, a1, c1, rfl, ⟨⟨gs, gc, gl, al, cl, HSS.out, ?_, ?_, RA.out.sto.only R (by have := NE.out.1; simp; omega), RA.out.cac.only R (by have := GCD.out; simpa using this) (by have := NE.out.2.1; simp; omega)⟩, ⟨C1, C4⟩, RA.out.len, RA.out.sm⟩, ?_, ?_, MO.out.setCell (p := ⟨gd, 1, none⟩) (.inl SIN.out.1) _, fun k hk => .inl hk⟩
        · have := H1.out.set_ 1 (.slice al es.length cl)
          exact this
        · exact ownsRow_setCell_other KL.out (own_blk_ne KL.out H1.out (by decide)) _
        · exact ownsRow_setCell_other OUT.out (own_blk_ne OUT.out H1.out (by decide)) _
        · intro g hg hm
          have h1 := (OUT.out.lt g hg).1
          have h2 := LE.out g hm
          omega
      · have hadr := own_addr OUT.out
        obtain ⟨go, rfl⟩ : ∃ go, a1 = some ⟨go, 0, none⟩ := by
          rcases hadr with ⟨_, h1, _⟩ | h1
          · exact absurd h1 h0
          · exact h1
        have OROW := Lib.hid (Row.of_own OUT.out)
        have ollen : (out.flatMap ecell).length = out.length * 7 := flat_len ecell 7 ecell_len out
        have elen : (es.flatMap ecell).length = es.length * 7 := flat_len ecell 7 ecell_len es
        have mpos : 0 < out.length := by omega
        clear hadr MM h0
        go_wp2_with (at_builtin; refine wpList_append_lies _ rfl (.tmp 68) (.tmp 69) _ rfl 0 38 i0 _ 7 56 Try.underlying34 hi0 hz0 hz1 hz2 rfl (by omega) (.slice al es.length cl) es.length (es.flatMap ecell) rfl KL.out ⟨go, 0, none⟩ out.length c1 (out.flatMap ecell) rfl ollen OROW.out.news (ecell_one out) mpos (by unfold maxLen; omega) (by omega) (Nat.zero_le _) wr.heap.size rfl ?_; intro g5 cap5 w6 hown6 hgrow6 hat6 hlt6; have H6 := Lib.hid (H1.out.grown hgrow6 (own_blk KL.out H1.out (by decide))); have c6 := H6.out.cell 1; have fz6 := H6.out.frozen 1; have HAT := Lib.hid hat6; have HGR := Lib.hid hgrow6; have HOW := Lib.hid hown6; clear hat6 hgrow6 hown6 g0 fz)
        go_ret
        have R1 := (Only.refl (blks al) wr).grown HGR.out (fun k hk => .inl (blks_own hk))
        have R2 := (Only.refl [gd] w6).setCell (p := ⟨gd, 1, none⟩) (.inl (by simp)) (.slice (some ⟨g5, 0, none⟩) (es.length + out.length) cap5)
        have hm := HM.out
        subst hm
        refine ⟨gd :: gs :: gc :: gl :: [g5], some ⟨go, 0, none⟩, c1, rfl, ⟨⟨gs, gc, gl, some ⟨g5, 0, none⟩, cap5, rfl, ?_, ?_, (RA.out.sto.only R1 SG.out.2.1).only R2 (by have := NE.out.1; simp; omega), (RA.out.cac.only R1 SG.out.2.2.1 SG.out.2.2.2).only R2 (by have := GCD.out; simpa using this) (by have := NE.out.2.1; simp; omega)⟩, ⟨C1, C4⟩, RA.out.len, RA.out.sm⟩, ?_, ?_, (MO.out.grown HGR.out (fun k hk => .inl (SIN.out.2.2.2 k (blks_own hk)))).setCell (p := ⟨gd, 1, none⟩) (.inl SIN.out.1) _, ?_⟩
        · have := H6.out.set_ 1 (.slice (some ⟨g5, 0, none⟩) (es.length + out.length) cap5)
          rw [List.length_append]
          exact this
        · rw [List.length_append, List.flatMap_append]
          exact ownsRow_setCell_other HOW.out (own_blk_ne HOW.out H6.out (by decide)) _
        · have o6 := own_only OUT.out R1 (fun g hg hm => by
            have h1 := (OUT.out.lt g hg).1
            have h2 := LE.out g (SIN.out.2.2.2 g hm)
            omega)
          exact ownsRow_setCell_other o6 (own_blk_ne o6 H6.out (by decide)) _
        · intro g hg hm
          have h1 := OUT.out.lt g hg
          have hb : ∀ k ∈ S, k < w.heap.size := LE.out
          have h2 : gd < w.heap.size ∧ gs < w.heap.size ∧ gl < w.heap.size := ⟨hb _ SIN.out.1, hb _ SIN.out.2.1, hb _ SIN.out.2.2.1⟩
          have h3 : gc < w.heap.size := hb _ (by rw [HSS.out]; simp)
          have h4 : g5 < w.heap.size ∨ g5 = wr.heap.size := by
            rcases HAT.out with h | h
            · exact .inl (KB.out _ h)
            · exact .inr h
          simp only [List.mem_cons, List.not_mem_nil, or_false] at hm
          omega
        · intro k hk
          simp only [List.mem_cons, List.not_mem_nil, or_false] at hk
          rcases hk with rfl | rfl | rfl | rfl | rfl
          · exact .inl SIN.out.1
          · exact .inl SIN.out.2.1
          · exact .inl (by rw [HSS.out]; simp)
          · exact .inl SIN.out.2.2.1
          · rcases HAT.out with h | h
            · exact .inl (SIN.out.2.2.2 _ (blks_own h))
            · have := RA.out.only.size
              exact .inr (by omega)
end Go.Proofs.Ytfhlcjfgbhmecaa
