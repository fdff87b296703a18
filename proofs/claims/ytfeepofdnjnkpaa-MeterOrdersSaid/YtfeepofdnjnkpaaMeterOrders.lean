/- MeterOrders: for all numbers the law returns true: measures do not ask for the order. No condition. -/
import Derived.Test.YtfeepofdnjnkpaaMeterOrdersP
import Derived.Test.YtfeepofdnjnkpaaLater
import Derived.Test.YtfeepofdnjnkpaaRows
import Derived.Deep.RegionWith
import Derived.Deep.RegionHeld3
import Derived.Deep.DeepCutAuto
import Derived.Deep.CutBlock
namespace Go.Proofs.Ytfeepofdnjnkpaa.MeterOrders
open Go.RowKit Go.ChangeShapes Go.WideShapes Go.ChangeAt F
set_option linter.unusedVariables false

structure Pl (w wr : World) (ga la gb lb gm : Nat) (sa sb : List (Int × Int)) : Prop where
  a : Meter wr ga la sa
  b : Meter wr gb lb sb
  m : Blk wr gm 54 (cells sa)
  w : Below w.heap.size w wr
theorem meterLater {w0 : World} {gm gl : Nat} {st : List (Int × Int)} (h : Meter w0 gm gl st) (x : Later w0) : Meter x.w gm gl st := h.below x.b
theorem Pl.below {w wr wx : World} {ga la gb lb gm : Nat} {sa sb : List (Int × Int)} (h : Pl w wr ga la gb lb gm sa sb) (hb : Below wr.heap.size wr wx) : Pl w wx ga la gb lb gm sa sb :=
  ⟨h.a.below hb, h.b.below hb, h.m.below hb h.m.lt, h.w.trans (hb.mono h.w.size)⟩
theorem Pl.later {w wr : World} {ga la gb lb gm : Nat} {sa sb : List (Int × Int)} (h : Pl w wr ga la gb lb gm sa sb) (x : Later wr) : Pl w x.w ga la gb lb gm sa sb := h.below x.b
def Rel1 (w wr : World) (ga la gb lb gm m : Nat) (K T : Nat → Int) (i : Value) : Prop := ∃ k : Nat, k ≤ m ∧ i = .int .i64 k ∧ Pl w wr ga la gb lb gm (mk K T k) (mk (fun i => K (m - 1 - i)) (fun i => T (m - 1 - i)) k)
theorem first_of {q : Int} {A' X Y Z : List (Int × Int)} (h0 : q = 0 → A' = X) (h1 : q = 1 → A' = Y) (h2 : q = 2 → A' = Z) : (q = 0 ∧ A' = X) ∨ (q = 1 ∧ A' = Y) ∨ (q = 2 ∧ A' = Z) ∨ (q ≠ 0 ∧ q ≠ 1 ∧ q ≠ 2) := by
  by_cases a : q = 0
  · exact .inl ⟨a, h0 a⟩
  · by_cases b : q = 1
    · exact .inr (.inl ⟨b, h1 b⟩)
    · by_cases c : q = 2
      · exact .inr (.inr (.inl ⟨c, h2 c⟩))
      · exact .inr (.inr (.inr ⟨a, b, c⟩))
structure Apart (ga la gb lb gm B : Nat) : Prop where
  h1 : ga ≠ gb ∧ ga ≠ lb ∧ ga ≠ gm
  h2 : la ≠ gb ∧ la ≠ lb ∧ la ≠ gm
  h3 : gb ≠ gm ∧ lb ≠ gm
  h4 : B ≤ ga ∧ B ≤ la ∧ B ≤ gb ∧ B ≤ lb ∧ B ≤ gm

theorem within_at (v n q : Int) (w : World) (hv : I64 v) (hn : 1 ≤ n) (hn2 : n ≤ 4611686018427387904) (hq : v % n = q) :
    Calls Try.prog 19 #[.int .i64 v, .int .i64 n] w fun e w' => e = .returned (.int .i64 q) ∧ w = w' := by
  subst hq
  exact within_keep v n w hv hn hn2
theorem getI {xs : List Int} (h : ∀ x ∈ xs, I64 x) (j : Nat) : I64 (xs.getD j 0) := by
  by_cases hj : j < xs.length
  · rw [List.getD_eq_getElem?_getD, List.getElem?_eq_getElem hj]; exact h _ (List.getElem_mem hj)
  · rw [List.getD_eq_getElem?_getD, List.getElem?_eq_none (by omega)]; exact I64.zero
theorem mk_room {K T : Nat → Int} (hT : ∀ i, 0 ≤ T i ∧ T i < 1000) (k : Nat) (hk : k ≤ 60) : Roomy (mk K T k) := fun z hz => by
  have := mk_bd (K := K) hT k hk z hz
  omega

set_option maxRecDepth 100000 in
set_option maxHeartbeats 3200000 in
theorem walk (a0 : Option Addr) (n0 c0 : Nat) (xs0 : List Int) (a1 : Option Addr) (n1 c1 : Nat) (xs1 : List Int) (w : World) (hr0 : IntRow w a0 n0 xs0) (hm0 : n0 ≤ maxLen) (hx0 : ∀ x ∈ xs0, I64 x) (hr1 : IntRow w a1 n1 xs1) (hm1 : n1 ≤ maxLen) (hx1 : ∀ x ∈ xs1, I64 x) :
    Calls Try.prog 6 #[.slice a0 n0 c0, .slice a1 n1 c1] w fun e w' => e = .returned (.bool true) ∧ Below w.heap.size w w' := by
  unfold maxLen at hm0 hm1
  have R0 := Lib.hid hr0
  have R1 := Lib.hid hr1
  have X0 := Lib.hid hx0
  have X1 := Lib.hid hx1
  obtain ⟨m, hm⟩ : ∃ m, m = min (min n0 n1) 60 := ⟨_, rfl⟩
  have m60 : m ≤ 60 := by omega
  have mn0 : m ≤ n0 := by omega
  have mn1 : m ≤ n1 := by omega
  have HM := Lib.hid hm
  clear hr0 hr1 hx0 hx1 hm
  go_enter Try.func6, Try.ntmps6
  go_wp2_with fail
  refine (mnew_ok 3 3 rfl (by omega) (by omega) _).mono ?_; rintro e w1 ⟨ga, la, rfl, h1, hg1, hl1, hb1⟩
  go_wp2_with fail
  refine (mnew_ok 3 3 rfl (by omega) (by omega) _).mono ?_; rintro e w2 ⟨gb, lb, rfl, h2, hg2, hl2, hb2⟩
  have z1 := hb1.size
  have z2 := hb2.size
  have A2 := Lib.hid (h1.below hb2)
  have B2 := Lib.hid h2
  have W2 := Lib.hid (hb1.trans (hb2.mono z1))
  have p1 := h1.mlt
  have p2 := h1.llt
  have p3 := h2.mlt
  have p4 := h2.llt
  have AP := Lib.hid (show Apart ga la gb lb w2.heap.size w.heap.size from ⟨⟨by omega, by omega, by omega⟩, ⟨by omega, by omega, by omega⟩, ⟨by omega, by omega⟩, ⟨by omega, by omega, by omega, by omega, by omega⟩⟩)
  clear h1 h2 hb1 hb2 hg1 hg2 hl1 hl2 p1 p2 p3 p4
  go_upto_block 0 with fail
  have hif : (if (60 : Int) < (if n1 < n0 then (n1 : Int) else (n0 : Int)) then (60 : Int) else (if n1 < n0 then (n1 : Int) else (n0 : Int))) = (m : Int) := by
    have := HM.out
    split <;> split at * <;> omega
  rw [hif]
  obtain ⟨gm, hgm⟩ : ∃ gm, gm = w2.heap.size := ⟨_, rfl⟩
  rw [← hgm] at AP ⊢
  have GM := Lib.hid hgm
  obtain ⟨K, hK⟩ : ∃ K : Nat → Int, ∀ i, xs0.getD i 0 % 3 = K i := ⟨_, fun _ => rfl⟩
  obtain ⟨T, hT⟩ : ∃ T : Nat → Int, ∀ i, xs1.getD i 0 % 1000 = T i := ⟨_, fun _ => rfl⟩
  have KB := Lib.hid (show ∀ i, 0 ≤ K i ∧ K i < 3 from fun i => by rw [← hK i]; omega)
  have TB := Lib.hid (show ∀ i, 0 ≤ T i ∧ T i < 1000 from fun i => by rw [← hT i]; omega)
  have HK := Lib.hid hK
  have HT := Lib.hid hT
  clear hif hgm hK hT
  go_cut [11] (fun s11 wx => Pl w wx ga la gb lb gm (mk K T m) (mk K T m))
  case first =>
    go_wp2_with fail
    go_loopw [11] (fun i wr => Rel1 w wr ga la gb lb gm m K T i) (fun i _ => m - (intOf i).toNat)
    case atStart => exact ⟨0, by omega, rfl, ⟨A2.out.only ((Only.refl [] _).alloc _) (by simp) (by simp), B2.out.only ((Only.refl [] _).alloc _) (by simp) (by simp), by rw [GM.out]; exact Blk.new _ _ _, W2.out.alloc W2.out.size _⟩⟩
    case round =>
      obtain ⟨k, hkm, rfl, hP⟩ := hrel
      have P := Lib.hid hP
      have zr := hP.w.size
      clear hP
      by_cases hlt : k < m
      · obtain ⟨b0, f0, rfl, hb0, cc0⟩ := R0.out.2 (by omega)
        obtain ⟨b1, f1, rfl, hb1, cc1⟩ := R1.out.2 (by omega)
        obtain ⟨j, hj⟩ : ∃ j, j = m - 1 - k := ⟨_, rfl⟩
        have x0 : wr.cell? ⟨b0, f0 + k, none⟩ = some (.int .i64 (xs0.getD k 0)) := (P.out.w.cell (p := ⟨b0, f0 + k, none⟩) hb0).trans (cc0 k (by omega))
        have x1 : wr.cell? ⟨b1, f1 + k, none⟩ = some (.int .i64 (xs1.getD k 0)) := (P.out.w.cell (p := ⟨b1, f1 + k, none⟩) hb1).trans (cc1 k (by omega))
        have x2 : wr.cell? ⟨b0, f0 + j, none⟩ = some (.int .i64 (xs0.getD j 0)) := (P.out.w.cell (p := ⟨b0, f0 + j, none⟩) hb0).trans (cc0 j (by omega))
        have x3 : wr.cell? ⟨b1, f1 + j, none⟩ = some (.int .i64 (xs1.getD j 0)) := (P.out.w.cell (p := ⟨b1, f1 + j, none⟩) hb1).trans (cc1 j (by omega))
        have y0 := getI X0.out k
        have y1 := getI X1.out k
        have y2 := getI X0.out j
        have y3 := getI X1.out j
        have e0 := HK.out k
        have e1 := HT.out k
        have e2 := HK.out j
        have e3 := HT.out j
        have sa := mk_step KB.out TB.out k
        have sb := mk_step (K := fun i => K (m - 1 - i)) (T := fun i => T (m - 1 - i)) (fun i => KB.out _) (fun i => TB.out _) k
        have kb0 := KB.out k
        have kb1 := TB.out k
        have kb2 := KB.out j
        have kb3 := TB.out j
        simp only [← hj] at sb
        have st0 := fun h => S_step0 (K := K) (T := T) (k := k) h
        have st1 := fun h => S_step1 (K := K) (T := T) (k := k) h
        have st2 := fun h => S_step2 (K := K) (T := T) (k := k) h
        obtain ⟨p0, hp0⟩ : ∃ p, p = xs0.getD k 0 := ⟨_, rfl⟩
        obtain ⟨p1, hp1⟩ : ∃ p, p = xs1.getD k 0 := ⟨_, rfl⟩
        obtain ⟨p2, hp2⟩ : ∃ p, p = xs0.getD j 0 := ⟨_, rfl⟩
        obtain ⟨p3, hp3⟩ : ∃ p, p = xs1.getD j 0 := ⟨_, rfl⟩
        obtain ⟨q0, hq0⟩ : ∃ q, q = K k := ⟨_, rfl⟩
        obtain ⟨q1, hq1⟩ : ∃ q, q = T k := ⟨_, rfl⟩
        obtain ⟨q2, hq2⟩ : ∃ q, q = K j := ⟨_, rfl⟩
        obtain ⟨q3, hq3⟩ : ∃ q, q = T j := ⟨_, rfl⟩
        rw [← hp0] at x0 y0 e0
        rw [← hp1] at x1 y1 e1
        rw [← hp2] at x2 y2 e2
        rw [← hp3] at x3 y3 e3
        rw [← hq0] at e0 kb0 sa
        rw [← hq1] at e1 kb1 sa
        rw [← hq2] at e2 kb2 sb
        rw [← hq3] at e3 kb3 sb
        rw [← hq0] at st0 st1 st2
        rw [← hq1] at st0 st1 st2
        have l1 : (mk K T k).length = 3 := rfl
        have l2 : (mk (fun i => K (m - 1 - i)) (fun i => T (m - 1 - i)) k).length = 3 := rfl
        obtain ⟨A, hA⟩ : ∃ A, A = mk K T k := ⟨_, rfl⟩
        obtain ⟨A', hA'⟩ : ∃ A, A = mk K T (k + 1) := ⟨_, rfl⟩
        obtain ⟨B, hB⟩ : ∃ A, A = mk (fun i => K (m - 1 - i)) (fun i => T (m - 1 - i)) k := ⟨_, rfl⟩
        obtain ⟨B', hB'⟩ : ∃ A, A = mk (fun i => K (m - 1 - i)) (fun i => T (m - 1 - i)) (k + 1) := ⟨_, rfl⟩
        have rA : Roomy A := by rw [hA]; exact mk_room TB.out k (by omega)
        have rB : Roomy B := by rw [hB]; exact mk_room (K := fun i => K (m - 1 - i)) (T := fun i => T (m - 1 - i)) (fun i => TB.out _) k (by omega)
        rw [← hA, ← hB] at P
        rw [← hA] at l1
        rw [← hB] at l2
        rw [← hA, ← hA'] at sa
        rw [← hB, ← hB'] at sb
        rw [← hA, ← hA'] at st0 st1 st2
        obtain ⟨u0, v0, u1, v1, u2, v2, hAe⟩ : ∃ u0 v0 u1 v1 u2 v2 : Int, A = [(u0, v0), (u1, v1), (u2, v2)] := ⟨_, _, _, _, _, _, hA⟩
        have bd := rA
        rw [hAe] at bd st0 st1 st2
        have bd0 := bd (u0, v0) (by simp)
        have bd1 := bd (u1, v1) (by simp)
        have bd2 := bd (u2, v2) (by simp)
        simp only at bd0 bd1 bd2
        have BM := Lib.hid (show Blk wr gm 54 #[.int .i64 u0, .int .i64 v0, .int .i64 u1, .int .i64 v1, .int .i64 u2, .int .i64 v2] by have := P.out.m; rw [hAe] at this; exact this)
        have E0 := Lib.hid e0
        have E1 := Lib.hid e1
        have E2 := Lib.hid e2
        have E3 := Lib.hid e3
        have SA := Lib.hid sa
        have SB := Lib.hid sb
        have S0 := Lib.hid st0
        have S1 := Lib.hid st1
        have S2 := Lib.hid st2
        have RA := Lib.hid rA
        have RB := Lib.hid rB
        have L1 := Lib.hid l1
        have L2 := Lib.hid l2
        have HA' := Lib.hid hA'
        have HB' := Lib.hid hB'
        have i0 : (0 : Int) ≤ k := by omega
        have i1 : (k : Int) < n0 := by omega
        have i2 : (k : Int) < n1 := by omega
        have i3 : (k : Int) < m := by omega
        have i4 : (m : Int) - 1 - k = (j : Int) := by omega
        have i5 : (0 : Int) ≤ j := by omega
        have i6 : (j : Int) < n0 := by omega
        have i7 : (j : Int) < n1 := by omega
        have nb0 : b0 < w.heap.size := hb0
        have nb1 : b1 < w.heap.size := hb1
        clear hp0 hp1 hp2 hp3 hq0 hq1 hq2 hq3 hA hA' hB hB' hAe bd rA rB st0 st1 st2 sa sb e0 e1 e2 e3 cc0 cc1 hj l1 l2
        have X0' := fun (x : Later wr) => x.cell x0
        have X1' := fun (x : Later wr) => x.cell x1
        go_wp2_with fail
        refine wp_region_later (by kernel_rfl) (by kernel_rfl) ?_
        repeat (go_big_quiet_step (first
          | (go_at_call_of 19 (#[Value.int .i64 p0, Value.int .i64 3] : Array Value); exact Later.same (within_at p0 3 q0 _ y0 (by omega) (by omega) E0.out))
          | (go_at_call_of 19 (#[Value.int .i64 p1, Value.int .i64 1000] : Array Value); exact Later.same (within_at p1 1000 q1 _ y1 (by omega) (by omega) E1.out))))
        refine wpQuiet_nil ?_
        rintro _ ⟨x, rfl⟩
        have ma := P.out.a.below x.b
        have mb := P.out.b.below x.b
        have mm := BM.out.below x.b BM.out.lt
        have mw := P.out.w.trans (x.b.mono zr)
        have x2' := x.cell x2
        have x3' := x.cell x3
        obtain ⟨w3, hw3⟩ : ∃ w3, w3 = x.w := ⟨_, rfl⟩
        rw [← hw3] at ma mb mm mw x2' x3' ⊢
        have MA := Lib.hid ma
        have MB := Lib.hid mb
        have MM := Lib.hid mm
        have MW := Lib.hid mw
        have z3 := mw.size
        clear ma mb mm mw hw3 x X0' X1' x0 x1 x2 x3
        have ap := AP.out
        have iq0 : I64 q0 := I64.of (by omega) (by omega)
        have iq1 : I64 q1 := I64.of (by omega) (by omega)
        have iq2 : I64 q2 := I64.of (by omega) (by omega)
        have iq3 : I64 q3 := I64.of (by omega) (by omega)
        have nm1 : gm ∉ [la] := by have := ap.h2.2.2; simp; omega
        have nb1' : gb ∉ [la] := by have := ap.h2; simp; omega
        have nb2' : lb ∉ [la] := by have := ap.h2; simp; omega
        have na1' : ga ∉ [lb] := by have := ap.h1; simp; omega
        have na2' : la ∉ [lb] := by have := ap.h2; simp; omega
        have nm2 : gm ∉ [lb] := by have := ap.h3; simp; omega
        have ng1 : ga ≠ gm := ap.h1.2.2
        have ng2 : la ≠ gm := ap.h2.2.2
        have ng3 : gb ≠ gm := ap.h3.1
        have ng4 : lb ≠ gm := ap.h3.2
        have o1 := ap.h4
        clear ap
        go_wp2_with fail
        refine (add_c ga la A q0 q1 _ MA.out (by rw [L1.out]; omega) RA.out iq0 iq1 true SA.out.1 A' SA.out.2).mono ?_; rintro e w4 ⟨rfl, ma4, oa⟩
        have MA4 := Lib.hid ma4
        have MB4 := Lib.hid (MB.out.only oa nb1' nb2')
        have mm4 := MM.out.only oa nm1
        have MW4 := Lib.hid (oa.below MW.out z3 (by simp; omega))
        have x24 := oa.cell_ x2' (by simp; omega)
        have x34 := oa.cell_ x3' (by simp; omega)
        have z4 := MW4.out.size
        have g0 : w4.cell? ⟨gm, 0, none⟩ = some (.int .i64 u0) := mm4.cell 0
        have g1 : w4.cell? ⟨gm, 1, none⟩ = some (.int .i64 v0) := mm4.cell 1
        have g2 : w4.cell? ⟨gm, 2, none⟩ = some (.int .i64 u1) := mm4.cell 2
        have g3 : w4.cell? ⟨gm, 3, none⟩ = some (.int .i64 v1) := mm4.cell 3
        have g4 : w4.cell? ⟨gm, 4, none⟩ = some (.int .i64 u2) := mm4.cell 4
        have g5 : w4.cell? ⟨gm, 5, none⟩ = some (.int .i64 v2) := mm4.cell 5
        have r0 := mm4.frozen 0
        have r1 := mm4.frozen 1
        have r2 := mm4.frozen 2
        have r3 := mm4.frozen 3
        have r4 := mm4.frozen 4
        have r5 := mm4.frozen 5
        have MM4 := Lib.hid mm4
        clear ma4 oa mm4 x2' x3'
        have nb0m : b0 ≠ gm := by omega
        have nb1m : b1 ≠ gm := by omega
        rcases (show q0 = 0 ∨ q0 = 1 ∨ q0 = 2 by omega) with h | h | h
        all_goals
          subst h
          have HS := Lib.hid (show A' = _ by first | exact S0.out rfl | exact S1.out rfl | exact S2.out rfl)
          go_wp2_with fail
          (first
            | (obtain ⟨w5, hw5⟩ : ∃ w5, w5 = (w4.setCell ⟨gm, 0, none⟩ (.int .i64 (u0 + 1))).setCell ⟨gm, 1, none⟩ (.int .i64 (v0 + q1)) := ⟨_, rfl⟩; rw [← hw5]; have mm5 := Lib.hid (show Blk w5 gm 54 (cells A') by rw [HS.out, hw5]; exact (MM4.out.set_ 0 _).set_ 1 _))
            | (obtain ⟨w5, hw5⟩ : ∃ w5, w5 = (w4.setCell ⟨gm, 2, none⟩ (.int .i64 (u1 + 1))).setCell ⟨gm, 3, none⟩ (.int .i64 (v1 + q1)) := ⟨_, rfl⟩; rw [← hw5]; have mm5 := Lib.hid (show Blk w5 gm 54 (cells A') by rw [HS.out, hw5]; exact (MM4.out.set_ 2 _).set_ 3 _))
            | (obtain ⟨w5, hw5⟩ : ∃ w5, w5 = (w4.setCell ⟨gm, 4, none⟩ (.int .i64 (u2 + 1))).setCell ⟨gm, 5, none⟩ (.int .i64 (v2 + q1)) := ⟨_, rfl⟩; rw [← hw5]; have mm5 := Lib.hid (show Blk w5 gm 54 (cells A') by rw [HS.out, hw5]; exact (MM4.out.set_ 4 _).set_ 5 _)))
          have o5 : Only [gm] w4 w5 := by rw [hw5]; exact ((Only.refl _ _).setCell (.inl (by simp)) _).setCell (.inl (by simp)) _
          have x25 := o5.cell_ x24 (by simpa using nb0m)
          have x35 := o5.cell_ x34 (by simpa using nb1m)
          have MA5 := Lib.hid (MA4.out.only o5 (by simpa using ng1) (by simpa using ng2))
          have MB5 := Lib.hid (MB4.out.only o5 (by simpa using ng3) (by simpa using ng4))
          have MW5 := Lib.hid (o5.below MW4.out z4 (by simp; omega))
          have z5 := MW5.out.size
          have lb0 : b0 ∉ [lb] := by simp; omega
          have lb1 : b1 ∉ [lb] := by simp; omega
          clear hw5 o5 x24 x34 g0 g1 g2 g3 g4 g5 r0 r1 r2 r3 r4 r5
          go_region_held3 (fun w' => w'.cell? ⟨b0, f0 + j, none⟩ = some (.int .i64 p2) ∧ w'.cell? ⟨b1, f1 + j, none⟩ = some (.int .i64 p3))
            (first | exact ⟨d0, d1⟩ | go_keep)
            (first
              | (go_at_call_of 19 (#[Value.int .i64 p2, Value.int .i64 3] : Array Value); refine (within_at p2 3 q2 _ y2 (by omega) (by omega) E2.out).mono ?_; rintro e w' ⟨rfl, rfl⟩)
              | (go_at_call_of 19 (#[Value.int .i64 p3, Value.int .i64 1000] : Array Value); refine (within_at p3 1000 q3 _ y3 (by omega) (by omega) E3.out).mono ?_; rintro e w' ⟨rfl, rfl⟩)
              | (go_at_call 21; refine (add_c gb lb B q2 q3 _ MB5.out.drew (by rw [L2.out]; omega) RB.out iq2 iq3 true SB.out.1 B' SB.out.2).mono ?_; rintro e w6 ⟨rfl, mb6, ob⟩; have d0 := ob.cell_ (p := ⟨b0, f0 + j, none⟩) x25 lb0; have d1 := ob.cell_ (p := ⟨b1, f1 + j, none⟩) x35 lb1))
          all_goals
            have P6 := Lib.hid (show Pl w w6 ga la gb lb gm A' B' from ⟨MA5.out.drew.only ob na1' na2', mb6, mm5.out.drew.only ob nm2, ob.below MW5.out.drew z5 (by simp; omega)⟩)
            clear mb6 ob d0 d1
            go_wp2_with fail
            go_roundw
            case rel => exact ⟨k + 1, by omega, by go_num, by rw [← HA'.out, ← HB'.out]; exact P6.out⟩
            case measure => simp [intOf]; omega
      · have hkm' : k = m := by omega
        go_wp2_with fail
        go_meet
        have hp := P.out
        rw [hkm', mk_rev] at hp
        exact hp
  case rest =>
    have hsum := mk_sum (T := T) KB.out m
    have hbd := mk_bd (K := K) TB.out m m60
    obtain ⟨u0, v0, u1, v1, u2, v2, hA⟩ : ∃ u0 v0 u1 v1 u2 v2 : Int, mk K T m = [(u0, v0), (u1, v1), (u2, v2)] := ⟨_, _, _, _, _, _, rfl⟩
    rw [hA] at hcut hsum hbd
    obtain ⟨A, hAe⟩ : ∃ A, A = [(u0, v0), (u1, v1), (u2, v2)] := ⟨_, rfl⟩
    rw [← hAe] at hcut hsum hbd
    have P := Lib.hid hcut
    have USUAL := Lib.hid (show Usual A from fun z hz => by have := hbd z hz; omega)
    have b0 := hbd (u0, v0) (by rw [hAe]; simp)
    have b1 := hbd (u1, v1) (by rw [hAe]; simp)
    have b2 := hbd (u2, v2) (by rw [hAe]; simp)
    have t0 := Lib.hid (show atOf A 0 = (u0, v0) by rw [hAe]; rfl)
    have t1 := Lib.hid (show atOf A 1 = (u1, v1) by rw [hAe]; rfl)
    have t2 := Lib.hid (show atOf A 2 = (u2, v2) by rw [hAe]; rfl)
    have t3 := Lib.hid (show atOf A 3 = (0, 0) by rw [hAe]; rfl)
    have t4 := Lib.hid (show atOf A (-1) = (0, 0) by rw [hAe]; rfl)
    have len := Lib.hid (show A.length = 3 by rw [hAe]; rfl)
    have CE := Lib.hid (show cells A = #[.int .i64 u0, .int .i64 v0, .int .i64 u1, .int .i64 v1, .int .i64 u2, .int .i64 v2] by rw [hAe]; rfl)
    have HS := Lib.hid hsum
    have eqs : ∀ u, 0 ≤ u ∧ u ≤ 60000 → (FloatKind.f64.format.order (fw u) (fw u) == some .eq) = true := fun u hu => eq_fw (Small.of (n := u) (by omega) (by omega)) (Small.of (n := u) (by omega) (by omega)) true (by simp)
    have q0 := eqs u0 ⟨b0.1, b0.2.1⟩
    have q1 := eqs v0 b0.2.2
    have q2 := eqs u1 ⟨b1.1, b1.2.1⟩
    have q3 := eqs v1 b1.2.2
    have q4 := eqs u2 ⟨b2.1, b2.2.1⟩
    have q5 := eqs v2 b2.2.2
    have qm := eqs m (by omega)
    have qm' : (FloatKind.f64.format.order (fw m) (floatOfInt .f64 m) == some .eq) = true := qm
    clear hcut hsum hbd hA hAe eqs
    go_upto_block 2 with fail
    go_cut [15] (fun s15 wx => Pl w wx ga la gb lb gm A A)
    case first =>
      go_wp2_with fail
      go_loopw [15] (fun i wr => ∃ k : Nat, k ≤ 3 ∧ i = .int .i64 k ∧ Pl w wr ga la gb lb gm A A) (fun i _ => 3 - (intOf i).toNat)
      case atStart => exact ⟨0, by omega, rfl, P.out⟩
      case round =>
        obtain ⟨k, hk, rfl, hP⟩ := hrel
        have hM : Blk wr gm 54 #[.int .i64 u0, .int .i64 v0, .int .i64 u1, .int .i64 v1, .int .i64 u2, .int .i64 v2] := by rw [← CE.out]; exact hP.m
        have PP := Lib.hid hP
        have zr := hP.w.size
        have x0 := fun (x : Later wr) => hM.laterCell (i := 0) (v := .int .i64 u0) rfl x
        have x1 := fun (x : Later wr) => hM.laterCell (i := 1) (v := .int .i64 v0) rfl x
        have x2 := fun (x : Later wr) => hM.laterCell (i := 2) (v := .int .i64 u1) rfl x
        have x3 := fun (x : Later wr) => hM.laterCell (i := 3) (v := .int .i64 v1) rfl x
        have x4 := fun (x : Later wr) => hM.laterCell (i := 4) (v := .int .i64 u2) rfl x
        have x5 := fun (x : Later wr) => hM.laterCell (i := 5) (v := .int .i64 v2) rfl x
        clear hM hP
        rcases (show k = 0 ∨ k = 1 ∨ k = 2 ∨ k = 3 by omega) with rfl | rfl | rfl | rfl
        · go_wp2_with fail
          refine wp_region_later (by kernel_rfl) (by kernel_rfl) ?_
          repeat (go_big_quiet_step (first
            | (go_at_call_of 22 (#[Value.pointer (some ⟨ga, 0, none⟩), Value.int .i64 0] : Array Value); exact Later.same (at_c ga la A 0 _ (meterLater PP.out.a _) (by rw [len.out]; omega) (I64.of (by omega) (by omega)) _ t0.out))
            | (go_at_call_of 22 (#[Value.pointer (some ⟨gb, 0, none⟩), Value.int .i64 0] : Array Value); exact Later.same (at_c gb lb A 0 _ (meterLater PP.out.b _) (by rw [len.out]; omega) (I64.of (by omega) (by omega)) _ t0.out))
            | (go_at_call 14; exact Later.call (z_c _ _ _))))
          refine wpQuiet_nil ?_
          rintro _ ⟨x, rfl⟩
          go_wp2_with fail
          go_roundw
          case rel => exact ⟨1, by omega, by go_num, PP.out.later x⟩
          case measure => simp [intOf]
        · go_wp2_with fail
          refine wp_region_later (by kernel_rfl) (by kernel_rfl) ?_
          repeat (go_big_quiet_step (first
            | (go_at_call_of 22 (#[Value.pointer (some ⟨ga, 0, none⟩), Value.int .i64 1] : Array Value); exact Later.same (at_c ga la A 1 _ (meterLater PP.out.a _) (by rw [len.out]; omega) (I64.of (by omega) (by omega)) _ t1.out))
            | (go_at_call_of 22 (#[Value.pointer (some ⟨gb, 0, none⟩), Value.int .i64 1] : Array Value); exact Later.same (at_c gb lb A 1 _ (meterLater PP.out.b _) (by rw [len.out]; omega) (I64.of (by omega) (by omega)) _ t1.out))
            | (go_at_call 14; exact Later.call (z_c _ _ _))))
          refine wpQuiet_nil ?_
          rintro _ ⟨x, rfl⟩
          go_wp2_with fail
          go_roundw
          case rel => exact ⟨2, by omega, by go_num, PP.out.later x⟩
          case measure => simp [intOf]
        · go_wp2_with fail
          refine wp_region_later (by kernel_rfl) (by kernel_rfl) ?_
          repeat (go_big_quiet_step (first
            | (go_at_call_of 22 (#[Value.pointer (some ⟨ga, 0, none⟩), Value.int .i64 2] : Array Value); exact Later.same (at_c ga la A 2 _ (meterLater PP.out.a _) (by rw [len.out]; omega) (I64.of (by omega) (by omega)) _ t2.out))
            | (go_at_call_of 22 (#[Value.pointer (some ⟨gb, 0, none⟩), Value.int .i64 2] : Array Value); exact Later.same (at_c gb lb A 2 _ (meterLater PP.out.b _) (by rw [len.out]; omega) (I64.of (by omega) (by omega)) _ t2.out))
            | (go_at_call 14; exact Later.call (z_c _ _ _))))
          refine wpQuiet_nil ?_
          rintro _ ⟨x, rfl⟩
          go_wp2_with fail
          go_roundw
          case rel => exact ⟨3, by omega, by go_num, PP.out.later x⟩
          case measure => simp [intOf]
        · go_wp2_with fail
          go_meet
          exact PP.out
    case rest =>
      have C := Lib.hid hcut
      have z0 := hcut.w.size
      clear hcut
      go_wp2_with fail
      refine (mall_c ga la A _ C.out.a (by rw [len.out]; omega) (by rw [len.out]; omega)).mono ?_; rintro e w3 ⟨g, cap, rfl, hr, hg, hb⟩
      rw [len.out] at hr ⊢
      have HR := Lib.hid (own_vrow (hr.own (Nat.zero_le _)))
      have C3 := Lib.hid (C.out.below hb)
      have z3 := C3.out.w.size
      clear hr hb
      go_wp2_with fail
      refine (total_c _ 3 cap A _ HR.out USUAL.out (by omega)).mono ?_; rintro e w' ⟨rfl, rfl⟩
      rw [HS.out]
      go_wp2_with fail
      refine (total_c none 0 0 [] _ (VRow.nil _ _ _) (fun z hz => by cases hz) (by omega)).mono ?_; rintro e w' ⟨rfl, rfl⟩
      rw [show fw (sumN []) = 0 from fw_zero, show fw (sumT []) = 0 from fw_zero]
      go_wp2_with fail
      refine (at_c ga la A 3 _ C3.out.a (by rw [len.out]; omega) (I64.of (by omega) (by omega)) _ t3.out).mono ?_; rintro e w' ⟨rfl, rfl⟩
      rw [show fw ((0, 0) : Int × Int).1 = 0 from fw_zero]
      go_wp2_with fail
      refine (at_c ga la A (-1) _ C3.out.a (by rw [len.out]; omega) (I64.of (by omega) (by omega)) _ t4.out).mono ?_; rintro e w' ⟨rfl, rfl⟩
      rw [show fw ((0, 0) : Int × Int).1 = 0 from fw_zero]
      go_wp2_with fail
      refine (mwakes_c _).mono ?_; rintro e w4 ⟨rfl, hb4⟩
      go_wp2
      go_ret
      exact ⟨rfl, C3.out.w.trans (hb4.mono z3)⟩

theorem lawWalk : LawWalk Try.checked 6 Try.f6 := by
  intro H enc W base args ds p hval hA hsz
  rw [Try.params6] at hA hval
  obtain ⟨v0, vs0, d0, ds0, p0, q0, hargs, rfl, rfl, h0, r0⟩ := trodAll_cons hA
  obtain ⟨v1, vs1, d1, ds1, p1, q1, rfl, rfl, rfl, h1, r1⟩ := trodAll_cons r0
  obtain ⟨rfl, rfl, rfl⟩ := trodAll_nil r1
  obtain rfl : args = #[v0, v1] := by cases args; simp_all
  obtain ⟨a0, n0, c0, xs0, rfl, hnc0, hcm0, hr0, hx0⟩ := open_int_slice Try.underlying51 Try.underlying3 (by kernel_rfl) (hval 0 51 v0 rfl rfl) h0
  obtain ⟨a1, n1, c1, xs1, rfl, hnc1, hcm1, hr1, hx1⟩ := open_int_slice Try.underlying51 Try.underlying3 (by kernel_rfl) (hval 1 51 v1 rfl rfl) h1
  exact walk a0 n0 c0 xs0 a1 n1 c1 xs1 W hr0 (Nat.le_trans hnc0 hcm0) hx0 hr1 (Nat.le_trans hnc1 hcm1) hx1

theorem lifted (os : Os) (started : os.Started) (H : Type) (enc : TypeId × Value → H) :
    ReturnsInHanded {} Try.checked os 6 .any (Rows.meterOrdersSpec.pre6 enc Try.prog Try.f6 Rows.meterOrdersRow.domain false) (Rows.meterOrdersSpec.post enc Try.prog Try.f6 false true false false) :=
  law_lift (C := Try.checked) (s := Rows.meterOrdersSpec) (tb := 4) (by kernel_rfl) started (by kernel_rfl) Try.func6
    (ChangeSpec.witness6 (enc := enc) (C := Try.checked) false ⟨#[], #[.slice none 0 0, .slice none 0 0], []⟩ 8 (by kernel_rfl) (by kernel_rfl) (by kernel_rfl) (by kernel_rfl))
    rfl (fun H ds h => by
      match ds, h with
      | [d0, d1], _ => rfl) (by kernel_rfl) (by kernel_rfl) (by kernel_rfl) Try.underlying4 lawWalk

theorem over : Rows.meterOrdersRow.holds Try.pinned (OpenSpec.ofChange Rows.meterOrdersSpec) :=
  OpenClaim.holds_of_wide 6 Try.f6 rfl rfl rfl rfl rfl rfl rfl ⟨rfl, rfl, rfl, rfl, rfl⟩ rfl rfl rfl rfl rfl (by kernel_rfl) Try.func6 (by kernel_rfl)
    (of_decide_eq_true (by kernel_rfl)) (by unfold Func.isWrapper; first | (rw [if_pos (by decide +kernel)]; kernel_rfl) | (rw [if_neg (by decide +kernel)]; exact ⟨rfl, rfl⟩))
    (fun os started H enc _ => lifted os started H enc)

/-- The statement. -/
theorem proved : Rows.MeterOrdersSaid := over
#print axioms proved

end Go.Proofs.Ytfeepofdnjnkpaa.MeterOrders
