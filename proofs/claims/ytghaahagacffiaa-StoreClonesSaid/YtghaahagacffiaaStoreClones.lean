/- StoreClones: for all lists of operations the law returns true: a clone is the same, and goes its own way. No condition. -/
import Derived.Test.YtghaahagacffiaaRight
import Derived.Test.YtghaahagacffiaaRClone
import Derived.Test.YtghaahagacffiaaStoreP
import Derived.Test.YtghaahagacffiaaRows
import Derived.Deep.DeepCutAuto
import Derived.Deep.CutBlock
import Derived.Test.YtghaahagacffiaaLater
namespace Go.Proofs.Ytghaahagacffiaa.StoreClones
open Go.RowKit Go.ChangeShapes Go.WideShapes Go.ChangeAt
set_option linter.unusedVariables false

def Pair (wx : World) (gs gr : Nat) (s : List (Bool × Int)) : Prop := Store wx gs s ∧ RStore wx gr s ∧ Smalls s ∧ Zeros s
theorem Pair.only {w w' : World} {gs gr : Nat} {s : List (Bool × Int)} {S : List Nat} (h : Pair w gs gr s) (ho : Only S w w') (h1 : gs ∉ S) (h2 : gr ∉ S) : Pair w' gs gr s := ⟨h.1.only ho h1, h.2.1.only ho h2, h.2.2⟩
theorem Pair.below {w w' : World} {gs gr : Nat} {s : List (Bool × Int)} (h : Pair w gs gr s) (hb : Below w.heap.size w w') : Pair w' gs gr s := ⟨h.1.below hb, h.2.1.below hb, h.2.2⟩
def Rel1 (w wr : World) (gs gr n : Nat) (i : Value) : Prop := ∃ k : Nat, k ≤ n ∧ i = .int .i64 k ∧ ∃ s, Pair wr gs gr s ∧ Below w.heap.size w wr
def Cut1 (w wx : World) (gs gr : Nat) : Prop := ∃ s, Pair wx gs gr s ∧ Below w.heap.size w wx
def Rel2 (w wr : World) (gs gr gt gq n : Nat) (t : List (Bool × Int)) (i : Value) : Prop := ∃ k : Nat, k ≤ n ∧ i = .int .i64 k ∧ ∃ s, Pair wr gs gr s ∧ Pair wr gt gq t ∧ Below w.heap.size w wr
def Cut2 (w wx : World) (gs gr gt gq : Nat) (t : List (Bool × Int)) : Prop := ∃ s, Pair wx gs gr s ∧ Pair wx gt gq t ∧ Below w.heap.size w wx

/-- One operation of a quiet walk whose value is told. -/
theorem wpQuiet_run {P : Program} {ops : Array Oper} {C : World → Prop} {Q : Act → Prop} {a : Act} {o : Oper} {rest : List Oper} (hw : Region.wanted o (yielded ops a.tmps) = true) (v : Value)
    (hr : ∀ w, C w → (execOp a.eval o).run P w = .ok (.value v) w) (h : wpQuiet P ops C Q rest (a.put o.dst v)) : wpQuiet P ops C Q (o :: rest) a :=
  wpQuiet_step fun K hK => by
    rw [if_pos hw]
    exact ⟨v, fun w hC => by unfold Oper.quietAt; rw [hr w hC]; exact ⟨rfl, rfl⟩, hK _ h⟩
theorem exec_load {P : Program} {a : Act} {o : Oper} (ty : TypeId) (x : Operand) (ho : o.op = .load ty x) (g : Nat) (hx : a.eval x = .pointer (some ⟨g, 0, none⟩)) (w : World) (t : TypeId) (cs : Array Value) (d : TypeDesc) (hg : Blk w g t cs)
    (hu : P.underlying ty = some d) (hd : (match d with | .struct _ | .array _ _ => true | _ => false) = true) (hi : (P.info? ty).map (·.size) = some cs.size) : (execOp a.eval o).run P w = .ok (.value (.agg cs)) w := by
  unfold execOp
  simp only [ho, hx, Instr.loadAt, Instr.sureAddr, Sem.run_bind, Sem.run_pure, Result.andThen_ok, run_loadVar_row w g t ty cs (0, 0) d hg hu hd hi]

theorem exec_eql {P : Program} {a : Act} {o : Oper} (t s : TypeId) (x y : Operand) (ho : o.op = .binOp .eql t x y s) (A B : Array Value) (hx : a.eval x = .agg A) (hy : a.eval y = .agg B) (w : World) (b : Bool)
    (hm : P.eqGuardType P.depth t = false) (hr : (binOp .eql t (.agg A) (.agg B)).run P w = .ok (.bool b) w) : (execOp a.eval o).run P w = .ok (.value (.bool b)) w := by
  unfold execOp
  simp only [ho, hx, hy, Sem.run_bind, run_eqGuard_agg w .eql t x y A B hm, Result.andThen_ok, hr, Sem.run_pure]

set_option maxRecDepth 100000 in
set_option maxHeartbeats 6400000 in
theorem walk (a : Option Addr) (n c : Nat) (g : Nat → Int) (a' : Option Addr) (n' c' : Nat) (g' : Nat → Int) (a'' : Option Addr) (n'' c'' : Nat) (g'' : Nat → Int) (w : World)
    (hr : Flat w a n 3 g) (hm : n ≤ maxLen) (hr' : Flat w a' n' 3 g') (hm' : n' ≤ maxLen) (hr'' : Flat w a'' n'' 3 g'') (hm'' : n'' ≤ maxLen) :
    Calls Try.prog 10 #[.slice a n c, .slice a' n' c', .slice a'' n'' c''] w fun e w' => e = .returned (.bool true) ∧ Below w.heap.size w w' := by
  unfold maxLen at hm hm' hm''
  have hR := Lib.hid hr
  have hR' := Lib.hid hr'
  have hR'' := Lib.hid hr''
  have hz := rzero
  have hzs : (rcellsL st0).length = 128 := rcellsL_len st0 rfl
  obtain ⟨Z, hZ⟩ : ∃ Z, Z = (rcellsL st0).toArray := ⟨_, rfl⟩
  rw [← hZ] at hz
  have hZs : Z.size = 128 := by rw [hZ, List.size_toArray, hzs]
  have HZ := Lib.hid hZ
  have HZS := Lib.hid hZs
  clear hr hr' hr'' hZ hzs hZs
  by_cases h60 : n ≤ 60 ∧ n' ≤ 60 ∧ n'' ≤ 60
  · obtain ⟨l1, l2, l3⟩ := h60
    go_enter Try.func10, Try.ntmps10
    go_wp2_with fail
    refine (new_c _).mono ?_; rintro e w1 ⟨gs, rfl, s1, hgs, hb1⟩
    have S1 := Lib.hid s1
    have z1 := hb1.size
    clear s1
    go_upto_block 0 with fail
    obtain ⟨w2, hw2⟩ : ∃ w2, w2 = w1.alloc (.cells Z 40) := ⟨_, rfl⟩
    obtain ⟨gr, hgr⟩ : ∃ gr, gr = w1.heap.size := ⟨_, rfl⟩
    rw [← hw2, ← hgr]
    have hb12 : Below w1.heap.size w1 w2 := by rw [hw2]; exact (Below.refl _ _).alloc (Nat.le_refl _) _
    have R2 := Lib.hid (show RStore w2 gr st0 from ⟨by rw [hw2, hgr, HZ.out]; exact Blk.new _ _ _, rfl⟩)
    have S2 := Lib.hid (S1.out.below hb12)
    have hb2 : Below w.heap.size w w2 := hb1.trans (hb12.mono z1)
    have lt1 := S1.out.lt
    have hgr0 : w.heap.size ≤ gr := by omega
    have hne : gr ≠ gs := by omega
    clear hw2 hgr hb12 hb1 S1
    go_cut [41] (fun s41 wx => Cut1 w wx gs gr)
    case first =>
      go_wp2_with fail
      go_loopw [41] (fun i wr => Rel1 w wr gs gr n i) (fun i _ => n - (intOf i).toNat)
      case atStart => exact ⟨0, by omega, rfl, _, ⟨S2.out, R2.out, Smalls.zero, Zeros.zero⟩, hb2⟩
      case round =>
        obtain ⟨k, hkn, rfl, s, hP, hb⟩ := hrel
        have HP := Lib.hid hP
        have hwr := hb.size
        have HB := Lib.hid hb
        clear hP hb
        by_cases hlt : k < n
        · obtain ⟨hi64, hrow⟩ := hR.out
          obtain ⟨b, off, rfl, hbl, hcell⟩ := hrow (by omega)
          have cw : ∀ j, j < 3 → wr.cell? ⟨b, off + k * 3 + j, none⟩ = some (.int .i64 (g (k * 3 + j))) := fun j hj => by
            rw [HB.out.cell (p := ⟨b, off + k * 3 + j, none⟩) hbl, Nat.add_assoc]
            exact hcell _ (by omega)
          have c0 : wr.cell? ⟨b, off + k * 3, none⟩ = some (.int .i64 (g (k * 3))) := cw 0 (by omega)
          have c1 := cw 1 (by omega)
          have c2 := cw 2 (by omega)
          have x0 := hi64 (k * 3)
          have x1 := hi64 (k * 3 + 1)
          have x2 := hi64 (k * 3 + 2)
          obtain ⟨u0, hu0⟩ : ∃ u, u = g (k * 3) := ⟨_, rfl⟩
          obtain ⟨u1, hu1⟩ : ∃ u, u = g (k * 3 + 1) := ⟨_, rfl⟩
          obtain ⟨u2, hu2⟩ : ∃ u, u = g (k * 3 + 2) := ⟨_, rfl⟩
          rw [← hu0] at c0 x0
          rw [← hu1] at c1 x1
          rw [← hu2] at c2 x2
          have i0 : (0 : Int) ≤ k := by omega
          have i1 : (k : Int) < n := by omega
          have n1 : b ≠ gs := by omega
          have n2 : b ≠ gr := by omega
          clear cw hcell hrow hu0 hu1 hu2
          go_wp2_with fail
          refine (apply_c gs s u0 u1 u2 _ HP.out.1 HP.out.2.2.1 x0 x1 x2 _ rfl _ rfl).mono ?_; rintro e w3 ⟨rfl, hS3, o3⟩
          have d0 := o3.cell_ (p := ⟨b, off + k * 3, none⟩) c0 (by simpa using n1)
          have d1 := o3.cell_ (p := ⟨b, off + k * 3 + 1, none⟩) c1 (by simpa using n1)
          have d2 := o3.cell_ (p := ⟨b, off + k * 3 + 2, none⟩) c2 (by simpa using n1)
          have HS3 := Lib.hid hS3
          have HO3 := Lib.hid o3
          have HR3 := Lib.hid (HP.out.2.1.only o3 (by simpa using hne))
          have HB3 := Lib.hid (o3.below HB.out hwr (by simpa using hgs))
          clear hS3 o3 c0 c1 c2
          go_wp2_with fail
          refine (rapply_c gr s u0 u1 u2 _ HR3.out HP.out.2.2.1 x0 x1 x2 _ rfl _ rfl).mono ?_; rintro e w4 ⟨rfl, hR4, o4⟩
          have HP4 := Lib.hid (show Pair w4 gs gr (opSt s u0 u1 u2) from ⟨HS3.out.only o4 (by simpa using (Ne.symm hne)), hR4, HP.out.2.2.1.op _ _ _, HP.out.2.2.2.op _ _ _⟩)
          have HB4 := Lib.hid (o4.below HB3.out HB3.out.size (by simpa using hgr0))
          clear hR4 o4 d0 d1 d2
          go_wp2_with fail
          go_roundw
          case rel => exact ⟨k + 1, by omega, by go_num, _, HP4.out, HB4.out⟩
          case measure => simp [intOf]; omega
        · go_wp2_with fail
          go_meet
          exact ⟨s, HP.out, HB.out⟩
    case rest =>
      obtain ⟨s, hP, hb⟩ := hcut
      have HP := Lib.hid hP
      have z0 := hb.size
      clear hP
      go_wp2_with fail
      refine (sclone_c gs s _ HP.out.1).mono ?_; rintro e w3 ⟨gt, rfl, hT, hgt, hb3⟩
      have HP3 := Lib.hid (HP.out.below hb3)
      have HT3 := Lib.hid hT
      have HB3 := Lib.hid (hb.trans (hb3.mono z0))
      have ltS := HP.out.1.lt
      have ltR := HP.out.2.1.lt
      have z3 := HB3.out.size
      clear hT hb3
      go_wp2_with fail
      refine (ssame_c gs gt s s _ HP3.out.1 HT3.out true (decide_eq_true rfl)).mono ?_; rintro e w5 ⟨rfl, hb5⟩
      have HP5 := Lib.hid (HP3.out.below hb5)
      have HT5 := Lib.hid (HT3.out.below hb5)
      have HB5 := Lib.hid (HB3.out.trans (hb5.mono z3))
      have ltT := HT3.out.lt
      have z5 := HB5.out.size
      have z35 := hb5.size
      have hA : (rcellsL s).toArray.size = 128 := by rw [List.size_toArray, rcellsL_len s HP5.out.2.1.n]
      have HA := Lib.hid hA
      have hg1 := Lib.hid (show w5.heap[gr]? = some (.cells (rcellsL s).toArray 40 (0, 0)) from HP5.out.2.1.b)
      have hsz1 := Lib.hid (show (Try.prog.info? 40).map (·.size) = some (rcellsL s).toArray.size by rw [hA]; kernel_rfl)
      have hth := Lib.hid (show (w5.alloc (.cells Z 40)).there w5.heap.size 0 (rcellsL s).toArray.size by
        have := there_blk (Blk.new w5 40 Z)
        rw [HZS.out] at this
        rw [hA]
        exact this)
      have hone := Lib.hid (all_oneCell_toArray (rcells_one s))
      clear hb5 hA
      go_upto_block 2 with (first | (refine wpList_load_row rfl 40 (.tmp 68) rfl gr rfl 40 (rcellsL s).toArray (0, 0) _ hg1.out Try.underlying40 rfl hsz1.out ?_) | (refine wpList_store_mid rfl 40 (.tmp 11) (.tmp 69) rfl w5.heap.size 0 (rcellsL s).toArray rfl rfl hth.out hsz1.out hone.out ?_))
      obtain ⟨w6, hw6⟩ : ∃ w6, w6 = (w5.alloc (.cells Z 40)).setCells w5.heap.size 0 (rcellsL s) := ⟨_, rfl⟩
      obtain ⟨gq, hgq⟩ : ∃ gq, gq = w5.heap.size := ⟨_, rfl⟩
      rw [← hgq] at hw6
      rw [← hgq, ← hw6]
      have hq6 : RStore w6 gq s := by
        refine ⟨?_, HP5.out.2.1.n⟩
        rw [hw6]
        refine blk_fill (L := Z.toList) ?_ ?_
        · rw [hgq]; exact Blk.new w5 _ Z
        · rw [Array.length_toList, HZS.out, rcellsL_len s HP5.out.2.1.n]
      have ho6 : Only [gq] w5 w6 := by rw [hw6]; exact only_setCells (by simp) _ _ _ _ ((Only.refl _ _).alloc _)
      have lq1 := HP5.out.1.lt
      have lq2 := HP5.out.2.1.lt
      have lq3 := HT5.out.lt
      have HP6 := Lib.hid (HP5.out.only ho6 (by simp; omega) (by simp; omega))
      have HK6 := Lib.hid (show Pair w6 gt gq s from ⟨HT5.out.only ho6 (by simp; omega), hq6, HP5.out.2.2⟩)
      have HB6 := Lib.hid (ho6.below HB5.out z5 (by simp; omega))
      have hgt0 : w.heap.size ≤ gt := by omega
      have hgq0 : w.heap.size ≤ gq := by omega
      have m1 : gt ≠ gs := by omega
      have m2 : gt ≠ gr := by omega
      have m3 : gq ≠ gs := by omega
      have m4 : gq ≠ gr := by omega
      have m5 : gq ≠ gt := by omega
      clear hw6 hgq hq6 ho6 HP5 HT5 HB5 HP3 HT3 HB3 hg1 hsz1 hth hone HA
      go_cut [72] (fun s72 wx => Cut2 w wx gs gr gt gq s)
      case first =>
        go_wp2_with fail
        go_loopw [72] (fun i wr => Rel2 w wr gs gr gt gq n' s i) (fun i _ => n' - (intOf i).toNat)
        case atStart => exact ⟨0, by omega, rfl, s, HP6.out, HK6.out, HB6.out⟩
        case round =>
          obtain ⟨k, hkn, rfl, s, hP, hK, hb⟩ := hrel
          have HP := Lib.hid hP
          have HK := Lib.hid hK
          have hwr := hb.size
          have HB := Lib.hid hb
          clear hP hK hb
          by_cases hlt : k < n'
          · obtain ⟨hi64, hrow⟩ := hR'.out
            obtain ⟨b, off, rfl, hbl, hcell⟩ := hrow (by omega)
            have cw : ∀ j, j < 3 → wr.cell? ⟨b, off + k * 3 + j, none⟩ = some (.int .i64 (g' (k * 3 + j))) := fun j hj => by
              rw [HB.out.cell (p := ⟨b, off + k * 3 + j, none⟩) hbl, Nat.add_assoc]
              exact hcell _ (by omega)
            have c0 : wr.cell? ⟨b, off + k * 3, none⟩ = some (.int .i64 (g' (k * 3))) := cw 0 (by omega)
            have c1 := cw 1 (by omega)
            have c2 := cw 2 (by omega)
            have x0 := hi64 (k * 3)
            have x1 := hi64 (k * 3 + 1)
            have x2 := hi64 (k * 3 + 2)
            obtain ⟨u0, hu0⟩ : ∃ u, u = g' (k * 3) := ⟨_, rfl⟩
            obtain ⟨u1, hu1⟩ : ∃ u, u = g' (k * 3 + 1) := ⟨_, rfl⟩
            obtain ⟨u2, hu2⟩ : ∃ u, u = g' (k * 3 + 2) := ⟨_, rfl⟩
            rw [← hu0] at c0 x0
            rw [← hu1] at c1 x1
            rw [← hu2] at c2 x2
            have i0 : (0 : Int) ≤ k := by omega
            have i1 : (k : Int) < n' := by omega
            have n1 : b ≠ gs := by omega
            have n2 : b ≠ gr := by omega
            clear cw hcell hrow hu0 hu1 hu2
            go_wp2_with fail
            refine (apply_c gs s u0 u1 u2 _ HP.out.1 HP.out.2.2.1 x0 x1 x2 _ rfl _ rfl).mono ?_; rintro e w3 ⟨rfl, hS3, o3⟩
            have d0 := o3.cell_ (p := ⟨b, off + k * 3, none⟩) c0 (by simpa using n1)
            have d1 := o3.cell_ (p := ⟨b, off + k * 3 + 1, none⟩) c1 (by simpa using n1)
            have d2 := o3.cell_ (p := ⟨b, off + k * 3 + 2, none⟩) c2 (by simpa using n1)
            have HS3 := Lib.hid hS3
            have HO3 := Lib.hid o3
            have HR3 := Lib.hid (HP.out.2.1.only o3 (by simpa using hne))
            have HB3 := Lib.hid (o3.below HB.out hwr (by simpa using hgs))
            clear hS3 o3 c0 c1 c2
            go_wp2_with fail
            refine (rapply_c gr s u0 u1 u2 _ HR3.out HP.out.2.2.1 x0 x1 x2 _ rfl _ rfl).mono ?_; rintro e w4 ⟨rfl, hR4, o4⟩
            have HP4 := Lib.hid (show Pair w4 gs gr (opSt s u0 u1 u2) from ⟨HS3.out.only o4 (by simpa using (Ne.symm hne)), hR4, HP.out.2.2.1.op _ _ _, HP.out.2.2.2.op _ _ _⟩)
            have HB4 := Lib.hid (o4.below HB3.out HB3.out.size (by simpa using hgr0))
            have HK4 := Lib.hid ((HK.out.only HO3.out (by simp; omega) (by simp; omega)).only o4 (by simp; omega) (by simp; omega))
            clear hR4 o4 d0 d1 d2
            go_wp2_with fail
            go_roundw
            case rel => exact ⟨k + 1, by omega, by go_num, _, HP4.out, HK4.out, HB4.out⟩
            case measure => simp [intOf]; omega
          · go_wp2_with fail
            go_meet
            exact ⟨s, HP.out, HK.out, HB.out⟩
      case rest =>
        obtain ⟨s2, hP, hK, hb⟩ := hcut
        have HP7 := Lib.hid hP
        have HK7 := Lib.hid hK
        clear hP hK HP6 HK6 HB6 HP hb2
        go_upto_block 4 with fail
        go_cut [90] (fun s90 wx => Cut2 w wx gt gq gs gr s2)
        case first =>
          go_wp2_with fail
          go_loopw [90] (fun i wr => Rel2 w wr gt gq gs gr n'' s2 i) (fun i _ => n'' - (intOf i).toNat)
          case atStart => exact ⟨0, by omega, rfl, s, HK7.out, HP7.out, hb⟩
          case round =>
            obtain ⟨k, hkn, rfl, s, hP, hK, hb⟩ := hrel
            have HP := Lib.hid hP
            have HK := Lib.hid hK
            have hwr := hb.size
            have HB := Lib.hid hb
            clear hP hK hb
            by_cases hlt : k < n''
            · obtain ⟨hi64, hrow⟩ := hR''.out
              obtain ⟨b, off, rfl, hbl, hcell⟩ := hrow (by omega)
              have cw : ∀ j, j < 3 → wr.cell? ⟨b, off + k * 3 + j, none⟩ = some (.int .i64 (g'' (k * 3 + j))) := fun j hj => by
                rw [HB.out.cell (p := ⟨b, off + k * 3 + j, none⟩) hbl, Nat.add_assoc]
                exact hcell _ (by omega)
              have c0 : wr.cell? ⟨b, off + k * 3, none⟩ = some (.int .i64 (g'' (k * 3))) := cw 0 (by omega)
              have c1 := cw 1 (by omega)
              have c2 := cw 2 (by omega)
              have x0 := hi64 (k * 3)
              have x1 := hi64 (k * 3 + 1)
              have x2 := hi64 (k * 3 + 2)
              obtain ⟨u0, hu0⟩ : ∃ u, u = g'' (k * 3) := ⟨_, rfl⟩
              obtain ⟨u1, hu1⟩ : ∃ u, u = g'' (k * 3 + 1) := ⟨_, rfl⟩
              obtain ⟨u2, hu2⟩ : ∃ u, u = g'' (k * 3 + 2) := ⟨_, rfl⟩
              rw [← hu0] at c0 x0
              rw [← hu1] at c1 x1
              rw [← hu2] at c2 x2
              have i0 : (0 : Int) ≤ k := by omega
              have i1 : (k : Int) < n'' := by omega
              have n1 : b ≠ gt := by omega
              have n2 : b ≠ gq := by omega
              clear cw hcell hrow hu0 hu1 hu2
              go_wp2_with fail
              refine (apply_c gt s u0 u1 u2 _ HP.out.1 HP.out.2.2.1 x0 x1 x2 _ rfl _ rfl).mono ?_; rintro e w3 ⟨rfl, hS3, o3⟩
              have d0 := o3.cell_ (p := ⟨b, off + k * 3, none⟩) c0 (by simpa using n1)
              have d1 := o3.cell_ (p := ⟨b, off + k * 3 + 1, none⟩) c1 (by simpa using n1)
              have d2 := o3.cell_ (p := ⟨b, off + k * 3 + 2, none⟩) c2 (by simpa using n1)
              have HS3 := Lib.hid hS3
              have HO3 := Lib.hid o3
              have HR3 := Lib.hid (HP.out.2.1.only o3 (by simpa using m5))
              have HB3 := Lib.hid (o3.below HB.out hwr (by simpa using hgt0))
              clear hS3 o3 c0 c1 c2
              go_wp2_with fail
              refine (rapply_c gq s u0 u1 u2 _ HR3.out HP.out.2.2.1 x0 x1 x2 _ rfl _ rfl).mono ?_; rintro e w4 ⟨rfl, hR4, o4⟩
              have HP4 := Lib.hid (show Pair w4 gt gq (opSt s u0 u1 u2) from ⟨HS3.out.only o4 (by simpa using (Ne.symm m5)), hR4, HP.out.2.2.1.op _ _ _, HP.out.2.2.2.op _ _ _⟩)
              have HB4 := Lib.hid (o4.below HB3.out HB3.out.size (by simpa using hgq0))
              have HK4 := Lib.hid ((HK.out.only HO3.out (by simp; omega) (by simp; omega)).only o4 (by simp; omega) (by simp; omega))
              clear hR4 o4 d0 d1 d2
              go_wp2_with fail
              go_roundw
              case rel => exact ⟨k + 1, by omega, by go_num, _, HP4.out, HK4.out, HB4.out⟩
              case measure => simp [intOf]; omega
            · go_wp2_with fail
              go_meet
              exact ⟨s, HP.out, HK.out, HB.out⟩
        case rest =>
          obtain ⟨s3, hP, hK, hb⟩ := hcut
          have HK8 := Lib.hid hP
          have HP8 := Lib.hid hK
          have hA : (rcellsL s2).toArray.size = 128 := by rw [List.size_toArray, rcellsL_len s2 hK.2.1.n]
          have hA' : (rcellsL s3).toArray.size = 128 := by rw [List.size_toArray, rcellsL_len s3 hP.2.1.n]
          have hsz1 := Lib.hid (show (Try.prog.info? 40).map (·.size) = some (rcellsL s2).toArray.size by rw [hA]; kernel_rfl)
          have hsz2 := Lib.hid (show (Try.prog.info? 40).map (·.size) = some (rcellsL s3).toArray.size by rw [hA']; kernel_rfl)
          obtain ⟨bb, hbb⟩ : ∃ bb, decide (s2 = s3) = bb := ⟨_, rfl⟩
          have HBB := Lib.hid hbb
          have HE := Lib.hid (eq_store s2 s3 hK.2.1.n hP.2.1.n bb hbb)
          have guard : Try.prog.eqGuardType Try.prog.depth 40 = false := by kernel_rfl
          have hguard := Lib.hid guard
          clear hP hK hA hA' hbb guard
          cases bb
          all_goals
            go_wp2_with fail
            refine wp_region_later (by kernel_rfl) (by kernel_rfl) ?_
            repeat (first
              | (refine wpQuiet_run (by kernel_rfl) (.agg (rcellsL s2).toArray) (fun w hC => exec_load 40 (.tmp 117) rfl gr rfl w 40 (rcellsL s2).toArray _ (by obtain ⟨x, rfl⟩ := hC; exact (HP8.out.2.1.below x.b).b) Try.underlying40 rfl hsz1.out) ?_; simp only [Act.put, List.setIfInBounds_toArray, List.set_cons_zero, List.set_cons_succ])
              | (refine wpQuiet_run (by kernel_rfl) (.agg (rcellsL s3).toArray) (fun w hC => exec_load 40 (.tmp 11) rfl gq rfl w 40 (rcellsL s3).toArray _ (by obtain ⟨x, rfl⟩ := hC; exact (HK8.out.2.1.below x.b).b) Try.underlying40 rfl hsz2.out) ?_; simp only [Act.put, List.setIfInBounds_toArray, List.set_cons_zero, List.set_cons_succ])
              | (refine wpQuiet_run (by kernel_rfl) _ (fun w hC => exec_eql 40 _ (.tmp 118) (.tmp 119) rfl (rcellsL s2).toArray (rcellsL s3).toArray rfl rfl w _ hguard.out (HE.out w)) ?_; simp only [Act.put, List.setIfInBounds_toArray, List.set_cons_zero, List.set_cons_succ])
              | go_big_quiet_step (first
                | (go_at_call_of 18 (Value.pointer (some ⟨gs, 0, none⟩)); exact Later.call (right_c gs gr s2 _ (HP8.out.1.below (Later.b _)) (HP8.out.2.1.below (Later.b _)) HP8.out.2.2.2))
                | (go_at_call_of 18 (Value.pointer (some ⟨gt, 0, none⟩)); exact Later.call (right_c gt gq s3 _ (HK8.out.1.below (Later.b _)) (HK8.out.2.1.below (Later.b _)) HK8.out.2.2.2))
                | (go_at_call 20; exact Later.call (ssame_c gs gt s2 s3 _ (HP8.out.1.below (Later.b _)) (HK8.out.1.below (Later.b _)) _ HBB.out))
                | (go_at_call 14; exact Later.call (swakes_c _))))
            refine wpQuiet_nil ?_
            rintro _ ⟨x, rfl⟩
            go_wp2
            go_ret
            exact ⟨rfl, hb.trans (x.b.mono hb.size)⟩
  · have hcase : 60 < n ∨ (¬ 60 < n ∧ 60 < n') ∨ (¬ 60 < n ∧ ¬ 60 < n' ∧ 60 < n'') := by omega
    clear h60
    rcases hcase with q1 | ⟨q1, q2⟩ | ⟨q1, q2, q3⟩
    all_goals
      go_enter Try.func10, Try.ntmps10
      go_wp2_with fail
      refine (new_c _).mono ?_; rintro e w1 ⟨gs, rfl, s1, hgs, hb1⟩
      go_wp2_with fail
      refine (swakes_c _).mono ?_; rintro e w8 ⟨rfl, hb8⟩
      go_wp2
      go_ret
      exact ⟨rfl, hb1.trans (hb8.mono hb1.size)⟩

theorem lawWalk : LawWalk Try.checked 10 Try.f10 := by
  intro H enc W base args ds p hval hA hsz
  rw [Try.params10] at hA hval
  obtain ⟨v0, vs0, d0, ds0, p0, q0, hargs, rfl, rfl, h0, r0⟩ := trodAll_cons hA
  obtain ⟨v1, vs1, d1, ds1, p1, q1, rfl, rfl, rfl, h1, r1⟩ := trodAll_cons r0
  obtain ⟨v2, vs2, d2, ds2, p2, q2, rfl, rfl, rfl, h2, r2⟩ := trodAll_cons r1
  obtain ⟨rfl, rfl, rfl⟩ := trodAll_nil r2
  obtain rfl : args = #[v0, v1, v2] := by cases args; simp_all
  obtain ⟨a0, n0, c0, g0, rfl, hnc0, hcm0, hr0⟩ := open_flat Try.underlying30 Try.underlying27 (by kernel_rfl) (by kernel_rfl) (by decide) (by kernel_rfl) (hval 0 30 v0 rfl rfl) h0
  obtain ⟨a1, n1, c1, g1, rfl, hnc1, hcm1, hr1⟩ := open_flat Try.underlying30 Try.underlying27 (by kernel_rfl) (by kernel_rfl) (by decide) (by kernel_rfl) (hval 1 30 v1 rfl rfl) h1
  obtain ⟨a2, n2, c2, g2, rfl, hnc2, hcm2, hr2⟩ := open_flat Try.underlying30 Try.underlying27 (by kernel_rfl) (by kernel_rfl) (by decide) (by kernel_rfl) (hval 2 30 v2 rfl rfl) h2
  exact walk a0 n0 c0 g0 a1 n1 c1 g1 a2 n2 c2 g2 W hr0 (Nat.le_trans hnc0 hcm0) hr1 (Nat.le_trans hnc1 hcm1) hr2 (Nat.le_trans hnc2 hcm2)

theorem lifted (os : Os) (started : os.Started) (H : Type) (enc : TypeId × Value → H) :
    ReturnsInHanded {} Try.checked os 10 .any (Rows.storeClonesSpec.pre6 enc Try.prog Try.f10 Rows.storeClonesRow.domain false) (Rows.storeClonesSpec.post enc Try.prog Try.f10 false true false false) :=
  law_lift (C := Try.checked) (s := Rows.storeClonesSpec) (tb := 4) (by kernel_rfl) started (by kernel_rfl) Try.func10
    (ChangeSpec.witness6 (enc := enc) (C := Try.checked) false ⟨#[], #[.slice none 0 0, .slice none 0 0, .slice none 0 0], []⟩ 8 (by kernel_rfl) (by kernel_rfl) (by kernel_rfl) (by kernel_rfl))
    rfl (fun H ds h => by
      match ds, h with
      | [d0, d1, d2], _ => rfl) (by kernel_rfl) (by kernel_rfl) (by kernel_rfl) Try.underlying4 lawWalk

theorem over : Rows.storeClonesRow.holds Try.pinned (OpenSpec.ofChange Rows.storeClonesSpec) :=
  OpenClaim.holds_of_wide 10 Try.f10 rfl rfl rfl rfl rfl rfl rfl ⟨rfl, rfl, rfl, rfl, rfl⟩ rfl rfl rfl rfl rfl (by kernel_rfl) Try.func10 (by kernel_rfl)
    (of_decide_eq_true (by kernel_rfl)) (by unfold Func.isWrapper; first | (rw [if_pos (by decide +kernel)]; kernel_rfl) | (rw [if_neg (by decide +kernel)]; exact ⟨rfl, rfl⟩))
    (fun os started H enc _ => lifted os started H enc)

/-- The statement. -/
theorem proved : Rows.StoreClonesSaid := over
#print axioms proved

end Go.Proofs.Ytghaahagacffiaa.StoreClones
