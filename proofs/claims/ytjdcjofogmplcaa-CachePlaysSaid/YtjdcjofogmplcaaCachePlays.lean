/- CachePlays: for every number of clients and all lists of acts the law returns true: whatever is put and asked, a cache answers as a plain one; a clone goes its own way; whether two are one. No condition. -/
import Derived.Test.YtjdcjofogmplcaaCacheDo
import Derived.Test.YtjdcjofogmplcaaRows
import Derived.Test.YtjdcjofogmplcaaArrEq
import Derived.Deep.DeepCutAuto
import Derived.Deep.CutBlock
namespace Go.Proofs.Ytjdcjofogmplcaa.CachePlays
open Go.RowKit Go.ChangeShapes Go.WideShapes Go.ChangeAt
set_option linter.unusedVariables false

def Rel1 (w wr : World) (gc gl gp n len : Nat) (i : Value) : Prop :=
  ∃ k : Nat, k ≤ len ∧ k ≤ 100 ∧ i = .int .i64 k ∧ ∃ st, Cache wr gc gl st ∧ Blk wr gp 69 (plainL st).toArray ∧ st.length = n ∧ Below w.heap.size w wr
def Rel2 (w wr : World) (gc gl gp gd gk gq n len : Nat) (st : List (Int × Int)) (i : Value) : Prop :=
  ∃ k : Nat, k ≤ len ∧ k ≤ 60 ∧ i = .int .i64 k ∧ ∃ st', Cache wr gc gl st ∧ Blk wr gp 69 (plainL st).toArray ∧ Cache wr gd gk st' ∧ Blk wr gq 69 (plainL st').toArray ∧ st'.length = n ∧ Below w.heap.size w wr
def Cut1 (w wx : World) (gc gl gp n : Nat) : Prop := ∃ st, Cache wx gc gl st ∧ Blk wx gp 69 (plainL st).toArray ∧ st.length = n ∧ Below w.heap.size w wx
def Cut2 (w wx : World) (gc gl gp gd gk gq n : Nat) (st : List (Int × Int)) : Prop :=
  ∃ st', Cache wx gc gl st ∧ Blk wx gp 69 (plainL st).toArray ∧ Cache wx gd gk st' ∧ Blk wx gq 69 (plainL st').toArray ∧ st'.length = n ∧ Below w.heap.size w wx
theorem plain_zero (n : Nat) : plainL (List.replicate n (0, 0)) = [.int .i64 n, .int .i64 0, .int .i64 0, .int .i64 0, .int .i64 0, .int .i64 0, .int .i64 0, .int .i64 0, .int .i64 0] := by
  have h : ∀ i, (List.replicate n ((0, 0) : Int × Int)).getD i (0, 0) = (0, 0) := fun i => by
    by_cases hi : i < n
    · simp [List.getD, hi]
    · simp [List.getD, hi]
  unfold plainL
  simp only [h, List.length_replicate]

/-- The cells of a plain cache, one by one. -/
def Nine (w : World) (gp : Nat) (st : List (Int × Int)) : Prop :=
  w.cell? ⟨gp, 0, none⟩ = some (.int .i64 st.length) ∧ w.cell? ⟨gp, 1, none⟩ = some (.int .i64 (st.getD 0 (0, 0)).1) ∧ w.cell? ⟨gp, 2, none⟩ = some (.int .i64 (st.getD 1 (0, 0)).1) ∧ w.cell? ⟨gp, 3, none⟩ = some (.int .i64 (st.getD 2 (0, 0)).1) ∧
  w.cell? ⟨gp, 4, none⟩ = some (.int .i64 (st.getD 3 (0, 0)).1) ∧ w.cell? ⟨gp, 5, none⟩ = some (.int .i64 (st.getD 0 (0, 0)).2) ∧ w.cell? ⟨gp, 6, none⟩ = some (.int .i64 (st.getD 1 (0, 0)).2) ∧ w.cell? ⟨gp, 7, none⟩ = some (.int .i64 (st.getD 2 (0, 0)).2) ∧
  w.cell? ⟨gp, 8, none⟩ = some (.int .i64 (st.getD 3 (0, 0)).2)
theorem nine {w : World} {gp : Nat} {t : TypeId} {st : List (Int × Int)} (h : Blk w gp t (plainL st).toArray) : Nine w gp st :=
  ⟨h.cell 0, h.cell 1, h.cell 2, h.cell 3, h.cell 4, h.cell 5, h.cell 6, h.cell 7, h.cell 8⟩

theorem plain_eq {st st' : List (Int × Int)} (hl : st.length = st'.length) (h4 : st.length ≤ 4)
    (h : ((st.getD 0 (0, 0)).1 = (st'.getD 0 (0, 0)).1 ∧ (st.getD 1 (0, 0)).1 = (st'.getD 1 (0, 0)).1 ∧ (st.getD 2 (0, 0)).1 = (st'.getD 2 (0, 0)).1 ∧ (st.getD 3 (0, 0)).1 = (st'.getD 3 (0, 0)).1) ∧
      ((st.getD 0 (0, 0)).2 = (st'.getD 0 (0, 0)).2 ∧ (st.getD 1 (0, 0)).2 = (st'.getD 1 (0, 0)).2 ∧ (st.getD 2 (0, 0)).2 = (st'.getD 2 (0, 0)).2 ∧ (st.getD 3 (0, 0)).2 = (st'.getD 3 (0, 0)).2)) : st = st' := by
  obtain ⟨⟨a0, a1, a2, a3⟩, b0, b1, b2, b3⟩ := h
  have key : ∀ i, i < 4 → st.getD i (0, 0) = st'.getD i (0, 0) := fun i hi => by
    match i, hi with
    | 0, _ => exact Prod.ext a0 b0
    | 1, _ => exact Prod.ext a1 b1
    | 2, _ => exact Prod.ext a2 b2
    | 3, _ => exact Prod.ext a3 b3
  apply List.ext_getElem hl
  intro i h1 h2
  have := key i (by omega)
  simpa [List.getD, h1, h2] using this
theorem info_int : (Try.prog.info? 3).map (fun i => (i.zero, i.size, i.bytes)) = some (some (.int .i64 0), 1, 8) := by kernel_rfl
theorem arr_four (x0 x1 x2 x3 y0 y1 y2 y3 : Int) (b : Bool) (hb : b = true ↔ x0 = y0 ∧ x1 = y1 ∧ x2 = y2 ∧ x3 = y3) (w : World) :
    (Op.equalIn 9999 67 (.agg #[.int .i64 x0, .int .i64 x1, .int .i64 x2, .int .i64 x3]) (.agg #[.int .i64 y0, .int .i64 y1, .int .i64 y2, .int .i64 y3])).run Try.prog w = .ok b w := by
  obtain ⟨i, h1, _, h2, _⟩ := info_parts info_int
  exact run_equalIn_four w 9997 67 3 i Try.underlying67 h1 h2 (by kernel_rfl) Try.underlying3 x0 x1 x2 x3 y0 y1 y2 y3 b hb

set_option maxRecDepth 100000 in
set_option maxHeartbeats 6400000 in
theorem walk (cl : Int) (a : Option Addr) (n c : Nat) (g : Nat → Int) (a' : Option Addr) (n' c' : Nat) (g' : Nat → Int) (w : World) (hcl : I64 cl) (hr : Flat w a n 4 g) (hm : n ≤ maxLen) (hr' : Flat w a' n' 4 g') (hm' : n' ≤ maxLen) :
    Calls Try.prog 11 #[.int .i64 cl, .slice a n c, .slice a' n' c'] w fun e w' => e = .returned (.bool true) ∧ Below w.heap.size w w' := by
  unfold maxLen at hm hm'
  have hR := Lib.hid hr
  have hR' := Lib.hid hr'
  clear hr hr'
  by_cases hin : 1 ≤ cl ∧ cl ≤ 4
  · obtain ⟨hin1, hin2⟩ := hin
    obtain ⟨m, rfl⟩ := Int.eq_ofNat_of_zero_le (show 0 ≤ cl by omega)
    have m1 : 1 ≤ m := by omega
    have m4 : m ≤ 4 := by omega
    go_enter Try.func11, Try.ntmps11
    go_wp2_with fail
    refine (new_ok m m1 m4 _).mono ?_; rintro e w1 ⟨gc, gl, rfl, hC, hg1, hg2, hb1⟩
    have HC := Lib.hid hC
    have hs1 := hb1.size
    clear hC
    go_upto_block 0 with fail
    obtain ⟨w2, hw2⟩ : ∃ w2, w2 = w1.alloc (.cells #[.int .i64 m, .int .i64 0, .int .i64 0, .int .i64 0, .int .i64 0, .int .i64 0, .int .i64 0, .int .i64 0, .int .i64 0] 69) := ⟨_, rfl⟩
    obtain ⟨gp, hgp⟩ : ∃ gp, gp = w1.heap.size := ⟨_, rfl⟩
    rw [← hw2, ← hgp]
    have P2 := Lib.hid (show Blk w2 gp 69 (plainL (List.replicate m (0, 0))).toArray by rw [plain_zero, hw2, hgp]; exact Blk.new _ _ _)
    have hb12 : Below w1.heap.size w1 w2 := by rw [hw2]; exact (Below.refl _ _).alloc (Nat.le_refl _) _
    have C2 := Lib.hid (HC.out.below hb12)
    have hb2 : Below w.heap.size w w2 := hb1.trans (hb12.mono hs1)
    have hgp0 : w.heap.size ≤ gp := by omega
    clear hw2 hgp hb12 HC hb1
    go_cut [10] (fun s10 wx => Cut1 w wx gc gl gp m)
    case first =>
      go_wp2_with fail
      go_loopw [10] (fun i wr => Rel1 w wr gc gl gp m n i) (fun i _ => n - (intOf i).toNat)
      case atStart => exact ⟨0, by omega, by omega, rfl, _, C2.out, P2.out, by simp, hb2⟩
      case round =>
        obtain ⟨k, hkn, hk80, rfl, st, hC, hP, hl, hb⟩ := hrel
        have hwr := hb.size
        rcases (show (k < n ∧ k < 100) ∨ (¬ k < n) ∨ (k < n ∧ ¬ k < 100) by omega) with ⟨hlt, h80⟩ | hlt | ⟨hlt, h80⟩
        · obtain ⟨hi64, hrow⟩ := hR.out
          obtain ⟨b, off, rfl, hbl, hcell⟩ := hrow (by omega)
          have cw : ∀ j, j < 4 → wr.cell? ⟨b, off + k * 4 + j, none⟩ = some (.int .i64 (g (k * 4 + j))) := fun j hj => by
            rw [hb.cell (p := ⟨b, off + k * 4 + j, none⟩) hbl, Nat.add_assoc]
            exact hcell _ (by omega)
          have c0 : wr.cell? ⟨b, off + k * 4, none⟩ = some (.int .i64 (g (k * 4))) := cw 0 (by omega)
          have c1 := cw 1 (by omega)
          have c2 := cw 2 (by omega)
          have c3 := cw 3 (by omega)
          have i0 : (0 : Int) ≤ k := by omega
          have i1 : (k : Int) < n := by omega
          have C3 := Lib.hid hC
          have P3 := Lib.hid hP
          have L3 := Lib.hid hl
          clear hC hP hl cw hcell hrow
          go_wp2_with fail
          refine (do_c gc gl gp st _ _ _ _ _ C3.out P3.out (by rw [L3.out]; exact m4) (hi64 _) (hi64 _) (hi64 _) (hi64 _)).mono ?_
          rintro e w3 ⟨rfl, hC4, hP4, o4⟩
          have hb4 : Below w.heap.size w w3 := o4.below hb hwr (by simp; omega)
          have C4 := Lib.hid hC4
          have P4 := Lib.hid hP4
          clear hC4 hP4 o4 c0 c1 c2 c3
          go_wp2_with fail
          go_roundw
          case rel => exact ⟨k + 1, by omega, by omega, by go_num, _, C4.out, P4.out, by rw [do_len]; exact L3.out, hb4⟩
          case measure => simp [intOf]; omega
        all_goals
          go_wp2_with fail
          go_meet
          exact ⟨st, hC, hP, hl, hb⟩
    case rest =>
      obtain ⟨st, hC, hP, hl, hb⟩ := hcut
      have hwr := hb.size
      have C3 := Lib.hid hC
      have P3 := Lib.hid hP
      have L3 := Lib.hid hl
      clear hC hP hl
      go_wp2_with fail
      refine (cclone_c gc gl st _ C3.out (by rw [L3.out]; exact m1) (by rw [L3.out]; exact m4)).mono ?_
      rintro e w4 ⟨gd, gk, rfl, hD, hgd, hgk, hb4⟩
      have C4 := Lib.hid (C3.out.below hb4)
      have P4 := Lib.hid (P3.out.below hb4 P3.out.lt)
      have D4 := Lib.hid hD
      have hb04 : Below w.heap.size w w4 := hb.trans (hb4.mono hwr)
      clear hD
      go_wp2_with fail
      refine (csame_c gc gl gd gk st st _ C4.out D4.out rfl (by rw [L3.out]; exact m4) true (by simp)).mono ?_
      rintro e w5 ⟨rfl, hb5⟩
      have C5 := Lib.hid (C4.out.below hb5)
      have D5 := Lib.hid (D4.out.below hb5)
      have P5 := Lib.hid (P4.out.below hb5 P4.out.lt)
      have hb05 : Below w.heap.size w w5 := hb04.trans (hb5.mono hb04.size)
      have s45 := hb5.size
      have s34 := hb4.size
      clear hb5 hb4 hb04 C4 D4 P4
      obtain ⟨q0, q1, q2, q3, q4, q5, q6, q7, q8⟩ := nine P5.out
      obtain ⟨xt0, hxt0⟩ : ∃ x, x = (st.getD 0 (0, 0)).1 := ⟨_, rfl⟩
      obtain ⟨xt1, hxt1⟩ : ∃ x, x = (st.getD 1 (0, 0)).1 := ⟨_, rfl⟩
      obtain ⟨xt2, hxt2⟩ : ∃ x, x = (st.getD 2 (0, 0)).1 := ⟨_, rfl⟩
      obtain ⟨xt3, hxt3⟩ : ∃ x, x = (st.getD 3 (0, 0)).1 := ⟨_, rfl⟩
      obtain ⟨xr0, hxr0⟩ : ∃ x, x = (st.getD 0 (0, 0)).2 := ⟨_, rfl⟩
      obtain ⟨xr1, hxr1⟩ : ∃ x, x = (st.getD 1 (0, 0)).2 := ⟨_, rfl⟩
      obtain ⟨xr2, hxr2⟩ : ∃ x, x = (st.getD 2 (0, 0)).2 := ⟨_, rfl⟩
      obtain ⟨xr3, hxr3⟩ : ∃ x, x = (st.getD 3 (0, 0)).2 := ⟨_, rfl⟩
      rw [L3.out] at q0
      rw [← hxt0] at q1
      rw [← hxt1] at q2
      rw [← hxt2] at q3
      rw [← hxt3] at q4
      rw [← hxr0] at q5
      rw [← hxr1] at q6
      rw [← hxr2] at q7
      rw [← hxr3] at q8
      have hpl := Lib.hid (show plainL st = [.int .i64 m, .int .i64 xt0, .int .i64 xt1, .int .i64 xt2, .int .i64 xt3, .int .i64 xr0, .int .i64 xr1, .int .i64 xr2, .int .i64 xr3] by rw [hxt0, hxt1, hxt2, hxt3, hxr0, hxr1, hxr2, hxr3, ← L3.out]; rfl)
      have X := Lib.hid (And.intro (And.intro hxt0 (And.intro hxt1 (And.intro hxt2 hxt3))) (And.intro hxr0 (And.intro hxr1 (And.intro hxr2 hxr3))))
      clear hxt0 hxt1 hxt2 hxt3 hxr0 hxr1 hxr2 hxr3
      go_upto_block 2 with fail
      obtain ⟨w6, hw6⟩ : ∃ w6, w6 = w5.alloc (.cells #[.int .i64 m, .int .i64 xt0, .int .i64 xt1, .int .i64 xt2, .int .i64 xt3, .int .i64 xr0, .int .i64 xr1, .int .i64 xr2, .int .i64 xr3] 69) := ⟨_, rfl⟩
      obtain ⟨gq, hgq⟩ : ∃ gq, gq = w5.heap.size := ⟨_, rfl⟩
      rw [← hw6, ← hgq]
      have hb56 : Below w5.heap.size w5 w6 := by rw [hw6]; exact (Below.refl _ _).alloc (Nat.le_refl _) _
      have Q6 := Lib.hid (show Blk w6 gq 69 (plainL st).toArray by rw [hpl.out, hw6, hgq]; exact Blk.new _ _ _)
      have C6 := Lib.hid (C5.out.below hb56)
      have D6 := Lib.hid (D5.out.below hb56)
      have P6 := Lib.hid (P5.out.below hb56 P5.out.lt)
      have hb06 : Below w.heap.size w w6 := hb05.trans (hb56.mono hb05.size)
      have lt1 := C5.out.clt
      have lt2 := C5.out.llt
      have lt3 := P5.out.lt
      have lt4 := D5.out.clt
      have lt5 := D5.out.llt
      have lt6 := C3.out.clt
      have lt7 := C3.out.llt
      have lt8 := P3.out.lt
      have ltq : w5.heap.size ≤ gq := by omega
      have sq := hb05.size
      clear hw6 hgq hb56 q0 q1 q2 q3 q4 q5 q6 q7 q8
      go_cut [13] (fun s13 wx => Cut2 w wx gc gl gp gd gk gq m st)
      case first =>
        go_wp2_with fail
        go_loopw [13] (fun i wr => Rel2 w wr gc gl gp gd gk gq m n' st i) (fun i _ => n' - (intOf i).toNat)
        case atStart => exact ⟨0, by omega, by omega, rfl, st, C6.out, P6.out, D6.out, Q6.out, L3.out, hb06⟩
        case round =>
          obtain ⟨k2, hkn2, hk60, rfl, st', hC, hP, hD, hQ, hl', hb⟩ := hrel
          have C7 := Lib.hid hC
          have P7 := Lib.hid hP
          have D7 := Lib.hid hD
          have Q7 := Lib.hid hQ
          have L7 := Lib.hid hl'
          have hwr' := hb.size
          clear hC hP hD hQ hl'
          rcases (show (k2 < n' ∧ k2 < 60) ∨ (¬ k2 < n') ∨ (k2 < n' ∧ ¬ k2 < 60) by omega) with ⟨hlt2, h60⟩ | hlt2 | ⟨hlt2, h60⟩
          · obtain ⟨hi64', hrow'⟩ := hR'.out
            obtain ⟨b', off', rfl, hbl', hcell'⟩ := hrow' (by omega)
            have cw : ∀ j, j < 4 → wr.cell? ⟨b', off' + k2 * 4 + j, none⟩ = some (.int .i64 (g' (k2 * 4 + j))) := fun j hj => by
              rw [hb.cell (p := ⟨b', off' + k2 * 4 + j, none⟩) hbl', Nat.add_assoc]
              exact hcell' _ (by omega)
            have c0 : wr.cell? ⟨b', off' + k2 * 4, none⟩ = some (.int .i64 (g' (k2 * 4))) := cw 0 (by omega)
            have c1 := cw 1 (by omega)
            have c2 := cw 2 (by omega)
            have c3 := cw 3 (by omega)
            have i0 : (0 : Int) ≤ k2 := by omega
            have i1 : (k2 : Int) < n' := by omega
            clear cw hcell' hrow'
            go_wp2_with fail
            refine (do_c gd gk gq st' _ _ _ _ _ D7.out Q7.out (by rw [L7.out]; exact m4) (hi64' _) (hi64' _) (hi64' _) (hi64' _)).mono ?_
            rintro e w8 ⟨rfl, hD8, hQ8, o8⟩
            have hb8 : Below w.heap.size w w8 := o8.below hb hwr' (by simp; omega)
            have C8 := Lib.hid (C7.out.only o8 (by simp; omega) (by simp; omega))
            have P8 := Lib.hid (P7.out.only o8 (by simp; omega))
            have D8 := Lib.hid hD8
            have Q8 := Lib.hid hQ8
            clear hD8 hQ8 o8 c0 c1 c2 c3
            go_wp2_with fail
            go_roundw
            case rel => exact ⟨k2 + 1, by omega, by omega, by go_num, _, C8.out, P8.out, D8.out, Q8.out, by rw [do_len]; exact L7.out, hb8⟩
            case measure => simp [intOf]; omega
          all_goals
            go_wp2_with fail
            go_meet
            exact ⟨st', C7.out, P7.out, D7.out, Q7.out, L7.out, hb⟩
      case rest =>
        obtain ⟨st', hC, hP, hD, hQ, hl', hb⟩ := hcut
        have C7 := Lib.hid hC
        have P7 := Lib.hid hP
        have D7 := Lib.hid hD
        have Q7 := Lib.hid hQ
        have L7 := Lib.hid hl'
        clear hC hP hD hQ hl'
        obtain ⟨p0, p1, p2, p3, p4, p5, p6, p7, p8⟩ := nine P7.out
        obtain ⟨q0, q1, q2, q3, q4, q5, q6, q7, q8⟩ := nine Q7.out
        obtain ⟨⟨hxt0, hxt1, hxt2, hxt3⟩, hxr0, hxr1, hxr2, hxr3⟩ := X.out
        obtain ⟨yt0, hyt0⟩ : ∃ x, x = (st'.getD 0 (0, 0)).1 := ⟨_, rfl⟩
        obtain ⟨yt1, hyt1⟩ : ∃ x, x = (st'.getD 1 (0, 0)).1 := ⟨_, rfl⟩
        obtain ⟨yt2, hyt2⟩ : ∃ x, x = (st'.getD 2 (0, 0)).1 := ⟨_, rfl⟩
        obtain ⟨yt3, hyt3⟩ : ∃ x, x = (st'.getD 3 (0, 0)).1 := ⟨_, rfl⟩
        obtain ⟨yr0, hyr0⟩ : ∃ x, x = (st'.getD 0 (0, 0)).2 := ⟨_, rfl⟩
        obtain ⟨yr1, hyr1⟩ : ∃ x, x = (st'.getD 1 (0, 0)).2 := ⟨_, rfl⟩
        obtain ⟨yr2, hyr2⟩ : ∃ x, x = (st'.getD 2 (0, 0)).2 := ⟨_, rfl⟩
        obtain ⟨yr3, hyr3⟩ : ∃ x, x = (st'.getD 3 (0, 0)).2 := ⟨_, rfl⟩
        rw [L3.out] at p0
        rw [L7.out] at q0
        rw [← hxt0] at p1
        rw [← hxt1] at p2
        rw [← hxt2] at p3
        rw [← hxt3] at p4
        rw [← hxr0] at p5
        rw [← hxr1] at p6
        rw [← hxr2] at p7
        rw [← hxr3] at p8
        rw [← hyt0] at q1
        rw [← hyt1] at q2
        rw [← hyt2] at q3
        rw [← hyt3] at q4
        rw [← hyr0] at q5
        rw [← hyr1] at q6
        rw [← hyr2] at q7
        rw [← hyr3] at q8
        have hdec : ∃ bS bT bR : Bool, decide (st = st') = bS ∧ decide (st' = st) = bS ∧ (bT = true ↔ xt0 = yt0 ∧ xt1 = yt1 ∧ xt2 = yt2 ∧ xt3 = yt3) ∧ (bR = true ↔ xr0 = yr0 ∧ xr1 = yr1 ∧ xr2 = yr2 ∧ xr3 = yr3) ∧
            ((bS = true ∧ bT = true ∧ bR = true) ∨ (bS = false ∧ bT = false) ∨ (bS = false ∧ bT = true ∧ bR = false)) := by
          by_cases hst : st = st'
          · subst hst
            refine ⟨true, true, true, by simp, by simp, ?_, ?_, .inl ⟨rfl, rfl, rfl⟩⟩
            · simp [hxt0, hxt1, hxt2, hxt3, hyt0, hyt1, hyt2, hyt3]
            · simp [hxr0, hxr1, hxr2, hxr3, hyr0, hyr1, hyr2, hyr3]
          · refine ⟨false, decide (xt0 = yt0 ∧ xt1 = yt1 ∧ xt2 = yt2 ∧ xt3 = yt3), decide (xr0 = yr0 ∧ xr1 = yr1 ∧ xr2 = yr2 ∧ xr3 = yr3), decide_eq_false hst, decide_eq_false fun h => hst h.symm, decide_eq_true_iff, decide_eq_true_iff, .inr ?_⟩
            by_cases hT : xt0 = yt0 ∧ xt1 = yt1 ∧ xt2 = yt2 ∧ xt3 = yt3
            · refine .inr ⟨rfl, decide_eq_true hT, decide_eq_false fun hR2 => hst ?_⟩
              refine plain_eq (by rw [L3.out, L7.out]) (by rw [L3.out]; exact m4) ?_
              rw [← hxt0, ← hxt1, ← hxt2, ← hxt3, ← hxr0, ← hxr1, ← hxr2, ← hxr3, ← hyt0, ← hyt1, ← hyt2, ← hyt3, ← hyr0, ← hyr1, ← hyr2, ← hyr3]
              exact ⟨hT, hR2⟩
            · exact .inl ⟨rfl, decide_eq_false hT⟩
        clear hxt0 hxt1 hxt2 hxt3 hxr0 hxr1 hxr2 hxr3 hyt0 hyt1 hyt2 hyt3 hyr0 hyr1 hyr2 hyr3
        obtain ⟨bS, bT, bR, hS1, hS2, hT, hR2, hcases⟩ := hdec
        have E1 := arr_four xt0 xt1 xt2 xt3 yt0 yt1 yt2 yt3 bT hT
        have E2 := arr_four xr0 xr1 xr2 xr3 yr0 yr1 yr2 yr3 bR hR2
        have HS1 := Lib.hid hS1
        have HS2 := Lib.hid hS2
        have z0 := fun (x : Later wc) => x.cell p0
        have z1 := fun (x : Later wc) => x.cell p1
        have z2 := fun (x : Later wc) => x.cell p2
        have z3 := fun (x : Later wc) => x.cell p3
        have z4 := fun (x : Later wc) => x.cell p4
        have z5 := fun (x : Later wc) => x.cell p5
        have z6 := fun (x : Later wc) => x.cell p6
        have z7 := fun (x : Later wc) => x.cell p7
        have z8 := fun (x : Later wc) => x.cell p8
        have v0 := fun (x : Later wc) => x.cell q0
        have v1 := fun (x : Later wc) => x.cell q1
        have v2 := fun (x : Later wc) => x.cell q2
        have v3 := fun (x : Later wc) => x.cell q3
        have v4 := fun (x : Later wc) => x.cell q4
        have v5 := fun (x : Later wc) => x.cell q5
        have v6 := fun (x : Later wc) => x.cell q6
        have v7 := fun (x : Later wc) => x.cell q7
        have v8 := fun (x : Later wc) => x.cell q8
        clear hS1 hS2 hT hR2 p0 p1 p2 p3 p4 p5 p6 p7 p8 q0 q1 q2 q3 q4 q5 q6 q7 q8
        rcases hcases with ⟨rfl, rfl, rfl⟩ | ⟨rfl, rfl⟩ | ⟨rfl, rfl, rfl⟩
        all_goals
          go_wp2_with fail
          refine wp_region_later (by kernel_rfl) (by kernel_rfl) ?_
          repeat (go_big_quiet_step (first
            | (go_at_call_of 42 (#[Value.pointer (some ⟨gc, 0, none⟩), Value.pointer (some ⟨gd, 0, none⟩)] : Array Value); exact Later.call (csame_c gc gl gd gk st st' _ (C7.out.below (Later.b _)) (D7.out.below (Later.b _)) (by rw [L3.out, L7.out]) (by rw [L3.out]; exact m4) _ HS1.out))
            | (go_at_call_of 42 (#[Value.pointer (some ⟨gd, 0, none⟩), Value.pointer (some ⟨gc, 0, none⟩)] : Array Value); exact Later.call (csame_c gd gk gc gl st' st _ (D7.out.below (Later.b _)) (C7.out.below (Later.b _)) (by rw [L3.out, L7.out]) (by rw [L7.out]; exact m4) _ HS2.out))
            | (go_at_call 27; exact Later.call (wakes_c _))))
          refine wpQuiet_nil ?_
          rintro _ ⟨x, rfl⟩
          go_wp2
          go_ret
          exact ⟨rfl, hb.trans (x.b.mono hb.size)⟩
  · have hout : cl < 1 ∨ 4 < cl := by omega
    have hcase : cl < 1 ∨ (¬ cl < 1 ∧ 4 < cl) := by omega
    have HO := Lib.hid hout
    clear hin hout
    rcases hcase with h1 | ⟨h1, h2⟩
    all_goals
      go_enter Try.func11, Try.ntmps11
      go_wp2_with fail
      refine (new_no cl HO.out _).mono ?_; rintro e w1 ⟨rfl, rfl⟩
      go_wp2_with fail
      refine (wakes_c _).mono ?_; rintro e w5 ⟨rfl, hb5⟩
      go_wp2
      go_ret
      exact ⟨rfl, hb5⟩

theorem lawWalk : LawWalk Try.checked 11 Try.f11 := by
  intro H enc W base args ds p hval hA hsz
  rw [Try.params11] at hA hval
  obtain ⟨v0, vs0, d0, ds0, p0, q0, hargs, rfl, rfl, h0, r0⟩ := trodAll_cons hA
  obtain ⟨v1, vs1, d1, ds1, p1, q1, rfl, rfl, rfl, h1, r1⟩ := trodAll_cons r0
  obtain ⟨v2, vs2, d2, ds2, p2, q2, rfl, rfl, rfl, h2, r2⟩ := trodAll_cons r1
  obtain ⟨rfl, rfl, rfl⟩ := trodAll_nil r2
  obtain rfl : args = #[v0, v1, v2] := by cases args; simp_all
  obtain ⟨a0, rfl, rfl, rfl, w0⟩ := open_int Try.underlying3 (hval 0 3 v0 rfl rfl) h0
  obtain ⟨a1, n1, c1, g1, rfl, hnc1, hcm1, hr1⟩ := open_flat Try.underlying44 Try.underlying51 (by kernel_rfl) (by kernel_rfl) (by decide) (by kernel_rfl) (hval 1 44 v1 rfl rfl) h1
  obtain ⟨a2, n2, c2, g2, rfl, hnc2, hcm2, hr2⟩ := open_flat Try.underlying44 Try.underlying51 (by kernel_rfl) (by kernel_rfl) (by decide) (by kernel_rfl) (hval 2 44 v2 rfl rfl) h2
  exact walk a0 a1 n1 c1 g1 a2 n2 c2 g2 W (I64.of_wf w0) hr1 (Nat.le_trans hnc1 hcm1) hr2 (Nat.le_trans hnc2 hcm2)

theorem lifted (os : Os) (started : os.Started) (H : Type) (enc : TypeId × Value → H) :
    ReturnsInHanded {} Try.checked os 11 .any (Rows.cachePlaysSpec.pre6 enc Try.prog Try.f11 Rows.cachePlaysRow.domain false) (Rows.cachePlaysSpec.post enc Try.prog Try.f11 false true false false) :=
  law_lift (C := Try.checked) (s := Rows.cachePlaysSpec) (tb := 4) (by kernel_rfl) started (by kernel_rfl) Try.func11
    (ChangeSpec.witness6 (enc := enc) (C := Try.checked) false ⟨#[], #[.int .i64 0, .slice none 0 0, .slice none 0 0], []⟩ 8 (by kernel_rfl) (by kernel_rfl) (by kernel_rfl) (by kernel_rfl))
    rfl (fun H ds h => by
      match ds, h with
      | [d0, d1, d2], _ => rfl) (by kernel_rfl) (by kernel_rfl) (by kernel_rfl) Try.underlying4 lawWalk

theorem over : Rows.cachePlaysRow.holds Try.pinned (OpenSpec.ofChange Rows.cachePlaysSpec) :=
  OpenClaim.holds_of_wide 11 Try.f11 rfl rfl rfl rfl rfl rfl rfl ⟨rfl, rfl, rfl, rfl, rfl⟩ rfl rfl rfl rfl rfl (by kernel_rfl) Try.func11 (by kernel_rfl)
    (of_decide_eq_true (by kernel_rfl)) (by unfold Func.isWrapper; first | (rw [if_pos (by decide +kernel)]; kernel_rfl) | (rw [if_neg (by decide +kernel)]; exact ⟨rfl, rfl⟩))
    (fun os started H enc _ => lifted os started H enc)

/-- The statement. -/
theorem proved : Rows.CachePlaysSaid := over
#print axioms proved

end Go.Proofs.Ytjdcjofogmplcaa.CachePlays
