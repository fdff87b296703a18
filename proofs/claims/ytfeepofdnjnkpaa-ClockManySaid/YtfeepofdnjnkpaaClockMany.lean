/- ClockMany: for all numbers the law returns true. No condition. -/
import Derived.Test.YtfeepofdnjnkpaaClockManyP
import Derived.IntWalk
import Derived.Test.YtfeepofdnjnkpaaRows
import Derived.Deep.DeepCutAuto
import Derived.Deep.CutBlock
namespace Go.Proofs.Ytfeepofdnjnkpaa.ClockMany
open Go.RowKit Go.ChangeShapes Go.WideShapes Go.ChangeAt
set_option linter.unusedVariables false

theorem within_at (v n q : Int) (w : World) (hv : I64 v) (hn : 1 ≤ n) (hn2 : n ≤ 4611686018427387904) (hq : v % n = q) :
    Calls Try.prog 19 #[.int .i64 v, .int .i64 n] w fun e w' => e = .returned (.int .i64 q) ∧ w = w' := by
  subst hq
  exact within_keep v n w hv hn hn2
theorem getI {xs : List Int} (h : ∀ x ∈ xs, I64 x) (j : Nat) : I64 (xs.getD j 0) := by
  by_cases hj : j < xs.length
  · rw [List.getD_eq_getElem?_getD, List.getElem?_eq_getElem hj]; exact h _ (List.getElem_mem hj)
  · rw [List.getD_eq_getElem?_getD, List.getElem?_eq_none (by omega)]; exact I64.zero
theorem tim_fine {T : Nat → Int} (hT : ∀ i, 1 ≤ T i ∧ T i ≤ 40) (n : Nat) (hn : n ≤ 30) : ∀ p ∈ tim T n, I64 p.1 ∧ I64 p.2 := by
  intro p hp
  simp only [tim, List.mem_map, List.mem_range] at hp
  obtain ⟨i, hi, rfl⟩ := hp
  have := hT i
  unfold I64
  simp only
  omega

def seenC (n : Nat) (f : Nat → Bool) : Array Value := ((List.range n).map fun i => Value.bool (f i)).toArray
theorem seenC_get (n : Nat) (f : Nat → Bool) (i : Nat) (h : i < n) : (seenC n f)[i]? = some (.bool (f i)) := by
  simp [seenC, h]
theorem seenC_set (n : Nat) (f : Nat → Bool) (i : Nat) (h : i < n) : (seenC n f).setIfInBounds i (.bool true) = seenC n (fun j => f j || decide (j = i)) := by
  apply Array.ext
  · simp [seenC]
  · intro j h1 h2
    have hj : j < n := by simpa [seenC] using h2
    rw [Array.getElem_setIfInBounds (by simpa [seenC] using hj)]
    by_cases e : i = j
    · subst e; simp [seenC]
    · have e' : ¬ j = i := fun q => e q.symm
      simp [seenC, e, e']
theorem seenC_congr {n : Nat} {f g : Nat → Bool} (h : ∀ i, i < n → f i = g i) : seenC n f = seenC n g := by
  unfold seenC
  congr 1
  apply List.map_congr_left
  intro i hi
  rw [h i (List.mem_range.1 hi)]
theorem madeCells_bool (n : Nat) : madeCells #[.bool false] (n * 1) = seenC n (fun _ => false) := by
  apply Array.toList_inj.1
  rw [Nat.mul_one, toList_madeCells_one]
  simp only [seenC, List.map_const', List.length_range]
theorem info_bool : (Try.prog.info? 4).map (fun i => (i.zero, i.size, i.bytes)) = some (some (.bool false), 1, 1) := by kernel_rfl
theorem left_zero {T : Nat → Int} (hT : ∀ i, 1 ≤ T i ∧ T i ≤ 40) (n : Nat) : leftOf (tim T n) 0 = tim T n := by
  unfold leftOf
  apply List.filter_eq_self.2
  intro p hp
  simp only [tim, List.mem_map, List.mem_range] at hp
  obtain ⟨i, hi, rfl⟩ := hp
  have := hT i
  exact decide_eq_true (by simp only; omega)
theorem left_len (T : Nat → Int) (n : Nat) (l : Int) : (leftOf (tim T n) l).length ≤ n := by
  unfold leftOf
  exact Nat.le_trans (List.length_filter_le _ _) (by rw [tim_len]; exact Nat.le_refl _)
theorem left_fine {T : Nat → Int} (hT : ∀ i, 1 ≤ T i ∧ T i ≤ 40) (n : Nat) (hn : n ≤ 30) (l : Int) : ∀ p ∈ leftOf (tim T n) l, I64 p.1 ∧ I64 p.2 :=
  fun p hp => tim_fine hT n hn p (List.mem_filter.1 hp).1
/-- The clock, and who was seen. -/
structure St (w wx : World) (gc gs n : Nat) (T : Nat → Int) (now last : Int) (f : Nat → Bool) : Prop where
  clk : Clk wx w.heap.size gc now (leftOf (tim T n) last)
  seen : Blk wx gs 4 (seenC n f)
  b : Below w.heap.size w wx
theorem St.ticked {w wx wy : World} {gc gs n : Nat} {T : Nat → Int} {now last now' last' : Int} {f : Nat → Bool} (h : St w wx gc gs n T now last f) (hc : Clk wy w.heap.size gc now' (leftOf (tim T n) last')) (t : Ticked w.heap.size wx wy) : St w wy gc gs n T now' last' f :=
  ⟨hc, t.far _ _ _ h.seen (by decide) (by decide), h.b.trans t.b⟩
theorem St.drewN {w wx : World} {gc gs n : Nat} {T : Nat → Int} {now last : Int} {f : Nat → Bool} (h : St w wx gc gs n T now last f) (k : Nat) : St w (wx.drewN k) gc gs n T now last f := ⟨h.clk.drewN k, h.seen.drewN k, ⟨h.b.os, h.b.tape, h.b.output, h.b.size, h.b.block⟩⟩
theorem St.below {w wx wy : World} {gc gs n : Nat} {T : Nat → Int} {now last : Int} {f : Nat → Bool} (h : St w wx gc gs n T now last f) (hb : Below wx.heap.size wx wy) : St w wy gc gs n T now last f := ⟨h.clk.below hb, h.seen.below hb h.seen.lt, h.b.trans (hb.mono h.b.size)⟩

theorem due_o (B gc : Nat) (T : Nat → Int) (n : Nat) (hn : n ≤ 30) (hT : ∀ i, 1 ≤ T i ∧ T i ≤ 40) (last t : Int) (hlt : last ≤ t) (ht : 0 ≤ t ∧ t ≤ 48) (w : World) (h : Clk w B gc t (leftOf (tim T n) last)) (D : List Nat) (hD : dueN T n last t = D) (m : Nat) (hm : D.length = m) :
    Calls Try.prog 33 #[.pointer (some ⟨gc, 0, none⟩)] w fun e w' => ∃ a c, e = .returned (.slice a m c) ∧ w'.ownsRow w.heap.size 3 1 (.slice a m c) m (D.map fun (i : Nat) => Value.int .i64 (i : Int)) ∧ Clk w' B gc t (leftOf (tim T n) t) ∧ Ticked B w w' := by
  subst hD
  subst hm
  refine (due_c B gc t _ w h (left_fine hT n hn last) (Nat.le_trans (left_len T n last) (by omega)) (by omega)).mono ?_
  rintro e w' ⟨a, c, rfl, ho, hc, hb⟩
  rw [due_dueN] at ho ⊢
  rw [left_left _ hlt] at hc
  simp only [List.length_map, List.map_map] at ho ⊢
  exact ⟨a, c, rfl, ho, hc, hb⟩
theorem not_before {D : List Nat} (h : D.Pairwise (· < ·)) (k : Nat) (hk : k < D.length) : D[k] ∉ D.take k := by
  intro hm
  obtain ⟨j, hj, e⟩ := List.mem_iff_getElem.1 hm
  rw [List.getElem_take] at e
  have hjk : j < k := by simp at hj; omega
  have := List.pairwise_iff_getElem.1 h j k (by omega) hk hjk
  omega
theorem mem_take_succ {D : List Nat} {k : Nat} (hk : k < D.length) (i : Nat) : i ∈ D.take (k + 1) ↔ i ∈ D.take k ∨ i = D[k] := by
  rw [List.take_add_one, List.getElem?_eq_getElem hk]
  simp only [List.mem_append, Option.toList_some, List.mem_singleton]
theorem St.mark {w wx : World} {gc gs n : Nat} {T : Nat → Int} {now last : Int} {f : Nat → Bool} (h : St w wx gc gs n T now last f) (hg : w.heap.size ≤ gs) (d : Nat) (hd : d < n) :
    St w (wx.setCell ⟨gs, d, none⟩ (.bool true)) gc gs n T now last (fun j => f j || decide (j = d)) := by
  obtain ⟨a, c, k1, k2, k3⟩ := h.clk.ex
  refine ⟨⟨⟨a, c, k1.far (Blk.ne_ k1 h.seen (by decide)) _, ownsRow_setCell_other k2 (own_blk_ne k2 h.seen (by decide)) _, k3⟩, h.clk.ge⟩, ?_, h.b.setCell hg _⟩
  have := h.seen.set_ d (.bool true)
  rwa [seenC_set _ _ _ hd] at this
theorem St.congr {w wx : World} {gc gs n : Nat} {T : Nat → Int} {now last : Int} {f g : Nat → Bool} (h : St w wx gc gs n T now last f) (e : ∀ i, i < n → f i = g i) : St w wx gc gs n T now last g :=
  ⟨h.clk, by rw [← seenC_congr e]; exact h.seen, h.b⟩
theorem St.at_ {w wx : World} {gc gs n : Nat} {T : Nat → Int} {now last : Int} {f : Nat → Bool} (h : St w wx gc gs n T now last f) (d : Nat) (hd : d < n) (v : Bool) (hv : f d = v) : wx.cell? ⟨gs, d, none⟩ = some (.bool v) := by
  rw [h.seen.cell d, seenC_get n f d hd, hv]
theorem due_last {T : Nat → Int} (hT : ∀ i, 1 ≤ T i ∧ T i ≤ 40) (n : Nat) : dueOf (leftOf (tim T n) 48) 48 = [] ∧ leftOf (leftOf (tim T n) 48) 48 = leftOf (tim T n) 48 := by
  refine ⟨?_, left_left _ (Int.le_refl _)⟩
  rw [due_dueN, show dueN T n 48 48 = [] from List.filter_eq_nil_iff.2 (fun i _ => by simp)]
  rfl

set_option maxRecDepth 100000 in
set_option maxHeartbeats 3200000 in
theorem walk (a0 : Option Addr) (n c0 : Nat) (xs : List Int) (a1 : Int) (w : World) (hr : IntRow w a0 n xs) (hm : n ≤ maxLen) (hx : ∀ x ∈ xs, I64 x) (h1 : I64 a1) :
    Calls Try.prog 8 #[.slice a0 n c0, .int .i64 a1] w fun e w' => e = .returned (.bool true) ∧ Below w.heap.size w w' := by
  unfold maxLen at hm
  have R := Lib.hid hr
  have X := Lib.hid hx
  clear hr hx
  go_enter Try.func8, Try.ntmps8
  go_wp2_with fail
  refine (clock_new_c _).mono ?_; rintro e w1 ⟨gc, rfl, hc1, hb1⟩
  have C1 := Lib.hid hc1
  have B1 := Lib.hid hb1
  clear hc1 hb1
  by_cases h30 : 30 < n
  · go_wp2_with fail
    refine (ckwakes_c _).mono ?_; rintro e w2 ⟨rfl, hb2⟩
    go_wp2
    go_ret
    exact ⟨rfl, B1.out.trans (hb2.mono B1.out.size)⟩
  · go_wp2_with fail
    refine (within_q a1 7 _ h1 (by omega) (by omega)).mono ?_; rintro e w' ⟨q, rfl, _, q0, q1, rfl⟩
    obtain ⟨T, hT⟩ : ∃ T : Nat → Int, ∀ i, 1 + xs.getD i 0 % 40 = T i := ⟨_, fun _ => rfl⟩
    have TB := Lib.hid (show ∀ i, 1 ≤ T i ∧ T i ≤ 40 from fun i => by rw [← hT i]; omega)
    have HT := Lib.hid hT
    clear hT
    go_upto_block 0 with fail
    go_cut [30] (fun s wx => Clk wx w.heap.size gc 0 (tim T n) ∧ Below w.heap.size w wx)
    case first =>
      go_wp2_with fail
      go_loopw [30] (fun i wr => ∃ k : Nat, i = .int .i64 k ∧ k ≤ n ∧ Clk wr w.heap.size gc 0 (tim T k) ∧ Below w.heap.size w wr) (fun i _ => n - (intOf i).toNat)
      case atStart => exact ⟨0, rfl, by omega, C1.out, B1.out⟩
      case round =>
        obtain ⟨k, rfl, hk, hc, hb⟩ := hrel
        have C := Lib.hid hc
        have HB := Lib.hid hb
        clear hc hb
        by_cases hlt : k < n
        · obtain ⟨b, off, rfl, hbl, hcell⟩ := R.out.2 (by omega)
          have x0 : wr.cell? ⟨b, off + k, none⟩ = some (.int .i64 (xs.getD k 0)) := (HB.out.cell (p := ⟨b, off + k, none⟩) hbl).trans (hcell k (by omega))
          have y0 := getI X.out k
          have e0 := HT.out k
          have tb := TB.out k
          obtain ⟨p, hp⟩ : ∃ p, p = xs.getD k 0 := ⟨_, rfl⟩
          obtain ⟨t, ht⟩ : ∃ t, t = T k := ⟨_, rfl⟩
          rw [← hp] at x0 y0 e0
          rw [← ht] at e0 tb
          have HTK := Lib.hid ht
          have i0 : (0 : Int) ≤ k := by omega
          have i1 : (k : Int) < n := by omega
          have E0 := Lib.hid (show p % 40 = t - 1 by omega)
          have e1 : 1 + (t - 1) = t := by omega
          clear hp ht hcell e0
          go_wp2_with fail
          refine (within_at p 40 (t - 1) _ y0 (by omega) (by omega) E0.out).mono ?_; rintro e w' ⟨rfl, rfl⟩
          go_wp2_with fail
          refine (set_new _ gc 0 (tim T k) k t _ C.out (tim_fine TB.out k (by omega)) (by rw [tim_len]; omega) ⟨by omega, by omega⟩ (by omega) (by omega) k (place_end T k)).mono ?_; rintro e w3 ⟨rfl, hc3, t3⟩
          have C3 := Lib.hid (show Clk w3 w.heap.size gc 0 (tim T (k + 1)) by rw [Int.zero_add, HTK.out, ins_end] at hc3; exact hc3)
          have B3 := Lib.hid (HB.out.trans t3.b)
          clear hc3 t3
          go_wp2_with fail
          go_roundw
          case rel => exact ⟨k + 1, by go_num, by omega, C3.out, B3.out⟩
          case measure => simp [intOf]; omega
        · have hkn : k = n := by omega
          subst hkn
          go_wp2_with fail
          go_meet
          exact ⟨C.out, HB.out⟩
    case rest =>
      have C := Lib.hid hcut.1
      have HB := Lib.hid hcut.2
      clear hcut
      obtain ⟨i0, hi0, hz0, hz1, hz2⟩ := info_parts info_bool
      have hmk := fun W => run_make (P := Try.prog) W 60 4 i0 _ Try.underlying60 hi0 hz0 .i64 .i64 n n (by omega) (by omega) (by rw [hz2]; omega) (by omega)
      rw [hz1] at hmk
      simp only [Int.toNat_natCast, Value.cells, madeCells_bool] at hmk
      obtain ⟨F0, hF0⟩ : ∃ F, F = seenC n (fun _ => false) := ⟨_, rfl⟩
      rw [← hF0] at hmk
      have HF := Lib.hid hF0
      clear hi0 hz0 hz1 hz2 hF0
      go_upto_block 2 with fail
      obtain ⟨gs, hgs⟩ : ∃ gs, gs = wc.heap.size := ⟨_, rfl⟩
      obtain ⟨w2, hw2⟩ : ∃ w2, w2 = wc.alloc (.cells F0 4) := ⟨_, rfl⟩
      rw [← hw2, ← hgs]
      have S2 := Lib.hid (show St w w2 gc gs n T 0 0 (fun i => decide (T i ≤ 0)) from ⟨by
          rw [left_zero TB.out, hw2]; exact C.out.below ((Below.refl _ _).alloc (Nat.le_refl _) _), by
          rw [hw2, hgs, show seenC n (fun i => decide (T i ≤ 0)) = F0 by
            rw [HF.out]; exact seenC_congr fun i _ => decide_eq_false (by have := TB.out i; omega)]
          exact Blk.new _ _ _, by rw [hw2]; exact HB.out.alloc HB.out.size _⟩)
      have GS := Lib.hid (show w.heap.size ≤ gs by rw [hgs]; exact HB.out.size)
      obtain ⟨ev, hev⟩ : ∃ ev, ev = 1 + q := ⟨_, rfl⟩
      rw [← hev]
      have ev1 : 1 ≤ ev ∧ ev ≤ 7 := by omega
      clear C HB HF hw2 hgs hmk hev q0 q1
      go_wp2_with fail
      go_loopw [8] (fun i wr => ∃ t : Nat, i = .int .i64 t ∧ 1 ≤ t ∧ t ≤ 49 ∧ ∃ last : Int, 0 ≤ last ∧ last ≤ (t : Int) - 1 ∧ (t = 49 → last = 48) ∧ St w wr gc gs n T ((t : Int) - 1) last (fun i => decide (T i ≤ last))) (fun i _ => 100 - (intOf i).toNat)
      case atStart => exact ⟨1, rfl, by omega, by omega, 0, by omega, by omega, by omega, S2.out⟩
      case round =>
        obtain ⟨t, rfl, ht1, ht2, last, l0, l1, l2, hs⟩ := hrel
        have S := Lib.hid hs
        clear hs
        by_cases hlt : t ≤ 48
        · have i1 : (t : Int) ≤ 48 := by omega
          go_wp2_with fail
          refine (tick_e _ gc _ t _ _ S.out.clk (by omega) (by omega) (by omega)).mono ?_; rintro e w3 ⟨rfl, hc3, t3⟩
          have S3 := Lib.hid (S.out.ticked hc3 t3)
          clear hc3 t3
          go_wp2_with fail
          rotate_left
          · have hsw := ‹((t : Int) % ev != 0) = true ∧ ((t : Int) != 48) = true›
            have hne : t ≠ 48 := by
              rintro rfl
              exact absurd hsw.2 (by decide)
            exact ⟨⟨t + 1, by go_num, by omega, by omega, last, by omega, by omega, by omega, by have := S3.out; rwa [show ((t + 1 : Nat) : Int) - 1 = t by omega]⟩, by simp [intOf]; omega⟩
          all_goals
            obtain ⟨D, hD⟩ : ∃ D, dueN T n last t = D := ⟨_, rfl⟩
            obtain ⟨m, hm'⟩ : ∃ m, D.length = m := ⟨_, rfl⟩
            refine (due_o _ gc T n (by omega) TB.out last t (by omega) (by omega) _ S3.out.clk D hD m hm').mono ?_; rintro e w4 ⟨a4, c4, rfl, o4, hc4, t4⟩
            have O4 := Lib.hid o4
            have S4 := Lib.hid (S3.out.ticked hc4 t4)
            have MEM := Lib.hid (show ∀ k (h : k < D.length), D[k] < n ∧ T D[k] ≤ t ∧ last < T D[k] from fun k h => dueN_mem.1 (by rw [hD]; exact List.getElem_mem h))
            have UP := Lib.hid (show D.Pairwise (· < ·) by rw [← hD]; exact dueN_up T n last t)
            have ALL := Lib.hid (show ∀ i, i < n → T i ≤ t → last < T i → i ∈ D from fun i h1 h2 h3 => by rw [← hD]; exact dueN_mem.2 ⟨h1, h2, h3⟩)
            have LEN := Lib.hid hm'
            have hm30 : m ≤ 30 := by
              rw [← hm', ← hD]
              exact Nat.le_trans (List.length_filter_le _ _) (by simp; omega)
            clear o4 hc4 t4 hD hm'
            obtain ⟨B4, hB4⟩ : ∃ B, B = w3.heap.size := ⟨_, rfl⟩
            rw [← hB4] at O4
            clear hB4
            go_wp2_with fail
            go_loopw [65] (fun i wx => ∃ k : Nat, i = .int .i64 k ∧ k ≤ m ∧ St w wx gc gs n T t t (fun i => decide (T i ≤ last) || decide (i ∈ D.take k)) ∧ wx.ownsRow B4 3 1 (.slice a4 m c4) m (D.map fun (i : Nat) => Value.int .i64 (i : Int))) (fun i _ => 100 - (intOf i).toNat)
            case atStart =>
              refine ⟨0, rfl, by omega, ?_, O4.out⟩
              have := S4.out
              simpa using this
            case round =>
              obtain ⟨k, rfl, hk, hs5, ho5⟩ := hrel
              have S5 := Lib.hid hs5
              have O5 := Lib.hid ho5
              clear hs5 ho5
              by_cases hkm : k < m
              · obtain ⟨b, off, rfl, hbl, hcell⟩ := (own_vrow O5.out).2 (by omega)
                have kd : k < D.length := by rw [LEN.out]; exact hkm
                obtain ⟨d, hd⟩ : ∃ d, D[k] = d := ⟨_, rfl⟩
                have md := MEM.out k kd
                rw [hd] at md
                obtain ⟨md1, md2, md3⟩ := md
                have c0 : wr.cell? ⟨b, off + k, none⟩ = some (.int .i64 (d : Int)) := hcell k _ (by rw [List.getElem?_map, List.getElem?_eq_getElem kd, hd]; rfl)
                have c1 : wr.cell? ⟨gs, d, none⟩ = some (.bool false) := S5.out.at_ d md1 false (by
                  rw [← hd, decide_eq_false (by rw [hd]; omega), decide_eq_false (not_before UP.out k kd)]; rfl)
                have HK := Lib.hid (show ∀ i, ((decide (T i ≤ last) || decide (i ∈ D.take k)) || decide (i = d)) = (decide (T i ≤ last) || decide (i ∈ D.take (k + 1))) from fun i => by
                  rw [Bool.or_assoc, ← hd]; congr 1; rw [Bool.eq_iff_iff]; simp [mem_take_succ kd])
                obtain ⟨b0, of0, rfl, hb0, hcell0⟩ := R.out.2 (by omega)
                have c2 : wr.cell? ⟨b0, of0 + d, none⟩ = some (.int .i64 (xs.getD d 0)) := (S5.out.b.cell (p := ⟨b0, of0 + d, none⟩) hb0).trans (hcell0 d (by omega))
                have y0 := getI X.out d
                have e0 := HT.out d
                have tb := TB.out d
                obtain ⟨p, hp⟩ : ∃ p, p = xs.getD d 0 := ⟨_, rfl⟩
                obtain ⟨td, htd⟩ : ∃ td, td = T d := ⟨_, rfl⟩
                rw [← hp] at c2 y0 e0
                rw [← htd] at e0 tb md2 md3
                have E0 := Lib.hid (show p % 40 = td - 1 by omega)
                have PREV := Lib.hid (show ∀ j, k = j + 1 → ∃ d' : Nat, d' < d ∧ wr.cell? ⟨b, off + j, none⟩ = some (.int .i64 (d' : Int)) from fun j hj => by
                  subst hj
                  have hlt' := List.pairwise_iff_getElem.1 UP.out j (j + 1) (by omega) kd (by omega)
                  exact ⟨D[j], by rw [← hd]; exact hlt', hcell j _ (by rw [List.getElem?_map, List.getElem?_eq_getElem (by omega)]; rfl)⟩)
                have i2 : (0 : Int) ≤ k := by omega
                have i3 : (k : Int) < m := by omega
                have i4 : (0 : Int) ≤ d := by omega
                have i5 : (d : Int) < n := by omega
                obtain ⟨r, hr⟩ : ∃ r, r = td - 1 := ⟨_, rfl⟩
                rw [← hr] at E0
                have e1 : IntKind.i64.wrap (1 + r) = td := by rw [IntWalk.i64_in _ (by omega)]; omega
                clear hp htd hcell hcell0 e0 hd hr
                have g0 : decide ((d : Int) < 0) = false := decide_eq_false (by omega)
                have g1 : decide ((n : Int) ≤ d) = false := decide_eq_false (by omega)
                have g1' : decide (n ≤ d) = false := decide_eq_false (by omega)
                have g1'' : decide ((d : Int) ≥ n) = false := decide_eq_false (by omega)
                have g2 : decide ((t : Int) < td) = false := decide_eq_false (by omega)
                obtain ⟨j, hj⟩ : ∃ j, k = 0 ∨ k = j + 1 := ⟨k - 1, by omega⟩
                rcases hj with hj | hj
                case' inl =>
                  have g3 : decide ((0 : Int) < k) = false := decide_eq_false (by omega)
                  have g3' : decide (0 < k) = false := decide_eq_false (by omega)
                  clear hj PREV
                  have X0 := fun (x : Later wr) => x.cell c0
                  have X1 := fun (x : Later wr) => x.cell c1
                  have X2 := fun (x : Later wr) => x.cell c2
                  go_wp2_with fail
                  refine wp_region_later (by kernel_rfl) (by kernel_rfl) ?_
                  repeat (go_big_quiet_step (first
                    | (go_at_call 19; exact Later.same (within_at p 40 r _ y0 (by omega) (by omega) E0.out))))
                  refine wpQuiet_nil ?_
                  rintro _ ⟨x, rfl⟩
                case' inr =>
                  obtain ⟨d', hd1, c3⟩ := PREV.out j hj
                  have g3 : decide ((0 : Int) < k) = true := decide_eq_true (by omega)
                  have g3' : decide (0 < k) = true := decide_eq_true (by omega)
                  have g4 : decide ((d : Int) ≤ d') = false := decide_eq_false (by omega)
                  have g4' : decide (d ≤ d') = false := decide_eq_false (by omega)
                  have i6 : (0 : Int) ≤ j := by omega
                  have i7 : (j : Int) < m := by omega
                  have e2 : IntKind.i64.wrap ((k : Int) - 1) = (j : Int) := by rw [IntWalk.i64_in _ (by omega)]; omega
                  clear hj PREV hd1
                  have X0 := fun (x : Later wr) => x.cell c0
                  have X1 := fun (x : Later wr) => x.cell c1
                  have X2 := fun (x : Later wr) => x.cell c2
                  have X3 := fun (x : Later wr) => x.cell c3
                  go_wp2_with fail
                  refine wp_region_later (by kernel_rfl) (by kernel_rfl) ?_
                  repeat (go_big_quiet_step (first
                    | (go_at_call 19; exact Later.same (within_at p 40 r _ y0 (by omega) (by omega) E0.out))))
                  refine wpQuiet_nil ?_
                  rintro _ ⟨x, rfl⟩
                  clear X3 e2 c3
                all_goals
                  have S6 := Lib.hid (S5.out.below x.b)
                  have O6 := Lib.hid (own_below O5.out x.b)
                  have cc0 := X0 x
                  have cc1 := X1 x
                  have fr1 := S6.out.seen.frozen d
                  clear X0 X1 X2 c0 c1 c2 e1
                  go_wp2_with fail
                  go_roundw
                  case rel =>
                    refine ⟨k + 1, by go_num, by omega, ?_, ?_⟩
                    · exact (S6.out.mark GS.out d md1).congr fun i _ => HK.out i
                    · exact ownsRow_setCell_other O6.out (own_blk_ne O6.out S6.out.seen (by decide)) _
                  case measure => simp [intOf]; omega
              · have S7 := Lib.hid (S5.out.congr (g := fun i => decide (T i ≤ t)) fun i hi => by
                  have e : D.take k = D := List.take_of_length_le (by rw [LEN.out]; omega)
                  rw [e, Bool.eq_iff_iff]
                  simp only [Bool.or_eq_true, decide_eq_true_eq]
                  constructor
                  · rintro (h | h)
                    · omega
                    · obtain ⟨j, hj, rfl⟩ := List.mem_iff_getElem.1 h
                      exact (MEM.out j hj).2.1
                  · intro h
                    by_cases hl : T i ≤ last
                    · exact .inl hl
                    · exact .inr (ALL.out i hi h (by omega)))
                clear S5 O5
                go_wp2_with fail
                go_loopw [129] (fun i wx => ∃ k : Nat, i = .int .i64 k ∧ k ≤ n ∧ St w wx gc gs n T t t (fun i => decide (T i ≤ t))) (fun i _ => 100 - (intOf i).toNat)
                case atStart => exact ⟨0, rfl, by omega, S7.out⟩
                case round =>
                  obtain ⟨j, rfl, hj, hs8⟩ := hrel
                  have S8 := Lib.hid hs8
                  clear hs8
                  by_cases hjn : j < n
                  · obtain ⟨b0, of0, rfl, hb0, hcell0⟩ := R.out.2 (by omega)
                    have x0 : wr.cell? ⟨b0, of0 + j, none⟩ = some (.int .i64 (xs.getD j 0)) := (S8.out.b.cell (p := ⟨b0, of0 + j, none⟩) hb0).trans (hcell0 j (by omega))
                    have y0 := getI X.out j
                    have e0 := HT.out j
                    have tb := TB.out j
                    have x1 := S8.out.seen.cell j
                    rw [seenC_get _ _ j hjn] at x1
                    obtain ⟨p, hp⟩ : ∃ p, p = xs.getD j 0 := ⟨_, rfl⟩
                    rw [← hp] at x0 y0 e0
                    obtain ⟨r, hr⟩ : ∃ r, r = p % 40 := ⟨_, rfl⟩
                    have E0 := Lib.hid hr.symm
                    rw [← hr] at e0
                    rw [← e0] at x1 tb
                    have i2 : (0 : Int) ≤ j := by omega
                    have i3 : (j : Int) < n := by omega
                    clear hp hr hcell0 e0
                    by_cases hle : 1 + r ≤ (t : Int)
                    case' pos => rw [decide_eq_true hle] at x1
                    case' neg => clear x1
                    all_goals
                      go_wp2_with fail
                      refine (within_at p 40 r _ y0 (by omega) (by omega) E0.out).mono ?_; rintro e w' ⟨rfl, rfl⟩
                      go_wp2_with fail
                      go_roundw
                      case rel => exact ⟨j + 1, by go_num, by omega, S8.out⟩
                      case measure => simp [intOf]; omega
                  · go_wp2_with fail
                    go_roundw
                    case rel => exact ⟨t + 1, by go_num, by omega, by omega, t, by omega, by omega, by omega, by have := S8.out; rwa [show ((t + 1 : Nat) : Int) - 1 = t by omega]⟩
                    case measure => simp [intOf]; omega
        · have ht49 : t = 49 := by omega
          obtain rfl := l2 ht49
          have S9 := S.out
          rw [show (t : Int) - 1 = 48 by omega] at S9
          have S9 := Lib.hid S9
          clear l2
          go_wp2_with fail
          refine (now_c _ gc 48 _ _ S9.out.clk).mono ?_; rintro e w' ⟨rfl, rfl⟩
          go_wp2_with fail
          refine (due_e _ gc 48 _ _ S9.out.clk (left_fine TB.out n (by omega) 48) (Nat.le_trans (left_len T n 48) (by omega)) (by omega) [] _ (due_last TB.out n).1 (due_last TB.out n).2 0 rfl).mono ?_
          rintro e w10 ⟨a10, c10, rfl, r10, hc10, t10⟩
          have hb10 := S9.out.b.trans t10.b
          clear r10 hc10 t10
          go_wp2_with fail
          refine (ckwakes_c _).mono ?_; rintro e w11 ⟨rfl, hb11⟩
          go_wp2
          go_ret
          exact ⟨rfl, hb10.trans (hb11.mono hb10.size)⟩



theorem lawWalk : LawWalk Try.checked 8 Try.f8 := by
  intro H enc W base args ds p hval hA hsz
  rw [Try.params8] at hA hval
  obtain ⟨v0, vs0, d0, ds0, p0, q0, hargs, rfl, rfl, h0, r0⟩ := trodAll_cons hA
  obtain ⟨v1, vs1, d1, ds1, p1, q1, rfl, rfl, rfl, h1, r1⟩ := trodAll_cons r0
  obtain ⟨rfl, rfl, rfl⟩ := trodAll_nil r1
  obtain rfl : args = #[v0, v1] := by cases args; simp_all
  obtain ⟨a0, n0, c0, xs0, rfl, hnc0, hcm0, hr0, hx0⟩ := open_int_slice Try.underlying51 Try.underlying3 (by kernel_rfl) (hval 0 51 v0 rfl rfl) h0
  obtain ⟨a1, rfl, rfl, rfl, w1⟩ := open_int Try.underlying3 (hval 1 3 v1 rfl rfl) h1
  exact walk a0 n0 c0 xs0 a1 W hr0 (Nat.le_trans hnc0 hcm0) hx0 (I64.of_wf w1)

theorem lifted (os : Os) (started : os.Started) (H : Type) (enc : TypeId × Value → H) :
    ReturnsInHanded {} Try.checked os 8 .any (Rows.clockManySpec.pre6 enc Try.prog Try.f8 Rows.clockManyRow.domain false) (Rows.clockManySpec.post enc Try.prog Try.f8 false true false false) :=
  law_lift (C := Try.checked) (s := Rows.clockManySpec) (tb := 4) (by kernel_rfl) started (by kernel_rfl) Try.func8
    (ChangeSpec.witness6 (enc := enc) (C := Try.checked) false ⟨#[], #[.slice none 0 0, .int .i64 0], []⟩ 8 (by kernel_rfl) (by kernel_rfl) (by kernel_rfl) (by kernel_rfl))
    rfl (fun H ds h => by
      match ds, h with
      | [d0, d1], _ => rfl) (by kernel_rfl) (by kernel_rfl) (by kernel_rfl) Try.underlying4 lawWalk

theorem over : Rows.clockManyRow.holds Try.pinned (OpenSpec.ofChange Rows.clockManySpec) :=
  OpenClaim.holds_of_wide 8 Try.f8 rfl rfl rfl rfl rfl rfl rfl ⟨rfl, rfl, rfl, rfl, rfl⟩ rfl rfl rfl rfl rfl (by kernel_rfl) Try.func8 (by kernel_rfl)
    (of_decide_eq_true (by kernel_rfl)) (by unfold Func.isWrapper; first | (rw [if_pos (by decide +kernel)]; kernel_rfl) | (rw [if_neg (by decide +kernel)]; exact ⟨rfl, rfl⟩))
    (fun os started H enc _ => lifted os started H enc)

/-- The statement. -/
theorem proved : Rows.ClockManySaid := over
#print axioms proved

end Go.Proofs.Ytfeepofdnjnkpaa.ClockMany
