/- LinkM, SameB. -/
import Derived.Test.YtfhlcjfgbhmecaaZLinkD
import Derived.Deep.RegionHeld3
import Derived.Test.YtfhlcjfgbhmecaaProg
import Derived.Test.YtfhlcjfgbhmecaaZOpen
import Derived.Test.YtfhlcjfgbhmecaaZOnly
import Derived.Test.YtfhlcjfgbhmecaaZLink
/- Package link: Move, Clone. -/
namespace Go.Proofs.Ytfhlcjfgbhmecaa
open Go.RowKit
set_option linter.unusedVariables false
set_option maxRecDepth 100000

/-- A list with its k-th element moved to place t. -/
def moved {α : Type} (ms : List α) (k t : Nat) (m : α) : List α :=
  (ms.take k ++ ms.drop (k + 1)).take t ++ (m :: (ms.take k ++ ms.drop (k + 1)).drop t)
theorem moved_len {α : Type} (ms : List α) (k t : Nat) (m : α) (hk : k < ms.length) (ht : t < ms.length) : (moved ms k t m).length = ms.length := by
  unfold moved
  have := rem_len ms k hk
  rw [List.length_append, List.length_cons, List.length_take, List.length_drop, this]
  omega

set_option maxHeartbeats 3200000 in
theorem move_ok (q g : Nat) (room lost : Int) (ms : List (Value × List Int)) (k t : Nat) (w : World) (h : Que w q g room lost ms) (hk : k < ms.length) (ht : t < ms.length) :
    Calls Try.prog 107 #[.pointer (some ⟨q, 0, none⟩), .int .i64 k, .int .i64 t] w fun e w' => ∃ g', e = .returned (.bool true) ∧ Que w' q g' room lost (moved ms k t ms[k]) ∧ Only [q, g] w w' ∧ (g' = g ∨ w.heap.size ≤ g') := by
  obtain ⟨i0, hi0, hz0, hz1, hz2⟩ := info_parts info_b8
  have hmn := h.n
  have hm := h.tx _ (List.getElem_mem hk)
  have hrl := rem_len ms k hk
  have H := Lib.hid h
  have HM := Lib.hid hm
  have D1 := Lib.hid (show (0 : Int) ≤ k ∧ (k : Int) < ms.length by omega)
  have D2 := Lib.hid (show (0 : Int) ≤ t ∧ (t : Int) < ms.length by omega)
  have K0 := Lib.hid (show (0 : Int) ≤ t by omega)
  clear h hm
  go_enter Try.func107, Try.ntmps107
  go_wp2_with fail
  refine (has_c q g room lost ms k _ H.out (by unfold I64; omega) true (decide_eq_true D1.out)).mono ?_; rintro e w1 ⟨rfl, rfl⟩
  go_wp2_with fail
  refine (has_c q g room lost ms t _ H.out (by unfold I64; omega) true (decide_eq_true D2.out)).mono ?_; rintro e w1 ⟨rfl, rfl⟩
  go_wp2_with fail
  refine (out_c q g room lost ms k _ H.out hk k rfl).mono ?_; rintro e w1 ⟨g1, rfl, hq1, ho1, hg1⟩
  have T1 := Lib.hid (HM.out.1.only ho1 H.out.no8)
  obtain ⟨m, hmm⟩ : ∃ m, m = ms[k] := ⟨_, rfl⟩
  have HM2 := Lib.hid HM.out.2
  rw [← hmm] at T1 HM2 ⊢
  have HMM := Lib.hid hmm
  obtain ⟨R, hR⟩ : ∃ R, R = ms.take k ++ ms.drop (k + 1) := ⟨_, rfl⟩
  rw [← hR] at hq1 hrl
  have HR := Lib.hid hR
  have hRl : R.length = ms.length - 1 := by omega
  have hRm : R.length ≤ 4096 := by omega
  obtain ⟨m1, m2⟩ := m
  obtain ⟨a', c', q3, _⟩ := T1.out
  have q3' : m1 = Value.slice a' m2.length c' := q3
  subst q3'
  obtain ⟨l', hl'⟩ : ∃ l', l' = m2.length := ⟨_, rfl⟩
  simp only [← hl']
  obtain ⟨A, C, h1, h2, h3⟩ := hq1.ex
  have c2 : w1.cell? ⟨q, 2, none⟩ = some (.slice A R.length C) := h1.cell 2
  have hcap := h2.cap_le
  have f2 := h1.frozen 2
  have e1 := alloc_kept (.cells #[.slice a' l' c'] 59) c2
  have sl1 := to_loose (P := Try.prog) (a := A) (T := 148) (E := 59) (s := 1) Try.underlying148 (by kernel_rfl) size_b8 t (show t ≤ R.length by omega) hcap
  obtain ⟨B, sl2, hB⟩ := from_loose (P := Try.prog) (T := 148) h2 Try.underlying148 (by kernel_rfl) size_b8 t (by omega) (t : Int) rfl
  have lc := h2.cut (show t ≤ R.length by omega) t (Nat.le_refl _) (by omega)
  have LB : Hid (Loose (w1.drew.alloc (.cells #[.slice a' l' c'] 59)) (some ⟨w1.drew.heap.size, 0, none⟩) 59 1 1 1 [.slice a' l' c']) := Lib.hid ⟨rfl, Nat.le_refl _, by unfold maxLen; omega, .inr ⟨_, _, rfl, Blk.new _ _ _, by simp, fun i v hv => by
    cases i with
    | zero => exact hv
    | succ j => simp at hv⟩⟩
  have Q1 := Lib.hid hq1
  have O1 := Lib.hid ho1
  have G1 := Lib.hid hg1
  have H1 := Lib.hid h1
  have H2 := Lib.hid h2
  have H3 := Lib.hid h3
  have LC := Lib.hid lc
  have HL := Lib.hid hl'
  have HRL := Lib.hid hRl
  have nA : Hid (q ∉ (A.map (·.block)).toList) := Lib.hid (by
    cases A with
    | none => simp
    | some p => simpa using fun e => (h2.ne h1 (by decide) _ rfl) e.symm)
  have nS : Hid (∀ p, A = some p → p.block ≠ w1.heap.size) := Lib.hid (by
    rintro p rfl
    have := h2.lt
    omega)
  have hgo : Hid (∀ (w3 : World) (g3 cp3 : Nat) (wa : World), Only [] w1 wa → Loose w3 (some ⟨g3, 0, none⟩) 59 1 (t + (1 + (R.length - t))) cp3 ((R.map Prod.fst).take (t * 1) ++ ([.slice a' l' c'] ++ (R.map Prod.fst).drop t)) → Only (A.map (·.block)).toList wa w3 → (A = some ⟨g3, 0, none⟩ ∨ wa.heap.size ≤ g3) →
      Que (w3.setCell ⟨q, 2, none⟩ (.slice (some ⟨g3, 0, none⟩) (t + (1 + (R.length - t))) cp3)) q g3 room lost (moved ms k t ms[k]) ∧ Only [q, g] w (w3.setCell ⟨q, 2, none⟩ (.slice (some ⟨g3, 0, none⟩) (t + (1 + (R.length - t))) cp3)) ∧ (g3 = g ∨ w.heap.size ≤ g3)) := Lib.hid (by
    intro w3 g3 cp3 wa ob hl ho hat
    have mv : moved ms k t ms[k] = R.take t ++ ((.slice a' l' c', m2) :: R.drop t) := by
      unfold moved
      rw [← HMM.out, ← HR.out, HL.out]
    rw [mv]
    have ok := que_turn (ms' := R.take t ++ ((.slice a' l' c', m2) :: R.drop t)) (n' := t + (1 + (R.length - t))) (cp2 := cp3) (g2 := g3) (wa := wa) (w2 := w3) Q1.out H1.out H2.out H3.out ob (fun x hx => by
      rcases List.mem_append.1 hx with h5 | h5
      · exact Q1.out.tx x (List.mem_of_mem_take h5)
      · rcases List.mem_cons.1 h5 with rfl | h5
        · refine ⟨?_, HM2.out⟩
          have := T1.out
          rw [← HL.out] at this
          exact this
        · exact Q1.out.tx x (List.mem_of_mem_drop h5)) (by
        rw [List.map_append, List.map_cons, List.map_take, List.map_drop]
        rw [Nat.mul_one] at hl
        exact hl) (by
        rw [List.length_append, List.length_cons, List.length_take, List.length_drop]
        have := HRL.out
        omega) ho hat (by have := HRL.out; omega) 0
    refine ⟨ok.1, O1.out.then ok.2.1 (fun j hj => ?_), ?_⟩
    · simp only [List.mem_cons, List.not_mem_nil, or_false] at hj
      rcases hj with rfl | rfl
      · exact .inl (by simp)
      · rcases G1.out with e | e
        · exact .inl (by simp [e])
        · exact .inr e
    · rcases ok.2.2 with e | e
      · rw [e]; exact G1.out
      · exact .inr (Nat.le_trans O1.out.size e))
  clear hq1 ho1 hg1 h1 h2 h3 q3 hl' hmm hR lc T1 HMM HM2 HM hRl D1 D2 hrl
  by_cases hlast : t < R.length
  · obtain ⟨g', rfl, rfl⟩ := hB hlast
    have hnl : ((R.map Prod.fst).drop t).length = (R.length - t) * 1 := by rw [List.length_drop, List.length_map, Nat.mul_one]
    have hnews : ∀ j u, ((R.map Prod.fst).drop t)[j]? = some u → (w1.drew.alloc (.cells #[.slice a' l' c'] 59)).cell? ((⟨g', t, none⟩ : Addr).add j) = some u := by
      intro j u hu
      rw [List.getElem?_drop] at hu
      have := H2.out.news (t + j) u hu
      rw [addr_add, Nat.zero_add] at this
      rw [addr_add]
      exact alloc_kept _ (show w1.drew.cell? _ = _ from this)
    have hone : ∀ u ∈ (R.map Prod.fst).drop t, u.oneCell' = true := by
      intro u hu
      obtain ⟨m, hm, rfl⟩ := List.mem_map.1 (List.mem_of_mem_drop hu)
      obtain ⟨a1, c1, e1, _⟩ := (Q1.out.tx m hm).1
      rw [e1]; rfl
    have hone2 : ∀ u ∈ ([.slice a' l' c'] ++ (R.map Prod.fst).drop t : List Value), u.oneCell' = true := by
      intro u hu
      rcases List.mem_append.1 hu with h5 | h5
      · simp only [List.mem_cons, List.not_mem_nil, or_false] at h5
        subst h5; rfl
      · exact hone u h5
    have hnl2 : ([.slice a' l' c'] ++ (R.map Prod.fst).drop t : List Value).length = (1 + (R.length - t)) * 1 := by rw [List.length_append, hnl]; simp
    have HN := Lib.hid hnews
    have HO := Lib.hid hone
    have HO2 := Lib.hid hone2
    have HNL := Lib.hid hnl
    have HNL2 := Lib.hid hnl2
    clear hnews hone hnl hB hone2 hnl2
    go_wp2_with fail
    go_region_law (first
      | (refine step_append_loose (by rfl) _ _ _ (by rfl) 59 i0 _ 1 24 Try.underlying148 hi0 hz0 hz1 hz2 rfl (by omega) (some ⟨w1.drew.heap.size, 0, none⟩) 1 1 [.slice a' l' c'] (by rfl) LB.out ⟨g', t, none⟩ (R.length - t) (C - t) ((R.map Prod.fst).drop t) (by rfl) HNL.out HN.out HO.out (by omega) (by unfold maxLen; omega) (by omega) ?_; intro g2 cp2 w2 hl2 ho2 hat2; have kb2 := ((H1.out.drew).alloc (.cells #[.slice a' l' c'] 59)).only ho2 (by have := H1.out.lt; simp; exact Nat.ne_of_lt this); have d2 := kb2.cell 2; have df2 := kb2.frozen 2; have lc2 := Lib.hid (((LC.out.drew).alloc (.cells #[.slice a' l' c'] 59)).only ho2 (by intro p hp; simpa using nS.out p hp)))
      | (refine step_append_loose (by rfl) _ _ _ (by rfl) 59 i0 _ 1 24 Try.underlying148 hi0 hz0 hz1 hz2 rfl (by omega) (some ⟨g', 0, none⟩) t t ((R.map Prod.fst).take (t * 1)) (by rfl) lc2.out ⟨g2, 0, none⟩ (1 + (R.length - t)) cp2 ([.slice a' l' c'] ++ (R.map Prod.fst).drop t) (by rfl) HNL2.out hl2.news HO2.out (by omega) (by unfold maxLen; omega) (by omega) ?_; intro g3 cp3 w3 hl3 ho3 hat3; have kb3 := kb2.only ho3 nA.out; have d3 := kb3.cell 2; have df3 := kb3.frozen 2))
    all_goals
      go_wp2_with fail
      go_ret
      have ok := hgo.out w3 g3 cp3 w2 ((((Only.refl [] w1).drew.alloc _)).then ho2 (fun j hj => by simp at hj; exact .inr (by rw [hj]; exact Nat.le_refl _))) hl3 ho3 hat3
      first | exact ⟨g3, rfl, ok⟩ | exact ⟨rfl, g3, ok⟩
  · have hlast' : R.length - t = 0 := by omega
    rw [hlast'] at sl2
    have hdr : (R.map Prod.fst).drop t = [] := List.drop_of_length_le (by rw [List.length_map]; omega)
    have hgo2 := hgo.out
    rw [hlast', hdr] at hgo2
    have HGO := Lib.hid hgo2
    clear hdr hB hgo2 hgo
    go_wp2_with fail
    go_region_law (first
      | (refine step_append_none (by rfl) _ _ _ (by rfl) 59 i0 Try.underlying148 hi0 (some ⟨w1.drew.heap.size, 0, none⟩) B 1 1 (C - t) (.inr ⟨_, rfl⟩) (Nat.le_refl _) (by rfl) (by rfl) ?_)
      | (refine step_append_loose (by rfl) _ _ _ (by rfl) 59 i0 _ 1 24 Try.underlying148 hi0 hz0 hz1 hz2 rfl (by omega) A t t ((R.map Prod.fst).take (t * 1)) (by rfl) (LC.out.drew.alloc _) ⟨w1.drew.heap.size, 0, none⟩ 1 1 [.slice a' l' c'] (by rfl) (by rfl) LB.out.news (by simp [Value.oneCell']) (by omega) (by unfold maxLen; omega) (by omega) ?_; intro g3 cp3 w3 hl3 ho3 hat3; have kb3 := ((H1.out.drew).alloc (.cells #[.slice a' l' c'] 59)).only ho3 nA.out; have d3 := kb3.cell 2; have df3 := kb3.frozen 2))
    all_goals
      go_wp2_with fail
      go_ret
      have ok := HGO.out w3 g3 cp3 _ ((Only.refl [] w1).drew.alloc _) hl3 ho3 hat3
      first | exact ⟨g3, rfl, ok⟩ | exact ⟨rfl, g3, ok⟩

theorem qclone_c (q g : Nat) (room lost : Int) (ms : List (Value × List Int)) (w : World) (h : Que w q g room lost ms) :
    Calls Try.prog 92 #[.pointer (some ⟨q, 0, none⟩)] w fun e w' => ∃ q' g', e = .returned (.pointer (some ⟨q', 0, none⟩)) ∧ Que w' q' g' room lost ms ∧ w.heap.size ≤ q' ∧ w.heap.size ≤ g' ∧ Below w.heap.size w w' := by
  obtain ⟨i0, hi0, hz0, hz1, hz2⟩ := info_parts info_b8
  have hmn := h.n
  obtain ⟨A, C, h1, h2, h3⟩ := h.ex
  have c0 : w.cell? ⟨q, 0, none⟩ = some (.int .i64 room) := h1.cell 0
  have c1 : w.cell? ⟨q, 1, none⟩ = some (.int .i64 lost) := h1.cell 1
  have c2 : w.cell? ⟨q, 2, none⟩ = some (.slice A ms.length C) := h1.cell 2
  have H := Lib.hid h
  have H1 := Lib.hid h1
  have H2 := Lib.hid h2
  by_cases h0 : ms.length = 0
  · obtain rfl : ms = [] := List.eq_nil_of_length_eq_zero h0
    clear h h1 h2 h3 h0
    go_enter Try.func92, Try.ntmps92
    go_wp2_with fail
    go_region_held3 (fun w' => w'.cell? ⟨q, 0, none⟩ = some (.int .i64 room) ∧ w'.cell? ⟨q, 1, none⟩ = some (.int .i64 lost) ∧ w'.cell? ⟨q, 2, none⟩ = some (.slice A 0 C)) (first | go_keep)
      (first | (refine step_append_none (by rfl) _ _ _ (by rfl) 59 i0 Try.underlying148 hi0 none A 0 0 C (.inl ⟨rfl, rfl, rfl⟩) (Nat.le_refl _) (by rfl) (by rfl) ?_))
    all_goals
      go_wp2_with fail
      go_ret
      exact ⟨w.heap.size, w.heap.size, rfl, ⟨⟨none, 0, Blk.new _ _ _, Loose.nil _ _ _, .inl ⟨rfl, rfl⟩⟩, by simp, by simp⟩, Nat.le_refl _, Nat.le_refl _, ((Below.refl _ w).drew).alloc (Nat.le_refl _) _⟩
  · obtain ⟨rfl⟩ : A = some ⟨g, 0, none⟩ := by
      rcases h3 with ⟨rfl, _⟩ | h3
      · rcases h2.addr with ⟨_, h5, _⟩ | ⟨_, h5⟩
        · exact absurd h5 h0
        · cases h5
      · exact h3
    have hone : ∀ u ∈ ms.map Prod.fst, u.oneCell' = true := by
      intro u hu
      obtain ⟨m, hm, rfl⟩ := List.mem_map.1 hu
      obtain ⟨a1, c1, e1, _⟩ := (H.out.tx m hm).1
      rw [e1]; rfl
    have HO := Lib.hid hone
    have HL := Lib.hid (show (ms.map Prod.fst).length = ms.length * 1 by simp)
    clear h h1 h2 h3 hone
    go_enter Try.func92, Try.ntmps92
    go_wp2_with fail
    go_region_held3 (fun w' => w'.cell? ⟨q, 0, none⟩ = some (.int .i64 room) ∧ w'.cell? ⟨q, 1, none⟩ = some (.int .i64 lost) ∧ w'.cell? ⟨q, 2, none⟩ = some (.slice (some ⟨g, 0, none⟩) ms.length C)) (first | go_keep | with_reducible exact ⟨s0, s1, s2⟩)
      (first | (refine step_append_loose (by rfl) _ _ _ (by rfl) 59 i0 _ 1 24 Try.underlying148 hi0 hz0 hz1 hz2 rfl (by omega) none 0 0 [] (by rfl) (Loose.nil _ _ _) ⟨g, 0, none⟩ ms.length C (ms.map Prod.fst) (by rfl) HL.out (H2.out.drew).news HO.out (by omega) (by unfold maxLen; omega) (by omega) ?_; intro g2 cp2 w2 hl2 ho2 hat2; have kb2 := (H1.out.drew).only ho2 (by simp); have s0 := kb2.cell 0; have s1 := kb2.cell 1; have s2 := kb2.cell 2))
    all_goals
      go_wp2_with fail
      go_ret
      have hg : w.heap.size ≤ g2 := by
        rcases hat2 with e | e
        · cases e
        · exact e
      have hb : Below w.heap.size w w2 := ((Only.refl [] w).drew.trans ho2).to_below
      rw [Nat.zero_add, List.nil_append] at hl2
      exact ⟨w2.heap.size, g2, rfl, ⟨⟨some ⟨g2, 0, none⟩, cp2, Blk.new _ _ _, hl2.alloc _, .inr rfl⟩, fun m hm => ⟨((H.out.tx m hm).1.below hb).alloc _, (H.out.tx m hm).2⟩, hmn⟩, hb.size, hg, hb.alloc hb.size _⟩
end Go.Proofs.Ytfhlcjfgbhmecaa
/- Package psephoskeep: Same of two equal slices of bytes. -/
namespace Go.Proofs.Ytfhlcjfgbhmecaa
open Go.RowKit
set_option linter.unusedVariables false

theorem same_byte_c (a1 : Option Addr) (n1 c1 : Nat) (a2 : Option Addr) (n2 c2 : Nat) (xs : List Int) (w : World) (h1 : VRow w a1 n1 1 (brow xs)) (h2 : VRow w a2 n2 1 (brow xs)) (hn : n1 ≤ 1048576) :
    Calls Try.prog 39 #[.slice a1 n1 c1, .slice a2 n2 c2] w fun e w' => e = .returned (.bool true) ∧ Below w.heap.size w w' := by
  have l1 : xs.length = n1 := by have := h1.1; simpa [brow] using this
  have l2 : xs.length = n2 := by have := h2.1; simpa [brow] using this
  subst l1
  subst l2
  have H1 := Lib.hid h1
  have H2 := Lib.hid h2
  clear h1 h2
  go_enter Try.func39, Try.ntmps39
  go_wp2_with fail
  go_loopw [5] (fun i wr => ∃ k : Nat, k ≤ xs.length ∧ i = .int .i64 k ∧ Below w.heap.size w wr) (fun i _ => xs.length - (intOf i).toNat)
  case atStart => exact ⟨0, by omega, rfl, Below.refl _ _⟩
  case round =>
    obtain ⟨k, hk, rfl, hb⟩ := hrel
    by_cases hlt : k < xs.length
    · obtain ⟨b1, o1, rfl, hb1, hc1⟩ := (H1.out.below hb).2 (by omega)
      obtain ⟨b2, o2, rfl, hb2, hc2⟩ := (H2.out.below hb).2 (by omega)
      have q1 : wr.cell? ⟨b1, o1 + k, none⟩ = some (.int .u8 xs[k]) := hc1 k _ (by simp [brow, hlt])
      have q2 : wr.cell? ⟨b2, o2 + k, none⟩ = some (.int .u8 xs[k]) := hc2 k _ (by simp [brow, hlt])
      obtain ⟨x, hx⟩ : ∃ x, x = xs[k] := ⟨_, rfl⟩
      rw [← hx] at q1 q2
      have e : (x != x) = false := by simp
      have i0 : (0 : Int) ≤ k := by omega
      have i1 : (k : Int) < xs.length := by omega
      clear hc1 hc2 hx
      go_wp2_with fail
      go_quiet (fail)
      go_wp2_with fail
      go_roundw
      case rel => exact ⟨k + 1, by omega, by go_num, below_drewN hb nq⟩
      case measure => simp [intOf]; omega
    · go_wp2_with fail
      go_ret
      exact ⟨rfl, hb⟩
end Go.Proofs.Ytfhlcjfgbhmecaa
