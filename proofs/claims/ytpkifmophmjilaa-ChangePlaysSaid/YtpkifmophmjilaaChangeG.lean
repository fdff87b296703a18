/- The reference's Enough; Same of votes; Clone. -/
import Derived.Test.YtpkifmophmjilaaChangeF
namespace Go.Proofs.Ytpkifmophmjilaa
open Go.RowKit
set_option linter.unusedVariables false

theorem mat_more (v : Int) (L : List Vt) (k : Nat) : mat v L (k + 1) = mat v L k ++ (matAt v L k).toList := by
  unfold mat
  rw [List.range_succ, List.filterMap_append]
  congr 1
theorem mat_pre (v : Int) (L : List Vt) {j : Nat} : ∀ k, j ≤ k → mat v L j <+: mat v L k
  | 0, h => by
    have : j = 0 := by omega
    subst this; exact List.prefix_refl _
  | k + 1, h => by
    rcases Nat.lt_or_ge j (k + 1) with h1 | h1
    · rw [mat_more]
      exact (mat_pre v L k (by omega)).trans (List.prefix_append _ _)
    · have : j = k + 1 := by omega
      subst this; exact List.prefix_refl _
theorem mat_all (v : Int) (L : List Vt) {k : Nat} (hk : L.length ≤ k) : mat v L k = mat v L L.length := by
  induction k with
  | zero => have : L.length = 0 := by omega
            rw [this]
  | succ k ih =>
    rcases Nat.lt_or_ge k L.length with h | h
    · have : k + 1 = L.length := by omega
      rw [this]
    · rw [mat_more, ih h]
      have : matAt v L k = none := by
        unfold matAt
        rw [List.getD_eq_getElem?_getD, List.getElem?_eq_none h]
        rfl
      rw [this]
      simp
theorem take_pre {α : Type} {A B : List α} (h : A <+: B) {q : Nat} (hq : q ≤ A.length) : B.take q = A.take q := by
  obtain ⟨r, rfl⟩ := h
  rw [List.take_append_of_le_length hq]
theorem matAt_ref {v : Int} (hv : 0 ≤ v) (L : List Vt) (k : Nat) : matAt v L k = if refV L k = v then some ((k : Int), refS L k) else none := by
  unfold matAt refV refS
  cases hb : (L.getD k (false, 0, 0)).1
  · simp only [Bool.false_and, Bool.false_eq_true, if_false]
    rw [if_neg (by omega)]
  · simp
theorem mat_neg {v : Int} (hv : v < 0) {L : List Vt} (h : VFine L) (k : Nat) : mat v L k = [] := by
  unfold mat
  apply List.filterMap_eq_nil_iff.2
  intro i _
  unfold matAt
  by_cases hi : i < L.length
  · have hg : L.getD i (false, 0, 0) = L[i] := by simp [List.getD, hi]
    rw [hg]
    cases hb : L[i].1
    · simp
    · have := (h _ (List.getElem_mem hi) hb).1
      rw [decide_eq_false (by omega)]
      simp
  · rw [List.getD_eq_getElem?_getD, List.getElem?_eq_none (by omega)]
    simp

set_option maxRecDepth 100000 in
set_option maxHeartbeats 3200000 in
theorem renough_c (gr : Nat) (f : Int) (L : List Vt) (v : Int) (w : World) (h : RCh w gr f L) (hF : VFine L) (hn : L.length ≤ 13) (hv : I64 v) (hf : 1 ≤ f ∧ f ≤ 4) (q : Nat) (hq : 2 * f + 1 = q) (b : Bool) (hb : decide (q ≤ (mat v L L.length).length) = b)
    (E : List (Int × Int)) (hE : (if b then (mat v L L.length).take q else []) = E) (m : Nat) (hm : E.length = m) :
    Calls Try.prog 54 #[.pointer (some ⟨gr, 0, none⟩), .int .i64 v] w fun e w' => ∃ a c, e = .returned (.tuple #[.slice a m c, .bool b]) ∧ w'.ownsRow w.heap.size 70 2 (.slice a m c) m (E.flatMap pcell) ∧ Below w.heap.size w w' := by
  obtain ⟨i0, hi0, hz0, hz1, hz2⟩ := info_parts info_avote
  have H := Lib.hid h
  have F := Lib.hid hF
  have cf := h.cf
  have HB := Lib.hid hb
  have HE := Lib.hid hE
  have HM := Lib.hid hm
  have f1 := hf.1
  have f4 := hf.2
  have HQ := Lib.hid hq
  have q9 : q ≤ 9 := by omega
  have q1 : 1 ≤ q := by omega
  clear h hb hE hm hq hf hF
  go_enter Try.func54, Try.ntmps54
  go_wp2_with fail
  go_loopw [6, 7] (fun o i wr => ∃ k : Nat, k ≤ 13 ∧ i = .int .i64 k ∧ ∃ D a c, D = (mat v L k).take q ∧ o = .slice a D.length c ∧ wr.ownsRow w.heap.size 70 2 (.slice a D.length c) D.length (D.flatMap pcell) ∧ Below w.heap.size w wr) (fun _ i _ => 13 - (intOf i).toNat)
  case atStart => exact ⟨0, by omega, rfl, [], none, 0, by simp [mat], rfl, ⟨by simp, .inl ⟨rfl, rfl⟩⟩, Below.refl _ _⟩
  case round =>
    obtain ⟨k, hk, rfl, D, a, c, hD, rfl, hown, hbl⟩ := hrel
    have O := Lib.hid hown
    have B := Lib.hid hbl
    have dl : D.length ≤ q := by rw [hD, List.length_take]; omega
    have V := H.out.below hbl
    have cf' := V.cf
    have zr := hbl.size
    rcases (show (k < 13 ∧ D.length < q ∧ 0 ≤ v) ∨ (¬ k < 13 ∨ ¬ D.length < q ∨ v < 0) by omega) with ⟨hk13, hlq, hv0⟩ | hout
    · have cv := V.cv k hk13
      have cs := V.cs k hk13
      have i1 : (0 : Int) ≤ k := by omega
      have i2 : (k : Int) < 13 := by omega
      have ms := mat_more v L k
      rw [matAt_ref hv0] at ms
      obtain ⟨l0, hl0⟩ : ∃ l0, l0 = refV L k := ⟨_, rfl⟩
      obtain ⟨s0, hs0⟩ : ∃ s0, s0 = refS L k := ⟨_, rfl⟩
      rw [← hl0] at cv ms
      rw [← hs0] at cs ms
      have MS := Lib.hid ms
      have DD := Lib.hid hD
      clear hown hbl V ms hD hl0 hs0
      by_cases hc : l0 = v
      · have DN := Lib.hid (show D ++ [((k : Int), s0)] = (mat v L (k + 1)).take q by rw [MS.out, if_pos hc, Option.toList_some, take_snoc, ← DD.out, if_pos hlq])
        subst hc
        have hll : (D.flatMap pcell).length = D.length * 2 := flat_len pcell 2 pcell_len D
        go_wp2_with (first
          | (go_at_call 21; refine (rquorum_c f q HQ.out _ f1 f4).mono ?_; rintro e w' ⟨rfl, rfl⟩)
          | (at_builtin; refine wpList_append_lies _ rfl (.tmp 34) (.tmp 43) _ rfl w.heap.size 70 i0 _ 2 16 Try.underlying25 hi0 hz0 hz1 hz2 rfl (by omega) (.slice a D.length c) D.length (D.flatMap pcell) rfl (World.ownsRow.alloc O.out _) ⟨wr.heap.size, 0, none⟩ 1 1 [.int .i64 k, .int .i64 s0] rfl rfl (World.news_of_block (cs := #[.int .i64 k, .int .i64 s0]) (t := 70) (fr := (0, 0)) (Blk.new _ _ _)) (by simp [Value.oneCell']) (by omega) (by unfold maxLen; omega) (by omega) (by simp; omega) (wr.heap.size + 1) (by simp) ?_; intro g5 cap5 w5 hown5 hgrow5 hat5 hlt5))
        have RB := (B.out.alloc zr (.cells #[.int .i64 k, .int .i64 s0] 70)).grown hgrow5 (Nat.le_trans zr (by simp)) (fun j hj => (O.out.lt j hj).1)
        refine ⟨⟨k + 1, by omega, by go_num, D ++ [((k : Int), s0)], some ⟨g5, 0, none⟩, cap5, DN.out, by rw [List.length_append]; rfl, ?_, RB⟩, by simp [intOf]; omega⟩
        rw [List.length_append, List.flatMap_append]
        exact hown5
      · have DN := Lib.hid (show D = (mat v L (k + 1)).take q by rw [MS.out, if_neg hc, Option.toList_none, List.append_nil]; exact DD.out)
        go_wp2_with (go_at_call 21; refine (rquorum_c f q HQ.out _ f1 f4).mono ?_; rintro e w' ⟨rfl, rfl⟩)
        exact ⟨⟨k + 1, by omega, by go_num, D, a, c, DN.out, rfl, O.out, B.out⟩, by simp [intOf]; omega⟩
    · have DF := Lib.hid (show D = (mat v L L.length).take q by
        rcases hout with h | h | h
        · rw [hD, mat_all v L (show L.length ≤ k by omega)]
        · have hk2 : D.length = q := by omega
          have hml : q ≤ (mat v L k).length := by rw [hD, List.length_take] at hk2; omega
          rcases Nat.le_total k L.length with h1 | h1
          · rw [hD]; exact (take_pre (mat_pre v L _ h1) hml).symm
          · rw [hD, mat_all v L h1]
        · rw [hD, mat_neg h F.out, mat_neg h F.out])
      have DL := Lib.hid (show D.length = min q (mat v L L.length).length by rw [DF.out, List.length_take])
      clear hown hbl V hD
      by_cases hlq : D.length < q
      · obtain rfl : b = false := by rw [← HB.out]; exact decide_eq_false (by have := DL.out; omega)
        obtain rfl : E = [] := HE.out.symm
        obtain rfl : m = 0 := HM.out.symm
        rcases (show (¬ k < 13) ∨ (k < 13 ∧ v < 0) by omega) with h1 | ⟨h1, h2⟩
        all_goals
          clear hout
          go_wp2_with (go_at_call 21; refine (rquorum_c f q HQ.out _ f1 f4).mono ?_; rintro e w' ⟨rfl, rfl⟩)
          go_ret2
          exact ⟨none, 0, rfl, ⟨by simp, .inl ⟨rfl, rfl⟩⟩, B.out⟩
      · obtain rfl : b = true := by rw [← HB.out]; exact decide_eq_true (by have := DL.out; omega)
        obtain rfl : E = D := by rw [← HE.out, DF.out]; rfl
        obtain rfl := HM.out
        have l1 : 1 ≤ E.length := by omega
        clear hout
        rcases (show (¬ k < 13) ∨ (k < 13) by omega) with h1 | h1
        all_goals
          go_wp2_with (go_at_call 21; refine (rquorum_c f q HQ.out _ f1 f4).mono ?_; rintro e w' ⟨rfl, rfl⟩)
          go_ret2
          exact ⟨a, c, rfl, O.out, B.out⟩

theorem same_vote_c (a1 : Option Addr) (n1 c1 : Nat) (a2 : Option Addr) (n2 c2 : Nat) (E : List (Int × Int)) (w : World) (h1 : VRow w a1 n1 2 (E.flatMap pcell)) (h2 : VRow w a2 n2 2 (E.flatMap pcell)) (l1 : E.length = n1) (l2 : E.length = n2) (hn : n1 ≤ 4096) :
    Calls Try.prog 51 #[.slice a1 n1 c1, .slice a2 n2 c2] w fun e w' => e = .returned (.bool true) ∧ Below w.heap.size w w' := by
  subst l1
  subst l2
  have H1 := Lib.hid h1
  have H2 := Lib.hid h2
  clear h1 h2
  go_enter Try.func51, Try.ntmps51
  go_wp2_with fail
  go_loopw [5] (fun i wr => ∃ k : Nat, k ≤ E.length ∧ i = .int .i64 k ∧ Below w.heap.size w wr) (fun i _ => E.length - (intOf i).toNat)
  case atStart => exact ⟨0, by omega, rfl, Below.refl _ _⟩
  case round =>
    obtain ⟨k, hk, rfl, hb⟩ := hrel
    by_cases hlt : k < E.length
    · obtain ⟨b1, o1, rfl, hb1, hc1⟩ := (H1.out.below hb).2 (by omega)
      obtain ⟨b2, o2, rfl, hb2, hc2⟩ := (H2.out.below hb).2 (by omega)
      have q1 : wr.cell? ⟨b1, o1 + k * 2, none⟩ = some (.int .i64 E[k].1) := hc1 _ _ (flat_get' pcell 2 pcell_len E k 0 (by omega) hlt _ rfl)
      have q1' : wr.cell? ⟨b1, o1 + k * 2 + 1, none⟩ = some (.int .i64 E[k].2) := by rw [Nat.add_assoc]; exact hc1 _ _ (flat_get' pcell 2 pcell_len E k 1 (by omega) hlt _ rfl)
      have q2 : wr.cell? ⟨b2, o2 + k * 2, none⟩ = some (.int .i64 E[k].1) := hc2 _ _ (flat_get' pcell 2 pcell_len E k 0 (by omega) hlt _ rfl)
      have q2' : wr.cell? ⟨b2, o2 + k * 2 + 1, none⟩ = some (.int .i64 E[k].2) := by rw [Nat.add_assoc]; exact hc2 _ _ (flat_get' pcell 2 pcell_len E k 1 (by omega) hlt _ rfl)
      obtain ⟨x, hx⟩ : ∃ x, x = E[k].1 := ⟨_, rfl⟩
      obtain ⟨y, hy⟩ : ∃ y, y = E[k].2 := ⟨_, rfl⟩
      rw [← hx] at q1 q2
      rw [← hy] at q1' q2'
      have e : (x != x) = false := by simp
      have e' : (y != y) = false := by simp
      have i0 : (0 : Int) ≤ k := by omega
      have i1 : (k : Int) < E.length := by omega
      clear hc1 hc2 hx hy
      go_wp2_with fail
      go_quiet (fail)
      go_wp2_with fail
      go_roundw
      case rel => exact ⟨k + 1, by omega, by go_num, below_drewN hb nq⟩
      case measure => simp [intOf]; omega
    · go_wp2_with fail
      go_ret
      exact ⟨rfl, hb⟩

theorem vcell_one (L : List Vt) : ∀ v ∈ L.flatMap vcell, v.oneCell' = true := by
  intro v hv
  obtain ⟨p, _, hp⟩ := List.mem_flatMap.1 hv
  simp [vcell] at hp
  rcases hp with rfl | rfl | rfl <;> rfl
set_option maxRecDepth 100000 in
theorem vclone_c (gv gl : Nat) (f : Int) (L : List Vt) (w : World) (h : Votes w gv gl f L) (h1 : 1 ≤ L.length) (hn : L.length ≤ 13) :
    Calls Try.prog 44 #[.pointer (some ⟨gv, 0, none⟩)] w fun e w' => ∃ gd gk, e = .returned (.pointer (some ⟨gd, 0, none⟩)) ∧ Votes w' gd gk f L ∧ w.heap.size ≤ gd ∧ w.heap.size ≤ gk ∧ Below w.heap.size w w' := by
  obtain ⟨i0, hi0, hz0, hz1, hz2⟩ := info_parts info_vote
  obtain ⟨cap, k1, k2⟩ := h.ex
  have hf := k1.cell 0
  have hc := (k1.cell 1).trans (show _ = some (.slice (some ⟨gl, 0, none⟩) L.length cap) from rfl)
  have hlen := Lib.hid k2.len
  have hnews := Lib.hid k2.drew.news
  have h4 : L.length ≤ 13 := hn
  have hf' : w.cell? ⟨gv, 0, none⟩ = some (.int .i64 f) := hf
  clear k1 k2 h hf
  go_enter Try.func44, Try.ntmps44
  go_wp2_with fail
  go_region_held3 (fun w' => w'.cell? ⟨gv, 0, none⟩ = some (.int .i64 f) ∧ w'.cell? ⟨gv, 1, none⟩ = some (.slice (some ⟨gl, 0, none⟩) L.length cap)) (first | go_keep | exact ⟨s0, s1⟩)
    (first | (refine step_append_lies _ (by rfl) _ _ _ (by rfl) 0 100 i0 _ 3 24 Try.underlying96 hi0 hz0 hz1 hz2 rfl (by omega) (.slice none 0 0) 0 [] (by rfl) ⟨by simp, .inl ⟨rfl, rfl⟩⟩ ⟨gl, 0, none⟩ L.length cap (L.flatMap vcell) (by rfl) hlen.out hnews.out (vcell_one L) (by omega) (by unfold maxLen; omega) (by omega) (Nat.zero_le _) w.heap.size (by rfl) ?_; intro g cap' w1 hown1 hgrow1 hat1 hlt1; have s0 := grown_cell hgrow1 (p := ⟨gv, 0, none⟩) hf' (by simp [Value.ownBlock]); have s1 := grown_cell hgrow1 (p := ⟨gv, 1, none⟩) hc (by simp [Value.ownBlock])))
  all_goals
    have hg : g = w.heap.size := by
      rcases hat1 with h | h
      · cases h
      · exact h
    simp only [Nat.zero_add, List.nil_append] at hown1
    have ho : Only [] w w1 := ((Only.refl [] w).drew).grown hgrow1 (fun k hk => by cases hk)
    have hb : Below w.heap.size w w1 := ho.to_below
    have HO := Lib.hid hown1
    have HG := Lib.hid hg
    have HBB := Lib.hid hb
    clear hown1 hgrow1 hat1 hg ho hb
    go_wp2
    go_ret
    exact ⟨w1.heap.size, g, rfl, ⟨cap', Blk.new _ _ _, (Row.of_own HO.out).alloc _⟩, HBB.out.size, by rw [HG.out]; exact Nat.le_refl _, HBB.out.alloc HBB.out.size _⟩
end Go.Proofs.Ytpkifmophmjilaa
