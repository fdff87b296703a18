/- Package change: Drop, Enough. -/
import Derived.Test.YtpkifmophmjilaaChange
namespace Go.Proofs.Ytpkifmophmjilaa
open Go.RowKit
set_option linter.unusedVariables false

section
variable {α : Type}
theorem part_len (g : α → α) (L : List α) (k : Nat) (hk : k ≤ L.length) : ((L.take k).map g ++ L.drop k).length = L.length := by
  simp only [List.length_append, List.length_map, List.length_take, List.length_drop]
  omega
theorem part_get (g : α → α) (L : List α) (k : Nat) (hk : k < L.length) : ((L.take k).map g ++ L.drop k)[k]'(by rw [part_len g L k (by omega)]; exact hk) = L[k] := by
  rw [List.getElem_append_right (by simp only [List.length_map, List.length_take]; omega)]
  simp only [List.length_map, List.length_take, List.getElem_drop]
  congr 1
  omega
theorem part_set (g : α → α) (L : List α) (k : Nat) (hk : k < L.length) : ((L.take k).map g ++ L.drop k).set k (g L[k]) = (L.take (k + 1)).map g ++ L.drop (k + 1) := by
  rw [List.drop_eq_getElem_cons hk, List.set_append_right _ _ (by simp only [List.length_map, List.length_take]; omega)]
  have e : k - ((L.take k).map g).length = 0 := by simp only [List.length_map, List.length_take]; omega
  rw [e, List.set_cons_zero, List.take_add_one, List.getElem?_eq_getElem hk, List.map_append, List.append_assoc]
  rfl
theorem part_keep (g : α → α) (L : List α) (k : Nat) (hk : k < L.length) (h : g L[k] = L[k]) : (L.take k).map g ++ L.drop k = (L.take (k + 1)).map g ++ L.drop (k + 1) := by
  rw [← part_set g L k hk, h]
  apply List.ext_getElem?
  intro i
  rw [List.getElem?_set]
  split
  · rename_i e
    subst e
    rw [List.getElem?_eq_getElem (by rw [part_len g L k (by omega)]; exact hk), part_get g L k hk]
    simp only [part_len g L k (by omega), hk, if_true]
  · rfl
theorem take_snoc (M : List α) (q : Nat) (x : α) : (M ++ [x]).take q = if (M.take q).length < q then M.take q ++ [x] else M.take q := by
  rw [List.length_take]
  split
  · rw [List.take_of_length_le (by simp; omega), List.take_of_length_le (by omega)]
  · rw [List.take_append_of_le_length (by omega)]
end

def dropV (b : Int) (p : Vt) : Vt := if p.1 && decide (p.2.1 < b) then (false, 0, 0) else p
def dropSt (L : List Vt) (b : Int) : List Vt := L.map (dropV b)
def dropN (L : List Vt) (b : Int) : Nat := (L.filter fun p => p.1 && decide (p.2.1 < b)).length
theorem dropN_succ (L : List Vt) (b : Int) (k : Nat) (hk : k < L.length) : dropN (L.take (k + 1)) b = dropN (L.take k) b + if (L[k].1 && decide (L[k].2.1 < b)) = true then 1 else 0 := by
  unfold dropN
  rw [List.take_add_one, List.getElem?_eq_getElem hk, List.filter_append, List.length_append]
  congr 1
  simp only [Option.toList_some, List.filter_cons, List.filter_nil]
  split <;> simp_all
theorem dropN_le (L : List Vt) (b : Int) : dropN L b ≤ L.length := List.length_filter_le _ _

set_option maxHeartbeats 1600000 in
theorem vdrop_c (gv gl : Nat) (f : Int) (L : List Vt) (b : Int) (w : World) (h : Votes w gv gl f L) (hn : L.length ≤ 13) (n : Nat) (hN : dropN L b = n) (L' : List Vt) (hs : dropSt L b = L') :
    Calls Try.prog 33 #[.pointer (some ⟨gv, 0, none⟩), .int .i64 b] w fun e w' => e = .returned (.int .i64 n) ∧ Votes w' gv gl f L' ∧ Only [gl] w w' := by
  have H := Lib.hid h
  obtain ⟨cap, _, _, h1⟩ := h.head
  have HN := Lib.hid hN
  have HS := Lib.hid hs
  clear h hN hs
  go_enter Try.func33, Try.ntmps33
  go_wp2_with fail
  go_loopw [5, 13] (fun m i wr => ∃ k : Nat, k ≤ L.length ∧ i = .int .i64 k ∧ m = .int .i64 (dropN (L.take k) b : Nat) ∧ Votes wr gv gl f ((L.take k).map (dropV b) ++ L.drop k) ∧ Only [gl] w wr) (fun _ i _ => L.length - (intOf i).toNat)
  case atStart => exact ⟨0, by omega, rfl, rfl, by simpa using H.out, Only.refl _ _⟩
  case round =>
    obtain ⟨k, hk, rfl, rfl, hv, ho⟩ := hrel
    have V := Lib.hid hv
    have O := Lib.hid ho
    by_cases hkl : k < L.length
    · obtain ⟨M, hM⟩ : ∃ M, M = (L.take k).map (dropV b) ++ L.drop k := ⟨_, rfl⟩
      have ml : M.length = L.length := by rw [hM]; exact part_len _ _ _ hk
      have mk : k < M.length := by rw [ml]; exact hkl
      have mg : M[k] = L[k] := by simp only [hM]; exact part_get _ _ _ hkl
      rw [← hM] at hv
      have c0 := hv.at0 k mk
      have c1 := hv.at1 k mk
      have c2 := hv.at2 k mk
      have f0 := hv.fr (k * 3)
      have f1 := hv.fr (k * 3 + 1)
      have f2 := hv.fr (k * 3 + 2)
      obtain ⟨cap', _, _, hh⟩ := hv.head
      have h1' : wr.cell? ⟨gv, 1, none⟩ = some (.slice (some ⟨gl, 0, none⟩) L.length cap) := (ho.cell_ h1 (by simpa using H.out.ne))
      rw [mg] at c0 c1 c2
      have sn := dropN_succ L b k hkl
      have st := part_set (dropV b) L k hkl
      have sk := part_keep (dropV b) L k hkl
      rw [← hM] at st sk
      have nle := dropN_le (L.take k) b
      rw [List.length_take] at nle
      have i1 : (0 : Int) ≤ k := by omega
      have i2 : (k : Int) < L.length := by omega
      obtain ⟨d, hd⟩ : ∃ d, d = dropN (L.take k) b := ⟨_, rfl⟩
      rw [← hd] at sn nle ⊢
      have VM := Lib.hid hv
      obtain ⟨p, hp⟩ : ∃ p, p = L[k] := ⟨_, rfl⟩
      rw [← hp] at c0 c1 c2 sn st sk
      obtain ⟨b0, l0, s0⟩ := p
      simp only at c0 c1 c2 sn
      have d1 : (0 : Int) ≤ d := by omega
      have d2 : (d : Int) ≤ 13 := by omega
      have lk : gl < wr.heap.size := hv.llt
      clear hv ho hh hp mg hM hd nle V
      by_cases hc : (b0 && decide (l0 < b)) = true
      · have hb0 : b0 = true := by cases b0; · cases hc
                                   · rfl
        subst hb0
        have hlt : l0 < b := of_decide_eq_true hc
        have e : dropV b (true, l0, s0) = (false, 0, 0) := if_pos hc
        rw [e] at st
        rw [if_pos hc] at sn
        have ST := Lib.hid st
        have SN := Lib.hid sn
        have V2 := VM.out.below ((Below.refl _ _).alloc (Nat.le_refl _) (.cells #[.bool true, .int .i64 l0, .int .i64 s0] 100))
        have g0 := V2.fr (k * 3)
        have g1 := V2.fr (k * 3 + 1)
        have g2 := V2.fr (k * 3 + 2)
        have a0 := alloc_kept (.cells #[.bool true, .int .i64 l0, .int .i64 s0] 100) c0
        have a1 := alloc_kept (.cells #[.bool true, .int .i64 l0, .int .i64 s0] 100) c1
        have a2 := alloc_kept (.cells #[.bool true, .int .i64 l0, .int .i64 s0] 100) c2
        have a3 := alloc_kept (.cells #[.bool true, .int .i64 l0, .int .i64 s0] 100) h1'
        have V2 := Lib.hid V2
        clear st sk sn e hc ml
        go_wp2_with fail
        refine ⟨⟨k + 1, by omega, by go_num, ?_, ?_, ?_⟩, by simp [intOf]; omega⟩
        · rw [SN.out]; go_num
        · have := VM.out.set mk false 0 0
          rw [ST.out] at this
          exact this.below ((Below.refl _ _).alloc (Nat.le_refl _) _)
        · exact (((O.out.setCell (p := ⟨gl, _, none⟩) (.inl (by simp)) _).setCell (p := ⟨gl, _, none⟩) (.inl (by simp)) _).setCell (p := ⟨gl, _, none⟩) (.inl (by simp)) _).alloc _
      · have e : dropV b (b0, l0, s0) = (b0, l0, s0) := if_neg hc
        have sk := sk e
        rw [if_neg hc] at sn
        have SK := Lib.hid sk
        have SN := Lib.hid sn
        clear st sk sn e ml
        cases b0
        · go_wp2_with fail
          refine ⟨⟨k + 1, by omega, by go_num, by rw [SN.out]; rfl, ?_, O.out.alloc _⟩, by simp [intOf]; omega⟩
          rw [← SK.out]
          exact VM.out.below ((Below.refl _ _).alloc (Nat.le_refl _) _)
        · have hge : b ≤ l0 := by
            simp only [Bool.true_and, decide_eq_true_eq] at hc
            omega
          clear hc
          go_wp2_with fail
          refine ⟨⟨k + 1, by omega, by go_num, by rw [SN.out]; rfl, ?_, O.out.alloc _⟩, by simp [intOf]; omega⟩
          rw [← SK.out]
          exact VM.out.below ((Below.refl _ _).alloc (Nat.le_refl _) _)
    · have hkk : k = L.length := by omega
      subst hkk
      rw [List.take_length] at hv ⊢
      rw [List.drop_length, List.append_nil] at hv
      rw [HN.out]
      have HV := Lib.hid (show Votes wr gv gl f L' by rw [← HS.out]; exact hv)
      clear hv ho V
      go_wp2_with fail
      go_ret
      exact ⟨rfl, HV.out, O.out⟩

theorem quorum_c (f : Int) (q : Nat) (hq : 2 * f + 1 = q) (w : World) (h1 : 1 ≤ f) (h4 : f ≤ 4) : Calls Try.prog 48 #[.int .i64 f] w fun e w' => e = .returned (.int .i64 q) ∧ w = w' := by
  rw [← hq]
  clear hq
  go_enter Try.func48, Try.ntmps48
  go_wp2
  go_ret
  exact ⟨rfl, rfl⟩

/-- The votes of the nodes below k for a view. -/
def matAt (v : Int) (L : List Vt) (i : Nat) : Option (Int × Int) := if (L.getD i (false, 0, 0)).1 && decide ((L.getD i (false, 0, 0)).2.1 = v) then some ((i : Int), (L.getD i (false, 0, 0)).2.2) else none
def mat (v : Int) (L : List Vt) (k : Nat) : List (Int × Int) := (List.range k).filterMap (matAt v L)
theorem mat_succ (v : Int) (L : List Vt) (k : Nat) (hk : k < L.length) : mat v L (k + 1) = mat v L k ++ if (L[k].1 && decide (L[k].2.1 = v)) = true then [((k : Int), L[k].2.2)] else [] := by
  have hg : L.getD k (false, 0, 0) = L[k] := by simp [List.getD, hk]
  unfold mat
  rw [List.range_succ, List.filterMap_append]
  congr 1
  simp only [List.filterMap_cons, List.filterMap_nil, matAt, hg]
  split <;> simp_all
theorem mat_len (v : Int) (L : List Vt) (k : Nat) : (mat v L k).length ≤ k := by
  have := List.length_filterMap_le (matAt v L) (List.range k)
  rwa [List.length_range] at this
def pcell (p : Int × Int) : List Value := [.int .i64 p.1, .int .i64 p.2]
theorem pcell_len (p : Int × Int) : (pcell p).length = 2 := rfl
theorem info_avote : (Try.prog.info? 70).map (fun i => (i.zero, i.size, i.bytes)) = some (some (.agg #[.int .i64 0, .int .i64 0]), 2, 16) := by kernel_rfl

set_option maxRecDepth 100000 in
set_option maxHeartbeats 3200000 in
theorem enough_c (gv gl : Nat) (f : Int) (L : List Vt) (v : Int) (w : World) (h : Votes w gv gl f L) (hn : L.length ≤ 13) (hv : I64 v) (hf : 1 ≤ f ∧ f ≤ 4) (q : Nat) (hq : 2 * f + 1 = q) (b : Bool) (hb : decide (q ≤ (mat v L L.length).length) = b)
    (E : List (Int × Int)) (hE : (if b then (mat v L L.length).take q else []) = E) (m : Nat) (hm : E.length = m) :
    Calls Try.prog 30 #[.pointer (some ⟨gv, 0, none⟩), .int .i64 v] w fun e w' => ∃ a c, e = .returned (.tuple #[.slice a m c, .bool b]) ∧ w'.ownsRow w.heap.size 70 2 (.slice a m c) m (E.flatMap pcell) ∧ Below w.heap.size w w' := by
  obtain ⟨i0, hi0, hz0, hz1, hz2⟩ := info_parts info_avote
  have H := Lib.hid h
  obtain ⟨cap, _, _, h1⟩ := h.head
  have cf := h.cf
  have HB := Lib.hid hb
  have HE := Lib.hid hE
  have HM := Lib.hid hm
  have f1 := hf.1
  have f4 := hf.2
  have HQ := Lib.hid hq
  have q9 : q ≤ 9 := by omega
  clear h hb hE hm hq hf
  go_enter Try.func30, Try.ntmps30
  go_wp2_with fail
  go_loopw [6, 14] (fun o i wr => ∃ k : Nat, k ≤ L.length ∧ i = .int .i64 k ∧ ∃ D a c, D = (mat v L k).take q ∧ o = .slice a D.length c ∧ wr.ownsRow w.heap.size 70 2 (.slice a D.length c) D.length (D.flatMap pcell) ∧ Below w.heap.size w wr) (fun _ i _ => L.length - (intOf i).toNat)
  case atStart => exact ⟨0, by omega, rfl, [], none, 0, by simp [mat], rfl, ⟨by simp, .inl ⟨rfl, rfl⟩⟩, Below.refl _ _⟩
  case round =>
    obtain ⟨k, hk, rfl, D, a, c, hD, rfl, hown, hbl⟩ := hrel
    have O := Lib.hid hown
    have B := Lib.hid hbl
    have dl : D.length ≤ 9 := by rw [hD, List.length_take]; omega
    have V := H.out.below hbl
    have cf' := V.cf
    by_cases hkl : k < L.length
    · have c0 := V.at0 k hkl
      have c1 := V.at1 k hkl
      have c2 := V.at2 k hkl
      have hh := hbl.cell (p := ⟨gv, 1, none⟩) H.out.vlt
      rw [h1] at hh
      have ms := mat_succ v L k hkl
      have i1 : (0 : Int) ≤ k := by omega
      have i2 : (k : Int) < L.length := by omega
      obtain ⟨p, hp⟩ : ∃ p, p = L[k] := ⟨_, rfl⟩
      rw [← hp] at c0 c1 c2 ms
      obtain ⟨b0, l0, s0⟩ := p
      simp only at c0 c1 c2 ms
      have zr := hbl.size
      have MS := Lib.hid ms
      have DD := Lib.hid hD
      have lk := V.vlt
      have lk2 := V.llt
      have a0 := alloc_kept (.cells #[.bool b0, .int .i64 l0, .int .i64 s0] 100) cf'
      clear hown hbl V hp ms hD
      by_cases hc : (b0 && decide (l0 = v)) = true
      · have hb0 : b0 = true := by cases b0; · cases hc
                                   · rfl
        subst hb0
        have hlt : l0 = v := of_decide_eq_true hc
        subst hlt
        have ST := Lib.hid (show mat l0 L (k + 1) = mat l0 L k ++ [((k : Int), s0)] by rw [MS.out, if_pos hc])
        clear hc
        by_cases hlq : D.length < q
        · have DN := Lib.hid (show D ++ [((k : Int), s0)] = (mat l0 L (k + 1)).take q by rw [ST.out, take_snoc, ← DD.out, if_pos hlq])
          have hll : (D.flatMap pcell).length = D.length * 2 := flat_len pcell 2 pcell_len D
          go_wp2_with (first
            | (go_at_call 48; refine (quorum_c f q HQ.out _ f1 f4).mono ?_; rintro e w' ⟨rfl, rfl⟩)
            | (at_builtin; refine wpList_append_lies _ rfl (.tmp 37) (.tmp 42) _ rfl w.heap.size 70 i0 _ 2 16 Try.underlying25 hi0 hz0 hz1 hz2 rfl (by omega) (.slice a D.length c) D.length (D.flatMap pcell) rfl (World.ownsRow.alloc (World.ownsRow.alloc O.out _) _) ⟨wr.heap.size + 1, 0, none⟩ 1 1 [.int .i64 k, .int .i64 s0] rfl rfl (World.news_of_block (cs := #[.int .i64 k, .int .i64 s0]) (t := 70) (fr := (0, 0)) (Blk.new' _ _ _ (by simp))) (by simp [Value.oneCell']) (by omega) (by unfold maxLen; omega) (by omega) (by simp; omega) (wr.heap.size + 1 + 1) (by simp) ?_; intro g5 cap5 w5 hown5 hgrow5 hat5 hlt5))
          have RB := ((B.out.alloc zr (.cells #[.bool true, .int .i64 l0, .int .i64 s0] 100)).alloc (Nat.le_trans zr (by simp)) (.cells #[.int .i64 k, .int .i64 s0] 70)).grown hgrow5 (Nat.le_trans zr (by simp; omega)) (fun j hj => (O.out.lt j hj).1)
          refine ⟨⟨k + 1, by omega, by go_num, D ++ [((k : Int), s0)], some ⟨g5, 0, none⟩, cap5, DN.out, by rw [List.length_append]; rfl, ?_, RB⟩, by simp [intOf]; omega⟩
          rw [List.length_append, List.flatMap_append]
          exact hown5
        · have DN := Lib.hid (show D = (mat l0 L (k + 1)).take q by rw [ST.out, take_snoc, ← DD.out, if_neg hlq])
          go_wp2_with (go_at_call 48; refine (quorum_c f q HQ.out _ f1 f4).mono ?_; rintro e w' ⟨rfl, rfl⟩)
          refine ⟨⟨k + 1, by omega, by go_num, D, a, c, DN.out, rfl, World.ownsRow.alloc O.out _, B.out.alloc zr _⟩, by simp [intOf]; omega⟩
      · have DN := Lib.hid (show D = (mat v L (k + 1)).take q by rw [MS.out, if_neg hc, List.append_nil]; exact DD.out)
        cases b0
        · clear hc
          go_wp2_with fail
          refine ⟨⟨k + 1, by omega, by go_num, D, a, c, DN.out, rfl, World.ownsRow.alloc O.out _, B.out.alloc zr _⟩, by simp [intOf]; omega⟩
        · have hne : ¬ l0 = v := fun e => hc (by rw [e]; simp)
          clear hc
          go_wp2_with fail
          refine ⟨⟨k + 1, by omega, by go_num, D, a, c, DN.out, rfl, World.ownsRow.alloc O.out _, B.out.alloc zr _⟩, by simp [intOf]; omega⟩
    · have hkk : k = L.length := by omega
      subst hkk
      have DD := Lib.hid hD
      have DL := Lib.hid (show D.length = min q (mat v L L.length).length by rw [hD, List.length_take])
      clear hown hbl V hD
      by_cases hlq : D.length < q
      · obtain rfl : b = false := by rw [← HB.out]; exact decide_eq_false (by have := DL.out; omega)
        obtain rfl : E = [] := HE.out.symm
        obtain rfl : m = 0 := HM.out.symm
        go_wp2_with (go_at_call 48; refine (quorum_c f q HQ.out _ f1 f4).mono ?_; rintro e w' ⟨rfl, rfl⟩)
        go_ret2
        exact ⟨none, 0, rfl, ⟨by simp, .inl ⟨rfl, rfl⟩⟩, B.out⟩
      · obtain rfl : b = true := by rw [← HB.out]; exact decide_eq_true (by have := DL.out; omega)
        obtain rfl : E = D := by rw [← HE.out, DD.out]; rfl
        obtain rfl := HM.out
        go_wp2_with (go_at_call 48; refine (quorum_c f q HQ.out _ f1 f4).mono ?_; rintro e w' ⟨rfl, rfl⟩)
        go_ret2
        exact ⟨a, c, rfl, O.out, B.out⟩
end Go.Proofs.Ytpkifmophmjilaa
