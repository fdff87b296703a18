/- Package cache: a clone, and whether two are one. -/
import Derived.Test.YtfhlcjfgbhmecaaCache
import Derived.BigQuiet
import Derived.OwnWalk
import Derived.Laws.StructEq
namespace Go.Proofs.Ytfhlcjfgbhmecaa
open Go.RowKit
set_option linter.unusedVariables false

theorem rcell_one (st : List (Int × Int)) : ∀ u ∈ st.flatMap rcell, u.oneCell' = true := by
  intro u hu
  simp only [List.mem_flatMap, rcell, List.mem_cons, List.not_mem_nil, or_false] at hu
  obtain ⟨p, _, rfl | rfl⟩ := hu <;> rfl

set_option maxHeartbeats 400000 in
theorem cclone_c (gc gl : Nat) (st : List (Int × Int)) (w : World) (h : Cache w gc gl st) (h1 : 1 ≤ st.length) (hn : st.length ≤ 4) :
    Calls Try.prog 73 #[.pointer (some ⟨gc, 0, none⟩)] w fun e w' => ∃ gd gk, e = .returned (.pointer (some ⟨gd, 0, none⟩)) ∧ Cache w' gd gk st ∧ w.heap.size ≤ gd ∧ w.heap.size ≤ gk ∧ Below w.heap.size w w' := by
  obtain ⟨i0, hi0, hz0, hz1, hz2⟩ := info_parts info_reply
  obtain ⟨cap, k1, k2⟩ := h.ex
  have hc := (k1.cell 0).trans (show _ = some (.slice (some ⟨gl, 0, none⟩) st.length cap) from rfl)
  have hlen := Lib.hid k2.len
  have hnews := Lib.hid k2.news
  have h4 : st.length ≤ 4 := hn
  clear k1 k2 h
  go_enter Try.func73, Try.ntmps73
  go_wp2_with (at_builtin; refine wpList_append_lies _ rfl (.const (.slice none 0 0)) (.tmp 6) _ rfl 0 158 i0 _ 2 16 Try.underlying154 hi0 hz0 hz1 hz2 rfl (by omega) (.slice none 0 0) 0 [] rfl ⟨by simp, .inl ⟨rfl, rfl⟩⟩ ⟨gl, 0, none⟩ st.length cap (st.flatMap rcell) rfl hlen.out hnews.out (rcell_one st) (by omega) (by unfold maxLen; omega) (by omega) (Nat.zero_le _) w.heap.size rfl ?_; intro g cap' w1 hown1 hgrow1 hat1 hlt1)
  have hg : g = w.heap.size := by
    rcases hat1 with h | h
    · cases h
    · exact h
  subst hg
  simp only [Nat.zero_add, List.nil_append] at hown1
  have ho : Only [] w w1 := (Only.refl [] w).grown hgrow1 (fun k hk => by cases hk)
  have hb : Below w.heap.size w w1 := ho.to_below
  have HO := Lib.hid hown1
  clear hown1 hgrow1 hat1
  go_wp2
  go_ret
  refine ⟨w1.heap.size, w.heap.size, rfl, ⟨cap', Blk.new _ _ _, (Row.of_own HO.out).alloc _⟩, hb.size, Nat.le_refl _, hb.alloc hb.size _⟩

set_option maxHeartbeats 400000 in
theorem csame_c (gc gl gd gk : Nat) (st st' : List (Int × Int)) (w : World) (h : Cache w gc gl st) (h' : Cache w gd gk st') (hlen : st'.length = st.length) (hn : st.length ≤ 4) (b : Bool) (hb : decide (st = st') = b) :
    Calls Try.prog 70 #[.pointer (some ⟨gc, 0, none⟩), .pointer (some ⟨gd, 0, none⟩)] w fun e w' => e = .returned (.bool b) ∧ Below w.heap.size w w' := by
  have H := Lib.hid h
  have H' := Lib.hid h'
  obtain ⟨cap, _, _, c1⟩ := h.head
  obtain ⟨cap', _, _, c2⟩ := h'.head
  rw [hlen] at c2
  have HL := Lib.hid hlen
  have HB := Lib.hid hb
  clear h h' hlen hb
  go_enter Try.func70, Try.ntmps70
  go_wp2_with fail
  go_quiet (fail)
  have c3 : (w.drewN nq).cell? ⟨gc, 0, none⟩ = _ := c1
  have c4 : (w.drewN nq).cell? ⟨gd, 0, none⟩ = _ := c2
  have hbq : Below w.heap.size w (w.drewN nq) := below_drewN (Below.refl _ _) nq
  clear c1 c2
  generalize w.drewN nq = wq at c3 c4 hbq ⊢
  go_wp2_with fail
  go_loopw [23] (fun i wr => ∃ k : Nat, k ≤ st.length ∧ i = .int .i64 k ∧ (∀ j, j < k → st[j]? = st'[j]?) ∧ Below w.heap.size w wr) (fun i _ => st.length - (intOf i).toNat)
  case atStart => exact ⟨0, by omega, rfl, fun j hj => absurd hj (by omega), hbq⟩
  case round =>
    obtain ⟨k, hk, rfl, hs, hb⟩ := hrel
    have HS := Lib.hid hs
    clear hs
    by_cases hlt : k < st.length
    · have hlt' : k < st'.length := by rw [HL.out]; exact hlt
      have G := H.out.below hb
      have G' := H'.out.below hb
      have a0 := G.at0 k hlt
      have a1 := G.at1 k hlt
      have d0 := G'.at0 k hlt'
      have d1 := G'.at1 k hlt'
      have hh : wr.cell? ⟨gd, 0, none⟩ = some (.slice (some ⟨gk, 0, none⟩) st.length cap') := (hb.cell (p := ⟨gd, 0, none⟩) H'.out.clt).trans ((hbq.cell (p := ⟨gd, 0, none⟩) H'.out.clt).symm.trans c4)
      have n1 := lt_of_cell' a0
      have n2 := lt_of_cell' d0
      have n3 := lt_of_cell' hh
      obtain ⟨x, hx⟩ : ∃ x, x = st[k] := ⟨_, rfl⟩
      obtain ⟨y, hy⟩ : ∃ y, y = st'[k] := ⟨_, rfl⟩
      rw [← hx] at a0 a1
      rw [← hy] at d0 d1
      obtain ⟨x0, x1⟩ := x
      obtain ⟨y0, y1⟩ := y
      have HX := Lib.hid hx
      have HY := Lib.hid hy
      have i0 : (0 : Int) ≤ k := by omega
      have i1 : (k : Int) < st.length := by omega
      clear G G' hx hy
      have hz := hb.size
      have hbad : (x0, x1) ≠ (y0, y1) → b = false := fun hne => by
        rw [← HB.out]
        refine decide_eq_false fun he => hne ?_
        rw [HX.out, HY.out]
        subst he
        rfl
      go_wp2_with fail
      obtain ⟨w6, hw6⟩ : ∃ w6, w6 = wr.alloc (.cells #[.int .i64 x0, .int .i64 x1] 158) := ⟨_, rfl⟩
      rw [← hw6]
      have hb6 : Below w.heap.size w w6 := by rw [hw6]; exact hb.alloc hz _
      have hB : Blk w6 wr.heap.size 158 #[.int .i64 x0, .int .i64 x1] := by rw [hw6]; exact Blk.new _ _ _
      have p0 := (hB.cell 0).trans (show _ = some (.int .i64 x0) from rfl)
      have p1 := (hB.cell 1).trans (show _ = some (.int .i64 x1) from rfl)
      have q0 : w6.cell? ⟨gk, k * 2, none⟩ = some (.int .i64 y0) := by rw [hw6]; exact alloc_kept _ d0
      have q1 : w6.cell? ⟨gk, k * 2 + 1, none⟩ = some (.int .i64 y1) := by rw [hw6]; exact alloc_kept _ d1
      have q2 : w6.cell? ⟨gd, 0, none⟩ = some (.slice (some ⟨gk, 0, none⟩) st.length cap') := by rw [hw6]; exact alloc_kept _ hh
      have HBAD := Lib.hid hbad
      clear hw6 hB a0 a1 d0 d1 hh hbad n1 n2 n3
      by_cases e0 : x0 = y0
      · by_cases e1 : x1 = y1
        · subst e0
          subst e1
          go_quiet (fail)
          go_wp2
          go_roundw
          case rel =>
            refine ⟨k + 1, by omega, by go_num, fun j hj => ?_, below_drewN hb6 nq⟩
            by_cases hjk : j < k
            · exact HS.out j hjk
            · obtain rfl : j = k := by omega
              rw [List.getElem?_eq_getElem hlt, List.getElem?_eq_getElem hlt', ← HX.out, ← HY.out]
          case measure => simp [intOf]; omega
        · have e2 : (x1 == y1) = false := beq_eq_false_iff_ne.2 e1
          obtain rfl : b = false := HBAD.out (by simp [e1])
          subst e0
          clear HBAD
          go_quiet (fail)
          go_wp2
          go_ret
          exact ⟨rfl, below_drewN hb6 nq⟩
      · have e2 : (x0 == y0) = false := beq_eq_false_iff_ne.2 e0
        obtain rfl : b = false := HBAD.out (by simp [e0])
        clear HBAD
        go_quiet (fail)
        go_wp2
        go_ret
        exact ⟨rfl, below_drewN hb6 nq⟩
    · have hkk : k = st.length := by omega
      obtain rfl : b = true := by
        rw [← HB.out]
        refine decide_eq_true (List.ext_getElem? fun j => ?_)
        by_cases hj : j < k
        · exact HS.out j hj
        · rw [List.getElem?_eq_none (by omega), List.getElem?_eq_none (by rw [HL.out]; omega)]
      clear hkk
      go_wp2
      go_ret
      exact ⟨rfl, hb⟩
end Go.Proofs.Ytfhlcjfgbhmecaa
