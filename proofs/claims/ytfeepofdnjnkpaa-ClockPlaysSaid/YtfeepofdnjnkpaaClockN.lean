/- Package clock: Set of a timer that is not there. -/
import Derived.Test.YtfeepofdnjnkpaaClockS
import Derived.Test.YtfeepofdnjnkpaaCopyS
namespace Go.Proofs.Ytfeepofdnjnkpaa
open Go.RowKit
set_option linter.unusedVariables false

def insAt (L : List (Int × Int)) (k : Nat) (x : Int × Int) : List (Int × Int) := L.take k ++ x :: L.drop k
theorem insAt_len (L : List (Int × Int)) (k : Nat) (hk : k ≤ L.length) (x : Int × Int) : (insAt L k x).length = L.length + 1 := by
  simp [insAt]
  omega
section
variable {α β : Type}
theorem flat_drop (f : α → List β) (s : Nat) (hs : ∀ x, (f x).length = s) (st : List α) (k : Nat) (hk : k ≤ st.length) : (st.flatMap f).drop (k * s) = (st.drop k).flatMap f := by
  have e : st.flatMap f = (st.take k).flatMap f ++ (st.drop k).flatMap f := by rw [← List.flatMap_append, List.take_append_drop]
  have hl : ((st.take k).flatMap f).length = k * s := by rw [flat_len f s hs, List.length_take, Nat.min_eq_left hk]
  rw [e, ← hl, List.drop_left]
theorem shift_law (f : α → List β) (s : Nat) (hs : ∀ x, (f x).length = s) (L : List α) (z : α) (k : Nat) (hk : k ≤ L.length) :
    setMany ((L ++ [z]).flatMap f) ((k + 1) * s) ((((L ++ [z]).flatMap f).drop (k * s)).take ((L.length - k) * s)) = ((L ++ [z]).take (k + 1) ++ L.drop k).flatMap f := by
  have hl : (L ++ [z]).length = L.length + 1 := by simp
  rw [flat_drop f s hs (L ++ [z]) k (by omega), List.drop_append_of_le_length hk, show (L.drop k ++ [z]).flatMap f = (L.drop k).flatMap f ++ [z].flatMap f from List.flatMap_append ..]
  have e1 : ((L.drop k).flatMap f).length = (L.length - k) * s := by rw [flat_len f s hs, List.length_drop]
  rw [← e1, List.take_left]
  have e2 : (L ++ [z]).flatMap f = ((L ++ [z]).take (k + 1)).flatMap f ++ (((L ++ [z]).drop (k + 1)).flatMap f ++ []) := by rw [List.append_nil, ← List.flatMap_append, List.take_append_drop]
  have e3 : (((L ++ [z]).take (k + 1)).flatMap f).length = (k + 1) * s := by rw [flat_len f s hs, List.length_take, Nat.min_eq_left (by omega)]
  have e4 : (((L ++ [z]).drop (k + 1)).flatMap f).length = ((L.drop k).flatMap f).length := by rw [flat_len f s hs, flat_len f s hs, List.length_drop, List.length_drop, hl]; congr 1; omega
  rw [e2, ← e3]
  have h : setMany (((L ++ [z]).take (k + 1)).flatMap f ++ (((L ++ [z]).drop (k + 1)).flatMap f ++ [])) (((L ++ [z]).take (k + 1)).flatMap f).length ((L.drop k).flatMap f) = _ := setMany_right (((L ++ [z]).take (k + 1)).flatMap f) ((L.drop k).flatMap f) (((L ++ [z]).drop (k + 1)).flatMap f ++ []) 0
  rw [h, setMany_left _ _ _ e4, List.append_nil, List.flatMap_append]
end
theorem shift_set (L : List (Int × Int)) (z x : Int × Int) (k : Nat) (hk : k ≤ L.length) : ((L ++ [z]).take (k + 1) ++ L.drop k).set k x = insAt L k x := by
  have e : (L ++ [z]).take (k + 1) = L.take k ++ [(L ++ [z])[k]'(by simp; omega)] := by
    rw [List.take_succ_eq_append_getElem (by simp; omega), List.take_append_of_le_length hk]
  have hl : (L.take k).length = k := by rw [List.length_take, Nat.min_eq_left hk]
  rw [e, List.append_assoc, List.set_append_right _ _ (by omega), hl, Nat.sub_self]
  rfl
theorem tcell_one (L : List (Int × Int)) : ∀ v ∈ L.flatMap tcell, v.oneCell' = true := by
  intro v hv
  rw [List.mem_flatMap] at hv
  obtain ⟨p, _, hp⟩ := hv
  simp only [tcell, List.mem_cons, List.not_mem_nil, or_false] at hp
  rcases hp with rfl | rfl <;> rfl

theorem from_k {P : Program} (T E s : Nat) (hT : P.underlying T = some (.slice E)) (hE : P.elem T = E) (hs : ∀ w : World, (sizeOf E).run P w = .ok s w) (g n c k : Nat) (hk : k ≤ n) (hc : k < c) (i : Int) (hi : i = k) (w : World) :
    (Instr.slice T (.slice (some ⟨g, 0, none⟩) n c) (some (.int .i64 i)) none none).run P w = .ok (.slice (some ⟨g, k * s, none⟩) (n - k) (c - k)) w := by
  subst hi
  have h := run_slice_l (P := P) (w := w) T (some ⟨g, 0, none⟩) n c (by rw [hE]; exact hT) .i64 k (by omega) (by omega)
  rw [h, hE, hs w]
  show Result.ok (sliced (some ⟨g, 0, none⟩) ((k : Int).toNat) n c s) w = _
  rw [Int.toNat_natCast]
  simp only [sliced, Option.map_some, addr_add]
  rw [if_neg (by omega), Nat.zero_add]
theorem from_end {P : Program} (T E s : Nat) (hT : P.underlying T = some (.slice E)) (hE : P.elem T = E) (hs : ∀ w : World, (sizeOf E).run P w = .ok s w) (g n c : Nat) (hc : n ≤ c) (i : Int) (hi : i = n) :
    ∃ A, ∀ (w : World), (Instr.slice T (.slice (some ⟨g, 0, none⟩) n c) (some (.int .i64 i)) none none).run P w = .ok (.slice A 0 (c - n)) w := by
  subst hi
  refine ⟨if c = n then some ⟨g, 0, none⟩ else (some (⟨g, 0, none⟩ : Addr)).map (·.add (n * s)), fun w => ?_⟩
  have h := run_slice_l (P := P) (w := w) T (some ⟨g, 0, none⟩) n c (by rw [hE]; exact hT) .i64 n (by omega) (by omega)
  rw [h, hE, hs w]
  show Result.ok (sliced (some ⟨g, 0, none⟩) ((n : Int).toNat) n c s) w = _
  rw [Int.toNat_natCast]
  simp only [sliced, Nat.sub_self]
theorem tick_only {B g n cap : Nat} {xs : List Value} {w w' : World} (ho : Only [g] w w') (hr : Row w g 81 2 n cap xs) (hB : B ≤ g) : Ticked B w w' :=
  ⟨⟨ho.os, ho.tape, ho.output, ho.size, fun k hk => ho.block k (Nat.lt_trans (Nat.lt_of_lt_of_le hk hB) hr.lt) (by simp; omega)⟩, fun k cs t hb h1 h2 => hb.only ho (by simp; exact fun e => hr.ne hb (Ne.symm h2) e.symm)⟩
theorem size_timer (w : World) : (sizeOf 81).run Try.prog w = .ok 2 w := by
  obtain ⟨j0, hj0, hy0, hy1, hy2⟩ := info_parts info_timer
  simp [sizeOf, typeInfo, hj0, hy1]
theorem Ticked.grown {B s n : Nat} {w w' : World} {v : Value} {xs : List Value} (hown : w.ownsRow B 81 s v n xs) (hg : w.grownBy w' v.ownBlock) (hB : B ≤ w.heap.size) : Ticked B w w' :=
  ⟨(Below.refl B w).grown hg hB (fun j hj => (hown.lt j hj).1), fun k cs t hb h1 h2 => hb.grown hg (own_blk hown hb (Ne.symm h2))⟩

set_option maxHeartbeats 1600000 in
theorem set_new (B gc : Nat) (now : Int) (L : List (Int × Int)) (id t : Int) (w : World) (h : Clk w B gc now L) (hL : ∀ p ∈ L, I64 p.1 ∧ I64 p.2) (hn : L.length ≤ 1000) (hi : I64 id) (ht : 1 ≤ t ∧ t ≤ 1048576) (hnow : 0 ≤ now ∧ now ≤ 1048576) (k : Nat) (hp : Place L id k false) :
    Calls Try.prog 31 #[.pointer (some ⟨gc, 0, none⟩), .int .i64 id, .int .i64 t] w fun e w' => e = .returned (.bool true) ∧ Clk w' B gc now (insAt L k (id, now + t)) ∧ Ticked B w w' := by
  obtain ⟨j0, hj0, hy0, hy1, hy2⟩ := info_parts info_timer
  have H := Lib.hid h
  have HP := Lib.hid hp
  have hkl := hp.le
  have hBw : B ≤ w.heap.size := Nat.le_trans h.ge (Nat.le_of_lt h.lt)
  clear h hp
  go_enter Try.func31, Try.ntmps31
  go_wp2_with fail
  refine (place_c B gc now L id _ H.out hL hn hi k false HP.out).mono ?_; rintro e w1 ⟨rfl, hb1⟩
  have H1 := H.out.below hb1
  have HB := Lib.hid hb1
  have HG := Lib.hid H1.ge
  obtain ⟨a, c, k1, k2, k3⟩ := H1.ex
  have c1 : w1.cell? ⟨gc, 1, none⟩ = some (.slice a L.length c) := k1.cell 1
  have K1 := Lib.hid k1
  have K2 := Lib.hid k2
  have hll : (L.flatMap tcell).length = L.length * 2 := flat_len tcell 2 tcell_len L
  have N1 := Lib.hid (own_blk k2 k1 (by decide))
  have g1 := k1.lt
  have hB1 : B ≤ w1.heap.size := Nat.le_trans hBw hb1.size
  clear k1 k2 H1 hb1
  go_wp2_with (at_builtin; refine wpList_append_lies _ rfl (.tmp 27) (.tmp 29) _ rfl B 81 j0 _ 2 16 Try.underlying77 hj0 hy0 hy1 hy2 rfl (by omega) (.slice a L.length c) L.length (L.flatMap tcell) rfl (World.ownsRow.alloc K2.out _) ⟨w1.heap.size, 0, none⟩ 1 1 [.int .i64 0, .int .i64 0] rfl rfl (World.news_of_block (cs := #[.int .i64 0, .int .i64 0]) (t := 81) (fr := (0, 0)) (heap_alloc_new w1 _)) (by simp [Value.oneCell']) (by omega) (by unfold maxLen; omega) (by omega) (by simp; omega) (w1.heap.size + 1) (by simp) ?_; intro g5 cap5 w5 hown5 hgrow5 hat5 hlt5; have kb5 := (K1.out.alloc _).grown hgrow5 N1.out; have d1 := kb5.cell 1; have df := kb5.frozen 1)
  have t1 : Ticked B w w5 := ((Ticked.of_below hBw HB.out).trans (Ticked.of_below hB1 ((Below.refl _ _).alloc (Nat.le_refl _) _))).trans (Ticked.grown (World.ownsRow.alloc K2.out _) hgrow5 (Nat.le_trans hB1 (by simp)))
  obtain ⟨w6, hw6⟩ : ∃ w6, w6 = w5.setCell ⟨gc, 1, none⟩ (.slice (some ⟨g5, 0, none⟩) (L.length + 1) cap5) := ⟨_, rfl⟩
  rw [← hw6]
  have kb6 : Blk w6 gc 79 #[.int .i64 now, .slice (some ⟨g5, 0, none⟩) (L.length + 1) cap5] := by rw [hw6]; exact kb5.set_ 1 _
  have r6 : Row w6 g5 81 2 (L.length + 1) cap5 ((L ++ [(0, 0)]).flatMap tcell) := by
    rw [hw6, List.flatMap_append]
    exact (Row.of_own hown5).far (p := ⟨gc, 1, none⟩) (fun e => own_blk_ne hown5 kb5 (by decide) (by rw [show g5 = gc from e]; rfl)) _
  have T6 := Lib.hid (show Ticked B w w6 by rw [hw6]; exact t1.trans (Ticked.set kb5 (.inl rfl) HG.out _))
  have hb5 : B ≤ g5 := (hown5.lt g5 rfl).1
  have c6 : w6.cell? ⟨gc, 1, none⟩ = some (.slice (some ⟨g5, 0, none⟩) (L.length + 1) cap5) := kb6.cell 1
  have c60 : w6.cell? ⟨gc, 0, none⟩ = some (.int .i64 now) := kb6.cell 0
  have hcap := r6.cap_le
  have hcapm := r6.cap_max
  have R6 := Lib.hid r6
  have K6 := Lib.hid kb6
  have i0 : (0 : Int) ≤ k := by omega
  have i1 : (k : Int) < (L.length : Int) + 1 := by omega
  have i2 : (k : Int) + 1 ≤ (L.length : Int) + 1 := by omega
  have nbg : gc ≠ g5 := fun e => own_blk_ne hown5 kb5 (by decide) (by rw [e]; rfl)
  unfold maxLen at hcapm
  clear hw6 kb5 kb6 r6 d1 df hown5 hgrow5 hat5 hlt5 t1 c1
  have hsl2 := from_k (P := Try.prog) 77 81 2 Try.underlying77 (by kernel_rfl) size_timer g5 (L.length + 1) cap5 k (by omega) (by omega) k rfl
  have i3 : IntKind.i64.wrap ((k : Int) + 1) = (k : Int) + 1 := IntWalk.i64_in _ (by omega)
  by_cases hk : k < L.length
  · have hsl1 := from_k (P := Try.prog) 77 81 2 Try.underlying77 (by kernel_rfl) size_timer g5 (L.length + 1) cap5 (k + 1) (by omega) (by omega) ((k : Int) + 1) (by omega)
    go_wp2_with fail
    go_still_tail 13, (by kernel_rfl)
    change wpList _ _ _ _ _ w6.drew
    refine wpList_copy_row rfl (.tmp 39) (.tmp 45) _ _ rfl 81 Try.underlying77 2 (by kernel_rfl) g5 0 (L.length + 1) cap5 81 ((L ++ [(0, 0)]).flatMap tcell) R6.out.drew ((k + 1) * 2) (k * 2) (L.length - k) (cap5 - (k + 1)) (L.length + 1 - k) (cap5 - k) (L.length - k) rfl rfl (Nat.min_eq_right (by omega)).symm (by omega) (by omega) (tcell_one _) ?_
    intro w7 hr7 ho7
    have R7 := Lib.hid (show Row w7 g5 81 2 (L.length + 1) cap5 (((L ++ [(0, 0)]).take (k + 1) ++ L.drop k).flatMap tcell) by have := hr7.out; rwa [shift_law tcell 2 tcell_len L (0, 0) k hkl] at this)
    have O7 := Lib.hid (show Only [g5] w6 w7 from (Only.refl _ w6).drew.trans ho7)
    clear hr7 ho7 hsl1 hsl2
    have K7 := Lib.hid (K6.out.only O7.out (by simpa using nbg))
    have T7 := Lib.hid (T6.out.trans (tick_only O7.out R6.out hb5))
    obtain ⟨N, hN⟩ : ∃ N, N = (L ++ [(0, 0)]).take (k + 1) ++ L.drop k := ⟨_, rfl⟩
    rw [← hN] at R7
    have hNl : N.length = L.length + 1 := by rw [hN]; simp <;> omega
    have hkN : k < N.length := by omega
    have HN := Lib.hid (show N.set k (id, now + t) = insAt L k (id, now + t) by rw [hN]; exact shift_set L (0, 0) _ k (by omega))
    have q0 : w7.cell? ⟨g5, k * 2, none⟩ = some (.int .i64 N[k].1) := R7.out.cell (flat_get' tcell 2 tcell_len N k 0 (by omega) hkN _ rfl)
    have q1 : w7.cell? ⟨g5, k * 2 + 1, none⟩ = some (.int .i64 N[k].2) := R7.out.cell (flat_get' tcell 2 tcell_len N k 1 (by omega) hkN _ rfl)
    obtain ⟨x0, hx0⟩ : ∃ x, x = N[k].1 := ⟨_, rfl⟩
    obtain ⟨x1, hx1⟩ : ∃ x, x = N[k].2 := ⟨_, rfl⟩
    rw [← hx0] at q0
    rw [← hx1] at q1
    have f0 := R7.out.frozen (k * 2)
    have f1 := R7.out.frozen (k * 2 + 1)
    have c70 : w7.cell? ⟨gc, 0, none⟩ = some (.int .i64 now) := K7.out.cell 0
    have c71 : w7.cell? ⟨gc, 1, none⟩ = some (.slice (some ⟨g5, 0, none⟩) (L.length + 1) cap5) := K7.out.cell 1
    have hs : IntKind.i64.wrap (now + t) = now + t := IntWalk.i64_in _ (by omega)
    have HNL := Lib.hid hNl
    have HKN := Lib.hid hkN
    clear hN hx0 hx1 c6 c60 hNl hkN
    go_wp2_with fail
    go_still_tail 14, (by kernel_rfl)
    change wpList _ _ _ _ _ w7.drew
    go_wp2_with fail
    go_ret
    have r1 : Row w7.drew g5 81 2 (L.length + 1) cap5 (N.flatMap tcell) := R7.out.drew
    have r3 := (r1.set_ (k * 2) (.int .i64 id)).set_ (k * 2 + 1) (.int .i64 (now + t))
    rw [flat_set2 tcell tcell_len (id, now + t) _ _ rfl N k HKN.out, HN.out] at r3
    have kb := K7.out.drew
    have t1 := Ticked.row (i := k * 2) (r1.own hb5) rfl hb5 (.int .i64 id)
    have t2 := Ticked.row (i := k * 2 + 1) ((r1.set_ (k * 2) (.int .i64 id)).own hb5) rfl hb5 (.int .i64 (now + t))
    have t0 : Ticked B w7 w7.drew := ⟨(Below.refl _ _).drew, fun _ _ _ hb _ _ => hb.drew⟩
    exact ⟨rfl, ⟨⟨some ⟨g5, 0, none⟩, cap5, by rw [insAt_len L k (by omega)]; exact (kb.far nbg _).far nbg _, by rw [insAt_len L k (by omega)]; exact r3.own hb5, by rw [insAt_len L k (by omega)]; exact hcap⟩, HG.out⟩, ((T7.out.trans t0).trans t1).trans t2⟩
  · obtain rfl : k = L.length := by omega
    obtain ⟨A, hsl1⟩ := from_end (P := Try.prog) 77 81 2 Try.underlying77 (by kernel_rfl) size_timer g5 (L.length + 1) cap5 (by omega) ((L.length : Int) + 1) (by omega)
    go_wp2_with fail
    go_still_tail 13, (by kernel_rfl)
    change wpList _ _ _ _ _ w6.drew
    refine wpList_copy_no rfl (.tmp 39) (.tmp 45) _ _ rfl 81 Try.underlying77 2 (by kernel_rfl) _ _ _ _ _ _ rfl rfl (Nat.min_eq_right (Nat.zero_le _)) ?_
    obtain ⟨w7, hw7⟩ : ∃ w7, w7 = w6.drew := ⟨_, rfl⟩
    rw [← hw7]
    have R7 := Lib.hid (show Row w7 g5 81 2 (L.length + 1) cap5 (((L ++ [(0, 0)]).take (L.length + 1) ++ L.drop L.length).flatMap tcell) by rw [hw7, List.drop_length, List.append_nil, List.take_of_length_le (by simp)]; exact R6.out.drew)
    have O7 := Lib.hid (show Only [g5] w6 w7 by rw [hw7]; exact (Only.refl _ w6).drew)
    clear hw7 hsl1 hsl2
    have K7 := Lib.hid (K6.out.only O7.out (by simpa using nbg))
    have T7 := Lib.hid (T6.out.trans (tick_only O7.out R6.out hb5))
    obtain ⟨N, hN⟩ : ∃ N, N = (L ++ [(0, 0)]).take (L.length + 1) ++ L.drop L.length := ⟨_, rfl⟩
    rw [← hN] at R7
    have hNl : N.length = L.length + 1 := by rw [hN]; simp <;> omega
    have hkN : L.length < N.length := by omega
    have HN := Lib.hid (show N.set L.length (id, now + t) = insAt L L.length (id, now + t) by rw [hN]; exact shift_set L (0, 0) _ L.length (by omega))
    have q0 : w7.cell? ⟨g5, L.length * 2, none⟩ = some (.int .i64 N[L.length].1) := R7.out.cell (flat_get' tcell 2 tcell_len N L.length 0 (by omega) hkN _ rfl)
    have q1 : w7.cell? ⟨g5, L.length * 2 + 1, none⟩ = some (.int .i64 N[L.length].2) := R7.out.cell (flat_get' tcell 2 tcell_len N L.length 1 (by omega) hkN _ rfl)
    obtain ⟨x0, hx0⟩ : ∃ x, x = N[L.length].1 := ⟨_, rfl⟩
    obtain ⟨x1, hx1⟩ : ∃ x, x = N[L.length].2 := ⟨_, rfl⟩
    rw [← hx0] at q0
    rw [← hx1] at q1
    have f0 := R7.out.frozen (L.length * 2)
    have f1 := R7.out.frozen (L.length * 2 + 1)
    have c70 : w7.cell? ⟨gc, 0, none⟩ = some (.int .i64 now) := K7.out.cell 0
    have c71 : w7.cell? ⟨gc, 1, none⟩ = some (.slice (some ⟨g5, 0, none⟩) (L.length + 1) cap5) := K7.out.cell 1
    have hs : IntKind.i64.wrap (now + t) = now + t := IntWalk.i64_in _ (by omega)
    have HNL := Lib.hid hNl
    have HKN := Lib.hid hkN
    clear hN hx0 hx1 c6 c60 hNl hkN
    go_wp2_with fail
    go_still_tail 14, (by kernel_rfl)
    change wpList _ _ _ _ _ w7.drew
    go_wp2_with fail
    go_ret
    have r1 : Row w7.drew g5 81 2 (L.length + 1) cap5 (N.flatMap tcell) := R7.out.drew
    have r3 := (r1.set_ (L.length * 2) (.int .i64 id)).set_ (L.length * 2 + 1) (.int .i64 (now + t))
    rw [flat_set2 tcell tcell_len (id, now + t) _ _ rfl N L.length HKN.out, HN.out] at r3
    have kb := K7.out.drew
    have t1 := Ticked.row (i := L.length * 2) (r1.own hb5) rfl hb5 (.int .i64 id)
    have t2 := Ticked.row (i := L.length * 2 + 1) ((r1.set_ (L.length * 2) (.int .i64 id)).own hb5) rfl hb5 (.int .i64 (now + t))
    have t0 : Ticked B w7 w7.drew := ⟨(Below.refl _ _).drew, fun _ _ _ hb _ _ => hb.drew⟩
    exact ⟨rfl, ⟨⟨some ⟨g5, 0, none⟩, cap5, by rw [insAt_len L L.length (by omega)]; exact (kb.far nbg _).far nbg _, by rw [insAt_len L L.length (by omega)]; exact r3.own hb5, by rw [insAt_len L L.length (by omega)]; exact hcap⟩, HG.out⟩, ((T7.out.trans t0).trans t1).trans t2⟩
end Go.Proofs.Ytfeepofdnjnkpaa
