/- LinkD. -/
import Derived.Test.YtfhlcjfgbhmecaaZLinkP
/- Package link: Dup, out, Take, Move, Clone. -/
namespace Go.Proofs.Ytfhlcjfgbhmecaa
open Go.RowKit
set_option linter.unusedVariables false
set_option maxRecDepth 100000

/-- The row in w2 is what an append to (a cut of) the queue's row has made. -/
theorem que_turn {w wa w2 : World} {q g g2 : Nat} {room lost : Int} {ms ms' : List (Value × List Int)} {A : Option Addr} {C cp2 n' : Nat} (h : Que w q g room lost ms) (h1 : Blk w q 161 #[.int .i64 room, .int .i64 lost, .slice A ms.length C]) (h2 : Loose w A 59 1 ms.length C (ms.map Prod.fst)) (h3 : A = none ∧ g = q ∨ A = some ⟨g, 0, none⟩)
    (ob : Only [] w wa) (htx : ∀ m ∈ ms', Txt w 0 m.1 m.2 ∧ m.2.length ≤ 65536) (hl2 : Loose w2 (some ⟨g2, 0, none⟩) 59 1 n' cp2 (ms'.map Prod.fst)) (hn' : ms'.length = n')
    (ho2 : Only (A.map (·.block)).toList wa w2) (hat : A = some ⟨g2, 0, none⟩ ∨ wa.heap.size ≤ g2) (hn : n' ≤ 4096) (j : Nat) :
    Que ((w2.setCell ⟨q, 2, none⟩ (.slice (some ⟨g2, 0, none⟩) n' cp2)).drewN j) q g2 room lost ms' ∧ Only [q, g] w ((w2.setCell ⟨q, 2, none⟩ (.slice (some ⟨g2, 0, none⟩) n' cp2)).drewN j) ∧ (g2 = g ∨ w.heap.size ≤ g2) := by
  have hm : ∀ k ∈ (A.map (·.block)).toList, k = g ∧ k ≠ q ∧ ∀ cs, ¬ Blk w k 5 cs := by
    intro k hk
    cases A with
    | none => simp at hk
    | some p =>
      simp only [Option.map_some, Option.toList_some, List.mem_cons, List.not_mem_nil, or_false] at hk
      subst hk
      rcases h3 with ⟨h0, _⟩ | h0
      · cases h0
      · injection h0 with h0
        refine ⟨by rw [h0], h2.ne h1 (by decide) p rfl, fun cs hb => ?_⟩
        obtain ⟨cur, _, h4, _⟩ := h2.blk
        exact Blk.ne_ h4 hb (by decide) rfl
  have o3 : Only (A.map (·.block)).toList w w2 := (ob.mono (fun k hk => by cases hk)).trans ho2
  have o2 : Only [q, g] w w2 := o3.mono (fun k hk => .inl (by rw [(hm k hk).1]; simp))
  have ok := h.next (ms' := ms') h3 h1 hl2 hn' o2 (h1.only o3 (fun e => (hm q e).2.1 rfl)) (fun m hmm => ⟨(htx m hmm).1.only o3 (fun k hk => (hm k hk).2.2), (htx m hmm).2⟩) hn j
  refine ⟨ok.1, ok.2, ?_⟩
  rcases hat with h5 | h5
  · rcases h3 with ⟨h0, _⟩ | h0
    · rw [h0] at h5; cases h5
    · rw [h0] at h5
      injection h5 with h5
      injection h5 with h5
      exact .inl h5.symm
  · exact .inr (Nat.le_trans ob.size h5)

theorem dup_no (q g : Nat) (room lost : Int) (ms : List (Value × List Int)) (k : Int) (w : World) (h : Que w q g room lost ms) (hr : 1 ≤ room ∧ room ≤ 256) (hk : I64 k) (hno : ¬ (0 ≤ k ∧ k < ms.length) ∨ room ≤ ms.length) :
    Calls Try.prog 106 #[.pointer (some ⟨q, 0, none⟩), .int .i64 k] w fun e w' => e = .returned (.bool false) ∧ ∃ j, w' = w.drewN j := by
  have hn := h.n
  obtain ⟨A, C, h1, h2, h3⟩ := h.ex
  have c0 : w.cell? ⟨q, 0, none⟩ = some (.int .i64 room) := h1.cell 0
  have c2 : w.cell? ⟨q, 2, none⟩ = some (.slice A ms.length C) := h1.cell 2
  have H := Lib.hid h
  clear h h1 h2 h3
  by_cases hd : 0 ≤ k ∧ k < ms.length
  · have d1 : decide ((ms.length : Int) ≥ room) = true := decide_eq_true (by omega)
    have d2 : room ≤ ms.length := by omega
    have HD := Lib.hid hd
    clear hd hno
    go_enter Try.func106, Try.ntmps106
    go_wp2_with fail
    go_quiet ((go_at_call 101; exact Calls.quiet_of_same ((has_c q g room lost ms k _ (H.out.drewN _) hk true (decide_eq_true HD.out)).mono fun _ _ e => ⟨e.1, e.2.symm⟩)))
    go_wp2_with fail
    go_ret
    exact ⟨rfl, _, rfl⟩
  · have HD := Lib.hid hd
    clear hd hno
    go_enter Try.func106, Try.ntmps106
    go_wp2_with fail
    go_quiet ((go_at_call 101; exact Calls.quiet_of_same ((has_c q g room lost ms k _ (H.out.drewN _) hk false (decide_eq_false HD.out)).mono fun _ _ e => ⟨e.1, e.2.symm⟩)))
    go_wp2_with fail
    go_ret
    exact ⟨rfl, _, rfl⟩

set_option maxHeartbeats 1600000 in
theorem dup_ok (q g : Nat) (room lost : Int) (ms : List (Value × List Int)) (k : Nat) (w : World) (h : Que w q g room lost ms) (hr : 1 ≤ room ∧ room ≤ 256) (hk : k < ms.length) (hlt : ms.length < room) :
    Calls Try.prog 106 #[.pointer (some ⟨q, 0, none⟩), .int .i64 k] w fun e w' => ∃ g', e = .returned (.bool true) ∧ Que w' q g' room lost (ms ++ [ms[k]]) ∧ Only [q, g] w w' ∧ (g' = g ∨ w.heap.size ≤ g') := by
  obtain ⟨i0, hi0, hz0, hz1, hz2⟩ := info_parts info_b8
  have hmn := h.n
  obtain ⟨A, C, h1, h2, h3⟩ := h.ex
  have c0 : w.cell? ⟨q, 0, none⟩ = some (.int .i64 room) := h1.cell 0
  have c2 : w.cell? ⟨q, 2, none⟩ = some (.slice A ms.length C) := h1.cell 2
  have d1 : decide ((ms.length : Int) ≥ room) = false := decide_eq_false (by omega)
  have d2 : ¬ room ≤ ms.length := by omega
  have i0' : (0 : Int) ≤ k := by omega
  have i1 : (k : Int) < ms.length := by omega
  have H := Lib.hid h
  have H1 := Lib.hid h1
  have H2 := Lib.hid h2
  have H3 := Lib.hid h3
  clear h h1 h2 h3
  go_enter Try.func106, Try.ntmps106
  go_wp2_with fail
  go_quiet ((go_at_call 101; exact Calls.quiet_of_same ((has_c q g room lost ms k _ (H.out.drewN _) (by unfold I64; omega) true (decide_eq_true ⟨i0', i1⟩)).mono fun _ _ e => ⟨e.1, e.2.symm⟩)))
  go_wp2_with fail
  obtain ⟨w0, hw0⟩ : ∃ w0, w0 = w.drewN nq := ⟨_, rfl⟩
  rw [← hw0]
  have K : Hid (Que w0 q g room lost ms) := by rw [hw0]; exact Lib.hid (H.out.drewN _)
  have K1 : Hid (Blk w0 q 161 #[.int .i64 room, .int .i64 lost, .slice A ms.length C]) := by rw [hw0]; exact Lib.hid (H1.out.drewN _)
  have K2 : Hid (Loose w0 A 59 1 ms.length C (ms.map Prod.fst)) := by rw [hw0]; exact Lib.hid (H2.out.drewN _)
  have KO : Hid (Only [q, g] w w0) := by rw [hw0]; exact Lib.hid ((Only.refl _ w).drewN _)
  have KS : Hid (w0.heap.size = w.heap.size) := by rw [hw0]; exact Lib.hid rfl
  obtain ⟨C', a', c', q1, q2, q3, _⟩ := K.out.at_ hk
  have c2' : w0.cell? ⟨q, 2, none⟩ = some (.slice A ms.length C) := K1.out.cell 2
  obtain ⟨rfl, rfl⟩ : A = some ⟨g, 0, none⟩ ∧ C' = C := by
    rw [c2'] at q1
    injection q1 with q1
    injection q1 with e1 e2 e3
    exact ⟨e1, e3.symm⟩
  obtain ⟨l', hl'⟩ : ∃ l', l' = ms[k].2.length := ⟨_, rfl⟩
  rw [← hl'] at q2 q3
  have Q3 := Lib.hid q3
  have f2' := K1.out.frozen 2
  have e1 := alloc_kept (.cells #[.slice a' l' c'] 59) c2'
  have e2 := alloc_kept (.cells #[.slice a' l' c'] 59) q2
  clear hw0 c0 c2 d1 q1 q3 hl'
  go_region_law (first
    | (refine step_append_loose (by rfl) _ _ _ (by rfl) 59 i0 _ 1 24 Try.underlying148 hi0 hz0 hz1 hz2 rfl (by omega) (some ⟨g, 0, none⟩) ms.length C' (ms.map Prod.fst) (by rfl) (K2.out.drew.alloc _) ⟨w0.drew.heap.size, 0, none⟩ 1 1 [.slice a' l' c'] (by rfl) (by rfl) (World.news_of_block (cs := #[.slice a' l' c']) (t := 59) (fr := (0, 0)) (heap_alloc_new w0.drew _)) (by simp [Value.oneCell']) (by omega) (by unfold maxLen; omega) (by omega) ?_; intro g2 cp2 w2 hl2 ho2 hat2; have kb2 := (((K1.out.drew).alloc (.cells #[.slice a' l' c'] 59))).only ho2 (by simpa using fun e => (K2.out.ne K1.out (by decide) _ rfl) e.symm); have d2' := kb2.cell 2; have df2 := kb2.frozen 2))
  all_goals
    go_wp2_with fail
    go_ret
    have ob : Only [] w0 (w0.drew.alloc (.cells #[.slice a' l' c'] 59)) := ((Only.refl _ _).drew).alloc _
    have ok := que_turn (ms' := ms ++ [ms[k]]) K.out K1.out K2.out (.inr rfl) ob (fun m hm => K.out.tx m (by
      rcases List.mem_append.1 hm with h5 | h5
      · exact h5
      · simp only [List.mem_cons, List.not_mem_nil, or_false] at h5; subst h5; exact List.getElem_mem hk)) (by rw [List.map_append, List.map_cons, List.map_nil, Q3.out]; exact hl2) (by rw [List.length_append]; rfl) ho2 hat2 (by omega) 0
    exact ⟨rfl, g2, ok.1, KO.out.trans ok.2.1, by rw [← KS.out]; exact ok.2.2⟩

theorem rem_len {α : Type} (ms : List α) (k : Nat) (hk : k < ms.length) : (ms.take k ++ ms.drop (k + 1)).length = k + (ms.length - (k + 1)) := by
  rw [List.length_append, List.length_take, List.length_drop, Nat.min_eq_left (by omega)]
theorem rem_sub (ms : List (Value × List Int)) (k : Nat) : ∀ m ∈ ms.take k ++ ms.drop (k + 1), m ∈ ms := by
  intro m hm
  rcases List.mem_append.1 hm with h | h
  · exact List.mem_of_mem_take h
  · exact List.mem_of_mem_drop h

set_option maxHeartbeats 1600000 in
theorem out_c (q g : Nat) (room lost : Int) (ms : List (Value × List Int)) (k : Nat) (w : World) (h : Que w q g room lost ms) (hk : k < ms.length) (i : Int) (hi : i = k) :
    Calls Try.prog 102 #[.pointer (some ⟨q, 0, none⟩), .int .i64 i] w fun e w' => ∃ g', e = .returned ms[k].1 ∧ Que w' q g' room lost (ms.take k ++ ms.drop (k + 1)) ∧ Only [q, g] w w' ∧ (g' = g ∨ w.heap.size ≤ g') := by
  subst hi
  obtain ⟨i0, hi0, hz0, hz1, hz2⟩ := info_parts info_b8
  have hmn := h.n
  obtain ⟨A, C, h1, h2, h3⟩ := h.ex
  have c2 : w.cell? ⟨q, 2, none⟩ = some (.slice A ms.length C) := h1.cell 2
  obtain ⟨C', a', c', q1, q2, q3, _⟩ := h.at_ hk
  obtain ⟨rfl, rfl⟩ : A = some ⟨g, 0, none⟩ ∧ C' = C := by
    rw [c2] at q1
    injection q1 with q1
    injection q1 with e1 e2 e3
    exact ⟨e1, e3.symm⟩
  have i0' : (0 : Int) ≤ k := by omega
  have i1 : (k : Int) < ms.length := by omega
  have i2 : IntKind.i64.wrap ((k : Int) + 1) = (k : Int) + 1 := IntWalk.i64_in _ (by omega)
  have hcap := h2.cap_le
  have f2 := h1.frozen 2
  obtain ⟨l', hl'⟩ : ∃ l', l' = ms[k].2.length := ⟨_, rfl⟩
  rw [← hl'] at q2 q3
  have sl1 := to_loose (P := Try.prog) (a := some ⟨g, 0, none⟩) (T := 148) (E := 59) (s := 1) Try.underlying148 (by kernel_rfl) size_b8 k (Nat.le_of_lt hk) hcap
  obtain ⟨B, sl2, hB⟩ := from_loose (P := Try.prog) (T := 148) h2 Try.underlying148 (by kernel_rfl) size_b8 (k + 1) (by omega) ((k : Int) + 1) (by omega)
  have lc := h2.cut (Nat.le_of_lt hk) k (Nat.le_refl _) (by omega)
  have hrl := rem_len ms k hk
  have hrm : (ms.take k ++ ms.drop (k + 1)).map Prod.fst = (ms.map Prod.fst).take (k * 1) ++ (ms.map Prod.fst).drop (k + 1) := by
    rw [List.map_append, List.map_take, List.map_drop, Nat.mul_one]
  have H := Lib.hid h
  have H1 := Lib.hid h1
  have H2 := Lib.hid h2
  have H3 := Lib.hid h3
  have Q3 := Lib.hid q3
  have LC := Lib.hid lc
  have HRL := Lib.hid hrl
  have HRM := Lib.hid hrm
  clear h h1 h2 h3 q1 q3 hl' lc hrl hrm
  by_cases hlast : k + 1 < ms.length
  · obtain ⟨g1, hg1, rfl⟩ := hB hlast
    obtain rfl : g = g1 := by injection hg1 with e; injection e
    have hnl : ((ms.map Prod.fst).drop (k + 1)).length = (ms.length - (k + 1)) * 1 := by rw [List.length_drop, List.length_map, Nat.mul_one]
    have hnews : ∀ j u, ((ms.map Prod.fst).drop (k + 1))[j]? = some u → w.cell? ((⟨g, (k + 1), none⟩ : Addr).add j) = some u := by
      intro j u hu
      rw [List.getElem?_drop] at hu
      have := H2.out.news (k + 1 + j) u hu
      rw [addr_add, Nat.zero_add] at this
      rwa [addr_add]
    have hone : ∀ u ∈ (ms.map Prod.fst).drop (k + 1), u.oneCell' = true := by
      intro u hu
      obtain ⟨m, hm, rfl⟩ := List.mem_map.1 (List.mem_of_mem_drop hu)
      obtain ⟨a1, c1, e1, _⟩ := (H.out.tx m hm).1
      rw [e1]; rfl
    have HN := Lib.hid hnews
    have HO := Lib.hid hone
    have HNL := Lib.hid hnl
    clear hnews hone hnl hB
    go_enter Try.func102, Try.ntmps102
    go_wp2_with fail
    go_region_law (refine step_append_loose (by rfl) _ _ _ (by rfl) 59 i0 _ 1 24 Try.underlying148 hi0 hz0 hz1 hz2 rfl (by omega) (some ⟨g, 0, none⟩) k k ((ms.map Prod.fst).take (k * 1)) (by rfl) LC.out.drew ⟨g, k + 1, none⟩ (ms.length - (k + 1)) (C' - (k + 1)) ((ms.map Prod.fst).drop (k + 1)) (by rfl) HNL.out HN.out HO.out (by omega) (by unfold maxLen; omega) (by omega) ?_; intro g2 cp2 w2 hl2 ho2 hat2; have kb2 := (H1.out.drew).only ho2 (by simpa using fun e => (H2.out.ne H1.out (by decide) _ rfl) e.symm); have d2' := kb2.cell 2; have df2 := kb2.frozen 2)
    all_goals
      go_wp2_with fail
      go_ret
      have ok := que_turn (ms' := ms.take k ++ ms.drop (k + 1)) H.out H1.out H2.out (.inr rfl) ((Only.refl _ w).drew) (fun m hm => H.out.tx m (rem_sub ms k m hm)) (by rw [HRM.out]; exact hl2) HRL.out ho2 hat2 (by omega) 0
      exact ⟨g2, by rw [Q3.out]; rfl, ok.1, ok.2.1, ok.2.2⟩
  · have hlast' : ms.length - (k + 1) = 0 := by omega
    rw [hlast'] at sl2
    have hdr : (ms.map Prod.fst).drop (k + 1) = [] := List.drop_of_length_le (by rw [List.length_map]; omega)
    have HDR := Lib.hid hdr
    clear hdr hB
    go_enter Try.func102, Try.ntmps102
    go_wp2_with fail
    go_region_law (refine step_append_none (by rfl) _ _ _ (by rfl) 59 i0 Try.underlying148 hi0 (some ⟨g, 0, none⟩) B k k (C' - (k + 1)) (.inr ⟨g, rfl⟩) (Nat.le_refl _) (by rfl) (by rfl) ?_)
    all_goals
      go_wp2_with fail
      go_ret
      have ok := que_turn (ms' := ms.take k ++ ms.drop (k + 1)) (w2 := w.drew) (n' := k) (cp2 := k) (g2 := g) H.out H1.out H2.out (.inr rfl) ((Only.refl _ w).drew) (fun m hm => H.out.tx m (rem_sub ms k m hm)) (by rw [HRM.out, HDR.out, List.append_nil]; exact LC.out.drew) (by rw [HRL.out, hlast']; rfl) (Only.refl _ _) (.inl rfl) (by omega) 0
      exact ⟨g, by rw [Q3.out]; rfl, ok.1, ok.2.1, ok.2.2⟩

theorem take_no (q g : Nat) (room lost : Int) (ms : List (Value × List Int)) (k : Int) (w : World) (h : Que w q g room lost ms) (hk : I64 k) (hno : ¬ (0 ≤ k ∧ k < ms.length)) :
    Calls Try.prog 69 #[.pointer (some ⟨q, 0, none⟩), .int .i64 k] w fun e w' => e = .returned (.tuple #[.slice none 0 0, .bool false]) ∧ w = w' := by
  have H := Lib.hid h
  clear h
  go_enter Try.func69, Try.ntmps69
  go_wp2_with fail
  refine (has_c q g room lost ms k _ H.out hk false (decide_eq_false hno)).mono ?_; rintro e w1 ⟨rfl, rfl⟩
  go_wp2_with fail
  go_ret2
  exact ⟨rfl, rfl⟩
theorem take_ok (q g : Nat) (room lost : Int) (ms : List (Value × List Int)) (k : Nat) (w : World) (h : Que w q g room lost ms) (hk : k < ms.length) (i : Int) (hi : i = k) :
    Calls Try.prog 69 #[.pointer (some ⟨q, 0, none⟩), .int .i64 i] w fun e w' => ∃ g' v, e = .returned (.tuple #[v, .bool true]) ∧ Txt w' w.heap.size v ms[k].2 ∧ Que w' q g' room lost (ms.take k ++ ms.drop (k + 1)) ∧ Only [q, g] w w' ∧ (g' = g ∨ w.heap.size ≤ g') ∧ v.ownBlock ≠ some g' := by
  have hn := h.n
  have hm := h.tx _ (List.getElem_mem hk)
  have hb := hm.2
  obtain ⟨a', c', h4, h5⟩ := hm.1
  have i0 : (0 : Int) ≤ i := by omega
  have i1 : i < ms.length := by omega
  have H := Lib.hid h
  have H4 := Lib.hid h4
  have HM := Lib.hid hm.1
  have HI := Lib.hid hi
  clear h h4 h5 hm hi
  go_enter Try.func69, Try.ntmps69
  go_wp2_with fail
  refine (has_c q g room lost ms i _ H.out (by unfold I64; omega) true (decide_eq_true ⟨i0, i1⟩)).mono ?_; rintro e w1 ⟨rfl, rfl⟩
  go_wp2_with fail
  refine (out_c q g room lost ms k _ H.out hk i HI.out).mono ?_; rintro e w1 ⟨g', rfl, hq1, ho1, hg1⟩
  have T1 := HM.out.only ho1 H.out.no8
  have Q1 := Lib.hid hq1
  have O1 := Lib.hid ho1
  have G1 := Lib.hid hg1
  clear hq1 ho1 hg1
  obtain ⟨a1, c1, e1, r1⟩ := T1
  have E1 := Lib.hid e1
  have R1 := Lib.hid (own_vrow r1)
  obtain ⟨bs, hbs⟩ : ∃ bs, bs = ms[k].2 := ⟨_, rfl⟩
  obtain ⟨v0, hv0⟩ : ∃ v0, v0 = ms[k].1 := ⟨_, rfl⟩
  rw [← hv0] at E1 ⊢
  rw [← hbs] at E1 R1 hb
  have HBS := Lib.hid hbs
  obtain rfl := E1.out
  clear r1 e1 E1 hbs hv0
  go_wp2_with fail
  refine (fresh_c a1 bs.length c1 bs _ R1.out (by omega)).mono ?_; rintro e w2 ⟨v, rfl, ht2, hb2⟩
  have T2 := Lib.hid ht2
  have B2 := Lib.hid hb2
  clear ht2 hb2
  go_wp2_with fail
  go_ret2
  refine ⟨g', v, rfl, by rw [← HBS.out]; exact T2.out.base O1.out.size, Q1.out.below B2.out, O1.out.belows B2.out, G1.out, fun e => ?_⟩
  obtain ⟨a3, c3, rfl, h3⟩ := T2.out
  have := (h3.lt g' e).1
  have := Q1.out.glt
  omega
theorem move_no (q g : Nat) (room lost : Int) (ms : List (Value × List Int)) (k t : Int) (w : World) (h : Que w q g room lost ms) (hk : I64 k) (ht : I64 t) (hno : ¬ ((0 ≤ k ∧ k < ms.length) ∧ (0 ≤ t ∧ t < ms.length))) :
    Calls Try.prog 107 #[.pointer (some ⟨q, 0, none⟩), .int .i64 k, .int .i64 t] w fun e w' => e = .returned (.bool false) ∧ w = w' := by
  have H := Lib.hid h
  clear h
  by_cases hd : 0 ≤ k ∧ k < ms.length
  · have hd2 : ¬ (0 ≤ t ∧ t < ms.length) := fun e => hno ⟨hd, e⟩
    have D1 := Lib.hid hd
    have D2 := Lib.hid hd2
    clear hd hd2 hno
    go_enter Try.func107, Try.ntmps107
    go_wp2_with fail
    refine (has_c q g room lost ms k _ H.out hk true (decide_eq_true D1.out)).mono ?_; rintro e w1 ⟨rfl, rfl⟩
    go_wp2_with fail
    refine (has_c q g room lost ms t _ H.out ht false (decide_eq_false D2.out)).mono ?_; rintro e w1 ⟨rfl, rfl⟩
    go_wp2_with fail
    go_ret
    exact ⟨rfl, rfl⟩
  · have D1 := Lib.hid hd
    clear hd hno
    go_enter Try.func107, Try.ntmps107
    go_wp2_with fail
    refine (has_c q g room lost ms k _ H.out hk false (decide_eq_false D1.out)).mono ?_; rintro e w1 ⟨rfl, rfl⟩
    go_wp2_with fail
    go_ret
    exact ⟨rfl, rfl⟩
end Go.Proofs.Ytfhlcjfgbhmecaa
