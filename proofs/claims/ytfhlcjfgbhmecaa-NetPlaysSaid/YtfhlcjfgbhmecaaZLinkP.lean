/- LinkP. -/
import Derived.Test.YtfhlcjfgbhmecaaZLink
import Derived.Deep.RegionLawGrows
/- Package link: Push with room, Peek, Dup. -/
namespace Go.Proofs.Ytfhlcjfgbhmecaa
open Go.RowKit
set_option linter.unusedVariables false

/-- The queue's row turned, in the world w'. -/
theorem Que.next {w w' : World} {q g g' : Nat} {room lost : Int} {ms ms' : List (Value × List Int)} {a : Option Addr} {c c' n' : Nat} (h : Que w q g room lost ms) (hg3 : a = none ∧ g = q ∨ a = some ⟨g, 0, none⟩)
    (hb : Blk w q 161 #[.int .i64 room, .int .i64 lost, .slice a ms.length c]) (hl : Loose w' (some ⟨g', 0, none⟩) 59 1 n' c' (ms'.map Prod.fst)) (hn : ms'.length = n') (ho : Only [q, g] w w') (ho2 : Blk w' q 161 #[.int .i64 room, .int .i64 lost, .slice a ms.length c])
    (htx : ∀ m ∈ ms', Txt w' 0 m.1 m.2 ∧ m.2.length ≤ 65536) (hc : n' ≤ 4096) (j : Nat) :
    Que ((w'.setCell ⟨q, 2, none⟩ (.slice (some ⟨g', 0, none⟩) n' c')).drewN j) q g' room lost ms' ∧ Only [q, g] w ((w'.setCell ⟨q, 2, none⟩ (.slice (some ⟨g', 0, none⟩) n' c')).drewN j) := by
  subst hn
  have o : Only [q, g] w (w'.setCell ⟨q, 2, none⟩ (.slice (some ⟨g', 0, none⟩) ms'.length c')) := ho.setCell (.inl (by simp)) _
  refine ⟨Que.drewN ⟨⟨some ⟨g', 0, none⟩, c', ho2.set_ 2 _, hl.far (fun p hp => hl.ne ho2 (by decide) p hp) _, .inr rfl⟩, fun m hm => ⟨(htx m hm).1.only (S := [q]) ((Only.refl _ _).setCell (.inl (by simp)) _) ?_, (htx m hm).2⟩, hc⟩ j, o.drewN j⟩
  intro k hk cs hb8
  simp only [List.mem_cons, List.not_mem_nil, or_false] at hk
  subst hk
  exact Blk.ne_ ho2 hb8 (by decide) rfl

theorem que_grown {w wa w2 : World} {q g g2 : Nat} {room lost : Int} {ms : List (Value × List Int)} {A : Option Addr} {C cp2 B : Nat} {v : Value} {bs : List Int} (h : Que w q g room lost ms) (h1 : Blk w q 161 #[.int .i64 room, .int .i64 lost, .slice A ms.length C]) (h3 : A = none ∧ g = q ∨ A = some ⟨g, 0, none⟩)
    (ob : Only [q, g] w wa) (hla : Loose wa A 59 1 ms.length C (ms.map Prod.fst)) (ht : Txt wa B v bs) (hl2 : Loose w2 (some ⟨g2, 0, none⟩) 59 1 (ms.length + 1) cp2 (ms.map Prod.fst ++ [v]))
    (ho2 : Only (A.map (·.block)).toList wa w2) (hat : A = some ⟨g2, 0, none⟩ ∨ wa.heap.size ≤ g2) (kb2 : Blk w2 q 161 #[.int .i64 room, .int .i64 lost, .slice A ms.length C]) (hbs : bs.length ≤ 65536) (hn : ms.length + 1 ≤ 4096) (j : Nat) :
    Que ((w2.setCell ⟨q, 2, none⟩ (.slice (some ⟨g2, 0, none⟩) (ms.length + 1) cp2)).drewN j) q g2 room lost (ms ++ [(v, bs)]) ∧ Only [q, g] w ((w2.setCell ⟨q, 2, none⟩ (.slice (some ⟨g2, 0, none⟩) (ms.length + 1) cp2)).drewN j) ∧ (g2 = g ∨ w.heap.size ≤ g2) ∧ Txt ((w2.setCell ⟨q, 2, none⟩ (.slice (some ⟨g2, 0, none⟩) (ms.length + 1) cp2)).drewN j) B v bs := by
  have hm : ∀ k ∈ (A.map (·.block)).toList, k = g ∧ ∀ cs, ¬ Blk wa k 5 cs := by
    intro k hk
    cases A with
    | none => simp at hk
    | some p =>
      simp only [Option.map_some, Option.toList_some, List.mem_cons, List.not_mem_nil, or_false] at hk
      subst hk
      rcases h3 with ⟨h0, _⟩ | h0
      · cases h0
      · injection h0 with h0
        refine ⟨by rw [h0], fun cs hb => ?_⟩
        obtain ⟨cur, _, h4, _⟩ := hla.blk
        exact Blk.ne_ h4 hb (by decide) rfl
  have o2 : Only [q, g] w w2 := ob.then ho2 (fun k hk => .inl (by rw [(hm k hk).1]; simp))
  have ok := h.next (ms' := ms ++ [(v, bs)]) h3 h1 (by rw [List.map_append]; exact hl2) (by rw [List.length_append]; rfl) o2 kb2 (fun m hmm => by
    rcases List.mem_append.1 hmm with h5 | h5
    · exact ⟨((h.tx m h5).1.only ob h.no8).only ho2 (fun k hk => (hm k hk).2), (h.tx m h5).2⟩
    · simp only [List.mem_cons, List.not_mem_nil, or_false] at h5
      subst h5
      exact ⟨(ht.only ho2 (fun k hk => (hm k hk).2)).base (Nat.zero_le _), hbs⟩) hn j
  refine ⟨ok.1, ok.2, ?_, ?_⟩
  · rcases hat with h5 | h5
    · rcases h3 with ⟨h0, _⟩ | h0
      · rw [h0] at h5; cases h5
      · rw [h0] at h5
        injection h5 with h5
        injection h5 with h5
        exact .inl h5.symm
    · exact .inr (Nat.le_trans ob.size h5)
  · refine Txt.drewN ((ht.only ho2 (fun k hk => (hm k hk).2)).only (S := [q]) ((Only.refl _ _).setCell (.inl (by simp)) _) ?_) j
    intro k hk cs hb8
    simp only [List.mem_cons, List.not_mem_nil, or_false] at hk
    subst hk
    exact Blk.ne_ kb2 hb8 (by decide) rfl

set_option maxHeartbeats 1600000 in
set_option maxRecDepth 100000 in
theorem push_ok (q g : Nat) (room lost : Int) (ms : List (Value × List Int)) (a : Option Addr) (n c : Nat) (bs : List Int) (w : World) (h : Que w q g room lost ms) (hr : 1 ≤ room ∧ room ≤ 256) (hv : VRow w a n 1 (brow bs)) (hn : n ≤ 65536) (hlt : ms.length < room) :
    Calls Try.prog 65 #[.pointer (some ⟨q, 0, none⟩), .slice a n c] w fun e w' => ∃ g' v, e = .returned (.bool true) ∧ Que w' q g' room lost (ms ++ [(v, bs)]) ∧ Only [q, g] w w' ∧ (g' = g ∨ w.heap.size ≤ g') ∧ Txt w' w.heap.size v bs := by
  obtain ⟨i0, hi0, hz0, hz1, hz2⟩ := info_parts info_b8
  have hmn := h.n
  have hbl : bs.length = n := by have := hv.1; rw [brow_len, Nat.mul_one] at this; exact this
  obtain ⟨A, C, h1, h2, h3⟩ := h.ex
  have c0 : w.cell? ⟨q, 0, none⟩ = some (.int .i64 room) := h1.cell 0
  have c2 : w.cell? ⟨q, 2, none⟩ = some (.slice A ms.length C) := h1.cell 2
  have f2 := h1.frozen 2
  have d1 : decide ((ms.length : Int) ≥ room) = false := decide_eq_false (by omega)
  have d2 : decide ((n : Int) > 65536) = false := decide_eq_false (by omega)
  have d3 : ¬ (65536 : Int) < n := by omega
  have H := Lib.hid h
  have H1 := Lib.hid h1
  have H2 := Lib.hid h2
  have H3 := Lib.hid h3
  have HV := Lib.hid hv
  have HBL := Lib.hid hbl
  have sz := h.lt
  clear h h1 h2 h3 hv hbl
  go_enter Try.func65, Try.ntmps65
  go_wp2_with fail
  go_quiet (fail)
  go_wp2_with fail
  obtain ⟨w0, hw0⟩ : ∃ w0, w0 = w.drewN nq := ⟨_, rfl⟩
  rw [← hw0]
  have K1 : Hid (Blk w0 q 161 #[.int .i64 room, .int .i64 lost, .slice A ms.length C]) := by rw [hw0]; exact Lib.hid (H1.out.drewN _)
  have K2 : Hid (Loose w0 A 59 1 ms.length C (ms.map Prod.fst)) := by rw [hw0]; exact Lib.hid (H2.out.drewN _)
  have KV : Hid (VRow w0 a n 1 (brow bs)) := by rw [hw0]; exact HV
  have KO : Hid (Only [q, g] w w0) := by rw [hw0]; exact Lib.hid ((Only.refl _ w).drewN _)
  have KS : Hid (w0.heap.size = w.heap.size) := by rw [hw0]; exact Lib.hid rfl
  have c2' : w0.cell? ⟨q, 2, none⟩ = some (.slice A ms.length C) := K1.out.cell 2
  have f2' := K1.out.frozen 2
  clear hw0 c0 c2 f2 d1 d2
  go_region_law (first
    | (refine step_append_loose (by rfl) _ _ _ (by rfl) 59 i0 _ 1 24 Try.underlying148 hi0 hz0 hz1 hz2 rfl (by omega) A ms.length C (ms.map Prod.fst) (by rfl) ((K2.out.drew.below hb1).alloc _) ⟨w1.heap.size, 0, none⟩ 1 1 [.slice a' bs.length c'] (by rfl) (by rfl) (World.news_of_block (cs := #[.slice a' bs.length c']) (t := 59) (fr := (0, 0)) (heap_alloc_new w1 _)) (by simp [Value.oneCell']) (by omega) (by unfold maxLen; omega) (by omega) ?_; intro g2 cp2 w2 hl2 ho2 hat2; have kb2 := (((K1.out.drew.below hb1 (by exact K1.out.lt)).alloc (.cells #[.slice a' bs.length c'] 59))).only ho2 (by cases A with | none => exact List.not_mem_nil | some p => simpa using fun e => (K2.out.ne K1.out (by decide) p rfl) e.symm); have d2' := kb2.cell 2; have df2 := kb2.frozen 2)
    | (go_simp; refine (fresh_c a n c bs w0.drew KV.out.drew (by omega)).mono ?_; rintro e w1 ⟨v, rfl, ht0, hb1⟩; have ht1 := Lib.hid ht0; obtain ⟨a', c', rfl, hv0⟩ := ht0; have e2 : w1.cell? ⟨q, 2, none⟩ = some (.slice A ms.length C) := (K1.out.drew.below hb1 (by exact K1.out.lt)).cell 2; have e3 := alloc_kept (.cells #[.slice a' bs.length c'] 59) e2))
  all_goals
    go_wp2_with fail
    go_ret
    have ob : Only [q, g] w (w1.alloc (.cells #[.slice a' bs.length c'] 59)) := (((KO.out.drew).trans (Only.of_below hb1)).alloc _)
    have ok := que_grown H.out H1.out H3.out ob ((K2.out.drew.below hb1).alloc _) ((ht1.out.alloc (.cells #[.slice a' bs.length c'] 59))) hl2 ho2 hat2 kb2 (by have := HBL.out; omega) (by omega) 0
    exact ⟨g2, .slice a' bs.length c', rfl, ok.1, ok.2.1, ok.2.2.1, ok.2.2.2.base (by rw [← KS.out]; exact Nat.le_refl _)⟩

theorem Que.at_ {w : World} {q g : Nat} {room lost : Int} {ms : List (Value × List Int)} (h : Que w q g room lost ms) {k : Nat} (hk : k < ms.length) :
    ∃ c a' c', w.cell? ⟨q, 2, none⟩ = some (.slice (some ⟨g, 0, none⟩) ms.length c) ∧ w.cell? ⟨g, k, none⟩ = some (.slice a' ms[k].2.length c') ∧ ms[k].1 = .slice a' ms[k].2.length c' ∧ VRow w a' ms[k].2.length 1 (brow ms[k].2) := by
  obtain ⟨a, c, h1, h2, h3⟩ := h.ex
  obtain ⟨a', c', h4, h5⟩ := (h.tx _ (List.getElem_mem hk)).1
  rcases h3 with ⟨rfl, _⟩ | rfl
  · rcases h2.addr with ⟨_, h0, _⟩ | ⟨_, h0⟩
    · omega
    · cases h0
  · refine ⟨c, a', c', h1.cell 2, ?_, h4, own_vrow h5⟩
    have := h2.news k ms[k].1 (by simp [hk])
    rw [addr_add, Nat.zero_add, h4] at this
    exact this

theorem peek_no (q g : Nat) (room lost : Int) (ms : List (Value × List Int)) (k : Int) (w : World) (h : Que w q g room lost ms) (hk : I64 k) (hno : ¬ (0 ≤ k ∧ k < ms.length)) :
    Calls Try.prog 66 #[.pointer (some ⟨q, 0, none⟩), .int .i64 k] w fun e w' => e = .returned (.tuple #[.slice none 0 0, .bool false]) ∧ w = w' := by
  have H := Lib.hid h
  clear h
  go_enter Try.func66, Try.ntmps66
  go_wp2_with fail
  refine (has_c q g room lost ms k _ H.out hk false (decide_eq_false hno)).mono ?_; rintro e w1 ⟨rfl, rfl⟩
  go_wp2_with fail
  go_ret2
  exact ⟨rfl, rfl⟩
theorem peek_ok (q g : Nat) (room lost : Int) (ms : List (Value × List Int)) (k : Nat) (w : World) (h : Que w q g room lost ms) (hk : k < ms.length) :
    Calls Try.prog 66 #[.pointer (some ⟨q, 0, none⟩), .int .i64 k] w fun e w' => ∃ v, e = .returned (.tuple #[v, .bool true]) ∧ Txt w' w.heap.size v ms[k].2 ∧ Below w.heap.size w w' := by
  have hn := h.n
  have hb := (h.tx _ (List.getElem_mem hk)).2
  obtain ⟨c, a', c', h1, h2, _, h4⟩ := h.at_ hk
  have i0 : (0 : Int) ≤ k := by omega
  have i1 : (k : Int) < ms.length := by omega
  obtain ⟨bs, hbs⟩ : ∃ bs, bs = ms[k].2 := ⟨_, rfl⟩
  rw [← hbs] at h2 h4 hb ⊢
  have H := Lib.hid h
  have H4 := Lib.hid h4
  clear h h4 hbs
  go_enter Try.func66, Try.ntmps66
  go_wp2_with fail
  refine (has_c q g room lost ms k _ H.out (by unfold I64; omega) true (decide_eq_true ⟨i0, i1⟩)).mono ?_; rintro e w1 ⟨rfl, rfl⟩
  go_wp2_with fail
  refine (fresh_c a' bs.length c' bs _ H4.out (by omega)).mono ?_; rintro e w1 ⟨v, rfl, ht1, hb1⟩
  go_wp2_with fail
  go_ret2
  exact ⟨v, rfl, ht1, hb1⟩
end Go.Proofs.Ytfhlcjfgbhmecaa
