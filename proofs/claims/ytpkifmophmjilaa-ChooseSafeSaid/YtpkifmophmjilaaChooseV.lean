/- The law's own example. -/
import Derived.Test.YtpkifmophmjilaaChooseK
namespace Go.Proofs.Ytpkifmophmjilaa
open Go.RowKit
set_option linter.unusedVariables false

theorem rq_of_blk {w : World} {g n : Nat} {l : List Rq} (h : Blk w g 40 (l.flatMap rqc).toArray) (hn : l.length = n) (hm : n ≤ maxLen) : RqRow w (some ⟨g, 0, none⟩) n n l :=
  ⟨by have := VRow.of_blk (n := n) (s := 6) h (by rw [List.size_toArray, flat_len rqc 6 rqc_len, hn]); simpa using this, hn, Nat.le_refl _, hm⟩
theorem certs_of_blk {w : World} {g n : Nat} {l : List CD} (h : Blk w g 36 (l.flatMap ccell).toArray) (hn : l.length = n) (hm : n ≤ maxLen) (hi : ∀ c ∈ l, c.Is w) : Certs w (some ⟨g, 0, none⟩) n n l :=
  ⟨by have := VRow.of_blk (n := n) (s := 5) h (by rw [List.size_toArray, flat_len ccell 5 ccell_len, hn]); simpa using this, hn, Nat.le_refl _, hm, hi⟩
theorem parts_of_blk {w : World} {g n : Nat} {l : List PD} (h : Blk w g 32 (l.flatMap pcell').toArray) (hn : l.length = n) (hm : n ≤ maxLen) (hi : ∀ c ∈ l, c.Is w) : Parts w (some ⟨g, 0, none⟩) n n l :=
  ⟨by have := VRow.of_blk (n := n) (s := 4) h (by rw [List.size_toArray, flat_len pcell' 4 pcell'_len, hn]); simpa using this, hn, Nat.le_refl _, hm, hi⟩
/-- The example's certificates, parts. -/
def exC (g : Nat) (v t : Int) : CD := ⟨v, 0, 2, some ⟨g, 0, none⟩, 1, 1, [(0, t, 0, 0, 0, 0)], none, 0, 0, []⟩
def exP (g gc : Nat) (v t : Int) : PD := ⟨0, none, 0, 0, [], some ⟨gc, 0, none⟩, 1, 1, [exC g v t], 0⟩
theorem ex_batches (g0 g1 g2 g3 : Nat) : batches 0 [exP g0 g1 0 1, exP g2 g3 1 2] = [[], [(0, 2, 0, 0, 0, 0)]] := by
  have hg : greatest 0 [exP g0 g1 0 1, exP g2 g3 1 2] = 2 := by simp [greatest, exP, exC, greatB]
  have hb1 : batchOf 0 1 [exP g0 g1 0 1, exP g2 g3 1 2] = [] := by simp [batchOf, best, exP, exC, bestB, zeroC]
  have hb2 : batchOf 0 2 [exP g0 g1 0 1, exP g2 g3 1 2] = [(0, 2, 0, 0, 0, 0)] := by simp [batchOf, best, exP, exC, bestB]
  unfold batches
  rw [hg]
  show [batchOf 0 (((0 : Nat) : Int) + 1) _, batchOf 0 (((1 : Nat) : Int) + 1) _] = _
  rw [show (((0 : Nat) : Int) + 1) = 1 from rfl, show (((1 : Nat) : Int) + 1) = 2 from rfl, hb1, hb2]
theorem exC_is {w : World} {g : Nat} {v t : Int} (h : Blk w g 40 #[.int .i64 0, .int .i64 t, .int .i64 0, .int .i64 0, .int .i64 0, .int .i64 0]) (hv : I64 v) : (exC g v t).Is w :=
  ⟨rq_of_blk (l := [(0, t, 0, 0, 0, 0)]) h rfl (by simp [exC, maxLen]), VoRow.nil _ _ (Nat.zero_le _), hv, I64.zero, ⟨by simp [exC], by simp [exC]⟩⟩
theorem exP_is {w : World} {g gc : Nat} {v t : Int} (h : Blk w g 40 #[.int .i64 0, .int .i64 t, .int .i64 0, .int .i64 0, .int .i64 0, .int .i64 0]) (hc : Blk w gc 36 #[.int .i64 v, .int .i64 0, .int .i64 2, .slice (some ⟨g, 0, none⟩) 1 1, .slice none 0 0]) (hv : I64 v) : (exP g gc v t).Is w :=
  ⟨VoRow.nil _ _ (Nat.zero_le _), certs_of_blk (l := [exC g v t]) hc rfl (by simp [exP, maxLen]) (fun c hm => by simp only [List.mem_singleton] at hm; subst hm; exact exC_is h hv), I64.zero, I64.zero⟩

set_option maxRecDepth 100000 in
set_option maxHeartbeats 3200000 in
theorem chwakes_c (w : World) : Calls Try.prog 14 #[] w fun e w' => e = .returned (.bool true) ∧ Below w.heap.size w w' := by
  obtain ⟨g, hg⟩ : ∃ g, g = w.heap.size := ⟨_, rfl⟩
  have z1 : ∀ (o : Obj) (x : World), (x.alloc o).heap.size = x.heap.size + 1 := fun o x => by simp
  obtain ⟨w1, h1⟩ : ∃ w1, w1 = w.alloc (.cells #[.int .i64 0, .int .i64 1, .int .i64 0, .int .i64 0, .int .i64 0, .int .i64 0] 40) := ⟨_, rfl⟩
  have s1 : w1.heap.size = g + 1 := by rw [h1, z1, hg]
  have k1 : Blk w1 g 40 #[.int .i64 0, .int .i64 1, .int .i64 0, .int .i64 0, .int .i64 0, .int .i64 0] := by rw [h1]; exact Blk.new' _ _ _ hg.symm
  obtain ⟨w2, h2⟩ : ∃ w2, w2 = w1.alloc (.cells #[.int .i64 0, .int .i64 2, .int .i64 0, .int .i64 0, .int .i64 0, .int .i64 0] 40) := ⟨_, rfl⟩
  have s2 : w2.heap.size = g + 1 + 1 := by rw [h2, z1, s1]
  have k2 : Blk w2 (g + 1) 40 #[.int .i64 0, .int .i64 2, .int .i64 0, .int .i64 0, .int .i64 0, .int .i64 0] := by rw [h2]; exact Blk.new' _ _ _ s1
  obtain ⟨w3, h3⟩ : ∃ w3, w3 = w2.alloc (.cells #[.int .i64 0, .int .i64 0, .int .i64 2, .slice (some ⟨g, 0, none⟩) 1 1, .slice none 0 0] 36) := ⟨_, rfl⟩
  have s3 : w3.heap.size = g + 1 + 1 + 1 := by rw [h3, z1, s2]
  obtain ⟨w4, h4⟩ : ∃ w4, w4 = w3.alloc (.cells #[.int .i64 1, .int .i64 0, .int .i64 2, .slice (some ⟨g + 1, 0, none⟩) 1 1, .slice none 0 0] 36) := ⟨_, rfl⟩
  have s4 : w4.heap.size = g + 1 + 1 + 1 + 1 := by rw [h4, z1, s3]
  have k4 : Blk w4 (g + 1 + 1 + 1) 36 #[.int .i64 1, .int .i64 0, .int .i64 2, .slice (some ⟨g + 1, 0, none⟩) 1 1, .slice none 0 0] := by rw [h4]; exact Blk.new' _ _ _ s3
  obtain ⟨w5, h5⟩ : ∃ w5, w5 = w4.alloc (.cells #[.int .i64 0, .int .i64 0, .int .i64 2, .slice (some ⟨g, 0, none⟩) 1 1, .slice none 0 0] 36) := ⟨_, rfl⟩
  have s5 : w5.heap.size = g + 1 + 1 + 1 + 1 + 1 := by rw [h5, z1, s4]
  have k5 : Blk w5 (g + 1 + 1 + 1 + 1) 36 #[.int .i64 0, .int .i64 0, .int .i64 2, .slice (some ⟨g, 0, none⟩) 1 1, .slice none 0 0] := by rw [h5]; exact Blk.new' _ _ _ s4
  obtain ⟨w6, h6⟩ : ∃ w6, w6 = w5.alloc (.cells #[.int .i64 1, .int .i64 0, .int .i64 2, .slice (some ⟨g + 1, 0, none⟩) 1 1, .slice none 0 0] 36) := ⟨_, rfl⟩
  have s6 : w6.heap.size = g + 1 + 1 + 1 + 1 + 1 + 1 := by rw [h6, z1, s5]
  have k6 : Blk w6 (g + 1 + 1 + 1 + 1 + 1) 36 #[.int .i64 1, .int .i64 0, .int .i64 2, .slice (some ⟨g + 1, 0, none⟩) 1 1, .slice none 0 0] := by rw [h6]; exact Blk.new' _ _ _ s5
  obtain ⟨w7, h7⟩ : ∃ w7, w7 = w6.alloc (.cells #[.int .i64 0, .slice none 0 0, .slice (some ⟨g + 1 + 1 + 1 + 1, 0, none⟩) 1 1, .int .i64 0, .int .i64 0, .slice none 0 0, .slice (some ⟨g + 1 + 1 + 1 + 1 + 1, 0, none⟩) 1 1, .int .i64 0] 32) := ⟨_, rfl⟩
  have k7 : Blk w7 (g + 1 + 1 + 1 + 1 + 1 + 1) 32 #[.int .i64 0, .slice none 0 0, .slice (some ⟨g + 1 + 1 + 1 + 1, 0, none⟩) 1 1, .int .i64 0, .int .i64 0, .slice none 0 0, .slice (some ⟨g + 1 + 1 + 1 + 1 + 1, 0, none⟩) 1 1, .int .i64 0] := by rw [h7]; exact Blk.new' _ _ _ s6
  have K1 : Blk w7 g 40 #[.int .i64 0, .int .i64 1, .int .i64 0, .int .i64 0, .int .i64 0, .int .i64 0] := by
    rw [h7, h6, h5, h4, h3, h2]; exact (((((k1.alloc _).alloc _).alloc _).alloc _).alloc _).alloc _
  have K2 : Blk w7 (g + 1) 40 #[.int .i64 0, .int .i64 2, .int .i64 0, .int .i64 0, .int .i64 0, .int .i64 0] := by
    rw [h7, h6, h5, h4, h3]; exact ((((k2.alloc _).alloc _).alloc _).alloc _).alloc _
  have K4 : Hid (Blk w7 (g + 1 + 1 + 1) 36 #[.int .i64 1, .int .i64 0, .int .i64 2, .slice (some ⟨g + 1, 0, none⟩) 1 1, .slice none 0 0]) := Lib.hid (by
    rw [h7, h6, h5]; exact ((k4.alloc _).alloc _).alloc _)
  have K5 : Blk w7 (g + 1 + 1 + 1 + 1) 36 #[.int .i64 0, .int .i64 0, .int .i64 2, .slice (some ⟨g, 0, none⟩) 1 1, .slice none 0 0] := by
    rw [h7, h6]; exact (k5.alloc _).alloc _
  have K6 : Blk w7 (g + 1 + 1 + 1 + 1 + 1) 36 #[.int .i64 1, .int .i64 0, .int .i64 2, .slice (some ⟨g + 1, 0, none⟩) 1 1, .slice none 0 0] := by
    rw [h7]; exact k6.alloc _
  have PA := Lib.hid (parts_of_blk (l := [exP g (g + 1 + 1 + 1 + 1) 0 1, exP (g + 1) (g + 1 + 1 + 1 + 1 + 1) 1 2]) (n := 2) k7 rfl (by simp [maxLen]) (fun p hp => by
    simp only [List.mem_cons, List.not_mem_nil, or_false] at hp
    rcases hp with rfl | rfl
    · exact exP_is K1 K5 I64.zero
    · exact exP_is K2 K6 ⟨by omega, by omega⟩))
  have SM : Hid (Small 2 [exP g (g + 1 + 1 + 1 + 1) 0 1, exP (g + 1) (g + 1 + 1 + 1 + 1 + 1) 1 2]) := Lib.hid ⟨by omega, by simp [exP], by simp [exP, exC]⟩
  have RQ := Lib.hid (rq_of_blk (l := [(0, 2, 0, 0, 0, 0)]) (n := 1) K2 rfl (by simp [maxLen]))
  have B7 : Hid (Below w.heap.size w w7) := Lib.hid (by
    rw [h7, h6, h5, h4, h3, h2, h1]
    exact (((((((Below.refl _ _).alloc (Nat.le_refl _) _).alloc (by simp) _).alloc (by simp; omega) _).alloc (by simp; omega) _).alloc (by simp; omega) _).alloc (by simp; omega) _).alloc (by simp; omega) _)
  have HW : Hid (w7 = (((((((w.alloc (.cells #[.int .i64 0, .int .i64 1, .int .i64 0, .int .i64 0, .int .i64 0, .int .i64 0] 40)).alloc (.cells #[.int .i64 0, .int .i64 2, .int .i64 0, .int .i64 0, .int .i64 0, .int .i64 0] 40)).alloc (.cells #[.int .i64 0, .int .i64 0, .int .i64 2, .slice (some ⟨g, 0, none⟩) 1 1, .slice none 0 0] 36)).alloc (.cells #[.int .i64 1, .int .i64 0, .int .i64 2, .slice (some ⟨g + 1, 0, none⟩) 1 1, .slice none 0 0] 36)).alloc (.cells #[.int .i64 0, .int .i64 0, .int .i64 2, .slice (some ⟨g, 0, none⟩) 1 1, .slice none 0 0] 36)).alloc (.cells #[.int .i64 1, .int .i64 0, .int .i64 2, .slice (some ⟨g + 1, 0, none⟩) 1 1, .slice none 0 0] 36)).alloc (.cells #[.int .i64 0, .slice none 0 0, .slice (some ⟨g + 1 + 1 + 1 + 1, 0, none⟩) 1 1, .int .i64 0, .int .i64 0, .slice none 0 0, .slice (some ⟨g + 1 + 1 + 1 + 1 + 1, 0, none⟩) 1 1, .int .i64 0] 32))) := Lib.hid (by rw [h7, h6, h5, h4, h3, h2, h1])
  have HG := Lib.hid hg
  clear h1 h2 h3 h4 h5 h6 h7 s1 s2 s3 s4 s5 s6 k1 k2 k4 k5 k6 k7 K1 K2 K5 K6 z1 hg
  go_enter Try.func14, Try.ntmps14
  go_wp2_with fail
  rw [← HG.out, ← HW.out]
  refine (batches_c 0 _ 2 2 _ _ PA.out SM.out I64.zero _ (ex_batches _ _ _ _) 2 rfl).mono ?_; rintro e w8 ⟨a', c', rfl, hbt, hb8⟩
  obtain ⟨b1, o1, hx1, hl1, ba, bn, bc, bs, hs1, q0, r0⟩ := hbt.get (k := 0) (by omega)
  subst hx1
  obtain ⟨b2, o2, hx2, hl2, ba2, bn2, bc2, bs2, hs2, q1, r1⟩ := hbt.get (k := 1) (by omega)
  cases hx2
  cases hs1
  cases hs2
  obtain rfl : bn = 0 := r0.len.symm
  obtain rfl : bn2 = 1 := r1.len.symm
  have c3 : w8.cell? ⟨g + 1 + 1 + 1, 3, none⟩ = some (.slice (some ⟨g + 1, 0, none⟩) 1 1) := (K4.out.below hb8 K4.out.lt).cell 3
  have R1 := Lib.hid r1
  have RQ8 := Lib.hid (RQ.out.below hb8)
  have B8 := Lib.hid (B7.out.trans (hb8.mono B7.out.size))
  rw [Nat.add_zero] at q0
  have X0 := fun (x : Later w8) => x.cell q0
  have X1 := fun (x : Later w8) => x.cell q1
  have X2 := fun (x : Later w8) => x.cell c3
  clear hbt r0 r1 hb8 hl1 hl2 q0 q1 c3
  go_wp2_with fail
  refine wp_region_later (by kernel_rfl) (by kernel_rfl) ?_
  repeat (go_big_quiet_step (first
    | (go_at_call 26; exact Later.call (same_q _ _ 1 1 _ _ _ _ _ (R1.out.below (Later.b _)) (RQ8.out.below (Later.b _)) (by omega) true (decide_eq_true rfl)))))
  refine wpQuiet_nil ?_
  rintro _ ⟨x, rfl⟩
  go_wp2_with fail
  go_ret
  exact ⟨by simp, B8.out.trans (x.b.mono B8.out.size)⟩
end Go.Proofs.Ytpkifmophmjilaa
