/- Package clock: what the laws use; the law's example. -/
import Derived.Test.YtfeepofdnjnkpaaClockN
import Derived.Test.YtfeepofdnjnkpaaSameI
import Derived.Test.YtfeepofdnjnkpaaKeep
namespace Go.Proofs.Ytfeepofdnjnkpaa
open Go.RowKit
set_option linter.unusedVariables false

theorem due_e (B gc : Nat) (now : Int) (L : List (Int × Int)) (w : World) (h : Clk w B gc now L) (hL : ∀ p ∈ L, I64 p.1 ∧ I64 p.2) (hn : L.length ≤ 1000) (hnow : 0 ≤ now ∧ now ≤ 1048576) (D : List Int) (E : List (Int × Int)) (hD : dueOf L now = D) (hE : leftOf L now = E) (n : Nat) (hl : D.length = n) :
    Calls Try.prog 33 #[.pointer (some ⟨gc, 0, none⟩)] w fun e w' => ∃ a c, e = .returned (.slice a n c) ∧ VRow w' a n 1 (irow D) ∧ Clk w' B gc now E ∧ Ticked B w w' := by
  subst hD
  subst hE
  subst hl
  exact (due_c B gc now L w h hL hn hnow).mono fun e w' ⟨a, c, he, h1, h2, h3⟩ => ⟨a, c, he, own_vrow h1, h2, h3⟩
theorem tick_e (B gc : Nat) (now now' : Int) (L : List (Int × Int)) (w : World) (h : Clk w B gc now L) (h0 : 0 ≤ now) (h1 : now < 1048576) (hN : now + 1 = now') :
    Calls Try.prog 32 #[.pointer (some ⟨gc, 0, none⟩)] w fun e w' => e = .returned (.bool true) ∧ Clk w' B gc now' L ∧ Ticked B w w' := by
  subst hN
  exact tick_c B gc now L w h h0 h1
theorem place_nil (id : Int) : Place [] id 0 false := ⟨Nat.le_refl _, fun i h => by simp at h, fun h => by simp at h, fun h => by simp at h, fun _ => rfl⟩
theorem place_one (id d : Int) : Place [(id, d)] id 0 true := ⟨by simp, fun i h h' => by omega, fun h => by simp, fun h => by simp, fun h => by simp at h⟩
theorem set_nil (B gc : Nat) (now : Int) (id t d : Int) (w : World) (h : Clk w B gc now []) (hi : I64 id) (ht : 1 ≤ t ∧ t ≤ 1048576) (hnow : 0 ≤ now ∧ now ≤ 1048576) (hd : now + t = d) :
    Calls Try.prog 31 #[.pointer (some ⟨gc, 0, none⟩), .int .i64 id, .int .i64 t] w fun e w' => e = .returned (.bool true) ∧ Clk w' B gc now [(id, d)] ∧ Ticked B w w' := by
  subst hd
  exact set_new B gc now [] id t w h (fun p hp => by cases hp) (by simp) hi ht hnow 0 (place_nil id)
theorem one_fine {id d : Int} (hi : I64 id) (hd : 0 ≤ d ∧ d ≤ 4194304) : ∀ p ∈ [(id, d)], I64 p.1 ∧ I64 p.2 := by
  intro p hp
  simp only [List.mem_cons, List.not_mem_nil, or_false] at hp
  subst hp
  exact ⟨hi, by unfold I64; simp only; omega⟩
theorem clock_own_row (xs : List Int) (w : World) : VRow (w.alloc (.cells (irow xs).toArray 3)) (some ⟨w.heap.size, 0, none⟩) xs.length 1 (irow xs) := by
  have := VRow.of_blk (n := xs.length) (s := 1) (Blk.new w 3 (irow xs).toArray) (by simp [irow])
  simpa using this
theorem VRow.ticked {B n s : Nat} {w w' : World} {a : Option Addr} {vs : List Value} {b : Nat} {t : TypeId} {cs : Array Value} (h : VRow w a n s vs) (ht : Ticked B w w') (ha : ∀ b, a.map (·.block) = some b → ∃ cs t, Blk w b t cs ∧ t ≠ 79 ∧ t ≠ 81) : VRow w' a n s vs :=
  h.keep ht.b.size fun b hb hlt => by
    obtain ⟨cs, t, h1, h2, h3⟩ := ha b hb
    have := ht.far b cs t h1 h2 h3
    unfold Blk at this h1
    rw [this, h1]

set_option maxHeartbeats 1600000 in
theorem ckwakes_c (w : World) : Calls Try.prog 30 #[] w fun e w' => e = .returned (.bool true) ∧ Below w.heap.size w w' := by
  have i5 : I64 5 := ⟨by omega, by omega⟩
  have F := Lib.hid (one_fine (id := 5) (d := 2) i5 (by omega))
  go_enter Try.func30, Try.ntmps30
  go_wp2_with fail
  refine (clock_new_c _).mono ?_; rintro e w1 ⟨gc, rfl, h1, hb1⟩
  go_wp2_with fail
  refine (set_nil _ gc 0 5 2 2 _ h1 i5 (by omega) (by omega) (by omega)).mono ?_; rintro e w2 ⟨rfl, h2, t2⟩
  go_wp2_with fail
  refine (tick_e _ gc 0 1 _ _ h2 (by omega) (by omega) (by omega)).mono ?_; rintro e w3 ⟨rfl, h3, t3⟩
  go_wp2_with fail
  refine (due_e _ gc 1 _ _ h3 F.out (by simp) (by omega) [] [(5, 2)] (by decide) (by decide) 0 rfl).mono ?_; rintro e w4 ⟨a4, c4, rfl, r4, h4, t4⟩
  go_wp2_with fail
  refine (tick_e _ gc 1 2 _ _ h4 (by omega) (by omega) (by omega)).mono ?_; rintro e w5 ⟨rfl, h5, t5⟩
  go_wp2_with fail
  refine (due_e _ gc 2 _ _ h5 F.out (by simp) (by omega) [5] [] (by decide) (by decide) 1 rfl).mono ?_; rintro e w6 ⟨a6, c6, rfl, r6, h6, t6⟩
  have T6 := Lib.hid ((((t2.trans t3).trans t4).trans t5).trans t6)
  have H6 := Lib.hid h6
  have R6 := Lib.hid r6
  have B1 := Lib.hid hb1
  clear h1 h2 h3 h4 h5 h6 r6 t2 t3 t4 t5 t6 hb1 r4
  go_wp2_with fail
  refine (same_int_c a6 1 c6 _ 1 1 [5] _ (R6.out.below ((Below.refl _ _).alloc (Nat.le_refl _) _)) (clock_own_row [5] w6) (by omega)).mono ?_; rintro e w7 ⟨rfl, hb7⟩
  have b67 : Below w6.heap.size w6 w7 := ((Below.refl _ _).alloc (Nat.le_refl _) _).trans (hb7.mono (by simp))
  have H7 := Lib.hid (H6.out.below b67)
  have B67 := Lib.hid b67
  clear hb7 b67
  go_wp2_with fail
  refine (due_e _ gc 2 _ _ H7.out (fun p hp => by cases hp) (by simp) (by omega) [] [] rfl rfl 0 rfl).mono ?_; rintro e w8 ⟨a8, c8, rfl, r8, h8, t8⟩
  go_wp2
  go_ret
  have z := (B1.out.trans T6.out.b).size
  exact ⟨rfl, ((B1.out.trans T6.out.b).trans (B67.out.mono z)).trans t8.b⟩
end Go.Proofs.Ytfeepofdnjnkpaa
