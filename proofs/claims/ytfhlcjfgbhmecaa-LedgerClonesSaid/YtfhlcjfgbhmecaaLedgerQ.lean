/- Package ledger: All, Len, Last, Reply, Store, the example. -/
import Derived.Test.YtfhlcjfgbhmecaaLedgerR
namespace Go.Proofs.Ytfhlcjfgbhmecaa
open Go.RowKit
set_option linter.unusedVariables false

theorem lall_c (S : List Nat) (gd C : Nat) (es : List Ent) (st : List (Bool × Int)) (ct : List (Int × Int)) (w : World) (h : Led w S gd C es st ct) (n : Nat) (hn : es.length = n) (hm : n ≤ 4096) :
    Calls Try.prog 19 #[.pointer (some ⟨gd, 0, none⟩)] w fun e w' => ∃ a c, e = .returned (.slice a n c) ∧ w'.ownsRow w.heap.size 38 7 (.slice a n c) n (es.flatMap ecell) ∧ Below w.heap.size w w' := by
  obtain ⟨i0, hi0, hz0, hz1, hz2⟩ := info_parts info_entry
  obtain ⟨gs, gc, gl, al, cl, hS, k1, k2, k3, k4⟩ := h.ex
  have g0 : w.cell? ⟨gd, 1, none⟩ = some (.slice al es.length cl) := k1.cell 1
  have K2 := Lib.hid k2
  have adr := own_addr k2
  subst hn
  clear k1 k3 k4 h hS k2
  by_cases h0 : es.length = 0
  · obtain rfl : es = [] := List.length_eq_zero_iff.1 h0
    clear adr h0
    go_enter Try.func19, Try.ntmps19
    go_wp2_with (at_builtin; refine wpList_append_no rfl (.const (.slice none 0 0)) (.tmp 6) _ rfl 38 i0 Try.underlying34 hi0 none al 0 0 cl (.inl ⟨rfl, rfl, rfl⟩) (Nat.le_refl _) rfl rfl ?_)
    go_ret
    exact ⟨none, 0, rfl, ⟨by simp, .inl ⟨rfl, rfl⟩⟩, Below.refl _ _⟩
  · obtain ⟨go, rfl⟩ : ∃ go, al = some ⟨go, 0, none⟩ := by
      rcases adr with ⟨_, h1, _⟩ | h1
      · exact absurd h1 h0
      · exact h1
    have OROW := Lib.hid (Row.of_own K2.out)
    have elen : (es.flatMap ecell).length = es.length * 7 := flat_len ecell 7 ecell_len es
    have mpos : 0 < es.length := by omega
    clear adr h0
    go_enter Try.func19, Try.ntmps19
    go_wp2_with (at_builtin; refine wpList_append_lies _ rfl (.const (.slice none 0 0)) (.tmp 6) _ rfl w.heap.size 38 i0 _ 7 56 Try.underlying34 hi0 hz0 hz1 hz2 rfl (by omega) (.slice none 0 0) 0 [] rfl ⟨by simp, .inl ⟨rfl, rfl⟩⟩ ⟨go, 0, none⟩ es.length cl (es.flatMap ecell) rfl elen OROW.out.news (ecell_one es) mpos (by unfold maxLen; omega) (by omega) (Nat.le_refl _) w.heap.size rfl ?_; intro g5 cap5 w6 hown6 hgrow6 hat6 hlt6)
    simp only [Nat.zero_add, List.nil_append] at hown6
    have HOW := Lib.hid hown6
    have HB := Lib.hid ((Only.refl [] w).grown hgrow6 (fun k hk => by cases hk)).to_below
    clear hown6 hgrow6 hat6
    go_wp2
    go_ret
    exact ⟨some ⟨g5, 0, none⟩, cap5, rfl, HOW.out, HB.out⟩

theorem llen_c (S : List Nat) (gd C : Nat) (es : List Ent) (st : List (Bool × Int)) (ct : List (Int × Int)) (w : World) (h : Led w S gd C es st ct) (n : Nat) (hn : es.length = n) :
    Calls Try.prog 56 #[.pointer (some ⟨gd, 0, none⟩)] w fun e w' => e = .returned (.int .i64 n) ∧ w = w' := by
  obtain ⟨gs, gc, gl, al, cl, hS, k1, k2, k3, k4⟩ := h.ex
  have g0 : w.cell? ⟨gd, 1, none⟩ = some (.slice al es.length cl) := k1.cell 1
  subst hn
  clear k1 k3 k4 h hS k2
  go_enter Try.func56, Try.ntmps56
  go_wp2
  go_ret
  exact ⟨rfl, rfl⟩
theorem llast_c (S : List Nat) (gd C : Nat) (es : List Ent) (st : List (Bool × Int)) (ct : List (Int × Int)) (k : Int) (w : World) (h : Led w S gd C es st ct) (hk : I64 k) (t : Int) (ht : lastOf ct k = t) :
    Calls Try.prog 20 #[.pointer (some ⟨gd, 0, none⟩), .int .i64 k] w fun e w' => e = .returned (.int .i64 t) ∧ w = w' := by
  obtain ⟨gs, gc, gl, al, cl, hS, k1, k2, k3, k4⟩ := h.ex
  have g0 : w.cell? ⟨gd, 3, none⟩ = some (.pointer (some ⟨gc, 0, none⟩)) := k1.cell 3
  have K4 := Lib.hid k4
  have C4 := Lib.hid (show ct.length ≤ 4 by rw [h.len]; exact h.c.2)
  have HT := Lib.hid ht
  clear k1 k3 k4 h hS k2 ht
  go_enter Try.func20, Try.ntmps20
  go_wp2_with fail
  refine (last_c gc gl ct k _ K4.out C4.out hk t HT.out).mono ?_; rintro e w' ⟨rfl, rfl⟩
  go_wp2
  go_ret
  exact ⟨rfl, rfl⟩
theorem lreply_c (S : List Nat) (gd C : Nat) (es : List Ent) (st : List (Bool × Int)) (ct : List (Int × Int)) (k t : Int) (w : World) (h : Led w S gd C es st ct) (hk : I64 k) (b : Bool) (hb : getB ct k t = b) (r : Int) (hr : getR ct k t = r) :
    Calls Try.prog 41 #[.pointer (some ⟨gd, 0, none⟩), .int .i64 k, .int .i64 t] w fun e w' => e = .returned (.tuple #[.int .i64 r, .bool b]) ∧ w = w' := by
  obtain ⟨gs, gc, gl, al, cl, hS, k1, k2, k3, k4⟩ := h.ex
  have g0 : w.cell? ⟨gd, 3, none⟩ = some (.pointer (some ⟨gc, 0, none⟩)) := k1.cell 3
  have K4 := Lib.hid k4
  have C4 := Lib.hid (show ct.length ≤ 4 by rw [h.len]; exact h.c.2)
  have HB := Lib.hid hb
  have HR := Lib.hid hr
  clear k1 k3 k4 h hS k2 hb hr
  go_enter Try.func41, Try.ntmps41
  go_wp2_with fail
  refine (get_c gc gl ct k t _ K4.out C4.out hk b HB.out r HR.out).mono ?_; rintro e w' ⟨rfl, rfl⟩
  go_wp2
  go_ret2
  exact ⟨rfl, rfl⟩

theorem runL_one (s : LSt) (r : Rq) : runL s [r] = stepR s r := rfl
def wk : Rq := (0, 1, 1, 1, 5, 0)
theorem wk_I : ∀ r ∈ [wk], RqI r := by
  intro r hr
  rw [List.mem_singleton.1 hr]
  refine ⟨?_, ?_, ?_, ?_, ?_, ?_⟩ <;> (unfold I64 wk; constructor <;> decide)
theorem wk_run1 (st : List (Bool × Int)) : runL ([], st, List.replicate 1 (0, 0)) [wk] = ([(wk, resR ([], st, List.replicate 1 (0, 0)) wk)], opSt st 1 1 5, [(1, resR ([], st, List.replicate 1 (0, 0)) wk)]) := by
  have e : okR (List.replicate 1 (0, 0)) wk = true := by decide
  rw [runL_one]
  unfold stepR
  rw [if_pos e]
  rfl
theorem wk_run2 (st : List (Bool × Int)) (R : Int) : runL ([], st, [(1, R)]) [wk] = ([], st, [(1, R)]) := by
  have e : ¬ okR [(1, R)] wk = true := by
    have h : lastOf [(1, R)] wk.1 = 1 := rfl
    unfold okR
    rw [h]
    simp [wk]
  rw [runL_one]
  unfold stepR
  rw [if_neg e]

set_option maxRecDepth 100000 in
set_option maxHeartbeats 1600000 in
theorem lwakes_c (w : World) : Calls Try.prog 21 #[] w fun e w' => e = .returned (.bool true) ∧ Below w.heap.size w w' := by
  go_enter Try.func21, Try.ntmps21
  go_wp2_with fail
  refine (lnew_ok 1 (by omega) (by omega) _).mono ?_; rintro e w1 ⟨S, gd, rfl, hL, hS, hb1⟩
  have L1 := Lib.hid hL
  have S1 := Lib.hid hS
  have B1 := Lib.hid hb1
  clear hL hS hb1
  go_wp2_with fail
  obtain ⟨C, hC⟩ : ∃ C : Array Value, C = #[.int .i64 0, .int .i64 1, .int .i64 1, .int .i64 1, .int .i64 5, .int .i64 0] := ⟨_, rfl⟩
  obtain ⟨gb, hgb⟩ : ∃ gb, gb = w1.heap.size := ⟨_, rfl⟩
  obtain ⟨w2, hw2⟩ : ∃ w2, w2 = (w1.alloc (.cells #[.int .i64 0, .int .i64 1, .int .i64 1, .int .i64 1, .int .i64 5, .int .i64 0] 33)).alloc (.cells #[.int .i64 0, .int .i64 1, .int .i64 1, .int .i64 1, .int .i64 5, .int .i64 0] 33) := ⟨_, rfl⟩
  rw [← hw2]
  have b2 : Below w1.heap.size w1 w2 := by rw [hw2]; exact ((Below.refl _ _).alloc (Nat.le_refl _) _).alloc (by simp) _
  have x1 : Blk w2 gb 33 #[.int .i64 0, .int .i64 1, .int .i64 1, .int .i64 1, .int .i64 5, .int .i64 0] := by rw [hw2, hgb]; exact (Blk.new _ _ _).alloc _
  have x2 : Blk w2 (w1.heap.size + 1) 33 #[.int .i64 0, .int .i64 1, .int .i64 1, .int .i64 1, .int .i64 5, .int .i64 0] := by rw [hw2]; exact Blk.new' _ _ _ (by simp)
  have v2 : VRow w2 (some ⟨w1.heap.size + 1, 0, none⟩) 1 6 ([wk].flatMap rqc) := VRow.of_blk x2 rfl
  have sl : ∀ k ∈ S, k < w1.heap.size := L1.out.lt
  refine (run_c S gd 1 [] st0 _ (some ⟨w1.heap.size + 1, 0, none⟩) 1 1 [wk] w2 (L1.out.below b2) v2 (fun _ p hp hm => by cases hp; have := sl _ hm; simp at this; omega) rfl (by simp) wk_I _ _ _ (wk_run1 _) 1 rfl).mono ?_
  rintro e w3 ⟨S', a', c', rfl, hL3, ho3, hal3, hon3, hS3⟩
  have x3 : Blk w3 gb 33 #[.int .i64 0, .int .i64 1, .int .i64 1, .int .i64 1, .int .i64 5, .int .i64 0] := x1.only hon3 (fun hm => by have := sl _ hm; omega)
  have t0 : w3.cell? ⟨gb, 0, none⟩ = some (.int .i64 0) := x3.cell 0
  have t1 : w3.cell? ⟨gb, 1, none⟩ = some (.int .i64 1) := x3.cell 1
  have t2 : w3.cell? ⟨gb, 2, none⟩ = some (.int .i64 1) := x3.cell 2
  have t3 : w3.cell? ⟨gb, 3, none⟩ = some (.int .i64 1) := x3.cell 3
  have t4 : w3.cell? ⟨gb, 4, none⟩ = some (.int .i64 5) := x3.cell 4
  have t5 : w3.cell? ⟨gb, 5, none⟩ = some (.int .i64 0) := x3.cell 5
  have L3 := Lib.hid hL3
  have B3 := Lib.hid (show Below w.heap.size w w3 from hon3.below (B1.out.trans (b2.mono B1.out.size)) (B1.out.trans (b2.mono B1.out.size)).size S1.out)
  have S3 := Lib.hid (show ∀ k ∈ S', w.heap.size ≤ k from fun k hk => by
    rcases hS3 k hk with h | h
    · exact S1.out k h
    · exact Nat.le_trans (B1.out.trans (b2.mono B1.out.size)).size h)
  clear hC hw2 b2 x1 x2 v2 x3 hL3 ho3 hal3 hon3 hS3 sl
  rw [← hgb]
  clear hgb
  go_wp2_with fail
  have b4 : Below w3.heap.size w3 (w3.alloc (.cells #[.int .i64 0, .int .i64 1, .int .i64 1, .int .i64 1, .int .i64 5, .int .i64 0] 33)) := (Below.refl _ _).alloc (Nat.le_refl _) _
  have v4 : VRow (w3.alloc (.cells #[.int .i64 0, .int .i64 1, .int .i64 1, .int .i64 1, .int .i64 5, .int .i64 0] 33)) (some ⟨w3.heap.size, 0, none⟩) 1 6 ([wk].flatMap rqc) := VRow.of_blk (Blk.new _ _ _) rfl
  have sl3 : ∀ k ∈ S', k < w3.heap.size := L3.out.lt
  refine (run_c S' gd 1 _ _ _ (some ⟨w3.heap.size, 0, none⟩) 1 1 [wk] _ (L3.out.below b4) v4 (fun _ p hp hm => by cases hp; have := sl3 _ hm; simp at this) rfl (by simp) wk_I _ _ _ (wk_run2 _ _) 0 rfl).mono ?_
  rintro e w5 ⟨S5, a5, c5, rfl, hL5, ho5, hal5, hon5, hS5⟩
  have L5 := Lib.hid hL5
  have B4 := B3.out.trans (b4.mono B3.out.size)
  have B5 := Lib.hid (hon5.below B4 B4.size S3.out)
  clear b4 v4 hL5 ho5 hal5 hon5 hS5 sl3 B4 t0 t1 t2 t3 t4 t5
  go_wp2_with fail
  refine (llen_c S5 gd 1 _ _ _ _ L5.out 1 rfl).mono ?_; rintro e w' ⟨rfl, rfl⟩
  go_wp2
  go_ret
  exact ⟨rfl, B5.out⟩
end Go.Proofs.Ytfhlcjfgbhmecaa
