/- Package meter: means, copies; the law's measures and its example. -/
import Derived.Test.YtfeepofdnjnkpaaMeter
import Derived.Test.YtfeepofdnjnkpaaKeep
namespace Go.Proofs.Ytfeepofdnjnkpaa
open Go.RowKit F
set_option linter.unusedVariables false

theorem I64.of {n : Int} (h1 : -9223372036854775808 ≤ n) (h2 : n ≤ 9223372036854775807) : I64 n := ⟨h1, h2⟩
/-- A mean's parts. -/
def meanOf (a b : Int) : Int × Int := if a = 0 then (0, 1) else (b, a)
theorem mean_c (a b : Int) (w : World) (ha : Small a) (hb : Small b) (n d : Int) (hn : meanOf a b = (n, d)) :
    Calls Try.prog 13 #[.complex .f64 (fw a) (fw b)] w fun e w' => e = .returned (.tuple #[.int .i64 n, .int .i64 d]) ∧ w = w' := by
  have h1 := fun w => run_convert_float_int (P := Try.prog) (w := w) 55 3 .f64 .i64 (fw a) a (by kernel_rfl) Try.underlying3 (float_int a ha)
  have h2 := fun w => run_convert_float_int (P := Try.prog) (w := w) 55 3 .f64 .i64 (fw b) b (by kernel_rfl) Try.underlying3 (float_int b hb)
  by_cases h : a = 0
  · have e : (FloatKind.f64.format.order (fw a) 0 == some .eq) = true := by
      have := eq_fw ha (Small.of (n := 0) (by omega) (by omega)) true (decide_eq_true h)
      rwa [fw_zero] at this
    obtain ⟨rfl, rfl⟩ : n = 0 ∧ d = 1 := by
      rw [meanOf, if_pos h] at hn
      exact ⟨(congrArg Prod.fst hn).symm, (congrArg Prod.snd hn).symm⟩
    clear h hn
    go_enter Try.func13, Try.ntmps13
    go_wp2
    go_ret2
    exact ⟨rfl, rfl⟩
  · have e : (FloatKind.f64.format.order (fw a) 0 == some .eq) = false := by
      have := eq_fw ha (Small.of (n := 0) (by omega) (by omega)) false (decide_eq_false h)
      rwa [fw_zero] at this
    obtain ⟨rfl, rfl⟩ : n = b ∧ d = a := by
      rw [meanOf, if_neg h] at hn
      exact ⟨(congrArg Prod.fst hn).symm, (congrArg Prod.snd hn).symm⟩
    clear h hn
    go_enter Try.func13, Try.ntmps13
    go_wp2
    go_ret2
    exact ⟨rfl, rfl⟩
/-- Is one's mean below the other one's? -/
def lessOf (a b c d : Int) : Bool := decide ((meanOf a b).1 * (meanOf c d).2 < (meanOf c d).1 * (meanOf a b).2)
theorem mean_bd {a b B : Int} (ha : 0 ≤ a ∧ a ≤ B) (hb : 0 ≤ b ∧ b ≤ B) (h1 : 1 ≤ B) : (0 ≤ (meanOf a b).1 ∧ (meanOf a b).1 ≤ B) ∧ (0 ≤ (meanOf a b).2 ∧ (meanOf a b).2 ≤ B) := by
  unfold meanOf
  split <;> simp only <;> omega
theorem mul_bd' {x y B : Int} (hx : 0 ≤ x ∧ x ≤ B) (hy : 0 ≤ y ∧ y ≤ B) : 0 ≤ x * y ∧ x * y ≤ B * B :=
  ⟨Int.mul_nonneg hx.1 hy.1, Int.mul_le_mul hx.2 hy.2 hy.1 (by omega)⟩
theorem less_c (a b c d : Int) (w : World) (ha : 0 ≤ a ∧ a ≤ 1073741824) (hb : 0 ≤ b ∧ b ≤ 1073741824) (hc : 0 ≤ c ∧ c ≤ 1073741824) (hd : 0 ≤ d ∧ d ≤ 1073741824) (r : Bool) (hr : lessOf a b c d = r) :
    Calls Try.prog 15 #[.complex .f64 (fw a) (fw b), .complex .f64 (fw c) (fw d)] w fun e w' => e = .returned (.bool r) ∧ w = w' := by
  have sa : Small a := Small.of (by omega) (by omega)
  have sb : Small b := Small.of (by omega) (by omega)
  have sc : Small c := Small.of (by omega) (by omega)
  have sd : Small d := Small.of (by omega) (by omega)
  obtain ⟨p1, p2⟩ := mean_bd ha hb (by omega)
  obtain ⟨q1, q2⟩ := mean_bd hc hd (by omega)
  have m1 := mul_bd' p1 q2
  have m2 := mul_bd' q1 p2
  unfold lessOf at hr
  obtain ⟨n, hn⟩ : ∃ n, n = (meanOf a b).1 := ⟨_, rfl⟩
  obtain ⟨k, hk⟩ : ∃ k, k = (meanOf a b).2 := ⟨_, rfl⟩
  obtain ⟨m, hm⟩ : ∃ m, m = (meanOf c d).1 := ⟨_, rfl⟩
  obtain ⟨l, hl⟩ : ∃ l, l = (meanOf c d).2 := ⟨_, rfl⟩
  have E1 := Lib.hid (show meanOf a b = (n, k) by rw [hn, hk])
  have E2 := Lib.hid (show meanOf c d = (m, l) by rw [hm, hl])
  rw [← hn, ← hk, ← hm, ← hl] at hr
  rw [← hn, ← hl] at m1
  rw [← hm, ← hk] at m2
  have HR := Lib.hid hr
  have y1 : 0 ≤ n * l := m1.1
  have y2 : n * l ≤ 1073741824 * 1073741824 := m1.2
  have y3 : 0 ≤ m * k := m2.1
  have y4 : m * k ≤ 1073741824 * 1073741824 := m2.2
  clear p1 p2 q1 q2 m1 m2 hr hn hk hm hl ha hb hc hd
  go_enter Try.func15, Try.ntmps15
  go_wp2_with fail
  refine (mean_c a b _ sa sb n k E1.out).mono ?_; rintro e w' ⟨rfl, rfl⟩
  go_wp2_with fail
  refine (mean_c c d _ sc sd m l E2.out).mono ?_; rintro e w' ⟨rfl, rfl⟩
  go_wp2
  go_ret
  exact ⟨by rw [← HR.out]; rfl, rfl⟩

theorem z_c (a b : Int) (w : World) : Calls Try.prog 14 #[.agg #[.int .i64 a, .int .i64 b]] w fun e w' => e = .returned (.complex .f64 (fw a) (fw b)) ∧ Below w.heap.size w w' := by
  go_enter Try.func14, Try.ntmps14
  go_wp2
  go_ret
  exact ⟨rfl, (Below.refl _ _).alloc (Nat.le_refl _) _⟩

theorem mcell_one (st : List (Int × Int)) : ∀ u ∈ st.map mcell, u.oneCell' = true := by
  intro u hu
  simp only [List.mem_map] at hu
  obtain ⟨p, _, rfl⟩ := hu
  rfl
theorem mall_c (gm gl : Nat) (st : List (Int × Int)) (w : World) (h : Meter w gm gl st) (h1 : 1 ≤ st.length) (hn : st.length ≤ 5) :
    Calls Try.prog 26 #[.pointer (some ⟨gm, 0, none⟩)] w fun e w' => ∃ g cap, e = .returned (.slice (some ⟨g, 0, none⟩) st.length cap) ∧ Row w' g 27 1 st.length cap (st.map mcell) ∧ w.heap.size ≤ g ∧ Below w.heap.size w w' := by
  obtain ⟨i0, hi0, hz0, hz1, hz2⟩ := info_parts info_cplx
  obtain ⟨cap, k1, k2⟩ := h.ex
  have hc := (k1.cell 0).trans (show _ = some (.slice (some ⟨gl, 0, none⟩) st.length cap) from rfl)
  have hlen := Lib.hid k2.len
  have hnews := Lib.hid k2.news
  have h4 : st.length ≤ 5 := hn
  clear k1 k2 h
  go_enter Try.func26, Try.ntmps26
  go_wp2_with (at_builtin; refine wpList_append_lies _ rfl (.const (.slice none 0 0)) (.tmp 6) _ rfl 0 27 i0 _ 1 16 Try.underlying47 hi0 hz0 hz1 hz2 rfl (by omega) (.slice none 0 0) 0 [] rfl ⟨by simp, .inl ⟨rfl, rfl⟩⟩ ⟨gl, 0, none⟩ st.length cap (st.map mcell) rfl hlen.out hnews.out (mcell_one st) (by omega) (by unfold maxLen; omega) (by omega) (Nat.zero_le _) w.heap.size rfl ?_; intro g cap' w1 hown1 hgrow1 hat1 hlt1)
  have hg : g = w.heap.size := by
    rcases hat1 with h | h
    · cases h
    · exact h
  subst hg
  simp only [Nat.zero_add, List.nil_append] at hown1
  have ho : Only [] w w1 := (Only.refl [] w).grown hgrow1 (fun k hk => by cases hk)
  have HB := Lib.hid ho.to_below
  have HO := Lib.hid hown1
  clear hown1 hgrow1 hat1 ho
  go_ret
  exact ⟨w.heap.size, cap', by simp, Row.of_own HO.out, Nat.le_refl _, HB.out⟩
theorem mclone_c (gm gl : Nat) (st : List (Int × Int)) (w : World) (h : Meter w gm gl st) (h1 : 1 ≤ st.length) (hn : st.length ≤ 5) :
    Calls Try.prog 24 #[.pointer (some ⟨gm, 0, none⟩)] w fun e w' => ∃ gd gk, e = .returned (.pointer (some ⟨gd, 0, none⟩)) ∧ Meter w' gd gk st ∧ w.heap.size ≤ gd ∧ w.heap.size ≤ gk ∧ Below w.heap.size w w' := by
  have H := Lib.hid h
  clear h
  go_enter Try.func24, Try.ntmps24
  go_wp2_with fail
  refine (mall_c gm gl st _ H.out h1 hn).mono ?_; rintro e w1 ⟨g, cap, rfl, hr, hg, hb⟩
  have HR := Lib.hid hr
  have hz := hb.size
  clear hr
  go_wp2
  go_ret
  exact ⟨w1.heap.size, g, rfl, ⟨cap, Blk.new _ _ _, HR.out.alloc _⟩, hz, hg, hb.alloc hz _⟩

theorem fw_2 : fw 2 = 4611686018427387904 := by decide +kernel
theorem fw_8 : fw 8 = 4620693217682128896 := by decide +kernel
set_option maxHeartbeats 800000 in
theorem mwakes_c (w : World) : Calls Try.prog 16 #[] w fun e w' => e = .returned (.bool true) ∧ Below w.heap.size w w' := by
  have r0 : Roomy (List.replicate 2 ((0, 0) : Int × Int)) := by intro z hz; rw [List.eq_of_mem_replicate hz]; decide
  have r1 : Roomy (addSt (List.replicate 2 ((0, 0) : Int × Int)) 0 3) := by
    have e : addSt (List.replicate 2 ((0, 0) : Int × Int)) 0 3 = [(1, 3), (0, 0)] := by decide
    rw [e]
    intro z hz
    simp at hz
    rcases hz with rfl | rfl <;> decide
  have s2 := Small.of (n := 2) (by omega) (by omega)
  have s8 := Small.of (n := 8) (by omega) (by omega)
  have s0 := Small.of (n := 0) (by omega) (by omega)
  have q1 := eq_fw s2 s2 true (by decide)
  have q2 := eq_fw s8 s8 true (by decide)
  have q3 := eq_fw s0 s0 true (by decide)
  rw [fw_2] at q1
  rw [fw_8] at q2
  rw [fw_zero] at q3
  have R0 := Lib.hid r0
  have R1 := Lib.hid r1
  clear r0 r1
  go_enter Try.func16, Try.ntmps16
  go_wp2_with fail
  refine (mnew_ok 2 2 rfl (by omega) (by omega) _).mono ?_; rintro e w1 ⟨gm, gl, rfl, h1, hg1, hg2, hb1⟩
  go_wp2_with fail
  refine (add_c gm gl _ 0 3 _ h1 (by simp) R0.out (I64.of (by omega) (by omega)) (I64.of (by omega) (by omega)) true (by decide) _ rfl).mono ?_; rintro e w2 ⟨rfl, h2, o2⟩
  go_wp2_with fail
  refine (add_c gm gl _ 0 5 _ h2 (by simp [addSt_len]) R1.out (I64.of (by omega) (by omega)) (I64.of (by omega) (by omega)) true (by decide) _ rfl).mono ?_; rintro e w3 ⟨rfl, h3, o3⟩
  go_wp2_with fail
  refine (at_c gm gl _ 0 _ h3 (by simp [addSt_len]) (I64.of (by omega) (by omega)) (2, 8) (by decide)).mono ?_; rintro e w' ⟨rfl, rfl⟩
  go_wp2_with fail
  refine (mean_c 2 8 _ s2 s8 8 2 (by decide)).mono ?_; rintro e w' ⟨rfl, rfl⟩
  go_wp2_with fail
  refine (at_c gm gl _ 0 _ h3 (by simp [addSt_len]) (I64.of (by omega) (by omega)) (2, 8) (by decide)).mono ?_; rintro e w' ⟨rfl, rfl⟩
  rw [fw_2, fw_8]
  go_wp2_with fail
  refine (at_c gm gl _ 1 _ h3 (by simp [addSt_len]) (I64.of (by omega) (by omega)) (0, 0) (by decide)).mono ?_; rintro e w' ⟨rfl, rfl⟩
  rw [fw_zero]
  go_wp2
  go_ret
  have b := (o2.trans o3).below hb1 hb1.size (by simpa using hg2)
  exact ⟨rfl, b⟩
end Go.Proofs.Ytfeepofdnjnkpaa
