/- LedgerTurned: for all logs and numbers the law returns true. No condition. -/
import Derived.Test.YtfhlcjfgbhmecaaLedgerO
import Derived.Test.YtfhlcjfgbhmecaaKeep
import Derived.Test.YtfhlcjfgbhmecaaDeep
import Derived.Test.YtfhlcjfgbhmecaaRows
namespace Go.Proofs.Ytfhlcjfgbhmecaa.LedgerTurned
open Go.RowKit Go.ChangeShapes Go.WideShapes Go.ChangeAt
set_option linter.unusedVariables false

theorem copy_ent_c (a : Option Addr) (n c : Nat) (E : List Ent) (w : World) (h : VRow w a n 7 (E.flatMap ecell)) (hl : E.length = n) (hn : n ≤ 4096) (h1 : 1 ≤ n) :
    Calls Try.prog 22 #[.slice a n c] w fun e w' => ∃ g cap, e = .returned (.slice (some ⟨g, 0, none⟩) n cap) ∧ w'.ownsRow w.heap.size 38 7 (.slice (some ⟨g, 0, none⟩) n cap) n (E.flatMap ecell) ∧ Below w.heap.size w w' := by
  obtain ⟨i0, hi0, hz0, hz1, hz2⟩ := info_parts info_entry
  obtain ⟨b, off, rfl, hlt, hc⟩ := h.2 (by omega)
  have elen := h.1
  have news := Lib.hid (show ∀ j u, (E.flatMap ecell)[j]? = some u → w.cell? ((⟨b, off, none⟩ : Addr).add j) = some u from fun j u hu => by rw [addr_add]; exact hc j u hu)
  clear hc h
  go_enter Try.func22, Try.ntmps22
  go_wp2_with (at_builtin; refine wpList_append_lies _ rfl (.const (.slice none 0 0)) (.tmp 3) _ rfl w.heap.size 38 i0 _ 7 56 Try.underlying34 hi0 hz0 hz1 hz2 rfl (by omega) (.slice none 0 0) 0 [] rfl ⟨by simp, .inl ⟨rfl, rfl⟩⟩ ⟨b, off, none⟩ n c (E.flatMap ecell) rfl elen news.out (ecell_one E) (by omega) (by unfold maxLen; omega) (by omega) (Nat.le_refl _) w.heap.size rfl ?_; intro g5 cap5 w6 hown6 hgrow6 hat6 hlt6)
  simp only [Nat.zero_add, List.nil_append] at hown6
  have HOW := Lib.hid hown6
  have HB := Lib.hid ((Only.refl [] w).grown hgrow6 (fun k hk => by cases hk)).to_below
  clear hown6 hgrow6 hat6
  go_wp2
  go_ret
  exact ⟨g5, cap5, rfl, HOW.out, HB.out⟩
theorem turn_iff {E : List Ent} {i : Nat} (hi : i < E.length) {x : Ent} (hx : x ≠ E[i]) (k : Nat) (hk : k ≤ E.length) : E.take k = (E.set i x).take k ↔ k ≤ i := by
  constructor
  · intro h
    refine Nat.le_of_not_lt fun hlt => hx ?_
    have := congrArg (fun L => L[i]?) h
    simp only [List.getElem?_take, hlt, if_true, List.getElem?_set, hi, List.getElem?_eq_getElem] at this
    exact (Option.some.inj this).symm
  · intro h
    apply List.ext_getElem?
    intro j
    rw [List.getElem?_take, List.getElem?_take]
    split
    · rw [List.getElem?_set_ne (by omega)]
    · rfl
theorem flat_set7 (E : List Ent) (i : Nat) (h : i < E.length) (x : Int) : (E.flatMap ecell).set (i * 7 + 6) (.int .i64 x) = (E.set i (E[i].1, x)).flatMap ecell := by
  rw [← flat_set ecell 7 ecell_len _ E i h]
  have key : ∀ j v, (ecell E[i])[j]? = some v → j < 7 → (E.flatMap ecell)[i * 7 + j]? = some v := fun j v hv hj => flat_get' ecell 7 ecell_len E i j hj h v hv
  show _ = setMany (E.flatMap ecell) (i * 7) [_, _, _, _, _, _, _]
  simp only [setMany]
  have st : ∀ (L : List Value) j v, L[j]? = some v → L.set j v = L := fun L j v hv => by
    apply List.ext_getElem?
    intro m
    rw [List.getElem?_set]
    split
    · rename_i e
      subst e
      rw [hv]
      simp [(List.getElem?_eq_some_iff.1 hv).1]
    · rfl
  simp only [Nat.add_assoc, Nat.reduceAdd]
  rw [st _ (i * 7) _ (key 0 _ rfl (by omega)), st _ _ _ (key 1 _ rfl (by omega)), st _ _ _ (key 2 _ rfl (by omega)), st _ _ _ (key 3 _ rfl (by omega)), st _ _ _ (key 4 _ rfl (by omega)), st _ _ _ (key 5 _ rfl (by omega))]

set_option maxRecDepth 100000 in
set_option maxHeartbeats 3200000 in
theorem walk (a1 : Option Addr) (n1 c1 : Nat) (g1 : Nat → Int) (at_ : Int) (w : World) (hr1 : Flat w a1 n1 7 g1) (hm1 : n1 ≤ maxLen) (hc1 : n1 ≤ c1) (hat : I64 at_) :
    Calls Try.prog 4 #[.slice a1 n1 c1, .int .i64 at_] w fun e w' => e = .returned (.bool true) ∧ Below w.heap.size w w' := by
  unfold maxLen at hm1
  obtain ⟨E1, l1, v1, r1⟩ := flat_ents hr1
  have V1 := Lib.hid v1
  have L1 := Lib.hid l1
  have R1 := Lib.hid r1
  clear hr1 v1 l1 r1
  go_enter Try.func4, Try.ntmps4
  rcases (show n1 = 0 ∨ (¬ n1 = 0 ∧ 40 < n1) ∨ (1 ≤ n1 ∧ n1 ≤ 40) by omega) with h40 | ⟨h40, h41⟩ | ⟨h40, h41⟩
  case' inr.inr =>
    have e0 : ((n1 : Int) == 0) = false := beq_eq_false_iff_ne.2 (by omega)
    go_wp2_with fail
    refine (within_q at_ n1 _ hat (by omega) (by omega)).mono ?_; rintro e w' ⟨q, rfl, _, q0, q1, rfl⟩
    obtain ⟨i, rfl⟩ := Int.eq_ofNat_of_zero_le q0
    have hi : i < n1 := by omega
    go_wp2_with fail
    refine (copy_ent_c a1 n1 c1 E1 _ V1.out L1.out (by omega) h40).mono ?_; rintro e w1 ⟨gb, cb, rfl, ho1, hb1⟩
    have O1 := Lib.hid ho1
    have B1 := Lib.hid hb1
    have hlI := Lib.hid (show i < E1.length by rw [L1.out]; exact hi)
    have c6 : w1.cell? ⟨gb, i * 7 + 6, none⟩ = some (.int .i64 (E1[i]'hlI.out).2) := (Row.of_own ho1).cell (flat_get' ecell 7 ecell_len E1 i 6 (by omega) hlI.out _ rfl)
    have fz := (Row.of_own ho1).frozen (i * 7 + 6)
    have hri := R1.out _ (List.getElem_mem hlI.out)
    obtain ⟨r, hr⟩ : ∃ r, r = (E1[i]'hlI.out).2 := ⟨_, rfl⟩
    rw [← hr] at c6 hri
    have HR := Lib.hid hr
    have gbw : w.heap.size ≤ gb := (ho1.lt gb rfl).1
    have gbc := own_cap ho1
    clear hr ho1 hb1
    go_wp2_with fail
    obtain ⟨r', hr'⟩ : ∃ r', r' = wrap64 (r + 1) := ⟨_, rfl⟩
    rw [← hr']
    have rne : r' ≠ r := by
      obtain ⟨h1, h2⟩ := hri
      rw [hr']
      unfold wrap64
      omega
    obtain ⟨E2, hE2⟩ : ∃ E2, E2 = E1.set i ((E1[i]'hlI.out).1, r') := ⟨_, rfl⟩
    obtain ⟨w2, hw2⟩ : ∃ w2, w2 = w1.setCell ⟨gb, i * 7 + 6, none⟩ (.int .i64 r') := ⟨_, rfl⟩
    rw [← hw2]
    have O2 := Lib.hid (show VRow w2 (some ⟨gb, 0, none⟩) n1 7 (E2.flatMap ecell) by
      have := (Row.of_own O1.out).set_ (i * 7 + 6) (.int .i64 r')
      rw [flat_set7 E1 i hlI.out r', ← hE2, ← hw2] at this
      exact own_vrow this)
    have B2 := Lib.hid (show Below w.heap.size w w2 by rw [hw2]; exact B1.out.setCell gbw _)
    have L2 := Lib.hid (show E2.length = n1 by rw [hE2, List.length_set, L1.out])
    have TI := Lib.hid (show ∀ k, k ≤ n1 → (E1.take k = E2.take k ↔ k ≤ i) from fun k hk => by
      rw [hE2]
      exact turn_iff hlI.out (fun e => rne (by rw [HR.out, ← e])) k (by rw [L1.out]; exact hk))
    have i0 : (0 : Int) ≤ i := by omega
    clear hr' rne hE2 hw2 hri c6 fz
    go_loopw [7] (fun x wr => ∃ k : Nat, k ≤ n1 + 1 ∧ x = .int .i64 k ∧ Below w2.heap.size w2 wr) (fun x _ => n1 + 1 - (intOf x).toNat)
    case atStart => exact ⟨0, by omega, rfl, Below.refl _ _⟩
    case round =>
      obtain ⟨k, hk, rfl, hb⟩ := hrel
      have B3 := Lib.hid hb
      clear hb
      by_cases hkn : k ≤ n1
      · have sl : ∀ w : World, (Instr.slice 34 (.slice (some ⟨gb, 0, none⟩) n1 cb) none (some (.int .i64 k)) none).run Try.prog w = .ok (.slice (some ⟨gb, 0, none⟩) k cb) w := to_any (P := Try.prog) 34 38 7 Try.underlying34 (by kernel_rfl) size_entry _ n1 cb k hkn gbc
        have VK := Lib.hid (show VRow wr (some ⟨gb, 0, none⟩) k 7 ((E2.take k).flatMap ecell) by rw [← flat_take ecell 7 ecell_len]; exact (O2.out.below B3.out).take hkn)
        have LK := Lib.hid (show (E2.take k).length = k by rw [List.length_take, L2.out]; omega)
        have VA := Lib.hid (show VRow wr a1 n1 7 (E1.flatMap ecell) from V1.out.below (B2.out.trans (B3.out.mono B2.out.size)))
        have BK1 := Lib.hid (show decide (k ≤ i) = true ↔ E1.take k = (E2.take k).take n1 by rw [List.take_take, Nat.min_eq_right hkn, decide_eq_true_eq]; exact (TI.out k hkn).symm)
        have BK2 := Lib.hid (show decide (k ≤ i) = true ↔ (E2.take k).take n1 = E1.take k by rw [List.take_take, Nat.min_eq_right hkn, decide_eq_true_eq, eq_comm]; exact (TI.out k hkn).symm)
        have j0 : (0 : Int) ≤ k := by omega
        go_wp2_with fail
        refine (prefix_c a1 n1 c1 (some ⟨gb, 0, none⟩) k cb E1 (E2.take k) _ VA.out VK.out L1.out LK.out (by omega) (by omega) (decide (k ≤ i)) BK1.out).mono ?_; rintro e w3 ⟨rfl, hb3⟩
        have B4 := Lib.hid hb3
        clear hb3
        go_wp2_with fail
        refine (prefix_c (some ⟨gb, 0, none⟩) k cb a1 n1 c1 (E2.take k) E1 _ (VK.out.below B4.out) (VA.out.below B4.out) LK.out L1.out (by omega) (by omega) (decide (k ≤ i)) BK2.out).mono ?_; rintro e w4 ⟨rfl, hb4⟩
        have B5 := Lib.hid (B3.out.trans ((B4.out.trans (hb4.mono B4.out.size)).mono B3.out.size))
        clear hb4
        go_wp2_with fail
        exact ⟨⟨k + 1, by omega, by go_num, B5.out⟩, by simp [intOf]; omega⟩
      · have VA := Lib.hid (show VRow wr a1 n1 7 (E1.flatMap ecell) from V1.out.below (B2.out.trans (B3.out.mono B2.out.size)))
        have BW := Lib.hid (B2.out.trans (B3.out.mono B2.out.size))
        go_wp2_with fail
        refine (prefix_c a1 n1 c1 none 0 0 E1 [] _ VA.out (VRow.nil _ none 7) L1.out rfl (by omega) (by omega) true (iff_of_true rfl (by simp))).mono ?_; rintro e w5 ⟨rfl, hb5⟩
        have B6 := Lib.hid (BW.out.trans (hb5.mono BW.out.size))
        clear hb5
        go_wp2_with fail
        refine (lwakes_c _).mono ?_; rintro e w7 ⟨rfl, hb7⟩
        go_wp2
        go_ret
        exact ⟨rfl, B6.out.trans (hb7.mono B6.out.size)⟩
  all_goals
    go_wp2_with fail
    refine (lwakes_c _).mono ?_; rintro e w7 ⟨rfl, hb7⟩
    go_wp2
    go_ret
    exact ⟨rfl, hb7⟩

set_option maxRecDepth 100000 in
theorem lawWalk : LawWalk Try.checked 4 Try.f4 := by
  intro H enc W base args ds p hval hA hsz
  rw [Try.params4] at hA hval
  obtain ⟨v0, vs0, d0, ds0, p0, q0, hargs, rfl, rfl, h0, r0⟩ := trodAll_cons hA
  obtain ⟨v1, vs1, d1, ds1, p1, q1, rfl, rfl, rfl, h1, r1⟩ := trodAll_cons r0
  obtain ⟨rfl, rfl, rfl⟩ := trodAll_nil r1
  obtain rfl : args = #[v0, v1] := by cases args; simp_all
  obtain ⟨a0, n0, c0, g0, rfl, hnc0, hcm0, hr0⟩ := open_flatD (k := 7) Try.underlying34 (by kernel_rfl) (by decide) (by kernel_rfl) (hval 0 34 v0 rfl rfl) h0
  obtain ⟨a1, rfl, rfl, rfl, w1⟩ := open_int Try.underlying3 (hval 1 3 v1 rfl rfl) h1
  exact walk a0 n0 c0 g0 a1 W hr0 (Nat.le_trans hnc0 hcm0) hnc0 (I64.of_wf w1)

theorem lifted (os : Os) (started : os.Started) (H : Type) (enc : TypeId × Value → H) :
    ReturnsInHanded {} Try.checked os 4 .any (Rows.ledgerTurnedSpec.pre6 enc Try.prog Try.f4 Rows.ledgerTurnedRow.domain false) (Rows.ledgerTurnedSpec.post enc Try.prog Try.f4 false true false false) :=
  law_lift (C := Try.checked) (s := Rows.ledgerTurnedSpec) (tb := 4) (by kernel_rfl) started (by kernel_rfl) Try.func4
    (ChangeSpec.witness6 (enc := enc) (C := Try.checked) false ⟨#[], #[.slice none 0 0, .int .i64 0], []⟩ 8 (by kernel_rfl) (by kernel_rfl) (by kernel_rfl) (by kernel_rfl))
    rfl (fun H ds h => by
      match ds, h with
      | [d0, d1], _ => rfl) (by kernel_rfl) (by kernel_rfl) (by kernel_rfl) Try.underlying4 lawWalk

theorem over : Rows.ledgerTurnedRow.holds Try.pinned (OpenSpec.ofChange Rows.ledgerTurnedSpec) :=
  OpenClaim.holds_of_wide 4 Try.f4 rfl rfl rfl rfl rfl rfl rfl ⟨rfl, rfl, rfl, rfl, rfl⟩ rfl rfl rfl rfl rfl (by kernel_rfl) Try.func4 (by kernel_rfl)
    (of_decide_eq_true (by kernel_rfl)) (by unfold Func.isWrapper; first | (rw [if_pos (by decide +kernel)]; kernel_rfl) | (rw [if_neg (by decide +kernel)]; exact ⟨rfl, rfl⟩))
    (fun os started H enc _ => lifted os started H enc)

/-- The statement. -/
theorem proved : Rows.LedgerTurnedSaid := over
#print axioms proved

end Go.Proofs.Ytfhlcjfgbhmecaa.LedgerTurned
