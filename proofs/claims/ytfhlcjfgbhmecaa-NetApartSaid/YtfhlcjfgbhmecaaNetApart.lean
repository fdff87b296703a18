/- NetApart: for every four numbers and every bytes the law returns true: what goes over one link is on no other one. No condition. -/
import Derived.Test.YtfhlcjfgbhmecaaNetY
import Derived.Test.YtfhlcjfgbhmecaaNetK
import Derived.Test.YtfhlcjfgbhmecaaBytes
import Derived.Test.YtfhlcjfgbhmecaaRows
import Derived.Deep.DeepCutAuto
import Derived.Deep.CutBlock
namespace Go.Proofs.Ytfhlcjfgbhmecaa.NetApart
open Go.RowKit Go.ChangeShapes Go.WideShapes Go.ChangeAt
set_option linter.unusedVariables false

theorem nolnk (p : Nat) (x : Int) (h : p < 4) (hx : x = p) : NoLnk 6 six x x := ⟨p, p, .inl ⟨p, rfl, (at6 p x h hx).2⟩, .inl ⟨p, rfl, (at6 p x h hx).2⟩, .inr (.inr rfl)⟩
theorem lnk (p q : Nat) (hp : p < 4) (hq : q < 4) (hne : p ≠ q) : Lnk 6 six p q (p * 6 + q) := ⟨p, q, at6 p p hp rfl, at6 q q hq rfl, hne, rfl⟩
/-- Behind the push. -/
def Cut (w wx : World) (gn p q : Nat) : Prop :=
  ∃ (B : Nat) (qq g : Nat → Nat) (lost : Nat → Int) (ms : Nat → List (Value × List Int)), Nt B wx gn 6 six qq g 64 lost ms ∧ (∀ k, lost k = 0) ∧ (∀ r s, r < 4 → s < 4 → r ≠ s → (ms (r * 6 + s)).length = if p = r ∧ q = s ∧ p ≠ q then 1 else 0) ∧ Below w.heap.size w wx
set_option maxRecDepth 100000 in
set_option maxHeartbeats 6400000 in
theorem walk (a b c d : Int) (R : Byt) (w : World) (ha : I64 a) (hb : I64 b) (hc : I64 c) (hd : I64 d) (hR : R.Is w) :
    Calls Try.prog 9 #[.int .i64 a, .int .i64 b, .int .i64 c, .int .i64 d, .slice R.a R.xs.length R.c] w fun e w' => e = .returned (.bool true) ∧ Below w.heap.size w w' := by
  have VR := Lib.hid hR.row
  obtain ⟨m, hm⟩ : ∃ m, m = R.xs.length := ⟨_, rfl⟩
  have hcap : m ≤ R.c := by rw [hm]; exact hR.cap
  rw [← hm] at VR ⊢
  clear hR hm
  obtain ⟨n, bs, hn, hnb, hvn⟩ : ∃ (n : Nat) (bs : List Int), n ≤ 100 ∧ (n = if 100 < m then 100 else m) ∧ VRow w R.a n 1 (brow bs) := by
    by_cases h : 100 < m
    · exact ⟨100, R.xs.take 100, Nat.le_refl _, by rw [if_pos h], by have := VR.out.take (k := 100) (by omega); rw [← List.map_take] at this; exact this⟩
    · exact ⟨m, R.xs, by omega, by rw [if_neg h], VR.out⟩
  have VN := Lib.hid hvn
  have HA := Lib.hid ha
  have HB := Lib.hid hb
  have HC := Lib.hid hc
  have HD := Lib.hid hd
  clear hvn VR ha hb hc hd
  go_enter Try.func9, Try.ntmps9
  by_cases hbig : 100 < m
  · have i1 : (100 : Int) < m := by omega
    have hs1 : ∀ w : World, (Instr.slice 59 (.slice R.a m R.c) none (some (.int .i64 100)) none).run Try.prog w = .ok (.slice R.a 100 R.c) w := to_any (P := Try.prog) 59 5 1 Try.underlying59 (by kernel_rfl) size_u8 R.a m R.c 100 (by omega) hcap
    rw [if_pos hbig] at hnb
    subst hnb
    clear hbig
    go_upto_region 3 with fail
    clear i1 hs1 hcap
    go_wp2_with fail
    refine (cfg_c _).mono ?_; rintro e w1 ⟨rfl, hb1⟩
    go_wp2_with fail
    refine (nnew_a 64 (by omega) _).mono ?_; rintro e w2 ⟨gn, qq, g, rfl, hn2, hb2, -, hq2⟩
    have B2 := Lib.hid (hb1.trans (hb2.mono hb1.size))
    have N2 := Lib.hid hn2
    have V2 := Lib.hid (VN.out.below B2.out)
    have GE : Hid (∀ k, k < 36 → w.heap.size ≤ qq k ∧ w.heap.size ≤ g k) := Lib.hid fun k hk => ⟨Nat.le_trans hb1.size (hq2 k hk).1, Nat.le_trans hb1.size (hq2 k hk).2⟩
    clear hb1 hb2 hn2 hq2 VN
    go_wp2_with fail
    refine (within_q a 4 _ HA.out (by omega) (by omega)).mono ?_; rintro e w' ⟨pp, rfl, -, p0, p4, rfl⟩
    go_wp2_with fail
    refine (within_q b 4 _ HB.out (by omega) (by omega)).mono ?_; rintro e w' ⟨qx, rfl, -, q0, q4, rfl⟩
    go_wp2_with fail
    refine (within_q c 4 _ HC.out (by omega) (by omega)).mono ?_; rintro e w' ⟨rr, rfl, -, r0, r4, rfl⟩
    go_wp2_with fail
    refine (within_q d 4 _ HD.out (by omega) (by omega)).mono ?_; rintro e w' ⟨ss, rfl, -, s0, s4, rfl⟩
    obtain ⟨p, rfl⟩ := Int.eq_ofNat_of_zero_le p0
    obtain ⟨q, rfl⟩ := Int.eq_ofNat_of_zero_le q0
    obtain ⟨r, rfl⟩ := Int.eq_ofNat_of_zero_le r0
    obtain ⟨s, rfl⟩ := Int.eq_ofNat_of_zero_le s0
    have hp : p < 4 := by omega
    have hq : q < 4 := by omega
    have hr : r < 4 := by omega
    have hs : s < 4 := by omega
    clear p0 p4 q0 q4 r0 r4 s0 s4
    go_upto_region 7 with fail
    go_cut [53] (fun t wx => t = .bool false ∧ Cut w wx gn p q)
    case first =>
      by_cases hpq : p = q
      · subst hpq
        go_wp2_with fail
        refine (npush_none p p _ _ _ _ N2.out (by omega) (nolnk p p hp rfl)).mono ?_; rintro e w3 ⟨rfl, hb3⟩
        have N3 := Lib.hid (N2.out.below hb3)
        have B3 := Lib.hid (B2.out.trans (hb3.mono B2.out.size))
        clear hb3
        go_wp2_with fail
        go_meet
        exact ⟨by first | rfl | simp, _, _, _, _, _, N3.out, fun k => rfl, fun r s hr hs hne => by rw [if_neg (by omega)]; rfl, B3.out⟩
      · have e1 : ((p : Int) == q) = false := beq_eq_false_iff_ne.2 (by omega)
        have e2 : ¬ (p : Int) = q := by omega
        go_wp2_with fail
        refine (npush_at p q _ _ _ _ _ N2.out (by omega) (by omega) (p * 6 + q) (lnk p q hp hq hpq) V2.out (by omega) (by simp)).mono ?_; rintro e w3 ⟨g', z, rfl, hn3, ho3, -⟩
        have N3 := Lib.hid hn3
        have B3 : Hid (Below w.heap.size w w3) := Lib.hid (ho3.below B2.out B2.out.size (by
          have := GE.out (p * 6 + q) (by omega)
          simpa using this))
        clear hn3 ho3
        go_wp2_with fail
        go_meet
        refine ⟨by first | rfl | (simp; done) | (simp; omega), _, _, _, _, _, N3.out, fun k => ?_, fun r s hr hs hne => ?_, B3.out⟩
        · unfold upq; split <;> rfl
        · by_cases h : p = r ∧ q = s ∧ p ≠ q
          · obtain ⟨rfl, rfl, _⟩ := h
            rw [if_pos ⟨rfl, rfl, hpq⟩, upq_same]
            rfl
          · rw [if_neg h, upq_ne _ _ (by omega)]
            rfl
    case rest =>
      obtain ⟨rfl, hcut⟩ := hcut
      obtain ⟨B, qq', g', lost, ms, hn3, hl3, hm3, hb3⟩ := hcut
      have N3 := Lib.hid hn3
      have L3 := Lib.hid hl3
      have M3 := Lib.hid hm3
      have B3 := Lib.hid hb3
      clear hn3 hl3 hm3 hb3 N2 B2 V2 GE
      go_upto_region 10 with fail
      go_cut [66] (fun t wx => t = .bool (decide (p = r ∧ q = s ∧ p ≠ q)) ∧ wx = wc)
      case first =>
        by_cases h1 : p = r
        · subst h1
          by_cases h2 : q = s
          · subst h2
            by_cases h3 : p = q
            · subst h3
              go_wp2_with fail
              go_meet
              exact ⟨by simp, (by first | rfl | trivial)⟩
            · have e1 : ((p : Int) == q) = false := beq_eq_false_iff_ne.2 (by omega)
              have e2 : ¬ (p : Int) = q := by omega
              go_wp2_with fail
              go_meet
              exact ⟨by first | (simp [h3]; done) | (simp [h3]; omega), (by first | rfl | trivial)⟩
          · have e1 : ((q : Int) == s) = false := beq_eq_false_iff_ne.2 (by omega)
            have e2 : ¬ (q : Int) = s := by omega
            go_wp2_with fail
            go_meet
            exact ⟨by first | (simp [h2]; done) | (simp [h2]; omega), (by first | rfl | trivial)⟩
        · have e1 : ((p : Int) == r) = false := beq_eq_false_iff_ne.2 (by omega)
          have e2 : ¬ (p : Int) = r := by omega
          go_wp2_with fail
          go_meet
          exact ⟨by first | (simp [h1]; done) | (simp [h1]; omega), (by first | rfl | trivial)⟩
      case rest =>
        obtain ⟨rfl, rfl⟩ := hcut
        by_cases h : p = r ∧ q = s ∧ p ≠ q
        · have e1 : decide (p = r ∧ q = s ∧ p ≠ q) = true := decide_eq_true h
          rw [e1]
          obtain ⟨rfl, rfl, hpq⟩ := h
          have hl : (ms (p * 6 + q)).length = 1 := by rw [M3.out p q hp hq hpq, if_pos ⟨rfl, rfl, hpq⟩]
          clear e1
          go_wp2_with fail
          refine (npeek_ok' p q 0 _ N3.out (by omega) (p * 6 + q) (lnk p q hp hq hpq) 0 (by omega) rfl).mono ?_; rintro e w4 ⟨v, rfl, -, hb4⟩
          have N4 := Lib.hid (N3.out.below hb4)
          have B4 := Lib.hid (B3.out.trans (hb4.mono B3.out.size))
          clear hb4
          go_wp2_with fail
          refine (nlen_c' p q _ N4.out (by omega) (p * 6 + q) (lnk p q hp hq hpq) 1 hl).mono ?_; rintro e w' ⟨rfl, rfl⟩
          go_wp2_with fail
          refine (nlost_c _ N4.out (by omega) (fun k _ => L3.out k)).mono ?_; rintro e w' ⟨rfl, rfl⟩
          go_wp2_with fail
          refine (nwakes_c _).mono ?_; rintro e w5 ⟨rfl, hb5⟩
          have B5 := Lib.hid (B4.out.trans (hb5.mono B4.out.size))
          clear hb5
          go_wp2_with fail
          go_ret
          exact ⟨by first | rfl | trivial, B5.out⟩
        · have e1 : decide (p = r ∧ q = s ∧ p ≠ q) = false := decide_eq_false h
          rw [e1]
          by_cases hrs : r = s
          · subst hrs
            clear e1
            go_wp2_with fail
            refine (npeek_none r r 0 _ N3.out (by omega) (nolnk r r hr rfl)).mono ?_; rintro e w' ⟨rfl, rfl⟩
            go_wp2_with fail
            refine (nlen_none r r _ N3.out (by omega) (nolnk r r hr rfl)).mono ?_; rintro e w' ⟨rfl, rfl⟩
            go_wp2_with fail
            refine (nlost_c _ N3.out (by omega) (fun k _ => L3.out k)).mono ?_; rintro e w' ⟨rfl, rfl⟩
            go_wp2_with fail
            refine (nwakes_c _).mono ?_; rintro e w5 ⟨rfl, hb5⟩
            have B5 := Lib.hid (B3.out.trans (hb5.mono B3.out.size))
            clear hb5
            go_wp2_with fail
            go_ret
            exact ⟨by first | rfl | trivial, B5.out⟩
          · have hl : (ms (r * 6 + s)).length = 0 := by rw [M3.out r s hr hs hrs, if_neg h]
            clear e1
            go_wp2_with fail
            refine (npeek_no' r s 0 _ N3.out (by omega) (r * 6 + s) (lnk r s hr hs hrs) (by unfold I64; omega) (by omega)).mono ?_; rintro e w' ⟨rfl, rfl⟩
            go_wp2_with fail
            refine (nlen_c' r s _ N3.out (by omega) (r * 6 + s) (lnk r s hr hs hrs) 0 hl).mono ?_; rintro e w' ⟨rfl, rfl⟩
            go_wp2_with fail
            refine (nlost_c _ N3.out (by omega) (fun k _ => L3.out k)).mono ?_; rintro e w' ⟨rfl, rfl⟩
            go_wp2_with fail
            refine (nwakes_c _).mono ?_; rintro e w5 ⟨rfl, hb5⟩
            have B5 := Lib.hid (B3.out.trans (hb5.mono B3.out.size))
            clear hb5
            go_wp2_with fail
            go_ret
            exact ⟨by first | rfl | trivial, B5.out⟩
  · have i1 : ¬ (100 : Int) < m := by omega
    rw [if_neg hbig] at hnb
    subst hnb
    clear hbig
    go_upto_region 3 with fail
    clear i1 hcap
    go_wp2_with fail
    refine (cfg_c _).mono ?_; rintro e w1 ⟨rfl, hb1⟩
    go_wp2_with fail
    refine (nnew_a 64 (by omega) _).mono ?_; rintro e w2 ⟨gn, qq, g, rfl, hn2, hb2, -, hq2⟩
    have B2 := Lib.hid (hb1.trans (hb2.mono hb1.size))
    have N2 := Lib.hid hn2
    have V2 := Lib.hid (VN.out.below B2.out)
    have GE : Hid (∀ k, k < 36 → w.heap.size ≤ qq k ∧ w.heap.size ≤ g k) := Lib.hid fun k hk => ⟨Nat.le_trans hb1.size (hq2 k hk).1, Nat.le_trans hb1.size (hq2 k hk).2⟩
    clear hb1 hb2 hn2 hq2 VN
    go_wp2_with fail
    refine (within_q a 4 _ HA.out (by omega) (by omega)).mono ?_; rintro e w' ⟨pp, rfl, -, p0, p4, rfl⟩
    go_wp2_with fail
    refine (within_q b 4 _ HB.out (by omega) (by omega)).mono ?_; rintro e w' ⟨qx, rfl, -, q0, q4, rfl⟩
    go_wp2_with fail
    refine (within_q c 4 _ HC.out (by omega) (by omega)).mono ?_; rintro e w' ⟨rr, rfl, -, r0, r4, rfl⟩
    go_wp2_with fail
    refine (within_q d 4 _ HD.out (by omega) (by omega)).mono ?_; rintro e w' ⟨ss, rfl, -, s0, s4, rfl⟩
    obtain ⟨p, rfl⟩ := Int.eq_ofNat_of_zero_le p0
    obtain ⟨q, rfl⟩ := Int.eq_ofNat_of_zero_le q0
    obtain ⟨r, rfl⟩ := Int.eq_ofNat_of_zero_le r0
    obtain ⟨s, rfl⟩ := Int.eq_ofNat_of_zero_le s0
    have hp : p < 4 := by omega
    have hq : q < 4 := by omega
    have hr : r < 4 := by omega
    have hs : s < 4 := by omega
    clear p0 p4 q0 q4 r0 r4 s0 s4
    go_upto_region 7 with fail
    go_cut [53] (fun t wx => t = .bool false ∧ Cut w wx gn p q)
    case first =>
      by_cases hpq : p = q
      · subst hpq
        go_wp2_with fail
        refine (npush_none p p _ _ _ _ N2.out (by omega) (nolnk p p hp rfl)).mono ?_; rintro e w3 ⟨rfl, hb3⟩
        have N3 := Lib.hid (N2.out.below hb3)
        have B3 := Lib.hid (B2.out.trans (hb3.mono B2.out.size))
        clear hb3
        go_wp2_with fail
        go_meet
        exact ⟨by first | rfl | simp, _, _, _, _, _, N3.out, fun k => rfl, fun r s hr hs hne => by rw [if_neg (by omega)]; rfl, B3.out⟩
      · have e1 : ((p : Int) == q) = false := beq_eq_false_iff_ne.2 (by omega)
        have e2 : ¬ (p : Int) = q := by omega
        go_wp2_with fail
        refine (npush_at p q _ _ _ _ _ N2.out (by omega) (by omega) (p * 6 + q) (lnk p q hp hq hpq) V2.out (by omega) (by simp)).mono ?_; rintro e w3 ⟨g', z, rfl, hn3, ho3, -⟩
        have N3 := Lib.hid hn3
        have B3 : Hid (Below w.heap.size w w3) := Lib.hid (ho3.below B2.out B2.out.size (by
          have := GE.out (p * 6 + q) (by omega)
          simpa using this))
        clear hn3 ho3
        go_wp2_with fail
        go_meet
        refine ⟨by first | rfl | (simp; done) | (simp; omega), _, _, _, _, _, N3.out, fun k => ?_, fun r s hr hs hne => ?_, B3.out⟩
        · unfold upq; split <;> rfl
        · by_cases h : p = r ∧ q = s ∧ p ≠ q
          · obtain ⟨rfl, rfl, _⟩ := h
            rw [if_pos ⟨rfl, rfl, hpq⟩, upq_same]
            rfl
          · rw [if_neg h, upq_ne _ _ (by omega)]
            rfl
    case rest =>
      obtain ⟨rfl, hcut⟩ := hcut
      obtain ⟨B, qq', g', lost, ms, hn3, hl3, hm3, hb3⟩ := hcut
      have N3 := Lib.hid hn3
      have L3 := Lib.hid hl3
      have M3 := Lib.hid hm3
      have B3 := Lib.hid hb3
      clear hn3 hl3 hm3 hb3 N2 B2 V2 GE
      go_upto_region 10 with fail
      go_cut [66] (fun t wx => t = .bool (decide (p = r ∧ q = s ∧ p ≠ q)) ∧ wx = wc)
      case first =>
        by_cases h1 : p = r
        · subst h1
          by_cases h2 : q = s
          · subst h2
            by_cases h3 : p = q
            · subst h3
              go_wp2_with fail
              go_meet
              exact ⟨by simp, (by first | rfl | trivial)⟩
            · have e1 : ((p : Int) == q) = false := beq_eq_false_iff_ne.2 (by omega)
              have e2 : ¬ (p : Int) = q := by omega
              go_wp2_with fail
              go_meet
              exact ⟨by first | (simp [h3]; done) | (simp [h3]; omega), (by first | rfl | trivial)⟩
          · have e1 : ((q : Int) == s) = false := beq_eq_false_iff_ne.2 (by omega)
            have e2 : ¬ (q : Int) = s := by omega
            go_wp2_with fail
            go_meet
            exact ⟨by first | (simp [h2]; done) | (simp [h2]; omega), (by first | rfl | trivial)⟩
        · have e1 : ((p : Int) == r) = false := beq_eq_false_iff_ne.2 (by omega)
          have e2 : ¬ (p : Int) = r := by omega
          go_wp2_with fail
          go_meet
          exact ⟨by first | (simp [h1]; done) | (simp [h1]; omega), (by first | rfl | trivial)⟩
      case rest =>
        obtain ⟨rfl, rfl⟩ := hcut
        by_cases h : p = r ∧ q = s ∧ p ≠ q
        · have e1 : decide (p = r ∧ q = s ∧ p ≠ q) = true := decide_eq_true h
          rw [e1]
          obtain ⟨rfl, rfl, hpq⟩ := h
          have hl : (ms (p * 6 + q)).length = 1 := by rw [M3.out p q hp hq hpq, if_pos ⟨rfl, rfl, hpq⟩]
          clear e1
          go_wp2_with fail
          refine (npeek_ok' p q 0 _ N3.out (by omega) (p * 6 + q) (lnk p q hp hq hpq) 0 (by omega) rfl).mono ?_; rintro e w4 ⟨v, rfl, -, hb4⟩
          have N4 := Lib.hid (N3.out.below hb4)
          have B4 := Lib.hid (B3.out.trans (hb4.mono B3.out.size))
          clear hb4
          go_wp2_with fail
          refine (nlen_c' p q _ N4.out (by omega) (p * 6 + q) (lnk p q hp hq hpq) 1 hl).mono ?_; rintro e w' ⟨rfl, rfl⟩
          go_wp2_with fail
          refine (nlost_c _ N4.out (by omega) (fun k _ => L3.out k)).mono ?_; rintro e w' ⟨rfl, rfl⟩
          go_wp2_with fail
          refine (nwakes_c _).mono ?_; rintro e w5 ⟨rfl, hb5⟩
          have B5 := Lib.hid (B4.out.trans (hb5.mono B4.out.size))
          clear hb5
          go_wp2_with fail
          go_ret
          exact ⟨by first | rfl | trivial, B5.out⟩
        · have e1 : decide (p = r ∧ q = s ∧ p ≠ q) = false := decide_eq_false h
          rw [e1]
          by_cases hrs : r = s
          · subst hrs
            clear e1
            go_wp2_with fail
            refine (npeek_none r r 0 _ N3.out (by omega) (nolnk r r hr rfl)).mono ?_; rintro e w' ⟨rfl, rfl⟩
            go_wp2_with fail
            refine (nlen_none r r _ N3.out (by omega) (nolnk r r hr rfl)).mono ?_; rintro e w' ⟨rfl, rfl⟩
            go_wp2_with fail
            refine (nlost_c _ N3.out (by omega) (fun k _ => L3.out k)).mono ?_; rintro e w' ⟨rfl, rfl⟩
            go_wp2_with fail
            refine (nwakes_c _).mono ?_; rintro e w5 ⟨rfl, hb5⟩
            have B5 := Lib.hid (B3.out.trans (hb5.mono B3.out.size))
            clear hb5
            go_wp2_with fail
            go_ret
            exact ⟨by first | rfl | trivial, B5.out⟩
          · have hl : (ms (r * 6 + s)).length = 0 := by rw [M3.out r s hr hs hrs, if_neg h]
            clear e1
            go_wp2_with fail
            refine (npeek_no' r s 0 _ N3.out (by omega) (r * 6 + s) (lnk r s hr hs hrs) (by unfold I64; omega) (by omega)).mono ?_; rintro e w' ⟨rfl, rfl⟩
            go_wp2_with fail
            refine (nlen_c' r s _ N3.out (by omega) (r * 6 + s) (lnk r s hr hs hrs) 0 hl).mono ?_; rintro e w' ⟨rfl, rfl⟩
            go_wp2_with fail
            refine (nlost_c _ N3.out (by omega) (fun k _ => L3.out k)).mono ?_; rintro e w' ⟨rfl, rfl⟩
            go_wp2_with fail
            refine (nwakes_c _).mono ?_; rintro e w5 ⟨rfl, hb5⟩
            have B5 := Lib.hid (B3.out.trans (hb5.mono B3.out.size))
            clear hb5
            go_wp2_with fail
            go_ret
            exact ⟨by first | rfl | trivial, B5.out⟩

set_option maxRecDepth 100000 in
theorem lawWalk : LawWalk Try.checked 9 Try.f9 := by
  intro H enc W base args ds p hval hA hsz
  rw [Try.params9] at hA hval
  obtain ⟨v0, vs0, d0, ds0, p0, q0, hargs, rfl, rfl, h0, r0⟩ := trodAll_cons hA
  obtain ⟨v1, vs1, d1, ds1, p1, q1, rfl, rfl, rfl, h1, r1⟩ := trodAll_cons r0
  obtain ⟨v2, vs2, d2, ds2, p2, q2, rfl, rfl, rfl, h2, r2⟩ := trodAll_cons r1
  obtain ⟨v3, vs3, d3, ds3, p3, q3, rfl, rfl, rfl, h3, r3⟩ := trodAll_cons r2
  obtain ⟨v4, vs4, d4, ds4, p4, q4, rfl, rfl, rfl, h4, r4⟩ := trodAll_cons r3
  obtain ⟨rfl, rfl, rfl⟩ := trodAll_nil r4
  obtain rfl : args = #[v0, v1, v2, v3, v4] := by cases args; simp_all
  obtain ⟨a0, rfl, rfl, rfl, w0⟩ := open_int Try.underlying3 (hval 0 3 v0 rfl rfl) h0
  obtain ⟨a1, rfl, rfl, rfl, w1⟩ := open_int Try.underlying3 (hval 1 3 v1 rfl rfl) h1
  obtain ⟨a2, rfl, rfl, rfl, w2⟩ := open_int Try.underlying3 (hval 2 3 v2 rfl rfl) h2
  obtain ⟨a3, rfl, rfl, rfl, w3⟩ := open_int Try.underlying3 (hval 3 3 v3 rfl rfl) h3
  obtain ⟨R4, rfl, hr4⟩ := open_bytes Try.underlying59 Try.underlying5 (by kernel_rfl) (hval 4 59 v4 rfl rfl) h4
  exact walk a0 a1 a2 a3 R4 W (I64.of_wf w0) (I64.of_wf w1) (I64.of_wf w2) (I64.of_wf w3) hr4

theorem lifted (os : Os) (started : os.Started) (H : Type) (enc : TypeId × Value → H) :
    ReturnsInHanded {} Try.checked os 9 .any (Rows.netApartSpec.pre6 enc Try.prog Try.f9 Rows.netApartRow.domain false) (Rows.netApartSpec.post enc Try.prog Try.f9 false true false false) :=
  law_lift (C := Try.checked) (s := Rows.netApartSpec) (tb := 4) (by kernel_rfl) started (by kernel_rfl) Try.func9
    (ChangeSpec.witness6 (enc := enc) (C := Try.checked) false ⟨#[], #[.int .i64 0, .int .i64 0, .int .i64 0, .int .i64 0, .slice none 0 0], []⟩ 8 (by kernel_rfl) (by kernel_rfl) (by kernel_rfl) (by kernel_rfl))
    rfl (fun H ds h => by
      match ds, h with
      | [d0, d1, d2, d3, d4], _ => rfl) (by kernel_rfl) (by kernel_rfl) (by kernel_rfl) Try.underlying4 lawWalk

theorem over : Rows.netApartRow.holds Try.pinned (OpenSpec.ofChange Rows.netApartSpec) :=
  OpenClaim.holds_of_wide 9 Try.f9 rfl rfl rfl rfl rfl rfl rfl ⟨rfl, rfl, rfl, rfl, rfl⟩ rfl rfl rfl rfl rfl (by kernel_rfl) Try.func9 (by kernel_rfl)
    (of_decide_eq_true (by kernel_rfl)) (by unfold Func.isWrapper; first | (rw [if_pos (by decide +kernel)]; kernel_rfl) | (rw [if_neg (by decide +kernel)]; exact ⟨rfl, rfl⟩))
    (fun os started H enc _ => lifted os started H enc)

/-- The statement. -/
theorem proved : Rows.NetApartSaid := over
#print axioms proved
end Go.Proofs.Ytfhlcjfgbhmecaa.NetApart
