/- Package psephoskeep: Heavy of parts alone, HeavyCerts. -/
import Derived.Test.YtpkifmophmjilaaChooseG
import Derived.Deep.CutRange
import Derived.Deep.DeepCutAuto
import Derived.Deep.CutBlock
import Derived.BigQuiet
namespace Go.Proofs.Ytpkifmophmjilaa
open Go.RowKit
set_option linter.unusedVariables false

structure LightC (n : Nat) (cs : List CD) : Prop where
  n : n ≤ 20
  c : ∀ c ∈ cs, c.bn ≤ 12 ∧ c.vn ≤ 30
structure Light (n : Nat) (ps : List PD) : Prop where
  n : n ≤ 12
  c : ∀ p ∈ ps, p.vn ≤ 30 ∧ LightC p.cn p.cs

set_option maxRecDepth 100000 in
set_option maxHeartbeats 3200000 in
theorem heavycerts_c (a : Option Addr) (n c : Nat) (cs : List CD) (w : World) (h : Certs w a n c cs) (bb : Bool) (hb : bb = false ↔ LightC n cs) :
    Calls Try.prog 25 #[.slice a n c] w fun e w' => e = .returned (.bool bb) ∧ w = w' := by
  have H := Lib.hid h
  have hmx : n ≤ maxLen := Nat.le_trans h.cap h.max
  unfold maxLen at hmx
  have NOT := Lib.hid (show ¬ LightC n cs → bb = true from fun hn => by
    cases bb
    · exact absurd (hb.1 rfl) hn
    · rfl)
  have YES := Lib.hid hb.2
  clear h hb
  by_cases h20 : 20 < n
  · obtain rfl := NOT.out (fun h => by have := h.n; omega)
    go_enter Try.func25, Try.ntmps25
    go_wp2_with fail
    go_ret
    exact ⟨rfl, rfl⟩
  · go_enter Try.func25, Try.ntmps25
    go_wp2_with fail
    go_loopw [3] (fun i wr => ∃ k : Nat, k ≤ n ∧ i = .int .i64 k ∧ (∀ j x, j < k → cs[j]? = some x → x.bn ≤ 12 ∧ x.vn ≤ 30) ∧ wr = w) (fun i _ => n - (intOf i).toNat)
    case atStart => exact ⟨0, by omega, rfl, fun j x hj => absurd hj (by omega), rfl⟩
    case round =>
      obtain ⟨k, hk, rfl, hal, rfl⟩ := hrel
      by_cases hlt : k < n
      · obtain ⟨b, off, rfl, hbl, x, hx, hxI, x0, x1, x2, x3, x4⟩ := H.out.get hlt
        have BAD := Lib.hid (show ¬ (x.bn ≤ 12 ∧ x.vn ≤ 30) → bb = true from fun hn => NOT.out fun h => hn (h.c x (List.mem_of_getElem? hx)))
        have GOOD := Lib.hid (show x.bn ≤ 12 ∧ x.vn ≤ 30 → ∀ j y, j < k + 1 → cs[j]? = some y → y.bn ≤ 12 ∧ y.vn ≤ 30 from fun hh j y hj hy => by
          rcases Nat.lt_or_ge j k with h | h
          · exact hal j y h hy
          · obtain rfl : j = k := by omega
            rw [hx] at hy
            cases hy
            exact hh)
        have m1 : x.bn ≤ maxLen := Nat.le_trans hxI.b.cap hxI.b.max
        have m2 : x.vn ≤ maxLen := Nat.le_trans hxI.v.cap hxI.v.max
        unfold maxLen at m1 m2
        obtain ⟨xbn, hxbn⟩ : ∃ z, z = x.bn := ⟨_, rfl⟩
        obtain ⟨xvn, hxvn⟩ : ∃ z, z = x.vn := ⟨_, rfl⟩
        rw [← hxbn] at x3 BAD GOOD m1
        rw [← hxvn] at x4 BAD GOOD m2
        have i0 : (0 : Int) ≤ k := by omega
        have i1 : (k : Int) < n := by omega
        clear hal hx hxI hxbn hxvn x0 x1 x2
        rcases (show 12 < xbn ∨ (¬ 12 < xbn ∧ 30 < xvn) ∨ (¬ 12 < xbn ∧ ¬ 30 < xvn) by omega) with h1 | ⟨h1, h2⟩ | ⟨h1, h2⟩
        · obtain rfl := BAD.out (by omega)
          have j1 : decide ((12 : Int) < xbn) = true := decide_eq_true (by omega)
          have j1' : decide (12 < xbn) = true := decide_eq_true (by omega)
          go_wp2_with fail
          go_ret
          exact ⟨rfl, rfl⟩
        · obtain rfl := BAD.out (by omega)
          have j1 : decide ((12 : Int) < xbn) = false := decide_eq_false (by omega)
          have j1' : decide (12 < xbn) = false := decide_eq_false (by omega)
          have j2 : decide ((30 : Int) < xvn) = true := decide_eq_true (by omega)
          have j2' : decide (30 < xvn) = true := decide_eq_true (by omega)
          go_wp2_with fail
          go_ret
          exact ⟨rfl, rfl⟩
        · have G := Lib.hid (GOOD.out (by omega))
          have j1 : decide ((12 : Int) < xbn) = false := decide_eq_false (by omega)
          have j1' : decide (12 < xbn) = false := decide_eq_false (by omega)
          have j2 : decide ((30 : Int) < xvn) = false := decide_eq_false (by omega)
          have j2' : decide (30 < xvn) = false := decide_eq_false (by omega)
          go_wp2_with fail
          go_roundw
          case rel => exact ⟨k + 1, by omega, by go_num, G.out, by first | rfl | trivial⟩
          case measure => simp [intOf]; omega
      · obtain rfl := YES.out ⟨by omega, fun x hx => by
          obtain ⟨j, hj, rfl⟩ := List.mem_iff_getElem.1 hx
          exact hal j _ (by have := H.out.len; omega) (List.getElem?_eq_getElem hj)⟩
        clear hal
        go_wp2_with fail
        go_ret
        exact ⟨rfl, rfl⟩

set_option maxRecDepth 100000 in
set_option maxHeartbeats 3200000 in
theorem heavy_c (a : Option Addr) (n c : Nat) (ps : List PD) (w : World) (h : Parts w a n c ps) (bb : Bool) (hb : bb = false ↔ Light n ps) :
    Calls Try.prog 13 #[.agg #[.int .i64 0, .int .i64 0, .int .i64 0, .int .i64 0, .int .i64 0, .int .i64 0, .slice none 0 0, .slice none 0 0, .slice none 0 0, .slice a n c]] w fun e w' => e = .returned (.bool bb) ∧ Below w.heap.size w w' := by
  have H := Lib.hid h
  have hmx : n ≤ maxLen := Nat.le_trans h.cap h.max
  unfold maxLen at hmx
  have NOT := Lib.hid (show ¬ Light n ps → bb = true from fun hn => by
    cases bb
    · exact absurd (hb.1 rfl) hn
    · rfl)
  have YES := Lib.hid hb.2
  clear h hb
  have b1 : Below w.heap.size w (w.alloc (.cells #[.int .i64 0, .int .i64 0, .int .i64 0, .int .i64 0, .int .i64 0, .int .i64 0, .slice none 0 0, .slice none 0 0, .slice none 0 0, .slice a n c] 28)) := (Below.refl _ _).alloc (Nat.le_refl _) _
  have k1 := Blk.new w 28 #[.int .i64 0, .int .i64 0, .int .i64 0, .int .i64 0, .int .i64 0, .int .i64 0, .slice none 0 0, .slice none 0 0, .slice none 0 0, .slice a n c]
  go_enter Try.func13, Try.ntmps13
  go_upto_region 1 with fail
  obtain ⟨w1, hw1⟩ : ∃ w1, w1 = w.alloc (.cells #[.int .i64 0, .int .i64 0, .int .i64 0, .int .i64 0, .int .i64 0, .int .i64 0, .slice none 0 0, .slice none 0 0, .slice none 0 0, .slice a n c] 28) := ⟨_, rfl⟩
  obtain ⟨gm, hgm⟩ : ∃ gm, gm = w.heap.size := ⟨_, rfl⟩
  rw [← hw1] at b1 k1 ⊢
  rw [← hgm] at k1 ⊢
  have H1 := Lib.hid (H.out.below b1)
  have B1 := Lib.hid b1
  have c6 : w1.cell? ⟨gm, 6, none⟩ = some (.slice none 0 0) := k1.cell 6
  have c7 : w1.cell? ⟨gm, 7, none⟩ = some (.slice none 0 0) := k1.cell 7
  have c8 : w1.cell? ⟨gm, 8, none⟩ = some (.slice none 0 0) := k1.cell 8
  have c9 : w1.cell? ⟨gm, 9, none⟩ = some (.slice a n c) := k1.cell 9
  have C0 : Hid (Certs w1 none 0 0 []) := Lib.hid (Certs.nil _ _ (Nat.zero_le _))
  clear hw1 hgm b1 k1
  by_cases h12 : 12 < n
  · obtain rfl := NOT.out (fun h => by have := h.n; omega)
    have j1 : decide ((12 : Int) < n) = true := decide_eq_true (by omega)
    have j1' : decide (12 < n) = true := decide_eq_true h12
    go_wp2_with fail
    refine (heavycerts_c none 0 0 [] _ C0.out false ⟨fun _ => ⟨by omega, by simp⟩, fun _ => rfl⟩).mono ?_; rintro e w' ⟨rfl, rfl⟩
    go_wp2_with fail
    go_ret
    exact ⟨rfl, B1.out⟩
  · have j1 : decide ((12 : Int) < n) = false := decide_eq_false (by omega)
    have j1' : decide (12 < n) = false := decide_eq_false h12
    go_wp2_with fail
    refine (heavycerts_c none 0 0 [] _ C0.out false ⟨fun _ => ⟨by omega, by simp⟩, fun _ => rfl⟩).mono ?_; rintro e w' ⟨rfl, rfl⟩
    go_wp2_with fail
    go_loopw [3] (fun i wr => ∃ k : Nat, k ≤ n ∧ i = .int .i64 k ∧ (∀ j x, j < k → ps[j]? = some x → x.vn ≤ 30 ∧ LightC x.cn x.cs) ∧ wr = w1) (fun i _ => n - (intOf i).toNat)
    case atStart => exact ⟨0, by omega, rfl, fun j x hj => absurd hj (by omega), rfl⟩
    case round =>
      obtain ⟨k, hk, rfl, hal, rfl⟩ := hrel
      by_cases hlt : k < n
      · obtain ⟨b, off, rfl, hbl, x, hx, hxI, x0, x1, x2, x3⟩ := H1.out.get hlt
        have BAD := Lib.hid (show ¬ (x.vn ≤ 30 ∧ LightC x.cn x.cs) → bb = true from fun hn => NOT.out fun h => hn (h.c x (List.mem_of_getElem? hx)))
        have GOOD := Lib.hid (show x.vn ≤ 30 ∧ LightC x.cn x.cs → ∀ j y, j < k + 1 → ps[j]? = some y → y.vn ≤ 30 ∧ LightC y.cn y.cs from fun hh j y hj hy => by
          rcases Nat.lt_or_ge j k with h | h
          · exact hal j y h hy
          · obtain rfl : j = k := by omega
            rw [hx] at hy
            cases hy
            exact hh)
        have m2 : x.vn ≤ maxLen := Nat.le_trans hxI.v.cap hxI.v.max
        unfold maxLen at m2
        have CI := Lib.hid hxI.c
        obtain ⟨⟨pf, pva, pvn, pvc, pvs, pca, pcn, pcc, pcs, pse⟩, hpe⟩ : ∃ q, q = x := ⟨_, rfl⟩
        rw [← hpe] at x1 x2 BAD GOOD m2 CI
        simp only at x1 x2 BAD GOOD m2 CI
        have i0 : (0 : Int) ≤ k := by omega
        have i1 : (k : Int) < n := by omega
        clear hal hx hxI hpe x0 x3
        by_cases h2 : 30 < pvn
        · obtain rfl := BAD.out (by omega)
          have j2 : decide ((30 : Int) < pvn) = true := decide_eq_true (by omega)
          have j2' : decide (30 < pvn) = true := decide_eq_true h2
          go_wp2_with fail
          go_ret
          exact ⟨rfl, B1.out⟩
        · have j2 : decide ((30 : Int) < pvn) = false := decide_eq_false (by omega)
          have j2' : decide (30 < pvn) = false := decide_eq_false h2
          by_cases h3 : LightC pcn pcs
          · have G := Lib.hid (GOOD.out ⟨by omega, h3⟩)
            have H3 := Lib.hid h3
            clear h3
            go_wp2_with fail
            refine (heavycerts_c pca pcn pcc pcs _ CI.out false ⟨fun _ => H3.out, fun _ => rfl⟩).mono ?_; rintro e w' ⟨rfl, rfl⟩
            go_wp2_with fail
            go_roundw
            case rel => exact ⟨k + 1, by omega, by go_num, G.out, by first | rfl | trivial⟩
            case measure => simp [intOf]; omega
          · obtain rfl := BAD.out (fun h => h3 h.2)
            have H3 := Lib.hid h3
            clear h3
            go_wp2_with fail
            refine (heavycerts_c pca pcn pcc pcs _ CI.out true ⟨(fun h => by cases h), fun h => absurd h H3.out⟩).mono ?_; rintro e w' ⟨rfl, rfl⟩
            go_wp2_with fail
            go_ret
            exact ⟨rfl, B1.out⟩
      · obtain rfl := YES.out ⟨by omega, fun x hx => by
          obtain ⟨j, hj, rfl⟩ := List.mem_iff_getElem.1 hx
          exact hal j _ (by have := H1.out.len; omega) (List.getElem?_eq_getElem hj)⟩
        clear hal
        go_wp2_with fail
        go_ret
        exact ⟨rfl, B1.out⟩
theorem Light.small {n : Nat} {ps : List PD} (h : Light n ps) : Small n ps :=
  ⟨Nat.le_trans h.n (by omega), fun p hp => Nat.le_trans (h.c p hp).2.n (by omega), fun p hp c hc => by have := (h.c p hp).2.c c hc; omega⟩
end Go.Proofs.Ytpkifmophmjilaa
