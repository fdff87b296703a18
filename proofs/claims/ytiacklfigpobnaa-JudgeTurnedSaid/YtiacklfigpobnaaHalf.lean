/- Halves of whole numbers as words of the double format: a whole number divided by two, and the difference of two halves that is whole. Plain: no program. -/
import Derived.Test.YtiacklfigpobnaaFloat
namespace Go.Proofs.Ytiacklfigpobnaa.F
open Ieee

/-- The rung of half of c. -/
def rungHalf (c : Nat) : Nat := (c.log2 + 1021) * 2 ^ 52 + c * 2 ^ (52 - c.log2)

theorem nearest_half (neg : Bool) (c e : Nat) (hc : c ≠ 0) (h53 : c < 2 ^ 53) :
    double.nearest neg (c * 2 ^ e) (-(e : Int) - 1) = double.word neg (rungHalf c) := by
  have hL : c.log2 ≤ 52 := by
    have := (Nat.log2_lt hc (k := 53)).2 h53
    omega
  have h1 := Nat.log2_self_le hc
  have h2 := Nat.lt_log2_self (n := c)
  have hne : c * 2 ^ e ≠ 0 := Nat.mul_ne_zero hc (by have := Nat.two_pow_pos e; omega)
  unfold Format.nearest
  rw [if_neg hne, log2_mul_pow c e hc]
  have hlp : double.leastPlace = -1074 := by decide
  have hfb : (double.fractionBits : Int) = 52 := by decide
  have hb : double.binade = 2 ^ 52 := by decide
  have hir : double.infRung = 2047 * 2 ^ 52 := by decide
  rw [hlp, hfb, hb, hir]
  have hlast : max (-(e : Int) - 1 + ((c.log2 + e : Nat) : Int) - 52) (-1074) = (c.log2 : Int) - 53 := by
    rw [Int.max_def]
    split <;> omega
  rw [hlast]
  have hkept : Toward.even.cut neg ((c * 2 ^ e) <<< (-(e : Int) - 1 - ((c.log2 : Int) - 53)).toNat) (((c.log2 : Int) - 53) - (-(e : Int) - 1)).toNat = c * 2 ^ (52 - c.log2) := by
    rcases Nat.le_total e (52 - c.log2) with h | h
    · have e1 : (-(e : Int) - 1 - ((c.log2 : Int) - 53)).toNat = 52 - c.log2 - e := by omega
      have e2 : (((c.log2 : Int) - 53) - (-(e : Int) - 1)).toNat = 0 := by omega
      rw [e1, e2, Nat.shiftLeft_eq]
      have e3 : c * 2 ^ e * 2 ^ (52 - c.log2 - e) = c * 2 ^ (52 - c.log2) * 2 ^ 0 := by
        rw [Nat.mul_assoc, ← Nat.pow_add]
        simp only [Nat.pow_zero, Nat.mul_one]
        congr 2
        omega
      rw [e3]
      apply cut_exact
      have : 0 < c * 2 ^ (52 - c.log2) := Nat.mul_pos (by omega) (Nat.two_pow_pos _)
      rw [Nat.pow_zero, Nat.mul_one]
      exact this
    · have e1 : (-(e : Int) - 1 - ((c.log2 : Int) - 53)).toNat = 0 := by omega
      have e2 : (((c.log2 : Int) - 53) - (-(e : Int) - 1)).toNat = e - (52 - c.log2) := by omega
      rw [e1, e2, Nat.shiftLeft_eq, Nat.pow_zero, Nat.mul_one]
      have e3 : c * 2 ^ e = c * 2 ^ (52 - c.log2) * 2 ^ (e - (52 - c.log2)) := by
        rw [Nat.mul_assoc, ← Nat.pow_add]
        congr 2
        omega
      rw [e3]
      apply cut_exact
      have : 0 < c * 2 ^ (52 - c.log2) := Nat.mul_pos (by omega) (Nat.two_pow_pos _)
      exact Nat.le_mul_of_pos_left _ this
  simp only []
  rw [hkept]
  have hk2 : c * 2 ^ (52 - c.log2) < 2 ^ 53 := by
    calc c * 2 ^ (52 - c.log2) < 2 ^ (c.log2 + 1) * 2 ^ (52 - c.log2) := Nat.mul_lt_mul_of_pos_right h2 (Nat.two_pow_pos _)
      _ = 2 ^ 53 := by rw [← Nat.pow_add]; congr 1; omega
  have e4 : ((c.log2 : Int) - 53 - -1074).toNat = c.log2 + 1021 := by omega
  rw [e4, Nat.min_eq_left]
  · rfl
  · have hA : (c.log2 + 1022) * 2 ^ 52 = (c.log2 + 1021) * 2 ^ 52 + 1 * 2 ^ 52 := by rw [← Nat.add_mul]
    have := aux1 c.log2 _ (2 ^ 52) hL hk2 (by decide)
    rw [hA] at this
    exact Nat.le_trans (Nat.add_le_add_right (Nat.le_add_right _ _) _) this

theorem read_word_half (f : Format) (T : Nat) (hp : 0 < T) (hsw : f.signWeight = 2048 * T) (hb : f.binade = T) (hir : f.infRung = 2047 * T) (hlp : f.leastPlace = -1074) (l k : Nat) (hL : l ≤ 52) (hlo : T ≤ k) (hhi : k < 2 * T) :
    f.read (f.word false ((l + 1021) * T + k)) = .number false k ((l : Int) - 53) := by
  unfold Format.read Format.word
  rw [hsw, hb, hir, hlp]
  have hA : (l + 1021) * T = l * T + 1021 * T := Nat.add_mul _ _ _
  have hlT : l * T ≤ 52 * T := Nat.mul_le_mul_right _ hL
  have hr : (l + 1021) * T + k < 2047 * T := by omega
  obtain ⟨r, hr2⟩ : ∃ r, r = (l + 1021) * T + k := ⟨_, rfl⟩
  have hn : (if false then 2048 * T + r else r) / (2048 * T) % 2 = 0 ∧ (if false then 2048 * T + r else r) % (2048 * T) = r := by
    have hd : r < 2048 * T := by omega
    simp only [Bool.false_eq_true, if_false]
    rw [Nat.div_eq_of_lt hd, Nat.mod_eq_of_lt hd]
    exact ⟨rfl, rfl⟩
  rw [← hr2]
  simp only [hn.1, hn.2]
  have c1 : ¬ (r < T) := by omega
  rw [if_neg c1, if_pos (by omega)]
  obtain ⟨j, hj⟩ : ∃ j, k = T + j := ⟨k - T, by omega⟩
  have hjT : j < T := by omega
  have e5 : r = j + (l + 1022) * T := by
    have : (l + 1022) * T = l * T + 1022 * T := Nat.add_mul _ _ _
    omega
  have d1 : r / T = l + 1022 := by rw [e5, Nat.add_mul_div_right _ _ hp, Nat.div_eq_of_lt hjT, Nat.zero_add]
  have d2 : r % T = j := by rw [e5, Nat.add_mul_mod_self_right, Nat.mod_eq_of_lt hjT]
  rw [d1, d2, ← hj]
  have a1 : ((0 : Nat) == 1) = false := rfl
  have a2 : (-1074 + ((l + 1022 - 1 : Nat) : Int)) = (l : Int) - 53 := by omega
  rw [a1, a2]

/-- The word of half of a whole number. -/
def hw (n : Nat) : Nat := double.write (.number false n (-1))
theorem hw_eq {n : Nat} (h0 : n ≠ 0) (h : n < 2 ^ 53) : hw n = double.word false (rungHalf n) := by
  have := nearest_half false n 0 h0 h
  simp only [Nat.pow_zero, Nat.mul_one] at this
  exact this
theorem read_hw_aux (c : Nat) (hlo : double.binade ≤ c * 2 ^ (52 - c.log2)) (hhi : c * 2 ^ (52 - c.log2) < 2 * double.binade) (hL : c.log2 ≤ 52) :
    double.read (double.word false ((c.log2 + 1021) * double.binade + c * 2 ^ (52 - c.log2))) = .number false (c * 2 ^ (52 - c.log2)) ((c.log2 : Int) - 53) :=
  read_word_half double double.binade (by decide) (by decide) rfl (by decide) (by decide) _ _ hL hlo hhi
theorem read_hw {n : Nat} (h : n < 2 ^ 53) : ∃ e : Nat, double.read (hw n) = .number false (n * 2 ^ e) (-(e : Int) - 1) := by
  by_cases h0 : n = 0
  · subst h0
    have hz : ∀ e : Nat, (0 : Nat) * 2 ^ e = 0 := fun e => Nat.zero_mul _
    have h1 : double.read (hw 0) = .number false 0 (-((1073 : Nat) : Int) - 1) := by decide
    obtain ⟨x, hx⟩ : ∃ x : Nat, x = 1073 := ⟨_, rfl⟩
    rw [← hx] at h1
    exact ⟨x, by rw [hz x]; exact h1⟩
  · rw [hw_eq h0 h]
    have hL : n.log2 ≤ 52 := by
      have := (Nat.log2_lt h0 (k := 53)).2 h
      omega
    have h1 := Nat.log2_self_le h0
    have h2 := Nat.lt_log2_self (n := n)
    have hlo : 2 ^ 52 ≤ n * 2 ^ (52 - n.log2) := by
      calc 2 ^ 52 = 2 ^ n.log2 * 2 ^ (52 - n.log2) := by rw [← Nat.pow_add]; congr 1; omega
        _ ≤ n * 2 ^ (52 - n.log2) := Nat.mul_le_mul_right _ h1
    have hhi : n * 2 ^ (52 - n.log2) < 2 * 2 ^ 52 := by
      have e : 2 ^ (n.log2 + 1) * 2 ^ (52 - n.log2) = 2 * 2 ^ 52 := by
        rw [← Nat.pow_add, show n.log2 + 1 + (52 - n.log2) = 52 + 1 from by omega, Nat.pow_succ 2 52, Nat.mul_comm]
      rw [← e]
      exact Nat.mul_lt_mul_of_pos_right h2 (Nat.two_pow_pos _)
    exact ⟨52 - n.log2, by
      have := read_hw_aux n hlo hhi hL
      refine Eq.trans this ?_
      congr 1
      omega⟩

theorem div_two {n : Nat} (h : n < 2 ^ 53) : double.div (fw n) (fw 2) = some (hw n) := by
  unfold Format.div
  have h2 : double.read (fw 2) = .number false (2 ^ 52) (-51) := by decide
  rw [h2]
  have hfb : double.fractionBits = 52 := by decide
  rw [hfb]
  by_cases h0 : n = 0
  · subst h0
    decide
  · have hr : double.read (fw (n : Int)) = .number false (n * 2 ^ (52 - n.log2)) ((n.log2 : Int) - 52) := by
      have hz : ((n : Int) ≠ 0) := by omega
      have hna : (n : Int).natAbs = n := by omega
      rw [fw_eq hz (by rw [hna]; exact h), hna, read_rung _ _ h0 h]
      congr 1
    rw [hr]
    have hL : n.log2 ≤ 52 := by
      have := (Nat.log2_lt h0 (k := 53)).2 h
      omega
    unfold Datum.quotient
    have hl : (n * 2 ^ (52 - n.log2)).log2 = 52 := by rw [log2_mul_pow _ _ h0]; omega
    have hl2 : (2 ^ 52 : Nat).log2 = 52 := by decide
    have hq : ((2 ^ 52 : Nat) = 0) = False := by simp
    simp only [hq, if_false, hl, hl2, Option.map_some, Option.some.injEq]
    have hm : 52 + 2 + 52 - 52 = 54 := rfl
    rw [hm, Nat.shiftLeft_eq]
    have e1 : n * 2 ^ (52 - n.log2) * 2 ^ 54 = n * 2 ^ (54 - n.log2) * 2 ^ 52 := by
      rw [Nat.mul_assoc, Nat.mul_assoc, ← Nat.pow_add, ← Nat.pow_add]
      congr 2
      omega
    rw [e1, Nat.mul_div_cancel _ (Nat.two_pow_pos 52), Nat.mul_mod_left]
    have e2 : 2 * (n * 2 ^ (54 - n.log2)) + (0 != 0 : Bool).toNat = n * 2 ^ (55 - n.log2) := by
      have : 55 - n.log2 = 54 - n.log2 + 1 := by omega
      rw [this, Nat.pow_succ]
      simp [Nat.mul_comm, Nat.mul_left_comm]
    rw [e2]
    have e3 : ((n.log2 : Int) - 52 - -51 - ((54 : Nat) : Int) - 1) = -((55 - n.log2 : Nat) : Int) - 1 := by omega
    rw [e3]
    have := nearest_half false n (55 - n.log2) h0 h
    rw [hw_eq h0 h]
    exact this

/-- n/2 less (n mod 2)/2 is the whole number. -/
theorem sub_half {a b c : Nat} (ha : a < 2 ^ 53) (hb : b < 2 ^ 53) (hc : a = b + 2 * c) : double.sub (hw a) (hw b) = some (fw c) := by
  obtain ⟨e, he⟩ := read_hw ha
  obtain ⟨e', he'⟩ := read_hw hb
  unfold Format.sub
  rw [he, he']
  unfold Datum.opposite Datum.sum
  simp only [Bool.not_false, Option.map_some, Option.some.injEq]
  obtain ⟨x, hx⟩ : ∃ x : Nat, x = max e e' := ⟨_, rfl⟩
  have hmin : min (-(e : Int) - 1) (-(e' : Int) - 1) = -(x : Int) - 1 := by omega
  rw [hmin]
  have h1 : (-(e : Int) - 1 - (-(x : Int) - 1)).toNat = x - e := by omega
  have h2 : (-(e' : Int) - 1 - (-(x : Int) - 1)).toNat = x - e' := by omega
  rw [h1, h2]
  unfold signed
  simp only [Bool.false_eq_true, if_false, if_true]
  have s1 : (a * 2 ^ e) <<< (x - e) = a * 2 ^ x := by rw [Nat.shiftLeft_eq, Nat.mul_assoc, ← Nat.pow_add]; congr 2; omega
  have s2 : (b * 2 ^ e') <<< (x - e') = b * 2 ^ x := by rw [Nat.shiftLeft_eq, Nat.mul_assoc, ← Nat.pow_add]; congr 2; omega
  rw [s1, s2]
  have s3 : ((a * 2 ^ x : Nat) : Int) + -((b * 2 ^ x : Nat) : Int) = ((c * 2 ^ (x + 1) : Nat) : Int) := by
    have : a * 2 ^ x = b * 2 ^ x + c * 2 ^ (x + 1) := by rw [hc, Nat.add_mul, Nat.pow_succ]; congr 1; rw [Nat.mul_comm 2 c, Nat.mul_assoc, Nat.mul_comm 2]
    omega
  rw [s3]
  have hcc : c < 2 ^ 53 := by omega
  by_cases h0 : c = 0
  · subst h0
    simp [Format.write, Format.nearest, fw]
  · have hne : ((c * 2 ^ (x + 1) : Nat) : Int) ≠ 0 := by
      have : 0 < c * 2 ^ (x + 1) := Nat.mul_pos (by omega) (Nat.two_pow_pos _)
      omega
    rw [if_neg hne, Int.natAbs_natCast]
    have hneg : decide (((c * 2 ^ (x + 1) : Nat) : Int) < 0) = false := by
      apply decide_eq_false
      omega
    rw [hneg]
    have hz : ((c : Int) ≠ 0) := by omega
    have hna : (c : Int).natAbs = c := by omega
    rw [fw_eq hz (by rw [hna]; exact hcc), hna]
    have e3 : (-(x : Int) - 1) = -((x + 1 : Nat) : Int) := by omega
    rw [e3]
    have := nearest_eq false c (x + 1) h0 hcc
    refine Eq.trans this ?_
    congr 1
end Go.Proofs.Ytiacklfigpobnaa.F
