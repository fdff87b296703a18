/- Whole numbers as words of the double format: sums, comparisons and what they are as integers. Plain: no program. -/
import GoSem.Core.Float
namespace Go.Proofs.Ytfeepofdnjnkpaa.F
open Ieee

theorem log2_mul_pow (c e : Nat) (hc : c ≠ 0) : (c * 2 ^ e).log2 = c.log2 + e := by
  have h1 := Nat.log2_self_le hc
  have h2 := Nat.lt_log2_self (n := c)
  have hne : c * 2 ^ e ≠ 0 := Nat.mul_ne_zero hc (by simp)
  have hp : 0 < 2 ^ e := Nat.two_pow_pos e
  apply Nat.le_antisymm
  · have : (c * 2 ^ e).log2 < c.log2 + e + 1 := by
      rw [Nat.log2_lt hne]
      calc c * 2 ^ e < 2 ^ (c.log2 + 1) * 2 ^ e := Nat.mul_lt_mul_of_pos_right h2 hp
        _ = 2 ^ (c.log2 + e + 1) := by rw [← Nat.pow_add]; congr 1; omega
    omega
  · rw [Nat.le_log2 hne, Nat.pow_add]
    exact Nat.mul_le_mul_right _ h1

/-- The rung of a whole number c of less than 54 bits. -/
def rungOf (c : Nat) : Nat := (c.log2 + 1022) * 2 ^ 52 + c * 2 ^ (52 - c.log2)

theorem cut_exact (neg : Bool) (x drop : Nat) (hx : 2 ^ drop ≤ x * 2 ^ drop) : Toward.even.cut neg (x * 2 ^ drop) drop = x := by
  have hx0 : x ≠ 0 := by
    rintro rfl
    have := Nat.two_pow_pos drop
    omega
  have hl : drop ≤ (x * 2 ^ drop).log2 + 2 := by rw [log2_mul_pow x drop hx0]; omega
  have hp : 0 < 2 ^ drop := Nat.two_pow_pos drop
  unfold Toward.cut
  rw [Nat.min_eq_left hl, Nat.one_shiftLeft]
  simp only [Nat.mul_mod_left, Nat.mul_div_cancel _ hp, Nat.mul_zero]
  have h1 : ¬ (2 ^ drop < 0) := by omega
  have h2 : (2 ^ drop == 0) = false := by simp
  simp [h2]

theorem aux1 (l k T : Nat) (hL : l ≤ 52) (hk : k < 2 ^ 53) (hT : 2 ^ 53 ≤ 2 * T) : (l + 1022) * T + k ≤ 2047 * T := by
  have hA : (l + 1022) * T = l * T + 1022 * T := Nat.add_mul _ _ _
  have hlT : l * T ≤ 52 * T := Nat.mul_le_mul_right _ hL
  generalize 2 ^ 53 = M at *
  omega

theorem nearest_eq (neg : Bool) (c e : Nat) (hc : c ≠ 0) (h53 : c < 2 ^ 53) :
    double.nearest neg (c * 2 ^ e) (-(e : Int)) = double.word neg (rungOf c) := by
  have hL : c.log2 ≤ 52 := by
    have := (Nat.log2_lt hc (k := 53)).2 h53
    omega
  have h1 := Nat.log2_self_le hc
  have h2 := Nat.lt_log2_self (n := c)
  have hne : c * 2 ^ e ≠ 0 := Nat.mul_ne_zero hc (by have := Nat.two_pow_pos e; omega)
  unfold Format.nearest
  rw [if_neg hne, log2_mul_pow c e hc]
  have hlp : double.leastPlace = -1074 := by decide
  have hfb : (double.fractionBits : Int) = 52 := by decide
  have hb : double.binade = 2 ^ 52 := by decide
  have hir : double.infRung = 2047 * 2 ^ 52 := by decide
  rw [hlp, hfb, hb, hir]
  have hlast : max (-(e : Int) + ((c.log2 + e : Nat) : Int) - 52) (-1074) = (c.log2 : Int) - 52 := by
    rw [Int.max_def]
    split <;> omega
  rw [hlast]
  have hkept : Toward.even.cut neg ((c * 2 ^ e) <<< (-(e : Int) - ((c.log2 : Int) - 52)).toNat) (((c.log2 : Int) - 52) - -(e : Int)).toNat = c * 2 ^ (52 - c.log2) := by
    rcases Nat.le_total e (52 - c.log2) with h | h
    · have e1 : (-(e : Int) - ((c.log2 : Int) - 52)).toNat = 52 - c.log2 - e := by omega
      have e2 : (((c.log2 : Int) - 52) - -(e : Int)).toNat = 0 := by omega
      rw [e1, e2, Nat.shiftLeft_eq]
      have e3 : c * 2 ^ e * 2 ^ (52 - c.log2 - e) = c * 2 ^ (52 - c.log2) * 2 ^ 0 := by
        rw [Nat.mul_assoc, ← Nat.pow_add]
        simp only [Nat.pow_zero, Nat.mul_one]
        congr 2
        omega
      rw [e3]
      apply cut_exact
      have : 0 < c * 2 ^ (52 - c.log2) := Nat.mul_pos (by omega) (Nat.two_pow_pos _)
      rw [Nat.pow_zero, Nat.mul_one]
      exact this
    · have e1 : (-(e : Int) - ((c.log2 : Int) - 52)).toNat = 0 := by omega
      have e2 : (((c.log2 : Int) - 52) - -(e : Int)).toNat = e - (52 - c.log2) := by omega
      rw [e1, e2, Nat.shiftLeft_eq, Nat.pow_zero, Nat.mul_one]
      have e3 : c * 2 ^ e = c * 2 ^ (52 - c.log2) * 2 ^ (e - (52 - c.log2)) := by
        rw [Nat.mul_assoc, ← Nat.pow_add]
        congr 2
        omega
      rw [e3]
      apply cut_exact
      have : 0 < c * 2 ^ (52 - c.log2) := Nat.mul_pos (by omega) (Nat.two_pow_pos _)
      exact Nat.le_mul_of_pos_left _ this
  simp only []
  rw [hkept]
  have hk2 : c * 2 ^ (52 - c.log2) < 2 ^ 53 := by
    calc c * 2 ^ (52 - c.log2) < 2 ^ (c.log2 + 1) * 2 ^ (52 - c.log2) := Nat.mul_lt_mul_of_pos_right h2 (Nat.two_pow_pos _)
      _ = 2 ^ 53 := by rw [← Nat.pow_add]; congr 1; omega
  have e4 : ((c.log2 : Int) - 52 - -1074).toNat = c.log2 + 1022 := by omega
  rw [e4, Nat.min_eq_left]
  · rfl
  · exact aux1 _ _ _ hL hk2 (by decide)

theorem read_word (f : Format) (T : Nat) (hp : 0 < T) (hsw : f.signWeight = 2048 * T) (hb : f.binade = T) (hir : f.infRung = 2047 * T) (hlp : f.leastPlace = -1074) (neg : Bool) (l k : Nat) (hL : l ≤ 52) (hlo : T ≤ k) (hhi : k < 2 * T) :
    f.read (f.word neg ((l + 1022) * T + k)) = .number neg k ((l : Int) - 52) := by
  unfold Format.read Format.word
  rw [hsw, hb, hir, hlp]
  have hA : (l + 1022) * T = l * T + 1022 * T := Nat.add_mul _ _ _
  have hlT : l * T ≤ 52 * T := Nat.mul_le_mul_right _ hL
  have hr : (l + 1022) * T + k < 2047 * T := by omega
  obtain ⟨r, hr2⟩ : ∃ r, r = (l + 1022) * T + k := ⟨_, rfl⟩
  have hn : (if neg then 2048 * T + r else r) / (2048 * T) % 2 = (if neg then 1 else 0) ∧ (if neg then 2048 * T + r else r) % (2048 * T) = r := by
    have hd : r < 2048 * T := by omega
    have h2048 : 0 < 2048 * T := by omega
    cases neg
    · simp only [Bool.false_eq_true, if_false]
      rw [Nat.div_eq_of_lt hd, Nat.mod_eq_of_lt hd]
      exact ⟨rfl, rfl⟩
    · simp only [if_true]
      rw [Nat.add_div_left _ h2048, Nat.div_eq_of_lt hd, Nat.add_mod_left, Nat.mod_eq_of_lt hd]
      exact ⟨rfl, rfl⟩
  rw [← hr2]
  simp only [hn.1, hn.2]
  have c1 : ¬ (r < T) := by omega
  rw [if_neg c1, if_pos (by omega)]
  obtain ⟨j, hj⟩ : ∃ j, k = T + j := ⟨k - T, by omega⟩
  have hjT : j < T := by omega
  have e5 : r = j + (l + 1023) * T := by
    have : (l + 1023) * T = l * T + 1023 * T := Nat.add_mul _ _ _
    omega
  have d1 : r / T = l + 1023 := by rw [e5, Nat.add_mul_div_right _ _ hp, Nat.div_eq_of_lt hjT, Nat.zero_add]
  have d2 : r % T = j := by rw [e5, Nat.add_mul_mod_self_right, Nat.mod_eq_of_lt hjT]
  rw [d1, d2, ← hj]
  have a1 : (((if neg then 1 else 0 : Nat)) == 1) = neg := by cases neg <;> rfl
  have a2 : (-1074 + ((l + 1023 - 1 : Nat) : Int)) = (l : Int) - 52 := by omega
  rw [a1, a2]

theorem read_rung_aux (neg : Bool) (c : Nat) (hlo : double.binade ≤ c * 2 ^ (52 - c.log2)) (hhi : c * 2 ^ (52 - c.log2) < 2 * double.binade) (hL : c.log2 ≤ 52) :
    double.read (double.word neg ((c.log2 + 1022) * double.binade + c * 2 ^ (52 - c.log2))) = .number neg (c * 2 ^ (52 - c.log2)) ((c.log2 : Int) - 52) :=
  read_word double double.binade (by decide) (by decide) rfl (by decide) (by decide) neg _ _ hL hlo hhi

theorem read_rung (neg : Bool) (c : Nat) (hc : c ≠ 0) (h53 : c < 2 ^ 53) : double.read (double.word neg (rungOf c)) = .number neg (c * 2 ^ (52 - c.log2)) ((c.log2 : Int) - 52) := by
  have hL : c.log2 ≤ 52 := by
    have := (Nat.log2_lt hc (k := 53)).2 h53
    omega
  have h1 := Nat.log2_self_le hc
  have h2 := Nat.lt_log2_self (n := c)
  have hlo : 2 ^ 52 ≤ c * 2 ^ (52 - c.log2) := by
    calc 2 ^ 52 = 2 ^ c.log2 * 2 ^ (52 - c.log2) := by rw [← Nat.pow_add]; congr 1; omega
      _ ≤ c * 2 ^ (52 - c.log2) := Nat.mul_le_mul_right _ h1
  have hhi : c * 2 ^ (52 - c.log2) < 2 * 2 ^ 52 := by
    have e : 2 ^ (c.log2 + 1) * 2 ^ (52 - c.log2) = 2 * 2 ^ 52 := by
      rw [← Nat.pow_add, show c.log2 + 1 + (52 - c.log2) = 52 + 1 from by omega, Nat.pow_succ 2 52, Nat.mul_comm]
    rw [← e]
    exact Nat.mul_lt_mul_of_pos_right h2 (Nat.two_pow_pos _)
  exact read_rung_aux neg c hlo hhi hL

/-- The datum stands for the whole number n. -/
def Rep (d : Datum) (n : Int) : Prop := ∃ (m e : Nat), e ≤ 1100 ∧ d = .number (decide (n < 0)) m (-(e : Int)) ∧ m = n.natAbs * 2 ^ e

/-- The word of a whole number. -/
def fw (n : Int) : Nat := double.write (.number (n < 0) n.natAbs 0)
theorem fw_zero : fw 0 = 0 := by decide
theorem fw_eq {n : Int} (h0 : n ≠ 0) (h : n.natAbs < 2 ^ 53) : fw n = double.word (decide (n < 0)) (rungOf n.natAbs) := by
  have := nearest_eq (decide (n < 0)) n.natAbs 0 (by omega) h
  simp only [Nat.pow_zero, Nat.mul_one] at this
  exact this
theorem read_fw {n : Int} (h : n.natAbs < 2 ^ 53) : Rep (double.read (fw n)) n := by
  by_cases h0 : n = 0
  · subst h0
    have hz : ∀ e : Nat, (0 : Nat) = (0 : Int).natAbs * 2 ^ e := fun e => by rw [Int.natAbs_zero, Nat.zero_mul]
    exact ⟨0, 1074, by omega, by decide, hz 1074⟩
  · rw [fw_eq h0 h, read_rung _ _ (by omega) h]
    have hL : n.natAbs.log2 ≤ 52 := by
      have := (Nat.log2_lt (n := n.natAbs) (by omega) (k := 53)).2 h
      omega
    exact ⟨_, 52 - n.natAbs.log2, by omega, by congr 1; omega, rfl⟩
theorem write_rep {d : Datum} {n : Int} (hd : Rep d n) (h : n.natAbs < 2 ^ 53) : double.write d = fw n := by
  obtain ⟨m, e, he, rfl, rfl⟩ := hd
  by_cases h0 : n = 0
  · subst h0
    simp [Format.write, Format.nearest, fw]
  · rw [fw_eq h0 h]
    exact nearest_eq _ _ e (by omega) h
theorem signed_rep (n : Int) (e up : Nat) : signed (decide (n < 0)) (n.natAbs * 2 ^ e) up = n * 2 ^ (e + up) := by
  have h1 : ((n.natAbs * 2 ^ e) <<< up : Nat) = n.natAbs * 2 ^ (e + up) := by rw [Nat.shiftLeft_eq, Nat.mul_assoc, ← Nat.pow_add]
  unfold signed
  rw [h1]
  have h2 : ((n.natAbs * 2 ^ (e + up) : Nat) : Int) = (n.natAbs : Int) * 2 ^ (e + up) := by simp
  rw [h2]
  by_cases hn : n < 0
  · simp only [hn, decide_true, if_true]
    rw [← Int.neg_mul]
    congr 1
    omega
  · simp only [hn, decide_false, Bool.false_eq_true, if_false]
    congr 1
    omega
theorem sum_rep {c d : Datum} {a b : Int} (hc : Rep c a) (hd : Rep d b) : ∃ s, c.sum d = some s ∧ Rep s (a + b) := by
  obtain ⟨m, e, he, rfl, rfl⟩ := hc
  obtain ⟨m', e', he', rfl, rfl⟩ := hd
  unfold Datum.sum
  simp only [Option.some.injEq, exists_eq_left']
  obtain ⟨x, hx⟩ : ∃ x : Nat, x = max e e' := ⟨_, rfl⟩
  have hmin : min (-(e : Int)) (-(e' : Int)) = -(x : Int) := by omega
  rw [hmin, signed_rep, signed_rep]
  have h1 : e + (-(e : Int) - -(x : Int)).toNat = x := by omega
  have h2 : e' + (-(e' : Int) - -(x : Int)).toNat = x := by omega
  rw [h1, h2, ← Int.add_mul]
  have hp : (0 : Int) < 2 ^ x := Int.pow_pos (by omega)
  refine ⟨((a + b) * 2 ^ x).natAbs, x, by omega, ?_, ?_⟩
  · congr 1
    by_cases h0 : a + b = 0
    · rw [h0]
      simp only [Int.zero_mul, if_true, Int.lt_irrefl, decide_false]
      by_cases ha : a < 0
      · have : ¬ b < 0 := by omega
        simp [this]
      · simp [ha]
    · have hne : (a + b) * 2 ^ x ≠ 0 := Int.mul_ne_zero h0 (by omega)
      rw [if_neg hne]
      congr 1
      apply propext
      constructor
      · intro h
        exact Int.lt_of_not_ge fun hge => by
          have := Int.mul_nonneg hge (Int.le_of_lt hp)
          omega
      · intro h
        exact Int.mul_neg_of_neg_of_pos h hp
  · rw [Int.natAbs_mul]
    congr 1
theorem add_fw {a b : Int} (ha : a.natAbs < 2 ^ 53) (hb : b.natAbs < 2 ^ 53) (hab : (a + b).natAbs < 2 ^ 53) : double.add (fw a) (fw b) = some (fw (a + b)) := by
  obtain ⟨s, hs, hr⟩ := sum_rep (read_fw ha) (read_fw hb)
  unfold Format.add
  rw [hs, Option.map_some, write_rep hr hab]
theorem toInt_fw {a : Int} (ha : a.natAbs < 2 ^ 53) : (double.read (fw a)).toInt .zero = some a := by
  obtain ⟨m, e, he, h, rfl⟩ := read_fw ha
  rw [h]
  unfold Datum.toInt Datum.integral
  have h1 : (-(e : Int)).toNat = 0 := by omega
  have h2 : (- -(e : Int)).toNat = e := by omega
  simp only [h1, h2, Nat.shiftLeft_zero]
  have hcut : Toward.zero.cut (decide (a < 0)) (a.natAbs * 2 ^ e) e = a.natAbs := by
    by_cases h0 : a.natAbs = 0
    · rw [h0]
      simp [Toward.cut]
    · have hl : e ≤ (a.natAbs * 2 ^ e).log2 + 2 := by rw [log2_mul_pow _ e h0]; omega
      unfold Toward.cut
      rw [Nat.min_eq_left hl, Nat.one_shiftLeft]
      simp [Nat.mul_div_cancel _ (Nat.two_pow_pos e)]
  rw [hcut]
  unfold signed
  simp only [Nat.shiftLeft_zero]
  by_cases hn : a < 0
  · simp only [hn, decide_true, if_true]
    congr 1
    omega
  · simp only [hn, decide_false, Bool.false_eq_true, if_false]
    congr 1
    omega
theorem order_fw {a b : Int} (ha : a.natAbs < 2 ^ 53) (hb : b.natAbs < 2 ^ 53) : double.order (fw a) (fw b) = some (compare a b) := by
  obtain ⟨m, e, he, h, rfl⟩ := read_fw ha
  obtain ⟨m', e', he', h', rfl⟩ := read_fw hb
  unfold Format.order
  rw [h, h']
  unfold Datum.order
  simp only
  obtain ⟨x, hx⟩ : ∃ x : Nat, x = max e e' := ⟨_, rfl⟩
  have hmin : min (-(e : Int)) (-(e' : Int)) = -(x : Int) := by omega
  rw [hmin, signed_rep, signed_rep]
  have h1 : e + (-(e : Int) - -(x : Int)).toNat = x := by omega
  have h2 : e' + (-(e' : Int) - -(x : Int)).toNat = x := by omega
  rw [h1, h2]
  have hp : (0 : Int) < 2 ^ x := Int.pow_pos (by omega)
  congr 1
  rcases Int.lt_trichotomy a b with hlt | heq | hgt
  · have := Int.mul_lt_mul_of_pos_right hlt hp
    simp [compare, compareOfLessAndEq, hlt, this]
  · subst heq
    simp [compare, compareOfLessAndEq]
  · have := Int.mul_lt_mul_of_pos_right hgt hp
    have n1 : ¬ a < b := by omega
    have n2 : ¬ a * 2 ^ x < b * 2 ^ x := by omega
    have n3 : a ≠ b := by omega
    have n4 : a * 2 ^ x ≠ b * 2 ^ x := by omega
    simp [compare, compareOfLessAndEq, n1, n2, n3, n4]
theorem nearest_fw (n : Int) : Go.FloatKind.f64.nearest n = fw n := rfl
end Go.Proofs.Ytfeepofdnjnkpaa.F
