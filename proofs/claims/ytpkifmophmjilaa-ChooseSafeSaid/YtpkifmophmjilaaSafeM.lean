/- ChooseSafe: the small functions, and what lies in memory. -/
import Derived.Test.YtpkifmophmjilaaSafeP
import Derived.Test.YtpkifmophmjilaaChooseO
import Derived.Test.YtpkifmophmjilaaChooseV
import Derived.Test.YtpkifmophmjilaaKeep
import Derived.Test.YtpkifmophmjilaaSame1
namespace Go.Proofs.Ytpkifmophmjilaa
open Go.RowKit
set_option linter.unusedVariables false

theorem at_c (a : Option Addr) (n c : Nat) (xs : List Int) (k : Int) (w : World) (hr : IntRow w a n xs) (hm : n ≤ maxLen) (hx : ∀ x ∈ xs, I64 x) (hk : 0 ≤ k ∧ k ≤ 100000) :
    Calls Try.prog 22 #[.slice a n c, .int .i64 k] w fun e w' => ∃ v, e = .returned (.int .i64 v) ∧ I64 v ∧ w = w' := by
  unfold maxLen at hm
  by_cases h0 : n = 0
  · subst h0
    go_enter Try.func22, Try.ntmps22
    go_wp2
    go_ret
    exact ⟨0, rfl, I64.zero, rfl⟩
  · obtain ⟨b, off, rfl, hbl, hcell⟩ := hr.2 (by omega)
    have t0 : (0 : Int) ≤ k.tmod n := by rw [Int.tmod_eq_emod_of_nonneg hk.1]; exact Int.emod_nonneg _ (by omega)
    have t1 : k.tmod n < n := Int.tmod_lt_of_pos k (by omega)
    obtain ⟨j, hj⟩ : ∃ j : Nat, k.tmod n = (j : Int) := ⟨(k.tmod n).toNat, by omega⟩
    have hjn : j < n := by omega
    have x0 : w.cell? ⟨b, off + j, none⟩ = some (.int .i64 (xs.getD j 0)) := hcell j hjn
    have y0 : I64 (xs.getD j 0) := by
      rw [List.getD_eq_getElem?_getD]
      by_cases hj : j < xs.length
      · rw [List.getElem?_eq_getElem hj]; exact hx _ (List.getElem_mem hj)
      · rw [List.getElem?_eq_none (by omega)]; exact I64.zero
    obtain ⟨x, hx'⟩ : ∃ x, x = xs.getD j 0 := ⟨_, rfl⟩
    rw [← hx'] at x0 y0
    have Y := Lib.hid y0
    have n0 : ((n : Int) == 0) = false := beq_eq_false_iff_ne.2 (by omega)
    have n1 : ¬ (n : Int) = 0 := by omega
    have j0 : (0 : Int) ≤ j := by omega
    have j1 : (j : Int) < n := by omega
    have k1 := hk.1
    have k2 := hk.2
    clear hx' hx hcell hr hk y0 t0 t1
    go_enter Try.func22, Try.ntmps22
    go_wp2
    go_ret
    exact ⟨x, rfl, Y.out, rfl⟩
theorem batch_c (k : Int) (w : World) (hk : I64 k) :
    Calls Try.prog 24 #[.int .i64 k] w fun e w' => ∃ b : BD, e = .returned (bval b) ∧ b.n = 1 ∧ BOwn w' b ∧ Below w.heap.size w w' := by
  go_enter Try.func24, Try.ntmps24
  go_wp2_with fail
  refine (within_q k 3 _ hk (by omega) (by omega)).mono ?_; rintro e w' ⟨q, rfl, _, q0, q1, rfl⟩
  go_wp2_with fail
  go_ret
  exact ⟨⟨some ⟨w.heap.size, 0, none⟩, 1, 1, oneT (1 + q)⟩, rfl, rfl, ⟨rq_of_blk (l := oneT (1 + q)) (n := 1) (Blk.new w 40 #[.int .i64 0, .int .i64 (1 + q), .int .i64 0, .int .i64 0, .int .i64 0, .int .i64 0]) rfl (by simp [maxLen]), fun p hp _ => by
    cases hp
    exact ⟨_, Blk.new _ _ _⟩⟩, (Below.refl _ _).alloc (Nat.le_refl _) _⟩
theorem nodes_c (f n : Nat) (w : World) (h : 1 ≤ f ∧ f ≤ 3) (hn : 3 * f + 1 = n) :
    Calls Try.prog 20 #[.int .i64 f] w fun e w' => e = .returned (.int .i64 n) ∧ w = w' := by
  obtain ⟨h1, h2⟩ := h
  have e1 : IntKind.i64.wrap (3 * (f : Int) + 1) = n := by rw [IntWalk.i64_in _ (by omega)]; omega
  have i1 : ¬ (f : Int) < 1 := by omega
  have i2 : ¬ (4 : Int) < f := by omega
  clear hn
  go_enter Try.func20, Try.ntmps20
  go_wp2
  go_ret
  exact ⟨rfl, rfl⟩
theorem quorum_c (f q : Nat) (w : World) (h : 1 ≤ f ∧ f ≤ 3) (hq : 2 * f + 1 = q) :
    Calls Try.prog 21 #[.int .i64 f] w fun e w' => e = .returned (.int .i64 q) ∧ w = w' := by
  obtain ⟨h1, h2⟩ := h
  have e1 : IntKind.i64.wrap (2 * (f : Int) + 1) = q := by rw [IntWalk.i64_in _ (by omega)]; omega
  have i1 : ¬ (f : Int) < 1 := by omega
  have i2 : ¬ (4 : Int) < f := by omega
  clear hq
  go_enter Try.func21, Try.ntmps21
  go_wp2
  go_ret
  exact ⟨rfl, rfl⟩

theorem cnt_mono (p : Nat → Bool) (lo : Nat) : ∀ {i n : Nat}, i ≤ n → cnt p lo i ≤ cnt p lo n := fun {i n} h => by
  induction n with
  | zero => obtain rfl : i = 0 := by omega
            exact Nat.le_refl _
  | succ n ih =>
    by_cases e : i = n + 1
    · subst e; exact Nat.le_refl _
    · exact Nat.le_trans (ih (by omega)) (by show _ ≤ cnt p lo n + _; omega)
theorem cnt_succ (p : Nat → Bool) {lo i : Nat} (h : lo ≤ i) : cnt p lo (i + 1) = cnt p lo i + if p i = true then 1 else 0 := by
  show cnt p lo i + _ = _
  by_cases hp : p i = true
  · rw [if_pos ⟨h, hp⟩, if_pos hp]
  · rw [if_neg (fun h => hp h.2), if_neg hp]

theorem cnt_cut (p : Nat → Bool) {j : Nat} (h : ∀ i, p i = true → i < j) : ∀ {n : Nat}, j ≤ n → cnt p 0 n = cnt p 0 j := fun {n} hn => by
  induction n with
  | zero => obtain rfl : j = 0 := by omega
            rfl
  | succ n ih =>
    by_cases e : j = n + 1
    · rw [e]
    · rw [cnt_succ p (Nat.zero_le n), ih (by omega), if_neg (fun hp => by have := h n hp; omega)]; omega
theorem cnt_add (p : Nat → Bool) (j : Nat) (h : ∀ i, p i = true → i < j) : cnt (fun i => p i || decide (i = j)) 0 (j + 1) = cnt p 0 j + 1 := by
  rw [cnt_succ _ (Nat.zero_le j), if_pos (by simp)]
  congr 1
  exact cnt_congr _ _ 0 j fun i _ hi => by
    have : ¬ i = j := by omega
    simp [this]
def bd (c : CD) : BD := ⟨c.ba, c.bn, c.bc, c.bs⟩
/-- A certificate without votes, its batch one request at most. -/
structure CB (w : World) (c : CD) : Prop where
  b : BOwn w (bd c)
  bn : c.bn ≤ 1
  v : c.va = none ∧ c.vn = 0 ∧ c.vc = 0 ∧ c.vs = []
  i : I64 c.view ∧ I64 c.inst ∧ I64 c.seq
theorem CB.below {w w' : World} {c : CD} (h : CB w c) (hb : Below w.heap.size w w') : CB w' c := ⟨h.b.below hb, h.bn, h.v, h.i⟩
theorem CB.only {w w' : World} {c : CD} {S : List Nat} (h : CB w c) (hS : Only S w w') (ht : ∀ g ∈ S, ∀ cs t, Blk w g t cs → t ≠ 40) : CB w' c := ⟨h.b.only hS ht, h.bn, h.v, h.i⟩
theorem CB.to {w : World} {c : CD} (h : CB w c) : c.Is w := ⟨h.b.row, by obtain ⟨h1, h2, h3, h4⟩ := h.v; rw [h1, h2, h3, h4]; exact VoRow.nil _ _ (Nat.zero_le _), h.i.1, h.i.2.1, h.i.2.2⟩
def cArr (n : Nat) (K : Nat → CD) : Array Value := (((List.range n).map K).flatMap ccell).toArray
theorem cArr_size (n : Nat) (K : Nat → CD) : (cArr n K).size = n * 5 := by
  unfold cArr
  rw [List.size_toArray, flat_len ccell 5 ccell_len]; simp
theorem cArr_get (n : Nat) (K : Nat → CD) (i j : Nat) (h : i < n) (hj : j < 5) (v : Value) (hv : (ccell (K i))[j]? = some v) : (cArr n K)[i * 5 + j]? = some v := by
  unfold cArr
  rw [List.getElem?_toArray]
  exact flat_get' ccell 5 ccell_len _ i j hj (by simpa using h) v (by simpa using hv)
theorem cArr_set (n : Nat) (K : Nat → CD) (i : Nat) (x : CD) (h : i < n) :
    (((((cArr n K).setIfInBounds (i * 5) (.int .i64 x.view)).setIfInBounds (i * 5 + 1) (.int .i64 x.inst)).setIfInBounds (i * 5 + 2) (.int .i64 x.seq)).setIfInBounds (i * 5 + 3) (.slice x.ba x.bn x.bc)).setIfInBounds (i * 5 + 4) (.slice x.va x.vn x.vc) = cArr n (upd K i x) := by
  have step : ∀ (l : List CD) (j : Nat) (y : CD) (v : Value), i < l.length → j < 5 → (∀ (hi : i < l.length), ccell y = (ccell l[i]).set j v) → (l.flatMap ccell).set (i * 5 + j) v = (l.set i y).flatMap ccell := fun l j y v h1 h2 h3 => by
    apply List.ext_getElem?
    intro m
    have hd : m = m / 5 * 5 + m % 5 := by omega
    have hr : ((l.set i y).flatMap ccell)[m]? = ((l.set i y)[m / 5]?).bind fun z => (ccell z)[m % 5]? := by
      conv => lhs; rw [hd]
      exact flat_get ccell 5 ccell_len _ _ _ (by omega)
    have hl : (l.flatMap ccell)[m]? = (l[m / 5]?).bind fun z => (ccell z)[m % 5]? := by
      conv => lhs; rw [hd]
      exact flat_get ccell 5 ccell_len _ _ _ (by omega)
    rw [hr, List.getElem?_set, hl, List.getElem?_set]
    by_cases e1 : i * 5 + j = m
    · rw [if_pos e1, if_pos (by rw [flat_len ccell 5 ccell_len]; omega), if_pos (show i = m / 5 by omega), if_pos h1]
      simp only [Option.bind_some]
      rw [h3 h1, show m % 5 = j by omega, List.getElem?_set_self (by rw [ccell_len]; exact h2)]
    · rw [if_neg e1]
      by_cases e2 : i = m / 5
      · rw [if_pos e2, if_pos h1]
        simp only [Option.bind_some]
        rw [h3 h1, ← e2, List.getElem?_eq_getElem h1]
        simp only [Option.bind_some]
        rw [List.getElem?_set_ne (by omega)]
      · rw [if_neg e2]
  unfold cArr
  simp only [List.setIfInBounds_toArray]
  congr 1
  rw [upd_map K n i x h]
  obtain ⟨l, hl⟩ : ∃ l, l = (List.range n).map K := ⟨_, rfl⟩
  rw [← hl]
  have hil : i < l.length := by rw [hl]; simpa using h
  obtain ⟨c, hc⟩ : ∃ c, c = l[i] := ⟨_, rfl⟩
  rw [show i * 5 = i * 5 + 0 from rfl, step l 0 {c with view := x.view} _ hil (by omega) (fun _ => by rw [← hc]; rfl),
    step _ 1 {c with view := x.view, inst := x.inst} _ (by simpa using hil) (by omega) (fun _ => by rw [List.getElem_set_self]; rfl),
    step _ 2 {c with view := x.view, inst := x.inst, seq := x.seq} _ (by simpa using hil) (by omega) (fun _ => by rw [List.getElem_set_self]; rfl),
    step _ 3 {c with view := x.view, inst := x.inst, seq := x.seq, ba := x.ba, bn := x.bn, bc := x.bc} _ (by simpa using hil) (by omega) (fun _ => by rw [List.getElem_set_self]; rfl),
    step _ 4 x _ (by simpa using hil) (by omega) (fun _ => by rw [List.getElem_set_self]; rfl)]
  simp only [List.set_set]
/-- The certificates and who has one. -/
structure Mem (w wr : World) (gc gh n : Nat) (K : Nat → CD) (hs : Nat → Bool) : Prop where
  kc : Blk wr gc 36 (cArr n K)
  kh : Blk wr gh 4 (seenC n hs)
  own : ∀ i, i < n → CB wr (K i)
  b : Below w.heap.size w wr
theorem Mem.below {w wr wx : World} {gc gh n : Nat} {K : Nat → CD} {hs : Nat → Bool} (h : Mem w wr gc gh n K hs) (hb : Below wr.heap.size wr wx) : Mem w wx gc gh n K hs :=
  ⟨h.kc.below hb h.kc.lt, h.kh.below hb h.kh.lt, fun i hi => (h.own i hi).below hb, h.b.trans (hb.mono h.b.size)⟩
theorem Mem.only {w wr wx : World} {gc gh n : Nat} {K : Nat → CD} {hs : Nat → Bool} {S : List Nat} (h : Mem w wr gc gh n K hs) (hS : Only S wr wx) (ht : ∀ g ∈ S, ∀ cs t, Blk wr g t cs → t ≠ 40 ∧ t ≠ 36 ∧ t ≠ 4) (hg : ∀ g ∈ S, w.heap.size ≤ g) : Mem w wx gc gh n K hs :=
  ⟨h.kc.only hS fun hm => (ht _ hm _ _ h.kc).2.1 rfl, h.kh.only hS fun hm => (ht _ hm _ _ h.kh).2.2 rfl, fun i hi => (h.own i hi).only hS fun g hg cs t k => (ht g hg cs t k).1, hS.below h.b h.b.size hg⟩
/-- Batches at a block's head. -/
def vArr (n : Nat) (V : Nat → BD) : Array Value := ((List.range n).map fun i => bval (V i)).toArray
theorem vArr_get (n : Nat) (V : Nat → BD) (i : Nat) (h : i < n) : (vArr n V)[i]? = some (bval (V i)) := by simp [vArr, h]
theorem vArr_set (n : Nat) (V : Nat → BD) (i : Nat) (x : BD) (h : i < n) : (vArr n V).setIfInBounds i (bval x) = vArr n (upd V i x) := by
  unfold vArr
  rw [List.setIfInBounds_toArray]
  congr 1
  apply List.ext_getElem?
  intro j
  rw [List.getElem?_set, List.getElem?_map, List.getElem?_map]
  by_cases hj : j < n
  · rw [List.getElem?_range hj]
    simp only [Option.map_some]
    by_cases hij : i = j
    · subst hij
      rw [if_pos rfl, if_pos (by simpa using h), upd_same]
    · rw [if_neg hij, upd_ne _ _ (fun e => hij e.symm)]
  · rw [List.getElem?_eq_none (l := List.range n) (by simpa using hj)]
    by_cases hij : i = j
    · omega
    · rw [if_neg hij]; rfl
def nilB : BD := ⟨none, 0, 0, []⟩
def nilC : CD := ⟨0, 0, 0, none, 0, 0, [], none, 0, 0, []⟩
theorem nilB_own (w : World) : BOwn w nilB := ⟨RqRow.nil _ _ (Nat.zero_le _), fun p hp => by cases hp⟩
theorem nilC_own (w : World) : CB w nilC := ⟨nilB_own w, Nat.zero_le _, ⟨rfl, rfl, rfl, rfl⟩, I64.zero, I64.zero, I64.zero⟩
theorem made_v (n : Nat) : madeCells #[.slice none 0 0] (n * 1) = vArr n (fun _ => nilB) := by
  apply Array.toList_inj.1
  rw [Nat.mul_one, toList_madeCells_one]
  simp only [vArr, nilB, bval, List.map_const', List.length_range]
theorem made_h (n : Nat) : madeCells #[.bool false] (n * 1) = seenC n (fun _ => false) := by
  apply Array.toList_inj.1
  rw [Nat.mul_one, toList_madeCells_one]
  simp only [seenC, List.map_const', List.length_range]
theorem made_k (n : Nat) : madeCells #[.int .i64 0, .int .i64 0, .int .i64 0, .slice none 0 0, .slice none 0 0] (n * 5) = cArr n (fun _ => nilC) := by
  apply Array.ext_getElem?
  intro i
  by_cases hi : i < n * 5
  · have h1 := cArr_get n (fun _ => nilC) (i / 5) (i % 5) (by omega) (by omega) ((#[.int .i64 0, .int .i64 0, .int .i64 0, .slice none 0 0, .slice none 0 0] : Array Value)[i % 5]!) (by
      have : i % 5 = 0 ∨ i % 5 = 1 ∨ i % 5 = 2 ∨ i % 5 = 3 ∨ i % 5 = 4 := by omega
      rcases this with h | h | h | h | h <;> rw [h] <;> rfl)
    rw [show i / 5 * 5 + i % 5 = i by omega] at h1
    rw [h1, Array.getElem?_eq_getElem (by rw [size_madeCells]; exact hi)]
    unfold madeCells
    rw [Array.getElem_map, Array.getElem_range]
    rfl
  · rw [Array.getElem?_eq_none (by rw [size_madeCells]; omega), Array.getElem?_eq_none (by rw [cArr_size]; omega)]
theorem info_bool : (Try.prog.info? 4).map (fun i => (i.zero, i.size, i.bytes)) = some (some (.bool false), 1, 1) := by kernel_rfl
theorem info_cert : (Try.prog.info? 36).map (fun i => (i.zero, i.size, i.bytes)) = some (some (.agg #[.int .i64 0, .int .i64 0, .int .i64 0, .slice none 0 0, .slice none 0 0]), 5, 72) := by kernel_rfl
theorem info_prt : (Try.prog.info? 32).map (fun i => (i.zero, i.size, i.bytes)) = some (some (.agg #[.int .i64 0, .slice none 0 0, .slice none 0 0, .int .i64 0]), 4, 64) := by kernel_rfl
/-- A part of the law's: its certificate or none, in a row of its own. -/
structure PS (B : Nat) (w : World) (q : PD) : Prop where
  vn : q.va = none ∧ q.vn = 0 ∧ q.vc = 0 ∧ q.vs = []
  row : w.ownsRow B 36 5 (.slice q.ca q.cn q.cc) q.cn (q.cs.flatMap ccell)
  len : q.cs.length = q.cn
  cn : q.cn ≤ 1
  is : ∀ c ∈ q.cs, CB w c
  i0 : I64 q.from_
  i1 : I64 q.seal_
theorem PS.below {B : Nat} {w w' : World} {q : PD} (h : PS B w q) (hb : Below w.heap.size w w') : PS B w' q := ⟨h.vn, own_below h.row hb, h.len, h.cn, fun c hc => (h.is c hc).below hb, h.i0, h.i1⟩
theorem PS.only {B : Nat} {w w' : World} {q : PD} {S : List Nat} (h : PS B w q) (hS : Only S w w') (ht : ∀ g ∈ S, ∀ cs t, Blk w g t cs → t ≠ 40 ∧ t ≠ 36) : PS B w' q :=
  ⟨h.vn, own_odd h.row hS fun g hg cs t k => (ht g hg cs t k).2, h.len, h.cn, fun c hc => (h.is c hc).only hS fun g hg cs t k => (ht g hg cs t k).1, h.i0, h.i1⟩
theorem PS.to {B : Nat} {w : World} {q : PD} (h : PS B w q) : q.Is w :=
  ⟨by obtain ⟨h1, h2, h3, h4⟩ := h.vn; rw [h1, h2, h3, h4]; exact VoRow.nil _ _ (Nat.zero_le _), ⟨own_vrow h.row, h.len, own_cap h.row, own_max h.row, fun c hc => (h.is c hc).to⟩, h.i0, h.i1⟩
end Go.Proofs.Ytpkifmophmjilaa
