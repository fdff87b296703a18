/- One slot, view after view: why nothing else is ever committed. Plain. -/
import Derived.Test.YtpkifmophmjilaaAlone
namespace Go.Proofs.Ytpkifmophmjilaa
open Go.RowKit
set_option linter.unusedVariables false

/-- How many from lo up to hi are such. -/
def cnt (p : Nat → Bool) (lo : Nat) : Nat → Nat
  | 0 => 0
  | hi + 1 => cnt p lo hi + if lo ≤ hi ∧ p hi = true then 1 else 0
theorem cnt_none (p : Nat → Bool) (lo : Nat) : ∀ hi, hi ≤ lo → cnt p lo hi = 0
  | 0, _ => rfl
  | hi + 1, h => by
    unfold cnt
    rw [cnt_none p lo hi (by omega), if_neg (by omega)]
theorem cnt_le (p q : Nat → Bool) (lo : Nat) : ∀ hi, (∀ j, lo ≤ j → j < hi → p j = true → q j = true) → cnt p lo hi ≤ cnt q lo hi
  | 0, _ => Nat.le_refl _
  | hi + 1, h => by
    have h1 := cnt_le p q lo hi fun j a b => h j a (by omega)
    unfold cnt
    by_cases hc : lo ≤ hi ∧ p hi = true
    · rw [if_pos hc, if_pos ⟨hc.1, h hi hc.1 (by omega) hc.2⟩]; omega
    · rw [if_neg hc]; split <;> omega
theorem cnt_two (p q : Nat → Bool) (lo : Nat) : ∀ hi, (∀ j, lo ≤ j → j < hi → ¬ (p j = true ∧ q j = true)) → cnt p lo hi + cnt q lo hi ≤ hi - lo
  | 0, _ => by simp [cnt]
  | hi + 1, h => by
    have h1 := cnt_two p q lo hi fun j a b => h j a (by omega)
    unfold cnt
    by_cases hl : lo ≤ hi
    · have h2 := h hi hl (by omega)
      by_cases hp : p hi = true
      · by_cases hq : q hi = true
        · exact absurd ⟨hp, hq⟩ h2
        · rw [if_pos ⟨hl, hp⟩, if_neg (fun h => hq h.2)]; omega
      · rw [if_neg (fun h => hp h.2)]
        split <;> omega
    · rw [if_neg (fun h => hl h.1), if_neg (fun h => hl h.1)]
      omega
theorem cnt_all (p : Nat → Bool) (lo : Nat) : ∀ hi, (∀ j, lo ≤ j → j < hi → p j = true) → cnt p lo hi = hi - lo
  | 0, _ => by simp [cnt]
  | hi + 1, h => by
    have h1 := cnt_all p lo hi fun j a b => h j a (by omega)
    unfold cnt
    by_cases hl : lo ≤ hi
    · rw [if_pos ⟨hl, h hi hl (by omega)⟩]; omega
    · rw [if_neg (fun h => hl h.1)]; omega
theorem cnt_low (p : Nat → Bool) (lo : Nat) : ∀ hi, cnt p lo hi ≤ cnt p 0 hi
  | 0 => Nat.le_refl _
  | hi + 1 => by
    have h1 := cnt_low p lo hi
    unfold cnt
    by_cases hp : p hi = true
    · have e0 : (if 0 ≤ hi ∧ p hi = true then 1 else 0) = 1 := if_pos ⟨Nat.zero_le _, hp⟩
      rw [e0]; split <;> omega
    · rw [if_neg (fun h => hp h.2)]; omega
theorem cnt_congr (p q : Nat → Bool) (lo hi : Nat) (h : ∀ j, lo ≤ j → j < hi → p j = q j) : cnt p lo hi = cnt q lo hi :=
  Nat.le_antisymm (cnt_le p q lo hi fun j a b e => by rw [← h j a b]; exact e) (cnt_le q p lo hi fun j a b e => by rw [h j a b]; exact e)
theorem cnt_bound (p : Nat → Bool) (lo hi : Nat) : cnt p lo hi ≤ hi - lo := by
  have := cnt_two p (fun _ => false) lo hi (by simp)
  omega
/-- Two great sets meet. -/
theorem cnt_meet (p q : Nat → Bool) (n : Nat) (h : n < cnt p 0 n + cnt q 0 n) : ∃ j, j < n ∧ p j = true ∧ q j = true := by
  rcases Classical.em (∃ j, j < n ∧ p j = true ∧ q j = true) with h1 | h1
  · exact h1
  · have := cnt_two p q 0 n fun j _ hj hh => h1 ⟨j, hj, hh⟩
    omega

def upd {α : Type} (K : Nat → α) (i : Nat) (x : α) : Nat → α := fun j => if j = i then x else K j
theorem upd_same {α : Type} (K : Nat → α) (i : Nat) (x : α) : upd K i x i = x := if_pos rfl
theorem upd_ne {α : Type} (K : Nat → α) {i j : Nat} (x : α) (h : j ≠ i) : upd K i x j = K j := if_neg h
theorem upd_map {α : Type} (K : Nat → α) (n i : Nat) (x : α) (h : i < n) : (List.range n).map (upd K i x) = ((List.range n).map K).set i x := by
  apply List.ext_getElem?
  intro j
  rw [List.getElem?_set, List.getElem?_map]
  by_cases hj : j < n
  · rw [List.getElem?_range hj]
    simp only [Option.map_some]
    by_cases hij : i = j
    · subst hij
      rw [if_pos rfl, if_pos (by simpa using h), upd_same]
    · rw [if_neg hij, upd_ne _ _ (fun e => hij e.symm), List.getElem?_map, List.getElem?_range hj]; rfl
  · rw [List.getElem?_eq_none (by simpa using hj)]
    rw [if_neg (by omega), List.getElem?_eq_none (by simpa using hj)]; rfl

/-- Who votes for a batch. -/
def votesFor (V : Nat → List Rq) (b : List Rq) : Nat → Bool := fun j => decide (V j = b)
/-- Whose certificate is of view vc or a later one. -/
def later (K : Nat → CD) (hs : Nat → Bool) (vc : Int) : Nat → Bool := fun j => hs j && decide (vc ≤ (K j).view)
/-- Whose certificate is of just this view and batch. -/
def just (K : Nat → CD) (hs : Nat → Bool) (v : Int) (b : List Rq) : Nat → Bool := fun j => hs j && (decide ((K j).view = v) && decide ((K j).bs = b))
structure Safe1 (f n : Nat) (v : Int) (K : Nat → CD) (hs : Nat → Bool) (com : Bool) (D : List Rq) : Prop where
  a : ∀ i, i < n → hs i = true → f ≤ i ∧ (K i).inst = 0 ∧ (K i).seq = 1 ∧ 0 ≤ (K i).view ∧ (K i).view < v
  b : com = true → ∃ vc, vc < v ∧ f + 1 ≤ cnt (later K hs vc) f n ∧ ∀ i, i < n → hs i = true → vc ≤ (K i).view → (K i).bs = D
structure Safe2 (f n : Nat) (v : Int) (K : Nat → CD) (hs : Nat → Bool) (com : Bool) (D : List Rq) (V : Nat → List Rq) : Prop where
  a : ∀ i, i < n → hs i = true → f ≤ i ∧ (K i).inst = 0 ∧ (K i).seq = 1 ∧ 0 ≤ (K i).view ∧ (K i).view ≤ v
  c : ∀ i, i < n → hs i = true → (K i).view = v → f + 1 ≤ cnt (votesFor V (K i).bs) f n
  b : com = true → ∃ vc, vc ≤ v ∧ f + 1 ≤ cnt (later K hs vc) f n ∧ ∀ i, i < n → hs i = true → vc ≤ (K i).view → (K i).bs = D
  e : com = true → f + 1 ≤ cnt (votesFor V D) f n
section
variable {f n : Nat} {v : Int} {K : Nat → CD} {hs : Nat → Bool} {com : Bool} {D b b' : List Rq} {V : Nat → List Rq}
theorem Safe1.zero (f n : Nat) (K : Nat → CD) (D : List Rq) : Safe1 f n 0 K (fun _ => false) false D := ⟨by simp, by simp⟩
theorem Safe1.start (h : Safe1 f n v K hs com D) (hn : n = 3 * f + 1) (hV : com = true → ∀ j, f ≤ j → j < n → V j = D) : Safe2 f n v K hs com D V :=
  ⟨fun i hi h1 => by obtain ⟨a1, a2, a3, a4, a5⟩ := h.a i hi h1; exact ⟨a1, a2, a3, a4, by omega⟩, fun i hi h1 h2 => by have := (h.a i hi h1).2.2.2.2; omega,
    fun hc => by obtain ⟨vc, h1, h2, h3⟩ := h.b hc; exact ⟨vc, by omega, h2, h3⟩, fun hc => by
      have := cnt_all (votesFor V D) f n (fun j a b => decide_eq_true (hV hc j a b)); omega⟩
theorem votes_one (hn : n = 3 * f + 1) (h1 : f + 1 ≤ cnt (votesFor V b) f n) (h2 : f + 1 ≤ cnt (votesFor V b') f n) : b = b' := by
  rcases Classical.em (b = b') with h | h
  · exact h
  · have := cnt_two (votesFor V b) (votesFor V b') f n fun j _ _ hh => h (by
      have e1 := of_decide_eq_true hh.1
      have e2 := of_decide_eq_true hh.2
      rw [← e1, e2])
    omega
theorem Safe2.prep (h : Safe2 f n v K hs com D V) (hn : n = 3 * f + 1) (hb : f + 1 ≤ cnt (votesFor V b) f n) {i : Nat} (hi : f ≤ i ∧ i < n) (hv : 0 ≤ v) (x : CD) (x0 : x.view = v) (x1 : x.inst = 0) (x2 : x.seq = 1) (x3 : x.bs = b) :
    Safe2 f n v (upd K i x) (upd hs i true) com D V := by
  have key : ∀ j, j < n → upd hs i true j = true → (j = i ∧ upd K i x j = x) ∨ (j ≠ i ∧ hs j = true ∧ upd K i x j = K j) := fun j _ hj => by
    by_cases e : j = i
    · subst e; exact .inl ⟨rfl, upd_same _ _ _⟩
    · rw [upd_ne _ _ e] at hj; exact .inr ⟨e, hj, upd_ne _ _ e⟩
  refine ⟨fun j hj hh => ?_, fun j hj hh hw => ?_, fun hc => ?_, h.e⟩
  · rcases key j hj hh with ⟨rfl, e⟩ | ⟨_, h1, e⟩
    · rw [e]; exact ⟨hi.1, x1, x2, by omega, by omega⟩
    · rw [e]; exact h.a j hj h1
  · rcases key j hj hh with ⟨rfl, e⟩ | ⟨_, h1, e⟩
    · rw [e, x3]; exact hb
    · rw [e] at hw ⊢; exact h.c j hj h1 hw
  · obtain ⟨vc, h1, h2, h3⟩ := h.b hc
    have hbD : b = D := votes_one hn hb (h.e hc)
    refine ⟨vc, h1, Nat.le_trans h2 (cnt_le _ _ f n fun j _ hj e => ?_), fun j hj hh hw => ?_⟩
    · unfold later at e ⊢
      by_cases ej : j = i
      · subst ej
        rw [upd_same, upd_same, x0]
        simpa using h1
      · rw [upd_ne _ _ ej, upd_ne _ _ ej]; exact e
    · rcases key j hj hh with ⟨rfl, e⟩ | ⟨_, h4, e⟩
      · rw [e, x3, hbD]
      · rw [e] at hw ⊢; exact h3 j hj h4 hw
theorem Safe2.same (h : Safe2 f n v K hs com D V) (hn : n = 3 * f + 1) (hb : f + 1 ≤ cnt (votesFor V b) f n) (hc : com = true) : D = b := votes_one hn (h.e hc) hb
theorem Safe2.commit (h : Safe2 f n v K hs com D V) (hn : n = 3 * f + 1) (hb : f + 1 ≤ cnt (votesFor V b) f n) (hp : f + 1 ≤ cnt (just K hs v b) f n) : Safe2 f n v K hs true b V := by
  refine ⟨h.a, h.c, fun _ => ?_, fun _ => hb⟩
  cases hc : com with
  | true =>
    obtain ⟨vc, h1, h2, h3⟩ := h.b hc
    exact ⟨vc, h1, h2, fun i hi hh hw => (h3 i hi hh hw).trans (h.same hn hb hc)⟩
  | false =>
    refine ⟨v, Int.le_refl _, Nat.le_trans hp (cnt_le _ _ f n fun j _ _ e => ?_), fun i hi hh hw => ?_⟩
    · unfold just at e
      unfold later
      simp only [Bool.and_eq_true, decide_eq_true_eq] at e ⊢
      exact ⟨e.1, by omega⟩
    · have hv := (h.a i hi hh).2.2.2.2
      exact votes_one hn (h.c i hi hh (by omega)) hb
theorem Safe2.done (h : Safe2 f n v K hs com D V) : Safe1 f n (v + 1) K hs com D :=
  ⟨fun i hi hh => by obtain ⟨a1, a2, a3, a4, a5⟩ := h.a i hi hh; exact ⟨a1, a2, a3, a4, by omega⟩, fun hc => by
    obtain ⟨vc, h1, h2, h3⟩ := h.b hc; exact ⟨vc, by omega, h2, h3⟩⟩
/-- What a view begins with, whichever quorum's certificates are looked at. -/
theorem Safe1.begin (h : Safe1 f n v K hs com D) (hn : n = 3 * f + 1) {ps : List PD} {ch : Nat → Bool} (hch : cnt ch 0 n = 2 * f + 1)
    (hm : ∀ c, c ∈ certsOf ps ↔ ∃ i, i < n ∧ ch i = true ∧ hs i = true ∧ c = K i) :
    0 ≤ greatest 0 ps ∧ greatest 0 ps ≤ 1 ∧ (com = true → greatest 0 ps = 1 ∧ batchOf 0 1 ps = D) := by
  have g := greatest_is 0 ps
  have hle : greatest 0 ps ≤ 1 := by
    rcases g.one with h1 | ⟨c, hc, _, _, e⟩
    · omega
    · obtain ⟨i, hi, _, hh, rfl⟩ := (hm c).1 hc
      have := (h.a i hi hh).2.2.1
      omega
  refine ⟨g.low, hle, fun hc => ?_⟩
  obtain ⟨vc, h1, h2, h3⟩ := h.b hc
  obtain ⟨i, hi, c1, c2⟩ := cnt_meet ch (later K hs vc) n (by
    have := cnt_low (later K hs vc) f n
    omega)
  unfold later at c2
  simp only [Bool.and_eq_true, decide_eq_true_eq] at c2
  have hKi : K i ∈ certsOf ps := (hm _).2 ⟨i, hi, c1, c2.1, rfl⟩
  obtain ⟨a1, a2, a3, a4, a5⟩ := h.a i hi c2.1
  refine ⟨?_, ?_⟩
  · have := g.all (K i) hKi a2 (by omega)
    omega
  · obtain ⟨d, hd, hv⟩ := best_all hKi a2 a3
    obtain ⟨m1, _, _⟩ := best_mem hd
    obtain ⟨j, hj, _, hh, rfl⟩ := (hm d).1 m1
    unfold batchOf
    rw [hd]
    exact h3 j hj hh (by omega)
end
end Go.Proofs.Ytpkifmophmjilaa
