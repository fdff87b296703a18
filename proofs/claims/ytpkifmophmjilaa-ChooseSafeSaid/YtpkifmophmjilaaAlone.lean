/- One certificate a number: plain. And cells of bools. -/
import Derived.Test.YtpkifmophmjilaaChooseHo
namespace Go.Proofs.Ytpkifmophmjilaa
open Go.RowKit
set_option linter.unusedVariables false

def seenC (n : Nat) (f : Nat → Bool) : Array Value := ((List.range n).map fun i => Value.bool (f i)).toArray
theorem seenC_get (n : Nat) (f : Nat → Bool) (i : Nat) (h : i < n) : (seenC n f)[i]? = some (.bool (f i)) := by
  simp [seenC, h]
theorem seenC_set (n : Nat) (f : Nat → Bool) (i : Nat) (h : i < n) : (seenC n f).setIfInBounds i (.bool true) = seenC n (fun j => f j || decide (j = i)) := by
  unfold seenC
  apply Array.ext_getElem?
  intro j
  rw [Array.getElem?_setIfInBounds]
  by_cases hij : i = j
  · subst hij
    simp [h]
  · rw [if_neg hij]
    by_cases hj : j < n
    · simp [hj, show ¬ j = i from fun e => hij e.symm]
    · simp [hj]

def oneT (k : Int) : List Rq := [(0, k, 0, 0, 0, 0)]
structure Alone (q : Int) (cs : List CD) (top : Int) (f : Nat → Bool) : Prop where
  inst : ∀ c ∈ cs, c.inst = q
  seq : ∀ c ∈ cs, 1 ≤ c.seq ∧ c.seq ≤ 16 ∧ c.bs = oneT c.seq
  has : ∀ k : Nat, f k = true ↔ ∃ c ∈ cs, c.seq = (k : Int)
  lo : 0 ≤ top ∧ top ≤ 16
  up : ∀ c ∈ cs, c.seq ≤ top
  at_ : top = 0 ∨ ∃ c ∈ cs, c.seq = top
theorem Alone.nil (q : Int) : Alone q [] 0 (fun _ => false) := ⟨by simp, by simp, by simp, by omega, by simp, .inl rfl⟩
section
variable {q top : Int} {cs : List CD} {f : Nat → Bool} {ps : List PD}
theorem Alone.add (h : Alone q cs top f) (K : Nat) (hK : 1 ≤ K ∧ K ≤ 16) (c : CD) (h1 : c.inst = q) (h2 : c.seq = (K : Int)) (h3 : c.bs = oneT c.seq) : Alone q (cs ++ [c]) (if top < (K : Int) then (K : Int) else top) (fun j => f j || decide (j = K)) := by
  have hm : ∀ x, x ∈ cs ++ [c] ↔ x ∈ cs ∨ x = c := fun x => by simp
  refine ⟨fun x hx => ?_, fun x hx => ?_, fun k => ?_, ?_, fun x hx => ?_, ?_⟩
  · rcases (hm x).1 hx with hx | rfl
    · exact h.inst x hx
    · exact h1
  · rcases (hm x).1 hx with hx | rfl
    · exact h.seq x hx
    · exact ⟨by omega, by omega, h3⟩
  · simp only [Bool.or_eq_true, decide_eq_true_eq]
    rw [h.has k]
    constructor
    · rintro (⟨x, hx, e⟩ | rfl)
      · exact ⟨x, (hm x).2 (.inl hx), e⟩
      · exact ⟨c, (hm c).2 (.inr rfl), h2⟩
    · rintro ⟨x, hx, e⟩
      rcases (hm x).1 hx with hx | rfl
      · exact .inl ⟨x, hx, e⟩
      · exact .inr (by omega)
  · have := h.lo
    split <;> omega
  · rcases (hm x).1 hx with hx | rfl
    · have := h.up x hx
      split <;> omega
    · split <;> omega
  · split
    · exact .inr ⟨c, (hm c).2 (.inr rfl), h2⟩
    · rcases h.at_ with h4 | ⟨x, hx, e⟩
      · exact .inl h4
      · exact .inr ⟨x, (hm x).2 (.inl hx), e⟩
theorem Alone.gr (h : Alone q cs top f) (hp : certsOf ps = cs) : greatest q ps = top := by
  have g := greatest_is q ps
  rw [hp] at g
  have h1 : greatest q ps ≤ top := by
    rcases g.one with h1 | ⟨c, hc, _, _, e⟩
    · rw [h1]; exact h.lo.1
    · rw [← e]; exact h.up c hc
  have h2 : top ≤ greatest q ps := by
    rcases h.at_ with h2 | ⟨c, hc, e⟩
    · rw [h2]; exact g.low
    · rw [← e]; exact g.all c hc (h.inst c hc) (h.seq c hc).2.1
  omega
theorem Alone.nx (h : Alone q cs top f) (hp : certsOf ps = cs) : greatest (q + 1) ps = 0 := by
  have g := greatest_is (q + 1) ps
  rw [hp] at g
  rcases g.one with h1 | ⟨c, hc, e, _⟩
  · exact h1
  · have := h.inst c hc; omega
theorem Alone.bst (h : Alone q cs top f) (hp : certsOf ps = cs) {k : Nat} (hk : f k = true) : ∃ c, best q (k : Int) ps = some c ∧ c.inst = q ∧ c.seq = (k : Int) ∧ c.bs = oneT k := by
  obtain ⟨x, hx, e⟩ := (h.has k).1 hk
  rw [← hp] at hx
  obtain ⟨b, hb, _⟩ := best_all (inst := q) (seq := (k : Int)) hx (h.inst x (by rw [← hp]; exact hx)) e
  obtain ⟨m1, m2, m3⟩ := best_mem hb
  rw [hp] at m1
  exact ⟨b, hb, m2, m3, by rw [← m3]; exact (h.seq b m1).2.2⟩
theorem Alone.non (h : Alone q cs top f) (hp : certsOf ps = cs) {k : Nat} (hk : f k = false) : best q (k : Int) ps = none := by
  cases hb : best q (k : Int) ps with
  | none => rfl
  | some b =>
    obtain ⟨m1, m2, m3⟩ := best_mem hb
    rw [hp] at m1
    have := (h.has k).2 ⟨b, m1, m3⟩
    rw [hk] at this
    cases this
theorem Alone.bat (h : Alone q cs top f) (hp : certsOf ps = cs) {k : Nat} : batchOf q (k : Int) ps = if f k = true then oneT k else [] := by
  unfold batchOf
  split
  · rename_i hk
    obtain ⟨c, hb, _, _, e⟩ := h.bst hp hk
    rw [hb]; exact e
  · rename_i hk
    rw [h.non hp (by simpa using hk)]; rfl
end
end Go.Proofs.Ytpkifmophmjilaa
