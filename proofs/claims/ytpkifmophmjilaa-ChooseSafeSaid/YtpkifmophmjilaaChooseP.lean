/- What a new view begins with: plain. -/
import Derived.Test.YtpkifmophmjilaaParts
namespace Go.Proofs.Ytpkifmophmjilaa
open Go.RowKit
set_option linter.unusedVariables false

/-- The greatest number of an instance's certificates, one more of them looked at. -/
def greatB (inst : Int) (n : Int) (c : CD) : Int := if c.inst = inst ∧ c.seq ≤ 16 then (if n < c.seq then c.seq else n) else n
def greatest (inst : Int) (ps : List PD) : Int := ps.foldl (fun n p => p.cs.foldl (greatB inst) n) 0
/-- The first of the greatest view, one more looked at. -/
def bestB (inst seq : Int) (o : Option CD) (c : CD) : Option CD := if c.inst = inst ∧ c.seq = seq ∧ (∀ b, o = some b → b.view < c.view) then some c else o
def best (inst seq : Int) (ps : List PD) : Option CD := ps.foldl (fun o p => p.cs.foldl (bestB inst seq) o) none
def zeroC : CD := ⟨0, 0, 0, none, 0, 0, [], none, 0, 0, []⟩
def batchOf (inst seq : Int) (ps : List PD) : List Rq := ((best inst seq ps).getD zeroC).bs
def batches (inst : Int) (ps : List PD) : List (List Rq) := (List.range (greatest inst ps).toNat).map fun (i : Nat) => batchOf inst ((i : Int) + 1) ps
theorem foldl_take_succ {α β : Type} (f : β → α → β) (z : β) (l : List α) (k : Nat) (x : α) (h : l[k]? = some x) : (l.take (k + 1)).foldl f z = f ((l.take k).foldl f z) x := by
  rw [List.take_add_one, h, List.foldl_append]
  rfl
/-- All certificates. -/
def certsOf (ps : List PD) : List CD := ps.flatMap PD.cs
theorem greatest_flat (inst : Int) (ps : List PD) : greatest inst ps = (certsOf ps).foldl (greatB inst) 0 := by
  unfold greatest certsOf
  rw [List.foldl_flatMap]
theorem best_flat (inst seq : Int) (ps : List PD) : best inst seq ps = (certsOf ps).foldl (bestB inst seq) none := by
  unfold best certsOf
  rw [List.foldl_flatMap]
/-- The greatest of a list. -/
structure GreatIs (inst : Int) (cs : List CD) (z n : Int) : Prop where
  low : z ≤ n
  all : ∀ c ∈ cs, c.inst = inst → c.seq ≤ 16 → c.seq ≤ n
  one : n = z ∨ ∃ c ∈ cs, c.inst = inst ∧ c.seq ≤ 16 ∧ c.seq = n
theorem great_is (inst : Int) : ∀ (cs : List CD) (z : Int), GreatIs inst cs z (cs.foldl (greatB inst) z)
  | [], z => ⟨Int.le_refl _, by simp, .inl rfl⟩
  | c :: cs, z => by
    have h := great_is inst cs (greatB inst z c)
    rw [List.foldl_cons]
    obtain ⟨h1, h2, h3⟩ := h
    have hz : z ≤ greatB inst z c ∧ (c.inst = inst → c.seq ≤ 16 → c.seq ≤ greatB inst z c) ∧ (greatB inst z c = z ∨ (c.inst = inst ∧ c.seq ≤ 16 ∧ c.seq = greatB inst z c)) := by
      unfold greatB
      split
      · rename_i hc
        split
        · exact ⟨by omega, fun _ _ => Int.le_refl _, .inr ⟨hc.1, hc.2, rfl⟩⟩
        · exact ⟨Int.le_refl _, fun _ _ => by omega, .inl rfl⟩
      · rename_i hc
        exact ⟨Int.le_refl _, fun a b => absurd ⟨a, b⟩ hc, .inl rfl⟩
    refine ⟨by omega, fun d hd e1 e2 => ?_, ?_⟩
    · rcases List.mem_cons.1 hd with rfl | hd
      · have := hz.2.1 e1 e2; omega
      · exact h2 d hd e1 e2
    · rcases h3 with h3 | ⟨d, hd, e⟩
      · rcases hz.2.2 with h4 | ⟨h4, h5, h6⟩
        · exact .inl (by omega)
        · exact .inr ⟨c, by simp, h4, h5, by omega⟩
      · exact .inr ⟨d, List.mem_cons_of_mem _ hd, e⟩
theorem greatest_is (inst : Int) (ps : List PD) : GreatIs inst (certsOf ps) 0 (greatest inst ps) := by
  rw [greatest_flat]; exact great_is inst _ 0
theorem greatest_le (inst : Int) (ps : List PD) : 0 ≤ greatest inst ps ∧ greatest inst ps ≤ 16 := by
  have h := greatest_is inst ps
  refine ⟨h.low, ?_⟩
  rcases h.one with h1 | ⟨c, _, _, h2, h3⟩ <;> omega
/-- The first of the greatest view. -/
structure BestIs (inst seq : Int) (cs : List CD) (z o : Option CD) : Prop where
  all : ∀ c ∈ cs, c.inst = inst → c.seq = seq → ∃ b, o = some b ∧ c.view ≤ b.view
  old : ∀ c, z = some c → ∃ b, o = some b ∧ c.view ≤ b.view
  one : o = z ∨ ∃ c ∈ cs, c.inst = inst ∧ c.seq = seq ∧ o = some c
theorem best_is (inst seq : Int) : ∀ (cs : List CD) (z : Option CD), BestIs inst seq cs z (cs.foldl (bestB inst seq) z)
  | [], z => ⟨by simp, fun c h => ⟨c, h, Int.le_refl _⟩, .inl rfl⟩
  | c :: cs, z => by
    obtain ⟨h1, h2, h3⟩ := best_is inst seq cs (bestB inst seq z c)
    rw [List.foldl_cons]
    by_cases hc : c.inst = inst ∧ c.seq = seq ∧ (∀ b, z = some b → b.view < c.view)
    · have e : bestB inst seq z c = some c := if_pos hc
      rw [e] at h1 h2 h3 ⊢
      obtain ⟨b, hb, hv⟩ := h2 c rfl
      refine ⟨fun d hd e1 e2 => ?_, fun d hd => ⟨b, hb, by have := hc.2.2 d hd; omega⟩, ?_⟩
      · rcases List.mem_cons.1 hd with rfl | hd
        · exact ⟨b, hb, hv⟩
        · exact h1 d hd e1 e2
      · rcases h3 with h3 | ⟨d, hd, e1, e2, e3⟩
        · exact .inr ⟨c, by simp, hc.1, hc.2.1, h3⟩
        · exact .inr ⟨d, List.mem_cons_of_mem _ hd, e1, e2, e3⟩
    · have e : bestB inst seq z c = z := if_neg hc
      rw [e] at h1 h2 h3 ⊢
      refine ⟨fun d hd e1 e2 => ?_, h2, ?_⟩
      · rcases List.mem_cons.1 hd with rfl | hd
        · have h4 : ¬ ∀ b, z = some b → b.view < d.view := fun h => hc ⟨e1, e2, h⟩
          cases z with
          | none => exact absurd (fun b h => by cases h) h4
          | some z =>
            obtain ⟨b, hb, hv⟩ := h2 z rfl
            refine ⟨b, hb, ?_⟩
            rcases Int.lt_or_le z.view d.view with h5 | h5
            · exact absurd (fun b h => by cases h; exact h5) h4
            · omega
        · exact h1 d hd e1 e2
      · rcases h3 with h3 | ⟨d, hd, e1⟩
        · exact .inl h3
        · exact .inr ⟨d, List.mem_cons_of_mem _ hd, e1⟩
theorem best_all {inst seq : Int} {ps : List PD} {c : CD} (hc : c ∈ certsOf ps) (e1 : c.inst = inst) (e2 : c.seq = seq) : ∃ b, best inst seq ps = some b ∧ c.view ≤ b.view := by
  rw [best_flat]; exact (best_is inst seq _ none).all c hc e1 e2
theorem best_mem {inst seq : Int} {ps : List PD} {b : CD} (h : best inst seq ps = some b) : b ∈ certsOf ps ∧ b.inst = inst ∧ b.seq = seq := by
  rw [best_flat] at h
  rcases (best_is inst seq (certsOf ps) none).one with h1 | ⟨c, hc, e1, e2, e3⟩
  · rw [h1] at h; cases h
  · rw [e3] at h; cases h; exact ⟨hc, e1, e2⟩
theorem batches_len (inst : Int) (ps : List PD) : (batches inst ps).length = (greatest inst ps).toNat := by simp [batches]
theorem batches_get (inst : Int) (ps : List PD) (i : Nat) (h : i < (greatest inst ps).toNat) : (batches inst ps)[i]? = some (batchOf inst ((i : Int) + 1) ps) := by
  simp [batches, h]
theorem batches_take (inst : Int) (ps : List PD) (i : Nat) (h : i < (greatest inst ps).toNat) : (batches inst ps).take (i + 1) = (batches inst ps).take i ++ [batchOf inst ((i : Int) + 1) ps] := by
  rw [List.take_add_one, batches_get inst ps i h]; rfl
end Go.Proofs.Ytpkifmophmjilaa
