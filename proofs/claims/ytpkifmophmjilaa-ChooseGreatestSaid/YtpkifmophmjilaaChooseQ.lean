/- What ChooseGreatest looks for: plain. -/
import Derived.Test.YtpkifmophmjilaaChooseHo
namespace Go.Proofs.Ytpkifmophmjilaa
open Go.RowKit
set_option linter.unusedVariables false

/-- The state of its search: the greatest view, whether there is one, whether the batch is right. -/
abbrev GSt := Int × Bool × Bool
def gMatch (inst seq : Int) (c : CD) : Prop := c.inst = inst ∧ c.seq = seq
instance (inst seq : Int) (c : CD) : Decidable (gMatch inst seq c) := inferInstanceAs (Decidable (_ ∧ _))
def gStep (inst seq : Int) (lk : List Rq) (p : Nat) (s : GSt) (c : CD) : GSt :=
  if gMatch inst seq c then
    (if p = 0 then (if s.2.1 = false ∨ s.1 < c.view then c.view else s.1, true, s.2.2) else (s.1, s.2.1, if c.view = s.1 ∧ c.bs = lk then true else s.2.2))
  else s
def gPass (inst seq : Int) (lk : List Rq) (ps : List PD) : Nat → GSt
  | 0 => (0, false, false)
  | p + 1 => ps.foldl (fun s q => q.cs.foldl (gStep inst seq lk p) s) (gPass inst seq lk ps p)
theorem gPass_flat (inst seq : Int) (lk : List Rq) (ps : List PD) (p : Nat) : gPass inst seq lk ps (p + 1) = (certsOf ps).foldl (gStep inst seq lk p) (gPass inst seq lk ps p) := by
  show ps.foldl _ _ = _
  unfold certsOf
  rw [List.foldl_flatMap]
theorem gOne (inst seq : Int) (lk : List Rq) : ∀ (cs : List CD) (s : GSt), s.2.2 = false →
    (cs.foldl (gStep inst seq lk 0) s).2.2 = false ∧ ((cs.foldl (gStep inst seq lk 0) s).2.1 = true ↔ s.2.1 = true ∨ ∃ c ∈ cs, gMatch inst seq c) ∧
    (∀ c ∈ cs, gMatch inst seq c → c.view ≤ (cs.foldl (gStep inst seq lk 0) s).1) ∧ (s.2.1 = true → s.1 ≤ (cs.foldl (gStep inst seq lk 0) s).1) ∧
    ((cs.foldl (gStep inst seq lk 0) s).2.1 = true → (s.2.1 = true ∧ (cs.foldl (gStep inst seq lk 0) s).1 = s.1) ∨ ∃ c ∈ cs, gMatch inst seq c ∧ c.view = (cs.foldl (gStep inst seq lk 0) s).1)
  | [], s, h => ⟨h, by simp, by simp, fun _ => Int.le_refl _, fun hs => .inl ⟨hs, rfl⟩⟩
  | c :: cs, s, h => by
    rw [List.foldl_cons]
    by_cases hm : gMatch inst seq c
    · have e : gStep inst seq lk 0 s c = (if s.2.1 = false ∨ s.1 < c.view then c.view else s.1, true, s.2.2) := by unfold gStep; rw [if_pos hm, if_pos rfl]
      obtain ⟨h1, h2, h3, h4, h5⟩ := gOne inst seq lk cs (gStep inst seq lk 0 s c) (by rw [e]; exact h)
      have hv : c.view ≤ (gStep inst seq lk 0 s c).1 ∧ (s.2.1 = true → s.1 ≤ (gStep inst seq lk 0 s c).1) ∧ ((s.2.1 = true ∧ (gStep inst seq lk 0 s c).1 = s.1) ∨ (gStep inst seq lk 0 s c).1 = c.view) := by
        rw [e]
        simp only
        split
        · rename_i hh
          refine ⟨Int.le_refl _, fun hs => ?_, .inr rfl⟩
          rcases hh with hh | hh
          · rw [hs] at hh; cases hh
          · omega
        · rename_i hh
          exact ⟨by have : ¬ s.1 < c.view := fun h => hh (.inr h); omega, fun _ => Int.le_refl _, .inl ⟨by cases hb : s.2.1 with | true => rfl | false => exact absurd (.inl hb) hh, rfl⟩⟩
      have hi : (gStep inst seq lk 0 s c).2.1 = true := by rw [e]
      have h4' := h4 hi
      refine ⟨h1, ⟨fun _ => .inr ⟨c, by simp, hm⟩, fun _ => h2.2 (.inl hi)⟩, fun d hd hdm => ?_, fun hs => by have := hv.2.1 hs; omega, fun hr => ?_⟩
      · rcases List.mem_cons.1 hd with rfl | hd
        · omega
        · exact h3 d hd hdm
      · rcases h5 hr with ⟨_, h5⟩ | ⟨d, hd, h6, h7⟩
        · rcases hv.2.2 with ⟨h8, h9⟩ | h8
          · exact .inl ⟨h8, by omega⟩
          · exact .inr ⟨c, by simp, hm, by omega⟩
        · exact .inr ⟨d, List.mem_cons_of_mem _ hd, h6, h7⟩
    · have e : gStep inst seq lk 0 s c = s := by unfold gStep; rw [if_neg hm]
      rw [e]
      obtain ⟨h1, h2, h3, h4, h5⟩ := gOne inst seq lk cs s h
      refine ⟨h1, ⟨fun hh => ?_, fun hh => ?_⟩, fun d hd hdm => ?_, h4, fun hr => ?_⟩
      · rcases h2.1 hh with h6 | ⟨d, hd, h6⟩
        · exact .inl h6
        · exact .inr ⟨d, List.mem_cons_of_mem _ hd, h6⟩
      · refine h2.2 ?_
        rcases hh with h6 | ⟨d, hd, h6⟩
        · exact .inl h6
        · rcases List.mem_cons.1 hd with rfl | hd
          · exact absurd h6 hm
          · exact .inr ⟨d, hd, h6⟩
      · rcases List.mem_cons.1 hd with rfl | hd
        · exact absurd hdm hm
        · exact h3 d hd hdm
      · rcases h5 hr with h5 | ⟨d, hd, h6⟩
        · exact .inl h5
        · exact .inr ⟨d, List.mem_cons_of_mem _ hd, h6⟩
theorem gTwo (inst seq : Int) (lk : List Rq) : ∀ (cs : List CD) (s : GSt),
    (cs.foldl (gStep inst seq lk 1) s).1 = s.1 ∧ (cs.foldl (gStep inst seq lk 1) s).2.1 = s.2.1 ∧ (s.2.2 = true → (cs.foldl (gStep inst seq lk 1) s).2.2 = true) ∧
    ((∃ c ∈ cs, gMatch inst seq c ∧ c.view = s.1 ∧ c.bs = lk) → (cs.foldl (gStep inst seq lk 1) s).2.2 = true)
  | [], s => ⟨rfl, rfl, id, by simp⟩
  | c :: cs, s => by
    rw [List.foldl_cons]
    obtain ⟨h1, h2, h3, h4⟩ := gTwo inst seq lk cs (gStep inst seq lk 1 s c)
    have e : (gStep inst seq lk 1 s c).1 = s.1 ∧ (gStep inst seq lk 1 s c).2.1 = s.2.1 ∧ (s.2.2 = true → (gStep inst seq lk 1 s c).2.2 = true) ∧ (gMatch inst seq c → c.view = s.1 → c.bs = lk → (gStep inst seq lk 1 s c).2.2 = true) := by
      unfold gStep
      split
      · rw [if_neg (by decide)]
        refine ⟨rfl, rfl, fun h => ?_, fun _ a b => ?_⟩
        · simp only; split
          · rfl
          · exact h
        · simp only; rw [if_pos ⟨a, b⟩]
      · rename_i hh
        exact ⟨rfl, rfl, id, fun h => absurd h hh⟩
    refine ⟨h1.trans e.1, h2.trans e.2.1, fun h => h3 (e.2.2.1 h), ?_⟩
    rintro ⟨d, hd, hm, hv, hb⟩
    rcases List.mem_cons.1 hd with rfl | hd
    · exact h3 (e.2.2.2 hm hv hb)
    · exact h4 ⟨d, hd, hm, by rw [e.1]; exact hv, hb⟩
/-- What the two passes come to: a certificate that is there is right; where there is none the batch is empty. -/
theorem gEnd (inst seq : Int) (ps : List PD) : let s := gPass inst seq (batchOf inst seq ps) ps 2
    (s.2.1 = true → s.2.2 = true) ∧ (s.2.1 = false → batchOf inst seq ps = []) := by
  intro s
  obtain ⟨o1, o2, o3, o4, o5⟩ := gOne inst seq (batchOf inst seq ps) (certsOf ps) (0, false, false) rfl
  have e1 : gPass inst seq (batchOf inst seq ps) ps 1 = (certsOf ps).foldl (gStep inst seq (batchOf inst seq ps) 0) (0, false, false) := gPass_flat _ _ _ _ 0
  rw [← e1] at o1 o2 o3 o4 o5
  obtain ⟨t1, t2, t3, t4⟩ := gTwo inst seq (batchOf inst seq ps) (certsOf ps) (gPass inst seq (batchOf inst seq ps) ps 1)
  rw [← gPass_flat] at t1 t2 t3 t4
  refine ⟨fun h => ?_, fun h => ?_⟩
  · have h1 : (gPass inst seq (batchOf inst seq ps) ps 1).2.1 = true := t2.symm.trans h
    rcases o2.1 h1 with h2 | ⟨c, hc, hm⟩
    · cases h2
    · obtain ⟨b, hb, hv⟩ := best_all hc hm.1 hm.2
      obtain ⟨hbm, hb1, hb2⟩ := best_mem hb
      refine t4 ⟨b, hbm, ⟨hb1, hb2⟩, ?_, ?_⟩
      · have h3 := o3 b hbm ⟨hb1, hb2⟩
        have h5 : ∃ d ∈ certsOf ps, gMatch inst seq d ∧ (gPass inst seq (batchOf inst seq ps) ps 1).1 ≤ d.view := by
          rcases o5 h1 with ⟨h6, _⟩ | ⟨d, hd, h7, h8⟩
          · cases h6
          · exact ⟨d, hd, h7, by omega⟩
        obtain ⟨d, hd, h7, h8⟩ := h5
        obtain ⟨b', hb', hv'⟩ := best_all hd h7.1 h7.2
        rw [hb] at hb'
        cases hb'
        omega
      · unfold batchOf; rw [hb]; rfl
  · have h1 : (gPass inst seq (batchOf inst seq ps) ps 1).2.1 = false := t2.symm.trans h
    cases hb : best inst seq ps with
    | none => unfold batchOf; rw [hb]; rfl
    | some b =>
      obtain ⟨hbm, hb1, hb2⟩ := best_mem hb
      have := o2.2 (.inr ⟨b, hbm, hb1, hb2⟩)
      rw [h1] at this
      cases this
end Go.Proofs.Ytpkifmophmjilaa
