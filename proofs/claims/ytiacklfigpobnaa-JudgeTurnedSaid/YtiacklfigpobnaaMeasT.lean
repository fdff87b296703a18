/- What the laws on judge use of the measures: none, or a first one and the others; a slice without its first element. -/
import Derived.Test.YtiacklfigpobnaaMeas
import Derived.Test.YtiacklfigpobnaaJudgeL
namespace Go.Proofs.Ytiacklfigpobnaa
open Go.RowKit F
set_option linter.unusedVariables false

/-- Measures as the laws make them. -/
def Fine (zs : List (Int × Int)) : Prop := ∀ z ∈ zs, 0 ≤ z.1 ∧ z.1 < 1048576 ∧ 0 ≤ z.2 ∧ z.2 < 1048576
theorem Fine.usual {zs : List (Int × Int)} (h : Fine zs) : Usual zs := fun z hz => by have := h z hz; omega
theorem Fine.head {z : Int × Int} {zs : List (Int × Int)} (h : Fine (z :: zs)) : 0 ≤ z.1 ∧ z.1 < 1048576 ∧ 0 ≤ z.2 ∧ z.2 < 1048576 := h z (by simp)
theorem Fine.tail {z : Int × Int} {zs : List (Int × Int)} (h : Fine (z :: zs)) : Fine zs := fun x hx => h x (by simp [hx])
theorem measTo_fine (xs : List Int) (k : Nat) : Fine (measTo xs k) := by
  intro z hz
  simp only [measTo, List.mem_map] at hz
  obtain ⟨i, _, rfl⟩ := hz
  exact meas_bd _ _

/-- Both slices of some measures, the first one told. -/
structure Both (w : World) (b1 o1 c1 b2 o2 c2 n : Nat) (m0 m1 : Int) (rest : List (Int × Int)) : Prop where
  len : rest.length = n
  few : n ≤ 4
  fine : Fine ((m0, m1) :: rest)
  m : MRow w (some ⟨b1, o1, none⟩) (n + 1) ((m0, m1) :: rest)
  z : CRow w (some ⟨b2, o2, none⟩) (n + 1) ((m0, m1) :: rest)
  cm : n + 1 ≤ c1
  cz : n + 1 ≤ c2
theorem Both.below {w w' : World} {b1 o1 c1 b2 o2 c2 n : Nat} {m0 m1 : Int} {rest : List (Int × Int)} (h : Both w b1 o1 c1 b2 o2 c2 n m0 m1 rest) (hb : Below w.heap.size w w') : Both w' b1 o1 c1 b2 o2 c2 n m0 m1 rest :=
  ⟨h.len, h.few, h.fine, VRow.below h.m hb, VRow.below h.z hb, h.cm, h.cz⟩
section
variable {w : World} {b1 o1 c1 b2 o2 c2 n : Nat} {m0 m1 : Int} {rest : List (Int × Int)}
theorem Both.z0 (h : Both w b1 o1 c1 b2 o2 c2 n m0 m1 rest) : w.cell? ⟨b2, o2, none⟩ = some (.complex .f64 (fw m0) (fw m1)) := by
  obtain ⟨b, o, e, _, hc⟩ := h.z.2 (by omega)
  injection e with e
  injection e with e1 e2
  subst e1 e2
  exact hc 0 (cplx m0 m1) rfl
theorem Both.m0_ (h : Both w b1 o1 c1 b2 o2 c2 n m0 m1 rest) : w.cell? ⟨b1, o1, none⟩ = some (.int .i64 m0) ∧ w.cell? ⟨b1, o1 + 1, none⟩ = some (.int .i64 m1) := by
  obtain ⟨b, o, e, _, hc⟩ := h.m.2 (by omega)
  injection e with e
  injection e with e1 e2
  subst e1 e2
  have h0 := hc 0 (.int .i64 m0) rfl
  have h1 := hc 1 (.int .i64 m1) rfl
  exact ⟨by simpa using h0, h1⟩
end

/-- x[1:], in whatever world. -/
theorem from_one {P : Program} (T E s : Nat) (hT : P.underlying T = some (.slice E)) (hE : P.elem T = E) (hs : ∀ w : World, (sizeOf E).run P w = .ok s w) (b o n c : Nat) (hc : n + 1 ≤ c) :
    ∃ A, (∀ w : World, (Instr.slice T (.slice (some ⟨b, o, none⟩) (n + 1) c) (some (.int .i64 1)) none none).run P w = .ok (.slice A n (c - 1)) w) ∧
      ∀ (w : World) (vs : List Value), VRow w (some ⟨b, o, none⟩) (n + 1) s vs → VRow w A n s (vs.drop s) := by
  refine ⟨if c = 1 then some ⟨b, o, none⟩ else some ⟨b, o + s, none⟩, fun w => ?_, fun w vs h => ?_⟩
  · have h := run_slice_l (P := P) (w := w) T (some ⟨b, o, none⟩) (n + 1) c (by rw [hE]; exact hT) .i64 1 (by omega) (by omega)
    rw [h, hE, hs w]
    show Result.ok (sliced (some ⟨b, o, none⟩) 1 (n + 1) c s) w = _
    simp only [sliced, Option.map_some, addr_add, Nat.one_mul, Nat.add_sub_cancel]
  · by_cases h1 : n = 0
    · subst h1
      refine ⟨?_, fun h => absurd h (by omega)⟩
      rw [List.length_drop, h.1]
      omega
    · rw [if_neg (by omega)]
      obtain ⟨b', o', e, hv⟩ := h.from_ (k := 1) (by omega)
      injection e with e
      injection e with e1 e2
      subst e1 e2
      simpa using hv

theorem measures_t (a : Option Addr) (n c : Nat) (xs : List Int) (w : World) (hr : IntRow w a n xs) (hm : n ≤ maxLen) (hx : ∀ x ∈ xs, I64 x) :
    Calls Try.prog 24 #[.slice a n c] w fun e w' =>
      ((∃ a1 c1 a2 c2, e = .returned (.tuple #[.slice a1 0 c1, .slice a2 0 c2])) ∨
       (∃ b1 o1 c1 b2 o2 c2 n m0 m1 rest, e = .returned (.tuple #[.slice (some ⟨b1, o1, none⟩) (n + 1) c1, .slice (some ⟨b2, o2, none⟩) (n + 1) c2]) ∧ Both w' b1 o1 c1 b2 o2 c2 n m0 m1 rest)) ∧ Below w.heap.size w w' := by
  refine (measures_c a n c xs w hr hm hx).mono ?_
  rintro e w' ⟨a1, c1, a2, c2, rfl, h1, h2, h3, h4, hb⟩
  refine ⟨?_, hb⟩
  have hN : measN n ≤ 5 := by unfold measN; omega
  generalize measN n = N at *
  cases N with
  | zero => exact .inl ⟨a1, c1, a2, c2, rfl⟩
  | succ k =>
    obtain ⟨b1, o1, rfl, _, _⟩ := h1.2 (by omega)
    obtain ⟨b2, o2, rfl, _, _⟩ := h2.2 (by omega)
    have hl := measTo_length xs (k + 1)
    have hf := measTo_fine xs (k + 1)
    obtain ⟨z, rest, hz⟩ : ∃ z rest, measTo xs (k + 1) = z :: rest := by
      cases h : measTo xs (k + 1) with
      | nil => rw [h] at hl; simp at hl
      | cons z rest => exact ⟨z, rest, rfl⟩
    rw [hz] at h1 h2 hl hf
    exact .inr ⟨b1, o1, c1, b2, o2, c2, k, z.1, z.2, rest, rfl, by simpa using hl, by omega, hf, h1, h2, h3, h4⟩

theorem size_meas (w : World) : (sizeOf 42).run Try.prog w = .ok 2 w := by kernel_rfl
theorem size_cplx (w : World) : (sizeOf 39).run Try.prog w = .ok 1 w := by kernel_rfl
/-- Both slices without their first elements. -/
theorem Both.rest {w : World} {b1 o1 c1 b2 o2 c2 n : Nat} {m0 m1 : Int} {rest : List (Int × Int)} (h : Both w b1 o1 c1 b2 o2 c2 n m0 m1 rest) :
    ∃ A1 A2, (∀ w : World, (Instr.slice 34 (.slice (some ⟨b1, o1, none⟩) (n + 1) c1) (some (.int .i64 1)) none none).run Try.prog w = .ok (.slice A1 n (c1 - 1)) w) ∧
      (∀ w : World, (Instr.slice 35 (.slice (some ⟨b2, o2, none⟩) (n + 1) c2) (some (.int .i64 1)) none none).run Try.prog w = .ok (.slice A2 n (c2 - 1)) w) ∧
      MRow w A1 n rest ∧ CRow w A2 n rest := by
  obtain ⟨A1, r1, v1⟩ := from_one (P := Try.prog) 34 42 2 Try.underlying34 (by kernel_rfl) size_meas b1 o1 n c1 h.cm
  obtain ⟨A2, r2, v2⟩ := from_one (P := Try.prog) 35 39 1 Try.underlying35 (by kernel_rfl) size_cplx b2 o2 n c2 h.cz
  exact ⟨A1, A2, r1, r2, v1 _ _ h.m, v2 _ _ h.z⟩

theorem slow_0 (num den : Int) (w : World) (hnum : 0 ≤ num ∧ num ≤ 64) (hden : 0 ≤ den ∧ den ≤ 64) :
    Calls Try.prog 25 #[.int .i64 num, .int .i64 den, .complex .f64 0 0, .slice none 0 0] w fun e w' => e = .returned (.bool false) ∧ w = w' := by
  have h := slow_c num den 0 0 none 0 0 [] w (VRow.nil w none 1) (fun z hz => by simp at hz) (by omega) hnum hden (by omega) (Small.of (by omega) (by omega))
  rw [fw_zero] at h
  exact h
theorem late_0 (om : Int) (w : World) (hom : 0 ≤ om ∧ om ≤ 64) :
    Calls Try.prog 32 #[.int .i64 om, .complex .f64 0 0, .slice none 0 0] w fun e w' => e = .returned (.bool false) ∧ w = w' := by
  have h := late_c om 0 0 none 0 0 [] w (VRow.nil w none 1) (fun z hz => by simp at hz) (by omega) hom (by omega) (by omega)
  rw [fw_zero, show lateB om 0 0 [] = false from by simp [lateB]] at h
  exact h
theorem slow_none (num den mn mt : Int) (w : World) (hnum : 0 ≤ num ∧ num ≤ 64) (hden : 0 ≤ den ∧ den ≤ 64) (hm : 0 ≤ mn ∧ mn ≤ 134217728) (ht : Small mt) :
    Calls Try.prog 25 #[.int .i64 num, .int .i64 den, .complex .f64 (fw mn) (fw mt), .slice none 0 0] w fun e w' => e = .returned (.bool false) ∧ w = w' :=
  slow_c num den mn mt none 0 0 [] w (VRow.nil w none 1) (fun z hz => by simp at hz) (by omega) hnum hden hm ht
theorem late_none (om mn mt : Int) (w : World) (hom : 0 ≤ om ∧ om ≤ 64) (hm : 0 ≤ mn ∧ mn ≤ 1048576) (ht : 0 ≤ mt ∧ mt ≤ 134217728) :
    Calls Try.prog 32 #[.int .i64 om, .complex .f64 (fw mn) (fw mt), .slice none 0 0] w fun e w' => e = .returned (.bool false) ∧ w = w' := by
  have h := late_c om mn mt none 0 0 [] w (VRow.nil w none 1) (fun z hz => by simp at hz) (by omega) hom hm ht
  rw [show lateB om mn mt [] = false from by simp [lateB, sumN]] at h
  exact h
end Go.Proofs.Ytiacklfigpobnaa
