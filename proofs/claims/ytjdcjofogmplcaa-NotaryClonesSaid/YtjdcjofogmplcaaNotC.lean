/- Package notary: New, Find, Check, Len, Seal. -/
import Derived.Test.YtjdcjofogmplcaaNot
import Derived.Test.YtjdcjofogmplcaaPlan
import Derived.Test.YtjdcjofogmplcaaKeep
import Derived.Carry
namespace Go.Proofs.Ytjdcjofogmplcaa
open Go.RowKit Go.Maps
set_option linter.unusedVariables false

/-- The notary at n, its map at b. -/
structure Nty (w : World) (n b : Nat) (K : List (Int × List Int)) : Prop where
  obj : Blk w n 90 #[.map (some b)]
  map : NMap w b K
section
variable {w w' : World} {n b : Nat} {K : List (Int × List Int)}
theorem Nty.ne (h : Nty w n b K) : n ≠ b := by
  rintro rfl
  obtain ⟨es, cl, hb, _⟩ := h.map.ex
  have := h.obj
  unfold Blk at this
  rw [this] at hb
  cases hb
theorem Nty.only {S : List Nat} (h : Nty w n b K) (ho : Only S w w') (h1 : n ∉ S) (h2 : b ∉ S) : Nty w' n b K := ⟨h.obj.only ho h1, h.map.only ho h2⟩
theorem Nty.below (h : Nty w n b K) (hb : Below w.heap.size w w') : Nty w' n b K := h.only (Only.of_below (S := []) hb) (by simp) (by simp)
theorem Nty.drewN (h : Nty w n b K) (j : Nat) : Nty (w.drewN j) n b K := ⟨h.obj.drewN j, h.map.drewN j⟩
end

theorem nnew_c (w : World) : Calls Try.prog 15 #[] w fun e w' => ∃ n b, e = .returned (.pointer (some ⟨n, 0, none⟩)) ∧ Nty w' n b [] ∧ w.heap.size ≤ n ∧ w.heap.size ≤ b ∧ Below w.heap.size w w' := by
  have hmm := @run_makeMap Try.prog
  go_enter Try.func15, Try.ntmps15
  go_wp2
  go_ret
  have hb : Below w.heap.size w (w.alloc (.map #[] 0)) := (Below.refl _ _).alloc (Nat.le_refl _) _
  refine ⟨(w.alloc (.map #[] 0)).heap.size, w.heap.size, by simp, ⟨Blk.new _ _ _, ⟨⟨#[], 0, ?_, rfl, by simp, by simp⟩, by simp, by simp, by simp, ?_⟩⟩, by simp, Nat.le_refl _, hb.alloc hb.size _⟩
  · rw [Below.heap_alloc _ _ _ (by simp)]
    exact heap_alloc_new w _
  · intro es' cl' hb'
    rw [Below.heap_alloc _ _ _ (by simp)] at hb'
    have e := (heap_alloc_new w (.map #[] 0)).symm.trans hb'
    injection e with e
    injection e with e1 e2
    subst e1
    simp

theorem nlen_c (n b : Nat) (K : List (Int × List Int)) (w : World) (h : Nty w n b K) (m : Int) (hm : (K.length : Int) = m) :
    Calls Try.prog 20 #[.pointer (some ⟨n, 0, none⟩)] w fun e w' => e = .returned (.int .i64 m) ∧ w = w' := by
  subst hm
  have c0 : w.cell? ⟨n, 0, none⟩ = some (.map (some b)) := h.obj.cell 0
  have hl := h.map.len
  clear h
  go_enter Try.func20, Try.ntmps20
  go_wp2
  go_ret
  exact ⟨rfl, rfl⟩

theorem nfind_c (n b : Nat) (K : List (Int × List Int)) (p : Int) (a : Option Addr) (m c : Nat) (bs : List Int) (w : World) (h : Nty w n b K) (hv : VRow w a m 1 (brow bs)) (hq : OkE (p, bs)) (x : Int) (hx : num K (p, bs) = x) (is : Bool) (his : decide ((p, bs) ∈ K) = is) :
    Calls Try.prog 22 #[.pointer (some ⟨n, 0, none⟩), .int .i64 p, .slice a m c] w fun e w' => e = .returned (.tuple #[.int .i64 x, .bool is]) ∧ ∃ j, w' = w.drewN j := by
  subst hx
  subst his
  have c0 : w.cell? ⟨n, 0, none⟩ = some (.map (some b)) := h.obj.cell 0
  obtain ⟨s, hs⟩ : ∃ s, s = strOfNums bs := ⟨_, rfl⟩
  have f1 : ∀ j, (convert 33 9 (.slice a m c)).run Try.prog (w.drewN j) = .ok (.string s) (w.drewN j) := fun j => by rw [hs]; exact conv_bytes (w := w.drewN j) hv
  have f2 : ∀ j, (Instr.lookup 88 (.map (some b)) (.agg #[.int .i64 p, .string s]) true).run Try.prog (w.drewN j) = .ok (.tuple #[.int .i64 (num K (p, bs)), .bool (decide ((p, bs) ∈ K))]) (w.drewN j) := fun j => by
    have e := (h.map.drewN j).look hq
    rw [show kv (p, bs) = .agg #[.int .i64 p, .string s] by rw [hs]; rfl] at e
    exact e
  clear h hv hs
  go_enter Try.func22, Try.ntmps22
  go_wp2_with fail
  go_quiet (fail)
  go_wp2_with fail
  go_ret2
  exact ⟨rfl, _, rfl⟩

theorem ncheck_c (n b : Nat) (K : List (Int × List Int)) (p : Int) (a : Option Addr) (m c : Nat) (bs : List Int) (k : Int) (w : World) (h : Nty w n b K) (hv : VRow w a m 1 (brow bs)) (hq : OkE (p, bs)) (r : Bool) (hr : (decide ((p, bs) ∈ K) && decide (num K (p, bs) = k)) = r) :
    Calls Try.prog 19 #[.pointer (some ⟨n, 0, none⟩), .int .i64 p, .slice a m c, .int .i64 k] w fun e w' => e = .returned (.bool r) ∧ ∃ j, w' = w.drewN j := by
  have H := Lib.hid h
  have HV := Lib.hid hv
  have HQ := Lib.hid hq
  obtain ⟨x, hx⟩ : ∃ x, num K (p, bs) = x := ⟨_, rfl⟩
  rw [hx] at hr
  have HX := Lib.hid hx
  clear h hv hq hx
  by_cases hm : (p, bs) ∈ K
  · have HM := Lib.hid (decide_eq_true hm)
    rw [decide_eq_true hm, Bool.true_and] at hr
    clear hm
    by_cases hk : x = k
    · subst hk
      obtain rfl : true = r := by rw [← hr]; simp
      clear hr
      go_enter Try.func19, Try.ntmps19
      go_wp2_with fail
      refine (nfind_c n b K p a m c bs _ H.out HV.out HQ.out x HX.out true HM.out).mono ?_; rintro e w' ⟨rfl, j, rfl⟩
      go_wp2_with fail
      go_ret
      exact ⟨rfl, j, rfl⟩
    · obtain rfl : false = r := by rw [← hr]; simp [hk]
      clear hr
      have hk1 : (x == k) = false := by simp [hk]
      go_enter Try.func19, Try.ntmps19
      go_wp2_with fail
      refine (nfind_c n b K p a m c bs _ H.out HV.out HQ.out x HX.out true HM.out).mono ?_; rintro e w' ⟨rfl, j, rfl⟩
      go_wp2_with fail
      go_ret
      exact ⟨rfl, j, rfl⟩
  · have HM := Lib.hid (decide_eq_false hm)
    rw [decide_eq_false hm, Bool.false_and] at hr
    subst hr
    clear hm
    go_enter Try.func19, Try.ntmps19
    go_wp2_with fail
    refine (nfind_c n b K p a m c bs _ H.out HV.out HQ.out x HX.out false HM.out).mono ?_; rintro e w' ⟨rfl, j, rfl⟩
    go_wp2_with fail
    go_ret
    exact ⟨rfl, j, rfl⟩
end Go.Proofs.Ytjdcjofogmplcaa
