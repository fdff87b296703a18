/- Package meter: Reset; the law's measures: at, same, copies. -/
import Derived.Test.YtfeepofdnjnkpaaMeterM
import Derived.Test.YtfeepofdnjnkpaaApp
import Derived.Test.YtfeepofdnjnkpaaPlan
import Derived.Test.YtfeepofdnjnkpaaFlat
import Derived.Deep.DeepCutAuto
namespace Go.Proofs.Ytfeepofdnjnkpaa
open Go.RowKit F
set_option linter.unusedVariables false
attribute [local go_sem] run_store_complex

/-- A measure's cells. -/
def pmc (z : Int × Int) : List Value := [.int .i64 z.1, .int .i64 z.2]
theorem pmc_len (z : Int × Int) : (pmc z).length = 2 := rfl
theorem pmc_one (st : List (Int × Int)) : ∀ v ∈ st.flatMap pmc, v.oneCell' = true := by
  intro v hv
  obtain ⟨p, _, hp⟩ := List.mem_flatMap.1 hv
  simp only [pmc, List.mem_cons, List.not_mem_nil, or_false] at hp
  rcases hp with rfl | rfl <;> rfl
/-- Measures of the law's own, at gp. -/
def PRw (w : World) (gp cap : Nat) (st : List (Int × Int)) : Prop := Row w gp 23 2 st.length cap (st.flatMap pmc)
section
variable {w w' : World} {gp cap : Nat} {st : List (Int × Int)} {S : List Nat}
theorem PRw.c0 (h : PRw w gp cap st) (k : Nat) (hk : k < st.length) : w.cell? ⟨gp, k * 2, none⟩ = some (.int .i64 st[k].1) := Row.cell h (flat_get' pmc 2 pmc_len st k 0 (by omega) hk _ rfl)
theorem PRw.c1 (h : PRw w gp cap st) (k : Nat) (hk : k < st.length) : w.cell? ⟨gp, k * 2 + 1, none⟩ = some (.int .i64 st[k].2) := Row.cell h (flat_get' pmc 2 pmc_len st k 1 (by omega) hk _ rfl)
theorem PRw.fr (h : PRw w gp cap st) (k : Nat) : w.frozen? ⟨gp, k, none⟩ = false := Row.frozen h k
theorem PRw.lt (h : PRw w gp cap st) : gp < w.heap.size := Row.lt h
theorem PRw.only (h : PRw w gp cap st) (ho : Only S w w') (hn : gp ∉ S) : PRw w' gp cap st := Row.only h ho hn
theorem PRw.below (h : PRw w gp cap st) (hb : Below w.heap.size w w') : PRw w' gp cap st := Row.below h hb
theorem PRw.drewN (h : PRw w gp cap st) (k : Nat) : PRw (w.drewN k) gp cap st := Row.drewN h k
theorem PRw.set (h : PRw w gp cap st) {k : Nat} (hk : k < st.length) (a b : Int) : PRw ((w.setCell ⟨gp, k * 2, none⟩ (.int .i64 a)).setCell ⟨gp, k * 2 + 1, none⟩ (.int .i64 b)) gp cap (st.set k (a, b)) := by
  have e := Row.set_ (Row.set_ h (k * 2) (.int .i64 a)) (k * 2 + 1) (.int .i64 b)
  unfold PRw
  rw [List.length_set, ← flat_set2 pmc pmc_len (a, b) _ _ rfl st k hk]
  exact e
theorem PRw.vrow (h : PRw w gp cap st) : VRow w (some ⟨gp, 0, none⟩) st.length 2 (st.flatMap pmc) := own_vrow h
end

set_option maxHeartbeats 1600000 in
theorem reset_c (gm gl : Nat) (st : List (Int × Int)) (w : World) (h : Meter w gm gl st) (hn : st.length ≤ 5) :
    Calls Try.prog 20 #[.pointer (some ⟨gm, 0, none⟩)] w fun e w' => e = .returned (.tuple #[]) ∧ Meter w' gm gl (List.replicate st.length (0, 0)) ∧ Only [gl] w w' := by
  obtain ⟨cap, _, _, h1⟩ := h.head
  have H := Lib.hid h
  obtain ⟨n, hnn⟩ : ∃ n, n = st.length := ⟨_, rfl⟩
  rw [← hnn] at h1 hn ⊢
  have N := Lib.hid hnn
  clear h hnn
  go_enter Try.func20, Try.ntmps20
  go_wp2_with fail
  go_loopw [8] (fun i wr => ∃ (k : Nat) (L : List (Int × Int)), k ≤ n ∧ i = .int .i64 k ∧ Meter wr gm gl L ∧ L.length = n ∧ (∀ j, j < k → L[j]? = some (0, 0)) ∧ Only [gl] w wr) (fun i _ => n - (intOf i).toNat)
  case atStart => exact ⟨0, st, by omega, rfl, H.out, N.out.symm, by simp, Only.refl _ _⟩
  case round =>
    obtain ⟨k, L, hk, rfl, hM, hL, hz, ho⟩ := hrel
    obtain ⟨cap2, _, _, g1⟩ := hM.head
    have M := Lib.hid hM
    have LL := Lib.hid hL
    have ZZ := Lib.hid hz
    have O := Lib.hid ho
    rw [hL] at g1
    by_cases hlt : k < n
    · have c0 := hM.at_ k (by omega)
      have f0 := hM.fr k
      unfold cplx at c0
      obtain ⟨z, hz1⟩ : ∃ z, z = L[k]'(by omega) := ⟨_, rfl⟩
      rw [← hz1] at c0
      clear hz1
      have i0 : (0 : Int) ≤ k := by omega
      have i1 : (k : Int) < n := by omega
      clear hM hL hz ho
      go_wp2_with fail
      go_roundw
      case rel =>
        refine ⟨k + 1, L.set k (0, 0), by omega, by go_num, ?_, by rw [List.length_set]; exact LL.out, fun j hj => ?_, O.out.setCell (.inl (by simp)) _⟩
        · have e := M.out.set (n := k) (by have := LL.out; omega) 0 0
          unfold cplx at e
          rw [fw_zero] at e
          exact e
        · rw [List.getElem?_set]
          split
          · rename_i e
            subst e
            rw [if_pos (by have := LL.out; omega)]
          · exact ZZ.out j (by omega)
      case measure => simp [intOf]; omega
    · have e : L = List.replicate n (0, 0) := by
        apply List.ext_getElem?
        intro j
        rw [List.getElem?_replicate]
        by_cases hj : j < n
        · rw [if_pos hj]; exact ZZ.out j (by omega)
        · rw [if_neg hj, List.getElem?_eq_none (by have := LL.out; omega)]
      rw [e] at M
      clear hM hL hz ho e
      go_wp2_with fail
      go_end0
      exact ⟨rfl, M.out, O.out⟩
end Go.Proofs.Ytfeepofdnjnkpaa
