/- Requests and votes as cells; slices of them. -/
import Derived.Test.YtpkifmophmjilaaProg
import Derived.Test.YtpkifmophmjilaaFlat
import Derived.Test.YtpkifmophmjilaaOwn
import Derived.Test.YtpkifmophmjilaaOpen
import Derived.BigQuiet
namespace Go.Proofs.Ytpkifmophmjilaa
open Go.RowKit
set_option linter.unusedVariables false

/-- A request: client, time, kind, key, value, seal. -/
abbrev Rq := Int × Int × Int × Int × Int × Int
instance rq_dec : DecidableEq Rq := fun a b => inferInstance
instance rqs_dec : DecidableEq (List Rq) := @instDecidableEqList Rq rq_dec
instance bats_dec : DecidableEq (List (List Rq)) := @instDecidableEqList (List Rq) rqs_dec
def rqc (r : Rq) : List Value := [.int .i64 r.1, .int .i64 r.2.1, .int .i64 r.2.2.1, .int .i64 r.2.2.2.1, .int .i64 r.2.2.2.2.1, .int .i64 r.2.2.2.2.2]
theorem rqc_len (r : Rq) : (rqc r).length = 6 := rfl
theorem rqc_one (rs : List Rq) : ∀ v ∈ rs.flatMap rqc, v.oneCell' = true := by
  intro v hv
  obtain ⟨p, _, hp⟩ := List.mem_flatMap.1 hv
  simp only [rqc, List.mem_cons, List.not_mem_nil, or_false] at hp
  rcases hp with rfl | rfl | rfl | rfl | rfl | rfl <;> rfl
def RqI (r : Rq) : Prop := I64 r.1 ∧ I64 r.2.1 ∧ I64 r.2.2.1 ∧ I64 r.2.2.2.1 ∧ I64 r.2.2.2.2.1 ∧ I64 r.2.2.2.2.2
/-- A vote: a node and its seal. -/
abbrev Vo := Int × Int
def voc (v : Vo) : List Value := [.int .i64 v.1, .int .i64 v.2]
theorem voc_len (v : Vo) : (voc v).length = 2 := rfl
theorem voc_one (rs : List Vo) : ∀ v ∈ rs.flatMap voc, v.oneCell' = true := by
  intro v hv
  obtain ⟨p, _, hp⟩ := List.mem_flatMap.1 hv
  simp only [voc, List.mem_cons, List.not_mem_nil, or_false] at hp
  rcases hp with rfl | rfl <;> rfl
/-- Requests that lie at a slice. -/
structure RqRow (w : World) (a : Option Addr) (n c : Nat) (bs : List Rq) : Prop where
  row : VRow w a n 6 (bs.flatMap rqc)
  len : bs.length = n
  cap : n ≤ c
  max : c ≤ maxLen
structure VoRow (w : World) (a : Option Addr) (n c : Nat) (vs : List Vo) : Prop where
  row : VRow w a n 2 (vs.flatMap voc)
  len : vs.length = n
  cap : n ≤ c
  max : c ≤ maxLen
section
variable {w w' : World} {a : Option Addr} {n c : Nat} {bs : List Rq} {vs : List Vo}
theorem RqRow.below (h : RqRow w a n c bs) (hb : Below w.heap.size w w') : RqRow w' a n c bs := ⟨h.row.below hb, h.len, h.cap, h.max⟩
theorem VoRow.below (h : VoRow w a n c vs) (hb : Below w.heap.size w w') : VoRow w' a n c vs := ⟨h.row.below hb, h.len, h.cap, h.max⟩
theorem RqRow.nil (w : World) (a : Option Addr) (h : c ≤ maxLen) : RqRow w a 0 c [] := ⟨VRow.nil _ _ _, rfl, Nat.zero_le _, h⟩
theorem VoRow.nil (w : World) (a : Option Addr) (h : c ≤ maxLen) : VoRow w a 0 c [] := ⟨VRow.nil _ _ _, rfl, Nat.zero_le _, h⟩
theorem VoRow.get (h : VoRow w a n c vs) {k : Nat} (hk : k < n) : ∃ b off, a = some ⟨b, off, none⟩ ∧ b < w.heap.size ∧ ∃ x0 x1, vs[k]? = some (x0, x1) ∧ w.cell? ⟨b, off + k * 2, none⟩ = some (.int .i64 x0) ∧ w.cell? ⟨b, off + k * 2 + 1, none⟩ = some (.int .i64 x1) := by
  obtain ⟨b, off, rfl, hlt, hc⟩ := h.row.2 (by omega)
  have hk' : k < vs.length := by have := h.len; omega
  have key : ∀ j v, j < 2 → (voc vs[k])[j]? = some v → w.cell? ⟨b, off + k * 2 + j, none⟩ = some v := fun j v hj hv => by
    rw [Nat.add_assoc]
    exact hc _ _ (flat_get' voc 2 voc_len vs k j hj hk' v hv)
  exact ⟨b, off, rfl, hlt, _, _, List.getElem?_eq_getElem hk', key 0 _ (by omega) rfl, key 1 _ (by omega) rfl⟩
theorem RqRow.get (h : RqRow w a n c bs) {k : Nat} (hk : k < n) : ∃ b off, a = some ⟨b, off, none⟩ ∧ b < w.heap.size ∧ ∃ x0 x1 x2 x3 x4 x5, bs[k]? = some (x0, x1, x2, x3, x4, x5) ∧
    w.cell? ⟨b, off + k * 6, none⟩ = some (.int .i64 x0) ∧ w.cell? ⟨b, off + k * 6 + 1, none⟩ = some (.int .i64 x1) ∧ w.cell? ⟨b, off + k * 6 + 2, none⟩ = some (.int .i64 x2) ∧
    w.cell? ⟨b, off + k * 6 + 3, none⟩ = some (.int .i64 x3) ∧ w.cell? ⟨b, off + k * 6 + 4, none⟩ = some (.int .i64 x4) ∧ w.cell? ⟨b, off + k * 6 + 5, none⟩ = some (.int .i64 x5) := by
  obtain ⟨b, off, rfl, hlt, hc⟩ := h.row.2 (by omega)
  have hk' : k < bs.length := by have := h.len; omega
  have key : ∀ j v, j < 6 → (rqc bs[k])[j]? = some v → w.cell? ⟨b, off + k * 6 + j, none⟩ = some v := fun j v hj hv => by
    rw [Nat.add_assoc]
    exact hc _ _ (flat_get' rqc 6 rqc_len bs k j hj hk' v hv)
  exact ⟨b, off, rfl, hlt, _, _, _, _, _, _, List.getElem?_eq_getElem hk', key 0 _ (by omega) rfl, key 1 _ (by omega) rfl, key 2 _ (by omega) rfl, key 3 _ (by omega) rfl, key 4 _ (by omega) rfl, key 5 _ (by omega) rfl⟩
end
/-- From w to w' two lists part somewhere before k or are alike up to it. -/
theorem eq_of_upto {α : Type} {l l' : List α} {n : Nat} (h1 : l.length = n) (h2 : l'.length = n) (h : ∀ j, j < n → l[j]? = l'[j]?) : l = l' := by
  refine List.ext_getElem? fun j => ?_
  by_cases hj : j < n
  · exact h j hj
  · rw [List.getElem?_eq_none (by omega), List.getElem?_eq_none (by omega)]
end Go.Proofs.Ytpkifmophmjilaa
