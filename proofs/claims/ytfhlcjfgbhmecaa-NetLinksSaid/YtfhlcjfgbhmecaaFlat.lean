/- Rows of cells: a list of things, each of s cells, one behind the other. Plain lists. -/
import Derived.Test.YtfhlcjfgbhmecaaOnly
namespace Go.Proofs.Ytfhlcjfgbhmecaa
open Go.RowKit
set_option linter.unusedVariables false
section
variable {α β : Type}

theorem flat_len (f : α → List β) (s : Nat) (hs : ∀ x, (f x).length = s) : ∀ st : List α, (st.flatMap f).length = st.length * s
  | [] => by simp
  | y :: ys => by simp [flat_len f s hs ys, hs, Nat.add_mul, Nat.add_comm]
theorem flat_get (f : α → List β) (s : Nat) (hs : ∀ x, (f x).length = s) : ∀ (st : List α) (k j : Nat), j < s → (st.flatMap f)[k * s + j]? = st[k]?.bind fun x => (f x)[j]?
  | [], k, j, hj => by simp
  | y :: ys, 0, j, hj => by
    rw [List.flatMap_cons, List.getElem?_append_left (by rw [hs]; omega)]
    simp
  | y :: ys, k + 1, j, hj => by
    have e : (k + 1) * s + j = s + (k * s + j) := by rw [Nat.add_mul]; omega
    rw [List.flatMap_cons, List.getElem?_append_right (by rw [hs, e]; omega), hs, e, Nat.add_sub_cancel_left, flat_get f s hs ys k j hj]
    simp

/-- Several things set, one behind the other. -/
def setMany : List β → Nat → List β → List β
  | L, _, [] => L
  | L, i, v :: vs => setMany (L.set i v) (i + 1) vs
theorem setMany_right (A : List β) : ∀ (B R : List β) (i : Nat), setMany (A ++ R) (A.length + i) B = A ++ setMany R i B
  | [], R, i => rfl
  | v :: vs, R, i => by
    unfold setMany
    rw [List.set_append_right _ _ (by omega), Nat.add_sub_cancel_left, Nat.add_assoc, setMany_right A vs _ (i + 1)]
theorem setMany_left : ∀ (B A R : List β), A.length = B.length → setMany (A ++ R) 0 B = B ++ R
  | [], [], R, h => rfl
  | v :: vs, a :: as, R, h => by
    have e := setMany_right [v] vs (as ++ R) 0
    unfold setMany
    show setMany (v :: (as ++ R)) (0 + 1) vs = _
    have e' : setMany (v :: (as ++ R)) (0 + 1) vs = v :: setMany (as ++ R) 0 vs := by simpa using e
    rw [e', setMany_left vs as R (by simpa using h)]
    rfl
theorem flat_set (f : α → List β) (s : Nat) (hs : ∀ x, (f x).length = s) (x : α) : ∀ (st : List α) (k : Nat), k < st.length → setMany (st.flatMap f) (k * s) (f x) = (st.set k x).flatMap f
  | y :: ys, 0, _ => by
    rw [List.flatMap_cons, Nat.zero_mul, setMany_left _ _ _ (by rw [hs, hs])]
    rfl
  | y :: ys, k + 1, h => by
    have e : (k + 1) * s = (f y).length + k * s := by rw [hs, Nat.add_mul]; omega
    rw [List.flatMap_cons, e, setMany_right, flat_set f s hs x ys k (by simpa using h)]
    rfl
theorem flat_set2 (f : α → List β) (hs : ∀ x, (f x).length = 2) (x : α) (a b : β) (hx : f x = [a, b]) (st : List α) (k : Nat) (h : k < st.length) :
    ((st.flatMap f).set (k * 2) a).set (k * 2 + 1) b = (st.set k x).flatMap f := by
  rw [← flat_set f 2 hs x st k h, hx]
  rfl
theorem flat_set3 (f : α → List β) (hs : ∀ x, (f x).length = 3) (x : α) (a b c : β) (hx : f x = [a, b, c]) (st : List α) (k : Nat) (h : k < st.length) :
    (((st.flatMap f).set (k * 3) a).set (k * 3 + 1) b).set (k * 3 + 1 + 1) c = (st.set k x).flatMap f := by
  rw [← flat_set f 3 hs x st k h, hx]
  rfl
theorem flat_get' (f : α → List β) (s : Nat) (hs : ∀ x, (f x).length = s) (st : List α) (k j : Nat) (hj : j < s) (hk : k < st.length) (v : β) (hv : (f st[k])[j]? = some v) : (st.flatMap f)[k * s + j]? = some v := by
  rw [flat_get f s hs st k j hj, List.getElem?_eq_getElem hk]
  exact hv
end
end Go.Proofs.Ytfhlcjfgbhmecaa
