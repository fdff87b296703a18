/- A clock's timers, rising, and the same ones in a list in whatever order. Plain. -/
import Derived.Test.YtfeepofdnjnkpaaClockR
import Derived.Test.YtfeepofdnjnkpaaClockW
namespace Go.Proofs.Ytfeepofdnjnkpaa
open Go.RowKit
set_option linter.unusedVariables false

/-- A list has just these timers, no id twice. -/
def Has (M : Int × Int → Prop) (P : List (Int × Int)) : Prop := (∀ x, x ∈ P ↔ M x) ∧ (P.map Prod.fst).Nodup
theorem Has.congr {M M' : Int × Int → Prop} {P : List (Int × Int)} (h : Has M P) (e : ∀ x, M x ↔ M' x) : Has M' P := ⟨fun x => (h.1 x).trans (e x), h.2⟩
theorem nodup_fst {P : List (Int × Int)} (h : (P.map Prod.fst).Nodup) {i j : Nat} (hi : i < P.length) (hj : j < P.length) (e : P[i].1 = P[j].1) : i = j := by
  have h1 : (P.map Prod.fst)[i]'(by simpa using hi) = (P.map Prod.fst)[j]'(by simpa using hj) := by simpa using e
  exact (List.getElem_inj h).1 h1
theorem Has.drop {M : Int × Int → Prop} {P : List (Int × Int)} (h : Has M P) {j : Nat} (hj : j < P.length) {id : Int} (e : P[j].1 = id) : Has (fun x => M x ∧ x.1 ≠ id) (P.take j ++ P.drop (j + 1)) := by
  refine ⟨fun x => ?_, ?_⟩
  · show x ∈ _ ↔ M x ∧ x.1 ≠ id
    rw [← h.1 x, List.mem_append]
    constructor
    · rintro (hx | hx)
      · obtain ⟨m, hm, rfl⟩ := List.mem_iff_getElem.1 hx
        rw [List.length_take] at hm
        rw [List.getElem_take]
        refine ⟨List.getElem_mem _, fun e2 => ?_⟩
        have := nodup_fst h.2 (by omega) hj (e2.trans e.symm)
        omega
      · obtain ⟨m, hm, rfl⟩ := List.mem_iff_getElem.1 hx
        rw [List.length_drop] at hm
        rw [List.getElem_drop]
        refine ⟨List.getElem_mem _, fun e2 => ?_⟩
        have := nodup_fst h.2 (by omega) hj (e2.trans e.symm)
        omega
    · rintro ⟨hx, hne⟩
      obtain ⟨m, hm, rfl⟩ := List.mem_iff_getElem.1 hx
      rcases Nat.lt_trichotomy m j with h1 | h1 | h1
      · exact .inl (List.mem_iff_getElem.2 ⟨m, by rw [List.length_take]; omega, by rw [List.getElem_take]⟩)
      · subst h1
        exact absurd e hne
      · exact .inr (List.mem_iff_getElem.2 ⟨m - (j + 1), by rw [List.length_drop]; omega, by rw [List.getElem_drop]; congr 1; omega⟩)
  · have hs : (P.take j ++ P.drop (j + 1)).Sublist P := by
      conv => rhs; rw [← List.take_append_drop j P]
      exact List.Sublist.append (List.Sublist.refl _) (by rw [← List.drop_drop]; exact List.drop_sublist _ _)
    exact (hs.map Prod.fst).nodup h.2
theorem Has.add {M : Int × Int → Prop} {P : List (Int × Int)} (h : Has M P) {id d : Int} (hn : ∀ x, M x → x.1 ≠ id) : Has (fun x => M x ∨ x = (id, d)) (P ++ [(id, d)]) := by
  refine ⟨fun x => ?_, ?_⟩
  · rw [List.mem_append, List.mem_singleton, h.1 x]
  · rw [List.map_append, List.nodup_append]
    refine ⟨h.2, by simp, fun a ha b hb e => ?_⟩
    obtain ⟨x, hx, rfl⟩ := List.mem_map.1 ha
    simp only [List.map_cons, List.map_nil, List.mem_singleton] at hb
    exact hn x ((h.1 x).1 hx) (e.trans hb)

abbrev Up (L : List (Int × Int)) : Prop := L.Pairwise fun p q => p.1 < q.1
theorem Up.lt {L : List (Int × Int)} (h : Up L) {i j : Nat} (hi : i < L.length) (hj : j < L.length) (hij : i < j) : L[i].1 < L[j].1 := List.pairwise_iff_getElem.1 h i j hi hj hij
theorem Up.inj {L : List (Int × Int)} (h : Up L) {x y : Int × Int} (hx : x ∈ L) (hy : y ∈ L) (e : x.1 = y.1) : x = y := by
  obtain ⟨i, hi, rfl⟩ := List.mem_iff_getElem.1 hx
  obtain ⟨j, hj, rfl⟩ := List.mem_iff_getElem.1 hy
  rcases Nat.lt_trichotomy i j with h1 | h1 | h1
  · have := h.lt hi hj h1; omega
  · subst h1; rfl
  · have := h.lt hj hi h1; omega
theorem Up.nodup {L : List (Int × Int)} (h : Up L) : L.Nodup := h.imp fun hlt e => by rw [e] at hlt; omega
theorem has_len {L P : List (Int × Int)} (hU : Up L) (h : Has (· ∈ L) P) : P.length = L.length := by
  have hn : P.Nodup := by
    have := h.2
    rw [List.Nodup, List.pairwise_map] at this
    exact this.imp fun hne e => hne (by rw [e])
  exact ((List.perm_ext_iff_of_nodup hn hU.nodup).2 h.1).length_eq
theorem place_ex : ∀ (L : List (Int × Int)) (id : Int), ∃ k is, Place L id k is
  | [], id => ⟨0, false, place_nil id⟩
  | p :: L, id => by
    by_cases h : p.1 < id
    · obtain ⟨k, is, hk⟩ := place_ex L id
      refine ⟨k + 1, is, ⟨by have := hk.le; simp; omega, fun i hi hik => ?_, fun hlt => ?_, fun hlt => ?_, fun hlt => hk.no (fun h2 => hlt (by simp; omega))⟩⟩
      · match i with
        | 0 => exact h
        | i + 1 => exact hk.low i (by simpa using hi) (by omega)
      · exact hk.high (by simpa using hlt)
      · exact hk.yes (by simpa using hlt)
    · exact ⟨0, p.1 == id, ⟨by simp, fun i hi hik => by omega, fun _ => h, fun _ => rfl, fun hlt => absurd (by simp) hlt⟩⟩
/-- The place of an id that is there, and one that is not. -/
theorem place_is {L : List (Int × Int)} {id : Int} {k : Nat} (h : Place L id k true) : ∃ hk : k < L.length, L[k].1 = id := by
  have hk := place_get h
  exact ⟨hk, by have := h.yes hk; simpa using this⟩
theorem place_not {L : List (Int × Int)} (hU : Up L) {id : Int} {k : Nat} (h : Place L id k false) : ∀ x ∈ L, x.1 ≠ id := by
  intro x hx e
  obtain ⟨m, hm, rfl⟩ := List.mem_iff_getElem.1 hx
  rcases Nat.lt_or_ge m k with h1 | h1
  · have := h.low m hm h1; omega
  · have hk : k < L.length := by omega
    have h2 := h.high hk
    have h3 := h.yes hk
    have h4 : L[k].1 ≠ id := by simpa using h3
    rcases Nat.lt_or_ge k m with h5 | h5
    · have := hU.lt hk hm h5; omega
    · have : k = m := by omega
      subst this
      exact h4 e
/-- What find tells, by the place. -/
theorem find_yes {L P : List (Int × Int)} (hU : Up L) (hP : Has (· ∈ L) P) {id i : Int} {k : Nat} (hf : FindAt P id i) (hp : Place L id k true) : ∃ (j : Nat) (hj : j < P.length) (hk : k < L.length), i = j ∧ P[j] = L[k] ∧ P[j].1 = id := by
  obtain ⟨hk, e⟩ := place_is hp
  have hm := (hP.1 L[k]).2 (List.getElem_mem hk)
  rcases hf with ⟨_, h2⟩ | ⟨j, hj, rfl, h2, _⟩
  · exact absurd e (h2 _ hm)
  · exact ⟨j, hj, hk, rfl, hU.inj ((hP.1 _).1 (List.getElem_mem hj)) (List.getElem_mem hk) (h2.trans e.symm), h2⟩
theorem find_not {L P : List (Int × Int)} (hU : Up L) (hP : Has (· ∈ L) P) {id i : Int} {k : Nat} (hf : FindAt P id i) (hp : Place L id k false) : i = -1 := by
  rcases hf with ⟨h1, _⟩ | ⟨j, hj, _, h2, _⟩
  · exact h1
  · exact absurd h2 (place_not hU hp _ ((hP.1 _).1 (List.getElem_mem hj)))
theorem up_cut {L : List (Int × Int)} (hU : Up L) (k : Nat) : Up (L.take k ++ L.drop (k + 1)) := by
  have hs : (L.take k ++ L.drop (k + 1)).Sublist L := by
    conv => rhs; rw [← List.take_append_drop k L]
    exact List.Sublist.append (List.Sublist.refl _) (by rw [← List.drop_drop]; exact List.drop_sublist _ _)
  exact hU.sublist hs
theorem mem_cut {L : List (Int × Int)} (hU : Up L) {k : Nat} (hk : k < L.length) (x : Int × Int) : x ∈ L.take k ++ L.drop (k + 1) ↔ x ∈ L ∧ x.1 ≠ L[k].1 := by
  have h : Has (· ∈ L) L := ⟨fun _ => Iff.rfl, by
    rw [List.Nodup, List.pairwise_map]
    exact hU.imp fun hlt e => by omega⟩
  exact (h.drop hk rfl).1 x
theorem mem_ins {L : List (Int × Int)} (k : Nat) (y x : Int × Int) : x ∈ insAt L k y ↔ x ∈ L ∨ x = y := by
  unfold insAt
  conv => rhs; rw [← List.take_append_drop k L]
  simp only [List.mem_append, List.mem_cons]
  constructor
  · rintro (h | h | h)
    · exact .inl (.inl h)
    · exact .inr h
    · exact .inl (.inr h)
  · rintro ((h | h) | h)
    · exact .inl h
    · exact .inr (.inr h)
    · exact .inr (.inl h)
theorem up_ins {L : List (Int × Int)} (hU : Up L) {id d : Int} {k : Nat} (h : Place L id k false) : Up (insAt L k (id, d)) := by
  have hno := place_not hU h
  unfold insAt
  have h1 : ∀ x ∈ L.take k, x.1 < id := fun x hx => by
    obtain ⟨m, hm, rfl⟩ := List.mem_iff_getElem.1 hx
    rw [List.length_take] at hm
    rw [List.getElem_take]
    exact h.low m (by omega) (by omega)
  have h2 : ∀ x ∈ L.drop k, id < x.1 := fun x hx => by
    obtain ⟨m, hm, rfl⟩ := List.mem_iff_getElem.1 hx
    rw [List.length_drop] at hm
    rw [List.getElem_drop]
    have hk : k < L.length := by omega
    have h3 := h.high hk
    have h4 := hno _ (List.getElem_mem hk)
    rcases Nat.eq_zero_or_pos m with h5 | h5
    · subst h5
      simp only [Nat.add_zero]
      omega
    · have := hU.lt hk (show k + m < L.length by omega) (by omega)
      omega
  rw [Up, List.pairwise_append]
  refine ⟨hU.sublist (List.take_sublist _ _), ?_, ?_⟩
  · rw [List.pairwise_cons]
    exact ⟨fun x hx => h2 x hx, hU.sublist (List.drop_sublist _ _)⟩
  · intro a ha b hb
    rcases List.mem_cons.1 hb with rfl | hb
    · exact h1 a ha
    · have := h1 a ha
      have := h2 b hb
      omega
theorem up_set {L : List (Int × Int)} (hU : Up L) {k : Nat} (hk : k < L.length) {y : Int × Int} (e : L[k].1 = y.1) : Up (L.set k y) := by
  rw [Up, List.pairwise_iff_getElem]
  intro i j hi hj hij
  rw [List.length_set] at hi hj
  rw [List.getElem_set, List.getElem_set]
  split
  · rename_i h1
    subst h1
    rw [if_neg (by omega), ← e]
    exact hU.lt hk hj hij
  · split
    · rename_i h1 h2
      subst h2
      rw [← e]
      exact hU.lt hi hk hij
    · exact hU.lt hi hj hij
theorem mem_set' {L : List (Int × Int)} (hU : Up L) {k : Nat} (hk : k < L.length) {y : Int × Int} (e : L[k].1 = y.1) (x : Int × Int) : x ∈ L.set k y ↔ (x ∈ L ∧ x.1 ≠ y.1) ∨ x = y := by
  constructor
  · intro hx
    obtain ⟨m, hm, rfl⟩ := List.mem_iff_getElem.1 hx
    rw [List.length_set] at hm
    rw [List.getElem_set]
    split
    · exact .inr rfl
    · rename_i h1
      refine .inl ⟨List.getElem_mem _, fun e2 => ?_⟩
      have := hU.inj (List.getElem_mem hm) (List.getElem_mem hk) (e2.trans e.symm)
      rcases Nat.lt_trichotomy k m with h3 | h3 | h3
      · have := hU.lt hk hm h3; omega
      · exact h1 h3
      · have := hU.lt hm hk h3; omega
  · rintro (⟨hx, hne⟩ | rfl)
    · obtain ⟨m, hm, rfl⟩ := List.mem_iff_getElem.1 hx
      refine List.mem_iff_getElem.2 ⟨m, by rw [List.length_set]; exact hm, ?_⟩
      rw [List.getElem_set, if_neg (fun h1 => by subst h1; exact hne e)]
    · exact List.mem_iff_getElem.2 ⟨k, by rw [List.length_set]; exact hk, by rw [List.getElem_set, if_pos rfl]⟩
/-- The clock's timers and the plain one's. -/
structure Mt (L P : List (Int × Int)) : Prop where
  up : Up L
  has : Has (· ∈ L) P
  bd : ∀ x ∈ L, I64 x.1 ∧ 0 ≤ x.2 ∧ x.2 ≤ 4194304
section
variable {L P : List (Int × Int)} {id d : Int} {k : Nat}
theorem Mt.len (h : Mt L P) : P.length = L.length := has_len h.up h.has
theorem Mt.fine (h : Mt L P) : ∀ p ∈ L, I64 p.1 ∧ I64 p.2 := fun p hp => by
  have := h.bd p hp
  exact ⟨this.1, by unfold I64; omega⟩
theorem Mt.put (h : Mt L P) (hp : Place L id k false) (hi : I64 id) (hd : 0 ≤ d ∧ d ≤ 4194304) : Mt (insAt L k (id, d)) (P ++ [(id, d)]) :=
  ⟨up_ins h.up hp, (h.has.add (place_not h.up hp)).congr fun x => (mem_ins k (id, d) x).symm, fun x hx => by
    rcases (mem_ins k (id, d) x).1 hx with h1 | rfl
    · exact h.bd x h1
    · exact ⟨hi, hd⟩⟩
theorem Mt.cut (h : Mt L P) (hk : k < L.length) {j : Nat} (hj : j < P.length) (e : P[j].1 = L[k].1) : Mt (L.take k ++ L.drop (k + 1)) (P.take j ++ P.drop (j + 1)) :=
  ⟨up_cut h.up k, (h.has.drop hj e).congr fun x => (mem_cut h.up hk x).symm, fun x hx => h.bd x ((mem_cut h.up hk x).1 hx).1⟩
theorem Mt.set (h : Mt L P) (hk : k < L.length) {j : Nat} (hj : j < P.length) (e : P[j].1 = L[k].1) (hd : 0 ≤ d ∧ d ≤ 4194304) : Mt (L.set k (L[k].1, d)) ((P.take j ++ P.drop (j + 1)) ++ [(L[k].1, d)]) :=
  ⟨up_set h.up hk rfl, ((h.has.drop hj e).add fun x hx => hx.2).congr fun x => (mem_set' h.up hk (y := (L[k].1, d)) rfl x).symm, fun x hx => by
    rcases (mem_set' h.up hk (y := (L[k].1, d)) rfl x).1 hx with h1 | rfl
    · exact h.bd x h1.1
    · exact ⟨(h.bd _ (List.getElem_mem hk)).1, hd⟩⟩
end
theorem Mt.nil : Mt [] [] := ⟨List.Pairwise.nil, ⟨fun _ => Iff.rfl, by simp⟩, by simp⟩

/-- What is left while the due ones, from the t-th on, are dropped. -/
def Rest (L : List (Int × Int)) (now : Int) (t : Nat) (x : Int × Int) : Prop := x ∈ L ∧ (now < x.2 ∨ x.1 ∈ (dueOf L now).drop t)
theorem rest_zero (L : List (Int × Int)) (now : Int) (x : Int × Int) : Rest L now 0 x ↔ x ∈ L := by
  unfold Rest
  rw [List.drop_zero]
  refine ⟨fun h => h.1, fun h => ⟨h, ?_⟩⟩
  by_cases hx : now < x.2
  · exact .inl hx
  · refine .inr (List.mem_map.2 ⟨x, List.mem_filter.2 ⟨h, decide_eq_true (by omega)⟩, rfl⟩)
theorem rest_end (L : List (Int × Int)) (now : Int) (x : Int × Int) : Rest L now (dueOf L now).length x ↔ x ∈ leftOf L now := by
  unfold Rest leftOf
  rw [List.drop_length, List.mem_filter, decide_eq_true_eq]
  simp
theorem due_up {L : List (Int × Int)} (hU : Up L) (now : Int) : (dueOf L now).Pairwise (· < ·) := by
  unfold dueOf
  rw [List.pairwise_map]
  exact hU.sublist List.filter_sublist
theorem due_has {L : List (Int × Int)} {now : Int} {t : Nat} (ht : t < (dueOf L now).length) : ∃ x ∈ L, x.1 = (dueOf L now)[t] ∧ x.2 ≤ now := by
  have hm := List.getElem_mem ht
  obtain ⟨x, hx, e⟩ := List.mem_map.1 hm
  obtain ⟨h1, h2⟩ := List.mem_filter.1 hx
  exact ⟨x, h1, e, of_decide_eq_true h2⟩
theorem rest_step {L : List (Int × Int)} (hU : Up L) (now : Int) {t : Nat} (ht : t < (dueOf L now).length) (x : Int × Int) : Rest L now (t + 1) x ↔ Rest L now t x ∧ x.1 ≠ (dueOf L now)[t] := by
  unfold Rest
  have hd : (dueOf L now).drop t = (dueOf L now)[t] :: (dueOf L now).drop (t + 1) := List.drop_eq_getElem_cons ht
  have hup := due_up hU now
  constructor
  · rintro ⟨h1, h2⟩
    rcases h2 with h2 | h2
    · refine ⟨⟨h1, .inl h2⟩, fun e => ?_⟩
      obtain ⟨y, hy, e1, e2⟩ := due_has ht
      have := hU.inj h1 hy (e.trans e1.symm)
      subst this
      omega
    · refine ⟨⟨h1, .inr (by rw [hd]; exact List.mem_cons_of_mem _ h2)⟩, fun e => ?_⟩
      obtain ⟨m, hm, e2⟩ := List.mem_iff_getElem.1 h2
      rw [List.length_drop] at hm
      rw [List.getElem_drop] at e2
      have := List.pairwise_iff_getElem.1 hup t (t + 1 + m) ht (by omega) (by omega)
      omega
  · rintro ⟨⟨h1, h2⟩, h3⟩
    refine ⟨h1, ?_⟩
    rcases h2 with h2 | h2
    · exact .inl h2
    · rw [hd] at h2
      rcases List.mem_cons.1 h2 with h4 | h4
      · exact absurd h4 h3
      · exact .inr h4
end Go.Proofs.Ytfeepofdnjnkpaa
