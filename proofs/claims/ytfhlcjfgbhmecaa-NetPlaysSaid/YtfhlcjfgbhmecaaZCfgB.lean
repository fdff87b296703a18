/- NetX, CfgB. -/
import Derived.Test.YtfhlcjfgbhmecaaZApp
import Derived.Test.YtfhlcjfgbhmecaaProg
import Derived.WalkKit
import Derived.OpenShut
import Derived.Below
import Derived.Outline
import Derived.Lib.Hide
/- A net in the making: parties, rows so far, queues so far. -/
namespace Go.Proofs.Ytfhlcjfgbhmecaa
open Go.RowKit
set_option linter.unusedVariables false
set_option maxRecDepth 100000

abbrev pints (ps : List Int) : List Value := ps.map fun (x : Int) => Value.int .i64 x
abbrev ptrs (q : Nat → Nat) (o n : Nat) : List Value := (List.range n).map fun b => Value.pointer (some ⟨q (o + b), 0, none⟩)
theorem ptrs_congr {q q' : Nat → Nat} {o n : Nat} (h : ∀ k, k < o + n → q' k = q k) : ptrs q' o n = ptrs q o n := by
  unfold ptrs
  refine List.map_congr_left fun b hb => ?_
  rw [h (o + b) (by have := List.mem_range.1 hb; omega)]
section
variable {w w' : World} {N : Nat} {q g : Nat → Nat} {room : Int} {lost : Nat → Int} {ms : Nat → List (Value × List Int)}
theorem Qs.add2 (h : Qs w N q g room lost ms) (hb : Below w.heap.size w w') {x y : Nat} {l : Int} {m : List (Value × List Int)} (hx : Que w' x y room l m) (hge : w.heap.size ≤ x) (hge2 : w.heap.size ≤ y) : Qs w' (N + 1) (upq q N x) (upq g N y) room (upq lost N l) (upq ms N m) := by
  refine ⟨fun k hk => ?_, fun i j hi hj hne => ?_⟩
  · by_cases e : k = N
    · subst e; rw [upq_same, upq_same, upq_same, upq_same]; exact hx
    · rw [upq_ne _ _ e, upq_ne _ _ e, upq_ne _ _ e, upq_ne _ _ e]; exact (h.que k (by omega)).below hb
  · by_cases ei : i = N
    · subst ei
      have ej : j ≠ i := fun e => hne e.symm
      rw [upq_same, upq_same, upq_ne _ _ ej, upq_ne _ _ ej]
      have l1 := (h.que j (by omega)).lt
      have l2 := (h.que j (by omega)).glt
      exact ⟨by omega, by omega, by omega, by omega⟩
    · by_cases ej : j = N
      · subst ej
        rw [upq_same, upq_same, upq_ne _ _ ei, upq_ne _ _ ei]
        have l1 := (h.que i (by omega)).lt
        have l2 := (h.que i (by omega)).glt
        exact ⟨by omega, by omega, by omega, by omega⟩
      · rw [upq_ne _ _ ei, upq_ne _ _ ei, upq_ne _ _ ej, upq_ne _ _ ej]
        exact h.apart i j (by omega) (by omega) hne
/-- Blocks of another kind turn: the queues stand. -/
theorem Qs.kinds (h : Qs w N q g room lost ms) {S : List Nat} {t : TypeId} (ho : Only S w w') (hS : ∀ k ∈ S, ∃ cs, Blk w k t cs) (h1 : t ≠ 161) (h2 : t ≠ 59) (h3 : t ≠ 5) : Qs w' N q g room lost ms := by
  refine ⟨fun k hk => ?_, h.apart⟩
  have T := (h.que k hk).types
  have no : ∀ x ∈ [q k, g k], x ∉ S := fun x hx hm => by
    obtain ⟨cs, hcs⟩ := hS x hm
    rcases T x hx _ _ hcs with e | e
    · exact h1 e
    · exact h2 e
  refine (h.que k hk).only ho (no _ (by simp)) (no _ (by simp)) fun x hx cs hb => ?_
  obtain ⟨cs', hcs'⟩ := hS x hx
  unfold Blk at hb hcs'
  rw [hb] at hcs'
  injection hcs' with hcs'
  injection hcs' with _ e
  exact h3 e.symm
end
/-- The net at gn in the making: its parties ps, a rows of n, N queues; rows lie below L. -/
structure NX (B : Nat) (w : World) (gn n a N L : Nat) (ps : List Int) (q g : Nat → Nat) (room : Int) (lost : Nat → Int) (ms : Nat → List (Value × List Int)) (ap : Option Addr) (cp : Nat) (al : Option Addr) (cl : Nat) (ra : Nat → Option Addr) (rc : Nat → Nat) : Prop where
  blk : Blk w gn 116 #[.slice ap n cp, .slice al a cl]
  par : w.ownsRow B 3 1 (.slice ap n cp) n (pints ps)
  rows : w.ownsRow B 117 1 (.slice al a cl) a ((List.range a).map fun a => Value.slice (ra a) n (rc a))
  row : ∀ x, x < a → w.ownsRow B 118 1 (.slice (ra x) n (rc x)) n (ptrs q (x * n) n) ∧ ∀ k, (ra x).map (·.block) = some k → k < L
  qs : Qs w N q g room lost ms
  ge : B ≤ gn ∧ ∀ k, k < N → B ≤ q k ∧ B ≤ g k
  aN : a * n ≤ N
def NM (B : Nat) (w : World) (gn n a N L : Nat) (ps : List Int) (q g : Nat → Nat) (room : Int) (lost : Nat → Int) (ms : Nat → List (Value × List Int)) : Prop :=
  ∃ ap cp al cl ra rc, NX B w gn n a N L ps q g room lost ms ap cp al cl ra rc
section
variable {B : Nat} {w w' : World} {gn n a N L : Nat} {ps : List Int} {q g : Nat → Nat} {room : Int} {lost : Nat → Int} {ms : Nat → List (Value × List Int)}
theorem NM.below (h : NM B w gn n a N L ps q g room lost ms) (hb : Below w.heap.size w w') : NM B w' gn n a N L ps q g room lost ms := by
  obtain ⟨ap, cp, al, cl, ra, rc, h1, h2, h3, h4, hq, hge, haN⟩ := h
  exact ⟨ap, cp, al, cl, ra, rc, h1.below hb h1.lt, own_below h2 hb, own_below h3 hb, fun a ha => ⟨own_below (h4 a ha).1 hb, (h4 a ha).2⟩, hq.below hb, hge, haN⟩
theorem NM.up (h : NM B w gn n a N L ps q g room lost ms) {L' : Nat} (hL : L ≤ L') : NM B w gn n a N L' ps q g room lost ms := by
  obtain ⟨ap, cp, al, cl, ra, rc, h1, h2, h3, h4, hq, hge, haN⟩ := h
  exact ⟨ap, cp, al, cl, ra, rc, h1, h2, h3, fun a ha => ⟨(h4 a ha).1, fun k hk => Nat.lt_of_lt_of_le ((h4 a ha).2 k hk) hL⟩, hq, hge, haN⟩
theorem NM.nt (h : NM B w gn n n (n * n) L ps q g room lost ms) : Nt B w gn n ps q g room lost ms := by
  obtain ⟨ap, cp, al, cl, ra, rc, h1, h2, h3, h4, hq, hge, haN⟩ := h
  exact ⟨⟨ap, cp, al, cl, ra, rc, h1, h2, h3, fun a ha => (h4 a ha).1⟩, hq⟩
theorem NM.add (h : NM B w gn n a N L ps q g room lost ms) (hb : Below w.heap.size w w') (hB : B ≤ w.heap.size) {x y : Nat} {l : Int} {m : List (Value × List Int)} (hx : Que w' x y room l m) (hge1 : w.heap.size ≤ x) (hge2 : w.heap.size ≤ y) :
    NM B w' gn n a (N + 1) L ps (upq q N x) (upq g N y) room (upq lost N l) (upq ms N m) := by
  obtain ⟨ap, cp, al, cl, ra, rc, h1, h2, h3, h4, hq, hge, haN⟩ := h
  refine ⟨ap, cp, al, cl, ra, rc, h1.below hb h1.lt, own_below h2 hb, own_below h3 hb, fun z hz => ⟨?_, (h4 z hz).2⟩, hq.add2 hb hx hge1 hge2, ⟨hge.1, fun k hk => ?_⟩, by omega⟩
  · rw [ptrs_congr (q := q) (fun k hk => upq_ne _ _ ?_)]
    · exact own_below (h4 z hz).1 hb
    · have e1 := Nat.mul_le_mul_right n (show z + 1 ≤ a by omega)
      rw [Nat.succ_mul] at e1
      omega
  · by_cases e : k = N
    · subst e; rw [upq_same, upq_same]; exact ⟨by omega, by omega⟩
    · rw [upq_ne _ _ e, upq_ne _ _ e]; exact hge.2 k (by omega)
/-- A row in the making turns. -/
theorem NM.grow (h : NM B w gn n a N L ps q g room lost ms) {S : List Nat} (ho : Only S w w') (hS : ∀ k ∈ S, L ≤ k ∧ ∃ cs, Blk w k 118 cs) : NM B w' gn n a N L ps q g room lost ms := by
  obtain ⟨ap, cp, al, cl, ra, rc, h1, h2, h3, h4, hq, hge, haN⟩ := h
  have T : ∀ k ∈ S, ∀ cs t, Blk w k t cs → t = 118 ∨ t = 118 := fun k hk cs t hb => by
    obtain ⟨_, cs', hb'⟩ := hS k hk
    unfold Blk at hb hb'
    rw [hb] at hb'
    injection hb' with hb'
    injection hb' with _ e
    exact .inl e
  refine ⟨ap, cp, al, cl, ra, rc, h1.only ho fun hm => ?_, own_kinds h2 ho T (by decide) (by decide), own_kinds h3 ho T (by decide) (by decide), fun x hx => ⟨own_only (h4 x hx).1 ho fun k hk hm => ?_, (h4 x hx).2⟩, hq.kinds ho (fun k hk => (hS k hk).2) (by decide) (by decide) (by decide), hge, haN⟩
  · rcases T _ hm _ _ h1 with e | e
    · exact absurd e (by decide)
    · exact absurd e (by decide)
  · have e1 := (h4 x hx).2 k (by rw [← own_block_eq]; exact hk)
    have e2 := (hS k hm).1
    omega
end
/-- The blocks of a row of one's own. -/
theorem own_blks {w : World} {base e s n c : Nat} {a : Option Addr} {xs : List Value} (h : w.ownsRow base e s (.slice a n c) n xs) : ∀ k ∈ (a.map (·.block)).toList, base ≤ k ∧ ∃ cs, Blk w k e cs := by
  intro k hk
  have hk' : a.map (·.block) = some k := Option.mem_toList.1 hk
  refine ⟨(World.ownsRow.lt h k (by rw [own_block_eq]; exact hk')).1, ?_⟩
  rcases h.2 with ⟨hv, _⟩ | ⟨g, cap, cur, hv, _, hh, _⟩
  · injection hv with hv
    subst hv
    cases hk'
  · injection hv with hv
    subst hv
    simp at hk'
    subst hk'
    exact ⟨cur, hh⟩
section
variable {B : Nat} {w w5 w8 : World} {gn n a N L : Nat} {ps : List Int} {q g : Nat → Nat} {room : Int} {lost : Nat → Int} {ms : Nat → List (Value × List Int)}
variable {ap : Option Addr} {cp : Nat} {al : Option Addr} {cl : Nat} {ra : Nat → Option Addr} {rc : Nat → Nat}
theorem NX.nm (h : NX B w gn n a N L ps q g room lost ms ap cp al cl ra rc) : NM B w gn n a N L ps q g room lost ms := ⟨_, _, _, _, _, _, h⟩
/-- One row more. -/
theorem NX.row_ (h : NX B w gn n a N L ps q g room lost ms ap cp al cl ra rc)
    (hN : N = a * n + n) {ar : Option Addr} {cr : Nat} (hr : w.ownsRow L 118 1 (.slice ar n cr) n (ptrs q (a * n) n)) (hBL : B ≤ L) (hb : Below w.heap.size w w5) {al' : Option Addr} {cl' : Nat}
    (h8 : Apped w5 w8 B 117 1 al al' (a + 1) cl' (((List.range a).map fun a => Value.slice (ra a) n (rc a)) ++ [.slice ar n cr])) (o9 : Only [gn] w8 (w8.setCell ⟨gn, 1, none⟩ (.slice al' (a + 1) cl'))) :
    NX B (w8.setCell ⟨gn, 1, none⟩ (.slice al' (a + 1) cl')) gn n (a + 1) N w.heap.size ps q g room lost ms ap cp al' cl' (upq ra a ar) (upq rc a cr) := by
  obtain ⟨h1, h2, h3, h4, hq, hge, haN⟩ := h
  have S8 := own_blks (own_below h3 hb)
  have k8 : Blk w8 gn 116 #[.slice ap n cp, .slice al a cl] := (h1.below hb h1.lt).only h8.only fun hm => by
    obtain ⟨_, cs, hcs⟩ := S8 _ hm
    exact (h1.below hb h1.lt).ne_ hcs (by decide) rfl
  have T8 : ∀ k ∈ (al.map (·.block)).toList, ∀ cs t, Blk w5 k t cs → t = 117 ∨ t = 117 := fun k hk cs t hb => by
    obtain ⟨_, cs', hb'⟩ := S8 k hk
    unfold Blk at hb hb'
    rw [hb] at hb'
    injection hb' with hb'
    injection hb' with _ e
    exact .inl e
  have T9 : ∀ k ∈ [gn], ∀ cs t, Blk w8 k t cs → t = 116 ∨ t = 116 := fun k hk cs t hb => by
    obtain rfl : k = gn := by simpa using hk
    unfold Blk at hb k8
    rw [hb] at k8
    injection k8 with k8
    injection k8 with _ e
    exact .inl e
  have keep : ∀ {base : Nat} {e : TypeId} {v : Value} {m : Nat} {xs : List Value}, w.ownsRow base e 1 v m xs → e ≠ 117 → e ≠ 116 → (w8.setCell ⟨gn, 1, none⟩ (.slice al' (a + 1) cl')).ownsRow base e 1 v m xs := fun ho e1 e2 =>
    own_kinds (own_kinds (own_below ho hb) h8.only T8 e1 e1) o9 T9 e2 e2
  have vals : ((List.range a).map fun a => Value.slice (ra a) n (rc a)) ++ [.slice ar n cr] = (List.range (a + 1)).map fun x => Value.slice (upq ra a ar x) n (upq rc a cr x) := by
    rw [List.range_succ, List.map_append]
    congr 1
    · refine List.map_congr_left fun x hx => ?_
      have e := List.mem_range.1 hx
      rw [upq_ne _ _ (by omega), upq_ne _ _ (by omega)]
    · simp [upq_same]
  refine ⟨k8.set_ 1 _, keep h2 (by decide) (by decide), ?_, fun x hx => ?_, ?_, hge, by rw [hN, Nat.succ_mul]; exact Nat.le_refl _⟩
  · rw [← vals]
    exact own_kinds h8.own o9 T9 (by decide) (by decide)
  · by_cases e : x = a
    · subst e
      rw [upq_same, upq_same]
      exact ⟨own_base_le (keep hr (by decide) (by decide)) hBL, fun k hk => (World.ownsRow.lt hr k (by rw [own_block_eq]; exact hk)).2⟩
    · rw [upq_ne _ _ e, upq_ne _ _ e]
      refine ⟨keep (h4 x (by omega)).1 (by decide) (by decide), fun k hk => (World.ownsRow.lt (h4 x (by omega)).1 k (by rw [own_block_eq]; exact hk)).2⟩
  · have hg9 : ∀ k ∈ [gn], ∃ cs, Blk w8 k 116 cs := fun k hk => by
      have e : k = gn := by simpa using hk
      rw [e]
      exact ⟨_, k8⟩
    exact ((hq.below hb).kinds (t := 117) h8.only (fun k hk => (S8 k hk).2) (by decide) (by decide) (by decide)).kinds (t := 116) o9 hg9 (by decide) (by decide) (by decide)
end
end Go.Proofs.Ytfhlcjfgbhmecaa
/- Contracts of package config: within; the reference's standard. -/
namespace Go.Proofs.Ytfhlcjfgbhmecaa.Cfg
open Go.RowKit
set_option linter.unusedVariables false

def inB (n a b : Int) : Bool := decide (a ≤ n) && decide (n ≤ b)

theorem within_c (n a b : Int) (w : World) : Calls Try.prog 97 #[.int .i64 n, .int .i64 a, .int .i64 b] w fun e w' => e = .returned (.bool (inB n a b)) ∧ w = w' := by
  unfold inB
  by_cases h1 : a ≤ n
  all_goals
    go_enter Try.func97, Try.ntmps97
    go_wp2
    go_ret
    exact ⟨by first | (simp [h1]; done) | (simp; omega), rfl⟩

def validB (c0 c1 c2 c3 c4 c5 c6 c7 c8 c9 c10 c11 c12 c13 c14 : Int) : Bool :=
  inB c0 1 4 && inB c1 1 4 && inB c2 1 4 && inB c3 1 16 && inB c4 1 256 && inB c5 1 64 && inB c6 1 64 && inB c7 2 64 && inB c8 0 8 && inB c9 1 8 && inB c10 2 64 && inB c11 0 64 && inB c12 2 64 && inB c13 1 16 && inB c14 1 64

theorem rstandard_c (f : Int) (w : World) : Calls Try.prog 63 #[.int .i64 f] w
    fun e w' => e = .returned (.agg #[.int .i64 f, .int .i64 2, .int .i64 2, .int .i64 4, .int .i64 64, .int .i64 8, .int .i64 8, .int .i64 8, .int .i64 1, .int .i64 2, .int .i64 12, .int .i64 8, .int .i64 6, .int .i64 2, .int .i64 6]) ∧ Below w.heap.size w w' := by
  go_enter Try.func63, Try.ntmps63
  go_wp2
  refine bodyPost_ret (v := .agg #[.int .i64 f, .int .i64 2, .int .i64 2, .int .i64 4, .int .i64 64, .int .i64 8, .int .i64 8, .int .i64 8, .int .i64 1, .int .i64 2, .int .i64 12, .int .i64 8, .int .i64 6, .int .i64 2, .int .i64 6]) (by simp [results, Try.results63, go_sem]) rfl ⟨rfl, (Below.refl _ _).alloc (Nat.le_refl _) _⟩

end Go.Proofs.Ytfhlcjfgbhmecaa.Cfg
