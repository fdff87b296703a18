/- Package ledger: New, Run. -/
import Derived.Test.YtfhlcjfgbhmecaaCacheC
import Derived.Test.YtfhlcjfgbhmecaaStoreD
import Derived.Deep.RegionHeld3
import Derived.BigQuiet
import Derived.StillTailTactics
import Derived.StillTactics
import Derived.Deep.AppendLies
import Derived.OwnWalk
namespace Go.Proofs.Ytfhlcjfgbhmecaa
open Go.RowKit
set_option linter.unusedVariables false

/-- A request: client, time, kind, key, value, seal. -/
abbrev Rq := Int × Int × Int × Int × Int × Int
/-- An entry: a request and its result. -/
abbrev Ent := Rq × Int
def rqc (r : Rq) : List Value := [.int .i64 r.1, .int .i64 r.2.1, .int .i64 r.2.2.1, .int .i64 r.2.2.2.1, .int .i64 r.2.2.2.2.1, .int .i64 r.2.2.2.2.2]
theorem rqc_len (r : Rq) : (rqc r).length = 6 := rfl
def ecell (e : Ent) : List Value := [.int .i64 e.1.1, .int .i64 e.1.2.1, .int .i64 e.1.2.2.1, .int .i64 e.1.2.2.2.1, .int .i64 e.1.2.2.2.2.1, .int .i64 e.1.2.2.2.2.2, .int .i64 e.2]
theorem ecell_len (e : Ent) : (ecell e).length = 7 := rfl
theorem ecell_one (es : List Ent) : ∀ v ∈ es.flatMap ecell, v.oneCell' = true := by
  intro v hv
  obtain ⟨p, _, hp⟩ := List.mem_flatMap.1 hv
  simp only [ecell, List.mem_cons, List.not_mem_nil, or_false] at hp
  rcases hp with rfl | rfl | rfl | rfl | rfl | rfl | rfl <;> rfl
/-- Its numbers fit. -/
def RqI (r : Rq) : Prop := I64 r.1 ∧ I64 r.2.1 ∧ I64 r.2.2.1 ∧ I64 r.2.2.2.1 ∧ I64 r.2.2.2.2.1 ∧ I64 r.2.2.2.2.2
/-- Is it run? -/
def okR (ct : List (Int × Int)) (r : Rq) : Bool := hasB ct r.1 && decide (lastOf ct r.1 < r.2.1)
/-- The new entries, the store, the replies. -/
abbrev LSt := List Ent × List (Bool × Int) × List (Int × Int)
def resR (s : LSt) (r : Rq) : Int := opR s.2.1 r.2.2.1 r.2.2.2.1 r.2.2.2.2.1
def stepR (s : LSt) (r : Rq) : LSt := if okR s.2.2 r then (s.1 ++ [(r, resR s r)], opSt s.2.1 r.2.2.1 r.2.2.2.1 r.2.2.2.2.1, putSt s.2.2 r.1 r.2.1 (resR s r)) else s
def runL (s : LSt) (rs : List Rq) : LSt := rs.foldl stepR s
theorem runL_take (s : LSt) (rs : List Rq) (k : Nat) (hk : k < rs.length) : runL s (rs.take (k + 1)) = stepR (runL s (rs.take k)) rs[k] := by
  unfold runL
  rw [List.take_add_one, List.getElem?_eq_getElem hk, List.foldl_append]
  rfl
theorem stepR_ct (s : LSt) (r : Rq) : (stepR s r).2.2.length = s.2.2.length := by
  unfold stepR
  split
  · exact putSt_len _ _ _ _
  · rfl
theorem stepR_sm {s : LSt} (h : Smalls s.2.1) (r : Rq) : Smalls (stepR s r).2.1 := by
  unfold stepR
  split
  · exact h.op _ _ _
  · exact h
theorem stepR_out (s : LSt) (r : Rq) : (stepR s r).1.length ≤ s.1.length + 1 := by
  unfold stepR
  split
  · simp
  · exact Nat.le_succ _
theorem runL_inv {s : LSt} (h : Smalls s.2.1) : ∀ rs : List Rq, Smalls (runL s rs).2.1 ∧ (runL s rs).2.2.length = s.2.2.length ∧ (runL s rs).1.length ≤ s.1.length + rs.length := by
  intro rs
  induction rs generalizing s with
  | nil => exact ⟨h, rfl, by simp [runL]⟩
  | cons r rs ih =>
    have h1 := ih (stepR_sm h r)
    have e : runL s (r :: rs) = runL (stepR s r) rs := rfl
    rw [e]
    refine ⟨h1.1, by rw [h1.2.1, stepR_ct], ?_⟩
    have := h1.2.2
    have := stepR_out s r
    simp only [List.length_cons]
    omega

def blks (a : Option Addr) : List Nat := match a with | none => [] | some p => [p.block]
/-- The ledger at gd; all its blocks: S. -/
structure Led (w : World) (S : List Nat) (gd : Nat) (C : Nat) (es : List Ent) (st : List (Bool × Int)) (ct : List (Int × Int)) : Prop where
  ex : ∃ gs gc gl a cap, S = gd :: gs :: gc :: gl :: blks a ∧ Blk w gd 111 #[.int .i64 C, .slice a es.length cap, .pointer (some ⟨gs, 0, none⟩), .pointer (some ⟨gc, 0, none⟩)] ∧
    w.ownsRow 0 38 7 (.slice a es.length cap) es.length (es.flatMap ecell) ∧ Store w gs st ∧ Cache w gc gl ct
  c : 1 ≤ C ∧ C ≤ 4
  len : ct.length = C
  sm : Smalls st
section
variable {w w' : World} {S T : List Nat} {gd C : Nat} {es : List Ent} {st : List (Bool × Int)} {ct : List (Int × Int)}
theorem blks_own {a : Option Addr} {n c g : Nat} (h : (Value.slice a n c).ownBlock = some g) : g ∈ blks a := by
  cases a with
  | none => cases h
  | some p =>
    have : p.block = g := by simpa [Value.ownBlock] using h
    simp [blks, this]
theorem Led.only (h : Led w S gd C es st ct) (ho : Only T w w') (hd : ∀ k ∈ S, k ∉ T) : Led w' S gd C es st ct := by
  obtain ⟨gs, gc, gl, a, cap, rfl, h1, h2, h3, h4⟩ := h.ex
  refine ⟨⟨gs, gc, gl, a, cap, rfl, h1.only ho (hd _ (by simp)), own_only h2 ho (fun g hg => hd g ?_), h3.only ho (hd _ (by simp)), h4.only ho (hd _ (by simp)) (hd _ (by simp))⟩, h.c, h.len, h.sm⟩
  have := blks_own hg
  simp [this]
theorem Led.below (h : Led w S gd C es st ct) (hb : Below w.heap.size w w') : Led w' S gd C es st ct := h.only (Only.of_below (S := []) hb) fun _ _ => List.not_mem_nil
theorem Led.drew (h : Led w S gd C es st ct) : Led w.drew S gd C es st ct := by
  obtain ⟨gs, gc, gl, a, cap, rfl, h1, h2, h3, h4⟩ := h.ex
  exact ⟨⟨gs, gc, gl, a, cap, rfl, h1, h2, h3.drew, h4.drew⟩, h.c, h.len, h.sm⟩
theorem Led.lt (h : Led w S gd C es st ct) : ∀ k ∈ S, k < w.heap.size := by
  obtain ⟨gs, gc, gl, a, cap, rfl, h1, h2, h3, h4⟩ := h.ex
  intro k hk
  simp only [List.mem_cons] at hk
  rcases hk with rfl | rfl | rfl | rfl | hk
  · exact h1.lt
  · exact h3.lt
  · exact h4.clt
  · exact h4.llt
  · rcases h2.2 with ⟨hv, _⟩ | ⟨g, cp, cur, hv, _, hh, _⟩
    · injection hv with e1 _ _
      subst e1
      cases hk
    · injection hv with e1 _ _
      subst e1
      simp only [blks, List.mem_singleton] at hk
      subst hk
      exact (Array.getElem?_eq_some_iff.1 hh).1
end

theorem lnew_ok (n : Nat) (h1 : 1 ≤ n) (h4 : n ≤ 4) (w : World) :
    Calls Try.prog 16 #[.int .i64 n] w fun e w' => ∃ S gd, e = .returned (.tuple #[.pointer (some ⟨gd, 0, none⟩), .int .i64 0]) ∧ Led w' S gd n [] st0 (List.replicate n (0, 0)) ∧ (∀ k ∈ S, w.heap.size ≤ k) ∧ Below w.heap.size w w' := by
  go_enter Try.func16, Try.ntmps16
  go_wp2_with fail
  refine (new_ok n h1 h4 _).mono ?_; rintro e w1 ⟨gc, gl, rfl, hC, hg1, hg2, hb1⟩
  have HC := Lib.hid hC
  have B1 := Lib.hid hb1
  have G := Lib.hid (show w.heap.size ≤ gc ∧ w.heap.size ≤ gl from ⟨hg1, hg2⟩)
  clear hC hb1 hg1 hg2
  go_wp2_with fail
  refine (new_c _).mono ?_; rintro e w2 ⟨gs, rfl, hS, hg3, hb2⟩
  have HS := Lib.hid hS
  have HC2 := Lib.hid (HC.out.below hb2)
  have B2 := Lib.hid (B1.out.trans (hb2.mono B1.out.size))
  have G3 := Lib.hid (Nat.le_trans B1.out.size hg3)
  clear hS hb2 hg3
  go_wp2
  go_ret2
  have b3 : Below w2.heap.size w2 (w2.alloc (.cells #[.int .i64 n, .slice none 0 0, .pointer (some ⟨gs, 0, none⟩), .pointer (some ⟨gc, 0, none⟩)] 111)) := (Below.refl _ _).alloc (Nat.le_refl _) _
  refine ⟨_, w2.heap.size, rfl, ⟨⟨gs, gc, gl, none, 0, rfl, Blk.new _ _ _, ⟨by simp, .inl ⟨rfl, rfl⟩⟩, HS.out.below b3, HC2.out.below b3⟩, ⟨h1, h4⟩, by simp, Smalls.zero⟩, ?_, B2.out.alloc B2.out.size _⟩
  intro k hk
  simp only [blks, List.mem_cons, List.not_mem_nil, or_false] at hk
  have := G.out
  have := G3.out
  have := B2.out.size
  omega
theorem lnew_no (n : Int) (hn : n < 1 ∨ 4 < n) (w : World) :
    Calls Try.prog 16 #[.int .i64 n] w fun e w' => e = .returned (.tuple #[.pointer none, .int .i64 1]) ∧ w = w' := by
  have HN := Lib.hid hn
  clear hn
  go_enter Try.func16, Try.ntmps16
  go_wp2_with fail
  refine (new_no n HN.out _).mono ?_; rintro e w' ⟨rfl, rfl⟩
  go_wp2
  go_ret2
  exact ⟨rfl, rfl⟩
end Go.Proofs.Ytfhlcjfgbhmecaa
