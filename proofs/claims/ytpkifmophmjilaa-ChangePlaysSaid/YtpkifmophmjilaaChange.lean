/- Package change: what its functions do. -/
import Derived.Test.YtpkifmophmjilaaProg
import Derived.Test.YtpkifmophmjilaaRow
import Derived.Test.YtpkifmophmjilaaFlat
import Derived.Test.YtpkifmophmjilaaOpen
import Derived.Test.YtpkifmophmjilaaBallot
import Derived.StillTailTactics
import Derived.Deep.AppendLies
import Derived.Deep.QuietTactic
import Derived.OwnWalk
import Derived.Laws.MakeOwn
namespace Go.Proofs.Ytpkifmophmjilaa
open Go.RowKit
set_option linter.unusedVariables false

/-- A node's vote: is it there, its view, its seal. -/
abbrev Vt := Bool × Int × Int
def vcell (p : Vt) : List Value := [.bool p.1, .int .i64 p.2.1, .int .i64 p.2.2]
theorem vcell_len (p : Vt) : (vcell p).length = 3 := rfl
/-- The votes at gv, node by node at gl. -/
structure Votes (w : World) (gv gl : Nat) (f : Int) (L : List Vt) : Prop where
  ex : ∃ cap, Blk w gv 98 #[.int .i64 f, .slice (some ⟨gl, 0, none⟩) L.length cap] ∧ Row w gl 100 3 L.length cap (L.flatMap vcell)
section
variable {w w' : World} {gv gl : Nat} {f : Int} {L : List Vt} {S : List Nat}
theorem Votes.vlt (h : Votes w gv gl f L) : gv < w.heap.size := by obtain ⟨cap, h1, h2⟩ := h.ex; exact h1.lt
theorem Votes.llt (h : Votes w gv gl f L) : gl < w.heap.size := by obtain ⟨cap, h1, h2⟩ := h.ex; exact h2.lt
theorem Votes.only (h : Votes w gv gl f L) (ho : Only S w w') (h1 : gv ∉ S) (h2 : gl ∉ S) : Votes w' gv gl f L := by
  obtain ⟨cap, k1, k2⟩ := h.ex
  exact ⟨cap, k1.only ho h1, k2.only ho h2⟩
theorem Votes.below (h : Votes w gv gl f L) (hb : Below w.heap.size w w') : Votes w' gv gl f L := h.only (Only.of_below (S := []) hb) List.not_mem_nil List.not_mem_nil
theorem Votes.drew (h : Votes w gv gl f L) : Votes w.drew gv gl f L := ⟨h.ex⟩
theorem Votes.drewN (h : Votes w gv gl f L) (n : Nat) : Votes (w.drewN n) gv gl f L := ⟨h.ex⟩
theorem Votes.ne (h : Votes w gv gl f L) : gv ≠ gl := by obtain ⟨cap, h1, h2⟩ := h.ex; exact (h2.ne h1 (by decide)).symm
theorem Votes.cf (h : Votes w gv gl f L) : w.cell? ⟨gv, 0, none⟩ = some (.int .i64 f) := by obtain ⟨cap, h1, h2⟩ := h.ex; exact h1.cell 0
theorem Votes.at0 (h : Votes w gv gl f L) (k : Nat) (hk : k < L.length) : w.cell? ⟨gl, k * 3, none⟩ = some (.bool L[k].1) := by
  obtain ⟨cap, h1, h2⟩ := h.ex
  exact h2.cell (flat_get' vcell 3 vcell_len L k 0 (by omega) hk _ rfl)
theorem Votes.at1 (h : Votes w gv gl f L) (k : Nat) (hk : k < L.length) : w.cell? ⟨gl, k * 3 + 1, none⟩ = some (.int .i64 L[k].2.1) := by
  obtain ⟨cap, h1, h2⟩ := h.ex
  exact h2.cell (flat_get' vcell 3 vcell_len L k 1 (by omega) hk _ rfl)
theorem Votes.at2 (h : Votes w gv gl f L) (k : Nat) (hk : k < L.length) : w.cell? ⟨gl, k * 3 + 2, none⟩ = some (.int .i64 L[k].2.2) := by
  obtain ⟨cap, h1, h2⟩ := h.ex
  exact h2.cell (flat_get' vcell 3 vcell_len L k 2 (by omega) hk _ rfl)
theorem Votes.fr (h : Votes w gv gl f L) (k : Nat) : w.frozen? ⟨gl, k, none⟩ = false := by
  obtain ⟨cap, h1, h2⟩ := h.ex
  exact h2.frozen k
theorem Votes.head (h : Votes w gv gl f L) : ∃ cap, L.length ≤ cap ∧ cap ≤ maxLen ∧ w.cell? ⟨gv, 1, none⟩ = some (.slice (some ⟨gl, 0, none⟩) L.length cap) := by
  obtain ⟨cap, h1, h2⟩ := h.ex
  exact ⟨cap, h2.cap_le, h2.cap_max, h1.cell 1⟩
theorem Votes.set (h : Votes w gv gl f L) {n : Nat} (hn : n < L.length) (b : Bool) (v s : Int) :
    Votes (((w.setCell ⟨gl, n * 3, none⟩ (.bool b)).setCell ⟨gl, n * 3 + 1, none⟩ (.int .i64 v)).setCell ⟨gl, n * 3 + 2, none⟩ (.int .i64 s)) gv gl f (L.set n (b, v, s)) := by
  obtain ⟨cap, h1, h2⟩ := h.ex
  refine ⟨cap, ?_, ?_⟩
  · rw [List.length_set]
    exact ((h1.far (p := ⟨gl, n * 3, none⟩) h.ne _).far (p := ⟨gl, n * 3 + 1, none⟩) h.ne _).far (p := ⟨gl, n * 3 + 2, none⟩) h.ne _
  · have e := ((h2.set_ (n * 3) (.bool b)).set_ (n * 3 + 1) (.int .i64 v)).set_ (n * 3 + 1 + 1) (.int .i64 s)
    rw [flat_set3 vcell vcell_len (b, v, s) (.bool b) (.int .i64 v) (.int .i64 s) rfl L n hn] at e
    rw [List.length_set]
    exact e
end

theorem info_vote : (Try.prog.info? 100).map (fun i => (i.zero, i.size, i.bytes)) = some (some (.agg #[.bool false, .int .i64 0, .int .i64 0]), 3, 24) := by kernel_rfl
theorem madeCells_vote (n : Nat) : madeCells #[.bool false, .int .i64 0, .int .i64 0] (n * 3) = ((List.replicate n ((false, 0, 0) : Vt)).flatMap vcell).toArray := by
  apply Array.ext_getElem?
  intro i
  simp only [List.getElem?_toArray]
  have hd : i = i / 3 * 3 + i % 3 := by omega
  rw [show ((List.replicate n ((false, 0, 0) : Vt)).flatMap vcell)[i]? = ((List.replicate n ((false, 0, 0) : Vt)).flatMap vcell)[i / 3 * 3 + i % 3]? by rw [← hd], flat_get vcell 3 vcell_len _ _ _ (Nat.mod_lt _ (by omega))]
  by_cases hi : i < n * 3
  · have h2 : i / 3 < n := by omega
    rcases (show i % 3 = 0 ∨ i % 3 = 1 ∨ i % 3 = 2 by omega) with hm | hm | hm
    · simp [madeCells, hi, h2, hm, vcell]
    · simp [madeCells, hi, h2, hm, vcell]
    · simp [madeCells, hi, h2, hm, vcell]
  · have h2 : ¬ i / 3 < n := by omega
    simp [madeCells, hi, h2]

theorem vnew_ok (f : Int) (n : Nat) (hf : 1 ≤ f ∧ f ≤ 4) (hn : 3 * f + 1 = n) (w : World) :
    Calls Try.prog 28 #[.int .i64 f] w fun e w' => ∃ gv gl, e = .returned (.tuple #[.pointer (some ⟨gv, 0, none⟩), .int .i64 0]) ∧ Votes w' gv gl f (List.replicate n (false, 0, 0)) ∧ w.heap.size ≤ gv ∧ w.heap.size ≤ gl ∧ Below w.heap.size w w' := by
  obtain ⟨i0, hi0, hz0, hz1, hz2⟩ := info_parts info_vote
  have hmk := fun W => run_make (P := Try.prog) W 96 100 i0 _ Try.underlying96 hi0 hz0 .i64 .i64 n n (by omega) (by omega) (by rw [hz2]; omega) (by omega)
  rw [hz1] at hmk
  simp only [Int.toNat_natCast, Value.cells, madeCells_vote] at hmk
  obtain ⟨C, hC⟩ : ∃ C, C = ((List.replicate n ((false, 0, 0) : Vt)).flatMap vcell).toArray := ⟨_, rfl⟩
  rw [← hC] at hmk
  have HC := Lib.hid hC
  have HN := Lib.hid hn
  have f1 := hf.1
  have f4 := hf.2
  have n4 : n ≤ 13 := by omega
  clear hi0 hz0 hz1 hz2 hC hn hf
  go_enter Try.func28, Try.ntmps28
  go_wp2_with fail
  refine (nodes_c f _ f1 f4).mono ?_; rintro e w' ⟨rfl, rfl⟩
  rw [HN.out]
  go_wp2
  go_ret2
  refine ⟨w.heap.size + 1, w.heap.size, rfl, ⟨n, ?_, ?_⟩, ?_, ?_, ((Below.refl _ _).alloc (Nat.le_refl _) _).alloc (by simp) _⟩
  · simp only [List.length_replicate]
    exact Blk.new' _ _ _ (by simp)
  · simp only [List.length_replicate]
    have e := Row.of_blk (n := n) (s := 3) ((Blk.new w 100 C).alloc (.cells #[.int .i64 f, .slice (some ⟨w.heap.size, 0, none⟩) n n] 98)) (by rw [HC.out]; simp [flat_len vcell 3 vcell_len]) (by unfold maxLen; omega)
    rw [HC.out] at e ⊢
    exact e
  · simp
  · simp

def voteAt (L : List Vt) (k : Int) : Vt := L.getD k.toNat (false, 0, 0)
def vputB (L : List Vt) (k v : Int) : Bool := decide (0 ≤ k ∧ k < L.length) && decide (0 ≤ v ∧ v < 12) && !((voteAt L k).1 && decide (v ≤ (voteAt L k).2.1))
def vputSt (L : List Vt) (k v s : Int) : List Vt := if vputB L k v then L.set k.toNat (true, v, s) else L
theorem vputSt_len (L : List Vt) (k v s : Int) : (vputSt L k v s).length = L.length := by
  unfold vputSt
  split <;> simp

set_option maxHeartbeats 800000 in
theorem vput_c (gv gl : Nat) (f : Int) (L : List Vt) (k v s : Int) (w : World) (h : Votes w gv gl f L) (hn : L.length ≤ 13) (hk : I64 k) (hv : I64 v) (b : Bool) (hb : vputB L k v = b) (L' : List Vt) (hs : vputSt L k v s = L') :
    Calls Try.prog 29 #[.pointer (some ⟨gv, 0, none⟩), .int .i64 k, .int .i64 v, .int .i64 s] w fun e w' => e = .returned (.bool b) ∧ Votes w' gv gl f L' ∧ Only [gl] w w' := by
  have H := Lib.hid h
  obtain ⟨cap, _, _, h1⟩ := h.head
  have no : b = false → L' = L := fun e => by rw [← hs]; unfold vputSt; rw [hb, e]; rfl
  have NO := Lib.hid no
  have HS := Lib.hid hs
  have HB := Lib.hid hb
  clear no hs hb
  by_cases hh : 0 ≤ k ∧ k < L.length
  · obtain ⟨n, rfl⟩ := Int.eq_ofNat_of_zero_le hh.1
    have hlt : n < L.length := by omega
    have hg : voteAt L n = L[n] := by simp [voteAt, List.getD, hlt]
    have c0 := h.at0 n hlt
    have c1 := h.at1 n hlt
    have c2 := h.at2 n hlt
    have f0 := h.fr (n * 3)
    have f1 := h.fr (n * 3 + 1)
    have f2 := h.fr (n * 3 + 2)
    have i0 : (0 : Int) ≤ n := hh.1
    have i1 : (n : Int) < L.length := hh.2
    clear h
    by_cases hv0 : 0 ≤ v ∧ v < 12
    · have hB : b = !(L[n].1 && decide (v ≤ L[n].2.1)) := by rw [← HB.out]; unfold vputB; rw [decide_eq_true hh, decide_eq_true hv0, hg]; rfl
      have v0 := hv0.1
      have v1 := hv0.2
      clear hv0 hh
      obtain ⟨p, hp⟩ : ∃ p, p = L[n] := ⟨_, rfl⟩
      rw [← hp] at c0 c1 c2 hB
      obtain ⟨b0, l0, s0⟩ := p
      simp only at c0 c1 c2 hB
      cases b0
      · obtain rfl : b = true := by rw [hB]; rfl
        obtain rfl : L' = L.set n (true, v, s) := by rw [← HS.out]; unfold vputSt; rw [HB.out]; rfl
        clear hp hg hB
        go_enter Try.func29, Try.ntmps29
        go_wp2
        go_ret
        exact ⟨rfl, H.out.set hlt true v s, (((Only.refl _ _).setCell (.inl (by simp)) _).setCell (.inl (by simp)) _).setCell (.inl (by simp)) _⟩
      · by_cases hle : v ≤ l0
        · obtain rfl : b = false := by rw [hB, decide_eq_true hle]; rfl
          obtain rfl := NO.out rfl
          clear hp hg hB
          go_enter Try.func29, Try.ntmps29
          go_wp2
          go_ret
          exact ⟨rfl, H.out, Only.refl _ _⟩
        · obtain rfl : b = true := by rw [hB, decide_eq_false hle]; rfl
          obtain rfl : L' = L.set n (true, v, s) := by rw [← HS.out]; unfold vputSt; rw [HB.out]; rfl
          clear hp hg hB
          go_enter Try.func29, Try.ntmps29
          go_wp2
          go_ret
          exact ⟨rfl, H.out.set hlt true v s, (((Only.refl _ _).setCell (.inl (by simp)) _).setCell (.inl (by simp)) _).setCell (.inl (by simp)) _⟩
    · obtain rfl : b = false := by rw [← HB.out]; unfold vputB; rw [decide_eq_false hv0, Bool.and_false, Bool.false_and]
      obtain rfl := NO.out rfl
      clear hg hh
      unfold I64 at hv
      by_cases hv1 : 0 ≤ v
      · have hv2 : 12 ≤ v := by omega
        clear hv0
        go_enter Try.func29, Try.ntmps29
        go_wp2
        go_ret
        exact ⟨rfl, H.out, Only.refl _ _⟩
      · clear hv0
        go_enter Try.func29, Try.ntmps29
        go_wp2
        go_ret
        exact ⟨rfl, H.out, Only.refl _ _⟩
  · obtain rfl : b = false := by rw [← HB.out]; unfold vputB; rw [decide_eq_false hh, Bool.false_and, Bool.false_and]
    obtain rfl := NO.out rfl
    clear h
    unfold I64 at hk
    by_cases hk0 : 0 ≤ k
    · have hk1 : (L'.length : Int) ≤ k := by omega
      clear hh
      go_enter Try.func29, Try.ntmps29
      go_wp2
      go_ret
      exact ⟨rfl, H.out, Only.refl _ _⟩
    · clear hh
      go_enter Try.func29, Try.ntmps29
      go_wp2
      go_ret
      exact ⟨rfl, H.out, Only.refl _ _⟩

def vviewB (L : List Vt) (k : Int) : Bool := decide (0 ≤ k ∧ k < L.length) && (voteAt L k).1
def vviewOf (L : List Vt) (k : Int) : Int := if vviewB L k then (voteAt L k).2.1 else 0
set_option maxHeartbeats 400000 in
theorem vview_c (gv gl : Nat) (f : Int) (L : List Vt) (k : Int) (w : World) (h : Votes w gv gl f L) (hn : L.length ≤ 13) (hk : I64 k) (b : Bool) (hb : vviewB L k = b) (z : Int) (hz : vviewOf L k = z) :
    Calls Try.prog 40 #[.pointer (some ⟨gv, 0, none⟩), .int .i64 k] w fun e w' => e = .returned (.tuple #[.int .i64 z, .bool b]) ∧ w = w' := by
  obtain ⟨cap, _, _, h1⟩ := h.head
  unfold vviewOf at hz
  rw [hb] at hz
  by_cases hh : 0 ≤ k ∧ k < L.length
  · obtain ⟨n, rfl⟩ := Int.eq_ofNat_of_zero_le hh.1
    have hlt : n < L.length := by omega
    have hg : voteAt L n = L[n] := by simp [voteAt, List.getD, hlt]
    have c0 := h.at0 n hlt
    have c1 := h.at1 n hlt
    have i0 : (0 : Int) ≤ n := hh.1
    have i1 : (n : Int) < L.length := hh.2
    clear h
    obtain ⟨p, hp⟩ : ∃ p, p = L[n] := ⟨_, rfl⟩
    unfold vviewB at hb
    rw [decide_eq_true hh, hg, ← hp] at hb
    rw [hg, ← hp] at hz
    rw [← hp] at c0 c1
    obtain ⟨b0, l0, s0⟩ := p
    simp only [Bool.true_and] at c0 c1 hb hz
    subst hb
    clear hp hg hh
    cases b0
    · obtain rfl : 0 = z := hz
      go_enter Try.func40, Try.ntmps40
      go_wp2
      go_ret2
      exact ⟨rfl, rfl⟩
    · obtain rfl : l0 = z := hz
      go_enter Try.func40, Try.ntmps40
      go_wp2
      go_ret2
      exact ⟨rfl, rfl⟩
  · obtain rfl : b = false := by rw [← hb]; unfold vviewB; rw [decide_eq_false hh, Bool.false_and]
    obtain rfl : 0 = z := hz
    clear h hb
    unfold I64 at hk
    by_cases hk0 : 0 ≤ k
    · have hk1 : (L.length : Int) ≤ k := by omega
      clear hh
      go_enter Try.func40, Try.ntmps40
      go_wp2
      go_ret2
      exact ⟨rfl, rfl⟩
    · clear hh
      go_enter Try.func40, Try.ntmps40
      go_wp2
      go_ret2
      exact ⟨rfl, rfl⟩
end Go.Proofs.Ytpkifmophmjilaa
