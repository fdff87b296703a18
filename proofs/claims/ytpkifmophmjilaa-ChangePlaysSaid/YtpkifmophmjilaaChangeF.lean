/- The reference's changes: its own functions. -/
import Derived.Test.YtpkifmophmjilaaChangeR
import Derived.Deep.RegionHeld3
import Derived.BigQuiet
namespace Go.Proofs.Ytpkifmophmjilaa
open Go.RowKit
set_option linter.unusedVariables false

/-- The cells of the reference's changes: F, 13 views, 13 seals. -/
def rcs (f : Int) (V S : Nat → Int) : Array Value := (Value.int .i64 f :: ((List.range 13).map (fun i => Value.int .i64 (V i)) ++ (List.range 13).map (fun i => Value.int .i64 (S i)))).toArray
theorem rcs_size (f : Int) (V S : Nat → Int) : (rcs f V S).size = 27 := by simp [rcs]
theorem rcs_f (f : Int) (V S : Nat → Int) : (rcs f V S)[0]? = some (.int .i64 f) := by simp [rcs]
theorem rcs_v (f : Int) (V S : Nat → Int) (i : Nat) (h : i < 13) : (rcs f V S)[1 + i]? = some (.int .i64 (V i)) := by
  unfold rcs
  rw [List.getElem?_toArray, Nat.add_comm, List.getElem?_cons_succ, List.getElem?_append_left (by simp; exact h)]
  simp [h]
theorem rcs_s (f : Int) (V S : Nat → Int) (i : Nat) (h : i < 13) : (rcs f V S)[14 + i]? = some (.int .i64 (S i)) := by
  unfold rcs
  rw [List.getElem?_toArray, show 14 + i = (13 + i) + 1 by omega, List.getElem?_cons_succ, List.getElem?_append_right (by simp)]
  simp [h]
theorem rcs_congr {f : Int} {V V' S S' : Nat → Int} (h : ∀ i, i < 13 → V i = V' i) (h' : ∀ i, i < 13 → S i = S' i) : rcs f V S = rcs f V' S' := by
  unfold rcs
  have e1 : (List.range 13).map (fun i => Value.int .i64 (V i)) = (List.range 13).map (fun i => Value.int .i64 (V' i)) := List.map_congr_left fun i hi => by rw [h i (List.mem_range.1 hi)]
  have e2 : (List.range 13).map (fun i => Value.int .i64 (S i)) = (List.range 13).map (fun i => Value.int .i64 (S' i)) := List.map_congr_left fun i hi => by rw [h' i (List.mem_range.1 hi)]
  rw [e1, e2]
def upI (V : Nat → Int) (k : Nat) (v : Int) : Nat → Int := fun j => if j = k then v else V j
theorem range_set (V : Nat → Int) (n k : Nat) (v : Int) : ((List.range n).map (fun i => Value.int .i64 (V i))).set k (.int .i64 v) = (List.range n).map (fun i => Value.int .i64 (upI V k v i)) := by
  apply List.ext_getElem
  · simp
  · intro i h1 h2
    rw [List.getElem_set]
    simp only [List.getElem_map, List.getElem_range, upI]
    split
    · rename_i h; subst h; rw [if_pos rfl]
    · rename_i h; rw [if_neg (fun q => h q.symm)]
theorem rcs_setv (f : Int) (V S : Nat → Int) (k : Nat) (h : k < 13) (v : Int) : (rcs f V S).setIfInBounds (1 + k) (.int .i64 v) = rcs f (upI V k v) S := by
  unfold rcs
  rw [List.setIfInBounds_toArray, Nat.add_comm, List.set_cons_succ, List.set_append_left _ _ (by simp; exact h), range_set]
theorem rcs_sets (f : Int) (V S : Nat → Int) (k : Nat) (h : k < 13) (v : Int) : (rcs f V S).setIfInBounds (14 + k) (.int .i64 v) = rcs f V (upI S k v) := by
  unfold rcs
  rw [List.setIfInBounds_toArray, show 14 + k = (13 + k) + 1 by omega, List.set_cons_succ, List.set_append_right _ _ (by simp)]
  simp only [List.length_map, List.length_range, Nat.add_sub_cancel_left, range_set]
def refV (L : List Vt) (i : Nat) : Int := if (L.getD i (false, 0, 0)).1 then (L.getD i (false, 0, 0)).2.1 else -1
def refS (L : List Vt) (i : Nat) : Int := if (L.getD i (false, 0, 0)).1 then (L.getD i (false, 0, 0)).2.2 else 0
theorem ref_put {L : List Vt} {k : Nat} (hk : k < L.length) (v s : Int) : refV (L.set k (true, v, s)) = upI (refV L) k v ∧ refS (L.set k (true, v, s)) = upI (refS L) k s := by
  have key : ∀ i, (L.set k (true, v, s)).getD i (false, 0, 0) = if i = k then (true, v, s) else L.getD i (false, 0, 0) := fun i => by
    rw [List.getD_eq_getElem?_getD, List.getD_eq_getElem?_getD, List.getElem?_set]
    by_cases h : i = k
    · subst h; simp [hk]
    · rw [if_neg (fun q => h q.symm), if_neg h]
  constructor
  · funext i
    unfold refV upI
    rw [key]
    by_cases h : i = k
    · rw [if_pos h, if_pos h]; rfl
    · rw [if_neg h, if_neg h]
  · funext i
    unfold refS upI
    rw [key]
    by_cases h : i = k
    · rw [if_pos h, if_pos h]; rfl
    · rw [if_neg h, if_neg h]
/-- The reference's changes at gr. -/
def RCh (w : World) (gr : Nat) (f : Int) (L : List Vt) : Prop := Blk w gr 92 (rcs f (refV L) (refS L))
section
variable {w w' : World} {gr : Nat} {f : Int} {L : List Vt}
theorem RCh.lt (h : RCh w gr f L) : gr < w.heap.size := Blk.lt h
theorem RCh.cf (h : RCh w gr f L) : w.cell? ⟨gr, 0, none⟩ = some (.int .i64 f) := (Blk.cell h 0).trans (rcs_f _ _ _)
theorem RCh.cv (h : RCh w gr f L) (i : Nat) (hi : i < 13) : w.cell? ⟨gr, 1 + i, none⟩ = some (.int .i64 (refV L i)) := (Blk.cell h _).trans (rcs_v _ _ _ i hi)
theorem RCh.cs (h : RCh w gr f L) (i : Nat) (hi : i < 13) : w.cell? ⟨gr, 14 + i, none⟩ = some (.int .i64 (refS L i)) := (Blk.cell h _).trans (rcs_s _ _ _ i hi)
theorem RCh.fr (h : RCh w gr f L) (i : Nat) : w.frozen? ⟨gr, i, none⟩ = false := Blk.frozen h i
theorem RCh.below (h : RCh w gr f L) (hb : Below w.heap.size w w') : RCh w' gr f L := Blk.below h hb h.lt
theorem RCh.drew (h : RCh w gr f L) : RCh w.drew gr f L := h
theorem RCh.only {S : List Nat} (h : RCh w gr f L) (ho : Only S w w') (hn : gr ∉ S) : RCh w' gr f L := Blk.only h ho hn
end

set_option maxHeartbeats 800000 in
theorem rnew_c (f : Int) (N : Nat) (w : World) :
    Calls Try.prog 41 #[.int .i64 f] w fun e w' => ∃ gr, e = .returned (.pointer (some ⟨gr, 0, none⟩)) ∧ RCh w' gr f (List.replicate N (false, 0, 0)) ∧ w.heap.size ≤ gr ∧ Below w.heap.size w w' := by
  go_enter Try.func41, Try.ntmps41
  go_wp2_with fail
  obtain ⟨gr, hgr⟩ : ∃ gr, gr = w.heap.size := ⟨_, rfl⟩
  obtain ⟨C, hC⟩ : ∃ C, C = rcs f (fun j => if j < 0 then -1 else 0) (fun _ => 0) := ⟨_, rfl⟩
  go_loopw [4] (fun i wr => ∃ k : Nat, k ≤ 13 ∧ i = .int .i64 k ∧ Blk wr gr 92 (rcs f (fun j => if j < k then -1 else 0) (fun _ => 0)) ∧ Below w.heap.size w wr) (fun i _ => 13 - (intOf i).toNat)
  case atStart => exact ⟨0, by omega, rfl, by rw [hgr]; exact Blk.new _ _ _, (Below.refl _ _).alloc (Nat.le_refl _) _⟩
  case round =>
    obtain ⟨k, hk, rfl, hB, hb⟩ := hrel
    have B := Lib.hid hB
    have HB := Lib.hid hb
    have GR := Lib.hid hgr
    have HBg := Lib.hid (show Below gr w wr by rw [hgr]; exact hb)
    by_cases hlt : k < 13
    · have c0 := (hB.cell (1 + k)).trans (rcs_v _ _ _ k hlt)
      have fr := hB.frozen (1 + k)
      have i0 : (0 : Int) ≤ k := by omega
      have i1 : (k : Int) < 13 := by omega
      clear hB hb hC
      rw [← hgr]
      clear hgr
      go_wp2_with fail
      go_roundw
      case rel =>
        refine ⟨k + 1, by omega, by go_num, ?_, HBg.out.setCell (p := ⟨gr, 1 + k, none⟩) (Nat.le_refl _) _⟩
        have := B.out.set_ (1 + k) (.int .i64 (-1))
        rw [rcs_setv _ _ _ k hlt] at this
        rw [rcs_congr (V' := upI (fun j => if j < k then -1 else 0) k (-1)) (S' := fun _ => 0) ?_ (fun _ _ => rfl)]
        · exact this
        · intro i hi
          unfold upI
          by_cases h : i = k
          · rw [if_pos h, if_pos (by omega)]
          · rw [if_neg h]
            show (if i < k + 1 then (-1 : Int) else 0) = if i < k then -1 else 0
            by_cases h' : i < k
            · rw [if_pos h', if_pos (by omega)]
            · rw [if_neg h', if_neg (by omega)]
      case measure => simp [intOf]; omega
    · have hk13 : k = 13 := by omega
      subst hk13
      clear hC
      rw [← hgr]
      go_wp2_with fail
      go_ret
      refine ⟨gr, rfl, ?_, by rw [GR.out]; exact Nat.le_refl _, HB.out⟩
      unfold RCh
      have e : ∀ i, (List.replicate N ((false, 0, 0) : Vt)).getD i (false, 0, 0) = (false, 0, 0) := fun i => by
        rw [List.getD_eq_getElem?_getD, List.getElem?_replicate]
        split <;> rfl
      rw [rcs_congr (V' := fun j => if j < 13 then -1 else 0) (S' := fun _ => 0)]
      · exact B.out
      · intro i hi
        unfold refV
        rw [e, if_pos hi]; rfl
      · intro i hi
        unfold refS
        rw [e]; rfl

set_option maxHeartbeats 1600000 in
theorem rput_c (gr : Nat) (f : Int) (L : List Vt) (k v s : Int) (w : World) (h : RCh w gr f L) (hf : 1 ≤ f ∧ f ≤ 4) (hl : 3 * f + 1 = L.length) (hk : I64 k) (hv : I64 v) (b : Bool) (hb : vputB L k v = b) (L' : List Vt) (hs : vputSt L k v s = L') :
    Calls Try.prog 52 #[.pointer (some ⟨gr, 0, none⟩), .int .i64 k, .int .i64 v, .int .i64 s] w fun e w' => e = .returned (.bool b) ∧ RCh w' gr f L' ∧ Only [gr] w w' := by
  have H := Lib.hid h
  have cf := h.cf
  have f1 := hf.1
  have f4 := hf.2
  have n13 : L.length ≤ 13 := by omega
  have HL := Lib.hid hl
  have HB := Lib.hid hb
  have HS := Lib.hid hs
  have no : b = false → L' = L := fun e => by rw [← hs]; unfold vputSt; rw [hb, e]; rfl
  have NO := Lib.hid no
  clear hb hs no hf hl
  by_cases hh : 0 ≤ k ∧ k < L.length
  · obtain ⟨n, rfl⟩ := Int.eq_ofNat_of_zero_le hh.1
    have hlt : n < L.length := by omega
    have cv := h.cv n (by omega)
    have f1' := h.fr (1 + n)
    have f2' := h.fr (14 + n)
    have cs := h.cs n (by omega)
    have i0 : (0 : Int) ≤ n := hh.1
    have i1 : (n : Int) < L.length := hh.2
    have i3 : (n : Int) < 13 := by omega
    clear h
    by_cases hv0 : 0 ≤ v ∧ v < 12
    · have v0 := hv0.1
      have v1 := hv0.2
      have hB : b = !decide (v ≤ refV L n) := by
        rw [← HB.out]
        unfold vputB refV voteAt
        rw [decide_eq_true hh, decide_eq_true hv0, Int.toNat_natCast]
        cases hc : (L.getD n (false, 0, 0)).1
        · rw [Bool.false_and, if_neg (by simp), decide_eq_false (show ¬ v ≤ -1 by omega)]; rfl
        · rw [if_pos rfl, Bool.true_and]; rfl
      obtain ⟨l0, hl0⟩ : ∃ l, l = refV L n := ⟨_, rfl⟩
      rw [← hl0] at cv hB
      obtain ⟨s0, hs0⟩ : ∃ l, l = refS L n := ⟨_, rfl⟩
      rw [← hs0] at cs
      clear hv0 hh hl0 hs0
      by_cases hle : v ≤ l0
      · obtain rfl : b = false := by rw [hB, decide_eq_true hle]; rfl
        obtain rfl := NO.out rfl
        clear hB
        go_enter Try.func52, Try.ntmps52
        go_wp2_with fail
        refine (rnodes_e f L'.length HL.out _ f1 f4).mono ?_; rintro e w' ⟨rfl, rfl⟩
        go_wp2
        go_ret
        exact ⟨rfl, H.out, Only.refl _ _⟩
      · obtain rfl : b = true := by rw [hB, decide_eq_false hle]; rfl
        obtain rfl : L' = L.set n (true, v, s) := by rw [← HS.out]; unfold vputSt; rw [HB.out]; rfl
        clear hB
        go_enter Try.func52, Try.ntmps52
        go_wp2_with fail
        refine (rnodes_e f L.length HL.out _ f1 f4).mono ?_; rintro e w' ⟨rfl, rfl⟩
        go_wp2_with fail
        go_region
        have e : RCh ((w.setCell ⟨gr, 1 + n, none⟩ (.int .i64 v)).setCell ⟨gr, 14 + n, none⟩ (.int .i64 s)).drew gr f (L.set n (true, v, s)) := by
          unfold RCh
          rw [(ref_put hlt v s).1, (ref_put hlt v s).2, ← rcs_sets _ _ _ n (by omega), ← rcs_setv _ _ _ n (by omega)]
          exact ((Blk.set_ H.out (1 + n) (.int .i64 v)).set_ (14 + n) (.int .i64 s)).drew
        have E := Lib.hid e
        clear e
        go_wp2
        go_ret
        exact ⟨rfl, E.out, (((Only.refl _ _).setCell (p := ⟨gr, 1 + n, none⟩) (.inl (by simp)) _).setCell (p := ⟨gr, 14 + n, none⟩) (.inl (by simp)) _).drew⟩
    · obtain rfl : b = false := by rw [← HB.out]; unfold vputB; rw [decide_eq_false hv0, Bool.and_false, Bool.false_and]
      obtain rfl := NO.out rfl
      clear hh cv cs
      unfold I64 at hv
      by_cases hv1 : 0 ≤ v
      · have hv2 : 12 ≤ v := by omega
        clear hv0
        go_enter Try.func52, Try.ntmps52
        go_wp2_with fail
        refine (rnodes_e f L'.length HL.out _ f1 f4).mono ?_; rintro e w' ⟨rfl, rfl⟩
        go_wp2
        go_ret
        exact ⟨rfl, H.out, Only.refl _ _⟩
      · clear hv0
        go_enter Try.func52, Try.ntmps52
        go_wp2_with fail
        refine (rnodes_e f L'.length HL.out _ f1 f4).mono ?_; rintro e w' ⟨rfl, rfl⟩
        go_wp2
        go_ret
        exact ⟨rfl, H.out, Only.refl _ _⟩
  · obtain rfl : b = false := by rw [← HB.out]; unfold vputB; rw [decide_eq_false hh, Bool.false_and, Bool.false_and]
    obtain rfl := NO.out rfl
    clear h
    unfold I64 at hk
    by_cases hk0 : 0 ≤ k
    · have hk1 : (L'.length : Int) ≤ k := by omega
      clear hh
      go_enter Try.func52, Try.ntmps52
      go_wp2_with fail
      refine (rnodes_e f L'.length HL.out _ f1 f4).mono ?_; rintro e w' ⟨rfl, rfl⟩
      go_wp2
      go_ret
      exact ⟨rfl, H.out, Only.refl _ _⟩
    · clear hh
      go_enter Try.func52, Try.ntmps52
      go_wp2
      go_ret
      exact ⟨rfl, H.out, Only.refl _ _⟩

theorem ref_clear {L : List Vt} {k : Nat} (hk : k < L.length) : refV (L.set k (false, 0, 0)) = upI (refV L) k (-1) ∧ refS (L.set k (false, 0, 0)) = upI (refS L) k 0 := by
  have key : ∀ i, (L.set k (false, 0, 0)).getD i (false, 0, 0) = if i = k then (false, 0, 0) else L.getD i (false, 0, 0) := fun i => by
    rw [List.getD_eq_getElem?_getD, List.getD_eq_getElem?_getD, List.getElem?_set]
    by_cases h : i = k
    · subst h; simp [hk]
    · rw [if_neg (fun q => h q.symm), if_neg h]
  constructor
  · funext i
    unfold refV upI
    rw [key]
    by_cases h : i = k
    · rw [if_pos h, if_pos h]; rfl
    · rw [if_neg h, if_neg h]
  · funext i
    unfold refS upI
    rw [key]
    by_cases h : i = k
    · rw [if_pos h, if_pos h]; rfl
    · rw [if_neg h, if_neg h]
theorem refV_in {L : List Vt} (h : VFine L) {k : Nat} (hk : k < L.length) : (L[k].1 = true ∧ refV L k = L[k].2.1 ∧ 0 ≤ refV L k) ∨ (L[k].1 = false ∧ refV L k = -1) := by
  have hg : L.getD k (false, 0, 0) = L[k] := by simp [List.getD, hk]
  unfold refV
  rw [hg]
  cases hb : L[k].1
  · exact .inr ⟨rfl, rfl⟩
  · have := (h _ (List.getElem_mem hk) hb).1
    exact .inl ⟨rfl, rfl, this⟩
theorem refV_out {L : List Vt} {k : Nat} (hk : ¬ k < L.length) : refV L k = -1 := by
  unfold refV
  rw [List.getD_eq_getElem?_getD, List.getElem?_eq_none (by omega)]
  rfl

set_option maxHeartbeats 1600000 in
theorem rdrop_c (gr : Nat) (f : Int) (L : List Vt) (b : Int) (w : World) (h : RCh w gr f L) (hF : VFine L) (hl : L.length ≤ 13) (n : Nat) (hN : dropN L b = n) (L' : List Vt) (hs : dropSt L b = L') :
    Calls Try.prog 53 #[.pointer (some ⟨gr, 0, none⟩), .int .i64 b] w fun e w' => e = .returned (.int .i64 n) ∧ RCh w' gr f L' ∧ Only [gr] w w' := by
  have H := Lib.hid h
  have HN := Lib.hid hN
  have HS := Lib.hid hs
  have F := Lib.hid hF
  clear h hN hs hF
  go_enter Try.func53, Try.ntmps53
  go_wp2_with fail
  go_loopw [5, 6] (fun m i wr => ∃ k : Nat, k ≤ 13 ∧ i = .int .i64 k ∧ m = .int .i64 (dropN (L.take k) b : Nat) ∧ RCh wr gr f ((L.take k).map (dropV b) ++ L.drop k) ∧ Only [gr] w wr) (fun _ i _ => 13 - (intOf i).toNat)
  case atStart => exact ⟨0, by omega, rfl, rfl, by simpa using H.out, Only.refl _ _⟩
  case round =>
    obtain ⟨k, hk, rfl, rfl, hv, ho⟩ := hrel
    have V := Lib.hid hv
    have O := Lib.hid ho
    by_cases hk13 : k < 13
    · obtain ⟨M, hM⟩ : ∃ M, M = (L.take k).map (dropV b) ++ L.drop k := ⟨_, rfl⟩
      rw [← hM] at hv V
      have cv := hv.cv k hk13
      have cs := hv.cs k hk13
      have f1 := hv.fr (1 + k)
      have f2 := hv.fr (14 + k)
      have nle := dropN_le (L.take k) b
      rw [List.length_take] at nle
      obtain ⟨d, hd⟩ : ∃ d, d = dropN (L.take k) b := ⟨_, rfl⟩
      have i0 : (0 : Int) ≤ k := by omega
      have i1 : (k : Int) < 13 := by omega
      obtain ⟨s0, hs0⟩ : ∃ s0, s0 = refS M k := ⟨_, rfl⟩
      rw [← hs0] at cs
      clear hs0
      have sw : (k < L.length ∧ 0 ≤ refV M k ∧ refV M k < b ∧ dropN (L.take (k + 1)) b = d + 1 ∧ M.set k (false, 0, 0) = (L.take (k + 1)).map (dropV b) ++ L.drop (k + 1)) ∨ ((refV M k < 0 ∨ (0 ≤ refV M k ∧ b ≤ refV M k)) ∧ dropN (L.take (k + 1)) b = d ∧ M = (L.take (k + 1)).map (dropV b) ++ L.drop (k + 1)) := by
        by_cases hkl : k < L.length
        · have mk : k < M.length := by rw [hM, part_len _ _ _ (by omega)]; exact hkl
          have mg : M[k] = L[k] := by simp only [hM]; exact part_get _ _ _ hkl
          have hg : M.getD k (false, 0, 0) = L.getD k (false, 0, 0) := by simp [List.getD, mk, hkl, mg]
          have hr : refV M k = refV L k := by unfold refV; rw [hg]
          rw [hr]
          have sn := dropN_succ L b k hkl
          rw [← hd] at sn
          rcases refV_in F.out hkl with ⟨h1, h2, h3⟩ | ⟨h1, h2⟩
          · by_cases hlt : L[k].2.1 < b
            · have hc : (L[k].1 && decide (L[k].2.1 < b)) = true := by rw [h1, decide_eq_true hlt]; rfl
              refine .inl ⟨hkl, h3, by omega, by rw [sn, if_pos hc], ?_⟩
              have := part_set (dropV b) L k hkl
              rw [← hM, show dropV b L[k] = (false, 0, 0) from if_pos hc] at this
              exact this
            · have hc : ¬ (L[k].1 && decide (L[k].2.1 < b)) = true := by rw [decide_eq_false hlt, Bool.and_false]; simp
              refine .inr ⟨.inr ⟨h3, by omega⟩, by rw [sn, if_neg hc]; rfl, ?_⟩
              rw [hM]
              exact part_keep (dropV b) L k hkl (if_neg hc)
          · have hc : ¬ (L[k].1 && decide (L[k].2.1 < b)) = true := by rw [h1, Bool.false_and]; simp
            refine .inr ⟨.inl (by omega), by rw [sn, if_neg hc]; rfl, ?_⟩
            rw [hM]
            exact part_keep (dropV b) L k hkl (if_neg hc)
        · have e1 : L.take k = L := List.take_of_length_le (by omega)
          have e2 : L.take (k + 1) = L := List.take_of_length_le (by omega)
          have e3 : L.drop k = [] := List.drop_of_length_le (by omega)
          have e4 : L.drop (k + 1) = [] := List.drop_of_length_le (by omega)
          have ml : M.length = L.length := by rw [hM, e1, e3]; simp
          refine .inr ⟨.inl (by rw [refV_out (by omega)]; omega), by rw [e2, hd, e1], by rw [hM, e1, e2, e3, e4]⟩
      obtain ⟨l0, hl0⟩ : ∃ l0, l0 = refV M k := ⟨_, rfl⟩
      rw [← hl0] at cv sw
      have d1 : (0 : Int) ≤ d := by omega
      have d2 : (d : Int) ≤ 13 := by omega
      rw [← hd]
      have MK := Lib.hid (show ∀ h : k < L.length, k < M.length from fun h => by rw [hM, part_len _ _ _ (by omega)]; exact h)
      clear hv ho hM hd nle hl0
      rcases sw with ⟨s1, s2, s3, s4, s5⟩ | ⟨s1, s4, s5⟩
      · have S4 := Lib.hid s4
        have S5 := Lib.hid s5
        clear s4 s5
        go_wp2_with fail
        go_region
        have e : RCh ((wr.setCell ⟨gr, 1 + k, none⟩ (.int .i64 (-1))).setCell ⟨gr, 14 + k, none⟩ (.int .i64 0)).drew gr f (M.set k (false, 0, 0)) := by
          unfold RCh
          rw [(ref_clear (MK.out s1)).1, (ref_clear (MK.out s1)).2, ← rcs_sets _ _ _ k hk13, ← rcs_setv _ _ _ k hk13]
          exact ((Blk.set_ V.out (1 + k) (.int .i64 (-1))).set_ (14 + k) (.int .i64 0)).drew
        have E := Lib.hid e
        have O2 := Lib.hid (((O.out.setCell (p := ⟨gr, 1 + k, none⟩) (.inl (by simp)) (.int .i64 (-1))).setCell (p := ⟨gr, 14 + k, none⟩) (.inl (by simp)) (.int .i64 0)).drew)
        clear e
        obtain ⟨w5, hw5⟩ : ∃ w5, w5 = ((wr.setCell ⟨gr, 1 + k, none⟩ (.int .i64 (-1))).setCell ⟨gr, 14 + k, none⟩ (.int .i64 0)).drew := ⟨_, rfl⟩
        rw [← hw5] at E O2 ⊢
        clear hw5 cv cs f1 f2
        go_wp2_with fail
        refine ⟨⟨k + 1, by omega, by go_num, ?_, ?_, O2.out⟩, by simp [intOf]; omega⟩
        · rw [S4.out]; go_num
        · rw [← S5.out]; exact E.out
      · have S4 := Lib.hid s4
        have S5 := Lib.hid s5
        clear s4 s5
        rcases s1 with s1 | ⟨s1, s2⟩
        all_goals
          go_wp2_with fail
          refine ⟨⟨k + 1, by omega, by go_num, by rw [S4.out], ?_, O.out⟩, by simp [intOf]; omega⟩
          rw [← S5.out]; exact V.out
    · have hkk : k = 13 := by omega
      subst hkk
      rw [List.take_of_length_le hl] at hv ⊢
      rw [List.drop_of_length_le hl, List.append_nil] at hv
      rw [HN.out]
      have HV := Lib.hid (show RCh wr gr f L' by rw [← HS.out]; exact hv)
      clear hv ho V
      go_wp2_with fail
      go_ret
      exact ⟨rfl, HV.out, O.out⟩
end Go.Proofs.Ytpkifmophmjilaa
