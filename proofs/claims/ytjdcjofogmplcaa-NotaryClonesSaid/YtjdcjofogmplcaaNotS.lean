/- Package notary: Seal. -/
import Derived.Test.YtjdcjofogmplcaaNotC
import Derived.Deep.DeepCutAuto
namespace Go.Proofs.Ytjdcjofogmplcaa
open Go.RowKit Go.Maps
set_option linter.unusedVariables false

theorem seal_old (n b : Nat) (K : List (Int × List Int)) (p : Int) (a : Option Addr) (m c : Nat) (bs : List Int) (w : World) (h : Nty w n b K) (hv : VRow w a m 1 (brow bs)) (hq : OkE (p, bs)) (hm : (p, bs) ∈ K) (x : Int) (hx : num K (p, bs) = x) :
    Calls Try.prog 18 #[.pointer (some ⟨n, 0, none⟩), .int .i64 p, .slice a m c] w fun e w' => e = .returned (.int .i64 x) ∧ Below w.heap.size w w' := by
  subst hx
  have c0 : w.cell? ⟨n, 0, none⟩ = some (.map (some b)) := h.obj.cell 0
  obtain ⟨s, hs⟩ : ∃ s, s = strOfNums bs := ⟨_, rfl⟩
  have f1 : (convert 33 9 (.slice a m c)).run Try.prog w = .ok (.string s) w := by rw [hs]; exact conv_bytes hv
  have H := Lib.hid h
  have HQ := Lib.hid hq
  have HM := Lib.hid (decide_eq_true hm)
  have HS : Hid (kv (p, bs) = .agg #[.int .i64 p, .string s]) := by rw [hs]; exact Lib.hid rfl
  clear h hv hs hq hm
  go_enter Try.func18, Try.ntmps18
  go_upto_region 2 with fail
  obtain ⟨w1, hw1⟩ : ∃ w1, w1 = w.alloc (.cells #[.int .i64 p, .string s] 93) := ⟨_, rfl⟩
  obtain ⟨ga, hga⟩ : ∃ ga, ga = w.heap.size := ⟨_, rfl⟩
  rw [← hw1, ← hga]
  have hb1 : Below w.heap.size w w1 := by rw [hw1]; exact (Below.refl _ _).alloc (Nat.le_refl _) _
  have hA : Blk w1 ga 93 #[.int .i64 p, .string s] := by rw [hw1, hga]; exact Blk.new _ _ _
  have a0 := (hA.cell 0).trans (show _ = some (.int .i64 p) from rfl)
  have a1 := (hA.cell 1).trans (show _ = some (.string s) from rfl)
  have b0 := kept hb1 _ _ c0
  have N1 := Lib.hid (H.out.below hb1)
  have B1 := Lib.hid hb1
  have f2 : ∀ j, (Instr.lookup 88 (.map (some b)) (.agg #[.int .i64 p, .string s]) true).run Try.prog (w1.drewN j) = .ok (.tuple #[.int .i64 (num K (p, bs)), .bool true]) (w1.drewN j) := fun j => by
    have e := (N1.out.map.drewN j).look HQ.out
    rw [HS.out, HM.out] at e
    exact e
  clear hw1 hga hb1 hA c0 f1
  go_quiet (fail)
  go_wp2_with fail
  go_ret
  exact ⟨rfl, below_drewN B1.out _⟩

theorem seal_new (n b : Nat) (K : List (Int × List Int)) (p : Int) (a : Option Addr) (m c : Nat) (bs : List Int) (w : World) (h : Nty w n b K) (hv : VRow w a m 1 (brow bs)) (hq : OkE (p, bs)) (hm : (p, bs) ∉ K) (hlen : K.length < 1048576) :
    Calls Try.prog 18 #[.pointer (some ⟨n, 0, none⟩), .int .i64 p, .slice a m c] w fun e w' => e = .returned (.int .i64 ((K.length : Int) + 1)) ∧ Nty w' n b (K ++ [(p, bs)]) ∧ Only [b] w w' := by
  have c0 : w.cell? ⟨n, 0, none⟩ = some (.map (some b)) := h.obj.cell 0
  obtain ⟨s, hs⟩ : ∃ s, s = strOfNums bs := ⟨_, rfl⟩
  have f1 : (convert 33 9 (.slice a m c)).run Try.prog w = .ok (.string s) w := by rw [hs]; exact conv_bytes hv
  have H := Lib.hid h
  have HQ := Lib.hid hq
  have HN := Lib.hid hm
  have HM := Lib.hid (decide_eq_false hm)
  have HS : Hid (kv (p, bs) = .agg #[.int .i64 p, .string s]) := by rw [hs]; exact Lib.hid rfl
  clear h hv hs hq hm
  go_enter Try.func18, Try.ntmps18
  go_upto_region 2 with fail
  obtain ⟨w1, hw1⟩ : ∃ w1, w1 = w.alloc (.cells #[.int .i64 p, .string s] 93) := ⟨_, rfl⟩
  obtain ⟨ga, hga⟩ : ∃ ga, ga = w.heap.size := ⟨_, rfl⟩
  rw [← hw1, ← hga]
  have hb1 : Below w.heap.size w w1 := by rw [hw1]; exact (Below.refl _ _).alloc (Nat.le_refl _) _
  have hA : Blk w1 ga 93 #[.int .i64 p, .string s] := by rw [hw1, hga]; exact Blk.new _ _ _
  have a0 := (hA.cell 0).trans (show _ = some (.int .i64 p) from rfl)
  have a1 := (hA.cell 1).trans (show _ = some (.string s) from rfl)
  have b0 := kept hb1 _ _ c0
  have N1 := Lib.hid (H.out.below hb1)
  have B1 := Lib.hid hb1
  have hnum : num K (p, bs) = 0 := if_neg HN.out
  have f2 : ∀ j, (Instr.lookup 88 (.map (some b)) (.agg #[.int .i64 p, .string s]) true).run Try.prog (w1.drewN j) = .ok (.tuple #[.int .i64 0, .bool false]) (w1.drewN j) := fun j => by
    have e := (N1.out.map.drewN j).look HQ.out
    rw [HS.out, HM.out, hnum] at e
    exact e
  clear hw1 hga hb1 hA c0 f1 hnum
  go_quiet (fail)
  obtain ⟨w2, hw2⟩ : ∃ w2, w2 = w1.drewN nq := ⟨_, rfl⟩
  rw [← hw2]
  have a2 : w2.cell? ⟨ga, 0, none⟩ = some (.int .i64 p) := by rw [hw2]; exact a0
  have a3 : w2.cell? ⟨ga, 1, none⟩ = some (.string s) := by rw [hw2]; exact a1
  have b2 : w2.cell? ⟨n, 0, none⟩ = some (.map (some b)) := by rw [hw2]; exact b0
  have N2 : Hid (Nty w2 n b K) := by rw [hw2]; exact Lib.hid (N1.out.drewN _)
  have B2 : Hid (Below w.heap.size w w2) := by rw [hw2]; exact Lib.hid (below_drewN B1.out _)
  have hl := N2.out.map.len
  clear hw2 a0 a1 b0 f2 N1 B1
  go_upto_region 6 with fail
  have KS : ∀ j, (w2.drewN j).cell? ⟨ga, 0, none⟩ = some (.int .i64 p) ∧ (w2.drewN j).cell? ⟨ga, 1, none⟩ = some (.string s) ∧ (w2.drewN j).cell? ⟨n, 0, none⟩ = some (.map (some b)) := fun j => ⟨a2, a3, b2⟩
  refine wp_region_plan (fun w' => w'.cell? ⟨ga, 0, none⟩ = some (.int .i64 p) ∧ w'.cell? ⟨ga, 1, none⟩ = some (.string s) ∧ w'.cell? ⟨n, 0, none⟩ = some (.map (some b))) 6 (.take 0 (.take 1 (.take 2 (.take 3 (.take 4 (.take 5 (.one 6 .done))))))) (by kernel_rfl) (by kernel_rfl) (by kernel_rfl) (KS 1) ?_
  intro hS0
  repeat (refine' wpPlan_take rfl (by rfl) (by assumption) ?_ ?_; rotate_left; (· (intro w hSw; (try dsimp only at hSw); go_simp; try with_reducible rfl)); try simp only [Act.put, List.setIfInBounds_toArray, List.set_cons_zero, List.set_cons_succ])
  obtain ⟨w3, hw3, hmap3, ho3⟩ := (N2.out.map.drewN 1).put HQ.out HN.out hlen
  have hup : (Instr.mapUpdate 88 (.map (some b)) (.agg #[.int .i64 p, .string s]) (.int .i64 ((K.length : Int) + 1))).run Try.prog w2.drew = .ok () w3 := by rw [← HS.out]; exact hw3
  clear hw3
  refine wpPlan_last rfl (fun KT hKT => ?_)
  go_simp
  refine hKT.out _ _ ?_; clear hKT KT; try simp only [Act.put, List.setIfInBounds_toArray, List.set_cons_zero, List.set_cons_succ]
  refine wpPlan_done ?_
  go_wp2_with fail
  go_ret
  have hne := H.out.ne
  exact ⟨rfl, ⟨(N2.out.obj.drewN 1).only ho3 (by simpa using hne), hmap3⟩, ((Only.of_below (S := [b]) B2.out).drewN 1).trans ho3⟩
/-- Seal, whichever. -/
def sealed (K : List (Int × List Int)) (q : Int × List Int) : List (Int × List Int) := if q ∈ K then K else K ++ [q]
theorem num_sealed (K : List (Int × List Int)) (q : Int × List Int) : num (sealed K q) q = if q ∈ K then num K q else (K.length : Int) + 1 := by
  by_cases h : q ∈ K
  · simp [sealed, h]
  · simp [sealed, h, num, List.idxOf_append]
theorem nseal_c (n b : Nat) (K : List (Int × List Int)) (p : Int) (a : Option Addr) (m c : Nat) (bs : List Int) (w : World) (h : Nty w n b K) (hv : VRow w a m 1 (brow bs)) (hq : OkE (p, bs)) (hlen : K.length < 1048576) (x : Int) (hx : num (sealed K (p, bs)) (p, bs) = x) (K' : List (Int × List Int)) (hK : sealed K (p, bs) = K') :
    Calls Try.prog 18 #[.pointer (some ⟨n, 0, none⟩), .int .i64 p, .slice a m c] w fun e w' => e = .returned (.int .i64 x) ∧ Nty w' n b K' ∧ Only [b] w w' := by
  subst hx
  subst hK
  rw [num_sealed]
  by_cases hm : (p, bs) ∈ K
  · rw [if_pos hm]
    refine (seal_old n b K p a m c bs w h hv hq hm _ rfl).mono ?_
    rintro e w' ⟨rfl, hb⟩
    rw [sealed, if_pos hm]
    exact ⟨rfl, h.below hb, Only.of_below hb⟩
  · rw [if_neg hm]
    refine (seal_new n b K p a m c bs w h hv hq hm hlen).mono ?_
    rintro e w' ⟨rfl, hn, ho⟩
    rw [sealed, if_neg hm]
    exact ⟨rfl, hn, ho⟩
end Go.Proofs.Ytjdcjofogmplcaa
