/- choose.Greatest, and the document's. -/
import Derived.Test.YtpkifmophmjilaaChooseP
import Derived.BigQuiet
namespace Go.Proofs.Ytpkifmophmjilaa
open Go.RowKit
set_option linter.unusedVariables false

/-- The walk of lists is not too long. -/
structure Small (n : Nat) (ps : List PD) : Prop where
  n : n ≤ 4096
  c : ∀ p ∈ ps, p.cn ≤ 4096
  b : ∀ p ∈ ps, ∀ c ∈ p.cs, c.bn ≤ 4096 ∧ c.vn ≤ 4096
theorem greatB_yes {inst n seq ins : Int} {c : CD} (h1 : c.inst = ins) (h2 : c.seq = seq) (e : ins = inst) (hs : seq ≤ 16) : greatB inst n c = if n < seq then seq else n := by
  subst h1 h2
  exact if_pos ⟨e, hs⟩
theorem greatB_no {inst n seq ins : Int} {c : CD} (h1 : c.inst = ins) (h2 : c.seq = seq) (e : ¬ (ins = inst ∧ seq ≤ 16)) : greatB inst n c = n := by
  subst h1 h2
  exact if_neg e

set_option maxRecDepth 100000 in
set_option maxHeartbeats 3200000 in
theorem greatest_c (inst : Int) (a : Option Addr) (n c : Nat) (ps : List PD) (w : World) (h : Parts w a n c ps) (hs : Small n ps) (hi : I64 inst) (g : Int) (hg : greatest inst ps = g) :
    Calls Try.prog 27 #[.int .i64 inst, .slice a n c] w fun e w' => e = .returned (.int .i64 g) ∧ Below w.heap.size w w' := by
  have H := Lib.hid h
  have S := Lib.hid hs
  have G := Lib.hid hg
  have n4 := hs.n
  clear h hs hg
  obtain ⟨F, hF⟩ : ∃ F : Int → PD → Int, F = fun n p => p.cs.foldl (greatB inst) n := ⟨_, rfl⟩
  have HF := Lib.hid hF
  have G' := Lib.hid (show ps.foldl F 0 = g by rw [hF]; exact G.out)
  clear hF G
  go_enter Try.func27, Try.ntmps27
  go_wp2_with fail
  go_loopw [5, 12] (fun v i wr => ∃ k : Nat, k ≤ n ∧ i = .int .i64 k ∧ v = .int .i64 ((ps.take k).foldl F 0) ∧ Below w.heap.size w wr) (fun _ i _ => n - (intOf i).toNat)
  case atStart => exact ⟨0, by omega, rfl, rfl, Below.refl _ _⟩
  case round =>
    obtain ⟨k, hk, rfl, rfl, hb⟩ := hrel
    have B := Lib.hid hb
    by_cases hlt : k < n
    · obtain ⟨b, off, rfl, hbl, p, hp, hpI, p0, p1, p2, p3⟩ := (H.out.below hb).get hlt
      have PI := Lib.hid hpI
      have HP := Lib.hid hp
      have pc : p.cn ≤ 4096 := S.out.c p (List.mem_of_getElem? hp)
      obtain ⟨N0, hN0⟩ : ∃ N0, N0 = (ps.take k).foldl F 0 := ⟨_, rfl⟩
      rw [← hN0]
      have NX : Hid ((ps.take (k + 1)).foldl F 0 = p.cs.foldl (greatB inst) N0) := Lib.hid (by rw [foldl_take_succ F 0 ps k p hp, ← hN0, HF.out])
      obtain ⟨⟨pf, pva, pvn, pvc, pvs, pca, pcn, pcc, pcs, pse⟩, hpe⟩ : ∃ q, q = p := ⟨_, rfl⟩
      rw [← hpe] at p0 p1 p2 p3 pc NX PI
      simp only at p0 p1 p2 p3 pc NX
      have CI : Hid (Certs wr pca pcn pcc pcs) := Lib.hid PI.out.c
      have i0 : (0 : Int) ≤ k := by omega
      have i1 : (k : Int) < n := by omega
      clear hpI hp hpe hN0 hb hbl PI
      go_wp2_with fail
      obtain ⟨w2, hw2⟩ : ∃ w2, w2 = wr.alloc (.cells #[.int .i64 pf, .slice pva pvn pvc, .slice pca pcn pcc, .int .i64 pse] 32) := ⟨_, rfl⟩
      rw [← hw2]
      have b2 : Below wr.heap.size wr w2 := by rw [hw2]; exact (Below.refl _ _).alloc (Nat.le_refl _) _
      have B2 := Lib.hid (B.out.trans (b2.mono B.out.size))
      have C2 := Lib.hid (CI.out.below b2)
      clear hw2 b2 p0 p1 p2 p3 CI
      go_loopw [5, 19] (fun v i wx => ∃ q : Nat, q ≤ pcn ∧ i = .int .i64 q ∧ v = .int .i64 ((pcs.take q).foldl (greatB inst) N0) ∧ Below w2.heap.size w2 wx) (fun _ i _ => pcn - (intOf i).toNat)
      case atStart => exact ⟨0, by omega, rfl, rfl, Below.refl _ _⟩
      case round =>
        obtain ⟨q, hq, rfl, rfl, hb3⟩ := hrel
        have B3 := Lib.hid hb3
        by_cases hq2 : q < pcn
        · obtain ⟨b3, o3, rfl, hbl3, x, hx, hxI, x0, x1, x2, x3, x4⟩ := (C2.out.below hb3).get hq2
          obtain ⟨N1, hN1⟩ : ∃ N1, N1 = (pcs.take q).foldl (greatB inst) N0 := ⟨_, rfl⟩
          rw [← hN1]
          have NX3 : Hid ((pcs.take (q + 1)).foldl (greatB inst) N0 = greatB inst N1 x) := Lib.hid (by rw [foldl_take_succ (greatB inst) N0 pcs q x hx, ← hN1])
          have YES : Hid (x.inst = inst → x.seq ≤ 16 → greatB inst N1 x = if N1 < x.seq then x.seq else N1) := Lib.hid fun e1 e2 => greatB_yes rfl rfl e1 e2
          have NO : Hid (¬ (x.inst = inst ∧ x.seq ≤ 16) → greatB inst N1 x = N1) := Lib.hid fun e => greatB_no rfl rfl e
          obtain ⟨xv, hxv⟩ : ∃ z, z = x.view := ⟨_, rfl⟩
          obtain ⟨xi, hxi⟩ : ∃ z, z = x.inst := ⟨_, rfl⟩
          obtain ⟨xs, hxs⟩ : ∃ z, z = x.seq := ⟨_, rfl⟩
          rw [← hxv] at x0
          rw [← hxi] at x1 YES NO
          rw [← hxs] at x2 YES NO
          have j0 : (0 : Int) ≤ q := by omega
          have j1 : (q : Int) < pcn := by omega
          clear hx hxI hN1 hb3 hxv hxi hxs
          rcases (show (xi = inst ∧ xs ≤ 16 ∧ N1 < xs) ∨ (xi = inst ∧ xs ≤ 16 ∧ ¬ N1 < xs) ∨ (xi = inst ∧ ¬ xs ≤ 16) ∨ xi ≠ inst by omega) with ⟨h1, h2, h3⟩ | ⟨h1, h2, h3⟩ | ⟨h1, h2⟩ | h1
          · have Y := Lib.hid (show greatB inst N1 x = xs by rw [YES.out h1 h2, if_pos h3])
            subst h1
            go_wp2_with fail
            go_roundw
            case rel => exact ⟨q + 1, by omega, by go_num, by rw [NX3.out, Y.out], (B3.out.alloc B3.out.size _)⟩
            case measure => simp [intOf]; omega
          · have Y := Lib.hid (show greatB inst N1 x = N1 by rw [YES.out h1 h2, if_neg h3])
            subst h1
            go_wp2_with fail
            go_roundw
            case rel => exact ⟨q + 1, by omega, by go_num, by rw [NX3.out, Y.out], (B3.out.alloc B3.out.size _)⟩
            case measure => simp [intOf]; omega
          · have Y := Lib.hid (NO.out (fun h => h2 h.2))
            subst h1
            have e2 : decide (xs ≤ 16) = false := decide_eq_false h2
            go_wp2_with fail
            go_roundw
            case rel => exact ⟨q + 1, by omega, by go_num, by rw [NX3.out, Y.out], (B3.out.alloc B3.out.size _)⟩
            case measure => simp [intOf]; omega
          · have Y := Lib.hid (NO.out (fun h => h1 h.1))
            have e2 : (xi == inst) = false := beq_eq_false_iff_ne.2 h1
            clear h1
            go_wp2_with fail
            go_roundw
            case rel => exact ⟨q + 1, by omega, by go_num, by rw [NX3.out, Y.out], (B3.out.alloc B3.out.size _)⟩
            case measure => simp [intOf]; omega
        · have hqq : q = pcn := by omega
          have LEN := C2.out.len
          have E := Lib.hid (show (pcs.take q).foldl (greatB inst) N0 = (ps.take (k + 1)).foldl F 0 by rw [NX.out, List.take_of_length_le (by omega)])
          clear hqq LEN hb3
          go_wp2_with fail
          go_roundw
          case rel => exact ⟨k + 1, by omega, by go_num, by rw [E.out], B2.out.trans (B3.out.mono B2.out.size)⟩
          case measure => simp [intOf]; omega
    · have LEN := H.out.len
      have E := Lib.hid (show (ps.take k).foldl F 0 = g by rw [List.take_of_length_le (by omega)]; exact G'.out)
      rw [E.out]
      clear hb LEN
      go_wp2_with fail
      go_ret
      exact ⟨rfl, B.out⟩
end Go.Proofs.Ytpkifmophmjilaa
