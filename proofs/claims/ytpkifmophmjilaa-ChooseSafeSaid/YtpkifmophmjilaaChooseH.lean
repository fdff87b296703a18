/- The document's Greatest. -/
import Derived.Test.YtpkifmophmjilaaChooseG
namespace Go.Proofs.Ytpkifmophmjilaa
open Go.RowKit
set_option linter.unusedVariables false

theorem range_c (x : Int) (w : World) (h : I64 x) (b : Bool) (hb : decide (1 ≤ x ∧ x ≤ 16) = b) :
    Calls Try.prog 50 #[.int .i64 x] w fun e w' => e = .returned (.bool b) ∧ w = w' := by
  rcases (show (1 ≤ x ∧ x ≤ 16) ∨ (1 ≤ x ∧ ¬ x ≤ 16) ∨ ¬ 1 ≤ x by omega) with ⟨h1, h2⟩ | ⟨h1, h2⟩ | h1
  · obtain rfl : b = true := by rw [← hb]; exact decide_eq_true ⟨h1, h2⟩
    clear hb
    go_enter Try.func50, Try.ntmps50
    go_wp2_with fail
    go_ret
    exact ⟨rfl, rfl⟩
  · obtain rfl : b = false := by rw [← hb]; exact decide_eq_false (fun h => h2 h.2)
    clear hb
    have e : decide (x ≤ 16) = false := decide_eq_false h2
    go_enter Try.func50, Try.ntmps50
    go_wp2_with fail
    go_ret
    exact ⟨rfl, rfl⟩
  · obtain rfl : b = false := by rw [← hb]; exact decide_eq_false (fun h => h1 h.1)
    clear hb
    have e : decide (1 ≤ x) = false := decide_eq_false h1
    go_enter Try.func50, Try.ntmps50
    go_wp2_with fail
    go_ret
    exact ⟨rfl, rfl⟩
theorem greatB_low {inst n seq ins : Int} {c : CD} (h1 : c.inst = ins) (h2 : c.seq = seq) (hn : 0 ≤ n) (hs : seq < 1) : greatB inst n c = n := by
  subst h1 h2
  unfold greatB
  split
  · rw [if_neg (by omega)]
  · rfl
theorem greatB_ge {inst n : Int} {c : CD} : n ≤ greatB inst n c := by
  unfold greatB
  split
  · split <;> omega
  · exact Int.le_refl _
theorem foldGreat_ge (inst : Int) : ∀ (cs : List CD) (n : Int), n ≤ cs.foldl (greatB inst) n
  | [], n => Int.le_refl _
  | c :: cs, n => by
    rw [List.foldl_cons]
    exact Int.le_trans greatB_ge (foldGreat_ge inst cs _)
theorem foldPart_ge (inst : Int) : ∀ (ps : List PD) (n : Int), n ≤ ps.foldl (fun n p => p.cs.foldl (greatB inst) n) n
  | [], n => Int.le_refl _
  | c :: cs, n => by
    rw [List.foldl_cons]
    exact Int.le_trans (foldGreat_ge inst _ _) (foldPart_ge inst cs _)

set_option maxRecDepth 100000 in
set_option maxHeartbeats 3200000 in
theorem rgreatest_c (inst : Int) (a : Option Addr) (n c : Nat) (ps : List PD) (w : World) (h : Parts w a n c ps) (hs : Small n ps) (hi : I64 inst) (g : Int) (hg : greatest inst ps = g) :
    Calls Try.prog 37 #[.int .i64 inst, .slice a n c] w fun e w' => e = .returned (.int .i64 g) ∧ Below w.heap.size w w' := by
  have H := Lib.hid h
  have S := Lib.hid hs
  have G := Lib.hid hg
  have n4 := hs.n
  clear h hs hg
  obtain ⟨F, hF⟩ : ∃ F : Int → PD → Int, F = fun n p => p.cs.foldl (greatB inst) n := ⟨_, rfl⟩
  have HF := Lib.hid hF
  have G' := Lib.hid (show ps.foldl F 0 = g by rw [hF]; exact G.out)
  have POS : Hid (∀ k, 0 ≤ (ps.take k).foldl F 0) := Lib.hid fun k => by rw [hF]; exact foldPart_ge inst _ 0
  clear hF G
  go_enter Try.func37, Try.ntmps37
  go_wp2_with fail
  go_loopw [5, 6] (fun v i wr => ∃ k : Nat, k ≤ n ∧ i = .int .i64 k ∧ v = .int .i64 ((ps.take k).foldl F 0) ∧ Below w.heap.size w wr) (fun _ i _ => n - (intOf i).toNat)
  case atStart => exact ⟨0, by omega, rfl, rfl, Below.refl _ _⟩
  case round =>
    obtain ⟨k, hk, rfl, rfl, hb⟩ := hrel
    have B := Lib.hid hb
    by_cases hlt : k < n
    · obtain ⟨b, off, rfl, hbl, p, hp, hpI, p0, p1, p2, p3⟩ := (H.out.below hb).get hlt
      have PI := Lib.hid hpI
      have HP := Lib.hid hp
      have pc : p.cn ≤ 4096 := S.out.c p (List.mem_of_getElem? hp)
      obtain ⟨N0, hN0⟩ : ∃ N0, N0 = (ps.take k).foldl F 0 := ⟨_, rfl⟩
      rw [← hN0]
      have N0P : Hid (0 ≤ N0) := Lib.hid (by rw [hN0]; exact POS.out k)
      have NX : Hid ((ps.take (k + 1)).foldl F 0 = p.cs.foldl (greatB inst) N0) := Lib.hid (by rw [foldl_take_succ F 0 ps k p hp, ← hN0, HF.out])
      obtain ⟨⟨pf, pva, pvn, pvc, pvs, pca, pcn, pcc, pcs, pse⟩, hpe⟩ : ∃ q, q = p := ⟨_, rfl⟩
      rw [← hpe] at p0 p1 p2 p3 pc NX PI
      simp only at p0 p1 p2 p3 pc NX
      have CI : Hid (Certs wr pca pcn pcc pcs) := Lib.hid PI.out.c
      have i0 : (0 : Int) ≤ k := by omega
      have i1 : (k : Int) < n := by omega
      clear hpI hp hpe hN0 hb hbl PI p0 p1 p3
      go_wp2_with fail
      go_loopw [5, 7] (fun v i wx => ∃ q : Nat, q ≤ pcn ∧ i = .int .i64 q ∧ v = .int .i64 ((pcs.take q).foldl (greatB inst) N0) ∧ Below wr.heap.size wr wx) (fun _ i _ => pcn - (intOf i).toNat)
      case atStart => exact ⟨0, by omega, rfl, rfl, Below.refl _ _⟩
      case round =>
        obtain ⟨q, hq, rfl, rfl, hb3⟩ := hrel
        have B3 := Lib.hid hb3
        have p2' := kept hb3 _ _ p2
        by_cases hq2 : q < pcn
        · obtain ⟨b3, o3, rfl, hbl3, x, hx, hxI, x0, x1, x2, x3, x4⟩ := (CI.out.below hb3).get hq2
          obtain ⟨N1, hN1⟩ : ∃ N1, N1 = (pcs.take q).foldl (greatB inst) N0 := ⟨_, rfl⟩
          rw [← hN1]
          have N1P : Hid (0 ≤ N1) := Lib.hid (by rw [hN1]; exact Int.le_trans N0P.out (foldGreat_ge inst _ _))
          have NX3 : Hid ((pcs.take (q + 1)).foldl (greatB inst) N0 = greatB inst N1 x) := Lib.hid (by rw [foldl_take_succ (greatB inst) N0 pcs q x hx, ← hN1])
          have YES : Hid (x.inst = inst → x.seq ≤ 16 → greatB inst N1 x = if N1 < x.seq then x.seq else N1) := Lib.hid fun e1 e2 => greatB_yes rfl rfl e1 e2
          have NO : Hid (¬ (x.inst = inst ∧ x.seq ≤ 16) → greatB inst N1 x = N1) := Lib.hid fun e => greatB_no rfl rfl e
          have LOW : Hid (x.seq < 1 → greatB inst N1 x = N1) := Lib.hid fun e => greatB_low rfl rfl N1P.out e
          have XI2 := hxI.i2
          obtain ⟨xv, hxv⟩ : ∃ z, z = x.view := ⟨_, rfl⟩
          obtain ⟨xi, hxi⟩ : ∃ z, z = x.inst := ⟨_, rfl⟩
          obtain ⟨xs, hxs⟩ : ∃ z, z = x.seq := ⟨_, rfl⟩
          rw [← hxv] at x0
          rw [← hxi] at x1 YES NO
          rw [← hxs] at x2 YES NO LOW XI2
          have j0 : (0 : Int) ≤ q := by omega
          have j1 : (q : Int) < pcn := by omega
          clear hx hxI hN1 hb3 hxv hxi hxs
          by_cases h1 : xi = inst
          · subst h1
            rcases (show (1 ≤ xs ∧ xs ≤ 16 ∧ N1 < xs) ∨ (1 ≤ xs ∧ xs ≤ 16 ∧ ¬ N1 < xs) ∨ ¬ (1 ≤ xs ∧ xs ≤ 16) by omega) with ⟨h0, h2, h3⟩ | ⟨h0, h2, h3⟩ | h2
            · have Y := Lib.hid (show greatB xi N1 x = xs by rw [YES.out rfl h2, if_pos h3])
              go_wp2_with fail
              refine (range_c xs _ XI2 true (decide_eq_true ⟨h0, h2⟩)).mono ?_; rintro e w' ⟨rfl, rfl⟩
              go_wp2_with fail
              go_roundw
              case rel => exact ⟨q + 1, by omega, by go_num, by rw [NX3.out, Y.out], (B3.out.alloc B3.out.size _)⟩
              case measure => simp [intOf]; omega
            · have Y := Lib.hid (show greatB xi N1 x = N1 by rw [YES.out rfl h2, if_neg h3])
              go_wp2_with fail
              refine (range_c xs _ XI2 true (decide_eq_true ⟨h0, h2⟩)).mono ?_; rintro e w' ⟨rfl, rfl⟩
              go_wp2_with fail
              go_roundw
              case rel => exact ⟨q + 1, by omega, by go_num, by rw [NX3.out, Y.out], (B3.out.alloc B3.out.size _)⟩
              case measure => simp [intOf]; omega
            · have Y := Lib.hid (show greatB xi N1 x = N1 by
                by_cases h0 : xs < 1
                · exact LOW.out h0
                · exact NO.out (fun h => h2 ⟨by omega, h.2⟩))
              go_wp2_with fail
              refine (range_c xs _ XI2 false (decide_eq_false h2)).mono ?_; rintro e w' ⟨rfl, rfl⟩
              go_wp2_with fail
              go_roundw
              case rel => exact ⟨q + 1, by omega, by go_num, by rw [NX3.out, Y.out], (B3.out.alloc B3.out.size _)⟩
              case measure => simp [intOf]; omega
          · have Y := Lib.hid (NO.out (fun h => h1 h.1))
            have e2 : (xi == inst) = false := beq_eq_false_iff_ne.2 h1
            clear h1
            go_wp2_with fail
            go_roundw
            case rel => exact ⟨q + 1, by omega, by go_num, by rw [NX3.out, Y.out], (B3.out.alloc B3.out.size _)⟩
            case measure => simp [intOf]; omega
        · have hqq : q = pcn := by omega
          have LEN := CI.out.len
          have E := Lib.hid (show (pcs.take q).foldl (greatB inst) N0 = (ps.take (k + 1)).foldl F 0 by rw [NX.out, List.take_of_length_le (by omega)])
          clear hqq LEN hb3
          go_wp2_with fail
          go_roundw
          case rel => exact ⟨k + 1, by omega, by go_num, by rw [E.out], B.out.trans (B3.out.mono B.out.size)⟩
          case measure => simp [intOf]; omega
    · have LEN := H.out.len
      have E := Lib.hid (show (ps.take k).foldl F 0 = g by rw [List.take_of_length_le (by omega)]; exact G'.out)
      rw [E.out]
      clear hb LEN
      go_wp2_with fail
      go_ret
      exact ⟨rfl, B.out⟩
end Go.Proofs.Ytpkifmophmjilaa
