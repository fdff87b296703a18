/- Package psephoslaw07: filled. -/
import Derived.Test.YtjdcjofogmplcaaLinkW
namespace Go.Proofs.Ytjdcjofogmplcaa
open Go.RowKit
set_option linter.unusedVariables false

/-- What filled pushes. -/
def fil (n : Nat) : List (List Int) := (List.range n).map fun (i : Nat) => [(i : Int)]
theorem fil_len (n : Nat) : (fil n).length = n := by simp [fil]
theorem fil_succ (n : Nat) : fil n ++ [[(n : Int)]] = fil (n + 1) := by simp [fil, List.range_succ]
theorem fil_at (n k : Nat) (h : k < n) : (fil n)[k]? = some [(k : Int)] := by simp [fil, h]
theorem own_byte (w : World) (x : Int) : VRow (w.alloc (.cells #[.int .u8 x] 5)) (some ⟨w.heap.size, 0, none⟩) 1 1 (brow [x]) := own_bytes w [x]

theorem filled_c (n room : Nat) (w : World) (hn : n ≤ 20) (hr : n ≤ room) (hr1 : 1 ≤ room) (hr2 : room ≤ 256) (i j : Int) (hi : i = n) (hj : j = room) :
    Calls Try.prog 37 #[.int .i64 i, .int .i64 j] w fun e w' => ∃ q, e = .returned (.tuple #[.pointer (some ⟨q, 0, none⟩), .bool true]) ∧ Lk w w' q room 0 (fil n) := by
  have HI := Lib.hid hi
  have HJ := Lib.hid hj
  have r1 : (1 : Int) ≤ j := by omega
  have r2 : j ≤ 256 := by omega
  clear hi hj
  go_enter Try.func37, Try.ntmps37
  go_wp2_with fail
  refine (lq_new_ok j _ r1 r2).mono ?_; rintro e w1 ⟨q, rfl, hq1, hg1, hb1⟩
  have L1 := Lib.hid (show Lk w w1 q j 0 [] from ⟨q, [], hq1, rfl, hg1, hg1, hb1⟩)
  clear hq1 hg1 hb1
  go_wp2_with fail
  go_loopw [8] (fun x wr => ∃ k : Nat, k ≤ n ∧ x = .int .i64 k ∧ Lk w wr q j 0 (fil k)) (fun x _ => n - (intOf x).toNat)
  case atStart => exact ⟨0, by omega, rfl, L1.out⟩
  case round =>
    obtain ⟨k, hk, rfl, hl⟩ := hrel
    have HL := Lib.hid hl
    clear hl
    by_cases hlt : k < n
    · have c1 : (k : Int) < i := by have := HI.out; omega
      have hw : IntKind.u8.wrap (k : Int) = k := IntWalk.u8_in _ (by omega)
      go_wp2_with fail
      refine (lk_push w q j 0 (fil k) _ 1 1 [(k : Int)] _ (HL.out.alloc _) ⟨r1, r2⟩ (own_byte wr k) (by omega) (by rw [fil_len]; have := HJ.out; omega) _ (fil_succ k)).mono ?_; rintro e w2 ⟨rfl, l2, _⟩
      have L2 := Lib.hid l2
      clear l2
      go_wp2_with fail
      go_roundw
      case rel => exact ⟨k + 1, by omega, by go_num, L2.out⟩
      case measure => simp [intOf]; omega
    · have hkn : k = n := by omega
      have c1 : ¬ (k : Int) < i := by have := HI.out; omega
      have L3 := Lib.hid (show Lk w wr q room 0 (fil n) by rw [← hkn, ← HJ.out]; exact HL.out)
      clear hkn
      go_wp2_with fail
      go_ret2
      exact ⟨q, rfl, L3.out⟩
end Go.Proofs.Ytjdcjofogmplcaa
