/- NetM, NetN, NetP, NetQ, NetR. -/
import Derived.Test.YtfhlcjfgbhmecaaZNetL
/- Package net: link. -/
namespace Go.Proofs.Ytfhlcjfgbhmecaa
open Go.RowKit
set_option linter.unusedVariables false
set_option maxRecDepth 100000

theorem own_at {w : World} {base n c : Nat} {e : TypeId} {a : Option Addr} {xs : List Value} (h : w.ownsRow base e 1 (.slice a n c) n xs) {k : Nat} (hk : k < n) {v : Value} (hv : xs[k]? = some v) : ∃ g, a = some ⟨g, 0, none⟩ ∧ w.cell? ⟨g, k, none⟩ = some v := by
  obtain ⟨g, rfl⟩ : ∃ g, a = some ⟨g, 0, none⟩ := by
    rcases h.2 with ⟨hv, h0⟩ | ⟨g, cp, cur, hv, _⟩
    · omega
    · injection hv with hv
      exact ⟨g, hv⟩
  exact ⟨g, rfl, (Row.of_own h).cell hv⟩
theorem link_ok {B gn n : Nat} {ps : List Int} {q g : Nat → Nat} {room : Int} {lost : Nat → Int} {ms : Nat → List (Value × List Int)} (x y : Int) (w : World) (h : Nt B w gn n ps q g room lost ms) (hn : n ≤ 4096) (a b : Nat) (ha : a < n) (hb : b < n) (hab : a ≠ b)
    (hx : ps[a]? = some x ∧ ∀ m, m < a → ps[m]? ≠ some x) (hy : ps[b]? = some y ∧ ∀ m, m < b → ps[m]? ≠ some y) (k : Nat) (hk : a * n + b = k) :
    Calls Try.prog 64 #[.pointer (some ⟨gn, 0, none⟩), .int .i64 x, .int .i64 y] w fun e w' => e = .returned (.pointer (some ⟨q k, 0, none⟩)) ∧ w = w' := by
  have H := Lib.hid h
  obtain ⟨ap, cp, al, cl, ra, rc, h1, h2, h3, h4⟩ := h.ex
  have c1 : w.cell? ⟨gn, 1, none⟩ = some (.slice al n cl) := h1.cell 1
  obtain ⟨gl, rfl, r0⟩ := own_at h3 ha (v := .slice (ra a) n (rc a)) (by simp [ha])
  obtain ⟨gr, hgr, r1⟩ := own_at (h4 a ha) hb (v := .pointer (some ⟨q k, 0, none⟩)) (by simp [hb, hk])
  rw [hgr] at r0
  obtain ⟨rca, hrc⟩ : ∃ z, z = rc a := ⟨_, rfl⟩
  rw [← hrc] at r0
  obtain ⟨qk, hqk⟩ : ∃ z, z = q k := ⟨_, rfl⟩
  rw [← hqk] at r1 ⊢
  have HX := Lib.hid hx
  have HY := Lib.hid hy
  have i0 : (0 : Int) ≤ a := by omega
  have i1 : (a : Int) < n := by omega
  have i2 : (0 : Int) ≤ b := by omega
  have i3 : (b : Int) < n := by omega
  have i4 : ¬ (a : Int) = b := by omega
  have i5 : ((a : Int) == b) = false := beq_eq_false_iff_ne.2 i4
  have i6 : ¬ (a : Int) < 0 := by omega
  have i7 : ¬ (b : Int) < 0 := by omega
  clear h h1 h2 h3 h4 hgr hrc hqk hx hy hk
  go_enter Try.func64, Try.ntmps64
  go_wp2_with fail
  refine (place_c x _ H.out hn a (.inl ⟨a, rfl, HX.out⟩)).mono ?_; rintro e w' ⟨rfl, rfl⟩
  go_wp2_with fail
  refine (place_c y _ H.out hn b (.inl ⟨b, rfl, HY.out⟩)).mono ?_; rintro e w' ⟨rfl, rfl⟩
  go_wp2_with fail
  go_ret
  exact ⟨by first | rfl | trivial, by first | rfl | trivial⟩
end Go.Proofs.Ytfhlcjfgbhmecaa
/- Package net: link where there is none; Push, Len over a link. -/
namespace Go.Proofs.Ytfhlcjfgbhmecaa
open Go.RowKit
set_option linter.unusedVariables false
set_option maxRecDepth 100000

/-- The place of a party. -/
def At (n : Nat) (ps : List Int) (x : Int) (a : Nat) : Prop := a < n ∧ ps[a]? = some x ∧ ∀ m, m < a → ps[m]? ≠ some x
section
variable {B gn n : Nat} {ps : List Int} {q g : Nat → Nat} {room : Int} {lost : Nat → Int} {ms : Nat → List (Value × List Int)}
theorem link_self (x : Int) (w : World) (h : Nt B w gn n ps q g room lost ms) (hn : n ≤ 4096) (a : Nat) (hx : At n ps x a) :
    Calls Try.prog 64 #[.pointer (some ⟨gn, 0, none⟩), .int .i64 x, .int .i64 x] w fun e w' => e = .returned (.pointer none) ∧ w = w' := by
  have H := Lib.hid h
  have HX := Lib.hid hx
  have i1 : a < n := hx.1
  have i6 : ¬ (a : Int) < 0 := by omega
  clear h hx
  go_enter Try.func64, Try.ntmps64
  go_wp2_with fail
  refine (place_c x _ H.out hn a (.inl ⟨a, rfl, HX.out.2⟩)).mono ?_; rintro e w' ⟨rfl, rfl⟩
  go_wp2_with fail
  refine (place_c x _ H.out hn a (.inl ⟨a, rfl, HX.out.2⟩)).mono ?_; rintro e w' ⟨rfl, rfl⟩
  go_wp2_with fail
  go_ret
  exact ⟨by first | rfl | trivial, by first | rfl | trivial⟩
theorem nlen_c (x y : Int) (w : World) (h : Nt B w gn n ps q g room lost ms) (hn : n ≤ 4096) (a b : Nat) (hab : a ≠ b) (hx : At n ps x a) (hy : At n ps y b) (k : Nat) (hk : a * n + b = k) (hkn : k < n * n) (l : Nat) (hl : (ms k).length = l) :
    Calls Try.prog 34 #[.pointer (some ⟨gn, 0, none⟩), .int .i64 x, .int .i64 y] w fun e w' => e = .returned (.int .i64 l) ∧ w = w' := by
  have H := Lib.hid h
  have HX := Lib.hid hx
  have HY := Lib.hid hy
  have HK := Lib.hid hk
  have HL := Lib.hid hl
  have Q := Lib.hid (h.qs.que k hkn)
  clear h hx hy hk hl
  go_enter Try.func34, Try.ntmps34
  go_wp2_with fail
  refine (link_ok x y _ H.out hn a b HX.out.1 HY.out.1 hab HX.out.2 HY.out.2 k HK.out).mono ?_; rintro e w' ⟨rfl, rfl⟩
  go_wp2_with fail
  refine (lq_len_c (q k) (g k) room (lost k) (ms k) _ Q.out l HL.out).mono ?_; rintro e w' ⟨rfl, rfl⟩
  go_wp2_with fail
  go_ret
  exact ⟨by first | rfl | trivial, by first | rfl | trivial⟩
end
end Go.Proofs.Ytfhlcjfgbhmecaa
/- Package net: Push over a link. -/
namespace Go.Proofs.Ytfhlcjfgbhmecaa
open Go.RowKit
set_option linter.unusedVariables false
set_option maxRecDepth 100000

section
variable {B gn n : Nat} {ps : List Int} {q g : Nat → Nat} {room : Int} {lost : Nat → Int} {ms : Nat → List (Value × List Int)}
theorem npush_self (x : Int) (v : Option Addr) (m c : Nat) (w : World) (h : Nt B w gn n ps q g room lost ms) (hn : n ≤ 4096) (a : Nat) (hx : At n ps x a) :
    Calls Try.prog 32 #[.pointer (some ⟨gn, 0, none⟩), .int .i64 x, .agg #[.int .i64 x, .slice v m c]] w fun e w' => e = .returned (.bool false) ∧ Below w.heap.size w w' := by
  have H := Lib.hid h
  have HX := Lib.hid hx
  clear h hx
  go_enter Try.func32, Try.ntmps32
  go_wp2_with fail
  refine (link_self x _ (H.out.below ((Below.refl _ _).alloc (Nat.le_refl _) _)) hn a HX.out).mono ?_; rintro e w' ⟨rfl, rfl⟩
  go_wp2_with fail
  go_ret
  exact ⟨by first | rfl | trivial, (Below.refl _ _).alloc (Nat.le_refl _) _⟩
theorem npush_ok (x y : Int) (v : Option Addr) (m c : Nat) (bs : List Int) (w : World) (h : Nt B w gn n ps q g room lost ms) (hn : n ≤ 4096) (hr : 1 ≤ room ∧ room ≤ 256) (a b : Nat) (hab : a ≠ b) (hx : At n ps x a) (hy : At n ps y b) (k : Nat) (hk : a * n + b = k) (hkn : k < n * n) (hv : VRow w v m 1 (brow bs)) (hm : m ≤ 65536) (hlt : (ms k).length < room) :
    Calls Try.prog 32 #[.pointer (some ⟨gn, 0, none⟩), .int .i64 x, .agg #[.int .i64 y, .slice v m c]] w fun e w' => ∃ g' z, e = .returned (.bool true) ∧ Nt B w' gn n ps q (upq g k g') room (upq lost k (lost k)) (upq ms k (ms k ++ [(z, bs)])) ∧ Only [q k, g k] w w' := by
  obtain ⟨w1, hw1⟩ : ∃ w1, w1 = w.alloc (.cells #[.int .i64 y, .slice v m c] 68) := ⟨_, rfl⟩
  have b1 : Below w.heap.size w w1 := by rw [hw1]; exact (Below.refl _ _).alloc (Nat.le_refl _) _
  have H := Lib.hid (h.below b1)
  have HX := Lib.hid hx
  have HY := Lib.hid hy
  have HK := Lib.hid hk
  have HV := Lib.hid (hv.below b1)
  have HR := Lib.hid hr
  have Q := Lib.hid ((h.below b1).qs.que k hkn)
  have B1 := Lib.hid b1
  have s1 : w1.cell? ⟨w.heap.size, 1, none⟩ = some (.slice v m c) := by rw [hw1]; exact (Blk.new w _ _).cell 1
  have s0 : w1.cell? ⟨w.heap.size, 0, none⟩ = some (.int .i64 y) := by rw [hw1]; exact (Blk.new w _ _).cell 0
  have HW := Lib.hid hw1
  clear h hx hy hk hv hr hw1 b1
  go_enter Try.func32, Try.ntmps32
  go_upto_region 1 with fail
  rw [← HW.out]
  go_wp2_with fail
  refine (link_ok x y _ H.out hn a b HX.out.1 HY.out.1 hab HX.out.2 HY.out.2 k HK.out).mono ?_; rintro e w' ⟨rfl, rfl⟩
  go_wp2_with fail
  refine (push_ok (q k) (g k) room (lost k) (ms k) v m c bs _ Q.out HR.out HV.out hm hlt).mono ?_; rintro e w2 ⟨g', z, rfl, hq2, ho2, hg2, _⟩
  have N2 := Lib.hid (H.out.turn hkn hq2 ho2 hg2)
  have O2 := Lib.hid ((Only.of_below (S := [q k, g k]) B1.out).trans ho2)
  clear hq2 ho2 hg2
  go_wp2_with fail
  go_ret
  exact ⟨g', z, by first | rfl | trivial, N2.out, O2.out⟩
end
end Go.Proofs.Ytfhlcjfgbhmecaa
/- Package net: Peek; Lost where nothing was lost. -/
namespace Go.Proofs.Ytfhlcjfgbhmecaa
open Go.RowKit
set_option linter.unusedVariables false
set_option maxRecDepth 100000

section
variable {B gn n : Nat} {ps : List Int} {q g : Nat → Nat} {room : Int} {lost : Nat → Int} {ms : Nat → List (Value × List Int)}
theorem npeek_self (x : Int) (i : Int) (w : World) (h : Nt B w gn n ps q g room lost ms) (hn : n ≤ 4096) (a : Nat) (hx : At n ps x a) :
    Calls Try.prog 33 #[.pointer (some ⟨gn, 0, none⟩), .int .i64 x, .int .i64 x, .int .i64 i] w fun e w' => e = .returned (.tuple #[.slice none 0 0, .bool false]) ∧ w = w' := by
  have H := Lib.hid h
  have HX := Lib.hid hx
  clear h hx
  go_enter Try.func33, Try.ntmps33
  go_wp2_with fail
  refine (link_self x _ H.out hn a HX.out).mono ?_; rintro e w' ⟨rfl, rfl⟩
  go_wp2_with fail
  go_ret2
  exact ⟨by first | rfl | trivial, by first | rfl | trivial⟩
theorem npeek_no (x y : Int) (i : Int) (w : World) (h : Nt B w gn n ps q g room lost ms) (hn : n ≤ 4096) (a b : Nat) (hab : a ≠ b) (hx : At n ps x a) (hy : At n ps y b) (k : Nat) (hk : a * n + b = k) (hkn : k < n * n) (hi : I64 i) (hno : ¬ (0 ≤ i ∧ i < (ms k).length)) :
    Calls Try.prog 33 #[.pointer (some ⟨gn, 0, none⟩), .int .i64 x, .int .i64 y, .int .i64 i] w fun e w' => e = .returned (.tuple #[.slice none 0 0, .bool false]) ∧ w = w' := by
  have H := Lib.hid h
  have HX := Lib.hid hx
  have HY := Lib.hid hy
  have HK := Lib.hid hk
  have HI := Lib.hid hi
  have HO := Lib.hid hno
  have Q := Lib.hid (h.qs.que k hkn)
  clear h hx hy hk hi hno
  go_enter Try.func33, Try.ntmps33
  go_wp2_with fail
  refine (link_ok x y _ H.out hn a b HX.out.1 HY.out.1 hab HX.out.2 HY.out.2 k HK.out).mono ?_; rintro e w' ⟨rfl, rfl⟩
  go_wp2_with fail
  refine (peek_no (q k) (g k) room (lost k) (ms k) i _ Q.out HI.out HO.out).mono ?_; rintro e w' ⟨rfl, rfl⟩
  go_wp2_with fail
  go_ret2
  exact ⟨by first | rfl | trivial, by first | rfl | trivial⟩
theorem npeek_ok (x y : Int) (i : Nat) (w : World) (h : Nt B w gn n ps q g room lost ms) (hn : n ≤ 4096) (a b : Nat) (hab : a ≠ b) (hx : At n ps x a) (hy : At n ps y b) (k : Nat) (hk : a * n + b = k) (hkn : k < n * n) (hi : i < (ms k).length) (z : Int) (hz : z = i) :
    Calls Try.prog 33 #[.pointer (some ⟨gn, 0, none⟩), .int .i64 x, .int .i64 y, .int .i64 z] w fun e w' => ∃ v, e = .returned (.tuple #[v, .bool true]) ∧ Txt w' w.heap.size v (ms k)[i].2 ∧ Below w.heap.size w w' := by
  subst hz
  have H := Lib.hid h
  have HX := Lib.hid hx
  have HY := Lib.hid hy
  have HK := Lib.hid hk
  have Q := Lib.hid (h.qs.que k hkn)
  have HI := Lib.hid hi
  clear h hx hy hk
  go_enter Try.func33, Try.ntmps33
  go_wp2_with fail
  refine (link_ok x y _ H.out hn a b HX.out.1 HY.out.1 hab HX.out.2 HY.out.2 k HK.out).mono ?_; rintro e w' ⟨rfl, rfl⟩
  go_wp2_with fail
  refine (peek_ok (q k) (g k) room (lost k) (ms k) i _ Q.out hi).mono ?_; rintro e w2 ⟨v, rfl, t2, b2⟩
  have T2 := Lib.hid t2
  have B2 := Lib.hid b2
  clear t2 b2
  go_wp2_with fail
  go_ret2
  exact ⟨v, by first | rfl | trivial, T2.out, B2.out⟩
end
end Go.Proofs.Ytfhlcjfgbhmecaa
/- Package net: Lost where nothing was lost. -/
namespace Go.Proofs.Ytfhlcjfgbhmecaa
open Go.RowKit
set_option linter.unusedVariables false
set_option maxRecDepth 100000

theorem at_lt {n a b : Nat} (ha : a < n) (hb : b < n) : a * n + b < n * n := by
  have h1 : (a + 1) * n ≤ n * n := Nat.mul_le_mul_right n ha
  have h2 : (a + 1) * n = a * n + n := Nat.succ_mul a n
  omega
theorem nlost_c {B gn n : Nat} {ps : List Int} {q g : Nat → Nat} {room : Int} {lost : Nat → Int} {ms : Nat → List (Value × List Int)} (w : World) (h : Nt B w gn n ps q g room lost ms) (hn : n ≤ 4096) (hl : ∀ k, k < n * n → lost k = 0) :
    Calls Try.prog 35 #[.pointer (some ⟨gn, 0, none⟩)] w fun e w' => e = .returned (.int .i64 0) ∧ w = w' := by
  obtain ⟨ap, cp, al, cl, ra, rc, h1, h2, h3, h4⟩ := h.ex
  have c1 : w.cell? ⟨gn, 1, none⟩ = some (.slice al n cl) := h1.cell 1
  have H3 := Lib.hid h3
  have H4 := Lib.hid h4
  have HL := Lib.hid hl
  have QS := Lib.hid h.qs
  clear h h1 h2 h3 h4 hl
  go_enter Try.func35, Try.ntmps35
  go_wp2_with fail
  go_loopw [3, 13] (fun s i wr => ∃ a : Nat, a ≤ n ∧ i = .int .i64 a ∧ s = .int .i64 0 ∧ wr = w) (fun _ i _ => n - (intOf i).toNat)
  case atStart => exact ⟨0, by omega, rfl, rfl, rfl⟩
  case round =>
    obtain ⟨a, ha, rfl, rfl, rfl⟩ := hrel
    by_cases hlt : a < n
    · obtain ⟨gl, hgl, r0⟩ := own_at H3.out hlt (v := .slice (ra a) n (rc a)) (by simp [hlt])
      subst hgl
      have R4 := Lib.hid (H4.out a hlt)
      obtain ⟨xa, hxa⟩ : ∃ z, z = ra a := ⟨_, rfl⟩
      obtain ⟨xc, hxc⟩ : ∃ z, z = rc a := ⟨_, rfl⟩
      rw [← hxa, ← hxc] at r0 R4
      have i0 : (0 : Int) ≤ a := by omega
      have i1 : (a : Int) < n := by omega
      clear hxa hxc
      go_wp2_with fail
      go_loopw [3, 19] (fun s i wx => ∃ b : Nat, b ≤ n ∧ i = .int .i64 b ∧ s = .int .i64 0 ∧ wx = wr) (fun _ i _ => n - (intOf i).toNat)
      case atStart => exact ⟨0, by omega, rfl, rfl, rfl⟩
      case round =>
        obtain ⟨b, hb, rfl, rfl, rfl⟩ := hrel
        by_cases hlt2 : b < n
        · obtain ⟨gr, hgr, r1⟩ := own_at R4.out hlt2 (v := .pointer (some ⟨q (a * n + b), 0, none⟩)) (by simp [hlt2])
          subst hgr
          have Q := Lib.hid (QS.out.que _ (at_lt hlt hlt2))
          have L0 := HL.out _ (at_lt hlt hlt2)
          rw [L0] at Q
          obtain ⟨k, hk⟩ : ∃ k, k = a * n + b := ⟨_, rfl⟩
          rw [← hk] at Q r1
          obtain ⟨qk, hqk⟩ : ∃ z, z = q k := ⟨_, rfl⟩
          rw [← hqk] at Q r1
          have i2 : (0 : Int) ≤ b := by omega
          have i3 : (b : Int) < n := by omega
          clear L0 hk hqk
          go_wp2_with fail
          refine (lq_lost_c qk (g k) room 0 (ms k) _ Q.out).mono ?_; rintro e w' ⟨rfl, rfl⟩
          go_wp2_with fail
          go_roundw
          case rel => exact ⟨b + 1, by omega, by go_num, by first | rfl | trivial, by first | rfl | trivial⟩
          case measure => simp [intOf]; omega
        · have i3 : ¬ (b : Int) < n := by omega
          go_wp2_with fail
          go_roundw
          case rel => exact ⟨a + 1, by omega, by go_num, by first | rfl | trivial, by first | rfl | trivial⟩
          case measure => simp [intOf]; omega
    · have i1 : ¬ (a : Int) < n := by omega
      go_wp2_with fail
      go_ret
      exact ⟨by first | rfl | trivial, by first | rfl | trivial⟩
end Go.Proofs.Ytfhlcjfgbhmecaa
