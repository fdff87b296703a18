/- Package cache: what its functions do. -/
import Derived.Test.YtfhlcjfgbhmecaaProg
import Derived.Test.YtfhlcjfgbhmecaaRow
import Derived.Deep.AppendLies
import Derived.Test.YtfhlcjfgbhmecaaOpen
import Derived.StillTailTactics
import Derived.Deep.QuietTactic
import Derived.Laws.MakeOwn
namespace Go.Proofs.Ytfhlcjfgbhmecaa
open Go.RowKit
set_option linter.unusedVariables false

/-- A reply's cells. -/
def rcell (r : Int × Int) : List Value := [.int .i64 r.1, .int .i64 r.2]
theorem rcell_len (r : Int × Int) : (rcell r).length = 2 := rfl
/-- The cache at gc, its replies at gl. -/
structure Cache (w : World) (gc gl : Nat) (st : List (Int × Int)) : Prop where
  ex : ∃ cap, Blk w gc 156 #[.slice (some ⟨gl, 0, none⟩) st.length cap] ∧ Row w gl 158 2 st.length cap (st.flatMap rcell)
theorem Cache.clt {w : World} {gc gl : Nat} {st : List (Int × Int)} (h : Cache w gc gl st) : gc < w.heap.size := by obtain ⟨cap, h1, h2⟩ := h.ex; exact h1.lt
theorem Cache.llt {w : World} {gc gl : Nat} {st : List (Int × Int)} (h : Cache w gc gl st) : gl < w.heap.size := by obtain ⟨cap, h1, h2⟩ := h.ex; exact h2.lt
theorem Cache.only {w w' : World} {gc gl : Nat} {st : List (Int × Int)} {S : List Nat} (h : Cache w gc gl st) (ho : Only S w w') (h1 : gc ∉ S) (h2 : gl ∉ S) : Cache w' gc gl st := by
  obtain ⟨cap, k1, k2⟩ := h.ex
  exact ⟨cap, k1.only ho h1, k2.only ho h2⟩
theorem Cache.below {w w' : World} {gc gl : Nat} {st : List (Int × Int)} (h : Cache w gc gl st) (hb : Below w.heap.size w w') : Cache w' gc gl st := h.only (Only.of_below (S := []) hb) List.not_mem_nil List.not_mem_nil
theorem Cache.drew {w : World} {gc gl : Nat} {st : List (Int × Int)} (h : Cache w gc gl st) : Cache w.drew gc gl st := ⟨h.ex⟩
theorem Cache.drewN {w : World} {gc gl : Nat} {st : List (Int × Int)} (h : Cache w gc gl st) (n : Nat) : Cache (w.drewN n) gc gl st := ⟨h.ex⟩
theorem Cache.ne {w : World} {gc gl : Nat} {st : List (Int × Int)} (h : Cache w gc gl st) : gc ≠ gl := by obtain ⟨cap, h1, h2⟩ := h.ex; exact (h2.ne h1 (by decide)).symm
theorem Cache.at0 {w : World} {gc gl : Nat} {st : List (Int × Int)} (h : Cache w gc gl st) (k : Nat) (hk : k < st.length) : w.cell? ⟨gl, k * 2, none⟩ = some (.int .i64 st[k].1) := by
  obtain ⟨cap, h1, h2⟩ := h.ex
  exact h2.cell (flat_get' rcell 2 rcell_len st k 0 (by omega) hk _ rfl)
theorem Cache.at1 {w : World} {gc gl : Nat} {st : List (Int × Int)} (h : Cache w gc gl st) (k : Nat) (hk : k < st.length) : w.cell? ⟨gl, k * 2 + 1, none⟩ = some (.int .i64 st[k].2) := by
  obtain ⟨cap, h1, h2⟩ := h.ex
  exact h2.cell (flat_get' rcell 2 rcell_len st k 1 (by omega) hk _ rfl)
theorem Cache.fr {w : World} {gc gl : Nat} {st : List (Int × Int)} (h : Cache w gc gl st) (k : Nat) : w.frozen? ⟨gl, k, none⟩ = false := by
  obtain ⟨cap, h1, h2⟩ := h.ex
  exact h2.frozen k
theorem Cache.head {w : World} {gc gl : Nat} {st : List (Int × Int)} (h : Cache w gc gl st) : ∃ cap, st.length ≤ cap ∧ cap ≤ maxLen ∧ w.cell? ⟨gc, 0, none⟩ = some (.slice (some ⟨gl, 0, none⟩) st.length cap) := by
  obtain ⟨cap, h1, h2⟩ := h.ex
  exact ⟨cap, h2.cap_le, h2.cap_max, h1.cell 0⟩

theorem has_c (gc gl : Nat) (st : List (Int × Int)) (k : Int) (w : World) (h : Cache w gc gl st) (hn : st.length ≤ 4) (hk : I64 k) (b : Bool) (hb : decide (0 ≤ k ∧ k < st.length) = b) :
    Calls Try.prog 96 #[.pointer (some ⟨gc, 0, none⟩), .int .i64 k] w fun e w' => e = .returned (.bool b) ∧ w = w' := by
  obtain ⟨cap, _, _, h1⟩ := h.head
  clear h
  unfold I64 at hk
  by_cases hk0 : 0 ≤ k
  · by_cases hk1 : k < st.length
    · obtain rfl : b = true := by rw [← hb]; exact decide_eq_true ⟨hk0, hk1⟩
      clear hb
      go_enter Try.func96, Try.ntmps96
      go_wp2
      go_ret
      exact ⟨rfl, rfl⟩
    · obtain rfl : b = false := by rw [← hb]; exact decide_eq_false fun h => hk1 h.2
      clear hb
      go_enter Try.func96, Try.ntmps96
      go_wp2
      go_ret
      exact ⟨rfl, rfl⟩
  · obtain rfl : b = false := by rw [← hb]; exact decide_eq_false fun h => hk0 h.1
    clear hb
    go_enter Try.func96, Try.ntmps96
    go_wp2
    go_ret
    exact ⟨rfl, rfl⟩

/-- Is there such a client? -/
def hasB (st : List (Int × Int)) (k : Int) : Bool := decide (0 ≤ k ∧ k < st.length)
/-- The state behind a put, and whether it was put. -/
def putB (st : List (Int × Int)) (k t : Int) : Bool := hasB st k && decide ((st.getD k.toNat (0, 0)).1 < t)
def putSt (st : List (Int × Int)) (k t r : Int) : List (Int × Int) := if putB st k t then st.set k.toNat (t, r) else st
def lastOf (st : List (Int × Int)) (k : Int) : Int := if hasB st k then (st.getD k.toNat (0, 0)).1 else 0
def getB (st : List (Int × Int)) (k t : Int) : Bool := hasB st k && decide (1 ≤ t) && decide ((st.getD k.toNat (0, 0)).1 = t)
def getR (st : List (Int × Int)) (k t : Int) : Int := if getB st k t then (st.getD k.toNat (0, 0)).2 else 0

theorem Cache.set {w : World} {gc gl : Nat} {st : List (Int × Int)} (h : Cache w gc gl st) {n : Nat} (hn : n < st.length) (t r : Int) :
    Cache ((w.setCell ⟨gl, n * 2, none⟩ (.int .i64 t)).setCell ⟨gl, n * 2 + 1, none⟩ (.int .i64 r)) gc gl (st.set n (t, r)) := by
  obtain ⟨cap, h1, h2⟩ := h.ex
  refine ⟨cap, ?_, ?_⟩
  · rw [List.length_set]
    exact (h1.far (p := ⟨gl, n * 2, none⟩) h.ne _).far (p := ⟨gl, n * 2 + 1, none⟩) h.ne _
  · have e := (h2.set_ (n * 2) (.int .i64 t)).set_ (n * 2 + 1) (.int .i64 r)
    rw [flat_set2 rcell rcell_len (t, r) (.int .i64 t) (.int .i64 r) rfl st n hn] at e
    rw [List.length_set]
    exact e

set_option maxHeartbeats 400000 in
theorem put_c (gc gl : Nat) (st : List (Int × Int)) (k t r : Int) (w : World) (h : Cache w gc gl st) (hn : st.length ≤ 4) (hk : I64 k) (b : Bool) (hb : putB st k t = b) (st' : List (Int × Int)) (hs : putSt st k t r = st') :
    Calls Try.prog 55 #[.pointer (some ⟨gc, 0, none⟩), .int .i64 k, .int .i64 t, .int .i64 r] w fun e w' => e = .returned (.bool b) ∧ Cache w' gc gl st' ∧ Only [gl] w w' := by
  have H := Lib.hid h
  obtain ⟨cap, _, _, h1⟩ := h.head
  by_cases hh : 0 ≤ k ∧ k < st.length
  · obtain ⟨n, rfl⟩ := Int.eq_ofNat_of_zero_le hh.1
    have hlt : n < st.length := by omega
    have hg : st.getD n (0, 0) = st[n] := by simp [List.getD, hlt]
    have c0 := h.at0 n hlt
    have c1 := h.at1 n hlt
    have f0 := h.fr (n * 2)
    have f1 := h.fr (n * 2 + 1)
    have hB : hasB st n = true := decide_eq_true hh
    clear h
    obtain ⟨l0, hl0⟩ : ∃ l0, l0 = st[n].1 := ⟨_, rfl⟩
    rw [← hl0] at c0
    have i0 : (0 : Int) ≤ n := hh.1
    have i1 : (n : Int) < st.length := hh.2
    have HB := Lib.hid hB
    by_cases htl : t ≤ l0
    · obtain rfl : b = false := by
        rw [← hb]; simp only [putB, hB, Bool.true_and, Int.toNat_natCast, hg, ← hl0]; exact decide_eq_false (by omega)
      obtain rfl : st' = st := by rw [← hs]; unfold putSt; rw [hb]; rfl
      clear hb hs hg hl0 hB hh
      go_enter Try.func55, Try.ntmps55
      go_wp2_with (go_at_call 96; refine (has_c gc gl st' _ _ H.out hn hk true HB.out).mono ?_; rintro e w' ⟨rfl, rfl⟩)
      go_ret
      exact ⟨rfl, H.out, Only.refl _ _⟩
    · obtain rfl : b = true := by
        rw [← hb]; simp only [putB, hB, Bool.true_and, Int.toNat_natCast, hg, ← hl0]; exact decide_eq_true (by omega)
      obtain rfl : st' = st.set n (t, r) := by rw [← hs]; unfold putSt; rw [hb]; rfl
      clear hb hs hg hl0 hB hh
      go_enter Try.func55, Try.ntmps55
      go_wp2_with (go_at_call 96; refine (has_c gc gl st _ _ H.out hn hk true HB.out).mono ?_; rintro e w' ⟨rfl, rfl⟩)
      go_ret
      exact ⟨rfl, H.out.set hlt t r, ((Only.refl _ _).setCell (.inl (by simp)) _).setCell (.inl (by simp)) _⟩
  · have hB : hasB st k = false := decide_eq_false hh
    obtain rfl : b = false := by rw [← hb]; simp only [putB, hB, Bool.false_and]
    obtain rfl : st' = st := by rw [← hs]; unfold putSt; rw [hb]; rfl
    have HB := Lib.hid hB
    clear hb hs hh hB h
    go_enter Try.func55, Try.ntmps55
    go_wp2_with (go_at_call 96; refine (has_c gc gl st' _ _ H.out hn hk false HB.out).mono ?_; rintro e w' ⟨rfl, rfl⟩)
    go_ret
    exact ⟨rfl, H.out, Only.refl _ _⟩

set_option maxHeartbeats 400000 in
theorem last_c (gc gl : Nat) (st : List (Int × Int)) (k : Int) (w : World) (h : Cache w gc gl st) (hn : st.length ≤ 4) (hk : I64 k) (t : Int) (ht : lastOf st k = t) :
    Calls Try.prog 54 #[.pointer (some ⟨gc, 0, none⟩), .int .i64 k] w fun e w' => e = .returned (.int .i64 t) ∧ w = w' := by
  have H := Lib.hid h
  obtain ⟨cap, _, _, h1⟩ := h.head
  by_cases hh : 0 ≤ k ∧ k < st.length
  · obtain ⟨n, rfl⟩ := Int.eq_ofNat_of_zero_le hh.1
    have hlt : n < st.length := by omega
    have hB : hasB st n = true := decide_eq_true hh
    have c0 := h.at0 n hlt
    obtain rfl : t = st[n].1 := by rw [← ht]; simp [lastOf, hB, List.getD, hlt]
    obtain ⟨l0, hl0⟩ : ∃ l0, l0 = st[n].1 := ⟨_, rfl⟩
    rw [← hl0] at c0 ⊢
    have i0 : (0 : Int) ≤ n := hh.1
    have i1 : (n : Int) < st.length := hh.2
    have HB := Lib.hid hB
    clear ht hl0 hB hh h
    go_enter Try.func54, Try.ntmps54
    go_wp2_with (go_at_call 96; refine (has_c gc gl st _ _ H.out hn hk true HB.out).mono ?_; rintro e w' ⟨rfl, rfl⟩)
    go_ret
    exact ⟨rfl, rfl⟩
  · have hB : hasB st k = false := decide_eq_false hh
    obtain rfl : t = 0 := by rw [← ht]; simp [lastOf, hB]
    have HB := Lib.hid hB
    clear ht hh hB h
    go_enter Try.func54, Try.ntmps54
    go_wp2_with (go_at_call 96; refine (has_c gc gl st _ _ H.out hn hk false HB.out).mono ?_; rintro e w' ⟨rfl, rfl⟩)
    go_ret
    exact ⟨rfl, rfl⟩

set_option maxHeartbeats 400000 in
theorem get_c (gc gl : Nat) (st : List (Int × Int)) (k t : Int) (w : World) (h : Cache w gc gl st) (hn : st.length ≤ 4) (hk : I64 k) (b : Bool) (hb : getB st k t = b) (r : Int) (hr : getR st k t = r) :
    Calls Try.prog 71 #[.pointer (some ⟨gc, 0, none⟩), .int .i64 k, .int .i64 t] w fun e w' => e = .returned (.tuple #[.int .i64 r, .bool b]) ∧ w = w' := by
  have H := Lib.hid h
  obtain ⟨cap, _, _, h1⟩ := h.head
  by_cases hh : 0 ≤ k ∧ k < st.length
  · obtain ⟨n, rfl⟩ := Int.eq_ofNat_of_zero_le hh.1
    have hlt : n < st.length := by omega
    have hB : hasB st n = true := decide_eq_true hh
    have c0 := h.at0 n hlt
    have c1 := h.at1 n hlt
    have hg : st.getD n (0, 0) = st[n] := by simp [List.getD, hlt]
    obtain ⟨l0, hl0⟩ : ∃ l0, l0 = st[n].1 := ⟨_, rfl⟩
    obtain ⟨l1, hl1⟩ : ∃ l1, l1 = st[n].2 := ⟨_, rfl⟩
    rw [← hl0] at c0
    rw [← hl1] at c1
    have i0 : (0 : Int) ≤ n := hh.1
    have i1 : (n : Int) < st.length := hh.2
    have HB := Lib.hid hB
    by_cases ht : t < 1
    · obtain rfl : b = false := by rw [← hb]; simp only [getB, hB, decide_eq_false (show ¬ 1 ≤ t by omega), Bool.false_and, Bool.and_false]
      obtain rfl : r = 0 := by rw [← hr]; unfold getR; rw [hb]; rfl
      clear hb hr hg hl0 hl1 hB hh h
      go_enter Try.func71, Try.ntmps71
      go_wp2_with (go_at_call 96; refine (has_c gc gl st _ _ H.out hn hk true HB.out).mono ?_; rintro e w' ⟨rfl, rfl⟩)
      go_ret2
      exact ⟨rfl, rfl⟩
    · by_cases he : l0 = t
      · obtain rfl : b = true := by
          rw [← hb]; simp only [getB, hB, decide_eq_true (show 1 ≤ t by omega), Bool.true_and, Int.toNat_natCast, hg, ← hl0]; exact decide_eq_true he
        obtain rfl : r = l1 := by rw [← hr]; unfold getR; rw [hb, Int.toNat_natCast, hg, hl1]; rfl
        clear hb hr hg hl0 hl1 hB hh h
        subst he
        go_enter Try.func71, Try.ntmps71
        go_wp2_with (go_at_call 96; refine (has_c gc gl st _ _ H.out hn hk true HB.out).mono ?_; rintro e w' ⟨rfl, rfl⟩)
        go_ret2
        exact ⟨rfl, rfl⟩
      · obtain rfl : b = false := by
          rw [← hb]; simp only [getB, hB, decide_eq_true (show 1 ≤ t by omega), Bool.true_and, Int.toNat_natCast, hg, ← hl0]; exact decide_eq_false he
        obtain rfl : r = 0 := by rw [← hr]; unfold getR; rw [hb]; rfl
        have hne : (l0 != t) = true := bne_iff_ne.2 he
        clear hb hr hg hl0 hl1 hB hh h
        go_enter Try.func71, Try.ntmps71
        go_wp2_with (go_at_call 96; refine (has_c gc gl st _ _ H.out hn hk true HB.out).mono ?_; rintro e w' ⟨rfl, rfl⟩)
        go_ret2
        exact ⟨rfl, rfl⟩
  · have hB : hasB st k = false := decide_eq_false hh
    obtain rfl : b = false := by rw [← hb]; simp only [getB, hB, Bool.false_and]
    obtain rfl : r = 0 := by rw [← hr]; unfold getR; rw [hb]; rfl
    have HB := Lib.hid hB
    clear hb hr hh hB h
    go_enter Try.func71, Try.ntmps71
    go_wp2_with (go_at_call 96; refine (has_c gc gl st _ _ H.out hn hk false HB.out).mono ?_; rintro e w' ⟨rfl, rfl⟩)
    go_ret2
    exact ⟨rfl, rfl⟩

theorem info_reply : (Try.prog.info? 158).map (fun i => (i.zero, i.size, i.bytes)) = some (some (.agg #[.int .i64 0, .int .i64 0]), 2, 16) := by kernel_rfl
theorem madeCells_reply (n : Nat) : madeCells #[.int .i64 0, .int .i64 0] (n * 2) = ((List.replicate n ((0, 0) : Int × Int)).flatMap rcell).toArray := by
  apply Array.ext_getElem?
  intro i
  simp only [List.getElem?_toArray]
  have hd : i = i / 2 * 2 + i % 2 := by omega
  rw [show ((List.replicate n ((0, 0) : Int × Int)).flatMap rcell)[i]? = ((List.replicate n ((0, 0) : Int × Int)).flatMap rcell)[i / 2 * 2 + i % 2]? by rw [← hd], flat_get rcell 2 rcell_len _ _ _ (Nat.mod_lt _ (by omega))]
  by_cases hi : i < n * 2
  · have h2 : i / 2 < n := by omega
    rcases Nat.mod_two_eq_zero_or_one i with hm | hm
    · simp [madeCells, hi, h2, hm, rcell]
    · simp [madeCells, hi, h2, hm, rcell]
  · have h2 : ¬ i / 2 < n := by omega
    simp [madeCells, hi, h2]

theorem new_ok (n : Nat) (h1 : 1 ≤ n) (h4 : n ≤ 4) (w : World) :
    Calls Try.prog 52 #[.int .i64 n] w fun e w' => ∃ gc gl, e = .returned (.tuple #[.pointer (some ⟨gc, 0, none⟩), .int .i64 0]) ∧ Cache w' gc gl (List.replicate n (0, 0)) ∧ w.heap.size ≤ gc ∧ w.heap.size ≤ gl ∧ Below w.heap.size w w' := by
  obtain ⟨i0, hi0, hz0, hz1, hz2⟩ := info_parts info_reply
  have hmk := fun W => run_make (P := Try.prog) W 154 158 i0 _ Try.underlying154 hi0 hz0 .i64 .i64 n n (by omega) (by omega) (by rw [hz2]; omega) (by omega)
  rw [hz1] at hmk
  simp only [Int.toNat_natCast, Value.cells, madeCells_reply] at hmk
  clear hi0 hz0 hz1 hz2
  go_enter Try.func52, Try.ntmps52
  go_wp2
  go_ret2
  refine ⟨w.heap.size + 1, w.heap.size, rfl, ⟨n, ?_, ?_⟩, ?_, ?_, ((Below.refl _ _).alloc (Nat.le_refl _) _).alloc (by simp) _⟩
  · simp only [List.length_replicate]
    exact Blk.new' _ _ _ (by simp)
  · simp only [List.length_replicate]
    have e := Row.of_blk (n := n) (s := 2) ((Blk.new w 158 ((List.replicate n ((0, 0) : Int × Int)).flatMap rcell).toArray).alloc (.cells #[.slice (some ⟨w.heap.size, 0, none⟩) n n] 156)) (by simp [flat_len rcell 2 rcell_len]) (by unfold maxLen; omega)
    exact e
  · simp
  · simp
theorem new_z (z : Int) (n : Nat) (hz : z = n) (h1 : 1 ≤ n) (h4 : n ≤ 4) (w : World) :
    Calls Try.prog 52 #[.int .i64 z] w fun e w' => ∃ gc gl, e = .returned (.tuple #[.pointer (some ⟨gc, 0, none⟩), .int .i64 0]) ∧ Cache w' gc gl (List.replicate n (0, 0)) ∧ w.heap.size ≤ gc ∧ w.heap.size ≤ gl ∧ Below w.heap.size w w' := by
  subst hz
  exact new_ok n h1 h4 w
theorem new_no (n : Int) (hn : n < 1 ∨ 4 < n) (w : World) :
    Calls Try.prog 52 #[.int .i64 n] w fun e w' => e = .returned (.tuple #[.pointer none, .int .i64 1]) ∧ w = w' := by
  by_cases h : n < 1
  · clear hn
    go_enter Try.func52, Try.ntmps52
    go_wp2
    go_ret2
    exact ⟨rfl, rfl⟩
  · have h' : 4 < n := by omega
    clear hn
    go_enter Try.func52, Try.ntmps52
    go_wp2
    go_ret2
    exact ⟨rfl, rfl⟩

theorem putSt_len (st : List (Int × Int)) (k t r : Int) : (putSt st k t r).length = st.length := by
  unfold putSt
  split <;> simp
theorem same_has {st st' : List (Int × Int)} (h : st.length = st'.length) (k : Int) : hasB st k = hasB st' k := by unfold hasB; rw [h]
theorem same_put {st st' : List (Int × Int)} (h : st.length = st'.length) {k : Int} (hg : st.getD k.toNat (0, 0) = st'.getD k.toNat (0, 0)) (t : Int) : putB st k t = putB st' k t := by unfold putB; rw [same_has h, hg]
theorem same_last {st st' : List (Int × Int)} (h : st.length = st'.length) {k : Int} (hg : st.getD k.toNat (0, 0) = st'.getD k.toNat (0, 0)) : lastOf st k = lastOf st' k := by unfold lastOf; rw [same_has h, hg]
theorem same_getB {st st' : List (Int × Int)} (h : st.length = st'.length) {k : Int} (hg : st.getD k.toNat (0, 0) = st'.getD k.toNat (0, 0)) (t : Int) : getB st k t = getB st' k t := by unfold getB; rw [same_has h, hg]
theorem same_getR {st st' : List (Int × Int)} (h : st.length = st'.length) {k : Int} (hg : st.getD k.toNat (0, 0) = st'.getD k.toNat (0, 0)) (t : Int) : getR st k t = getR st' k t := by unfold getR; rw [same_getB h hg, hg]
theorem put_at {st : List (Int × Int)} {k t r : Int} (h : putB st k t = true) : (putSt st k t r).getD k.toNat (0, 0) = (t, r) := by
  have hb : hasB st k = true := by
    unfold putB at h
    revert h
    cases hasB st k <;> simp
  have := of_decide_eq_true hb
  unfold putSt
  rw [if_pos h]
  have : k.toNat < st.length := by omega
  simp [List.getD, this]
theorem put_other {st : List (Int × Int)} {k t r q : Int} (hk : 0 ≤ k ∨ putB st k t = false) (hq : 0 ≤ q) (h : k ≠ q) : (putSt st k t r).getD q.toNat (0, 0) = st.getD q.toNat (0, 0) := by
  unfold putSt
  by_cases hp : putB st k t = true
  · rw [if_pos hp]
    rcases hk with hk | hk
    · have : k.toNat ≠ q.toNat := by omega
      simp [List.getD, List.getElem?_set_ne this]
    · rw [hp] at hk
      cases hk
  · rw [if_neg hp]
theorem put_neg {st : List (Int × Int)} {k t : Int} : 0 ≤ k ∨ putB st k t = false := by
  by_cases h : 0 ≤ k
  · exact .inl h
  · refine .inr ?_
    unfold putB hasB
    rw [decide_eq_false fun h' => h h'.1, Bool.false_and]

end Go.Proofs.Ytfhlcjfgbhmecaa
