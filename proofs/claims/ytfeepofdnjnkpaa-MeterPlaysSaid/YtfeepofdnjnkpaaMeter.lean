/- Package meter: what its functions do. -/
import Derived.Test.YtfeepofdnjnkpaaTotal
import Derived.Test.YtfeepofdnjnkpaaRow
import Derived.Test.YtfeepofdnjnkpaaOpen
import Derived.StillTailTactics
import Derived.Deep.AppendLies
import Derived.OwnWalk
import Derived.Laws.MakeOwn
import Derived.Laws.Entries
namespace Go.Proofs.Ytfeepofdnjnkpaa
open Go.RowKit F
set_option linter.unusedVariables false

theorem run_store_complex (P : Program) (w : World) (a : Addr) (m : Mode) (k : FloatKind) (x y : Nat) : (store a (.complex k x y) m).run P w = stored P w a (.complex k x y) m := run_store P w a _ m rfl
attribute [local go_sem] run_store_complex

def mcell (z : Int × Int) : Value := cplx z.1 z.2
/-- All parts have room. -/
def Roomy (st : List (Int × Int)) : Prop := ∀ z ∈ st, 0 ≤ z.1 ∧ z.1 ≤ 1099511627776 ∧ 0 ≤ z.2 ∧ z.2 ≤ 1099511627776
/-- The meter at gm, its measures at gl. -/
structure Meter (w : World) (gm gl : Nat) (st : List (Int × Int)) : Prop where
  ex : ∃ cap, Blk w gm 76 #[.slice (some ⟨gl, 0, none⟩) st.length cap] ∧ Row w gl 27 1 st.length cap (st.map mcell)
section
variable {w w' : World} {gm gl : Nat} {st : List (Int × Int)} {S : List Nat}
theorem Meter.mlt (h : Meter w gm gl st) : gm < w.heap.size := by obtain ⟨cap, h1, h2⟩ := h.ex; exact h1.lt
theorem Meter.llt (h : Meter w gm gl st) : gl < w.heap.size := by obtain ⟨cap, h1, h2⟩ := h.ex; exact h2.lt
theorem Meter.only (h : Meter w gm gl st) (ho : Only S w w') (h1 : gm ∉ S) (h2 : gl ∉ S) : Meter w' gm gl st := by
  obtain ⟨cap, k1, k2⟩ := h.ex
  exact ⟨cap, k1.only ho h1, k2.only ho h2⟩
theorem Meter.below (h : Meter w gm gl st) (hb : Below w.heap.size w w') : Meter w' gm gl st := h.only (Only.of_below (S := []) hb) List.not_mem_nil List.not_mem_nil
theorem Meter.drew (h : Meter w gm gl st) : Meter w.drew gm gl st := ⟨h.ex⟩
theorem Meter.drewN (h : Meter w gm gl st) (n : Nat) : Meter (w.drewN n) gm gl st := ⟨h.ex⟩
theorem Meter.ne (h : Meter w gm gl st) : gm ≠ gl := by obtain ⟨cap, h1, h2⟩ := h.ex; exact (h2.ne h1 (by decide)).symm
theorem Meter.at_ (h : Meter w gm gl st) (k : Nat) (hk : k < st.length) : w.cell? ⟨gl, k, none⟩ = some (cplx st[k].1 st[k].2) := by
  obtain ⟨cap, h1, h2⟩ := h.ex
  exact h2.cell (by rw [List.getElem?_map, List.getElem?_eq_getElem hk]; rfl)
theorem Meter.fr (h : Meter w gm gl st) (k : Nat) : w.frozen? ⟨gl, k, none⟩ = false := by
  obtain ⟨cap, h1, h2⟩ := h.ex
  exact h2.frozen k
theorem Meter.head (h : Meter w gm gl st) : ∃ cap, st.length ≤ cap ∧ cap ≤ maxLen ∧ w.cell? ⟨gm, 0, none⟩ = some (.slice (some ⟨gl, 0, none⟩) st.length cap) := by
  obtain ⟨cap, h1, h2⟩ := h.ex
  exact ⟨cap, h2.cap_le, h2.cap_max, h1.cell 0⟩
theorem Meter.set (h : Meter w gm gl st) {n : Nat} (hn : n < st.length) (a b : Int) : Meter (w.setCell ⟨gl, n, none⟩ (cplx a b)) gm gl (st.set n (a, b)) := by
  obtain ⟨cap, h1, h2⟩ := h.ex
  refine ⟨cap, ?_, ?_⟩
  · rw [List.length_set]
    exact h1.far (p := ⟨gl, n, none⟩) h.ne _
  · rw [List.length_set, List.map_set]
    exact h2.set_ n (cplx a b)
end

theorem mhas_c (gm gl : Nat) (st : List (Int × Int)) (k : Int) (w : World) (h : Meter w gm gl st) (hn : st.length ≤ 5) (hk : I64 k) (b : Bool) (hb : decide (0 ≤ k ∧ k < st.length) = b) :
    Calls Try.prog 40 #[.pointer (some ⟨gm, 0, none⟩), .int .i64 k] w fun e w' => e = .returned (.bool b) ∧ w = w' := by
  obtain ⟨cap, _, _, h1⟩ := h.head
  clear h
  unfold I64 at hk
  by_cases hk0 : 0 ≤ k
  · by_cases hk1 : k < st.length
    · obtain rfl : b = true := by rw [← hb]; exact decide_eq_true ⟨hk0, hk1⟩
      clear hb
      go_enter Try.func40, Try.ntmps40
      go_wp2
      go_ret
      exact ⟨rfl, rfl⟩
    · obtain rfl : b = false := by rw [← hb]; exact decide_eq_false fun h => hk1 h.2
      clear hb
      go_enter Try.func40, Try.ntmps40
      go_wp2
      go_ret
      exact ⟨rfl, rfl⟩
  · obtain rfl : b = false := by rw [← hb]; exact decide_eq_false fun h => hk0 h.1
    clear hb
    go_enter Try.func40, Try.ntmps40
    go_wp2
    go_ret
    exact ⟨rfl, rfl⟩

def mhasB (st : List (Int × Int)) (k : Int) : Bool := decide (0 ≤ k ∧ k < st.length)
def addB (st : List (Int × Int)) (k t : Int) : Bool := mhasB st k && decide (0 ≤ t ∧ t ≤ 1048576)
def addSt (st : List (Int × Int)) (k t : Int) : List (Int × Int) := if addB st k t then st.set k.toNat ((st.getD k.toNat (0, 0)).1 + 1, (st.getD k.toNat (0, 0)).2 + t) else st
def atOf (st : List (Int × Int)) (k : Int) : Int × Int := if mhasB st k then st.getD k.toNat (0, 0) else (0, 0)
theorem addSt_len (st : List (Int × Int)) (k t : Int) : (addSt st k t).length = st.length := by
  unfold addSt
  split <;> simp

set_option maxHeartbeats 800000 in
theorem add_c (gm gl : Nat) (st : List (Int × Int)) (k t : Int) (w : World) (h : Meter w gm gl st) (hn : st.length ≤ 5) (hr : Roomy st) (hk : I64 k) (ht : I64 t) (b : Bool) (hb : addB st k t = b) (st' : List (Int × Int)) (hs : addSt st k t = st') :
    Calls Try.prog 21 #[.pointer (some ⟨gm, 0, none⟩), .int .i64 k, .int .i64 t] w fun e w' => e = .returned (.bool b) ∧ Meter w' gm gl st' ∧ Only [gl] w w' := by
  have H := Lib.hid h
  obtain ⟨cap, _, _, h1⟩ := h.head
  by_cases hh : 0 ≤ k ∧ k < st.length
  · obtain ⟨n, rfl⟩ := Int.eq_ofNat_of_zero_le hh.1
    have hlt : n < st.length := by omega
    have hB : mhasB st n = true := decide_eq_true hh
    have HB := Lib.hid (show decide (0 ≤ (n : Int) ∧ (n : Int) < st.length) = true from hB)
    have i0 : (0 : Int) ≤ n := hh.1
    have i1 : (n : Int) < st.length := hh.2
    rcases (show t < 0 ∨ (¬ t < 0 ∧ 1048576 < t) ∨ (0 ≤ t ∧ t ≤ 1048576) by omega) with t1 | ⟨t1, t2⟩ | ⟨t1, t2⟩
    · obtain rfl : b = false := by rw [← hb]; unfold addB; rw [hB, decide_eq_false (by omega)]; rfl
      obtain rfl : st' = st := by rw [← hs]; unfold addSt; rw [hb]; rfl
      clear hb hs hB hh h
      go_enter Try.func21, Try.ntmps21
      go_wp2_with (go_at_call 40; refine (mhas_c gm gl st' _ _ H.out hn hk true HB.out).mono ?_; rintro e w' ⟨rfl, rfl⟩)
      go_ret
      exact ⟨rfl, H.out, Only.refl _ _⟩
    · obtain rfl : b = false := by rw [← hb]; unfold addB; rw [hB, decide_eq_false (by omega)]; rfl
      obtain rfl : st' = st := by rw [← hs]; unfold addSt; rw [hb]; rfl
      clear hb hs hB hh h
      go_enter Try.func21, Try.ntmps21
      go_wp2_with (go_at_call 40; refine (mhas_c gm gl st' _ _ H.out hn hk true HB.out).mono ?_; rintro e w' ⟨rfl, rfl⟩)
      go_ret
      exact ⟨rfl, H.out, Only.refl _ _⟩
    · obtain rfl : b = true := by rw [← hb]; unfold addB; rw [hB, decide_eq_true ⟨t1, t2⟩]; rfl
      have hg : st.getD n (0, 0) = st[n] := by simp [List.getD, hlt]
      have hst : st' = st.set n (st[n].1 + 1, st[n].2 + t) := by rw [← hs]; unfold addSt; rw [hb, Int.toNat_natCast, hg]; rfl
      have hz := hr _ (List.getElem_mem hlt)
      have c0 := h.at_ n hlt
      have f0 := h.fr n
      obtain ⟨z, hze⟩ : ∃ z, z = st[n] := ⟨_, rfl⟩
      rw [← hze] at hst hz c0
      obtain ⟨N, T⟩ := z
      have c1 : w.cell? ⟨gl, n, none⟩ = some (.complex .f64 (fw N) (fw T)) := c0
      have hsum := fun w => run_cplx_add (P := Try.prog) w 27 N T 1 t (Small.of (by omega) (by omega)) (Small.of (by omega) (by omega)) (Small.of (by omega) (by omega)) (Small.of (by omega) (by omega)) (Small.of (by omega) (by omega)) (Small.of (by omega) (by omega))
      rw [fw_1] at hsum
      have hsum' : ∀ w, (binOp .add 27 (.complex .f64 (fw N) (fw T)) (.complex .f64 4607182418800017408 (floatOfInt .f64 t))).run Try.prog w = .ok (.complex .f64 (fw (N + 1)) (fw (T + t))) w := hsum
      have HST := Lib.hid hst
      clear hb hs hB hh h hg hst hz c0 hze hsum hr
      go_enter Try.func21, Try.ntmps21
      go_wp2_with (go_at_call 40; refine (mhas_c gm gl st _ _ H.out hn hk true HB.out).mono ?_; rintro e w' ⟨rfl, rfl⟩)
      go_still_tail 17, (by kernel_rfl)
      change wpList _ _ _ _ _ w.drew
      go_wp2_with fail
      go_ret
      exact ⟨rfl, by rw [HST.out]; exact (H.out.set hlt (N + 1) (T + t)).drew, ((Only.refl _ _).setCell (.inl (by simp)) _).drew⟩
  · have hB : mhasB st k = false := decide_eq_false hh
    obtain rfl : b = false := by rw [← hb]; unfold addB; rw [hB]; rfl
    obtain rfl : st' = st := by rw [← hs]; unfold addSt; rw [hb]; rfl
    have HB := Lib.hid (show decide (0 ≤ k ∧ k < st'.length) = false from hB)
    clear hb hs hh hB h
    go_enter Try.func21, Try.ntmps21
    go_wp2_with (go_at_call 40; refine (mhas_c gm gl st' _ _ H.out hn hk false HB.out).mono ?_; rintro e w' ⟨rfl, rfl⟩)
    go_ret
    exact ⟨rfl, H.out, Only.refl _ _⟩

theorem at_c (gm gl : Nat) (st : List (Int × Int)) (k : Int) (w : World) (h : Meter w gm gl st) (hn : st.length ≤ 5) (hk : I64 k) (z : Int × Int) (hz : atOf st k = z) :
    Calls Try.prog 22 #[.pointer (some ⟨gm, 0, none⟩), .int .i64 k] w fun e w' => e = .returned (.complex .f64 (fw z.1) (fw z.2)) ∧ w = w' := by
  have H := Lib.hid h
  obtain ⟨cap, _, _, h1⟩ := h.head
  by_cases hh : 0 ≤ k ∧ k < st.length
  · obtain ⟨n, rfl⟩ := Int.eq_ofNat_of_zero_le hh.1
    have hlt : n < st.length := by omega
    have hB : mhasB st n = true := decide_eq_true hh
    have HB := Lib.hid (show decide (0 ≤ (n : Int) ∧ (n : Int) < st.length) = true from hB)
    have i0 : (0 : Int) ≤ n := hh.1
    have i1 : (n : Int) < st.length := hh.2
    obtain rfl : z = st[n] := by rw [← hz]; unfold atOf; rw [hB, Int.toNat_natCast]; simp [List.getD, hlt]
    have c0 : w.cell? ⟨gl, n, none⟩ = some (.complex .f64 (fw st[n].1) (fw st[n].2)) := h.at_ n hlt
    obtain ⟨x, hx⟩ : ∃ x, x = fw st[n].1 := ⟨_, rfl⟩
    obtain ⟨y, hy⟩ : ∃ y, y = fw st[n].2 := ⟨_, rfl⟩
    rw [← hx, ← hy] at c0 ⊢
    clear hz hB hh h hx hy
    go_enter Try.func22, Try.ntmps22
    go_wp2_with (go_at_call 40; refine (mhas_c gm gl st _ _ H.out hn hk true HB.out).mono ?_; rintro e w' ⟨rfl, rfl⟩)
    go_ret
    exact ⟨rfl, rfl⟩
  · have hB : mhasB st k = false := decide_eq_false hh
    obtain rfl : z = (0, 0) := by rw [← hz]; unfold atOf; rw [hB]; rfl
    have HB := Lib.hid (show decide (0 ≤ k ∧ k < st.length) = false from hB)
    show Calls _ _ _ _ fun e w' => e = .returned (.complex .f64 (fw 0) (fw 0)) ∧ w = w'
    rw [fw_zero]
    clear hz hh hB h
    go_enter Try.func22, Try.ntmps22
    go_wp2_with (go_at_call 40; refine (mhas_c gm gl st _ _ H.out hn hk false HB.out).mono ?_; rintro e w' ⟨rfl, rfl⟩)
    go_ret
    exact ⟨rfl, rfl⟩

theorem info_cplx : (Try.prog.info? 27).map (fun i => (i.zero, i.size, i.bytes)) = some (some (.complex .f64 0 0), 1, 16) := by kernel_rfl
theorem madeCells_cplx (n : Nat) : madeCells #[.complex .f64 0 0] (n * 1) = ((List.replicate n ((0, 0) : Int × Int)).map mcell).toArray := by
  have e : mcell (0, 0) = .complex .f64 0 0 := by
    show Value.complex .f64 (fw 0) (fw 0) = _
    rw [fw_zero]
  rw [List.map_replicate, e]
  apply Array.toList_inj.1
  rw [Nat.mul_one, toList_madeCells_one]
theorem mnew_ok (z : Int) (n : Nat) (hz : z = n) (h1 : 1 ≤ n) (h5 : n ≤ 5) (w : World) :
    Calls Try.prog 17 #[.int .i64 z] w fun e w' => ∃ gm gl, e = .returned (.tuple #[.pointer (some ⟨gm, 0, none⟩), .int .i64 0]) ∧ Meter w' gm gl (List.replicate n (0, 0)) ∧ w.heap.size ≤ gm ∧ w.heap.size ≤ gl ∧ Below w.heap.size w w' := by
  subst hz
  obtain ⟨i0, hi0, hz0, hz1, hz2⟩ := info_parts info_cplx
  have hmk := fun W => run_make (P := Try.prog) W 47 27 i0 _ Try.underlying47 hi0 hz0 .i64 .i64 n n (by omega) (by omega) (by rw [hz2]; omega) (by omega)
  rw [hz1] at hmk
  simp only [Int.toNat_natCast, Value.cells, madeCells_cplx] at hmk
  obtain ⟨C, hC⟩ : ∃ C, C = ((List.replicate n ((0, 0) : Int × Int)).map mcell).toArray := ⟨_, rfl⟩
  rw [← hC] at hmk
  have HC := Lib.hid hC
  clear hi0 hz0 hz1 hz2 hC
  go_enter Try.func17, Try.ntmps17
  go_wp2
  go_ret2
  refine ⟨w.heap.size + 1, w.heap.size, rfl, ⟨n, ?_, ?_⟩, ?_, ?_, ((Below.refl _ _).alloc (Nat.le_refl _) _).alloc (by simp) _⟩
  · simp only [List.length_replicate]
    exact Blk.new' _ _ _ (by simp)
  · simp only [List.length_replicate]
    have e := Row.of_blk (n := n) (s := 1) ((Blk.new w 27 C).alloc (.cells #[.slice (some ⟨w.heap.size, 0, none⟩) n n] 76)) (by rw [HC.out]; simp) (by unfold maxLen; omega)
    rw [HC.out] at e ⊢
    exact e
  · simp
  · simp
theorem mnew_no (n : Int) (hn : n < 1 ∨ 5 < n) (w : World) :
    Calls Try.prog 17 #[.int .i64 n] w fun e w' => e = .returned (.tuple #[.pointer none, .int .i64 1]) ∧ w = w' := by
  rcases (show n < 1 ∨ (¬ n < 1 ∧ 5 < n) by omega) with h | ⟨h, h'⟩
  all_goals
    clear hn
    go_enter Try.func17, Try.ntmps17
    go_wp2
    go_ret2
    exact ⟨rfl, rfl⟩
end Go.Proofs.Ytfeepofdnjnkpaa
