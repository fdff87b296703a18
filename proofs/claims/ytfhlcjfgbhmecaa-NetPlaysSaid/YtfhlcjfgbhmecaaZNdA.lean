/- Whole, NdZ, NdA. -/
import Derived.Test.YtfhlcjfgbhmecaaZOnly
import Derived.Deep.WholeRow
import Derived.Test.YtfhlcjfgbhmecaaZNetV
import Derived.Deep.MidRow
import Derived.Great.BuildSlice
/- A whole block loaded, and stored into a new one, in one step: facts to lay ahead of a walk over 'q := *p' for a struct of many cells (the walk's own way, cell by cell, is dear for the kernel). Over any program. -/
namespace Go.Proofs.Ytfhlcjfgbhmecaa
open Go.RowKit
set_option linter.unusedVariables false

theorem load_whole {P : Program} {w : World} {g : Nat} {t : TypeId} {c : Array Value} (h : Blk w g t c) (n : Nat) (hn : c.size = n) :
    (loadCellsFrom ⟨g, 0, none⟩ 0 n #[]).run P w = .ok c w := by
  subst hn
  have := run_loadCells_list (P := P) w ⟨g, 0, none⟩ c.toList (fun j v hv => by
    have hadd : (⟨g, 0, none⟩ : Addr).add j = ⟨g, j, none⟩ := by unfold Addr.add; split <;> simp_all
    rw [hadd, h.cell]
    simpa using hv)
  simpa [loadCells] using this
theorem store_whole {P : Program} (w : World) (t : TypeId) (z c : Array Value) (hi : (P.info? t).map (·.size) = some c.size) (ho : z.size = c.size) (h1 : c.all (·.oneCell') = true) :
    (storeCells ⟨w.heap.size, 0, none⟩ c.toList 0).run P (w.alloc (.cells z t)) = .ok () (w.alloc (.cells c t)) := run_storeCells_new w t z c hi ho h1
end Go.Proofs.Ytfhlcjfgbhmecaa
/- The reference's node: its cells as it is made; many cells at once. -/
namespace Go.Proofs.Ytfhlcjfgbhmecaa
open Go.RowKit
set_option linter.unusedVariables false
set_option maxRecDepth 100000

noncomputable abbrev nodeZ (room id : Int) (nb : Nat) : Array Value := ((((((((((((((((((Try.zeroCells187.setIfInBounds 0 (.int .i64 1)).setIfInBounds 1 (.int .i64 2)).setIfInBounds 2 (.int .i64 2)).setIfInBounds 3 (.int .i64 4)).setIfInBounds 4 (.int .i64 room)).setIfInBounds 5 (.int .i64 8)).setIfInBounds 6 (.int .i64 8)).setIfInBounds 7 (.int .i64 8)).setIfInBounds 8 (.int .i64 1)).setIfInBounds 9 (.int .i64 2)).setIfInBounds 10 (.int .i64 12)).setIfInBounds 11 (.int .i64 8)).setIfInBounds 12 (.int .i64 6)).setIfInBounds 13 (.int .i64 2)).setIfInBounds 14 (.int .i64 6)).setIfInBounds 15 (.int .i64 id)).setIfInBounds 16 (.pointer (some ⟨nb, 0, none⟩))).setIfInBounds 271 (.int .i64 (-1)))
theorem nodeZ_size (room id : Int) (nb : Nat) : (nodeZ room id nb).size = 545 := by kernel_rfl
theorem nodeZ_one (room id : Int) (nb : Nat) : (nodeZ room id nb).all (·.oneCell') = true := by kernel_rfl
theorem nodeZ_at (room id : Int) (nb : Nat) : ∀ j ∈ [20, 191, 192, 274, 275, 543, 544], (nodeZ room id nb)[j]? = some (.slice none 0 0) := by
  intro j hj
  simp only [List.mem_cons, List.not_mem_nil, or_false] at hj
  rcases hj with rfl | rfl | rfl | rfl | rfl | rfl | rfl <;> kernel_rfl
theorem info_inst : (Try.prog.info? 197).map (fun i => (i.size, i.bytes, i.zero.map (·.cells.size))) = some (294, 3912, some 294) := by kernel_rfl
theorem info_measN : (Try.prog.info? 199).map (fun i => (i.zero, i.size, i.bytes)) = some (some (.agg #[.int .i64 0, .int .i64 0]), 2, 16) := by kernel_rfl
end Go.Proofs.Ytfhlcjfgbhmecaa
/- The reference's node as it lies: its block, its two rows. -/
namespace Go.Proofs.Ytfhlcjfgbhmecaa
open Go.RowKit
set_option linter.unusedVariables false
set_option maxRecDepth 20000

theorem one_set {cs : Array Value} (h : cs.all (·.oneCell') = true) {v : Value} (hv : v.oneCell' = true) (i : Nat) : (cs.setIfInBounds i v).all (·.oneCell') = true := by
  refine Array.all_eq_true_iff_forall_mem.2 fun x hx => ?_
  rcases Array.mem_or_eq_of_mem_setIfInBounds hx with hx | rfl
  · exact Array.all_eq_true_iff_forall_mem.1 h x hx
  · exact hv
theorem Blk.cells_ {g : Nat} {t : TypeId} : ∀ (vs : List Value) (o : Nat) (w : World) (cs : Array Value), Blk w g t cs → ∃ cs', Blk (w.setCells g o vs) g t cs' ∧ cs'.size = cs.size ∧ (cs.all (·.oneCell') = true → (∀ v ∈ vs, v.oneCell' = true) → cs'.all (·.oneCell') = true) ∧ ∀ j, (j < o ∨ o + vs.length ≤ j) → cs'[j]? = cs[j]?
  | [], o, w, cs, h => ⟨cs, h, rfl, fun h _ => h, fun _ _ => rfl⟩
  | v :: vs, o, w, cs, h => by
    obtain ⟨cs', h1, h2, h3, h4⟩ := Blk.cells_ vs (o + 1) (w.setCell ⟨g, o, none⟩ v) _ (h.set_ o v)
    refine ⟨cs', h1, by rw [h2]; simp, fun a b => h3 (one_set a (b v (by simp)) o) (fun x hx => b x (by simp [hx])), fun j hj => ?_⟩
    rw [h4 j (by simp only [List.length_cons] at hj; omega)]
    rw [Array.getElem?_setIfInBounds, if_neg (by simp only [List.length_cons] at hj; omega)]
theorem only_setCells {g : Nat} : ∀ (vs : List Value) (o : Nat) (w : World), Only [g] w (w.setCells g o vs)
  | [], o, w => Only.refl _ _
  | v :: vs, o, w => ((Only.refl _ w).setCell (.inl (by simp)) v).trans (only_setCells vs (o + 1) _)
theorem Blk.there {w : World} {g : Nat} {t : TypeId} {cs : Array Value} (h : Blk w g t cs) {o n : Nat} (hn : o + n ≤ cs.size) : w.there g o n := fun j hj =>
  ⟨by rw [h.cell, Array.getElem?_eq_getElem (by omega)]; rfl, h.frozen _⟩
/-- The node at p: k instances, m measures. -/
structure NodeX (B : Nat) (w : World) (p k m : Nat) (cs : Array Value) (ai : Option Addr) (ci : Nat) (am : Option Addr) (cm : Nat) (xs ys : List Value) : Prop where
  blk : Blk w p 187 cs
  size : cs.size = 545
  one : cs.all (·.oneCell') = true
  fi : cs[20]? = some (.slice ai k ci)
  fm : cs[274]? = some (.slice am m cm)
  nil : ∀ j ∈ [191, 192, 275, 543, 544], cs[j]? = some (.slice none 0 0)
  irow : w.ownsRow B 197 294 (.slice ai k ci) k xs
  ione : ∀ v ∈ xs, v.oneCell' = true
  mrow : w.ownsRow B 199 2 (.slice am m cm) m ys
  mone : ∀ v ∈ ys, v.oneCell' = true
  ge : B ≤ p
section
variable {B : Nat} {w w' w5 w8 : World} {p k m : Nat} {cs : Array Value} {ai : Option Addr} {ci : Nat} {am : Option Addr} {cm : Nat} {xs ys : List Value}
theorem NodeX.below (h : NodeX B w p k m cs ai ci am cm xs ys) (hb : Below w.heap.size w w') : NodeX B w' p k m cs ai ci am cm xs ys :=
  ⟨h.blk.below hb h.blk.lt, h.size, h.one, h.fi, h.fm, h.nil, own_below h.irow hb, h.ione, own_below h.mrow hb, h.mone, h.ge⟩
theorem set_at {cs : Array Value} {i j : Nat} {v : Value} (h : i ≠ j) : (cs.setIfInBounds i v)[j]? = cs[j]? := by rw [Array.getElem?_setIfInBounds, if_neg h]
theorem set_eq {cs : Array Value} {i : Nat} {v : Value} (h : i < cs.size) : (cs.setIfInBounds i v)[i]? = some v := by rw [Array.getElem?_setIfInBounds, if_pos rfl, if_pos h]
theorem NodeX.inst (h : NodeX B w p k m cs ai ci am cm xs ys) (hb : Below w.heap.size w w5) {a8 : Option Addr} {c8 : Nat} {zs : List Value} (hz : ∀ v ∈ zs, v.oneCell' = true) (h8 : Apped w5 w8 B 197 294 ai a8 (k + 1) c8 (xs ++ zs)) :
    Blk w8 p 187 cs ∧ NodeX B (w8.setCell ⟨p, 20, none⟩ (.slice a8 (k + 1) c8)) p (k + 1) m (cs.setIfInBounds 20 (.slice a8 (k + 1) c8)) a8 c8 am cm (xs ++ zs) ys := by
  have b5 := h.blk.below hb h.blk.lt
  have S8 := own_blks (own_below h.irow hb)
  have k8 : Blk w8 p 187 cs := b5.only h8.only fun hm => by
    obtain ⟨_, c, hcs⟩ := S8 _ hm
    exact b5.ne_ hcs (by decide) rfl
  have T8 : ∀ k ∈ (ai.map (·.block)).toList, ∀ c t, Blk w5 k t c → t = 197 ∨ t = 197 := fun k hk c t hb => by
    obtain ⟨_, cs', hb'⟩ := S8 k hk
    unfold Blk at hb hb'
    rw [hb] at hb'
    injection hb' with hb'
    injection hb' with _ e
    exact .inl e
  have o9 : Only [p] w8 (w8.setCell ⟨p, 20, none⟩ (.slice a8 (k + 1) c8)) := (Only.refl _ _).setCell (.inl (by simp)) _
  have T9 : ∀ k ∈ [p], ∀ c t, Blk w8 k t c → t = 187 ∨ t = 187 := fun k hk c t hb => by
    obtain rfl : k = p := by simpa using hk
    unfold Blk at hb k8
    rw [hb] at k8
    injection k8 with k8
    injection k8 with _ e
    exact .inl e
  refine ⟨k8, k8.set_ 20 _, by simpa using h.size, one_set h.one rfl 20, set_eq (by rw [h.size]; omega), by rw [set_at (by omega)]; exact h.fm, fun j hj => ?_, own_kinds h8.own o9 T9 (by decide) (by decide), fun v hv => ?_, own_kinds (own_kinds (own_below h.mrow hb) h8.only T8 (by decide) (by decide)) o9 T9 (by decide) (by decide), h.mone, h.ge⟩
  · rw [set_at (by rintro rfl; simp at hj)]; exact h.nil j hj
  · rcases List.mem_append.1 hv with hv | hv
    · exact h.ione v hv
    · exact hz v hv
theorem NodeX.meas (h : NodeX B w p k m cs ai ci am cm xs ys) (hb : Below w.heap.size w w5) {a8 : Option Addr} {c8 : Nat} {zs : List Value} (hz : ∀ v ∈ zs, v.oneCell' = true) (h8 : Apped w5 w8 B 199 2 am a8 (m + 1) c8 (ys ++ zs)) :
    Blk w8 p 187 cs ∧ NodeX B (w8.setCell ⟨p, 274, none⟩ (.slice a8 (m + 1) c8)) p k (m + 1) (cs.setIfInBounds 274 (.slice a8 (m + 1) c8)) ai ci a8 c8 xs (ys ++ zs) := by
  have b5 := h.blk.below hb h.blk.lt
  have S8 := own_blks (own_below h.mrow hb)
  have k8 : Blk w8 p 187 cs := b5.only h8.only fun hm => by
    obtain ⟨_, c, hcs⟩ := S8 _ hm
    exact b5.ne_ hcs (by decide) rfl
  have T8 : ∀ k ∈ (am.map (·.block)).toList, ∀ c t, Blk w5 k t c → t = 199 ∨ t = 199 := fun k hk c t hb => by
    obtain ⟨_, cs', hb'⟩ := S8 k hk
    unfold Blk at hb hb'
    rw [hb] at hb'
    injection hb' with hb'
    injection hb' with _ e
    exact .inl e
  have o9 : Only [p] w8 (w8.setCell ⟨p, 274, none⟩ (.slice a8 (m + 1) c8)) := (Only.refl _ _).setCell (.inl (by simp)) _
  have T9 : ∀ k ∈ [p], ∀ c t, Blk w8 k t c → t = 187 ∨ t = 187 := fun k hk c t hb => by
    obtain rfl : k = p := by simpa using hk
    unfold Blk at hb k8
    rw [hb] at k8
    injection k8 with k8
    injection k8 with _ e
    exact .inl e
  refine ⟨k8, k8.set_ 274 _, by simpa using h.size, one_set h.one rfl 274, by rw [set_at (by omega)]; exact h.fi, set_eq (by rw [h.size]; omega), fun j hj => ?_, own_kinds (own_kinds (own_below h.irow hb) h8.only T8 (by decide) (by decide)) o9 T9 (by decide) (by decide), h.ione, own_kinds h8.own o9 T9 (by decide) (by decide), fun v hv => ?_, h.ge⟩
  · rw [set_at (by rintro rfl; simp at hj)]; exact h.nil j hj
  · rcases List.mem_append.1 hv with hv | hv
    · exact h.mone v hv
    · exact hz v hv
theorem NodeX.cells (h : NodeX B w p k m cs ai ci am cm xs ys) (o : Nat) (vs : List Value) (hv : ∀ v ∈ vs, v.oneCell' = true) (h1 : 21 ≤ o) (h2 : o + vs.length ≤ 189) :
    ∃ cs', NodeX B (w.setCells p o vs) p k m cs' ai ci am cm xs ys := by
  obtain ⟨cs', b1, b2, b3, b4⟩ := h.blk.cells_ vs o w cs
  have o9 := only_setCells (g := p) vs o w
  have T9 : ∀ k ∈ [p], ∀ c t, Blk w k t c → t = 187 ∨ t = 187 := fun k hk c t hb => by
    obtain rfl : k = p := by simpa using hk
    have h0 := h.blk
    unfold Blk at hb h0
    rw [hb] at h0
    injection h0 with h0
    injection h0 with _ e
    exact .inl e
  refine ⟨cs', b1, by rw [b2]; exact h.size, b3 h.one hv, by rw [b4 _ (by omega)]; exact h.fi, by rw [b4 _ (by omega)]; exact h.fm, fun j hj => ?_, own_kinds h.irow o9 T9 (by decide) (by decide), h.ione, own_kinds h.mrow o9 T9 (by decide) (by decide), h.mone, h.ge⟩
  rw [b4 j (.inr (by simp only [List.mem_cons, List.not_mem_nil, or_false] at hj; omega))]
  exact h.nil j hj
end
/-- A node of the reference that is there. -/
def NodeB (B : Nat) (w : World) (p : Nat) : Prop := ∃ cs ai ci am cm xs ys, NodeX B w p 2 2 cs ai ci am cm xs ys
theorem NodeB.below {B : Nat} {w w' : World} {p : Nat} (h : NodeB B w p) (hb : Below w.heap.size w w') : NodeB B w' p := by
  obtain ⟨cs, ai, ci, am, cm, xs, ys, h⟩ := h
  exact ⟨cs, ai, ci, am, cm, xs, ys, h.below hb⟩

set_option maxHeartbeats 800000 in
theorem rnew_any (f : Int) (w : World) :
    Calls Try.prog 104 #[.int .i64 f] w fun e w' => ∃ gr cs, e = .returned (.pointer (some ⟨gr, 0, none⟩)) ∧ Blk w' gr 169 cs ∧ cs.size = 27 ∧ cs.all (·.oneCell') = true ∧ Below w.heap.size w w' := by
  go_enter Try.func104, Try.ntmps104
  go_wp2_with fail
  obtain ⟨gr, hgr⟩ : ∃ gr, gr = w.heap.size := ⟨_, rfl⟩
  have GR := Lib.hid hgr
  rw [← hgr]
  go_loopw [4] (fun i wr => ∃ k : Nat, k ≤ 13 ∧ i = .int .i64 k ∧ ∃ cs : Array Value, Blk wr gr 169 cs ∧ cs.size = 27 ∧ cs.all (·.oneCell') = true ∧ Below w.heap.size w wr) (fun i _ => 13 - (intOf i).toNat)
  case atStart => exact ⟨0, by omega, rfl, _, by rw [hgr]; exact Blk.new _ _ _, by rfl, by kernel_rfl, (Below.refl _ _).alloc (Nat.le_refl _) _⟩
  case round =>
    obtain ⟨k, hk, rfl, cs, hB, hsz, hone, hb⟩ := hrel
    have BB := Lib.hid hB
    have HB := Lib.hid hb
    have HZ := Lib.hid hsz
    have HO := Lib.hid hone
    clear hgr
    by_cases hlt : k < 13
    · have c0 : wr.cell? ⟨gr, 1 + k, none⟩ = some (cs[1 + k]'(by omega)) := by rw [hB.cell, Array.getElem?_eq_getElem]
      obtain ⟨v, hv⟩ : ∃ v, v = cs[1 + k]'(by omega) := ⟨_, rfl⟩
      rw [← hv] at c0
      have fr := hB.frozen (1 + k)
      have i0 : (0 : Int) ≤ k := by omega
      have i1 : (k : Int) < 13 := by omega
      clear hB hb hv hsz hone
      go_wp2_with fail
      go_roundw
      case rel => exact ⟨k + 1, by omega, by go_num, _, BB.out.set_ (1 + k) (.int .i64 (-1)), by simpa using HZ.out, one_set HO.out rfl _, HB.out.setCell (p := ⟨gr, 1 + k, none⟩) (by rw [GR.out]; exact Nat.le_refl _) _⟩
      case measure => simp [intOf]; omega
    · have hk13 : k = 13 := by omega
      subst hk13
      clear hB hb hsz hone
      go_wp2_with fail
      go_ret
      exact ⟨gr, cs, rfl, BB.out, HZ.out, HO.out, HB.out⟩
end Go.Proofs.Ytfhlcjfgbhmecaa
