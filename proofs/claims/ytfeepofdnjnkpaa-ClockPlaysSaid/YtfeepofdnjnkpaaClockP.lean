/- Package clock: Drop. -/
import Derived.Test.YtfeepofdnjnkpaaClockW
import Derived.Deep.RegionLaw
namespace Go.Proofs.Ytfeepofdnjnkpaa
open Go.RowKit
set_option linter.unusedVariables false

theorem to_k {P : Program} (T E s : Nat) (hT : P.underlying T = some (.slice E)) (hE : P.elem T = E) (hs : ∀ w : World, (sizeOf E).run P w = .ok s w) (g n c k : Nat) (hk : k ≤ n) (hn : n ≤ c) (w : World) :
    (Instr.slice T (.slice (some ⟨g, 0, none⟩) n c) none (some (.int .i64 k)) none).run P w = .ok (.slice (some ⟨g, 0, none⟩) k c) w := by
  have h := run_slice_h (P := P) (w := w) T (some ⟨g, 0, none⟩) n c (by rw [hE]; exact hT) .i64 k (by omega) (by omega)
  rw [h, hE, hs w]
  show Result.ok (sliced (some ⟨g, 0, none⟩) 0 ((k : Int).toNat) c s) w = _
  rw [Int.toNat_natCast]
  simp only [sliced, Option.map_some, addr_add, Nat.zero_mul, Nat.sub_zero]
  split <;> rfl
theorem Row.cut {w : World} {g s n cap : Nat} {e : TypeId} {xs : List Value} (h : Row w g e s n cap xs) (k : Nat) (hk : k ≤ n) : Row w g e s k cap (xs.take (k * s)) := by
  obtain ⟨cur, hb, h1, h2, h3, h4⟩ := h.parts
  have hks : k * s ≤ n * s := Nat.mul_le_mul_right s hk
  refine ⟨by rw [List.length_take, h.len, Nat.min_eq_left hks], .inr ⟨g, cap, cur, rfl, Nat.zero_le _, hb, Nat.le_trans hk h1, h2, h3, ?_⟩⟩
  rw [← h4, List.take_take, Nat.min_eq_left hks]

theorem run_append_no {P : Program} (w : World) (t ty e : TypeId) (i : TypeInfo) (ht : P.underlying t = some (.slice e)) (hi : P.info? e = some i) (g n cap c : Nat) (A : Option Addr) (hn : n ≤ cap) :
    (Builtin.append_ #[t, t] ty #[.slice (some ⟨g, 0, none⟩) n cap, .slice A 0 c]).run P w = .ok (.slice (some ⟨g, 0, none⟩) n cap) w := by
  have hl : ∀ (x : Addr), (loadCells x 0).run P w = .ok #[] w := fun x => by simpa using run_loadCells_list (P := P) w x [] (by simp)
  cases A <;> simp [Builtin.append_, run_underlying ht, sizeOf, typeInfo, hi, Builtin.lenOf, Builtin.firstCells, hn, storeCells, hl]
theorem step_append_no {P : Program} {w : World} {ops : Array Oper} {o : Oper} {a : Act} {K : Act → World → Prop} {Q : Exit → Act → World → Prop} {E : Prop} (hgd : o.guard = none) (s x : Operand) (t : TypeId)
    (ho : o.op = .call { callee := .builtin .append, args := #[s, x], argTypes := #[t, t] }) (e : TypeId) (i : TypeInfo) (ht : P.underlying t = some (.slice e)) (hi : P.info? e = some i) (g n cap c : Nat) (A : Option Addr) (hn : n ≤ cap)
    (hs : a.eval s = .slice (some ⟨g, 0, none⟩) n cap) (hx : a.eval x = .slice A 0 c) (h : K (a.put o.dst (.slice (some ⟨g, 0, none⟩) n cap)) w) :
    if Region.wanted o (yielded ops a.tmps) = true then Oper.wp P o a w K Q else E := by
  have hw : Region.wanted o (yielded ops a.tmps) = true := by simp [Region.wanted, hgd]
  rw [if_pos hw]
  have hrun := run_append_no (P := P) w t o.type e i ht hi g n cap c A hn
  unfold Oper.wp
  simp [execOp, ho, resolve, invoke, builtin, hs, hx, hrun, Result.andThen]
  exact h

set_option maxHeartbeats 1600000 in
theorem drop_one (B gc : Nat) (now : Int) (id d : Int) (w : World) (h : Clk w B gc now [(id, d)]) (hL : ∀ p ∈ [(id, d)], I64 p.1 ∧ I64 p.2) (hi : I64 id) :
    Calls Try.prog 37 #[.pointer (some ⟨gc, 0, none⟩), .int .i64 id] w fun e w' => e = .returned (.bool true) ∧ Clk w' B gc now [] ∧ Ticked B w w' := by
  obtain ⟨j0, hj0, hy0, hy1, hy2⟩ := info_parts info_timer
  have H := Lib.hid h
  have hBw : B ≤ w.heap.size := Nat.le_trans h.ge (Nat.le_of_lt h.lt)
  clear h
  go_enter Try.func37, Try.ntmps37
  go_wp2_with fail
  refine (place_c B gc now [(id, d)] id _ H.out hL (by simp) hi 0 true (place_one id d)).mono ?_; rintro e w1 ⟨rfl, hb1⟩
  have H1 := H.out.below hb1
  have HB := Lib.hid hb1
  have HG := Lib.hid H1.ge
  have hB1 : B ≤ w1.heap.size := Nat.le_trans hBw hb1.size
  obtain ⟨a, c, k1, k2, k3⟩ := H1.ex
  simp only [List.length_cons, List.length_nil, Nat.zero_add] at k1 k2 k3
  obtain ⟨b, rfl⟩ : ∃ b, a = some ⟨b, 0, none⟩ := by
    rcases k2.2 with ⟨_, h0⟩ | ⟨g, cap, cur, hv, _⟩
    · omega
    · injection hv with hv
      exact ⟨g, hv⟩
  have r := Row.of_own k2
  have hcm := r.cap_max
  have hbB : B ≤ b := (k2.lt b rfl).1
  have nbg : gc ≠ b := fun e => own_blk_ne k2 k1 (by decide) (by rw [e]; rfl)
  have c1 : w1.cell? ⟨gc, 1, none⟩ = some (.slice (some ⟨b, 0, none⟩) 1 c) := k1.cell 1
  have f1 := k1.frozen 1
  have sl1 : ∀ w : World, (Instr.slice 77 (.slice (some ⟨b, 0, none⟩) 1 c) none (some (.int .i64 0)) none).run Try.prog w = .ok (.slice (some ⟨b, 0, none⟩) 0 c) w := to_k (P := Try.prog) 77 81 2 Try.underlying77 (by kernel_rfl) size_timer b 1 c 0 (by omega) (by omega)
  obtain ⟨A, sl2⟩ := from_end (P := Try.prog) 77 81 2 Try.underlying77 (by kernel_rfl) size_timer b 1 c (by omega) 1 rfl
  have K1 := Lib.hid k1
  have R := Lib.hid (r.cut 0 (by omega))
  unfold maxLen at hcm
  clear k1 k2 r H1 hb1
  go_wp2_with fail
  have w1' : IntKind.i64.wrap 1 = 1 := IntWalk.i64_in _ (by omega)
  go_region_law (refine step_append_no (by rfl) _ _ _ (by rfl) 81 j0 Try.underlying77 hj0 b 0 c (c - 1) A (by omega) (by rfl) (by rfl) ?_)
  all_goals
    go_wp2_with fail
    go_ret
    have hr : Row (w1.setCell ⟨gc, 1, none⟩ (.slice (some ⟨b, 0, none⟩) 0 c)) b 81 2 0 c [] := R.out.far (p := ⟨gc, 1, none⟩) (Ne.symm nbg) _
    have ht := (Ticked.of_below hBw HB.out).trans (Ticked.set (i := 1) K1.out (.inl rfl) HG.out (.slice (some ⟨b, 0, none⟩) 0 c))
    exact ⟨rfl, ⟨⟨some ⟨b, 0, none⟩, c, (K1.out.set_ 1 _).drew, (hr.own hbB).drew, Nat.zero_le _⟩, HG.out⟩, ht.b.drew, fun k cs t h1 h2 h3 => (ht.far k cs t h1 h2 h3).drew⟩
end Go.Proofs.Ytfeepofdnjnkpaa
