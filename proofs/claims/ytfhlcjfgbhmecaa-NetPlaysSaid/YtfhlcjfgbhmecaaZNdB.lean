/- NdB. -/
import Derived.Test.YtfhlcjfgbhmecaaZNdA
import Derived.Test.YtfhlcjfgbhmecaaZCfgQ
import Derived.Great.FillDense
/- psephosref21.NewNode. -/
namespace Go.Proofs.Ytfhlcjfgbhmecaa
open Go.RowKit
set_option linter.unusedVariables false
set_option maxRecDepth 100000

theorem wpList_build_z {P : Program} {ops : Array Oper} {rest : List Oper} {o : Oper} {a : Act} {w : World} {Q : Exit → Act → World → Prop} (hg : o.guard = none) (t : TypeId) (parts : Array (Nat × Operand)) (ho : o.op = .build t parts)
    (vs : Array (Nat × Value)) (hvs : (parts.map fun (i, x) => (i, a.eval x)) = vs) (Z : Array Value) (hz : ∀ w, (Instr.build t vs).run P w = .ok (.agg Z) w)
    (h : wpList P ops Q rest (a.put o.dst (.agg Z)) w) : wpList P ops Q (o :: rest) a w :=
  wpList_plain hg fun _ hK => by
    unfold Oper.wp execOp
    simp only [ho, hvs, Sem.run_bind, hz, Result.andThen_ok]
    exact hK _ _ h
theorem step_built {P : Program} {w w' : World} {ops : Array Oper} {o : Oper} {a : Act} {K : Act → World → Prop} {Q : Exit → Act → World → Prop} {E : Prop} (hgd : o.guard = none) (t : TypeId) (n : Nat) (parts : Array (Nat × Operand)) (ho : o.op = .buildSlice t n parts)
    (vs : Array (Nat × Value)) (hvs : (parts.map fun (i, x) => (i, a.eval x)) = vs) (A : Value) (hz : (Instr.buildSlice t n vs).run P w = .ok A w')
    (h : K (a.put o.dst A) w') : if Region.wanted o (yielded ops a.tmps) = true then Oper.wp P o a w K Q else E := by
  have hw : Region.wanted o (yielded ops a.tmps) = true := by simp [Region.wanted, hgd]
  rw [if_pos hw]
  unfold Oper.wp execOp
  simp only [ho, hvs, Sem.run_bind, hz, Result.andThen_ok]
  exact h
theorem built_row {P : Program} (T E : TypeId) (ie : TypeInfo) (z : Value) (s : Nat) (hu : P.underlying T = some (.slice E)) (hie : P.info? E = some ie) (hz : ie.zero = some z) (hs : ie.size = s) (h0 : 0 < s) (h1 : s ≤ 2 ^ 24) (Z : Array Value) (hZ : Z.size = s) (w : World) :
    (Instr.buildSlice T 1 #[(0, .agg Z)]).run P w = .ok (.slice (some ⟨w.heap.size, 0, none⟩) 1 1) (w.alloc (.cells Z E)) := by
  refine run_buildSlice w T E 1 _ Z ie z hu hie hz (by rw [hs]; omega) (by rw [hs]; omega) ?_
  rw [hs]
  have := Great.fill_whole h0 [.agg Z] ((Array.range (1 * s)).map (z.cells[· % z.cells.size]!)) (fun v hv => by
    simp only [List.mem_singleton] at hv
    subst hv
    simpa [Value.cells] using hZ) (by simp)
  simpa [Value.cells] using this
theorem Apped.blk_ {w w' : World} {base base0 : Nat} {e : TypeId} {s n0 c0 n cap g : Nat} {t : TypeId} {cs : Array Value} {a0 a' : Option Addr} {xs0 xs : List Value} (h : Apped w w' base e s a0 a' n cap xs) (ho : w.ownsRow base0 e s (.slice a0 n0 c0) n0 xs0) (hb : Blk w g t cs) (hne : t ≠ e) : Blk w' g t cs :=
  hb.only h.only fun hm => by
    obtain ⟨_, c, hc⟩ := own_blks ho _ hm
    exact hb.ne_ hc hne rfl
theorem info_inst_parts : ∃ ie, Try.prog.info? 197 = some ie ∧ (∃ z, ie.zero = some z ∧ z.cells.size = 294) ∧ ie.size = 294 ∧ ie.bytes = 3912 := by
  have h := info_inst
  cases hi : Try.prog.info? 197 with
  | none => rw [hi] at h; cases h
  | some ie =>
    rw [hi] at h
    simp only [Option.map_some, Option.some.injEq, Prod.mk.injEq] at h
    obtain ⟨h1, h2, h3⟩ := h
    cases hz : ie.zero with
    | none => rw [hz] at h3; cases h3
    | some z => rw [hz] at h3; exact ⟨ie, rfl, ⟨z, hz, by simpa using h3⟩, h1, h2⟩
set_option maxHeartbeats 3200000 in
theorem rnode_c (room : Int) (hr : 1 ≤ room ∧ room ≤ 256) (id : Nat) (hid : id < 4) (nb : Nat) (w : World) :
    Calls Try.prog 79 #[.agg (cfgA room), .int .i64 id, .pointer (some ⟨nb, 0, none⟩)] w fun e w' => ∃ p, e = .returned (.tuple #[.pointer (some ⟨p, 0, none⟩), .int .i64 0]) ∧ NodeB w.heap.size w' p ∧ Below w.heap.size w w' := by
  go_enter Try.func79, Try.ntmps79
  go_upto_region 1 with fail
  obtain ⟨w1, hw1⟩ : ∃ w1, w1 = w.alloc (.cells (cfgA room) 64) := ⟨_, rfl⟩
  obtain ⟨gc, hgc⟩ : ∃ g, g = w.heap.size := ⟨_, rfl⟩
  rw [← hw1, ← hgc]
  have K1 : Hid (Blk w1 gc 64 (cfgA room)) := Lib.hid (by rw [hw1, hgc]; exact Blk.new _ _ _)
  have B1 : Hid (Below w.heap.size w w1) := Lib.hid (by rw [hw1]; exact (Below.refl _ _).alloc (Nat.le_refl _) _)
  have GC : Hid (w.heap.size ≤ gc) := Lib.hid (by omega)
  clear hw1 hgc
  have c0 : w1.cell? ⟨gc, 0, none⟩ = some (.int .i64 1) := K1.out.cell 0
  have c1 : w1.cell? ⟨gc, 1, none⟩ = some (.int .i64 2) := K1.out.cell 1
  have c2 : w1.cell? ⟨gc, 2, none⟩ = some (.int .i64 2) := K1.out.cell 2
  have c3 : w1.cell? ⟨gc, 3, none⟩ = some (.int .i64 4) := K1.out.cell 3
  have c4 : w1.cell? ⟨gc, 4, none⟩ = some (.int .i64 room) := K1.out.cell 4
  have c5 : w1.cell? ⟨gc, 5, none⟩ = some (.int .i64 8) := K1.out.cell 5
  have c6 : w1.cell? ⟨gc, 6, none⟩ = some (.int .i64 8) := K1.out.cell 6
  have c7 : w1.cell? ⟨gc, 7, none⟩ = some (.int .i64 8) := K1.out.cell 7
  have c8 : w1.cell? ⟨gc, 8, none⟩ = some (.int .i64 1) := K1.out.cell 8
  have c9 : w1.cell? ⟨gc, 9, none⟩ = some (.int .i64 2) := K1.out.cell 9
  have c10 : w1.cell? ⟨gc, 10, none⟩ = some (.int .i64 12) := K1.out.cell 10
  have c11 : w1.cell? ⟨gc, 11, none⟩ = some (.int .i64 8) := K1.out.cell 11
  have c12 : w1.cell? ⟨gc, 12, none⟩ = some (.int .i64 6) := K1.out.cell 12
  have c13 : w1.cell? ⟨gc, 13, none⟩ = some (.int .i64 2) := K1.out.cell 13
  have c14 : w1.cell? ⟨gc, 14, none⟩ = some (.int .i64 6) := K1.out.cell 14
  go_wp2_with fail
  refine (Cfg.rvalid_c _ _ _ _ _ _ _ _ _ _ _ _ _ _ _ _).mono ?_; rintro e w2 ⟨rfl, hb2⟩
  rw [valid_usual room hr]
  have K2 := Lib.hid (K1.out.below hb2 K1.out.lt)
  have B2 := Lib.hid (B1.out.trans (hb2.mono B1.out.size))
  clear hb2 c0 c1 c2 c3 c4 c5 c6 c7 c8 c9 c10 c11 c12 c13 c14 K1 B1
  have c0 : w2.cell? ⟨gc, 0, none⟩ = some (.int .i64 1) := K2.out.cell 0
  have i0 : ¬ (id : Int) < 0 := by omega
  have i1 : ¬ (4 : Int) ≤ id := by omega
  go_wp2_with fail
  refine (rnodes_c 1 _ (by omega) (by omega)).mono ?_; rintro e w' ⟨rfl, rfl⟩
  clear c0
  go_upto_region 3 with fail
  have d0 : w2.cell? ⟨gc, 0, none⟩ = some (.int .i64 1) := K2.out.cell 0
  have d1 : w2.cell? ⟨gc, 1, none⟩ = some (.int .i64 2) := K2.out.cell 1
  have d2 : w2.cell? ⟨gc, 2, none⟩ = some (.int .i64 2) := K2.out.cell 2
  have d3 : w2.cell? ⟨gc, 3, none⟩ = some (.int .i64 4) := K2.out.cell 3
  have d4 : w2.cell? ⟨gc, 4, none⟩ = some (.int .i64 room) := K2.out.cell 4
  have d5 : w2.cell? ⟨gc, 5, none⟩ = some (.int .i64 8) := K2.out.cell 5
  have d6 : w2.cell? ⟨gc, 6, none⟩ = some (.int .i64 8) := K2.out.cell 6
  have d7 : w2.cell? ⟨gc, 7, none⟩ = some (.int .i64 8) := K2.out.cell 7
  have d8 : w2.cell? ⟨gc, 8, none⟩ = some (.int .i64 1) := K2.out.cell 8
  have d9 : w2.cell? ⟨gc, 9, none⟩ = some (.int .i64 2) := K2.out.cell 9
  have d10 : w2.cell? ⟨gc, 10, none⟩ = some (.int .i64 12) := K2.out.cell 10
  have d11 : w2.cell? ⟨gc, 11, none⟩ = some (.int .i64 8) := K2.out.cell 11
  have d12 : w2.cell? ⟨gc, 12, none⟩ = some (.int .i64 6) := K2.out.cell 12
  have d13 : w2.cell? ⟨gc, 13, none⟩ = some (.int .i64 2) := K2.out.cell 13
  have d14 : w2.cell? ⟨gc, 14, none⟩ = some (.int .i64 6) := K2.out.cell 14
  go_upto_region 4 with fail
  clear d0 d1 d2 d3 d4 d5 d6 d7 d8 d9 d10 d11 d12 d13 d14
  obtain ⟨Z, hZ⟩ : ∃ Z, Z = nodeZ room id nb := ⟨_, rfl⟩
  have ZS : Z.size = 545 := by rw [hZ]; exact nodeZ_size room id nb
  have ZO : Z.all (·.oneCell') = true := by rw [hZ]; exact nodeZ_one room id nb
  have ZA : ∀ j ∈ [20, 191, 192, 274, 275, 543, 544], Z[j]? = some (.slice none 0 0) := by rw [hZ]; exact nodeZ_at room id nb
  unfold nodeZ at hZ
  rw [← hZ]
  clear hZ
  obtain ⟨w3, hw3⟩ : ∃ w3, w3 = w2.alloc (.cells Z 187) := ⟨_, rfl⟩
  obtain ⟨p, hp⟩ : ∃ p, p = w2.heap.size := ⟨_, rfl⟩
  rw [← hw3, ← hp]
  have b3 : Below w2.heap.size w2 w3 := by rw [hw3]; exact (Below.refl _ _).alloc (Nat.le_refl _) _
  have N3 : Hid (∃ cs ai ci am cm xs ys, NodeX w.heap.size w3 p 0 0 cs ai ci am cm xs ys) := Lib.hid ⟨Z, none, 0, none, 0, [], [], by rw [hw3, hp]; exact Blk.new _ _ _, ZS, ZO, ZA 20 (by simp), ZA 274 (by simp), fun j hj => ZA j (by simp only [List.mem_cons, List.not_mem_nil, or_false] at hj ⊢; omega), ⟨rfl, .inl ⟨rfl, rfl⟩⟩, by simp, ⟨rfl, .inl ⟨rfl, rfl⟩⟩, by simp, by rw [hp]; exact B2.out.size⟩
  have K3 := Lib.hid (K2.out.below b3 K2.out.lt)
  have B3 := Lib.hid (B2.out.trans (b3.mono B2.out.size))
  clear hw3 hp b3 ZS ZO ZA K2 B2 i0 i1
  go_upto_block 0 with fail
  go_wp2_with fail
  go_loopw [9] (fun s wr => ∃ k : Nat, k ≤ 2 ∧ s = .int .i64 k ∧ (∃ cs ai ci am cm xs ys, NodeX w.heap.size wr p k k cs ai ci am cm xs ys) ∧ Blk wr gc 64 (cfgA room) ∧ Below w.heap.size w wr) (fun s _ => 2 - (intOf s).toNat)
  case atStart => exact ⟨0, by omega, rfl, N3.out, K3.out, B3.out⟩
  case round =>
    obtain ⟨k, hk, rfl, ⟨cs, ai, ci, am, cm, xs, ys, hn⟩, hc, hb⟩ := hrel
    have NN := Lib.hid hn
    have KC := Lib.hid hc
    have BB := Lib.hid hb
    have e0 : wr.cell? ⟨gc, 0, none⟩ = some (.int .i64 1) := hc.cell 0
    have e3 : wr.cell? ⟨gc, 3, none⟩ = some (.int .i64 4) := hc.cell 3
    clear hn hc hb
    by_cases hlt : k < 2
    · have i1 : (k : Int) ≤ 1 := by omega
      have n20 : wr.cell? ⟨p, 20, none⟩ = some (.slice ai k ci) := (NN.out.blk.cell 20).trans NN.out.fi
      go_upto_region 7 with fail
      have KS : ∀ w', Below wr.heap.size wr w' → w'.cell? ⟨p, 20, none⟩ = some (.slice ai k ci) ∧ w'.cell? ⟨gc, 0, none⟩ = some (.int .i64 1) ∧ w'.cell? ⟨gc, 3, none⟩ = some (.int .i64 4) := fun w' o => ⟨kept o _ _ n20, kept o _ _ e0, kept o _ _ e3⟩
      refine wp_region_plan (fun w' => w'.cell? ⟨p, 20, none⟩ = some (.slice ai k ci) ∧ w'.cell? ⟨gc, 0, none⟩ = some (.int .i64 1) ∧ w'.cell? ⟨gc, 3, none⟩ = some (.int .i64 4)) 15 (.take 0 (.take 1 (.take 2 (.take 3 (.take 4 (.take 5 (.take 6 (.take 7 (.take 8 (.take 9 (.take 10 (.one 11 (.one 12 (.one 13 (.take 14 (.one 15 .done)))))))))))))))) (by kernel_rfl) (by kernel_rfl) (by kernel_rfl) (KS _ (Below.refl _ _).drew) ?_
      intro hS0
      obtain ⟨v0, hv0⟩ : ∃ v, v = wr.drew := ⟨_, rfl⟩
      have B0 : Below wr.heap.size wr v0 := by rw [hv0]; exact (Below.refl _ _).drew
      rw [← hv0] at hS0 ⊢
      clear hv0
      repeat (refine' wpPlan_take rfl (by rfl) (by assumption) ?_ ?_; rotate_left; (· (intro w hSw; (try dsimp only at hSw); go_simp; try with_reducible rfl)); try simp only [Act.put, List.setIfInBounds_toArray, List.set_cons_zero, List.set_cons_succ])
      obtain ⟨Y, hY⟩ : ∃ Y, Y = (((Try.zeroCells197.setIfInBounds 0 (.int .i64 1)).setIfInBounds 1 (.int .i64 k)).setIfInBounds 2 (.int .i64 4)).setIfInBounds 4 (.bool true) := ⟨_, rfl⟩
      have YS : Y.size = 294 := by rw [hY]; kernel_rfl
      have YO : Y.all (·.oneCell') = true := by rw [hY]; kernel_rfl
      rw [← hY]
      clear hY
      obtain ⟨ie, hie, hz0, hzs, hzb⟩ := info_inst_parts
      obtain ⟨zi, hzi, hzn⟩ := hz0
      have hbs := built_row (P := Try.prog) 163 197 ie zi 294 Try.underlying163 hie hzi hzs (by omega) (by omega) Y YS
      have YO2 : ∀ v ∈ Y.toList, v.oneCell' = true := fun v hv => Array.all_eq_true_iff_forall_mem.1 YO v (by simpa using hv)
      refine wpPlan_one rfl (fun KT hKT => ?_)
      refine step_built (by rfl) 163 1 _ (by rfl) #[(0, .agg Y)] (by go_simp) _ (hbs v0) ?_
      have B1 := B0.alloc B0.size (.cells Y 197)
      have V1 := VRow.of_blk (n := 1) (s := 294) (Blk.new v0 197 Y) YS
      refine hKT.out _ _ (KS _ B1) (fun _ => ?_); clear hKT KT; try simp only [Act.put, List.setIfInBounds_toArray, List.set_cons_zero, List.set_cons_succ]
      refine wpPlan_one rfl (fun KT hKT => ?_)
      refine step_app (by rfl) _ _ _ (by rfl) w.heap.size 197 ie zi 294 3912 Try.underlying163 hie hzi hzs hzb hzn (by omega) ai k ci xs (by rfl) (own_below NN.out.irow B1) (some ⟨v0.heap.size, 0, none⟩) 1 1 Y.toList (by rfl) V1 YO2 (by unfold maxLen; omega) (by omega) (Nat.le_trans BB.out.size B1.size) ?_
      intro a8 c8 w8 h8
      obtain ⟨k8, n9⟩ := NN.out.inst B1 YO2 h8
      have N9 := Lib.hid n9
      have d8 : w8.cell? ⟨p, 20, none⟩ = some (.slice ai k ci) := (k8.cell 20).trans NN.out.fi
      have f8 := k8.frozen 20
      have C8 : Blk w8 gc 64 (cfgA room) := h8.blk_ (own_below NN.out.irow B1) (KC.out.below B1 KC.out.lt) (by decide)
      have b8 : Below w.heap.size w w8 := h8.below (own_below NN.out.irow B1) (BB.out.trans (B1.mono BB.out.size)) (Nat.le_refl _) (Nat.le_trans BB.out.size B1.size)
      have KC9 : Hid (Blk (w8.setCell ⟨p, 20, none⟩ (.slice a8 (k + 1) c8)) gc 64 (cfgA room)) := Lib.hid (C8.far (fun e => C8.ne_ k8 (by decide) e) _)
      have BB9 : Hid (Below w.heap.size w (w8.setCell ⟨p, 20, none⟩ (.slice a8 (k + 1) c8))) := Lib.hid (b8.setCell (p := ⟨p, 20, none⟩) NN.out.ge _)
      have S8 : w8.cell? ⟨p, 20, none⟩ = some (.slice ai k ci) ∧ w8.cell? ⟨gc, 0, none⟩ = some (.int .i64 1) ∧ w8.cell? ⟨gc, 3, none⟩ = some (.int .i64 4) := ⟨d8, C8.cell 0, C8.cell 3⟩
      refine hKT.out _ _ (S8) (fun _ => ?_); clear hKT KT; try simp only [Act.put, List.setIfInBounds_toArray, List.set_cons_zero, List.set_cons_succ]
      refine wpPlan_one rfl (fun KT hKT => ?_)
      go_simp
      refine hKT.out _ _ (S8) (fun _ => ?_); clear hKT KT; try simp only [Act.put, List.setIfInBounds_toArray, List.set_cons_zero, List.set_cons_succ]
      repeat (refine' wpPlan_take rfl (by rfl) (by assumption) ?_ ?_; rotate_left; (· (intro w hSw; (try dsimp only at hSw); go_simp; try with_reducible rfl)); try simp only [Act.put, List.setIfInBounds_toArray, List.set_cons_zero, List.set_cons_succ])
      refine wpPlan_last rfl (fun KT hKT => ?_)
      clear h8 n9 C8 b8 k8 S8 KS hS0 B0 B1 V1 hbs YO YO2 YS
      go_simp
      refine hKT.out _ _ ?_; clear hKT KT; try simp only [Act.put, List.setIfInBounds_toArray, List.set_cons_zero, List.set_cons_succ]
      refine wpPlan_done ?_
      obtain ⟨w9, hw9⟩ : ∃ w9, w9 = w8.setCell ⟨p, 20, none⟩ (.slice a8 (k + 1) c8) := ⟨_, rfl⟩
      rw [← hw9] at N9 KC9 BB9 ⊢
      clear hw9 d8 f8
      have q274 : w9.cell? ⟨p, 274, none⟩ = some (.slice am k cm) := (N9.out.blk.cell 274).trans N9.out.fm
      obtain ⟨mi, mi0, mz0, mz1, mz2⟩ := info_parts info_measN
      go_wp2_with (at_builtin; refine wpList_app rfl (.tmp 54) (.tmp 56) _ rfl w.heap.size 199 mi _ 2 16 Try.underlying177 mi0 mz0 mz1 mz2 rfl (by omega) am k cm ys rfl (World.ownsRow.alloc N9.out.mrow _) (some ⟨w9.heap.size, 0, none⟩) 1 1 [.int .i64 0, .int .i64 0] rfl (VRow.of_blk (n := 1) (s := 2) (Blk.new w9 199 #[.int .i64 0, .int .i64 0]) rfl) (by simp [Value.oneCell']) (by unfold maxLen; omega) (by omega) (by have := BB9.out.size; simp; omega) ?_; intro a10 c10 w10 h10; have B10 := (Below.refl w9.heap.size w9).alloc (Nat.le_refl _) (.cells #[.int .i64 0, .int .i64 0] 199); obtain ⟨k10, n11⟩ := N9.out.meas B10 (by simp [Value.oneCell']) h10; have N11 := Lib.hid n11; have d10 : w10.cell? ⟨p, 274, none⟩ = some (.slice am k cm) := (k10.cell 274).trans N9.out.fm; have f10 := k10.frozen 274; have C10 := h10.blk_ (own_below N9.out.mrow B10) (KC9.out.below B10 KC9.out.lt) (by decide); have KC11 : Hid (Blk (w10.setCell ⟨p, 274, none⟩ (.slice a10 (k + 1) c10)) gc 64 (cfgA room)) := Lib.hid (C10.far (fun e => C10.ne_ k10 (by decide) e) _); have BB11 : Hid (Below w.heap.size w (w10.setCell ⟨p, 274, none⟩ (.slice a10 (k + 1) c10))) := Lib.hid ((h10.below (own_below N9.out.mrow B10) (BB9.out.trans (B10.mono BB9.out.size)) (Nat.le_refl _) (Nat.le_trans BB9.out.size B10.size)).setCell (p := ⟨p, 274, none⟩) NN.out.ge _); clear h10 n11 C10 k10 B10)
      go_roundw
      case rel => exact ⟨k + 1, by omega, by go_num, ⟨_, _, _, _, _, _, _, N11.out⟩, KC11.out, BB11.out⟩
      case measure => simp [intOf]; omega
    · have hk2 : k = 2 := by omega
      subst hk2
      have i1 : ¬ ((2 : Nat) : Int) ≤ 1 := by omega
      have e1 : wr.cell? ⟨gc, 1, none⟩ = some (.int .i64 2) := KC.out.cell 1
      go_upto_region 9 with fail
      go_upto_region 10 with (refine wpList_store_mid rfl 166 (.tmp 67) (.tmp 65) rfl p 21 _ rfl rfl (NN.out.blk.there (by rw [NN.out.size]; simp)) (by kernel_rfl) (by kernel_rfl) ?_; try simp only [Act.put])
      obtain ⟨w4, hw4⟩ : ∃ w4, w4 = wr.setCells p 21 [.int .i64 1, .int .i64 2, .slice none 0 0] := ⟨_, rfl⟩
      obtain ⟨cs4, n4⟩ := NN.out.cells 21 [.int .i64 1, .int .i64 2, .slice none 0 0] (by simp [Value.oneCell']) (by omega) (by simp)
      have o4 := only_setCells (g := p) [.int .i64 1, .int .i64 2, .slice none 0 0] 21 wr
      rw [← hw4] at n4 o4 ⊢
      have k4 : Blk w4 gc 64 (cfgA room) := KC.out.only o4 (by simpa using KC.out.ne_ NN.out.blk (by decide))
      have N4 := Lib.hid n4
      have K4 := Lib.hid k4
      have B4 : Hid (Below w.heap.size w w4) := Lib.hid (o4.below BB.out BB.out.size (by simpa using NN.out.ge))
      have e4 : w4.cell? ⟨gc, 0, none⟩ = some (.int .i64 1) := k4.cell 0
      clear hw4 n4 o4 k4 e0 e1 e3 i1 N3 K3 B3
      go_wp2_with fail
      refine (rnew_any 1 _).mono ?_; rintro e w5 ⟨gr, C, rfl, hC, hCs, hC1, hb5⟩
      have N5 := Lib.hid (N4.out.below hb5)
      have K5 := Lib.hid (K4.out.below hb5 K4.out.lt)
      have B5 := Lib.hid (B4.out.trans (hb5.mono B4.out.size))
      have HC := Lib.hid hC
      have HS := Lib.hid hCs
      have H1 := Lib.hid hC1
      clear hC hCs hC1 hb5 e4
      go_upto_region 11 with (first
        | (refine wpList_load_row rfl 169 (.tmp 72) rfl gr rfl 169 C (0, 0) _ HC.out Try.underlying169 rfl (by rw [HS.out]; kernel_rfl) ?_; try simp only [Act.put])
        | (refine wpList_store_mid rfl 169 (.tmp 75) (.tmp 73) rfl p 24 C rfl rfl (N5.out.blk.there (by rw [N5.out.size, HS.out]; omega)) (by rw [HS.out]; kernel_rfl) H1.out ?_; try simp only [Act.put]))
      obtain ⟨w6, hw6⟩ : ∃ w6, w6 = w5.setCells p 24 C.toList := ⟨_, rfl⟩
      obtain ⟨cs6, n6⟩ := N5.out.cells 24 C.toList (fun v hv => Array.all_eq_true_iff_forall_mem.1 H1.out v (by simpa using hv)) (by omega) (by rw [Array.length_toList, HS.out]; omega)
      have o6 := only_setCells (g := p) C.toList 24 w5
      rw [← hw6] at n6 o6 ⊢
      have k6 : Blk w6 gc 64 (cfgA room) := K5.out.only o6 (by simpa using K5.out.ne_ N5.out.blk (by decide))
      have N6 := Lib.hid n6
      have B6 : Hid (Below w.heap.size w w6) := Lib.hid (o6.below B5.out B5.out.size (by simpa using N5.out.ge))
      have e6 : w6.cell? ⟨gc, 1, none⟩ = some (.int .i64 2) := k6.cell 1
      clear hw6 n6 o6 k6
      obtain ⟨LZ, hLZ⟩ : ∃ LZ, LZ = Try.zeroCells56.setIfInBounds 0 (.int .i64 2) := ⟨_, rfl⟩
      have L1 : LZ.size = 138 := by rw [hLZ]; kernel_rfl
      have L2 : LZ.all (·.oneCell') = true := by rw [hLZ]; kernel_rfl
      have HL1 := Lib.hid L1
      have HL2 := Lib.hid L2
      have HLZ := Lib.hid hLZ
      clear L1 L2 hLZ
      go_upto_region 12 with (refine wpList_store_mid rfl 56 (.tmp 81) (.tmp 79) rfl p 51 (Try.zeroCells56.setIfInBounds 0 (.int .i64 2)) rfl rfl (N6.out.blk.there (by rw [N6.out.size, ← HLZ.out, HL1.out]; omega)) (by rw [← HLZ.out, HL1.out]; kernel_rfl) (by rw [← HLZ.out]; exact HL2.out) ?_; try simp only [Act.put])
      rw [← HLZ.out]
      obtain ⟨w7, hw7⟩ : ∃ w7, w7 = w6.setCells p 51 LZ.toList := ⟨_, rfl⟩
      obtain ⟨cs7, n7⟩ := N6.out.cells 51 LZ.toList (fun v hv => Array.all_eq_true_iff_forall_mem.1 HL2.out v (by simpa using hv)) (by omega) (by rw [Array.length_toList, HL1.out]; omega)
      have o7 := only_setCells (g := p) LZ.toList 51 w6
      rw [← hw7] at n7 o7 ⊢
      have N7 := Lib.hid n7
      have B7 : Hid (Below w.heap.size w w7) := Lib.hid (o7.below B6.out B6.out.size (by simpa using N6.out.ge))
      clear hw7 n7 o7 e6
      go_wp2_with fail
      go_ret2
      exact ⟨p, rfl, ⟨_, _, _, _, _, _, _, N7.out⟩, B7.out⟩
end Go.Proofs.Ytfhlcjfgbhmecaa
