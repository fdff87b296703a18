/- The law's play of acts on both notaries. -/
import Derived.Test.YtjdcjofogmplcaaNotK
import Derived.Test.YtjdcjofogmplcaaLinkC
import Derived.Deep.CutRange
import Derived.Deep.DeepCutAuto
import Derived.Deep.CutBlock
namespace Go.Proofs.Ytjdcjofogmplcaa
open Go.RowKit
set_option linter.unusedVariables false

/-- Both notaries know the same. -/
structure Pair (w0 w : World) (n b r : Nat) (F : List Nat) (K : List (Int × List Int)) : Prop where
  nty : Nty w n b K
  rty : Rty w0 w r F K
  nF : n ∉ F
  bF : b ∉ F
  n0 : w0.heap.size ≤ n
  b0 : w0.heap.size ≤ b
  bel : Below w0.heap.size w0 w
section
variable {w0 w w' : World} {n b r : Nat} {F F' : List Nat} {K K' : List (Int × List Int)}
theorem Pair.only {S : List Nat} (h : Pair w0 w n b r F K) (ho : Only S w w') (h1 : n ∉ S) (h2 : b ∉ S) (h3 : ∀ k ∈ F, k ∉ S) (hS : ∀ k ∈ S, w0.heap.size ≤ k) : Pair w0 w' n b r F K :=
  ⟨h.nty.only ho h1 h2, h.rty.only ho h3, h.nF, h.bF, h.n0, h.b0, ho.below h.bel h.bel.size hS⟩
theorem Pair.below (h : Pair w0 w n b r F K) (hb : Below w.heap.size w w') : Pair w0 w' n b r F K := h.only (Only.of_below (S := []) hb) (by simp) (by simp) (by simp) (by simp)
theorem Pair.drewN (h : Pair w0 w n b r F K) (j : Nat) : Pair w0 (w.drewN j) n b r F K := h.only (S := []) ((Only.refl _ _).drewN j) (by simp) (by simp) (by simp) (by simp)
theorem Pair.lt (h : Pair w0 w n b r F K) : ∀ k ∈ b :: F, w0.heap.size ≤ k ∧ k < w.heap.size := fun k hk => by
  rcases List.mem_cons.1 hk with rfl | hk
  · exact ⟨h.b0, h.nty.map.lt⟩
  · exact ⟨(h.rty.lt k hk).1, (h.rty.lt k hk).2.1⟩
/-- The document's one has turned. -/
theorem Pair.turn (h1 : Nty w' n b K') (h2 : Rty w0 w' r F' K') (h : Pair w0 w n b r F K) (hF : ∀ x ∈ F', x ∈ F ∨ w.heap.size ≤ x) (hb : Below w0.heap.size w0 w') : Pair w0 w' n b r F' K' := by
  have e1 := h.nty.obj.lt
  have e2 := h.nty.map.lt
  refine ⟨h1, h2, fun hm => ?_, fun hm => ?_, h.n0, h.b0, hb⟩
  · rcases hF n hm with e | e
    · exact h.nF e
    · omega
  · rcases hF b hm with e | e
    · exact h.bF e
    · omega
end

/-- Both at their beginning. -/
theorem pair_new {w0 w : World} {n b : Nat} (h : Nty w n b []) (hb : Below w0.heap.size w0 w) (h1 : w0.heap.size ≤ n) (h2 : w0.heap.size ≤ b) :
    Pair w0 (w.alloc (.cells #[.slice none 0 0, .slice none 0 0] 30)) n b w.heap.size [w.heap.size] [] := by
  have e1 := h.obj.lt
  have e2 := h.map.lt
  have hw : Below w.heap.size w (w.alloc (.cells #[.slice none 0 0, .slice none 0 0] 30)) := (Below.refl _ _).alloc (Nat.le_refl _) _
  exact ⟨h.below hw, ⟨⟨none, 0, none, 0, Blk.new _ _ _, ⟨rfl, .inl ⟨rfl, rfl⟩⟩, ⟨rfl, .inl ⟨rfl, rfl⟩⟩, rfl⟩, hb.size⟩, by simp; omega, by simp; omega, h1, h2, hb.alloc hb.size _⟩

set_option maxRecDepth 100000 in
set_option maxHeartbeats 6400000 in
theorem play_c (w0 w : World) (n b r : Nat) (F : List Nat) (K : List (Int × List Int)) (a : Option Addr) (len c : Nat) (g : Nat → Nat → Int) (R : Nat → Byt) (P : Pair w0 w n b r F K) (hr : ActsB w0 a len 3 g R) (hm : len ≤ maxLen) (hK : K.length ≤ 1000000) :
    Calls Try.prog 16 #[.pointer (some ⟨n, 0, none⟩), .pointer (some ⟨r, 0, none⟩), .slice a len c] w fun e w' => e = .returned (.bool true) ∧ ∃ F' K', Pair w0 w' n b r F' K' ∧ K'.length ≤ K.length + 80 ∧ Only (b :: F) w w' ∧ ∀ x ∈ F', x ∈ F ∨ w.heap.size ≤ x := by
  unfold maxLen at hm
  have hR := Lib.hid hr
  have P0 := Lib.hid P
  clear hr P
  go_enter Try.func16, Try.ntmps16
  go_wp2_with fail
  go_loopw [7] (fun i wr => ∃ k : Nat, k ≤ len ∧ k ≤ 80 ∧ i = .int .i64 k ∧ ∃ F1 K1, Pair w0 wr n b r F1 K1 ∧ K1.length ≤ K.length + k ∧ Only (b :: F) w wr ∧ ∀ x ∈ F1, x ∈ F ∨ w.heap.size ≤ x) (fun i _ => len - (intOf i).toNat)
  case atStart => exact ⟨0, by omega, by omega, rfl, F, K, P0.out, by omega, Only.refl _ _, fun x hx => .inl hx⟩
  case round =>
    obtain ⟨k, hkn, hk80, rfl, F1, K1, hP, hK1, hO, hF1⟩ := hrel
    rcases (show (k < len ∧ k < 80) ∨ (¬ k < len) ∨ (k < len ∧ ¬ k < 80) by omega) with ⟨hlt, h80⟩ | hlt | ⟨hlt, h80⟩
    · obtain ⟨bb, off, rfl, hbl, hcell⟩ := hR.out.row (by omega)
      obtain ⟨hc, hc3, hci⟩ := hcell k hlt
      obtain ⟨d, hd⟩ : ∃ d, d = g k 0 := ⟨_, rfl⟩
      obtain ⟨p1, hp1⟩ : ∃ p1, p1 = g k 1 := ⟨_, rfl⟩
      obtain ⟨kk, hkk⟩ : ∃ kk, kk = g k 2 := ⟨_, rfl⟩
      have hbel := hP.bel
      have c0 : wr.cell? ⟨bb, off + k * 4, none⟩ = some (.int .i64 d) := (hbel.cell (p := ⟨bb, off + k * 4, none⟩) hbl).trans (by rw [hd]; exact hc 0 (by omega))
      have c1 : wr.cell? ⟨bb, off + k * 4 + 1, none⟩ = some (.int .i64 p1) := (hbel.cell (p := ⟨bb, off + k * 4 + 1, none⟩) hbl).trans (by rw [hp1]; exact hc 1 (by omega))
      have c2 : wr.cell? ⟨bb, off + k * 4 + 2, none⟩ = some (.int .i64 kk) := (hbel.cell (p := ⟨bb, off + k * 4 + 2, none⟩) hbl).trans (by rw [hkk]; exact hc 2 (by omega))
      have c3 : wr.cell? ⟨bb, off + k * 4 + 3, none⟩ = some (.slice (R k).a (R k).xs.length (R k).c) := (hbel.cell (p := ⟨bb, off + k * 4 + 3, none⟩) hbl).trans hc3
      have D64 : Hid (I64 d) := by rw [hd]; exact Lib.hid (hR.out.int _ _)
      have P64 : Hid (I64 p1) := by rw [hp1]; exact Lib.hid (hR.out.int _ _)
      have K64 : Hid (I64 kk) := by rw [hkk]; exact Lib.hid (hR.out.int _ _)
      have RI := Lib.hid hci
      obtain ⟨Rk, hRk⟩ : ∃ Rk, Rk = R k := ⟨_, rfl⟩
      rw [← hRk] at c3 RI
      have i0 : (0 : Int) ≤ k := by omega
      have i1 : (k : Int) < len := by omega
      have i80 : (k : Int) < 80 := by omega
      have PP := Lib.hid hP
      have OO := Lib.hid hO
      have FF := Lib.hid hF1
      have KK := Lib.hid hK1
      clear hP hO hF1 hcell hc hc3 hci hbel hd hp1 hkk hRk hK1
      go_upto_region 5 with fail
      obtain ⟨w2, hw2⟩ : ∃ w2, w2 = wr.alloc (.cells #[.int .i64 d, .int .i64 p1, .int .i64 kk, .slice Rk.a Rk.xs.length Rk.c] 36) := ⟨_, rfl⟩
      obtain ⟨ga, hga⟩ : ∃ ga, ga = wr.heap.size := ⟨_, rfl⟩
      rw [← hw2, ← hga]
      have hA : Blk w2 ga 36 #[.int .i64 d, .int .i64 p1, .int .i64 kk, .slice Rk.a Rk.xs.length Rk.c] := by rw [hw2, hga]; exact Blk.new _ _ _
      have hb2 : Below wr.heap.size wr w2 := by rw [hw2]; exact (Below.refl _ _).alloc (Nat.le_refl _) _
      have a0 := (hA.cell 0).trans (show _ = some (.int .i64 d) from rfl)
      have a1 := (hA.cell 1).trans (show _ = some (.int .i64 p1) from rfl)
      have a2 := (hA.cell 2).trans (show _ = some (.int .i64 kk) from rfl)
      have a3 := (hA.cell 3).trans (show _ = some (.slice Rk.a Rk.xs.length Rk.c) from rfl)
      have A2 := Lib.hid hA
      have B2 := Lib.hid hb2
      have HGA := Lib.hid hga
      clear hw2 hb2 hA hga c0 c1 c2 c3
      obtain ⟨bs, hbs⟩ : ∃ bs, bs = Rk.xs.take 60 := ⟨_, rfl⟩
      have hb60 : bs.length ≤ 60 := by rw [hbs]; simp; omega
      have hblen : bs.length = min 60 Rk.xs.length := by rw [hbs]; simp
      have HBL := Lib.hid hblen
      have HVR : Hid (VRow w0 Rk.a bs.length 1 (brow bs)) := Lib.hid (by
        have := RI.out.row.take (k := bs.length) (by rw [hblen]; exact Nat.min_le_right _ _)
        have e : (Rk.xs.map (Value.int .u8)).take (bs.length * 1) = brow bs := by
          rw [Nat.mul_one, ← List.map_take, brow]
          congr 1
          rw [hblen, hbs]
          rcases Nat.le_total 60 Rk.xs.length with h | h
          · rw [Nat.min_eq_left h]
          · rw [Nat.min_eq_right h, List.take_of_length_le (Nat.le_refl _), List.take_of_length_le h]
        rwa [e] at this)
      have OK : Hid (OkE (p1, bs)) := Lib.hid ⟨P64.out, fun x hx => RI.out.byte x (by rw [hbs] at hx; exact List.mem_of_mem_take hx), Nat.le_trans hb60 (by unfold maxLen; omega)⟩
      have hcapR := RI.out.cap
      have hcapM := RI.out.max
      have HS60 := Lib.hid (to_any (P := Try.prog) 33 5 1 Try.underlying33 (by kernel_rfl) size_u8)
      clear hbs hblen
      go_upto_if 33 with fail
      go_cut [] from 34 to 37 (fun wx => ∃ c', bs.length ≤ c' ∧ c' ≤ maxLen ∧ wx.cell? ⟨ga, 0, none⟩ = some (.int .i64 d) ∧ wx.cell? ⟨ga, 1, none⟩ = some (.int .i64 p1) ∧ wx.cell? ⟨ga, 2, none⟩ = some (.int .i64 kk) ∧ wx.cell? ⟨ga, 3, none⟩ = some (.slice Rk.a bs.length c') ∧ Below wr.heap.size wr wx)
      case first =>
        by_cases h5 : 60 < Rk.xs.length
        · have bl : bs.length = 60 := by have hblen := HBL.out; omega
          have BL := Lib.hid bl
          clear bl
          have s60 : ∀ w : World, (Instr.slice 33 (.slice Rk.a Rk.xs.length Rk.c) none (some (.int .i64 60)) none).run Try.prog w = .ok (.slice Rk.a 60 Rk.c) w := fun w => HS60.out Rk.a Rk.xs.length Rk.c 60 (by omega) hcapR w
          have f3 := A2.out.frozen 3
          have i5 : (60 : Int) < Rk.xs.length := by omega
          have gw : wr.heap.size ≤ ga := Nat.le_of_eq HGA.out.symm
          go_wp2_with fail
          go_meet
          have ka := A2.out.set_ 3 (.slice Rk.a 60 Rk.c)
          rw [BL.out]
          exact ⟨Rk.c, by omega, hcapM, ka.cell 0, ka.cell 1, ka.cell 2, ka.cell 3, ((Only.refl [ga] w2).setCell (.inl (by simp)) _).below B2.out B2.out.size (by simpa using gw)⟩
        · have bl : bs.length = Rk.xs.length := by have hblen := HBL.out; omega
          have BL := Lib.hid bl
          clear bl
          have i5 : ¬ (60 : Int) < Rk.xs.length := by omega
          go_wp2_with fail
          go_meet
          rw [BL.out]
          exact ⟨Rk.c, hcapR, hcapM, a0, a1, a2, a3, B2.out⟩
      case rest =>
        obtain ⟨c', hc1, hc2, b0, b1, b2, b3, hb3⟩ := hcut
        obtain ⟨w3, hw3⟩ : ∃ w3, w3 = wc := ⟨_, rfl⟩
        rw [← hw3] at b0 b1 b2 b3 hb3 ⊢
        have B3 := Lib.hid hb3
        have W03 := Lib.hid (PP.out.bel.trans (hb3.mono PP.out.bel.size))
        clear hw3 hb3 a0 a1 a2 a3 A2 B2
        go_upto_region 8 with (refine (copy_u8 Rk.a bs.length c' bs _ (HVR.out.below W03.out) (by omega)).mono ?_; rintro e w4 ⟨a5, c5, rfl, h5, hb4⟩)
        have B4 := Lib.hid hb4
        have OWN4 := Lib.hid h5
        have a0 := kept hb4 _ _ b0
        have a1 := kept hb4 _ _ b1
        have a2 := kept hb4 _ _ b2
        have a3 := kept hb4 _ _ b3
        have P4 := Lib.hid ((PP.out.below B3.out).below hb4)
        have B34 := Lib.hid (B3.out.trans (hb4.mono B3.out.size))
        have O4 := Lib.hid (OO.out.trans (Only.of_below (S := b :: F) B34.out))
        have HVC : Hid (VRow w4 Rk.a bs.length 1 (brow bs)) := Lib.hid (HVR.out.below P4.out.bel)
        have HV5 := Lib.hid (own_vrow h5)
        clear b0 b1 b2 b3 hb4 h5
        obtain ⟨m, hml⟩ : ∃ m, m = bs.length := ⟨_, rfl⟩
        rw [← hml] at a3 HVC HV5 OWN4 hb60 ⊢
        have HML := Lib.hid hml
        clear hml
        have gab : ∀ x ∈ b :: F1, x ≠ ga := fun x hx e => by have h1 := (PP.out.lt x hx).2; have h2 := HGA.out; omega
        have GAB := Lib.hid gab
        clear gab
        go_wp2_with fail
        refine (within_q d 4 _ D64.out (by omega) (by omega)).mono ?_; rintro e w' ⟨x, rfl, hx5, hx0, hx4, rfl⟩
        clear hx5
        rcases (show x = 0 ∨ x = 1 ∨ x = 2 ∨ x = 3 by omega) with rfl | rfl | rfl | rfl
        rotate_left 2
        · obtain ⟨res, hres⟩ : ∃ res, (decide ((p1, bs) ∈ K1) && decide (num K1 (p1, bs) = kk)) = res := ⟨_, rfl⟩
          have HRES := Lib.hid hres
          clear hres hx0 hx4
          go_upto_region 22 with fail
          go_quiet (first
            | (go_at_call 19; exact Calls.quiet_of (ncheck_c n b K1 p1 a5 m c5 bs kk _ (P4.out.nty.drewN _) (HV5.out.below (below_drewN (Below.refl _ _) _)) OK.out res HRES.out))
            | (go_at_call 50; exact Calls.quiet_of (rcheck_c w0 r F1 K1 p1 Rk.a m c' bs kk _ (P4.out.rty.drewN _) P4.out.nty.map.ok P4.out.nty.map.nd (HVC.out.below (below_drewN (Below.refl _ _) _)) OK.out (by have := KK.out; omega) res HRES.out K64.out)))
          have P5 := Lib.hid (P4.out.drewN nq)
          have O5 := Lib.hid (O4.out.drewN nq)
          obtain ⟨w5, hw5⟩ : ∃ w5, w5 = w4.drewN nq := ⟨_, rfl⟩
          rw [← hw5] at P5 O5 ⊢
          clear hw5 a0 a1 a2 a3
          obtain ⟨A, C, A', C', e0, e1, _, _⟩ := P5.out.rty.rows
          clear e1
          go_upto_region 23 with fail
          go_quiet ((go_at_call 20; exact Calls.quiet_of_same ((nlen_c n b K1 _ (P5.out.nty.drewN _) _ rfl).mono fun _ _ e => ⟨e.1, e.2.symm⟩)))
          go_wp2_with fail
          go_roundw
          case rel => exact ⟨k + 1, by omega, by omega, by go_num, F1, K1, P5.out.drewN _, by have := KK.out; omega, O5.out.drewN _, FF.out⟩
          case measure => simp [intOf]; omega
        · obtain ⟨x, hx⟩ : ∃ x, num K1 (p1, bs) = x := ⟨_, rfl⟩
          obtain ⟨is, his⟩ : ∃ is, decide ((p1, bs) ∈ K1) = is := ⟨_, rfl⟩
          have HX := Lib.hid hx
          have HI := Lib.hid his
          clear hx his hx0 hx4
          go_upto_region 10 with fail
          go_wp2_with fail
          refine (nfind_c n b K1 p1 a5 m c5 bs _ P4.out.nty HV5.out OK.out x HX.out is HI.out).mono ?_; rintro e w5 ⟨rfl, j5, hj5⟩
          have P5 := Lib.hid (show Pair w0 w5 n b r F1 K1 by rw [hj5]; exact P4.out.drewN j5)
          have O5 := Lib.hid (show Only (b :: F) w w5 by rw [hj5]; exact O4.out.drewN j5)
          have a1' : w5.cell? ⟨ga, 1, none⟩ = some (.int .i64 p1) := by rw [hj5]; exact a1
          have a3' : w5.cell? ⟨ga, 3, none⟩ = some (.slice Rk.a m c') := by rw [hj5]; exact a3
          have HV6 := Lib.hid (show VRow w5 Rk.a m 1 (brow bs) by rw [hj5]; exact HVC.out.below (below_drewN (Below.refl _ _) j5))
          clear hj5 a0 a1 a2 a3
          go_wp2_with fail
          refine (rfind_c w0 r F1 K1 p1 Rk.a m c' bs _ P5.out.rty P5.out.nty.map.ok HV6.out OK.out (by have := KK.out; omega) x HX.out is HI.out).mono ?_; rintro e w6 ⟨rfl, rfl⟩
          obtain ⟨A, C, A', C', e0, e1, _, _⟩ := P5.out.rty.rows
          clear e1 a1' a3'
          go_upto_region 23 with fail
          go_quiet ((go_at_call 20; exact Calls.quiet_of_same ((nlen_c n b K1 _ (P5.out.nty.drewN _) _ rfl).mono fun _ _ e => ⟨e.1, e.2.symm⟩)))
          go_wp2_with fail
          go_roundw
          case rel => exact ⟨k + 1, by omega, by omega, by go_num, F1, K1, P5.out.drewN _, by have := KK.out; omega, O5.out.drewN _, FF.out⟩
          case measure => simp [intOf]; omega
        all_goals
          clear hx0 hx4
          have KS : ∀ w', Only (b :: F1) w4 w' → w'.cell? ⟨ga, 1, none⟩ = some (.int .i64 p1) ∧ w'.cell? ⟨ga, 3, none⟩ = some (.slice Rk.a m c') ∧ Only (b :: F1) w4 w' := fun w' o => ⟨o.cell_ a1 (fun h => GAB.out _ h rfl), o.cell_ a3 (fun h => GAB.out _ h rfl), o⟩
          obtain ⟨x, hx⟩ : ∃ x, num (sealed K1 (p1, bs)) (p1, bs) = x := ⟨_, rfl⟩
          obtain ⟨K2, hK2⟩ : ∃ K2, sealed K1 (p1, bs) = K2 := ⟨_, rfl⟩
          have HX := Lib.hid hx
          have HK2 := Lib.hid hK2
          have HL2 : Hid (K2.length ≤ K1.length + 1) := by rw [← hK2]; exact Lib.hid (len_sealed _ _)
          have bF1 : Hid (b ∉ F1) := Lib.hid P4.out.bF
          clear hx hK2
          go_upto_region 15 with fail
          go_cut [10] from 72 to 83 (fun v wx => v = .bool true ∧ ∃ F2, Pair w0 wx n b r F2 K2 ∧ Only (b :: F1) w4 wx ∧ ∀ x ∈ F2, x ∈ F1 ∨ w4.heap.size ≤ x)
          case first =>
            refine wp_region_plan (fun w' => w'.cell? ⟨ga, 1, none⟩ = some (.int .i64 p1) ∧ w'.cell? ⟨ga, 3, none⟩ = some (.slice Rk.a m c') ∧ Only (b :: F1) w4 w') 13 (.take 0 (.take 1 (.take 2 (.take 3 (.take 5 (.take 6 (.take 7 (.take 8 (.take 9 (.one 4 (.one 10 (.take 11 (.take 12 .done))))))))))))) (by kernel_rfl) (by kernel_rfl) (by kernel_rfl) (KS _ (Only.refl _ _).drew) ?_
            intro hS0
            repeat (refine' wpPlan_take rfl (by rfl) (by assumption) ?_ ?_; rotate_left; (· (intro w hSw; (try dsimp only at hSw); go_simp; try with_reducible rfl)); try simp only [Act.put, List.setIfInBounds_toArray, List.set_cons_zero, List.set_cons_succ])
            refine wpPlan_one rfl (fun KT hKT => ?_)
            go_simp
            refine (nseal_c n b K1 p1 a5 m c5 bs _ (P4.out.nty.drewN 1) (HV5.out.below (below_drewN (Below.refl _ _) 1)) OK.out (by have := KK.out; omega) x HX.out K2 HK2.out).mono ?_
            rintro e w5 ⟨rfl, hN5, ho5⟩
            have o5 : Only (b :: F1) w4 w5 := ((Only.refl _ _).drewN 1).trans (ho5.mono (by simp))
            have r5 := (P4.out.rty.drewN 1).only ho5 (fun k hk e => bF1.out (by simp at e; rw [← e]; exact hk))
            have l5 := ho5.below (P4.out.drewN 1).bel (P4.out.drewN 1).bel.size (by simp; exact P4.out.b0)
            refine hKT.out _ _ (KS _ o5) (fun _ => ?_); clear hKT KT; try simp only [Act.put, List.setIfInBounds_toArray, List.set_cons_zero, List.set_cons_succ]
            repeat (refine' wpPlan_take rfl (by rfl) (by assumption) ?_ ?_; rotate_left; (· (intro w hSw; (try dsimp only at hSw); go_simp; try with_reducible rfl)); try simp only [Act.put, List.setIfInBounds_toArray, List.set_cons_zero, List.set_cons_succ])
            refine wpPlan_one rfl (fun KT hKT => ?_)
            go_simp
            refine (rseal_c w0 r F1 K1 p1 Rk.a m c' bs _ r5 l5 P4.out.nty.map.ok (by rw [HML.out]; exact HVR.out) OK.out (by have := KK.out; omega) x HX.out K2 HK2.out).mono ?_
            rintro e w6 ⟨rfl, F2, hR6, hb6, ho6, hF6⟩
            have o6 : Only (b :: F1) w4 w6 := o5.trans (ho6.mono (fun x hx => .inl (List.mem_cons_of_mem _ hx)))
            have n6 := hN5.only ho6 P4.out.nF P4.out.bF
            have hF7 : ∀ x ∈ F2, x ∈ F1 ∨ w4.heap.size ≤ x := fun x hx => (hF6 x hx).imp id (Nat.le_trans o5.size)
            refine hKT.out _ _ (KS _ o6) (fun _ => ?_); clear hKT KT; try simp only [Act.put, List.setIfInBounds_toArray, List.set_cons_zero, List.set_cons_succ]
            repeat (refine' wpPlan_take rfl (by rfl) (by assumption) ?_ ?_; rotate_left; (· (intro w hSw; (try dsimp only at hSw); go_simp; try with_reducible rfl)); try simp only [Act.put, List.setIfInBounds_toArray, List.set_cons_zero, List.set_cons_succ])
            refine wpPlan_done ?_
            go_wp2_with fail
            go_meet
            exact ⟨by simp, F2, P4.out.turn n6 hR6 hF7 hb6, o6, hF7⟩
          case rest =>
            obtain ⟨rfl, F2, hP7, hO7, hF7⟩ := hcut
            obtain ⟨w7, hw7⟩ : ∃ w7, w7 = wc := ⟨_, rfl⟩
            rw [← hw7] at hP7 hO7 ⊢
            have P7 := Lib.hid hP7
            have O7 := Lib.hid hO7
            have F7 := Lib.hid hF7
            have kq : ∀ q, a5.map (·.block) = some q → w3.heap.size ≤ q ∧ q < w4.heap.size := fun q hq => World.ownsRow.lt OWN4.out q (by rw [own_block_eq, hq])
            have OWN7 := Lib.hid (own_only OWN4.out hO7 (fun q hq e => by
              have h1 := (PP.out.lt q e).2
              have h2 := (World.ownsRow.lt OWN4.out q hq).1
              have h3 := B3.out.size
              omega))
            have KQ := Lib.hid kq
            clear hw7 hP7 hO7 hF7 kq KS a0 a1 a2 a3
            go_wp2_with fail
            go_loopw [86] (fun i wz => ∃ j : Nat, j ≤ m ∧ i = .int .i64 j ∧ Only (a5.map (·.block)).toList w7 wz ∧ ∃ us : List Int, wz.ownsRow w3.heap.size 5 1 (.slice a5 m c5) m (brow us)) (fun i _ => m - (intOf i).toNat)
            case atStart => exact ⟨0, by omega, rfl, Only.refl _ _, bs, OWN7.out⟩
            case round =>
              obtain ⟨j, hj, rfl, hb, us, ho⟩ := hrel
              by_cases hlt : j < m
              · have hul : us.length = m := by have := ho.1; simpa [brow] using this
                obtain ⟨gb, rfl⟩ : ∃ gb, a5 = some ⟨gb, 0, none⟩ := by
                  rcases own_addr ho with ⟨_, h0, _⟩ | h0
                  · omega
                  · exact h0
                have q1 : wr.cell? ⟨gb, j, none⟩ = some (.int .u8 (us[j]'(by omega))) := by
                  rw [World.ownsRow.cellAt ho j (by omega)]
                  simp [brow, hul, hlt]
                have q2 : wr.frozen? ⟨gb, j, none⟩ = false := World.ownsRow.frozenAt ho j
                obtain ⟨y, hy⟩ : ∃ y, y = us[j]'(by omega) := ⟨_, rfl⟩
                rw [← hy] at q1
                clear hy
                have i7 : (0 : Int) ≤ j := by omega
                have i8 : (j : Int) < m := by omega
                have OX := Lib.hid ho
                have HB := Lib.hid hb
                clear ho hb
                go_wp2_with fail
                go_roundw
                case rel => exact ⟨j + 1, by omega, by go_num, HB.out.setCell (.inl (by simp)) _, us.set j ((y + 1) % 256), by
                  have := (World.ownsRow.stored OX.out j (.int .u8 ((y + 1) % 256))).1
                  rw [brow, ← List.map_set] at this
                  exact this⟩
                case measure => simp [intOf]; omega
              · clear OWN7
                have hpt : ∀ q, q ∈ (a5.map (·.block)).toList → w3.heap.size ≤ q ∧ q < w4.heap.size := fun q hq => KQ.out q (Option.mem_toList.1 hq)
                have s3 := B3.out.size
                have hw0 := PP.out.bel.size
                have n1 := PP.out.nty.obj.lt
                have n2 := PP.out.nty.map.lt
                have P9 := Lib.hid (P7.out.only hb (fun h => by have := hpt _ h; omega) (fun h => by have := hpt _ h; omega) (fun q hq h => by
                  have h1 := hpt _ h
                  rcases F7.out q hq with e | e
                  · have := (PP.out.lt q (List.mem_cons_of_mem _ e)).2
                    omega
                  · omega) (fun q h => by have := hpt _ h; omega))
                have O9 := Lib.hid (((O4.out.then O7.out (fun q hq => by
                  rcases List.mem_cons.1 hq with e | e
                  · exact .inl (by rw [e]; simp)
                  · rcases FF.out q e with e | e
                    · exact .inl (List.mem_cons_of_mem _ e)
                    · exact .inr e)).then hb (fun q h => .inr (by have := hpt _ h; have := OO.out.size; omega)) : Only (b :: F) w wr))
                have F9 : Hid (∀ x ∈ F2, x ∈ F ∨ w.heap.size ≤ x) := Lib.hid fun x hx => by
                  rcases F7.out x hx with e | e
                  · exact FF.out x e
                  · exact .inr (Nat.le_trans O4.out.size e)
                clear hb hpt s3 hw0 n1 n2
                obtain ⟨A, C, A', C', e0, e1, _, _⟩ := P9.out.rty.rows
                clear e1
                go_upto_region 23 with fail
                go_quiet ((go_at_call 20; exact Calls.quiet_of_same ((nlen_c n b K2 _ (P9.out.nty.drewN _) _ rfl).mono fun _ _ e => ⟨e.1, e.2.symm⟩)))
                go_wp2_with fail
                go_roundw
                case rel => exact ⟨k + 1, by omega, by omega, by go_num, F2, K2, P9.out.drewN _, by have := KK.out; have := HL2.out; omega, O9.out.drewN _, F9.out⟩
                case measure => simp [intOf]; omega
    all_goals
      go_wp2_with fail
      go_ret
      exact ⟨rfl, F1, K1, hP, by omega, hO, hF1⟩
end Go.Proofs.Ytjdcjofogmplcaa
