/- PlD0. -/
import Derived.Test.YtfhlcjfgbhmecaaZDeep
import Derived.Test.YtfhlcjfgbhmecaaZPlan
import Derived.Test.YtfhlcjfgbhmecaaZSameB
import Derived.Test.YtfhlcjfgbhmecaaZApp
import Derived.Test.YtfhlcjfgbhmecaaZBytes
import Derived.Deep.CutRange
import Derived.Lib.MinMax
import Derived.Deep.DeepCutAuto
import Derived.Deep.CutBlock
/- The law's act: a message pushed. -/
namespace Go.Proofs.Ytfhlcjfgbhmecaa
open Go.RowKit
set_option linter.unusedVariables false

set_option maxRecDepth 100000 in
set_option maxHeartbeats 6400000 in
theorem do_push (w0 w : World) (gn x : Nat) (room S : Int) (Q : Nat → List (List Int)) (nk : Prop) (d A B K T : Int) (R : Byt) (hJ : J2 w0 w gn x room S S Q Q nk (fun _ => False)) (hr : 1 ≤ room ∧ room ≤ 256) (hd : I64 d) (hA : I64 A) (hB : I64 B) (hK : I64 K) (hT : I64 T) (hRi : R.Is w0) (hS : 0 ≤ S ∧ S ≤ 1000000) (h9 : d % 9 < 5) :
    Calls Try.prog 47 #[.pointer (some ⟨gn, 0, none⟩), .pointer (some ⟨x, 0, none⟩), .agg #[.int .i64 d, .int .i64 A, .int .i64 B, .int .i64 K, .int .i64 T, .slice R.a R.xs.length R.c]] w (fun e w' => e = .returned (.bool true) ∧ ∃ S' Q', S ≤ S' ∧ S' ≤ S + 1 ∧ J2 w0 w' gn x room S' S' Q' Q' nk (fun _ => False)) := by
  obtain ⟨s0, s1⟩ := hS
  have HR := Lib.hid hr
  have HA := Lib.hid hA
  have HB := Lib.hid hB
  have HK := Lib.hid hK
  have HT := Lib.hid hT
  have HRI := Lib.hid hRi
  have H9 := Lib.hid h9
  have HL := Lib.hid (link_or (prt A) (prt B) (prt_mem A) (prt_mem B))
  obtain ⟨src, hsrc⟩ : ∃ s, s = prt A := ⟨_, rfl⟩
  obtain ⟨dst, hdst⟩ : ∃ s, s = prt B := ⟨_, rfl⟩
  have SE : Hid (Sends src) := Lib.hid (by rw [hsrc]; exact sends_of (prt_mem A))
  rw [← hsrc, ← hdst] at HL
  have PA := Lib.hid hsrc
  have PB := Lib.hid hdst
  have HJ := Lib.hid hJ
  clear hr hA hB hK hT hRi h9 hsrc hdst
  go_enter Try.func47, Try.ntmps47
  go_upto_region 1 with fail
  obtain ⟨w1, hw1⟩ : ∃ w1, w1 = w.alloc (.cells #[.int .i64 d, .int .i64 A, .int .i64 B, .int .i64 K, .int .i64 T, .slice R.a R.xs.length R.c] 102) := ⟨_, rfl⟩
  obtain ⟨ga, hga⟩ : ∃ ga, ga = w.heap.size := ⟨_, rfl⟩
  rw [← hw1, ← hga]
  have hA : Blk w1 ga 102 #[.int .i64 d, .int .i64 A, .int .i64 B, .int .i64 K, .int .i64 T, .slice R.a R.xs.length R.c] := by rw [hw1, hga]; exact Blk.new _ _ _
  have hb1 : Below w.heap.size w w1 := by rw [hw1]; exact (Below.refl _ _).alloc (Nat.le_refl _) _
  have a1 := (hA.cell 1).trans (show _ = some (.int .i64 A) from rfl)
  have a2 := (hA.cell 2).trans (show _ = some (.int .i64 B) from rfl)
  have KS : ∀ w', Below w1.heap.size w1 w' → w'.cell? ⟨ga, 1, none⟩ = some (.int .i64 A) ∧ w'.cell? ⟨ga, 2, none⟩ = some (.int .i64 B) := fun w' o => ⟨kept o _ _ a1, kept o _ _ a2⟩
  have J1 := Lib.hid (hJ.keep hb1)
  have BA := Lib.hid hA
  clear hw1 hb1 hA hga hJ HJ a1 a2
  refine wp_region_plan (fun w' => w'.cell? ⟨ga, 1, none⟩ = some (.int .i64 A) ∧ w'.cell? ⟨ga, 2, none⟩ = some (.int .i64 B)) 8 (.take 0 (.take 1 (.take 3 (.take 4 (.one 2 (.one 5 (.take 6 (.take 7 .done)))))))) (by kernel_rfl) (by kernel_rfl) (by kernel_rfl) (KS _ ((Below.refl _ _).drew)) ?_
  intro hS0
  repeat (refine' wpPlan_take rfl (by rfl) (by assumption) ?_ ?_; rotate_left; (· (intro w hSw; (try dsimp only at hSw); go_simp; try with_reducible rfl)); try simp only [Act.put, List.setIfInBounds_toArray, List.set_cons_zero, List.set_cons_succ])
  refine wpPlan_one rfl (fun KT hKT => ?_)
  go_simp
  refine (party_c A HA.out _).mono ?_; rintro e w' ⟨rfl, rfl⟩
  rw [← PA.out]
  refine hKT.out _ _ (hS0) (fun _ => ?_); clear hKT KT; try simp only [Act.put, List.setIfInBounds_toArray, List.set_cons_zero, List.set_cons_succ]
  refine wpPlan_one rfl (fun KT hKT => ?_)
  go_simp
  refine (party_c B HB.out _).mono ?_; rintro e w' ⟨rfl, rfl⟩
  rw [← PB.out]
  refine hKT.out _ _ (hS0) (fun _ => ?_); clear hKT KT; try simp only [Act.put, List.setIfInBounds_toArray, List.set_cons_zero, List.set_cons_succ]
  repeat (refine' wpPlan_take rfl (by rfl) (by assumption) ?_ ?_; rotate_left; (· (intro w hSw; (try dsimp only at hSw); go_simp; try with_reducible rfl)); try simp only [Act.put, List.setIfInBounds_toArray, List.set_cons_zero, List.set_cons_succ])
  refine wpPlan_done ?_
  obtain ⟨w2, hw2⟩ : ∃ w2, w2 = w1.drew := ⟨_, rfl⟩
  rw [← hw2]
  have J2' : Hid (J2 w0 w2 gn x room S S Q Q nk (fun _ => False)) := by rw [hw2]; exact Lib.hid (J1.out.keep ((Below.refl _ _).drew))
  have A2 : Hid (Blk w2 ga 102 #[.int .i64 d, .int .i64 A, .int .i64 B, .int .i64 K, .int .i64 T, .slice R.a R.xs.length R.c]) := by rw [hw2]; exact Lib.hid (BA.out.drewN 1)
  clear hw2 KS hS0 J1 BA
  have a0 := (A2.out.cell 0).trans (show _ = some (.int .i64 d) from rfl)
  have a3 := (A2.out.cell 3).trans (show _ = some (.int .i64 K) from rfl)
  have a4 := (A2.out.cell 4).trans (show _ = some (.int .i64 T) from rfl)
  have a5 := (A2.out.cell 5).trans (show _ = some (.slice R.a R.xs.length R.c) from rfl)
  go_wp2_with fail
  refine (within_q d 9 _ hd (by omega) (by omega)).mono ?_; rintro e w' ⟨xx, rfl, hx5, _, _, rfl⟩
  have k5 : xx < 5 := by rw [hx5.out]; exact H9.out
  clear hx5 a0
  go_upto_block 0 with fail
  go_cut [9] from 11 to 199 (fun v wx => v = .bool true ∧ ∃ S' Q', S ≤ S' ∧ S' ≤ S + 1 ∧ J2 w0 wx gn x room S' S' Q' Q' nk (fun _ => False))
  case first =>
    rcases HL.out with ⟨a, b, ha, hb, hab, hl, he⟩ | ⟨hl, he⟩
    · have LL := Lib.hid hl
      have EE := Lib.hid he
      clear hl he HL
      by_cases hlt : (Q (a * 6 + b)).length < room
      · have HLT := Lib.hid hlt
        clear hlt
        obtain ⟨bs, hbs⟩ : ∃ bs, bs = R.xs.take 30 := ⟨_, rfl⟩
        have hb30 : bs.length ≤ 30 := by rw [hbs]; simp; omega
        have hblen : bs.length = min 30 R.xs.length := by rw [hbs]; simp
        have HBL := Lib.hid hblen
        have hcapR := HRI.out.cap
        have hcapM := HRI.out.max
        have HVR : Hid (VRow w0 R.a bs.length 1 (brow bs)) := Lib.hid (by
          have := HRI.out.row.take (k := bs.length) (by rw [hblen]; exact Nat.min_le_right _ _)
          have e : (R.xs.map (Value.int .u8)).take (bs.length * 1) = brow bs := by
            rw [Nat.mul_one, ← List.map_take, brow]
            congr 1
            rw [hblen, hbs]
            rcases Nat.le_total 30 R.xs.length with h | h
            · rw [Nat.min_eq_left h]
            · rw [Nat.min_eq_right h, List.take_of_length_le (Nat.le_refl _), List.take_of_length_le h]
          rwa [e] at this)
        have MS : Hid (Msg w0 (.slice R.a bs.length R.c, bs)) := Lib.hid ⟨R.a, R.c, rfl, HVR.out, by show bs.length ≤ R.c; omega, hcapM⟩
        have hmn : (min (R.xs.length : Int) 30) = (bs.length : Int) := by omega
        have hs30 : ∀ w : World, (Instr.slice 59 (.slice R.a R.xs.length R.c) none (some (.int .i64 (min (R.xs.length : Int) 30))) none).run Try.prog w = .ok (.slice R.a bs.length R.c) w := fun w => by
          rw [hmn]
          exact to_any (P := Try.prog) 59 5 1 Try.underlying59 (by kernel_rfl) size_u8 R.a R.xs.length R.c bs.length (by omega) hcapR w
        clear hbs hblen hmn
        have W02 := Lib.hid J2'.out.below
        go_wp2_with fail
        refine (copy_by R.a bs.length R.c bs _ (HVR.out.below W02.out) (by omega)).mono ?_; rintro e w4 ⟨a6, c6, rfl, h6, hb4⟩
        have J4 := Lib.hid (((J2'.out.avoid (av' := fun b => w2.heap.size ≤ b) (fun b h => h)).keep hb4).weaken (av' := fun b => w2.heap.size ≤ b ∧ b < w4.heap.size) (fun b h => h.1))
        have A4 := Lib.hid (Blk.below A2.out hb4 (Blk.lt A2.out))
        have O4 := Lib.hid h6
        have sz := hb4.size
        have z02 := J2'.out.below.size
        have G4 := Lib.hid (own_blks h6)
        clear hb4 h6 a3 a4 a5
        have a5 := (A4.out.cell 5).trans (show _ = some (.slice R.a R.xs.length R.c) from rfl)
        have A4d : Hid (Blk w4.drew ga 102 #[.int .i64 d, .int .i64 A, .int .i64 B, .int .i64 K, .int .i64 T, .slice R.a R.xs.length R.c]) := Lib.hid (A4.out.drewN 1)
        have KS : ∀ w', Blk w' ga 102 #[.int .i64 d, .int .i64 A, .int .i64 B, .int .i64 K, .int .i64 T, .slice R.a R.xs.length R.c] → w'.cell? ⟨ga, 5, none⟩ = some (.slice R.a R.xs.length R.c) := fun w' hb => hb.cell 5
        have J4d := Lib.hid (J4.out.keep ((Below.refl _ _).drew))
        have O4d : Hid (w4.drew.ownsRow w2.heap.size 5 1 (.slice a6 bs.length c6) bs.length (brow bs)) := Lib.hid (own_below O4.out ((Below.refl _ _).drew))
        go_upto_region 7 with fail
        refine wp_region_plan (fun w' => w'.cell? ⟨ga, 5, none⟩ = some (.slice R.a R.xs.length R.c)) 20 (.take 0 (.take 1 (.take 2 (.take 3 (.take 4 (.take 6 (.take 7 (.take 8 (.take 9 (.take 10 (.take 11 (.take 12 (.take 13 (.take 14 (.take 15 (.one 5 (.one 16 (.take 17 (.take 18 (.take 19 .done)))))))))))))))))))) (by kernel_rfl) (by kernel_rfl) (by kernel_rfl) (KS _ A4d.out) ?_
        intro hS0
        repeat (refine' wpPlan_take rfl (by rfl) (by assumption) ?_ ?_; rotate_left; (· (intro w hSw; (try dsimp only at hSw); go_simp; try with_reducible rfl)); try simp only [Act.put, List.setIfInBounds_toArray, List.set_cons_zero, List.set_cons_succ])
        refine wpPlan_one rfl (fun KT hKT => ?_)
        go_simp
        refine (j_push_ok J4d.out HR.out src dst a b ha hb hab LL.out a6 bs.length c6 bs (own_vrow O4d.out) (by omega) HLT.out (fun b h => h.2)).mono ?_; rintro e w5 ⟨rfl, hJ5, st5⟩; have J5 := Lib.hid hJ5; have O5 := Lib.hid (st5.row O4d.out (by decide)); have A5 := Lib.hid (st5.blk A4d.out (by decide)); clear hJ5 st5
        refine hKT.out _ _ (KS _ A5.out) (fun _ => ?_); clear hKT KT; try simp only [Act.put, List.setIfInBounds_toArray, List.set_cons_zero, List.set_cons_succ]
        refine wpPlan_one rfl (fun KT hKT => ?_)
        go_simp
        refine (j_inject_ok J5.out HR.out.2 src dst SE.out a b ha hb hab EE.out R.a bs.length R.c bs rfl (by omega) MS.out HLT.out).mono ?_; rintro e w6 ⟨rfl, hJ6, st6⟩; have J6 := Lib.hid hJ6; have O6 := Lib.hid (st6.row O5.out (by decide)); have A6 := Lib.hid (st6.blk A5.out (by decide)); clear hJ6 st6
        refine hKT.out _ _ (KS _ A6.out) (fun _ => ?_); clear hKT KT; try simp only [Act.put, List.setIfInBounds_toArray, List.set_cons_zero, List.set_cons_succ]
        repeat (refine' wpPlan_take rfl (by rfl) (by assumption) ?_ ?_; rotate_left; (· (intro w hSw; (try dsimp only at hSw); go_simp; try with_reducible rfl)); try simp only [Act.put, List.setIfInBounds_toArray, List.set_cons_zero, List.set_cons_succ])
        refine wpPlan_done ?_
        clear a5 hS0 KS
        go_wp2_with fail
        go_loopw [79] (fun i wr => ∃ j : Nat, j ≤ bs.length ∧ i = .int .i64 j ∧ Only (a6.map (·.block)).toList w6 wr ∧ ∃ us : List Int, wr.ownsRow w2.heap.size 5 1 (.slice a6 bs.length c6) bs.length (brow us)) (fun i _ => bs.length - (intOf i).toNat)
        case atStart => exact ⟨0, by omega, rfl, Only.refl _ _, bs, O6.out⟩
        case round =>
          obtain ⟨j, hj, rfl, hb, us, ho⟩ := hrel
          by_cases hlt : j < bs.length
          · have hul : us.length = bs.length := by have := ho.1; simpa [brow] using this
            obtain ⟨gb, rfl⟩ : ∃ gb, a6 = some ⟨gb, 0, none⟩ := by
              rcases own_addr ho with ⟨_, h0, _⟩ | h0
              · omega
              · exact h0
            have q1 : wr.cell? ⟨gb, j, none⟩ = some (.int .u8 (us[j]'(by omega))) := by
              rw [World.ownsRow.cellAt ho j (by omega)]
              simp [brow, hul, hlt]
            have q2 : wr.frozen? ⟨gb, j, none⟩ = false := World.ownsRow.frozenAt ho j
            obtain ⟨y, hy⟩ : ∃ y, y = us[j]'(by omega) := ⟨_, rfl⟩
            rw [← hy] at q1
            clear hy
            have i7 : (0 : Int) ≤ j := by omega
            have i8 : (j : Int) < bs.length := by omega
            have OO := Lib.hid ho
            have HB := Lib.hid hb
            clear ho hb
            go_wp2_with fail
            go_roundw
            case rel => exact ⟨j + 1, by omega, by go_num, HB.out.setCell (.inl (by simp)) _, us.set j ((y + 1) % 256), by
              have := (World.ownsRow.stored OO.out j (.int .u8 ((y + 1) % 256))).1
              rw [brow, ← List.map_set] at this
              exact this⟩
            case measure => simp [intOf]; omega
          · have HB := Lib.hid hb
            clear hb ho
            go_wp2_with fail
            go_meet
            refine ⟨rfl, S, _, by omega, by omega, (J6.out.bytes HB.out (fun k hk => (own_blks O6.out k hk).2) (fun k hk => Nat.le_trans z02 (own_blks O6.out k hk).1) (fun k hk => ⟨(own_blks O6.out k hk).1, ?_⟩)).weaken (av' := fun _ => False) (fun b h => h.elim)⟩
            obtain ⟨cs, hcs⟩ := (G4.out k hk).2
            exact hcs.lt
      · have HFU : Hid (room ≤ (Q (a * 6 + b)).length) := Lib.hid (by omega)
        clear hlt
        obtain ⟨bs, hbs⟩ : ∃ bs, bs = R.xs.take 30 := ⟨_, rfl⟩
        have hb30 : bs.length ≤ 30 := by rw [hbs]; simp; omega
        have hblen : bs.length = min 30 R.xs.length := by rw [hbs]; simp
        have HBL := Lib.hid hblen
        have hcapR := HRI.out.cap
        have hcapM := HRI.out.max
        have HVR : Hid (VRow w0 R.a bs.length 1 (brow bs)) := Lib.hid (by
          have := HRI.out.row.take (k := bs.length) (by rw [hblen]; exact Nat.min_le_right _ _)
          have e : (R.xs.map (Value.int .u8)).take (bs.length * 1) = brow bs := by
            rw [Nat.mul_one, ← List.map_take, brow]
            congr 1
            rw [hblen, hbs]
            rcases Nat.le_total 30 R.xs.length with h | h
            · rw [Nat.min_eq_left h]
            · rw [Nat.min_eq_right h, List.take_of_length_le (Nat.le_refl _), List.take_of_length_le h]
          rwa [e] at this)
        have MS : Hid (Msg w0 (.slice R.a bs.length R.c, bs)) := Lib.hid ⟨R.a, R.c, rfl, HVR.out, by show bs.length ≤ R.c; omega, hcapM⟩
        have hmn : (min (R.xs.length : Int) 30) = (bs.length : Int) := by omega
        have hs30 : ∀ w : World, (Instr.slice 59 (.slice R.a R.xs.length R.c) none (some (.int .i64 (min (R.xs.length : Int) 30))) none).run Try.prog w = .ok (.slice R.a bs.length R.c) w := fun w => by
          rw [hmn]
          exact to_any (P := Try.prog) 59 5 1 Try.underlying59 (by kernel_rfl) size_u8 R.a R.xs.length R.c bs.length (by omega) hcapR w
        clear hbs hblen hmn
        have W02 := Lib.hid J2'.out.below
        go_wp2_with fail
        refine (copy_by R.a bs.length R.c bs _ (HVR.out.below W02.out) (by omega)).mono ?_; rintro e w4 ⟨a6, c6, rfl, h6, hb4⟩
        have J4 := Lib.hid (((J2'.out.avoid (av' := fun b => w2.heap.size ≤ b) (fun b h => h)).keep hb4).weaken (av' := fun b => w2.heap.size ≤ b ∧ b < w4.heap.size) (fun b h => h.1))
        have A4 := Lib.hid (Blk.below A2.out hb4 (Blk.lt A2.out))
        have O4 := Lib.hid h6
        have sz := hb4.size
        have z02 := J2'.out.below.size
        have G4 := Lib.hid (own_blks h6)
        clear hb4 h6 a3 a4 a5
        have a5 := (A4.out.cell 5).trans (show _ = some (.slice R.a R.xs.length R.c) from rfl)
        have A4d : Hid (Blk w4.drew ga 102 #[.int .i64 d, .int .i64 A, .int .i64 B, .int .i64 K, .int .i64 T, .slice R.a R.xs.length R.c]) := Lib.hid (A4.out.drewN 1)
        have KS : ∀ w', Blk w' ga 102 #[.int .i64 d, .int .i64 A, .int .i64 B, .int .i64 K, .int .i64 T, .slice R.a R.xs.length R.c] → w'.cell? ⟨ga, 5, none⟩ = some (.slice R.a R.xs.length R.c) := fun w' hb => hb.cell 5
        have J4d := Lib.hid (J4.out.keep ((Below.refl _ _).drew))
        have O4d : Hid (w4.drew.ownsRow w2.heap.size 5 1 (.slice a6 bs.length c6) bs.length (brow bs)) := Lib.hid (own_below O4.out ((Below.refl _ _).drew))
        go_upto_region 7 with fail
        refine wp_region_plan (fun w' => w'.cell? ⟨ga, 5, none⟩ = some (.slice R.a R.xs.length R.c)) 20 (.take 0 (.take 1 (.take 2 (.take 3 (.take 4 (.take 6 (.take 7 (.take 8 (.take 9 (.take 10 (.take 11 (.take 12 (.take 13 (.take 14 (.take 15 (.one 5 (.one 16 (.take 17 (.take 18 (.take 19 .done)))))))))))))))))))) (by kernel_rfl) (by kernel_rfl) (by kernel_rfl) (KS _ A4d.out) ?_
        intro hS0
        repeat (refine' wpPlan_take rfl (by rfl) (by assumption) ?_ ?_; rotate_left; (· (intro w hSw; (try dsimp only at hSw); go_simp; try with_reducible rfl)); try simp only [Act.put, List.setIfInBounds_toArray, List.set_cons_zero, List.set_cons_succ])
        refine wpPlan_one rfl (fun KT hKT => ?_)
        go_simp
        refine (j_push_full J4d.out HR.out src dst a b ha hb hab LL.out a6 bs.length c6 (by omega) HFU.out (by omega)).mono ?_; rintro e w5 ⟨rfl, hJ5, st5⟩; rw [upq_eta9] at hJ5; have J5 := Lib.hid hJ5; have O5 := Lib.hid (st5.row O4d.out (by decide)); have A5 := Lib.hid (st5.blk A4d.out (by decide)); clear hJ5 st5
        refine hKT.out _ _ (KS _ A5.out) (fun _ => ?_); clear hKT KT; try simp only [Act.put, List.setIfInBounds_toArray, List.set_cons_zero, List.set_cons_succ]
        refine wpPlan_one rfl (fun KT hKT => ?_)
        go_simp
        refine (j_inject_full J5.out src dst SE.out a b ha hb hab EE.out R.a bs.length R.c HFU.out (by omega)).mono ?_; rintro e w6 ⟨rfl, hJ6, st6⟩; have J6 := Lib.hid hJ6; have O6 := Lib.hid (st6.row O5.out (by decide)); have A6 := Lib.hid (st6.blk A5.out (by decide)); clear hJ6 st6
        refine hKT.out _ _ (KS _ A6.out) (fun _ => ?_); clear hKT KT; try simp only [Act.put, List.setIfInBounds_toArray, List.set_cons_zero, List.set_cons_succ]
        repeat (refine' wpPlan_take rfl (by rfl) (by assumption) ?_ ?_; rotate_left; (· (intro w hSw; (try dsimp only at hSw); go_simp; try with_reducible rfl)); try simp only [Act.put, List.setIfInBounds_toArray, List.set_cons_zero, List.set_cons_succ])
        refine wpPlan_done ?_
        clear a5 hS0 KS
        go_wp2_with fail
        go_loopw [79] (fun i wr => ∃ j : Nat, j ≤ bs.length ∧ i = .int .i64 j ∧ Only (a6.map (·.block)).toList w6 wr ∧ ∃ us : List Int, wr.ownsRow w2.heap.size 5 1 (.slice a6 bs.length c6) bs.length (brow us)) (fun i _ => bs.length - (intOf i).toNat)
        case atStart => exact ⟨0, by omega, rfl, Only.refl _ _, bs, O6.out⟩
        case round =>
          obtain ⟨j, hj, rfl, hb, us, ho⟩ := hrel
          by_cases hlt : j < bs.length
          · have hul : us.length = bs.length := by have := ho.1; simpa [brow] using this
            obtain ⟨gb, rfl⟩ : ∃ gb, a6 = some ⟨gb, 0, none⟩ := by
              rcases own_addr ho with ⟨_, h0, _⟩ | h0
              · omega
              · exact h0
            have q1 : wr.cell? ⟨gb, j, none⟩ = some (.int .u8 (us[j]'(by omega))) := by
              rw [World.ownsRow.cellAt ho j (by omega)]
              simp [brow, hul, hlt]
            have q2 : wr.frozen? ⟨gb, j, none⟩ = false := World.ownsRow.frozenAt ho j
            obtain ⟨y, hy⟩ : ∃ y, y = us[j]'(by omega) := ⟨_, rfl⟩
            rw [← hy] at q1
            clear hy
            have i7 : (0 : Int) ≤ j := by omega
            have i8 : (j : Int) < bs.length := by omega
            have OO := Lib.hid ho
            have HB := Lib.hid hb
            clear ho hb
            go_wp2_with fail
            go_roundw
            case rel => exact ⟨j + 1, by omega, by go_num, HB.out.setCell (.inl (by simp)) _, us.set j ((y + 1) % 256), by
              have := (World.ownsRow.stored OO.out j (.int .u8 ((y + 1) % 256))).1
              rw [brow, ← List.map_set] at this
              exact this⟩
            case measure => simp [intOf]; omega
          · have HB := Lib.hid hb
            clear hb ho
            go_wp2_with fail
            go_meet
            refine ⟨rfl, S + 1, _, by omega, by omega, (J6.out.bytes HB.out (fun k hk => (own_blks O6.out k hk).2) (fun k hk => Nat.le_trans z02 (own_blks O6.out k hk).1) (fun k hk => ⟨(own_blks O6.out k hk).1, ?_⟩)).weaken (av' := fun _ => False) (fun b h => h.elim)⟩
            obtain ⟨cs, hcs⟩ := (G4.out k hk).2
            exact hcs.lt
    · have LL := Lib.hid hl
      have EE := Lib.hid he
      clear hl he HL
      obtain ⟨bs, hbs⟩ : ∃ bs, bs = R.xs.take 30 := ⟨_, rfl⟩
      have hb30 : bs.length ≤ 30 := by rw [hbs]; simp; omega
      have hblen : bs.length = min 30 R.xs.length := by rw [hbs]; simp
      have HBL := Lib.hid hblen
      have hcapR := HRI.out.cap
      have hcapM := HRI.out.max
      have HVR : Hid (VRow w0 R.a bs.length 1 (brow bs)) := Lib.hid (by
        have := HRI.out.row.take (k := bs.length) (by rw [hblen]; exact Nat.min_le_right _ _)
        have e : (R.xs.map (Value.int .u8)).take (bs.length * 1) = brow bs := by
          rw [Nat.mul_one, ← List.map_take, brow]
          congr 1
          rw [hblen, hbs]
          rcases Nat.le_total 30 R.xs.length with h | h
          · rw [Nat.min_eq_left h]
          · rw [Nat.min_eq_right h, List.take_of_length_le (Nat.le_refl _), List.take_of_length_le h]
        rwa [e] at this)
      have MS : Hid (Msg w0 (.slice R.a bs.length R.c, bs)) := Lib.hid ⟨R.a, R.c, rfl, HVR.out, by show bs.length ≤ R.c; omega, hcapM⟩
      have hmn : (min (R.xs.length : Int) 30) = (bs.length : Int) := by omega
      have hs30 : ∀ w : World, (Instr.slice 59 (.slice R.a R.xs.length R.c) none (some (.int .i64 (min (R.xs.length : Int) 30))) none).run Try.prog w = .ok (.slice R.a bs.length R.c) w := fun w => by
        rw [hmn]
        exact to_any (P := Try.prog) 59 5 1 Try.underlying59 (by kernel_rfl) size_u8 R.a R.xs.length R.c bs.length (by omega) hcapR w
      clear hbs hblen hmn
      have W02 := Lib.hid J2'.out.below
      go_wp2_with fail
      refine (copy_by R.a bs.length R.c bs _ (HVR.out.below W02.out) (by omega)).mono ?_; rintro e w4 ⟨a6, c6, rfl, h6, hb4⟩
      have J4 := Lib.hid (((J2'.out.avoid (av' := fun b => w2.heap.size ≤ b) (fun b h => h)).keep hb4).weaken (av' := fun b => w2.heap.size ≤ b ∧ b < w4.heap.size) (fun b h => h.1))
      have A4 := Lib.hid (Blk.below A2.out hb4 (Blk.lt A2.out))
      have O4 := Lib.hid h6
      have sz := hb4.size
      have z02 := J2'.out.below.size
      have G4 := Lib.hid (own_blks h6)
      clear hb4 h6 a3 a4 a5
      have a5 := (A4.out.cell 5).trans (show _ = some (.slice R.a R.xs.length R.c) from rfl)
      have A4d : Hid (Blk w4.drew ga 102 #[.int .i64 d, .int .i64 A, .int .i64 B, .int .i64 K, .int .i64 T, .slice R.a R.xs.length R.c]) := Lib.hid (A4.out.drewN 1)
      have KS : ∀ w', Blk w' ga 102 #[.int .i64 d, .int .i64 A, .int .i64 B, .int .i64 K, .int .i64 T, .slice R.a R.xs.length R.c] → w'.cell? ⟨ga, 5, none⟩ = some (.slice R.a R.xs.length R.c) := fun w' hb => hb.cell 5
      have J4d := Lib.hid (J4.out.keep ((Below.refl _ _).drew))
      have O4d : Hid (w4.drew.ownsRow w2.heap.size 5 1 (.slice a6 bs.length c6) bs.length (brow bs)) := Lib.hid (own_below O4.out ((Below.refl _ _).drew))
      go_upto_region 7 with fail
      refine wp_region_plan (fun w' => w'.cell? ⟨ga, 5, none⟩ = some (.slice R.a R.xs.length R.c)) 20 (.take 0 (.take 1 (.take 2 (.take 3 (.take 4 (.take 6 (.take 7 (.take 8 (.take 9 (.take 10 (.take 11 (.take 12 (.take 13 (.take 14 (.take 15 (.one 5 (.one 16 (.take 17 (.take 18 (.take 19 .done)))))))))))))))))))) (by kernel_rfl) (by kernel_rfl) (by kernel_rfl) (KS _ A4d.out) ?_
      intro hS0
      repeat (refine' wpPlan_take rfl (by rfl) (by assumption) ?_ ?_; rotate_left; (· (intro w hSw; (try dsimp only at hSw); go_simp; try with_reducible rfl)); try simp only [Act.put, List.setIfInBounds_toArray, List.set_cons_zero, List.set_cons_succ])
      refine wpPlan_one rfl (fun KT hKT => ?_)
      go_simp
      refine (j_push_none J4d.out src dst LL.out a6 bs.length c6).mono ?_; rintro e w5 ⟨rfl, hJ5, st5⟩; have J5 := Lib.hid hJ5; have O5 := Lib.hid (st5.row O4d.out (by decide)); have A5 := Lib.hid (st5.blk A4d.out (by decide)); clear hJ5 st5
      refine hKT.out _ _ (KS _ A5.out) (fun _ => ?_); clear hKT KT; try simp only [Act.put, List.setIfInBounds_toArray, List.set_cons_zero, List.set_cons_succ]
      refine wpPlan_one rfl (fun KT hKT => ?_)
      go_simp
      refine (j_rinject_none J5.out src dst SE.out R.a bs.length R.c EE.out).mono ?_; rintro e w6 ⟨rfl, hw6⟩; have J6 := J5; rw [hw6] at J6; have O6 := O5; rw [hw6] at O6; have A6 := A5; rw [hw6] at A6; clear hw6
      refine hKT.out _ _ (KS _ A6.out) (fun _ => ?_); clear hKT KT; try simp only [Act.put, List.setIfInBounds_toArray, List.set_cons_zero, List.set_cons_succ]
      repeat (refine' wpPlan_take rfl (by rfl) (by assumption) ?_ ?_; rotate_left; (· (intro w hSw; (try dsimp only at hSw); go_simp; try with_reducible rfl)); try simp only [Act.put, List.setIfInBounds_toArray, List.set_cons_zero, List.set_cons_succ])
      refine wpPlan_done ?_
      clear a5 hS0 KS
      go_wp2_with fail
      go_loopw [79] (fun i wr => ∃ j : Nat, j ≤ bs.length ∧ i = .int .i64 j ∧ Only (a6.map (·.block)).toList w6 wr ∧ ∃ us : List Int, wr.ownsRow w2.heap.size 5 1 (.slice a6 bs.length c6) bs.length (brow us)) (fun i _ => bs.length - (intOf i).toNat)
      case atStart => exact ⟨0, by omega, rfl, Only.refl _ _, bs, O6.out⟩
      case round =>
        obtain ⟨j, hj, rfl, hb, us, ho⟩ := hrel
        by_cases hlt : j < bs.length
        · have hul : us.length = bs.length := by have := ho.1; simpa [brow] using this
          obtain ⟨gb, rfl⟩ : ∃ gb, a6 = some ⟨gb, 0, none⟩ := by
            rcases own_addr ho with ⟨_, h0, _⟩ | h0
            · omega
            · exact h0
          have q1 : wr.cell? ⟨gb, j, none⟩ = some (.int .u8 (us[j]'(by omega))) := by
            rw [World.ownsRow.cellAt ho j (by omega)]
            simp [brow, hul, hlt]
          have q2 : wr.frozen? ⟨gb, j, none⟩ = false := World.ownsRow.frozenAt ho j
          obtain ⟨y, hy⟩ : ∃ y, y = us[j]'(by omega) := ⟨_, rfl⟩
          rw [← hy] at q1
          clear hy
          have i7 : (0 : Int) ≤ j := by omega
          have i8 : (j : Int) < bs.length := by omega
          have OO := Lib.hid ho
          have HB := Lib.hid hb
          clear ho hb
          go_wp2_with fail
          go_roundw
          case rel => exact ⟨j + 1, by omega, by go_num, HB.out.setCell (.inl (by simp)) _, us.set j ((y + 1) % 256), by
            have := (World.ownsRow.stored OO.out j (.int .u8 ((y + 1) % 256))).1
            rw [brow, ← List.map_set] at this
            exact this⟩
          case measure => simp [intOf]; omega
        · have HB := Lib.hid hb
          clear hb ho
          go_wp2_with fail
          go_meet
          refine ⟨rfl, S, _, by omega, by omega, (J6.out.bytes HB.out (fun k hk => (own_blks O6.out k hk).2) (fun k hk => Nat.le_trans z02 (own_blks O6.out k hk).1) (fun k hk => ⟨(own_blks O6.out k hk).1, ?_⟩)).weaken (av' := fun _ => False) (fun b h => h.elim)⟩
          obtain ⟨cs, hcs⟩ := (G4.out k hk).2
          exact hcs.lt
  case rest =>
    obtain ⟨rfl, S', Q', t0, t1, hJ3⟩ := hcut
    have J3 := Lib.hid hJ3
    have c21 := hJ3.rlost
    have KS : ∀ w', Below wc.heap.size wc w' → w'.cell? ⟨x, 21, none⟩ = some (.int .i64 S') := fun w' o => kept o _ _ c21
    have J3' := Lib.hid (hJ3.keep ((Below.refl _ _).drew))
    clear hJ3 a3 a4 a5 A2 J2'
    rcases HL.out with ⟨a, b, ha, hb, hab, hl, he⟩ | ⟨hl, he⟩
    · have LL := Lib.hid hl
      have EE := Lib.hid he
      obtain ⟨l, hm⟩ : ∃ l, (Q' (a * 6 + b)).length = l := ⟨_, rfl⟩
      have HM := Lib.hid hm
      clear hl he hm HL
      go_upto_region 24 with fail
      refine wp_region_plan (fun w' => w'.cell? ⟨x, 21, none⟩ = some (.int .i64 S')) 22 (.take 0 (.take 1 (.take 2 (.take 3 (.take 4 (.take 6 (.take 7 (.take 8 (.one 5 (.one 9 (.take 10 (.take 11 (.take 12 (.take 13 (.take 15 (.take 16 (.take 17 (.take 18 (.one 14 (.take 19 (.take 20 (.take 21 .done)))))))))))))))))))))) (by kernel_rfl) (by kernel_rfl) (by kernel_rfl) (KS _ ((Below.refl _ _).drew)) ?_
      intro hS0
      repeat (refine' wpPlan_take rfl (by rfl) (by assumption) ?_ ?_; rotate_left; (· (intro w hSw; (try dsimp only at hSw); go_simp; try with_reducible rfl)); try simp only [Act.put, List.setIfInBounds_toArray, List.set_cons_zero, List.set_cons_succ])
      refine wpPlan_one rfl (fun KT hKT => ?_)
      go_simp
      refine (j_len J3'.out src dst a b LL.out l HM.out).mono ?_; rintro e w' ⟨rfl, rfl⟩
      refine hKT.out _ _ (hS0) (fun _ => ?_); clear hKT KT; try simp only [Act.put, List.setIfInBounds_toArray, List.set_cons_zero, List.set_cons_succ]
      repeat (refine' wpPlan_take rfl (by rfl) (by assumption) ?_ ?_; rotate_left; (· (intro w hSw; (try dsimp only at hSw); go_simp; try with_reducible rfl)); try simp only [Act.put, List.setIfInBounds_toArray, List.set_cons_zero, List.set_cons_succ])
      refine wpPlan_one rfl (fun KT hKT => ?_)
      go_simp
      refine (j_rlen J3'.out src dst a b ha hb hab EE.out l HM.out).mono ?_; rintro e w' ⟨rfl, rfl⟩
      refine hKT.out _ _ (hS0) (fun _ => ?_); clear hKT KT; try simp only [Act.put, List.setIfInBounds_toArray, List.set_cons_zero, List.set_cons_succ]
      repeat (refine' wpPlan_take rfl (by rfl) (by assumption) ?_ ?_; rotate_left; (· (intro w hSw; (try dsimp only at hSw); go_simp; try with_reducible rfl)); try simp only [Act.put, List.setIfInBounds_toArray, List.set_cons_zero, List.set_cons_succ])
      refine wpPlan_one rfl (fun KT hKT => ?_)
      go_simp
      refine (j_lost J3'.out (by omega)).mono ?_; rintro e w' ⟨rfl, rfl⟩
      refine hKT.out _ _ (hS0) (fun _ => ?_); clear hKT KT; try simp only [Act.put, List.setIfInBounds_toArray, List.set_cons_zero, List.set_cons_succ]
      repeat (refine' wpPlan_take rfl (by rfl) (by assumption) ?_ ?_; rotate_left; (· (intro w hSw; (try dsimp only at hSw); go_simp; try with_reducible rfl)); try simp only [Act.put, List.setIfInBounds_toArray, List.set_cons_zero, List.set_cons_succ])
      refine wpPlan_done ?_
      go_wp2_with fail
      go_ret
      exact ⟨by first | rfl | trivial, S', Q', t0, t1, J3'.out⟩
    · have LL := Lib.hid hl
      have EE := Lib.hid he
      clear hl he HL
      go_upto_region 24 with fail
      refine wp_region_plan (fun w' => w'.cell? ⟨x, 21, none⟩ = some (.int .i64 S')) 22 (.take 0 (.take 1 (.take 2 (.take 3 (.take 4 (.take 6 (.take 7 (.take 8 (.one 5 (.one 9 (.take 10 (.take 11 (.take 12 (.take 13 (.take 15 (.take 16 (.take 17 (.take 18 (.one 14 (.take 19 (.take 20 (.take 21 .done)))))))))))))))))))))) (by kernel_rfl) (by kernel_rfl) (by kernel_rfl) (KS _ ((Below.refl _ _).drew)) ?_
      intro hS0
      repeat (refine' wpPlan_take rfl (by rfl) (by assumption) ?_ ?_; rotate_left; (· (intro w hSw; (try dsimp only at hSw); go_simp; try with_reducible rfl)); try simp only [Act.put, List.setIfInBounds_toArray, List.set_cons_zero, List.set_cons_succ])
      refine wpPlan_one rfl (fun KT hKT => ?_)
      go_simp
      refine (j_len_none J3'.out src dst LL.out).mono ?_; rintro e w' ⟨rfl, rfl⟩
      refine hKT.out _ _ (hS0) (fun _ => ?_); clear hKT KT; try simp only [Act.put, List.setIfInBounds_toArray, List.set_cons_zero, List.set_cons_succ]
      repeat (refine' wpPlan_take rfl (by rfl) (by assumption) ?_ ?_; rotate_left; (· (intro w hSw; (try dsimp only at hSw); go_simp; try with_reducible rfl)); try simp only [Act.put, List.setIfInBounds_toArray, List.set_cons_zero, List.set_cons_succ])
      refine wpPlan_one rfl (fun KT hKT => ?_)
      go_simp
      refine (j_rlen_none J3'.out src dst EE.out).mono ?_; rintro e w' ⟨rfl, rfl⟩
      refine hKT.out _ _ (hS0) (fun _ => ?_); clear hKT KT; try simp only [Act.put, List.setIfInBounds_toArray, List.set_cons_zero, List.set_cons_succ]
      repeat (refine' wpPlan_take rfl (by rfl) (by assumption) ?_ ?_; rotate_left; (· (intro w hSw; (try dsimp only at hSw); go_simp; try with_reducible rfl)); try simp only [Act.put, List.setIfInBounds_toArray, List.set_cons_zero, List.set_cons_succ])
      refine wpPlan_one rfl (fun KT hKT => ?_)
      go_simp
      refine (j_lost J3'.out (by omega)).mono ?_; rintro e w' ⟨rfl, rfl⟩
      refine hKT.out _ _ (hS0) (fun _ => ?_); clear hKT KT; try simp only [Act.put, List.setIfInBounds_toArray, List.set_cons_zero, List.set_cons_succ]
      repeat (refine' wpPlan_take rfl (by rfl) (by assumption) ?_ ?_; rotate_left; (· (intro w hSw; (try dsimp only at hSw); go_simp; try with_reducible rfl)); try simp only [Act.put, List.setIfInBounds_toArray, List.set_cons_zero, List.set_cons_succ])
      refine wpPlan_done ?_
      go_wp2_with fail
      go_ret
      exact ⟨by first | rfl | trivial, S', Q', t0, t1, J3'.out⟩
end Go.Proofs.Ytfhlcjfgbhmecaa
