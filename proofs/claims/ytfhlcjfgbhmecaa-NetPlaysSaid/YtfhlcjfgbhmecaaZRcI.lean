/- RcI. -/
import Derived.Test.YtfhlcjfgbhmecaaZRcH
/- psephosref21.Cluster.Clone. Printed by genrclone.py. -/
namespace Go.Proofs.Ytfhlcjfgbhmecaa
open Go.RowKit
set_option linter.unusedVariables false
set_option maxRecDepth 100000

/-- A clone in the making, over the world w. -/
structure YX (w wk : World) (y : Nat) (room lost : Int) (gf cf nb : Nat) (an : Option Addr) (kn cn : Nat) (ac : Option Addr) (kc cc ge ce gq cq : Nat) (pn pc : Nat → Nat) : Prop where
  blk : Blk wk y 99 #[.int .i64 1, .int .i64 2, .int .i64 2, .int .i64 4, .int .i64 room, .int .i64 8, .int .i64 8, .int .i64 8, .int .i64 1, .int .i64 2, .int .i64 12, .int .i64 8, .int .i64 6, .int .i64 2, .int .i64 6, .slice (some ⟨gf, 0, none⟩) 8 cf, .pointer (some ⟨nb, 0, none⟩), .slice an kn cn, .slice ac kc cc, .slice (some ⟨ge, 0, none⟩) 30 ce, .slice (some ⟨gq, 0, none⟩) 30 cq, .int .i64 lost]
  notary : NotE wk nb
  nrow : wk.ownsRow w.heap.size 139 1 (.slice an kn cn) kn (ptrl pn kn)
  crow : wk.ownsRow w.heap.size 142 1 (.slice ac kc cc) kc (ptrl pc kc)
  below : Below w.heap.size w wk
  ge : w.heap.size ≤ y
section
variable {w wk w5 w8 : World} {y : Nat} {room lost : Int} {gf cf nb : Nat} {an : Option Addr} {kn cn : Nat} {ac : Option Addr} {kc cc ge ce gq cq : Nat} {pn pc : Nat → Nat}
theorem YX.keep (h : YX w wk y room lost gf cf nb an kn cn ac kc cc ge ce gq cq pn pc) (hb : Below wk.heap.size wk w5) : YX w w5 y room lost gf cf nb an kn cn ac kc cc ge ce gq cq pn pc :=
  ⟨h.blk.below hb h.blk.lt, Blk.below h.notary hb (Blk.lt h.notary), own_below h.nrow hb, own_below h.crow hb, h.below.trans (hb.mono h.below.size), h.ge⟩
theorem YX.node (h : YX w wk y room lost gf cf nb an kn cn ac kc cc ge ce gq cq pn pc) (hb : Below wk.heap.size wk w5) {p : Nat} {a8 : Option Addr} {c8 : Nat} (h8 : Apped w5 w8 w.heap.size 139 1 an a8 (kn + 1) c8 (ptrl pn kn ++ [.pointer (some ⟨p, 0, none⟩)])) :
    (∃ cs, Blk w8 y 99 cs ∧ cs[17]? = some (.slice an kn cn)) ∧ YX w (w8.setCell ⟨y, 17, none⟩ (.slice a8 (kn + 1) c8)) y room lost gf cf nb a8 (kn + 1) c8 ac kc cc ge ce gq cq (upq pn kn p) pc := by
  have k8 := h8.blk_ (own_below h.nrow hb) (h.blk.below hb h.blk.lt) (by decide)
  have T := Turn2.of (o := 17) (v := .slice a8 (kn + 1) c8) hb h.nrow h8 k8
  have o9 : Only [y] w8 (w8.setCell ⟨y, 17, none⟩ (.slice a8 (kn + 1) c8)) := (Only.refl _ _).setCell (.inl (by simp)) _
  have T9 : ∀ k ∈ [y], ∃ cs, Blk w8 k 99 cs := fun k hk => by
    have e : k = y := by simpa using hk
    rw [e]; exact ⟨_, k8⟩
  have b5 := h.below.trans (hb.mono h.below.size)
  refine ⟨⟨_, k8, rfl⟩, k8.set_ 17 _, T.blk h.notary (by decide) (by decide), ?_, T.row h.crow (by decide) (by decide), (h8.below (own_below h.nrow hb) b5 (Nat.le_refl _) b5.size).setCell (p := ⟨y, 17, none⟩) h.ge _, h.ge⟩
  rw [← ptrl_up]
  exact own_kinds h8.own o9 (kinds_of T9) (by decide) (by decide)
theorem YX.client (h : YX w wk y room lost gf cf nb an kn cn ac kc cc ge ce gq cq pn pc) (hb : Below wk.heap.size wk w5) {p : Nat} {a8 : Option Addr} {c8 : Nat} (h8 : Apped w5 w8 w.heap.size 142 1 ac a8 (kc + 1) c8 (ptrl pc kc ++ [.pointer (some ⟨p, 0, none⟩)])) :
    (∃ cs, Blk w8 y 99 cs ∧ cs[18]? = some (.slice ac kc cc)) ∧ YX w (w8.setCell ⟨y, 18, none⟩ (.slice a8 (kc + 1) c8)) y room lost gf cf nb an kn cn a8 (kc + 1) c8 ge ce gq cq pn (upq pc kc p) := by
  have k8 := h8.blk_ (own_below h.crow hb) (h.blk.below hb h.blk.lt) (by decide)
  have T := Turn2.of (o := 18) (v := .slice a8 (kc + 1) c8) hb h.crow h8 k8
  have o9 : Only [y] w8 (w8.setCell ⟨y, 18, none⟩ (.slice a8 (kc + 1) c8)) := (Only.refl _ _).setCell (.inl (by simp)) _
  have T9 : ∀ k ∈ [y], ∃ cs, Blk w8 k 99 cs := fun k hk => by
    have e : k = y := by simpa using hk
    rw [e]; exact ⟨_, k8⟩
  have b5 := h.below.trans (hb.mono h.below.size)
  refine ⟨⟨_, k8, rfl⟩, k8.set_ 18 _, T.blk h.notary (by decide) (by decide), T.row h.nrow (by decide) (by decide), ?_, (h8.below (own_below h.crow hb) b5 (Nat.le_refl _) b5.size).setCell (p := ⟨y, 18, none⟩) h.ge _, h.ge⟩
  rw [← ptrl_up]
  exact own_kinds h8.own o9 (kinds_of T9) (by decide) (by decide)
end
section
variable {w0 w w' : World} {B x : Nat} {room lost : Int} {M : Nat → List (Value × List Int)} {gf cf nb : Nat} {an : Option Addr} {cn : Nat} {ac : Option Addr} {cc ge ce gq cq : Nat} {ra : Nat → Option Addr} {rc : Nat → Nat} {pn pc : Nat → Nat} {nk : Prop}
set_option maxHeartbeats 6400000 in
theorem rcclone_c (h : RX w0 w B x room lost M gf cf nb an cn ac cc ge ce gq cq ra rc pn pc nk) (hnk : nk) :
    Calls Try.prog 49 #[.pointer (some ⟨x, 0, none⟩)] w fun e w' => ∃ y nb' an' cn' ac' cc' gq' cq' pn' pc', e = .returned (.pointer (some ⟨y, 0, none⟩)) ∧ RX w0 w' w.heap.size y room lost M gf cf nb' an' cn' ac' cc' ge ce gq' cq' ra rc pn' pc' False ∧ Below w.heap.size w w' ∧ w.heap.size ≤ gq' := by
  obtain ⟨ni, ni0, nz0, nz1, nz2⟩ := info_parts info_pnode
  obtain ⟨ki, ki0, kz0, kz1, kz2⟩ := info_parts info_pclient
  obtain ⟨qi, qi0, qz0, qz1, qz2⟩ := info_parts info_qq
  have H := Lib.hid h
  have HN := Lib.hid (h.nodes hnk)
  have HC := Lib.hid (h.cls hnk)
  obtain ⟨C, hC⟩ : ∃ C, C = rxC room lost gf cf nb an cn ac cc ge ce gq cq := ⟨_, rfl⟩
  have BC : Hid (Blk w x 99 C) := Lib.hid (by rw [hC]; exact h.blk)
  have SC : Hid (C.size = 22) := Lib.hid (by rw [hC]; rfl)
  have OC : Hid (C.all (·.oneCell') = true) := Lib.hid (by rw [hC]; kernel_rfl)
  have EC := Lib.hid hC
  clear h hC hnk
  go_enter Try.func49, Try.ntmps49
  go_upto_region 2 with (first
    | (refine wpList_load_row rfl 99 (.tmp 9) rfl x rfl 99 C (0, 0) _ BC.out Try.underlying99 rfl (by rw [SC.out]; kernel_rfl) ?_; try simp only [Act.put])
    | (refine wpList_store_row rfl 99 (.tmp 3) (.tmp 10) rfl w.heap.size C rfl rfl 99 _ (Blk.new _ _ _) (by rw [SC.out]; kernel_rfl) (by rw [SC.out]; kernel_rfl) OC.out ?_; rw [World.setRow_alloc_new]; try simp only [Act.put]))
  obtain ⟨w1, hw1⟩ : ∃ w1, w1 = w.alloc (.cells C 99) := ⟨_, rfl⟩
  obtain ⟨y, hy⟩ : ∃ y, y = w.heap.size := ⟨_, rfl⟩
  rw [← hw1, ← hy]
  have k1 : Blk w1 y 99 (rxC room lost gf cf nb an cn ac cc ge ce gq cq) := by rw [hw1, hy, EC.out]; exact Blk.new _ _ _
  have b1 : Below w.heap.size w w1 := by rw [hw1]; exact (Below.refl _ _).alloc (Nat.le_refl _) _
  have K1 := Lib.hid k1
  have B1 := Lib.hid b1
  have HY := Lib.hid hy
  have x16 : w1.cell? ⟨x, 16, none⟩ = some (.pointer (some ⟨nb, 0, none⟩)) := (H.out.keep b1).blk.cell 16
  have ne1 := (H.out.keep b1).notary
  clear hw1 hy k1 b1
  go_wp2_with fail
  refine (rcopy_e nb _ ne1).mono ?_; rintro e w2 ⟨nb', rfl, hn2, hge2, hb2⟩
  have K2 := Lib.hid (K1.out.below hb2 K1.out.lt)
  have B2 := Lib.hid (B1.out.trans (hb2.mono B1.out.size))
  have y16 : w2.cell? ⟨y, 16, none⟩ = some (.pointer (some ⟨nb, 0, none⟩)) := K2.out.cell 16
  have y17 : w2.cell? ⟨y, 17, none⟩ = some (.slice an 4 cn) := K2.out.cell 17
  have y18 : w2.cell? ⟨y, 18, none⟩ = some (.slice ac 2 cc) := K2.out.cell 18
  have f16 := K2.out.frozen 16
  have f17 := K2.out.frozen 17
  have f18 := K2.out.frozen 18
  have YY : Hid (YX w (((w2.setCell ⟨y, 16, none⟩ (.pointer (some ⟨nb', 0, none⟩))).setCell ⟨y, 17, none⟩ (.slice none 0 0)).setCell ⟨y, 18, none⟩ (.slice none 0 0)) y room lost gf cf nb' none 0 0 none 0 0 ge ce gq cq (fun _ => 0) (fun _ => 0)) := Lib.hid (by
    have hyn : nb' ≠ y := fun e => Blk.ne_ hn2 K2.out (by decide) e
    have gy : w.heap.size ≤ y := by rw [HY.out]; exact Nat.le_refl _
    exact ⟨((K2.out.set_ 16 _).set_ 17 _).set_ 18 _, ((Blk.far hn2 (p := ⟨y, 16, none⟩) hyn _).far (p := ⟨y, 17, none⟩) hyn _).far (p := ⟨y, 18, none⟩) hyn _, ⟨rfl, .inl ⟨rfl, rfl⟩⟩, ⟨rfl, .inl ⟨rfl, rfl⟩⟩, ((B2.out.setCell (p := ⟨y, 16, none⟩) gy _).setCell (p := ⟨y, 17, none⟩) gy _).setCell (p := ⟨y, 18, none⟩) gy _, gy⟩)
  clear x16 ne1 hn2 hge2 hb2 K1 B1
  go_upto_region 4 with fail
  obtain ⟨w3, hw3⟩ : ∃ w3, w3 = (((w2.setCell ⟨y, 16, none⟩ (.pointer (some ⟨nb', 0, none⟩))).setCell ⟨y, 17, none⟩ (.slice none 0 0)).setCell ⟨y, 18, none⟩ (.slice none 0 0)) := ⟨_, rfl⟩
  rw [← hw3] at YY ⊢
  clear hw3 y16 y17 y18 f16 f17 f18 K2 B2
  have x17 : w3.cell? ⟨x, 17, none⟩ = some (.slice an 4 cn) := (H.out.keep YY.out.below).blk.cell 17
  go_upto_block 0 with fail
  clear x17
  go_cut [24] (fun s wx => ∃ a c pn', YX w wx y room lost gf cf nb' a 4 c none 0 0 ge ce gq cq pn' (fun _ => 0))
  case first =>
    have x17 : w3.cell? ⟨x, 17, none⟩ = some (.slice an 4 cn) := (H.out.keep YY.out.below).blk.cell 17
    go_wp2_with fail
    clear x17
    go_loopw [24] (fun s wr => ∃ k : Nat, k ≤ 4 ∧ s = .int .i64 k ∧ ∃ a c pn', YX w wr y room lost gf cf nb' a k c none 0 0 ge ce gq cq pn' (fun _ => 0)) (fun s _ => 4 - (intOf s).toNat)
    case atStart => exact ⟨0, by omega, rfl, none, 0, _, YY.out⟩
    case round =>
      obtain ⟨k, hk, rfl, a, c, pn', hyx⟩ := hrel
      have HX := Lib.hid hyx
      clear hyx
      by_cases hlt : k < 4
      · have i1 : (k : Int) < 4 := by omega
        have i2 : (0 : Int) ≤ k := by omega
        obtain ⟨ga, rfl, pk0⟩ := own_at H.out.nrow hlt (v := .pointer (some ⟨pn k, 0, none⟩)) (by simp [hlt])
        obtain ⟨pk, hpk⟩ : ∃ pk, pk = pn k := ⟨_, rfl⟩
        rw [← hpk] at pk0
        have HPK := Lib.hid hpk
        have KS : ∀ w', Below wr.heap.size wr w' → w'.cell? ⟨x, 17, none⟩ = some (.slice (some ⟨ga, 0, none⟩) 4 cn) ∧ w'.cell? ⟨ga, k, none⟩ = some (.pointer (some ⟨pk, 0, none⟩)) ∧ w'.cell? ⟨y, 16, none⟩ = some (.pointer (some ⟨nb', 0, none⟩)) := fun w' o => ⟨(H.out.keep (HX.out.keep o).below).blk.cell 17, kept (HX.out.keep o).below _ _ pk0, (HX.out.keep o).blk.cell 16⟩
        obtain ⟨q1, q2, q3⟩ := KS wr (Below.refl _ _)
        clear hpk pk0
        go_upto_region 9 with fail
        clear q1 q2 q3
        refine wp_region_plan (fun w' => w'.cell? ⟨x, 17, none⟩ = some (.slice (some ⟨ga, 0, none⟩) 4 cn) ∧ w'.cell? ⟨ga, k, none⟩ = some (.pointer (some ⟨pk, 0, none⟩)) ∧ w'.cell? ⟨y, 16, none⟩ = some (.pointer (some ⟨nb', 0, none⟩))) 11 (.take 0 (.take 1 (.take 2 (.take 3 (.take 4 (.take 5 (.take 6 (.take 7 (.take 8 (.one 9 (.take 10 .done))))))))))) (by kernel_rfl) (by kernel_rfl) (by kernel_rfl) (KS _ (Below.refl _ _).drew) ?_
        intro hS0
        obtain ⟨v0, hv0⟩ : ∃ v, v = wr.drew := ⟨_, rfl⟩
        have B0 : Below wr.heap.size wr v0 := by rw [hv0]; exact (Below.refl _ _).drew
        rw [← hv0] at hS0 ⊢
        clear hv0
        repeat (refine' wpPlan_take rfl (by rfl) (by assumption) ?_ ?_; rotate_left; (· (intro w hSw; (try dsimp only at hSw); go_simp; try with_reducible rfl)); try simp only [Act.put, List.setIfInBounds_toArray, List.set_cons_zero, List.set_cons_succ])
        refine wpPlan_one rfl (fun KT hKT => ?_)
        go_simp
        refine (rnclone_c B pk nb' _ (by rw [HPK.out]; exact (HN.out k hlt).below (HX.out.keep B0).below)).mono ?_; rintro e w5 ⟨p, rfl, hb5⟩
        have B5 : Below wr.heap.size wr w5 := B0.trans (hb5.mono B0.size)
        have X5 := Lib.hid (HX.out.keep B5)
        refine hKT.out _ _ (KS _ B5) (fun _ => ?_); clear hKT KT; try simp only [Act.put, List.setIfInBounds_toArray, List.set_cons_zero, List.set_cons_succ]
        repeat (refine' wpPlan_take rfl (by rfl) (by assumption) ?_ ?_; rotate_left; (· (intro w hSw; (try dsimp only at hSw); go_simp; try with_reducible rfl)); try simp only [Act.put, List.setIfInBounds_toArray, List.set_cons_zero, List.set_cons_succ])
        refine wpPlan_done ?_
        clear hS0 KS hb5 B5 B0
        have n17 : w5.cell? ⟨y, 17, none⟩ = some (.slice a k c) := X5.out.blk.cell 17
        go_wp2_with (at_builtin; refine wpList_app rfl (.tmp 46) (.tmp 48) _ rfl w.heap.size 139 ni _ 1 8 Try.underlying95 ni0 nz0 nz1 nz2 rfl (by omega) a k c (ptrl pn' k) rfl (World.ownsRow.alloc X5.out.nrow _) (some ⟨w5.heap.size, 0, none⟩) 1 1 [.pointer (some ⟨p, 0, none⟩)] rfl (own_one _ _ _) (by simp [Value.oneCell']) (by unfold maxLen; omega) (by omega) (by have := X5.out.below.size; simp; omega) ?_; intro a8 c8 w8 h8; have b6 := (Below.refl w5.heap.size w5).alloc (Nat.le_refl _) (.cells #[.pointer (some ⟨p, 0, none⟩)] 139); obtain ⟨⟨cs8, k8, k17⟩, x9⟩ := X5.out.node b6 h8; have X9 := Lib.hid x9; have d8 : w8.cell? ⟨y, 17, none⟩ = some (.slice a k c) := (k8.cell 17).trans k17; have f8 := k8.frozen 17; clear k8 k17 x9 h8 b6)
        go_roundw
        case rel => exact ⟨k + 1, by omega, by go_num, a8, c8, _, X9.out⟩
        case measure => simp [intOf]; omega
      · have hk4 : k = 4 := by omega
        subst hk4
        go_wp2_with fail
        go_meet
        exact ⟨a, c, pn', HX.out⟩
  case rest =>
    obtain ⟨a4, c4, pn4, hy4⟩ := hcut
    have Y4 := Lib.hid hy4
    clear hy4 YY
    have x18 : wc.cell? ⟨x, 18, none⟩ = some (.slice ac 2 cc) := (H.out.keep Y4.out.below).blk.cell 18
    go_wp2_with fail
    clear x18
    go_loopw [57] (fun s wr => ∃ k : Nat, k ≤ 2 ∧ s = .int .i64 k ∧ ∃ a c pc', YX w wr y room lost gf cf nb' a4 4 c4 a k c ge ce gq cq pn4 pc') (fun s _ => 2 - (intOf s).toNat)
    case atStart => exact ⟨0, by omega, rfl, none, 0, _, Y4.out⟩
    case round =>
      obtain ⟨k, hk, rfl, a, c, pc', hyx⟩ := hrel
      have HX := Lib.hid hyx
      clear hyx
      by_cases hlt : k < 2
      · have i1 : (k : Int) < 2 := by omega
        have i2 : (0 : Int) ≤ k := by omega
        obtain ⟨ga, rfl, pk0⟩ := own_at H.out.crow hlt (v := .pointer (some ⟨pc k, 0, none⟩)) (by simp [hlt])
        obtain ⟨pk, hpk⟩ : ∃ pk, pk = pc k := ⟨_, rfl⟩
        rw [← hpk] at pk0
        have HPK := Lib.hid hpk
        have KS : ∀ w', Below wr.heap.size wr w' → w'.cell? ⟨x, 18, none⟩ = some (.slice (some ⟨ga, 0, none⟩) 2 cc) ∧ w'.cell? ⟨ga, k, none⟩ = some (.pointer (some ⟨pk, 0, none⟩)) ∧ w'.cell? ⟨y, 16, none⟩ = some (.pointer (some ⟨nb', 0, none⟩)) := fun w' o => ⟨(H.out.keep (HX.out.keep o).below).blk.cell 18, kept (HX.out.keep o).below _ _ pk0, (HX.out.keep o).blk.cell 16⟩
        obtain ⟨q1, q2, q3⟩ := KS wr (Below.refl _ _)
        clear hpk pk0
        go_upto_region 17 with fail
        clear q1 q2 q3
        refine wp_region_plan (fun w' => w'.cell? ⟨x, 18, none⟩ = some (.slice (some ⟨ga, 0, none⟩) 2 cc) ∧ w'.cell? ⟨ga, k, none⟩ = some (.pointer (some ⟨pk, 0, none⟩)) ∧ w'.cell? ⟨y, 16, none⟩ = some (.pointer (some ⟨nb', 0, none⟩))) 11 (.take 0 (.take 1 (.take 2 (.take 3 (.take 4 (.take 5 (.take 6 (.take 7 (.take 8 (.one 9 (.take 10 .done))))))))))) (by kernel_rfl) (by kernel_rfl) (by kernel_rfl) (KS _ (Below.refl _ _).drew) ?_
        intro hS0
        obtain ⟨v0, hv0⟩ : ∃ v, v = wr.drew := ⟨_, rfl⟩
        have B0 : Below wr.heap.size wr v0 := by rw [hv0]; exact (Below.refl _ _).drew
        rw [← hv0] at hS0 ⊢
        clear hv0
        repeat (refine' wpPlan_take rfl (by rfl) (by assumption) ?_ ?_; rotate_left; (· (intro w hSw; (try dsimp only at hSw); go_simp; try with_reducible rfl)); try simp only [Act.put, List.setIfInBounds_toArray, List.set_cons_zero, List.set_cons_succ])
        refine wpPlan_one rfl (fun KT hKT => ?_)
        go_simp
        refine (rclclone_c B pk nb' _ (by rw [HPK.out]; exact (HC.out k hlt).below (HX.out.keep B0).below)).mono ?_; rintro e w5 ⟨p, rfl, hb5⟩
        have B5 : Below wr.heap.size wr w5 := B0.trans (hb5.mono B0.size)
        have X5 := Lib.hid (HX.out.keep B5)
        refine hKT.out _ _ (KS _ B5) (fun _ => ?_); clear hKT KT; try simp only [Act.put, List.setIfInBounds_toArray, List.set_cons_zero, List.set_cons_succ]
        repeat (refine' wpPlan_take rfl (by rfl) (by assumption) ?_ ?_; rotate_left; (· (intro w hSw; (try dsimp only at hSw); go_simp; try with_reducible rfl)); try simp only [Act.put, List.setIfInBounds_toArray, List.set_cons_zero, List.set_cons_succ])
        refine wpPlan_done ?_
        clear hS0 KS hb5 B5 B0
        have n18 : w5.cell? ⟨y, 18, none⟩ = some (.slice a k c) := X5.out.blk.cell 18
        go_wp2_with (at_builtin; refine wpList_app rfl (.tmp 79) (.tmp 81) _ rfl w.heap.size 142 ki _ 1 8 Try.underlying96 ki0 kz0 kz1 kz2 rfl (by omega) a k c (ptrl pc' k) rfl (World.ownsRow.alloc X5.out.crow _) (some ⟨w5.heap.size, 0, none⟩) 1 1 [.pointer (some ⟨p, 0, none⟩)] rfl (own_one _ _ _) (by simp [Value.oneCell']) (by unfold maxLen; omega) (by omega) (by have := X5.out.below.size; simp; omega) ?_; intro a8 c8 w8 h8; have b6 := (Below.refl w5.heap.size w5).alloc (Nat.le_refl _) (.cells #[.pointer (some ⟨p, 0, none⟩)] 142); obtain ⟨⟨cs8, k8, k18⟩, x9⟩ := X5.out.client b6 h8; have X9 := Lib.hid x9; have d8 : w8.cell? ⟨y, 18, none⟩ = some (.slice a k c) := (k8.cell 18).trans k18; have f8 := k8.frozen 18; clear k8 k18 x9 h8 b6)
        go_roundw
        case rel => exact ⟨k + 1, by omega, by go_num, a8, c8, _, X9.out⟩
        case measure => simp [intOf]; omega
      · have hk4 : k = 2 := by omega
        subst hk4
        have i1 : ¬ ((2 : Nat) : Int) < 2 := by omega
        have x20 : wr.cell? ⟨x, 20, none⟩ = some (.slice (some ⟨gq, 0, none⟩) 30 cq) := (H.out.keep HX.out.below).blk.cell 20
        have VQ : Hid (VRow wr (some ⟨gq, 0, none⟩) 30 1 ((List.range 30).map fun k => Value.slice (ra k) (M k).length (rc k))) := Lib.hid (own_vrow (H.out.keep HX.out.below).qrow)
        go_upto_region 21 with (at_builtin; refine wpList_app rfl _ (.tmp 88) _ rfl wr.heap.size 148 qi _ 1 24 Try.underlying97 qi0 qz0 qz1 qz2 rfl (by omega) none 0 0 [] rfl ⟨rfl, .inl ⟨rfl, rfl⟩⟩ (some ⟨gq, 0, none⟩) 30 cq ((List.range 30).map fun k => Value.slice (ra k) (M k).length (rc k)) rfl VQ.out (fun v hv => by obtain ⟨j, _, rfl⟩ := List.mem_map.1 hv; rfl) (by unfold maxLen; omega) (by omega) (Nat.le_refl _) ?_; intro a8 c8 w8 h8; have b8 : Below wr.heap.size wr w8 := h8.only.to_below; have X8 := Lib.hid (HX.out.keep b8); have O8 := Lib.hid h8.own; have y20 : w8.cell? ⟨y, 20, none⟩ = some (.slice (some ⟨gq, 0, none⟩) 30 cq) := X8.out.blk.cell 20; have f20 := X8.out.blk.frozen 20; clear h8 b8; try simp only [Act.put])
        have o8 := O8.out
        rw [Nat.zero_add, List.nil_append] at o8
        obtain ⟨gq', rfl⟩ : ∃ g, a8 = some ⟨g, 0, none⟩ := by
          rcases own_addr o8 with ⟨_, h0, _⟩ | h
          · omega
          · exact h
        have hx := H.out.keep X8.out.below
        have o9 : Only [y] w8 (w8.setCell ⟨y, 20, none⟩ (.slice (some ⟨gq', 0, none⟩) 30 c8)) := (Only.refl _ _).setCell (.inl (by simp)) _
        have T := Turn2.only o9 (fun j hj => by
          have e : j = y := by simpa using hj
          rw [e]; exact ⟨_, X8.out.blk⟩)
        have sz := X8.out.below.size
        have hle : wr.heap.size ≤ gq' := (World.ownsRow.lt o8 gq' rfl).1
        have hwr := HX.out.below.size
        have hB0 := H.out.below.size
        have RX9 : Hid (RX w0 (w8.setCell ⟨y, 20, none⟩ (.slice (some ⟨gq', 0, none⟩) 30 c8)) w.heap.size y room lost M gf cf nb' a4 c4 a c ge ce gq' c8 ra rc pn4 pc' False) := Lib.hid (by
          obtain ⟨cs, hf⟩ := hx.fblk
          refine ⟨X8.out.blk.set_ 20 _, T.blk X8.out.notary (by decide) (by decide), T.row X8.out.nrow (by decide) (by decide), fun n => n.elim, T.row X8.out.crow (by decide) (by decide), fun n => n.elim, ?_, ⟨cs, T.blk hf (by decide) (by decide)⟩, T.row hx.erow (by decide) (by decide), own_base_le (T.row o8 (by decide) (by decide)) hwr, fun j hj => T.row (hx.rows j hj) (by decide) (by decide), hx.msgs, hx.len, o9.below hx.below hx.below.size (by simp; exact Nat.le_trans hB0 X8.out.ge), ⟨Nat.le_trans hB0 X8.out.ge, hB0, X8.out.ge⟩⟩
          refine hx.frow.only o9 fun b hb hm => ?_
          simp only [Option.map_some, Option.some.injEq] at hb
          exact hf.ne_ X8.out.blk (by decide) (by rw [hb]; simpa using hm))
        have B9 : Hid (Below w.heap.size w (w8.setCell ⟨y, 20, none⟩ (.slice (some ⟨gq', 0, none⟩) 30 c8))) := Lib.hid (X8.out.below.setCell (p := ⟨y, 20, none⟩) X8.out.ge _)
        clear o8 hx o9 T y20 f20
        go_wp2_with fail
        go_ret
        exact ⟨y, by first | rfl | trivial, nb', a4, c4, a, c, gq', ⟨c8, pn4, pc', RX9.out⟩, B9.out, Nat.le_trans hwr hle⟩
end
end Go.Proofs.Ytfhlcjfgbhmecaa
