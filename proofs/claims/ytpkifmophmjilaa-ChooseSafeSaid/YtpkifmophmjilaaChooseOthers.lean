/- ChooseOthers: for all parts, certificates and instances the law returns true. No condition. -/
import Derived.Test.YtpkifmophmjilaaChooseV
import Derived.Test.YtpkifmophmjilaaHeavy
import Derived.Test.YtpkifmophmjilaaChooseHo
import Derived.Test.YtpkifmophmjilaaPlan
import Derived.Deep.CutRange
import Derived.Deep.DeepCutAuto
import Derived.Deep.CutBlock
import Derived.Test.YtpkifmophmjilaaRows
namespace Go.Proofs.Ytpkifmophmjilaa
open Go.RowKit
set_option linter.unusedVariables false

theorem fold_skip {β : Type} (f : β → CD → β) (inst : Int) (h : ∀ z c, c.inst ≠ inst → f z c = z) : ∀ (cs : List CD) (z : β), cs.foldl f z = (cs.filter fun c => decide (c.inst = inst)).foldl f z
  | [], z => rfl
  | c :: cs, z => by
    rw [List.foldl_cons, List.filter_cons]
    by_cases hc : c.inst = inst
    · rw [if_pos (decide_eq_true hc), List.foldl_cons, fold_skip f inst h cs]
    · rw [if_neg (by simpa using hc), h z c hc, fold_skip f inst h cs]
def ofInst (inst : Int) (cs : List CD) : List CD := cs.filter fun c => decide (c.inst = inst)
theorem batches_filter {inst : Int} {ps qs : List PD} (h : ofInst inst (certsOf ps) = ofInst inst (certsOf qs)) : batches inst ps = batches inst qs := by
  have hg : greatest inst ps = greatest inst qs := by
    have hs : ∀ z c, c.inst ≠ inst → greatB inst z c = z := fun z c hc => if_neg fun hh => hc hh.1
    rw [greatest_flat, greatest_flat, fold_skip _ inst hs (certsOf ps), fold_skip _ inst hs (certsOf qs)]
    unfold ofInst at h
    rw [h]
  have hb : ∀ seq, best inst seq ps = best inst seq qs := fun seq => by
    have hs : ∀ z c, c.inst ≠ inst → bestB inst seq z c = z := fun z c hc => if_neg fun hh => hc hh.1
    rw [best_flat, best_flat, fold_skip _ inst hs (certsOf ps), fold_skip _ inst hs (certsOf qs)]
    unfold ofInst at h
    rw [h]
  unfold batches
  rw [hg]
  refine List.map_congr_left fun i _ => ?_
  unfold batchOf
  rw [hb]
theorem ofInst_append (inst : Int) (a b : List CD) : ofInst inst (a ++ b) = ofInst inst a ++ ofInst inst b := List.filter_append ..
theorem ofInst_idem (inst : Int) (a : List CD) : ofInst inst (ofInst inst a) = ofInst inst a := by unfold ofInst; rw [List.filter_filter]; congr 1; funext c; simp
theorem certsOf_append (a b : List PD) : certsOf (a ++ b) = certsOf a ++ certsOf b := List.flatMap_append ..
theorem ofInst_take (inst : Int) (cs : List CD) (k : Nat) (x : CD) (h : cs[k]? = some x) : ofInst inst (cs.take (k + 1)) = ofInst inst (cs.take k) ++ if x.inst = inst then [x] else [] := by
  rw [List.take_add_one, h, ofInst_append]
  congr 1
  unfold ofInst
  by_cases hx : x.inst = inst
  · simp [hx]
  · simp [hx]
theorem certsOf_take (ps : List PD) (k : Nat) (x : PD) (h : ps[k]? = some x) : certsOf (ps.take (k + 1)) = certsOf (ps.take k) ++ x.cs := by
  rw [List.take_add_one, h, certsOf_append]
  simp [certsOf]

/-- A part that the law has made: no votes, its certificates a row of the call's own, of what came in. -/
structure OwnP (w0 w : World) (q : PD) : Prop where
  vn : q.va = none ∧ q.vn = 0 ∧ q.vc = 0 ∧ q.vs = []
  row : w.ownsRow w0.heap.size 36 5 (.slice q.ca q.cn q.cc) q.cn (q.cs.flatMap ccell)
  len : q.cs.length = q.cn
  is : ∀ c ∈ q.cs, c.Is w0
  i0 : I64 q.from_
  i1 : I64 q.seal_
theorem OwnP.to {w0 w : World} {q : PD} (h : OwnP w0 w q) (hb : Below w0.heap.size w0 w) : q.Is w :=
  ⟨by obtain ⟨h1, h2, h3, h4⟩ := h.vn; rw [h1, h2, h3, h4]; exact VoRow.nil _ _ (Nat.zero_le _), ⟨own_vrow h.row, h.len, own_cap h.row, own_max h.row, fun c hc => (h.is c hc).below hb⟩, h.i0, h.i1⟩
theorem OwnP.below {w0 w w' : World} {q : PD} (h : OwnP w0 w q) (hb : Below w.heap.size w w') : OwnP w0 w' q := ⟨h.vn, own_below h.row hb, h.len, h.is, h.i0, h.i1⟩
theorem OwnP.own {w0 w w' : World} {q : PD} {base n s c : Nat} {a : Option Addr} {xs : List Value} (h : OwnP w0 w q) (ho : w.ownsRow base 32 s (.slice a n c) n xs) (hS : Only (a.map (·.block)).toList w w') : OwnP w0 w' q :=
  ⟨h.vn, own_only h.row hS fun g hg hm => by
    have hm' := Option.mem_toList.1 hm
    rcases own_ne h.row ho (by decide) with h1 | h1
    · rw [h1] at hg; cases hg
    · exact h1 (by rw [hg, own_block_eq, hm']), h.len, h.is, h.i0, h.i1⟩
theorem info_certT : (Try.prog.info? 36).map (fun i => (i.zero, i.size, i.bytes)) = some (some (.agg #[.int .i64 0, .int .i64 0, .int .i64 0, .slice none 0 0, .slice none 0 0]), 5, 72) := by kernel_rfl
theorem info_partT : (Try.prog.info? 32).map (fun i => (i.zero, i.size, i.bytes)) = some (some (.agg #[.int .i64 0, .slice none 0 0, .slice none 0 0, .int .i64 0]), 4, 64) := by kernel_rfl
end Go.Proofs.Ytpkifmophmjilaa
namespace Go.Proofs.Ytpkifmophmjilaa.ChooseOthers
open Go.RowKit Go.ChangeShapes Go.WideShapes Go.ChangeAt
set_option linter.unusedVariables false

set_option maxRecDepth 100000 in
set_option maxHeartbeats 12800000 in
theorem walk (inst : Int) (a : Option Addr) (n c : Nat) (ps : List PD) (am : Option Addr) (nm cm : Nat) (ms : List CD) (w : World) (hi : I64 inst) (h : Parts w a n c ps) (hm : Certs w am nm cm ms) :
    Calls Try.prog 5 #[.int .i64 inst, .slice a n c, .slice am nm cm] w fun e w' => e = .returned (.bool true) ∧ Below w.heap.size w w' := by
  have H := Lib.hid h
  have HMS := Lib.hid hm
  clear h hm
  by_cases hL : Light n ps
  case neg =>
    have NL := Lib.hid hL
    clear hL
    go_enter Try.func5, Try.ntmps5
    go_wp2_with fail
    refine (heavy_c a n c ps _ H.out true ⟨(fun h => by cases h), fun h => absurd h NL.out⟩).mono ?_; rintro e w1 ⟨rfl, hb1⟩
    go_wp2_with fail
    refine (chwakes_c _).mono ?_; rintro e w2 ⟨rfl, hb2⟩
    go_wp2_with fail
    go_ret
    exact ⟨rfl, hb1.trans (hb2.mono hb1.size)⟩
  case pos =>
    by_cases hM : LightC nm ms
    case neg =>
      have NM := Lib.hid hM
      have LI := Lib.hid hL
      clear hM hL
      go_enter Try.func5, Try.ntmps5
      go_wp2_with fail
      refine (heavy_c a n c ps _ H.out false ⟨fun _ => LI.out, fun _ => rfl⟩).mono ?_; rintro e w1 ⟨rfl, hb1⟩
      have M1 := Lib.hid (HMS.out.below hb1)
      go_wp2_with fail
      refine (heavycerts_c am nm cm ms _ M1.out true ⟨(fun h => by cases h), fun h => absurd h NM.out⟩).mono ?_; rintro e w' ⟨rfl, rfl⟩
      go_wp2_with fail
      refine (chwakes_c _).mono ?_; rintro e w2 ⟨rfl, hb2⟩
      go_wp2_with fail
      go_ret
      exact ⟨rfl, hb1.trans (hb2.mono hb1.size)⟩
    case pos =>
      obtain ⟨ti, hi0, hz0, hz1, hz2⟩ := info_parts info_certT
      obtain ⟨tp, pi0, pz0, pz1, pz2⟩ := info_parts info_partT
      have LI := Lib.hid hL
      have LM := Lib.hid hM
      have S := Lib.hid hL.small
      have n12 := hL.n
      have m20 := hM.n
      clear hL hM
      go_enter Try.func5, Try.ntmps5
      go_wp2_with fail
      refine (heavy_c a n c ps _ H.out false ⟨fun _ => LI.out, fun _ => rfl⟩).mono ?_; rintro e w1 ⟨rfl, hb1⟩
      have M1 := Lib.hid (HMS.out.below hb1)
      have B1 := Lib.hid hb1
      clear hb1
      go_wp2_with fail
      refine (heavycerts_c am nm cm ms _ M1.out false ⟨fun _ => LM.out, fun _ => rfl⟩).mono ?_; rintro e w' ⟨rfl, rfl⟩
      go_upto_block 0 with fail
      go_cut [7] from 8 to 71 (fun s wx => ∃ (ops : List PD) (a1 : Option Addr) (c1 : Nat), s = .slice a1 (n * 2) c1 ∧ wx.ownsRow w.heap.size 32 4 (.slice a1 (n * 2) c1) (n * 2) (ops.flatMap pcell') ∧ ops.length = n * 2 ∧ (∀ q ∈ ops, OwnP w wx q ∧ q.cn ≤ 20) ∧ certsOf ops = ofInst inst (certsOf ps) ∧ Below w.heap.size w wx)
      case first =>
        go_wp2_with fail
        go_loopw [7, 23] (fun s i wr => ∃ k : Nat, k ≤ n ∧ i = .int .i64 k ∧ ∃ (ops : List PD) (a1 : Option Addr) (c1 : Nat), s = .slice a1 (k * 2) c1 ∧ wr.ownsRow w.heap.size 32 4 (.slice a1 (k * 2) c1) (k * 2) (ops.flatMap pcell') ∧ ops.length = k * 2 ∧ (∀ q ∈ ops, OwnP w wr q ∧ q.cn ≤ 20) ∧ certsOf ops = ofInst inst (certsOf (ps.take k)) ∧ Below w.heap.size w wr) (fun _ i _ => n - (intOf i).toNat)
        case atStart => exact ⟨0, by omega, rfl, [], none, 0, rfl, ⟨rfl, .inl ⟨rfl, rfl⟩⟩, rfl, by simp, rfl, B1.out⟩
        case round =>
          obtain ⟨wo, rfl⟩ : ∃ wo, wo = wr := ⟨_, rfl⟩
          obtain ⟨k, hk, rfl, ops, a1, c1, rfl, hO, hol, hops, hcs, hb⟩ := hrel
          have O := Lib.hid hO
          have OL := Lib.hid hol
          have OPS := Lib.hid hops
          have CS := Lib.hid hcs
          have B := Lib.hid hb
          by_cases hlt : k < n
          · obtain ⟨b, off, rfl, hbl, p, hp, hpI, z0, z1, z2, z3⟩ := H.out.get hlt
            have p0 := kept hb _ _ z0
            have p2 := kept hb _ _ z2
            have PL := (LI.out.c p (List.mem_of_getElem? hp)).2.n
            have CI := Lib.hid hpI.c
            have PI0 := Lib.hid hpI.i0
            have CT := Lib.hid (certsOf_take ps k p hp)
            obtain ⟨⟨pf, pva, pvn, pvc, pvs, pca, pcn, pcc, pcs, pse⟩, hpe⟩ : ∃ q, q = p := ⟨_, rfl⟩
            rw [← hpe] at p0 p2 z2 PL CI PI0 CT
            simp only at p0 p2 z2 PL CI PI0 CT
            have Z2 := Lib.hid z2
            have P2 := Lib.hid p2
            have i0 : (0 : Int) ≤ k := by omega
            have i1 : (k : Int) < n := by omega
            have LB0 := Lib.hid (Nat.lt_of_lt_of_le hbl hb.size)
            clear hO hol hops hcs hp hpI hpe hbl z0 z1 z2 z3 hb
            go_upto_region 8 with fail
            obtain ⟨w3, hw3⟩ : ∃ w3, w3 = wo.alloc (.cells #[.int .i64 pf, .slice none 0 0, .slice none 0 0, .int .i64 0] 32) := ⟨_, rfl⟩
            obtain ⟨gp, hgp⟩ : ∃ gp, gp = wo.heap.size := ⟨_, rfl⟩
            rw [← hw3, ← hgp]
            have b3 : Below wo.heap.size wo w3 := by rw [hw3]; exact (Below.refl _ _).alloc (Nat.le_refl _) _
            have K3 : Hid (Blk w3 gp 32 #[.int .i64 pf, .slice none 0 0, .slice none 0 0, .int .i64 0]) := Lib.hid (by rw [hw3, hgp]; exact Blk.new _ _ _)
            have B3 := Lib.hid b3
            have GP := Lib.hid (show wo.heap.size ≤ gp by omega)
            have p2 := kept b3 _ _ P2.out
            clear hw3 hgp b3 p0
            go_wp2_with fail
            go_loopw [38] (fun i wx => ∃ q : Nat, q ≤ pcn ∧ i = .int .i64 q ∧ ∃ (fcs : List CD) (fn : Nat) (a2 : Option Addr) (c2 : Nat), fcs = ofInst inst (pcs.take q) ∧ fcs.length = fn ∧ fn ≤ q ∧ Blk wx gp 32 #[.int .i64 pf, .slice none 0 0, .slice a2 fn c2, .int .i64 0] ∧ wx.ownsRow wo.heap.size 36 5 (.slice a2 fn c2) fn (fcs.flatMap ccell) ∧ Below wo.heap.size wo wx) (fun i _ => pcn - (intOf i).toNat)
            case atStart => exact ⟨0, by omega, rfl, [], 0, none, 0, rfl, rfl, by omega, K3.out, ⟨rfl, .inl ⟨rfl, rfl⟩⟩, B3.out⟩
            case round =>
              obtain ⟨q, hq, rfl, fcs, fn, a2, c2, hfcs, hfl, hfq, hK, hO2, hbx⟩ := hrel
              have FCS := Lib.hid hfcs
              have FL := Lib.hid hfl
              have K4 := Lib.hid hK
              have O4 := Lib.hid hO2
              have B4 := Lib.hid hbx
              have BW4 := Lib.hid (B.out.trans (hbx.mono B.out.size))
              have q2 := kept BW4.out _ _ Z2.out
              by_cases hq2 : q < pcn
              · obtain ⟨b5, o5, rfl, hbl5, x, hx, hxI, x0, x1, x2, x3, x4⟩ := CI.out.get hq2
                have y0 := kept BW4.out _ _ x0
                have y1 := kept BW4.out _ _ x1
                have y2 := kept BW4.out _ _ x2
                have y3 := kept BW4.out _ _ x3
                have y4 := kept BW4.out _ _ x4
                have NX := Lib.hid (ofInst_take inst pcs q x hx)
                have NBL := Lib.hid (show b < wo.heap.size ∧ b5 < wo.heap.size from ⟨LB0.out, Nat.lt_of_lt_of_le hbl5 B.out.size⟩)
                have XC : Hid (ccell x = [.int .i64 x.view, .int .i64 x.inst, .int .i64 x.seq, .slice x.ba x.bn x.bc, .slice x.va x.vn x.vc]) := Lib.hid rfl
                obtain ⟨xv, hxv⟩ : ∃ z, z = x.view := ⟨_, rfl⟩
                obtain ⟨xi, hxi⟩ : ∃ z, z = x.inst := ⟨_, rfl⟩
                obtain ⟨xs, hxs⟩ : ∃ z, z = x.seq := ⟨_, rfl⟩
                obtain ⟨xba, hxba⟩ : ∃ z, z = x.ba := ⟨_, rfl⟩
                obtain ⟨xbn, hxbn⟩ : ∃ z, z = x.bn := ⟨_, rfl⟩
                obtain ⟨xbc, hxbc⟩ : ∃ z, z = x.bc := ⟨_, rfl⟩
                obtain ⟨xva, hxva⟩ : ∃ z, z = x.va := ⟨_, rfl⟩
                obtain ⟨xvn, hxvn⟩ : ∃ z, z = x.vn := ⟨_, rfl⟩
                obtain ⟨xvc, hxvc⟩ : ∃ z, z = x.vc := ⟨_, rfl⟩
                rw [← hxv, ← hxi, ← hxs, ← hxba, ← hxbn, ← hxbc, ← hxva, ← hxvn, ← hxvc] at XC
                rw [← hxv] at y0
                rw [← hxi] at y1 NX
                rw [← hxs] at y2
                rw [← hxba, ← hxbn, ← hxbc] at y3
                rw [← hxva, ← hxvn, ← hxvc] at y4
                have j0 : (0 : Int) ≤ q := by omega
                have j1 : (q : Int) < pcn := by omega
                clear hx hxI hxv hxi hxs hxba hxbn hxbc hxva hxvn hxvc x0 x1 x2 x3 x4 hbl5 hbx hfcs hfl hK hO2
                by_cases h0 : xi = inst
                case neg =>
                  have e1 : (xi == inst) = false := beq_eq_false_iff_ne.2 h0
                  have N := Lib.hid (show ofInst inst (pcs.take (q + 1)) = fcs by rw [NX.out, if_neg h0, List.append_nil, FCS.out])
                  clear h0
                  go_wp2_with fail
                  go_roundw
                  case rel => exact ⟨q + 1, by omega, by go_num, fcs, fn, a2, c2, N.out.symm, FL.out, by omega, K4.out, O4.out, B4.out⟩
                  case measure => simp [intOf]; omega
                case pos =>
                  subst h0
                  have N := Lib.hid (show ofInst xi (pcs.take (q + 1)) = fcs ++ [x] by rw [NX.out, if_pos rfl, FCS.out])
                  have FN : Hid ((fcs ++ [x]).length = fn + 1) := Lib.hid (by rw [List.length_append, FL.out]; rfl)
                  go_wp2_with fail
                  have g2 : wr.cell? ⟨gp, 2, none⟩ = some (.slice a2 fn c2) := K4.out.cell 2
                  have KS : ∀ w', Below wr.heap.size wr w' → w'.cell? ⟨gp, 2, none⟩ = some (.slice a2 fn c2) ∧ w'.cell? ⟨b, off + k * 4 + 2, none⟩ = some (.slice (some ⟨b5, o5, none⟩) pcn pcc) ∧ w'.cell? ⟨b5, o5 + q * 5, none⟩ = some (.int .i64 xv) ∧ w'.cell? ⟨b5, o5 + q * 5 + 1, none⟩ = some (.int .i64 xi) ∧ w'.cell? ⟨b5, o5 + q * 5 + 2, none⟩ = some (.int .i64 xs) ∧ w'.cell? ⟨b5, o5 + q * 5 + 3, none⟩ = some (.slice xba xbn xbc) ∧ w'.cell? ⟨b5, o5 + q * 5 + 4, none⟩ = some (.slice xva xvn xvc) := fun w' o => ⟨kept o _ _ g2, kept o _ _ q2, kept o _ _ y0, kept o _ _ y1, kept o _ _ y2, kept o _ _ y3, kept o _ _ y4⟩
                  have E0 : Below wr.heap.size wr wr.drew := (Below.refl _ _).drew
                  refine wp_region_plan (fun w' => w'.cell? ⟨gp, 2, none⟩ = some (.slice a2 fn c2) ∧ w'.cell? ⟨b, off + k * 4 + 2, none⟩ = some (.slice (some ⟨b5, o5, none⟩) pcn pcc) ∧ w'.cell? ⟨b5, o5 + q * 5, none⟩ = some (.int .i64 xv) ∧ w'.cell? ⟨b5, o5 + q * 5 + 1, none⟩ = some (.int .i64 xi) ∧ w'.cell? ⟨b5, o5 + q * 5 + 2, none⟩ = some (.int .i64 xs) ∧ w'.cell? ⟨b5, o5 + q * 5 + 3, none⟩ = some (.slice xba xbn xbc) ∧ w'.cell? ⟨b5, o5 + q * 5 + 4, none⟩ = some (.slice xva xvn xvc)) 13 (.take 0 (.take 1 (.take 2 (.take 3 (.take 4 (.take 5 (.take 6 (.take 7 (.take 8 (.take 9 (.one 10 (.one 11 (.take 12 (.one 13 .done)))))))))))))) (by kernel_rfl) (by kernel_rfl) (by kernel_rfl) (KS _ E0) ?_
                  intro hS0
                  obtain ⟨v0, hv0⟩ : ∃ v, v = wr.drew := ⟨_, rfl⟩
                  have O5 := Lib.hid (show v0.ownsRow wo.heap.size 36 5 (.slice a2 fn c2) fn (fcs.flatMap ccell) by rw [hv0]; exact O4.out)
                  have K5 := Lib.hid (show Blk v0 gp 32 _ by rw [hv0]; exact K4.out)
                  have B5 := Lib.hid (show Below wo.heap.size wo v0 by rw [hv0]; exact B4.out.drew)
                  rw [← hv0] at hS0 E0 ⊢
                  clear hv0 g2 q2 y0 y1 y2 y3 y4
                  repeat (refine' wpPlan_take rfl (by rfl) (by assumption) ?_ ?_; rotate_left; (· (intro w hSw; (try dsimp only at hSw); go_simp; try with_reducible rfl)); try simp only [Act.put, List.setIfInBounds_toArray, List.set_cons_zero, List.set_cons_succ])
                  refine wpPlan_one rfl (fun KT hKT => ?_)
                  go_simp
                  refine hKT.out _ _ (KS _ (E0.alloc E0.size _)) (fun _ => ?_); clear hKT KT; try simp only [Act.put, List.setIfInBounds_toArray, List.set_cons_zero, List.set_cons_succ]
                  obtain ⟨v1, hv1⟩ : ∃ v, v = v0.alloc (.cells #[.int .i64 xv, .int .i64 xi, .int .i64 xs, .slice xba xbn xbc, .slice xva xvn xvc] 36) := ⟨_, rfl⟩
                  rw [← hv1]
                  have hb9 : Below v0.heap.size v0 v1 := by rw [hv1]; exact (Below.refl _ _).alloc (Nat.le_refl _) _
                  have O6 := Lib.hid (own_below O5.out hb9)
                  have K6 := Lib.hid (K5.out.below hb9 K5.out.lt)
                  have B6 := Lib.hid (B5.out.trans (hb9.mono B5.out.size))
                  have E1 := E0.trans (hb9.mono E0.size)
                  have V6 : Hid (VRow v1 (some ⟨v0.heap.size, 0, none⟩) 1 5 (ccell x)) := Lib.hid (by rw [XC.out, hv1]; exact VRow.of_blk (n := 1) (s := 5) (Blk.new v0 36 #[.int .i64 xv, .int .i64 xi, .int .i64 xs, .slice xba xbn xbc, .slice xva xvn xvc]) rfl)
                  have X1 := Lib.hid (show ∀ u ∈ ccell x, u.oneCell' = true from fun u hu => ccell_one [x] u (by simpa using hu))
                  have SK := KS _ E1
                  clear hv1 hb9
                  refine wpPlan_one rfl (fun KT hKT => ?_)
                  refine step_app (by rfl) _ _ _ (by rfl) wo.heap.size 36 ti _ 5 72 Try.underlying26 hi0 hz0 hz1 hz2 rfl (by omega) a2 fn c2 (fcs.flatMap ccell) (by rfl) O6.out (some ⟨v0.heap.size, 0, none⟩) 1 1 (ccell x) (by rfl) V6.out X1.out (by unfold maxLen; omega) (by omega) B6.out.size ?_
                  intro a5 c5 v2 h5
                  have KN : Only (a2.map (·.block)).toList v1 v2 := h5.only
                  have NE : gp ∉ (a2.map (·.block)).toList := fun hm => own_blk_ne O6.out K6.out (by decide) (by rw [own_block_eq]; exact Option.mem_toList.1 hm)
                  have K7 := Lib.hid (K6.out.only KN NE)
                  have B7 := Lib.hid (h5.below O6.out B6.out (Nat.le_refl _) B6.out.size)
                  have O7 := Lib.hid (show v2.ownsRow wo.heap.size 36 5 (.slice a5 (fn + 1) c5) (fn + 1) ((fcs ++ [x]).flatMap ccell) by rw [List.flatMap_append]; simpa using h5.own)
                  have g2' : v2.cell? ⟨gp, 2, none⟩ = some (.slice a2 fn c2) := K7.out.cell 2
                  have NB : Hid (∀ b', b' < wo.heap.size → b' ∉ (a2.map (·.block)).toList) := Lib.hid fun b' hb' hm => by
                    have := (World.ownsRow.lt O6.out b' (by rw [own_block_eq]; exact Option.mem_toList.1 hm)).1
                    omega
                  have SK2 : v2.cell? ⟨gp, 2, none⟩ = some (.slice a2 fn c2) ∧ v2.cell? ⟨b, off + k * 4 + 2, none⟩ = some (.slice (some ⟨b5, o5, none⟩) pcn pcc) ∧ v2.cell? ⟨b5, o5 + q * 5, none⟩ = some (.int .i64 xv) ∧ v2.cell? ⟨b5, o5 + q * 5 + 1, none⟩ = some (.int .i64 xi) ∧ v2.cell? ⟨b5, o5 + q * 5 + 2, none⟩ = some (.int .i64 xs) ∧ v2.cell? ⟨b5, o5 + q * 5 + 3, none⟩ = some (.slice xba xbn xbc) ∧ v2.cell? ⟨b5, o5 + q * 5 + 4, none⟩ = some (.slice xva xvn xvc) := by
                    have lb := NBL.out.1
                    have lb5 := NBL.out.2
                    exact ⟨g2', KN.cell_ SK.2.1 (NB.out b lb), KN.cell_ SK.2.2.1 (NB.out b5 lb5), KN.cell_ SK.2.2.2.1 (NB.out b5 lb5), KN.cell_ SK.2.2.2.2.1 (NB.out b5 lb5), KN.cell_ SK.2.2.2.2.2.1 (NB.out b5 lb5), KN.cell_ SK.2.2.2.2.2.2 (NB.out b5 lb5)⟩
                  clear h5
                  refine hKT.out _ _ (SK2) (fun _ => ?_); clear hKT KT; try simp only [Act.put, List.setIfInBounds_toArray, List.set_cons_zero, List.set_cons_succ]
                  repeat (refine' wpPlan_take rfl (by rfl) (by assumption) ?_ ?_; rotate_left; (· (intro w hSw; (try dsimp only at hSw); go_simp; try with_reducible rfl)); try simp only [Act.put, List.setIfInBounds_toArray, List.set_cons_zero, List.set_cons_succ])
                  refine wpPlan_last rfl (fun KT hKT => ?_)
                  have f2 := K7.out.frozen 2
                  go_simp
                  refine hKT.out _ _ ?_; clear hKT KT; try simp only [Act.put, List.setIfInBounds_toArray, List.set_cons_zero, List.set_cons_succ]
                  refine wpPlan_done ?_
                  obtain ⟨v3, hv3⟩ : ∃ v, v = v2.setCell ⟨gp, 2, none⟩ (.slice a5 (fn + 1) c5) := ⟨_, rfl⟩
                  rw [← hv3]
                  have K8 := Lib.hid (show Blk v3 gp 32 #[.int .i64 pf, .slice none 0 0, .slice a5 (fn + 1) c5, .int .i64 0] by rw [hv3]; exact K7.out.set_ 2 _)
                  have O8 := Lib.hid (show v3.ownsRow wo.heap.size 36 5 (.slice a5 (fn + 1) c5) (fn + 1) ((fcs ++ [x]).flatMap ccell) by rw [hv3]; exact ownsRow_setCell_other O7.out (own_blk_ne O7.out K7.out (by decide)) _)
                  have B8 := Lib.hid (show Below wo.heap.size wo v3 by rw [hv3]; exact B7.out.setCell (p := ⟨gp, 2, none⟩) GP.out _)
                  clear hv3 f2 g2' SK SK2 KN NE hS0 KS E0 E1
                  go_wp2_with fail
                  go_roundw
                  case rel => exact ⟨q + 1, by omega, by go_num, fcs ++ [x], fn + 1, a5, c5, N.out.symm, FN.out, by omega, K8.out, O8.out, B8.out⟩
                  case measure => simp [intOf]; omega
              · have hqq : q = pcn := by omega
                have LEN := CI.out.len
                have FA : Hid (fcs = ofInst inst pcs) := Lib.hid (by rw [FCS.out, List.take_of_length_le (by omega)])
                have FI : Hid (∀ x ∈ fcs, x.Is w) := Lib.hid fun x hx => by
                  rw [FA.out] at hx
                  exact CI.out.is x (List.mem_filter.1 hx).1
                have CS2 : Hid (certsOf (ops ++ [(PD.mk pf none 0 0 [] a2 fn c2 fcs 0), (PD.mk 12 none 0 0 [] none 0 0 [] 0)]) = ofInst inst (certsOf (ps.take (k + 1)))) := Lib.hid (by
                  rw [certsOf_append, CS.out, CT.out, ofInst_append, FA.out]
                  simp [certsOf])
                have OPL : Hid ((ops ++ [(PD.mk pf none 0 0 [] a2 fn c2 fcs 0), (PD.mk 12 none 0 0 [] none 0 0 [] 0)]).length = (k + 1) * 2) := Lib.hid (by rw [List.length_append, OL.out]; simp; omega)
                have g0 : wr.cell? ⟨gp, 0, none⟩ = some (.int .i64 pf) := hK.cell 0
                have g1 : wr.cell? ⟨gp, 1, none⟩ = some (.slice none 0 0) := hK.cell 1
                have g2 : wr.cell? ⟨gp, 2, none⟩ = some (.slice a2 fn c2) := hK.cell 2
                have g3 : wr.cell? ⟨gp, 3, none⟩ = some (.int .i64 0) := hK.cell 3
                have bz := (Below.refl wr.heap.size wr).alloc (Nat.le_refl _) (.cells #[.int .i64 pf, .slice none 0 0, .slice a2 fn c2, .int .i64 0, .int .i64 12, .slice none 0 0, .slice none 0 0, .int .i64 0] 32)
                have OW := Lib.hid (own_below (own_below O.out hbx) bz)
                have CO := Lib.hid (own_below hO2 bz)
                have OPW := Lib.hid (show ∀ q ∈ ops, OwnP w (wr.alloc (.cells #[.int .i64 pf, .slice none 0 0, .slice a2 fn c2, .int .i64 0, .int .i64 12, .slice none 0 0, .slice none 0 0, .int .i64 0] 32)) q ∧ q.cn ≤ 20 from fun q hq => ⟨((OPS.out q hq).1.below hbx).below bz, (OPS.out q hq).2⟩)
                have BZ := Lib.hid (BW4.out.trans (bz.mono BW4.out.size))
                have VZ : Hid (VRow (wr.alloc (.cells #[.int .i64 pf, .slice none 0 0, .slice a2 fn c2, .int .i64 0, .int .i64 12, .slice none 0 0, .slice none 0 0, .int .i64 0] 32)) (some ⟨wr.heap.size, 0, none⟩) 2 4 (([(PD.mk pf none 0 0 [] a2 fn c2 fcs 0), (PD.mk 12 none 0 0 [] none 0 0 [] 0)] : List PD).flatMap pcell')) := Lib.hid (VRow.of_blk (n := 2) (s := 4) (Blk.new wr 32 #[.int .i64 pf, .slice none 0 0, .slice a2 fn c2, .int .i64 0, .int .i64 12, .slice none 0 0, .slice none 0 0, .int .i64 0]) rfl)
                have QO : Hid (fn ≤ 20) := Lib.hid (by omega)
                have NQ : Hid (OwnP w (wr.alloc (.cells #[.int .i64 pf, .slice none 0 0, .slice a2 fn c2, .int .i64 0, .int .i64 12, .slice none 0 0, .slice none 0 0, .int .i64 0] 32)) (PD.mk pf none 0 0 [] a2 fn c2 fcs 0)) := Lib.hid ⟨⟨rfl, rfl, rfl, rfl⟩, own_base_le CO.out B.out.size, FL.out, FI.out, PI0.out, I64.zero⟩
                have NR : Hid (OwnP w (wr.alloc (.cells #[.int .i64 pf, .slice none 0 0, .slice a2 fn c2, .int .i64 0, .int .i64 12, .slice none 0 0, .slice none 0 0, .int .i64 0] 32)) (PD.mk 12 none 0 0 [] none 0 0 [] 0)) := Lib.hid ⟨⟨rfl, rfl, rfl, rfl⟩, ⟨rfl, .inl ⟨rfl, rfl⟩⟩, rfl, by simp, (show I64 12 from ⟨by omega, by omega⟩), I64.zero⟩
                clear hK hO2 hbx hfcs hfl bz hqq LEN q2
                go_wp2_with (at_builtin; refine wpList_app rfl _ _ _ rfl w.heap.size 32 tp _ 4 64 Try.underlying22 pi0 pz0 pz1 pz2 rfl (by omega) a1 (k * 2) c1 (ops.flatMap pcell') rfl OW.out (some ⟨wr.heap.size, 0, none⟩) 2 2 (([(PD.mk pf none 0 0 [] a2 fn c2 fcs 0), (PD.mk 12 none 0 0 [] none 0 0 [] 0)] : List PD).flatMap pcell') rfl VZ.out (pcell'_one _) (by unfold maxLen; omega) (by omega) BZ.out.size ?_; intro a5 c5 w5 h5)
                have O9 : Hid (w5.ownsRow w.heap.size 32 4 (.slice a5 (k * 2 + 2) c5) (k * 2 + 2) ((ops ++ [(PD.mk pf none 0 0 [] a2 fn c2 fcs 0), (PD.mk 12 none 0 0 [] none 0 0 [] 0)]).flatMap pcell')) := Lib.hid (by have := h5.own; rw [List.flatMap_append]; exact this)
                have OP9 : Hid (∀ q ∈ ops ++ [(PD.mk pf none 0 0 [] a2 fn c2 fcs 0), (PD.mk 12 none 0 0 [] none 0 0 [] 0)], OwnP w w5 q ∧ q.cn ≤ 20) := Lib.hid (fun q hq => by
                  rcases List.mem_append.1 hq with h | h
                  · exact ⟨(OPW.out q h).1.own OW.out h5.only, (OPW.out q h).2⟩
                  · simp only [List.mem_cons, List.not_mem_nil, or_false] at h
                    rcases h with rfl | rfl
                    · exact ⟨NQ.out.own OW.out h5.only, QO.out⟩
                    · exact ⟨NR.out.own OW.out h5.only, by simp⟩)
                have B9 : Hid (Below w.heap.size w w5) := Lib.hid (h5.below OW.out BZ.out (Nat.le_refl _) BZ.out.size)
                clear h5 g0 g1 g2 g3
                go_wp2_with fail
                go_roundw
                case rel => exact ⟨k + 1, by omega, by go_num, _, a5, c5, by rw [show (k + 1) * 2 = k * 2 + 2 by omega], by rw [show (k + 1) * 2 = k * 2 + 2 by omega]; exact O9.out, OPL.out, OP9.out, CS2.out, B9.out⟩
                case measure => simp [intOf]; omega
          · have hkn : k = n := by omega
            subst hkn
            have LEN := H.out.len
            have CA := Lib.hid (show certsOf ops = ofInst inst (certsOf ps) by rw [hcs, List.take_of_length_le (by omega)])
            clear hO hol hops hcs hb LEN
            go_wp2_with fail
            go_meet
            exact ⟨ops, a1, c1, rfl, O.out, OL.out, OPS.out, CA.out, B.out⟩
      case rest =>
        obtain ⟨ops, a1, c1, rfl, hO, hol, hops, hcs, hb⟩ := hcut
        obtain ⟨w4, hw4⟩ : ∃ w4, w4 = wc := ⟨_, rfl⟩
        rw [← hw4] at hO hops hb ⊢
        have O := Lib.hid hO
        have OL := Lib.hid hol
        have OPS := Lib.hid hops
        have CS := Lib.hid hcs
        have B := Lib.hid hb
        clear hw4 hO hol hops hcs hb
        go_upto_block 4 with fail
        go_cut [11] from 12 to 91 (fun s wx => ∃ (ocs : List CD) (on : Nat) (a3 : Option Addr) (c3 : Nat), s = .slice a3 on c3 ∧ ocs.length = on ∧ on ≤ nm ∧ (∀ x ∈ ocs, x.inst ≠ inst ∧ x.Is w ∧ x.bn ≤ 12 ∧ x.vn ≤ 30) ∧ wx.ownsRow w4.heap.size 36 5 (.slice a3 on c3) on (ocs.flatMap ccell) ∧ Below w4.heap.size w4 wx)
        case first =>
          go_wp2_with fail
          go_loopw [11, 74] (fun s i wr => ∃ j : Nat, j ≤ nm ∧ i = .int .i64 j ∧ ∃ (ocs : List CD) (on : Nat) (a3 : Option Addr) (c3 : Nat), s = .slice a3 on c3 ∧ ocs.length = on ∧ on ≤ j ∧ (∀ x ∈ ocs, x.inst ≠ inst ∧ x.Is w ∧ x.bn ≤ 12 ∧ x.vn ≤ 30) ∧ wr.ownsRow w4.heap.size 36 5 (.slice a3 on c3) on (ocs.flatMap ccell) ∧ Below w4.heap.size w4 wr) (fun _ i _ => nm - (intOf i).toNat)
          case atStart => exact ⟨0, by omega, rfl, [], 0, none, 0, rfl, rfl, by omega, by simp, ⟨rfl, .inl ⟨rfl, rfl⟩⟩, Below.refl _ _⟩
          case round =>
            obtain ⟨j, hj, rfl, ocs, on, a3, c3, rfl, hol3, hoj, hoc, hO3, hb3⟩ := hrel
            have OL3 := Lib.hid hol3
            have OC := Lib.hid hoc
            have O3 := Lib.hid hO3
            have B3 := Lib.hid hb3
            have BW3 := Lib.hid (B.out.trans (hb3.mono B.out.size))
            clear hol3 hoc hO3 hb3
            by_cases hjn : j < nm
            · obtain ⟨b5, o5, rfl, hbl5, x, hx, hxI, x0, x1, x2, x3, x4⟩ := HMS.out.get hjn
              have y0 := kept BW3.out _ _ x0
              have y1 := kept BW3.out _ _ x1
              have y2 := kept BW3.out _ _ x2
              have y3 := kept BW3.out _ _ x3
              have y4 := kept BW3.out _ _ x4
              have XIS := Lib.hid (show x.Is w ∧ x.bn ≤ 12 ∧ x.vn ≤ 30 from ⟨hxI, (LM.out.c x (List.mem_of_getElem? hx)).1, (LM.out.c x (List.mem_of_getElem? hx)).2⟩)
              have XC : Hid (ccell x = [.int .i64 x.view, .int .i64 x.inst, .int .i64 x.seq, .slice x.ba x.bn x.bc, .slice x.va x.vn x.vc]) := Lib.hid rfl
              have XI : Hid (x.inst ≠ inst → ∀ y ∈ ocs ++ [x], y.inst ≠ inst ∧ y.Is w ∧ y.bn ≤ 12 ∧ y.vn ≤ 30) := Lib.hid fun hne y hy => by
                rcases List.mem_append.1 hy with h | h
                · exact OC.out y h
                · simp only [List.mem_singleton] at h
                  subst h
                  exact ⟨hne, XIS.out⟩
              obtain ⟨xv, hxv⟩ : ∃ z, z = x.view := ⟨_, rfl⟩
              obtain ⟨xi, hxi⟩ : ∃ z, z = x.inst := ⟨_, rfl⟩
              obtain ⟨xs, hxs⟩ : ∃ z, z = x.seq := ⟨_, rfl⟩
              obtain ⟨xba, hxba⟩ : ∃ z, z = x.ba := ⟨_, rfl⟩
              obtain ⟨xbn, hxbn⟩ : ∃ z, z = x.bn := ⟨_, rfl⟩
              obtain ⟨xbc, hxbc⟩ : ∃ z, z = x.bc := ⟨_, rfl⟩
              obtain ⟨xva, hxva⟩ : ∃ z, z = x.va := ⟨_, rfl⟩
              obtain ⟨xvn, hxvn⟩ : ∃ z, z = x.vn := ⟨_, rfl⟩
              obtain ⟨xvc, hxvc⟩ : ∃ z, z = x.vc := ⟨_, rfl⟩
              rw [← hxv, ← hxi, ← hxs, ← hxba, ← hxbn, ← hxbc, ← hxva, ← hxvn, ← hxvc] at XC
              rw [← hxv] at y0
              rw [← hxi] at y1 XI
              rw [← hxs] at y2
              rw [← hxba, ← hxbn, ← hxbc] at y3
              rw [← hxva, ← hxvn, ← hxvc] at y4
              have j0 : (0 : Int) ≤ j := by omega
              have j1 : (j : Int) < nm := by omega
              clear hx hxI hxv hxi hxs hxba hxbn hxbc hxva hxvn hxvc x0 x1 x2 x3 x4 hbl5
              by_cases h0 : xi = inst
              case pos =>
                subst h0
                go_wp2_with fail
                go_roundw
                case rel => exact ⟨j + 1, by omega, by go_num, ocs, on, a3, c3, rfl, OL3.out, by omega, OC.out, O3.out, B3.out⟩
                case measure => simp [intOf]; omega
              case neg =>
                have e1 : (xi != inst) = true := bne_iff_ne.2 h0
                have X9 := Lib.hid (XI.out h0)
                have bz := (Below.refl wr.heap.size wr).alloc (Nat.le_refl _) (.cells #[.int .i64 xv, .int .i64 xi, .int .i64 xs, .slice xba xbn xbc, .slice xva xvn xvc] 36)
                have OZ := Lib.hid (own_below O3.out bz)
                have BZ := Lib.hid (B3.out.trans (bz.mono B3.out.size))
                have VZ : Hid (VRow (wr.alloc (.cells #[.int .i64 xv, .int .i64 xi, .int .i64 xs, .slice xba xbn xbc, .slice xva xvn xvc] 36)) (some ⟨wr.heap.size, 0, none⟩) 1 5 (ccell x)) := Lib.hid (by rw [XC.out]; exact VRow.of_blk (n := 1) (s := 5) (Blk.new wr 36 #[.int .i64 xv, .int .i64 xi, .int .i64 xs, .slice xba xbn xbc, .slice xva xvn xvc]) rfl)
                have X1 := Lib.hid (show ∀ u ∈ ccell x, u.oneCell' = true from fun u hu => ccell_one [x] u (by simpa using hu))
                clear h0 bz
                go_wp2_with (at_builtin; refine wpList_app rfl _ _ _ rfl w4.heap.size 36 ti _ 5 72 Try.underlying26 hi0 hz0 hz1 hz2 rfl (by omega) a3 on c3 (ocs.flatMap ccell) rfl OZ.out (some ⟨wr.heap.size, 0, none⟩) 1 1 (ccell x) rfl VZ.out X1.out (by unfold maxLen; omega) (by omega) BZ.out.size ?_; intro a5 c5 w5 h5)
                have O9 : Hid (w5.ownsRow w4.heap.size 36 5 (.slice a5 (on + 1) c5) (on + 1) ((ocs ++ [x]).flatMap ccell)) := Lib.hid (by rw [List.flatMap_append]; simpa using h5.own)
                have B9 : Hid (Below w4.heap.size w4 w5) := Lib.hid (h5.below OZ.out BZ.out (Nat.le_refl _) BZ.out.size)
                have L9 : Hid ((ocs ++ [x]).length = on + 1) := Lib.hid (by rw [List.length_append, OL3.out]; rfl)
                clear h5 y0 y1 y2 y3 y4
                go_wp2_with fail
                go_roundw
                case rel => exact ⟨j + 1, by omega, by go_num, ocs ++ [x], on + 1, a5, c5, rfl, L9.out, by omega, X9.out, O9.out, B9.out⟩
                case measure => simp [intOf]; omega
            · go_wp2_with fail
              go_meet
              exact ⟨ocs, on, a3, c3, rfl, OL3.out, by omega, OC.out, O3.out, B3.out⟩
        case rest =>
          obtain ⟨ocs, on, a3, c3, rfl, hol3, hon, hoc, hO3, hb3⟩ := hcut
          obtain ⟨w5, hw5⟩ : ∃ w5, w5 = wc := ⟨_, rfl⟩
          rw [← hw5] at hO3 hb3 ⊢
          clear hw5
          have OL3 := Lib.hid hol3
          have OC := Lib.hid hoc
          have OP5 := Lib.hid (show ∀ q ∈ ops, OwnP w w5 q ∧ q.cn ≤ 20 from fun q hq => ⟨(OPS.out q hq).1.below hb3, (OPS.out q hq).2⟩)
          have O5 := Lib.hid (own_below O.out hb3)
          have B5 := Lib.hid (B.out.trans (hb3.mono B.out.size))
          have Q5 : Hid (OwnP w w5 (PD.mk 0 none 0 0 [] a3 on c3 ocs 0)) := Lib.hid ⟨⟨rfl, rfl, rfl, rfl⟩, own_base_le hO3 B.out.size, hol3, fun c hc => (hoc c hc).2.1, I64.zero, I64.zero⟩
          have bz := (Below.refl w5.heap.size w5).alloc (Nat.le_refl _) (.cells #[.int .i64 0, .slice none 0 0, .slice a3 on c3, .int .i64 0] 32)
          have OPZ := Lib.hid (show ∀ q ∈ ops, OwnP w (w5.alloc (.cells #[.int .i64 0, .slice none 0 0, .slice a3 on c3, .int .i64 0] 32)) q ∧ q.cn ≤ 20 from fun q hq => ⟨(OP5.out q hq).1.below bz, (OP5.out q hq).2⟩)
          have OZ := Lib.hid (own_vrow (own_below O5.out bz))
          have BZ := Lib.hid (B5.out.trans (bz.mono B5.out.size))
          have QZ := Lib.hid (Q5.out.below bz)
          have RZ : Hid ((w5.alloc (.cells #[.int .i64 0, .slice none 0 0, .slice a3 on c3, .int .i64 0] 32)).ownsRow w.heap.size 32 4 (.slice (some ⟨w5.heap.size, 0, none⟩) 1 1) 1 (([(PD.mk 0 none 0 0 [] a3 on c3 ocs 0)] : List PD).flatMap pcell')) := Lib.hid
            (Row.own (Row.of_blk (n := 1) (s := 4) (Blk.new w5 32 #[.int .i64 0, .slice none 0 0, .slice a3 on c3, .int .i64 0]) rfl (by unfold maxLen; omega)) B5.out.size)
          have CF : Hid (ofInst inst (certsOf ([(PD.mk 0 none 0 0 [] a3 on c3 ocs 0)] ++ ops)) = ofInst inst (certsOf ps)) := Lib.hid (by
            rw [certsOf_append, ofInst_append, CS.out, ofInst_idem]
            have : ofInst inst (certsOf [(PD.mk 0 none 0 0 [] a3 on c3 ocs 0)]) = [] := by
              unfold ofInst
              rw [List.filter_eq_nil_iff]
              intro x hx
              have hx' : x ∈ ocs := by simpa [certsOf] using hx
              simpa using (hoc x hx').1
            rw [this, List.nil_append])
          clear hO3 hb3 hol3 hoc bz O5 OP5 Q5
          go_upto_region 24 with (at_builtin; refine wpList_app rfl _ _ _ rfl w.heap.size 32 tp _ 4 64 Try.underlying22 pi0 pz0 pz1 pz2 rfl (by omega) (some ⟨w5.heap.size, 0, none⟩) 1 1 (([(PD.mk 0 none 0 0 [] a3 on c3 ocs 0)] : List PD).flatMap pcell') rfl RZ.out a1 (n * 2) c1 (ops.flatMap pcell') rfl OZ.out (pcell'_one _) (by unfold maxLen; omega) (by omega) BZ.out.size ?_; intro a6 c6 w6 h6)
          have O6 : Hid (w6.ownsRow w.heap.size 32 4 (.slice a6 (1 + n * 2) c6) (1 + n * 2) (([(PD.mk 0 none 0 0 [] a3 on c3 ocs 0)] ++ ops).flatMap pcell')) := Lib.hid (by have := h6.own; rw [List.flatMap_append]; exact this)
          have B6 : Hid (Below w.heap.size w w6) := Lib.hid (h6.below RZ.out BZ.out (Nat.le_refl _) BZ.out.size)
          have OP6 : Hid (∀ q ∈ ([(PD.mk 0 none 0 0 [] a3 on c3 ocs 0)] ++ ops : List PD), OwnP w w6 q ∧ q.cn ≤ 20) := Lib.hid (fun q hq => by
            rcases List.mem_append.1 hq with h | h
            · simp only [List.mem_cons, List.not_mem_nil, or_false] at h
              subst h
              exact ⟨QZ.out.own RZ.out h6.only, by show on ≤ 20; omega⟩
            · exact ⟨(OPZ.out q h).1.own RZ.out h6.only, (OPZ.out q h).2⟩)
          obtain ⟨ds, hds⟩ : ∃ ds : List PD, ds = [(PD.mk 0 none 0 0 [] a3 on c3 ocs 0)] ++ ops := ⟨_, rfl⟩
          rw [← hds] at CF O6 OP6
          have DL : Hid (ds.length = 1 + n * 2) := Lib.hid (by rw [hds, List.length_append, OL.out]; rfl)
          have PO : Hid (Parts w6 a6 (1 + n * 2) c6 ds) := Lib.hid ⟨own_vrow O6.out, DL.out, own_cap O6.out, own_max O6.out, fun p hp => (OP6.out p hp).1.to B6.out⟩
          have DB : Hid (∀ p ∈ ds, ∀ c ∈ p.cs, c.bn ≤ 4096 ∧ c.vn ≤ 4096) := Lib.hid fun p hp c hc => by
            have hcd : c ∈ certsOf ds := List.mem_flatMap.2 ⟨p, hp, hc⟩
            rw [hds] at hcd
            rw [certsOf_append, List.mem_append] at hcd
            rcases hcd with h | h
            · have h' : c ∈ ocs := by simpa [certsOf] using h
              have := (OC.out c h').2.2
              omega
            · rw [CS.out] at h
              obtain ⟨p', hp', hc'⟩ := List.mem_flatMap.1 (List.mem_filter.1 h).1
              exact S.out.b p' hp' c hc'
          have SO : Hid (Small (1 + n * 2) ds) := Lib.hid ⟨by omega, fun p hp => by have := (OP6.out p hp).2; omega, DB.out⟩
          obtain ⟨l, hl⟩ : ∃ l, batches inst ps = l := ⟨_, rfl⟩
          obtain ⟨m, hm⟩ : ∃ m, l.length = m := ⟨_, rfl⟩
          have hl2 : batches inst ds = l := by rw [batches_filter CF.out, hl]
          have m16 : m ≤ 16 := by
            have := (greatest_le inst ps).2
            rw [← hm, ← hl, batches_len]
            omega
          have LB : Hid (∀ y ∈ l, y.length ≤ 4096) := Lib.hid (by rw [← hl]; exact batches_small H.out S.out inst)
          have HL := Lib.hid hl
          have HL2 := Lib.hid hl2
          have HM := Lib.hid hm
          clear h6 hds hl hl2 hm OPZ OZ QZ RZ BZ O6 OP6
          go_wp2_with fail
          refine (batches_c inst a6 (1 + n * 2) c6 ds _ PO.out SO.out hi l HL2.out m HM.out).mono ?_; rintro e w7 ⟨a7, c7, rfl, hbt, hb7⟩
          have BT7 := Lib.hid hbt
          have B7 := Lib.hid (B6.out.trans (hb7.mono B6.out.size))
          clear hbt hb7
          go_wp2_with fail
          refine (batches_c inst a n c ps _ (H.out.below B7.out) S.out hi l HL.out m HM.out).mono ?_; rintro e w8 ⟨a8, c8, rfl, hbt, hb8⟩
          have BU8 := Lib.hid hbt
          have BT8 := Lib.hid (BT7.out.below hb8)
          have B8 := Lib.hid (B7.out.trans (hb8.mono B7.out.size))
          clear hbt hb8 BT7
          go_wp2_with fail
          refine (kbatches_c _ _ a7 a8 m m c7 c8 l l _ BT8.out BU8.out m16 LB.out true (decide_eq_true rfl)).mono ?_; rintro e w9 ⟨rfl, hb9⟩
          have B9 := Lib.hid (B8.out.trans (hb9.mono B8.out.size))
          clear hb9
          go_wp2_with fail
          refine (chwakes_c _).mono ?_; rintro e wa ⟨rfl, hba⟩
          go_wp2_with fail
          go_ret
          exact ⟨rfl, B9.out.trans (hba.mono B9.out.size)⟩

set_option maxRecDepth 100000 in
theorem lawWalk : LawWalk Try.checked 5 Try.f5 := by
  intro H enc W base args ds p hval hA hsz
  rw [Try.params5] at hA hval
  obtain ⟨v0, vs0, d0, ds0, p0, q0, hargs, rfl, rfl, h0, r0⟩ := trodAll_cons hA
  obtain ⟨v1, vs1, d1, ds1, p1, q1, rfl, rfl, rfl, h1, r1⟩ := trodAll_cons r0
  obtain ⟨v2, vs2, d2, ds2, p2, q2, rfl, rfl, rfl, h2, r2⟩ := trodAll_cons r1
  obtain ⟨rfl, rfl, rfl⟩ := trodAll_nil r2
  obtain rfl : args = #[v0, v1, v2] := by cases args; simp_all
  obtain ⟨a0, rfl, rfl, rfl, w0⟩ := open_int Try.underlying3 (hval 0 3 v0 rfl rfl) h0
  obtain ⟨a1, n1, c1, ps1, rfl, hr1⟩ := open_parts (hval 1 22 v1 rfl rfl) h1
  obtain ⟨a2, n2, c2, ps2, rfl, hr2⟩ := open_certs (hval 2 26 v2 rfl rfl) h2
  exact walk a0 a1 n1 c1 ps1 a2 n2 c2 ps2 W (I64.of_wf w0) hr1 hr2

theorem lifted (os : Os) (started : os.Started) (H : Type) (enc : TypeId × Value → H) :
    ReturnsInHanded {} Try.checked os 5 .any (Rows.chooseOthersSpec.pre6 enc Try.prog Try.f5 Rows.chooseOthersRow.domain false) (Rows.chooseOthersSpec.post enc Try.prog Try.f5 false true false false) :=
  law_lift (C := Try.checked) (s := Rows.chooseOthersSpec) (tb := 4) (by kernel_rfl) started (by kernel_rfl) Try.func5
    (ChangeSpec.witness6 (enc := enc) (C := Try.checked) false ⟨#[], #[.int .i64 0, .slice none 0 0, .slice none 0 0], []⟩ 8 (by kernel_rfl) (by kernel_rfl) (by kernel_rfl) (by kernel_rfl))
    rfl (fun H ds h => by
      match ds, h with
      | [d0, d1, d2], _ => rfl) (by kernel_rfl) (by kernel_rfl) (by kernel_rfl) Try.underlying4 lawWalk

theorem over : Rows.chooseOthersRow.holds Try.pinned (OpenSpec.ofChange Rows.chooseOthersSpec) :=
  OpenClaim.holds_of_wide 5 Try.f5 rfl rfl rfl rfl rfl rfl rfl ⟨rfl, rfl, rfl, rfl, rfl⟩ rfl rfl rfl rfl rfl (by kernel_rfl) Try.func5 (by kernel_rfl)
    (of_decide_eq_true (by kernel_rfl)) (by unfold Func.isWrapper; first | (rw [if_pos (by decide +kernel)]; kernel_rfl) | (rw [if_neg (by decide +kernel)]; exact ⟨rfl, rfl⟩))
    (fun os started H enc _ => lifted os started H enc)

/-- The statement. -/
theorem proved : Rows.ChooseOthersSaid := over
#print axioms proved

end Go.Proofs.Ytpkifmophmjilaa.ChooseOthers
