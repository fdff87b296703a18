/- LedgerApart: for all numbers and batches the law returns true. No condition. -/
import Derived.Test.YtfhlcjfgbhmecaaLedgerI
import Derived.Test.YtfhlcjfgbhmecaaLedgerS
import Derived.Test.YtfhlcjfgbhmecaaKeep
import Derived.Test.YtfhlcjfgbhmecaaRows
import Derived.BigQuiet
namespace Go.Proofs.Ytfhlcjfgbhmecaa.LedgerApart
open Go.RowKit Go.ChangeShapes Go.WideShapes Go.ChangeAt
set_option linter.unusedVariables false

theorem info_req : (Try.prog.info? 33).map (fun i => (i.zero, i.size, i.bytes)) = some (some (.agg #[.int .i64 0, .int .i64 0, .int .i64 0, .int .i64 0, .int .i64 0, .int .i64 0]), 6, 48) := by kernel_rfl
def isC (q : Int) (r : Rq) : Bool := decide (r.1 = q)
/-- A log, and the log of one client's requests alone. -/
structure AP (q : Int) (sx sy : LSt) : Prop where
  lx : sx.2.2.length = 3
  ly : sy.2.2.length = 3
  last : lastOf sx.2.2 q = lastOf sy.2.2 q
  log : (sx.1.map (·.1)).filter (isC q) = sy.1.map (·.1)
theorem AP.step {q : Int} (hq : 0 ≤ q ∧ q < 3) {sx sy : LSt} (h : AP q sx sy) (r : Rq) : AP q (stepR sx r) (if isC q r then stepR sy r else sy) := by
  by_cases hr : r.1 = q
  · have hi : isC q r = true := decide_eq_true hr
    rw [hi, if_pos rfl]
    have hok : okR sx.2.2 r = okR sy.2.2 r := by
      unfold okR hasB
      rw [h.lx, h.ly, hr, h.last]
    unfold stepR
    rw [← hok]
    split
    · rename_i hk
      obtain ⟨_, h2, _, h4⟩ := okR_facts hk
      obtain ⟨_, h2', _, h4'⟩ := okR_facts (hok ▸ hk)
      refine ⟨?_, ?_, ?_, ?_⟩
      · show (putSt _ _ _ _).length = 3
        rw [putSt_len]; exact h.lx
      · show (putSt _ _ _ _).length = 3
        rw [putSt_len]; exact h.ly
      · show lastOf (putSt sx.2.2 r.1 r.2.1 (resR sx r)) q = lastOf (putSt sy.2.2 r.1 r.2.1 (resR sy r)) q
        rw [h4, h4', lastOf_set _ _ h2 _ _ _ hq.1, lastOf_set _ _ h2' _ _ _ hq.1, if_pos hr, if_pos hr]
      · show ((sx.1 ++ [(r, resR sx r)]).map (fun (e : Ent) => e.1)).filter (isC q) = (sy.1 ++ [(r, resR sy r)]).map (fun (e : Ent) => e.1)
        rw [List.map_append, List.filter_append, h.log, List.map_append]
        simp [hi]
    · exact h
  · have hi : isC q r = false := decide_eq_false hr
    rw [hi, if_neg (by simp)]
    unfold stepR
    split
    · rename_i hk
      obtain ⟨_, h2, _, h4⟩ := okR_facts hk
      refine ⟨?_, h.ly, ?_, ?_⟩
      · show (putSt _ _ _ _).length = 3
        rw [putSt_len]; exact h.lx
      · show lastOf (putSt sx.2.2 r.1 r.2.1 (resR sx r)) q = _
        rw [h4, lastOf_set _ _ h2 _ _ _ hq.1, if_neg hr]
        exact h.last
      · show ((sx.1 ++ [(r, resR sx r)]).map (fun (e : Ent) => e.1)).filter (isC q) = _
        rw [List.map_append, List.filter_append, h.log]
        simp [hi]
    · exact h
theorem AP.run {q : Int} (hq : 0 ≤ q ∧ q < 3) {sx sy : LSt} (h : AP q sx sy) : ∀ rs, AP q (runL sx rs) (runL sy (rs.filter (isC q))) := by
  intro rs
  induction rs generalizing sx sy with
  | nil => exact h
  | cons r rs ih =>
    have h1 := ih (h.step hq r)
    have e : runL sx (r :: rs) = runL (stepR sx r) rs := rfl
    rw [e]
    by_cases hi : isC q r = true
    · rw [hi, if_pos rfl] at h1
      rw [List.filter_cons, if_pos hi]
      exact h1
    · rw [if_neg hi] at h1
      rw [List.filter_cons, if_neg hi]
      exact h1
theorem AP.new (q : Int) : AP q ([], st0, List.replicate 3 (0, 0)) ([], st0, List.replicate 3 (0, 0)) := ⟨by simp, by simp, rfl, rfl⟩
theorem rq_cells {w : World} {a : Option Addr} {n : Nat} {rs : List Rq} (h : VRow w a n 6 (rs.flatMap rqc)) (hn : rs.length = n) (k : Nat) (hk : k < n) : ∃ b off, a = some ⟨b, off, none⟩ ∧ ∃ e, rs[k]? = some e ∧ w.cell? ⟨b, off + k * 6, none⟩ = some (.int .i64 e.1) ∧ w.cell? ⟨b, off + k * 6 + 1, none⟩ = some (.int .i64 e.2.1) ∧ w.cell? ⟨b, off + k * 6 + 2, none⟩ = some (.int .i64 e.2.2.1) ∧
    w.cell? ⟨b, off + k * 6 + 3, none⟩ = some (.int .i64 e.2.2.2.1) ∧ w.cell? ⟨b, off + k * 6 + 4, none⟩ = some (.int .i64 e.2.2.2.2.1) ∧ w.cell? ⟨b, off + k * 6 + 5, none⟩ = some (.int .i64 e.2.2.2.2.2) := by
  obtain ⟨b, off, rfl, hlt, hc⟩ := h.2 (by omega)
  have hk' : k < rs.length := by omega
  have key : ∀ j v, j < 6 → (rqc rs[k])[j]? = some v → w.cell? ⟨b, off + k * 6 + j, none⟩ = some v := fun j v hj hv => by
    rw [Nat.add_assoc]
    exact hc _ _ (flat_get' rqc 6 rqc_len rs k j hj hk' v hv)
  exact ⟨b, off, rfl, rs[k], List.getElem?_eq_getElem hk', key 0 _ (by omega) rfl, key 1 _ (by omega) rfl, key 2 _ (by omega) rfl, key 3 _ (by omega) rfl, key 4 _ (by omega) rfl, key 5 _ (by omega) rfl⟩
theorem filt_succ (q : Int) (rs : List Rq) (k : Nat) (e : Rq) (he : rs[k]? = some e) : (rs.take (k + 1)).filter (isC q) = (rs.take k).filter (isC q) ++ if e.1 = q then [e] else [] := by
  rw [List.take_add_one, he, List.filter_append]
  congr 1
  by_cases h : e.1 = q
  · rw [if_pos h, Option.toList_some, List.filter_cons, if_pos (show isC q e = true from decide_eq_true h)]; rfl
  · rw [if_neg h, Option.toList_some, List.filter_cons, if_neg (by simp [isC, h])]; rfl
theorem filt_get (q : Int) (rs : List Rq) (k : Nat) (e : Rq) (he : rs[k]? = some e) (h : e.1 = q) : (rs.filter (isC q))[((rs.take k).filter (isC q)).length]? = some e := by
  have h1 : rs = rs.take (k + 1) ++ rs.drop (k + 1) := (List.take_append_drop _ _).symm
  have h2 := congrArg (List.filter (isC q)) h1
  rw [List.filter_append, filt_succ q rs k e he, if_pos h, List.append_assoc] at h2
  rw [h2, List.getElem?_append_right (Nat.le_refl _), Nat.sub_self]
  rfl

structure Bth (w w2 w3 wr : World) (gx gy : Nat) (Sx Sy : List Nat) (sx sy : LSt) : Prop where
  x : Led wr Sx gx 3 sx.1 sx.2.1 sx.2.2
  y : Led wr Sy gy 3 sy.1 sy.2.1 sy.2.2
  dis : ∀ k ∈ Sx, k ∉ Sy
  gx' : ∀ k ∈ Sx, w.heap.size ≤ k
  gy' : ∀ k ∈ Sy, w.heap.size ≤ k
  mx : ∀ k ∈ Sx, k < w2.heap.size ∨ w3.heap.size ≤ k
  my : ∀ k ∈ Sy, k < w2.heap.size ∨ w3.heap.size ≤ k
  m : Mid w2.heap.size w3 wr
  b : Below w.heap.size w wr
theorem Bth.below {w w2 w3 wr wx : World} {gx gy : Nat} {Sx Sy : List Nat} {sx sy : LSt} (h : Bth w w2 w3 wr gx gy Sx Sy sx sy) (hb : Below wr.heap.size wr wx) : Bth w w2 w3 wx gx gy Sx Sy sx sy :=
  ⟨h.x.below hb, h.y.below hb, h.dis, h.gx', h.gy', h.mx, h.my, h.m.below hb, h.b.trans (hb.mono h.b.size)⟩

set_option maxRecDepth 100000 in
set_option maxHeartbeats 6400000 in
theorem walk (a1 : Option Addr) (n1 c1 : Nat) (R1 : Nat → Inner) (cl : Int) (w : World) (hr1 : Rows2 w a1 n1 6 R1) (hm1 : n1 ≤ maxLen) (hc1 : n1 ≤ c1) (hcl : I64 cl) :
    Calls Try.prog 3 #[.slice a1 n1 c1, .int .i64 cl] w fun e w' => e = .returned (.bool true) ∧ Below w.heap.size w w' := by
  obtain ⟨i0, hi0, hz0, hz1, hz2⟩ := info_parts info_req
  have HR1 := Lib.hid hr1
  have M1 := Lib.hid hm1
  clear hr1 hm1
  go_enter Try.func3, Try.ntmps3
  go_wp2_with fail
  refine (within_q cl 3 _ hcl (by omega) (by omega)).mono ?_; rintro e w' ⟨q, rfl, _, q0, q3, rfl⟩
  have qi : I64 q := by unfold I64; omega
  go_wp2_with fail
  refine (lnew_ok 3 (by omega) (by omega) _).mono ?_; rintro e w1 ⟨Sx, gx, rfl, hLx, hSx, hb1⟩
  have LX := Lib.hid hLx
  have SX := Lib.hid hSx
  have B1 := Lib.hid hb1
  clear hLx hSx hb1
  go_wp2_with fail
  refine (lnew_ok 3 (by omega) (by omega) _).mono ?_; rintro e w2 ⟨Sy, gy, rfl, hLy, hSy, hb2⟩
  have LX2 := Lib.hid (LX.out.below hb2)
  have LY := Lib.hid hLy
  have SY := Lib.hid hSy
  have B2 := Lib.hid (B1.out.trans (hb2.mono B1.out.size))
  clear hLy hSy hb2
  go_wp2_with fail
  refine (cut_c w a1 n1 c1 R1 _ HR1.out B2.out M1.out).mono ?_; rintro e w3 ⟨b2, m2, d2, bs, rfl, ho3, hbB, hlB, hmB, hb3⟩
  have OB := Lib.hid ho3
  have BB := Lib.hid hbB
  have LB := Lib.hid hlB
  have BGE := Lib.hid (own_ge ho3)
  have S3 := Lib.hid (show Bth w w2 w3 w3 gx gy Sx Sy ([], st0, List.replicate 3 (0, 0)) ([], st0, List.replicate 3 (0, 0)) from
    ⟨LX2.out.below hb3, LY.out.below hb3, fun k hx hy => by have := LX.out.lt k hx; have := SY.out k hy; omega, SX.out, fun k hk => Nat.le_trans B1.out.size (SY.out k hk), fun k hk => .inl (LX2.out.lt k hk), fun k hk => .inl (LY.out.lt k hk), Mid.refl _ _, B2.out.trans (hb3.mono B2.out.size)⟩)
  clear ho3 hbB hlB hb3 LX SX B1 LX2 LY SY
  go_wp2_with fail
  go_loopw [44] (fun i wr => ∃ (k : Nat) (Sx Sy : List Nat) (sx sy : LSt), k ≤ m2 ∧ i = .int .i64 k ∧ Bth w w2 w3 wr gx gy Sx Sy sx sy ∧ AP q sx sy ∧ sx.1.length ≤ 8 * k ∧ sy.1.length ≤ 8 * k) (fun i _ => m2 - (intOf i).toNat)
  case atStart => exact ⟨0, Sx, Sy, _, _, by omega, rfl, S3.out, AP.new q, by simp, by simp⟩
  case round =>
    obtain ⟨k, Sx, Sy, sx, sy, hk, rfl, hB, hA, hlx, hly⟩ := hrel
    have B := Lib.hid hB
    have A := Lib.hid hA
    clear hB hA
    by_cases hlt : k < m2
    · have VB := Lib.hid ((own_vrow OB.out).mid B.out.m BGE.out)
      obtain ⟨b, off, hb2e, hbl, hcell⟩ := VB.out.2 (by omega)
      have kb : k < bs.length := by rw [LB.out]; exact hlt
      have c0 : wr.cell? ⟨b, off + k, none⟩ = some (bval bs[k]) := hcell k _ (by rw [List.getElem?_map, List.getElem?_eq_getElem kb]; rfl)
      have hx := BB.out _ (List.getElem_mem kb)
      obtain ⟨⟨xa, xn, xc, xrs⟩, hx'⟩ : ∃ x, x = bs[k] := ⟨_, rfl⟩
      rw [← hx'] at c0 hx
      have HX := Lib.hid hx
      have xn8 : xn ≤ 8 := hx.m
      have XL := Lib.hid (show xrs.length = xn from hx.l)
      unfold bval at c0
      simp only at c0
      have i1 : (0 : Int) ≤ k := by omega
      have i2 : (k : Int) < m2 := by omega
      clear hcell hx hx'
      subst hb2e
      obtain ⟨w5, hw5⟩ : ∃ w5, w5 = wr := ⟨_, rfl⟩
      subst hw5
      go_wp2_with fail
      have W0 := Lib.hid (Below.refl w5.heap.size w5)
      go_loopw [10, 52] (fun o j wx => ∃ (i : Nat) (F : List Rq) (a5 : Option Addr) (c5 : Nat), i ≤ xn ∧ j = .int .i64 i ∧ F = (xrs.take i).filter (isC q) ∧ o = .slice a5 F.length c5 ∧ wx.ownsRow w5.heap.size 33 6 (.slice a5 F.length c5) F.length (F.flatMap rqc) ∧ Below w5.heap.size w5 wx) (fun _ j _ => xn - (intOf j).toNat)
      case atStart => exact ⟨0, [], none, 0, by omega, rfl, by simp, rfl, ⟨by simp, .inl ⟨rfl, rfl⟩⟩, W0.out⟩
      case round =>
        obtain ⟨i, F, a5, c5, hi, rfl, hF, rfl, hO, hbz⟩ := hrel
        have O := Lib.hid hO
        have BZ := Lib.hid hbz
        have HF := Lib.hid hF
        have fl : F.length ≤ i := by
          rw [hF]
          exact Nat.le_trans (List.length_filter_le _ _) (by rw [List.length_take]; omega)
        have cc : wr.cell? ⟨b, off + k, none⟩ = some (.slice xa xn xc) := (hbz.cell (p := ⟨b, off + k, none⟩) hbl).trans c0
        have zr := hbz.size
        by_cases hix : i < xn
        · obtain ⟨b6, o6, rfl, ⟨r0, r1, r2, r3, r4, r5⟩, he, p0, p1, p2, p3, p4, p5⟩ := rq_cells (HX.out.v.below (B.out.b.trans (hbz.mono B.out.b.size))) XL.out i hix
          simp only at p0 p1 p2 p3 p4 p5
          have FSx := Lib.hid (filt_succ q xrs i _ he)
          have j1 : (0 : Int) ≤ i := by omega
          have j2 : (i : Int) < xn := by omega
          clear he hF hO hbz
          by_cases hr : r0 = q
          · have FN := Lib.hid (show F ++ [(r0, r1, r2, r3, r4, r5)] = (xrs.take (i + 1)).filter (isC q) by rw [FSx.out, if_pos hr, HF.out])
            have e1 : (r0 == q) = true := beq_iff_eq.2 hr
            clear hr
            have hll : (F.flatMap rqc).length = F.length * 6 := flat_len rqc 6 rqc_len F
            go_wp2_with (at_builtin; refine wpList_append_lies _ rfl (.tmp 65) (.tmp 73) _ rfl w5.heap.size 33 i0 _ 6 48 Try.underlying29 hi0 hz0 hz1 hz2 rfl (by omega) (.slice a5 F.length c5) F.length (F.flatMap rqc) rfl (World.ownsRow.alloc O.out _) ⟨wr.heap.size, 0, none⟩ 1 1 [.int .i64 r0, .int .i64 r1, .int .i64 r2, .int .i64 r3, .int .i64 r4, .int .i64 r5] rfl rfl (World.news_of_block (cs := #[.int .i64 r0, .int .i64 r1, .int .i64 r2, .int .i64 r3, .int .i64 r4, .int .i64 r5]) (t := 33) (fr := (0, 0)) (Blk.new _ _ _)) (by simp [Value.oneCell']) (by omega) (by unfold maxLen; omega) (by omega) (by simp; omega) (wr.heap.size + 1) (by simp) ?_; intro g5 cap5 w6 hown6 hgrow6 hat6 hlt6)
            have B6 := (BZ.out.alloc zr (.cells #[.int .i64 r0, .int .i64 r1, .int .i64 r2, .int .i64 r3, .int .i64 r4, .int .i64 r5] 33)).grown hgrow6 (Nat.le_trans zr (by simp)) (fun j hj => (O.out.lt j hj).1)
            refine ⟨⟨i + 1, F ++ [(r0, r1, r2, r3, r4, r5)], some ⟨g5, 0, none⟩, cap5, by omega, by go_num, FN.out, by rw [List.length_append]; rfl, ?_, B6⟩, by simp [intOf]; omega⟩
            rw [List.length_append, List.flatMap_append]
            exact hown6
          · have FN := Lib.hid (show F = (xrs.take (i + 1)).filter (isC q) by rw [FSx.out, if_neg hr, List.append_nil, HF.out])
            have e1 : (r0 == q) = false := beq_eq_false_iff_ne.2 hr
            go_wp2_with fail
            exact ⟨⟨i + 1, F, a5, c5, by omega, by go_num, FN.out, rfl, O.out, BZ.out⟩, by simp [intOf]; omega⟩
        · have hF2 : F = xrs.filter (isC q) := by rw [hF, List.take_of_length_le (by rw [XL.out]; omega)]
          have HF2 := Lib.hid hF2
          have B6 := Lib.hid (B.out.below hbz)
          have FI := Lib.hid (show ∀ r ∈ F, RqI r from fun r hr => HX.out.i r ((List.mem_filter.1 (by rw [← hF2]; exact hr)).1))
          obtain ⟨fn, hfn⟩ : ∃ fn, fn = F.length := ⟨_, rfl⟩
          rw [← hfn] at fl O ⊢
          have FNN := Lib.hid hfn
          clear hF hF2 hO hbz hfn
          go_wp2_with fail
          refine (run_more Sx gx 3 sx ⟨xa, xn, xc, xrs⟩ w _ B6.out.x HX.out B6.out.b B6.out.gx' (by omega) _ rfl).mono ?_
          rintro e w7 ⟨Sx', a7, m7, c7, out7, rfl, hL7, hs7, ho7, hm7, _, _, hon7, hS7, hb7, hS7'⟩
          have y7 := B6.out.y.only hon7 (fun k hk hm => B6.out.dis k hm hk)
          have o7 := own_only O.out hon7 (fun g hg hm => by
            have h1 := B.out.x.lt g hm
            have h2 := (O.out.lt g hg).1
            omega)
          have O7 := Lib.hid o7
          have Y7 := Lib.hid y7
          have L7 := Lib.hid hL7
          have X7 := Lib.hid (show sx.1.length + 8 ≥ (runL sx xrs).1.length by rw [hs7, List.length_append]; omega)
          have M7 := Lib.hid (B6.out.m.step hon7 B6.out.mx)
          have SX7 := Lib.hid (show ∀ k ∈ Sx', k < w2.heap.size ∨ w3.heap.size ≤ k from fun k hk => by
            rcases hS7' k hk with h | h
            · exact B6.out.mx k h
            · have := B6.out.m.size
              exact .inr (by omega))
          have DIS7 := Lib.hid (show ∀ k ∈ Sx', k ∉ Sy from fun k hk hy => by
            rcases hS7' k hk with h | h
            · exact B6.out.dis k h hy
            · have := B6.out.y.lt k hy
              omega)
          have GX7 := Lib.hid hS7
          have BB7 := Lib.hid hb7
          clear hL7 hs7 ho7 hon7 hS7 hb7 hS7' o7 y7
          go_wp2_with fail
          have VF := Lib.hid (show VRow w7 a5 fn 6 (F.flatMap rqc) from own_vrow O7.out)
          obtain ⟨⟨outy, sty, cty⟩, hry⟩ : ∃ z, runL ([], sy.2.1, sy.2.2) F = z := ⟨_, rfl⟩
          have RY := Lib.hid hry
          have RYA := Lib.hid (show runL sy F = (sy.1 ++ outy, sty, cty) by
            have := runL_app sy.1 sy.2.1 sy.2.2 F
            rw [hry] at this
            exact this)
          have oy : outy.length ≤ fn := by
            have := (runL_inv (s := ([], sy.2.1, sy.2.2)) Y7.out.sm F).2.2
            rw [hry, ← FNN.out] at this
            simpa using this
          clear hry
          refine (run_c Sy gy 3 sy.1 sy.2.1 sy.2.2 a5 fn c5 F w7 Y7.out VF.out (fun h0 p hp hm => by
            have h1 := own_ge O7.out p hp
            have h2 := B.out.y.lt _ hm
            omega) FNN.out.symm (by omega) FI.out outy sty cty RY.out outy.length rfl).mono ?_
          rintro e w8 ⟨Sy', a8, c8, rfl, hL8, ho8, _, hon8, hS8'⟩
          have AA := A.out.run ⟨q0, q3⟩ xrs
          rw [← HF2.out, RYA.out] at AA
          have AA := Lib.hid AA
          have BN := Lib.hid (show Bth w w2 w3 w8 gx gy Sx' Sy' (runL sx xrs) (sy.1 ++ outy, sty, cty) from
            ⟨L7.out.only hon8 DIS7.out, hL8, fun k hk hy => by
              rcases hS8' k hy with h | h
              · exact DIS7.out k hk h
              · have := L7.out.lt k hk
                omega,
            GX7.out, fun k hk => by
              rcases hS8' k hk with h | h
              · exact B6.out.gy' k h
              · exact Nat.le_trans BB7.out.size h,
            SX7.out, fun k hk => by
              rcases hS8' k hk with h | h
              · exact B6.out.my k h
              · have := M7.out.size
                exact .inr (by omega),
            M7.out.step hon8 B6.out.my, hon8.below BB7.out BB7.out.size B6.out.gy'⟩)
          have X8 := X7.out
          clear hL8 ho8 hon8 hS8'
          go_wp2_with fail
          refine ⟨⟨k + 1, Sx', Sy', _, _, by omega, by go_num, BN.out, AA.out, by omega, ?_⟩, by simp [intOf]; omega⟩
          show (sy.1 ++ outy).length ≤ _
          rw [List.length_append]
          omega
    · have hkm : k = m2 := by omega
      obtain ⟨E, hE⟩ : ∃ E, sx.1 = E := ⟨_, rfl⟩
      obtain ⟨F, hF⟩ : ∃ F, sy.1 = F := ⟨_, rfl⟩
      obtain ⟨nE, hnE⟩ : ∃ nE, E.length = nE := ⟨_, rfl⟩
      obtain ⟨nF, hnF⟩ : ∃ nF, F.length = nF := ⟨_, rfl⟩
      rw [hE, hnE] at hlx
      rw [hF, hnF] at hly
      have e160 : nE ≤ 160 := by omega
      have f160 : nF ≤ 160 := by omega
      have LX := Lib.hid (show Led wr Sx gx 3 E sx.2.1 sx.2.2 by rw [← hE]; exact B.out.x)
      have LY := Lib.hid (show Led wr Sy gy 3 F sy.2.1 sy.2.2 by rw [← hF]; exact B.out.y)
      have LOG := Lib.hid (show (E.map (fun (e : Ent) => e.1)).filter (isC q) = F.map (fun (e : Ent) => e.1) by rw [← hE, ← hF]; exact A.out.log)
      have NE := Lib.hid hnE
      have NF := Lib.hid hnF
      obtain ⟨lt, hlt'⟩ : ∃ lt, lastOf sx.2.2 q = lt := ⟨_, rfl⟩
      have TX := Lib.hid hlt'
      have TY := Lib.hid (show lastOf sy.2.2 q = lt by rw [← hlt']; exact A.out.last.symm)
      clear hlx hly hE hF hnE hnF hlt'
      go_wp2_with fail
      refine (lall_c Sx gx 3 E sx.2.1 sx.2.2 _ LX.out nE NE.out (by omega)).mono ?_; rintro e w6 ⟨a6, c6, rfl, ho6, hb6⟩
      have V6 := Lib.hid (own_vrow ho6)
      have LY6 := Lib.hid (LY.out.below hb6)
      have LX6 := Lib.hid (LX.out.below hb6)
      have B6 := Lib.hid (B.out.b.trans (hb6.mono B.out.b.size))
      clear ho6 hb6
      go_wp2_with fail
      refine (lall_c Sy gy 3 F sy.2.1 sy.2.2 _ LY6.out nF NF.out (by omega)).mono ?_; rintro e w7 ⟨a7, c7, rfl, ho7, hb7⟩
      have V7 := Lib.hid (own_vrow ho7)
      have V67 := Lib.hid (V6.out.below hb7)
      have LY7 := Lib.hid (LY6.out.below hb7)
      have LX7 := Lib.hid (LX6.out.below hb7)
      have B7 := Lib.hid (B6.out.trans (hb7.mono B6.out.size))
      have W0 := Lib.hid (Below.refl w7.heap.size w7)
      clear ho7 hb7
      go_wp2_with fail
      go_loopw [14, 92] (fun s j wx => ∃ i n : Nat, i ≤ nE ∧ j = .int .i64 i ∧ s = .int .i64 n ∧ n = (((E.map (fun (e : Ent) => e.1)).take i).filter (isC q)).length ∧ Below w7.heap.size w7 wx) (fun _ j _ => nE - (intOf j).toNat)
      case atStart => exact ⟨0, 0, by omega, rfl, rfl, by simp, W0.out⟩
      case round =>
        obtain ⟨i, n, hi, rfl, rfl, hn, hbx⟩ := hrel
        have BX := Lib.hid hbx
        have NN := Lib.hid hn
        have ni : n ≤ i := by
          rw [hn]
          exact Nat.le_trans (List.length_filter_le _ _) (by rw [List.length_take]; omega)
        by_cases hie : i < nE
        · obtain ⟨b8, o8, rfl, hb8, ⟨⟨x0, x1, x2, x3, x4, x5⟩, x6⟩, he1, p0, p1, p2, p3, p4, p5, p6⟩ := ent_cells (V67.out.below hbx) NE.out i hie
          simp only at p0 p1 p2 p3 p4 p5 p6
          have hm : (E.map (fun (e : Ent) => e.1))[i]? = some (x0, x1, x2, x3, x4, x5) := by rw [List.getElem?_map, he1]; rfl
          have FSx := Lib.hid (filt_succ q _ i _ hm)
          have j1 : (0 : Int) ≤ i := by omega
          have j2 : (i : Int) < nE := by omega
          by_cases hx : x0 = q
          · have hg := filt_get q _ i _ hm hx
            rw [LOG.out, ← hn] at hg
            have hnf : n < nF := by
              have := (List.getElem?_eq_some_iff.1 hg).1
              rw [List.length_map, NF.out] at this
              exact this
            obtain ⟨b9, o9, rfl, hb9, ⟨⟨y0, y1, y2, y3, y4, y5⟩, y6⟩, he2, q0', q1', q2', q3', q4', q5', q6'⟩ := ent_cells (V7.out.below hbx) NF.out n hnf
            simp only at q0' q1' q2' q3' q4' q5' q6'
            rw [List.getElem?_map, he2] at hg
            cases hg
            have e1 : (x0 != q) = false := by rw [hx]; simp
            have FN := Lib.hid (show n + 1 = (((E.map (fun (e : Ent) => e.1)).take (i + 1)).filter (isC q)).length by rw [FSx.out, if_pos hx, List.length_append, ← NN.out]; rfl)
            have j3 : (0 : Int) ≤ n := by omega
            have j4 : (n : Int) < nF := by omega
            have d1 : decide ((nF : Int) ≤ n) = false := decide_eq_false (by omega)
            have d1' : decide (nF ≤ n) = false := decide_eq_false (by omega)
            have d1'' : decide ((n : Int) ≥ nF) = false := decide_eq_false (by omega)
            clear hx he1 hm he2 hn hbx hb8 hb9
            go_wp2_with fail
            go_quiet (fail)
            go_wp2_with fail
            exact ⟨⟨i + 1, n + 1, by omega, by go_num, by go_num, FN.out, below_drewN BX.out nq⟩, by simp [intOf]; omega⟩
          · have e1 : (x0 != q) = true := bne_iff_ne.2 hx
            have FN := Lib.hid (show n = (((E.map (fun (e : Ent) => e.1)).take (i + 1)).filter (isC q)).length by rw [FSx.out, if_neg hx, List.append_nil, ← NN.out])
            clear hx he1 hm hn hbx hb8
            go_wp2_with fail
            exact ⟨⟨i + 1, n, by omega, by go_num, rfl, FN.out, BX.out⟩, by simp [intOf]; omega⟩
        · have hnn : n = nF := by
            rw [hn, List.take_of_length_le (by rw [List.length_map, NE.out]; omega), LOG.out, List.length_map, NF.out]
          have B8 := Lib.hid (B7.out.trans (hbx.mono B7.out.size))
          have LX8 := Lib.hid (LX7.out.below hbx)
          have LY8 := Lib.hid (LY7.out.below hbx)
          have e2 : (lt == lt) = true := by simp
          subst hnn
          clear hn hbx
          go_wp2_with fail
          refine (llast_c Sx gx 3 E sx.2.1 sx.2.2 q _ LX8.out qi lt TX.out).mono ?_; rintro e w' ⟨rfl, rfl⟩
          go_wp2_with fail
          refine (llast_c Sy gy 3 F sy.2.1 sy.2.2 q _ LY8.out qi lt TY.out).mono ?_; rintro e w' ⟨rfl, rfl⟩
          go_wp2_with fail
          refine (lwakes_c _).mono ?_; rintro e w9 ⟨rfl, hb9⟩
          go_wp2
          go_ret
          exact ⟨rfl, B8.out.trans (hb9.mono B8.out.size)⟩

set_option maxRecDepth 100000 in
theorem lawWalk : LawWalk Try.checked 3 Try.f3 := by
  intro H enc W base args ds p hval hA hsz
  rw [Try.params3] at hA hval
  obtain ⟨v0, vs0, d0, ds0, p0, q0, hargs, rfl, rfl, h0, r0⟩ := trodAll_cons hA
  obtain ⟨v1, vs1, d1, ds1, p1, q1, rfl, rfl, rfl, h1, r1⟩ := trodAll_cons r0
  obtain ⟨rfl, rfl, rfl⟩ := trodAll_nil r1
  obtain rfl : args = #[v0, v1] := by cases args; simp_all
  obtain ⟨a0, n0, c0, R0, rfl, hnc0, hcm0, hr0⟩ := open_rows2 (k := 6) Try.underlying22 Try.underlying29 (by kernel_rfl) (by kernel_rfl) (by decide) (by kernel_rfl) (hval 0 22 v0 rfl rfl) h0
  obtain ⟨a1, rfl, rfl, rfl, w1⟩ := open_int Try.underlying3 (hval 1 3 v1 rfl rfl) h1
  exact walk a0 n0 c0 R0 a1 W hr0 (Nat.le_trans hnc0 hcm0) hnc0 (I64.of_wf w1)

theorem lifted (os : Os) (started : os.Started) (H : Type) (enc : TypeId × Value → H) :
    ReturnsInHanded {} Try.checked os 3 .any (Rows.ledgerApartSpec.pre6 enc Try.prog Try.f3 Rows.ledgerApartRow.domain false) (Rows.ledgerApartSpec.post enc Try.prog Try.f3 false true false false) :=
  law_lift (C := Try.checked) (s := Rows.ledgerApartSpec) (tb := 4) (by kernel_rfl) started (by kernel_rfl) Try.func3
    (ChangeSpec.witness6 (enc := enc) (C := Try.checked) false ⟨#[], #[.slice none 0 0, .int .i64 0], []⟩ 8 (by kernel_rfl) (by kernel_rfl) (by kernel_rfl) (by kernel_rfl))
    rfl (fun H ds h => by
      match ds, h with
      | [d0, d1], _ => rfl) (by kernel_rfl) (by kernel_rfl) (by kernel_rfl) Try.underlying4 lawWalk

theorem over : Rows.ledgerApartRow.holds Try.pinned (OpenSpec.ofChange Rows.ledgerApartSpec) :=
  OpenClaim.holds_of_wide 3 Try.f3 rfl rfl rfl rfl rfl rfl rfl ⟨rfl, rfl, rfl, rfl, rfl⟩ rfl rfl rfl rfl rfl (by kernel_rfl) Try.func3 (by kernel_rfl)
    (of_decide_eq_true (by kernel_rfl)) (by unfold Func.isWrapper; first | (rw [if_pos (by decide +kernel)]; kernel_rfl) | (rw [if_neg (by decide +kernel)]; exact ⟨rfl, rfl⟩))
    (fun os started H enc _ => lifted os started H enc)

/-- The statement. -/
theorem proved : Rows.LedgerApartSaid := over
#print axioms proved

end Go.Proofs.Ytfhlcjfgbhmecaa.LedgerApart
