/- ChooseTwice: for all parts and instances the law returns true. No condition. -/
import Derived.Test.YtpkifmophmjilaaChooseO
import Derived.Test.YtpkifmophmjilaaAppG
import Derived.Test.YtpkifmophmjilaaChooseV
import Derived.Test.YtpkifmophmjilaaHeavy
import Derived.Test.YtpkifmophmjilaaChooseHo
import Derived.Test.YtpkifmophmjilaaRows
namespace Go.Proofs.Ytpkifmophmjilaa.ChooseTwice
open Go.RowKit Go.ChangeShapes Go.WideShapes Go.ChangeAt
set_option linter.unusedVariables false

theorem batches_same {inst : Int} {ps qs : List PD} (F : Int → Int → List Rq) (hm : ∀ c, c ∈ certsOf ps ↔ c ∈ certsOf qs) (hF : ∀ c ∈ certsOf ps, c.bs = F c.view c.seq) : batches inst ps = batches inst qs := by
  have hg : greatest inst ps = greatest inst qs := by
    have h1 := greatest_is inst ps
    have h2 := greatest_is inst qs
    have l1 : greatest inst ps ≤ greatest inst qs := by
      rcases h1.one with h | ⟨c, hc, e1, e2, e3⟩
      · rw [h]; exact h2.low
      · rw [← e3]; exact h2.all c ((hm c).1 hc) e1 e2
    have l2 : greatest inst qs ≤ greatest inst ps := by
      rcases h2.one with h | ⟨c, hc, e1, e2, e3⟩
      · rw [h]; exact h1.low
      · rw [← e3]; exact h1.all c ((hm c).2 hc) e1 e2
    omega
  have hb : ∀ seq, batchOf inst seq ps = batchOf inst seq qs := fun seq => by
    unfold batchOf
    cases h1 : best inst seq ps with
    | none =>
      cases h2 : best inst seq qs with
      | none => rfl
      | some b =>
        obtain ⟨m1, m2, m3⟩ := best_mem h2
        obtain ⟨b', hb', _⟩ := best_all ((hm b).2 m1) m2 m3
        rw [h1] at hb'; cases hb'
    | some b =>
      obtain ⟨m1, m2, m3⟩ := best_mem h1
      obtain ⟨b', hb', hv⟩ := best_all ((hm b).1 m1) m2 m3
      obtain ⟨k1, k2, k3⟩ := best_mem hb'
      obtain ⟨b'', hb'', hv'⟩ := best_all ((hm b').2 k1) k2 k3
      rw [h1] at hb''
      cases hb''
      rw [hb']
      show b.bs = b'.bs
      rw [hF b m1, hF b' ((hm b').2 k1), m3, k3, show b.view = b'.view by omega]
  unfold batches
  rw [hg]
  exact List.map_congr_left fun i _ => hb _
theorem flat_set_one {α β : Type} (f : α → List β) (s : Nat) (hs : ∀ x, (f x).length = s) (st : List α) (k j : Nat) (x : α) (v : β) (hk : k < st.length) (hj : j < s) (hx : f x = (f st[k]).set j v) : (st.flatMap f).set (k * s + j) v = (st.set k x).flatMap f := by
  apply List.ext_getElem?
  intro i
  have hd : i = i / s * s + i % s := by rw [Nat.mul_comm]; exact (Nat.div_add_mod i s).symm
  have hm := Nat.mod_lt i (show 0 < s by omega)
  by_cases hi : i < st.length * s
  · have hdl : i / s < st.length := (Nat.div_lt_iff_lt_mul (by omega)).2 hi
    have hr : ((st.set k x).flatMap f)[i]? = ((st.set k x)[i / s]?).bind fun y => (f y)[i % s]? := by
      conv => lhs; rw [hd]
      exact flat_get f s hs _ _ _ hm
    have hl : (st.flatMap f)[i]? = (st[i / s]?).bind fun y => (f y)[i % s]? := by
      conv => lhs; rw [hd]
      exact flat_get f s hs _ _ _ hm
    rw [hr, List.getElem?_set]
    by_cases hik : k * s + j = i
    · have e1 : i / s = k := by rw [← hik, Nat.mul_comm, Nat.mul_add_div (by omega), Nat.div_eq_of_lt hj]; omega
      have e2 : i % s = j := by rw [← hik, Nat.mul_comm, Nat.mul_add_mod, Nat.mod_eq_of_lt hj]
      rw [if_pos hik, if_pos (by rw [flat_len f s hs]; omega), e1, e2, List.getElem?_set_self hk]
      simp only [Option.bind_some]
      rw [hx, List.getElem?_set_self (by rw [hs]; exact hj)]
    · rw [if_neg hik, hl, List.getElem?_set]
      by_cases hik2 : k = i / s
      · rw [if_pos hik2, if_pos hk]
        simp only [Option.bind_some]
        rw [hx, ← hik2, List.getElem?_eq_getElem hk]
        simp only [Option.bind_some]
        rw [List.getElem?_set_ne]
        intro e
        apply hik
        rw [hik2, e]
        exact hd.symm
      · rw [if_neg hik2]
  · rw [List.getElem?_eq_none (by rw [List.length_set, flat_len f s hs]; omega), List.getElem?_eq_none (by rw [flat_len f s hs, List.length_set]; omega)]

/-- What the law lays as a certificate's batch. -/
def oneB (v q : Int) : List Rq := [(v, q, 0, 0, 0, 0)]
/-- A part whose certificates are the call's own, each with its one batch. -/
structure PDone (w wr : World) (q : PD) : Prop where
  v : VoRow w q.va q.vn q.vc q.vs
  row : wr.ownsRow w.heap.size 36 5 (.slice q.ca q.cn q.cc) q.cn (q.cs.flatMap ccell)
  len : q.cs.length = q.cn
  cn : q.cn ≤ 20
  is : ∀ x ∈ q.cs, OwnC w.heap.size wr x ∧ x.bs = oneB x.view x.seq ∧ x.vn ≤ 30
  i0 : I64 q.from_
  i1 : I64 q.seal_
theorem PDone.below {w wr wx : World} {q : PD} (h : PDone w wr q) (hb : Below wr.heap.size wr wx) : PDone w wx q :=
  ⟨h.v, own_below h.row hb, h.len, h.cn, fun x hx => ⟨(h.is x hx).1.below hb, (h.is x hx).2⟩, h.i0, h.i1⟩
theorem PDone.only {w wr wx : World} {q : PD} {S : List Nat} (h : PDone w wr q) (ho : Only S wr wx) (hS : ∀ g ∈ S, ∀ cs t, Blk wr g t cs → t = 32) : PDone w wx q :=
  ⟨h.v, own_odd h.row ho (fun g hg cs t k => by rw [hS g hg cs t k]; decide), h.len, h.cn, fun x hx => ⟨(h.is x hx).1.only ho (fun g hg cs t k => by rw [hS g hg cs t k]; exact ⟨by decide, by decide⟩), (h.is x hx).2⟩, h.i0, h.i1⟩
theorem PDone.to {w wr : World} {q : PD} (h : PDone w wr q) (hb : Below w.heap.size w wr) : q.Is wr :=
  ⟨h.v.below hb, ⟨own_vrow h.row, h.len, own_cap h.row, own_max h.row, fun c hc => (h.is c hc).1.to⟩, h.i0, h.i1⟩
theorem row_part {w : World} {base n c : Nat} {a : Option Addr} {xs : List Value} (h : w.ownsRow base 32 4 (.slice a n c) n xs) : ∀ g ∈ (a.map (·.block)).toList, ∀ cs t, Blk w g t cs → t = 32 := fun g hg cs t k => by
  have hb : (Value.slice a n c).ownBlock = some g := by rw [own_block_eq]; exact Option.mem_toList.1 hg
  rcases h.2 with ⟨hv, _⟩ | ⟨k', cp, cur, hv, _, hh, _⟩
  · rw [hv] at hb; simp [Value.ownBlock] at hb
  · rw [hv] at hb
    simp only [Value.ownBlock, Option.some.injEq] at hb
    subst hb
    unfold Blk at k
    rw [hh] at k
    injection k with k
    injection k with _ k
    exact k.symm

set_option maxRecDepth 100000 in
set_option maxHeartbeats 12800000 in
theorem walk (inst : Int) (a : Option Addr) (n c : Nat) (ps : List PD) (w : World) (hi : I64 inst) (h : Parts w a n c ps) :
    Calls Try.prog 3 #[.int .i64 inst, .slice a n c] w fun e w' => e = .returned (.bool true) ∧ Below w.heap.size w w' := by
  have H := Lib.hid h
  clear h
  by_cases hL : Light n ps
  case neg =>
    have NL := Lib.hid hL
    clear hL
    go_enter Try.func3, Try.ntmps3
    go_wp2_with fail
    refine (heavy_c a n c ps _ H.out true ⟨(fun h => by cases h), fun h => absurd h NL.out⟩).mono ?_; rintro e w1 ⟨rfl, hb1⟩
    go_wp2_with fail
    refine (chwakes_c _).mono ?_; rintro e w2 ⟨rfl, hb2⟩
    go_wp2_with fail
    go_ret
    exact ⟨rfl, hb1.trans (hb2.mono hb1.size)⟩
  case pos =>
    have LI := Lib.hid hL
    have n12 := hL.n
    clear hL
    by_cases h6 : 6 < n
    · have d6 : decide ((6 : Int) < n) = true := decide_eq_true (by omega)
      have d6' : decide (6 < n) = true := decide_eq_true h6
      go_enter Try.func3, Try.ntmps3
      go_wp2_with fail
      refine (heavy_c a n c ps _ H.out false ⟨fun _ => LI.out, fun _ => rfl⟩).mono ?_; rintro e w1 ⟨rfl, hb1⟩
      go_wp2_with fail
      refine (chwakes_c _).mono ?_; rintro e w2 ⟨rfl, hb2⟩
      go_wp2_with fail
      go_ret
      exact ⟨rfl, hb1.trans (hb2.mono hb1.size)⟩
    · have d6 : decide ((6 : Int) < n) = false := decide_eq_false (by omega)
      have d6' : decide (6 < n) = false := decide_eq_false h6
      have S := Lib.hid LI.out.small
      obtain ⟨tp, pi0, pz0, pz1, pz2⟩ := info_parts info_partT
      go_enter Try.func3, Try.ntmps3
      go_wp2_with fail
      refine (heavy_c a n c ps _ H.out false ⟨fun _ => LI.out, fun _ => rfl⟩).mono ?_; rintro e w1 ⟨rfl, hb1⟩
      have B1 := Lib.hid hb1
      clear hb1
      go_wp2_with fail
      refine (copy_pa a n c ps _ (H.out.below B1.out) (by omega)).mono ?_; rintro e w2 ⟨a1, c1, rfl, hO2, hb2⟩
      have O2 := Lib.hid (own_base_le hO2 B1.out.size)
      have B2 := Lib.hid (B1.out.trans (hb2.mono B1.out.size))
      clear hO2 hb2 d6 d6'
      go_upto_block 0 with fail
      go_cut [24] from 5 to 67 (fun s wx => ∃ qs : List PD, qs.length = n ∧ wx.ownsRow w.heap.size 32 4 (.slice a1 n c1) n (qs.flatMap pcell') ∧ (∀ q ∈ qs, PDone w wx q) ∧ Below w.heap.size w wx)
      case first =>
        go_wp2_with fail
        go_loopw [24] (fun i wr => ∃ k : Nat, k ≤ n ∧ i = .int .i64 k ∧ ∃ qs : List PD, qs.length = n ∧ wr.ownsRow w.heap.size 32 4 (.slice a1 n c1) n (qs.flatMap pcell') ∧ (∀ (j : Nat) q, j < k → qs[j]? = some q → PDone w wr q) ∧ (∀ j, k ≤ j → qs[j]? = ps[j]?) ∧ Below w.heap.size w wr) (fun i _ => n - (intOf i).toNat)
        case atStart => exact ⟨0, by omega, rfl, ps, H.out.len, O2.out, fun j q hj => absurd hj (by omega), fun _ _ => rfl, B2.out⟩
        case round =>
          obtain ⟨wo, rfl⟩ : ∃ wo, wo = wr := ⟨_, rfl⟩
          obtain ⟨k, hk, rfl, qs, hql, hO, hdone, hrest, hb⟩ := hrel
          have O := Lib.hid hO
          have QL := Lib.hid hql
          have DN := Lib.hid hdone
          have RS := Lib.hid hrest
          have B := Lib.hid hb
          by_cases hlt : k < n
          · obtain ⟨g1, rfl⟩ : ∃ g1, a1 = some ⟨g1, 0, none⟩ := by
              rcases hO.2 with ⟨hv, h0⟩ | ⟨g, cp, cur, hv, _⟩
              · omega
              · injection hv with hv
                exact ⟨g, hv⟩
            have hkl : k < qs.length := by omega
            have hkp : k < ps.length := by have := H.out.len; omega
            have hqk : qs[k] = ps[k] := by
              have := hrest k (Nat.le_refl _)
              rw [List.getElem?_eq_getElem hkl, List.getElem?_eq_getElem hkp] at this
              exact Option.some.inj this
            obtain ⟨p, hp⟩ : ∃ p, p = ps[k] := ⟨_, rfl⟩
            have HQK := Lib.hid (show qs[k]? = some p by rw [List.getElem?_eq_getElem hkl, hqk, hp])
            have hpm : p ∈ ps := by rw [hp]; exact List.getElem_mem hkp
            have hpI := H.out.is p hpm
            have PL := (LI.out.c p hpm).2
            have row := Row.of_own hO
            have g2 : wo.cell? ⟨g1, k * 4 + 2, none⟩ = some (.slice p.ca p.cn p.cc) := row.cell (flat_get' pcell' 4 pcell'_len qs k 2 (by omega) hkl _ (by rw [hqk, ← hp]; rfl))
            have g1lt : Hid (g1 < wo.heap.size ∧ w.heap.size ≤ g1) := Lib.hid ⟨row.lt, (World.ownsRow.lt hO g1 rfl).1⟩
            have CI := Lib.hid (hpI.c.below hb)
            have PV := Lib.hid hpI.v
            have PI := Lib.hid (show I64 p.from_ ∧ I64 p.seal_ from ⟨hpI.i0, hpI.i1⟩)
            have SB := Lib.hid (S.out.b p hpm)
            have SB2 := Lib.hid PL
            have p20 := PL.n
            obtain ⟨⟨pf, pva, pvn, pvc, pvs, pca, pcn, pcc, pcs, pse⟩, hpe⟩ : ∃ q, q = p := ⟨_, rfl⟩
            rw [← hpe] at g2 CI PV PI SB SB2 p20 HQK
            simp only at g2 CI PV PI SB SB2 p20
            have i0 : (0 : Int) ≤ k := by omega
            have i1 : (k : Int) < n := by omega
            have cmax := row.cap_max
            clear hO hql hdone hrest hb hqk hp hpm hpI hpe PL row
            go_wp2_with fail
            refine (copycerts_c pca pcn pcc pcs _ CI.out (by omega) SB.out).mono ?_; rintro e w3 ⟨a4, c4, ds, rfl, hR3, hdl, hdi, htw, hb3⟩
            have R3 := Lib.hid hR3
            have DL := Lib.hid hdl
            have DI := Lib.hid hdi
            have TW := Lib.hid htw
            have B3 := Lib.hid hb3
            have O3 := Lib.hid (own_below O.out hb3)
            have g2' := kept hb3 _ _ g2
            have fz := (Row.of_own O3.out).frozen (k * 4 + 2)
            clear hR3 hdl hdi htw hb3 g2
            go_upto_region 8 with fail
            obtain ⟨w4, hw4⟩ : ∃ w4, w4 = w3.setCell ⟨g1, k * 4 + 2, none⟩ (.slice a4 pcn c4) := ⟨_, rfl⟩
            rw [← hw4]
            have U34 : Only [g1] w3 w4 := by rw [hw4]; exact (Only.refl _ _).setCell (.inl (by simp)) _
            obtain ⟨L4, hL4⟩ : ∃ L4, L4 = (qs.flatMap pcell').set (k * 4 + 2) (.slice a4 pcn c4) := ⟨_, rfl⟩
            have O4 : Hid (w4.ownsRow w.heap.size 32 4 (.slice (some ⟨g1, 0, none⟩) n c1) n L4) := Lib.hid (by rw [hw4, hL4]; exact (World.ownsRow.stored O3.out (k * 4 + 2) _).1)
            have NG : Hid (∀ g, (Value.slice a4 pcn c4).ownBlock = some g → g ≠ g1) := Lib.hid fun g hg => by
              have := (World.ownsRow.lt R3.out g hg).1
              have := g1lt.out.1
              omega
            have R4 : Hid (w4.ownsRow wo.heap.size 36 5 (.slice a4 pcn c4) pcn (ds.flatMap ccell)) := Lib.hid (own_only R3.out U34 fun g hg hm => NG.out g hg (by simpa using hm))
            have OD3 : Odd [g1] w3 40 70 := by simpa using odd_row O3.out (t1 := 40) (t2 := 70) (by decide) (by decide)
            have DI4 := Lib.hid (fun x hx => (DI.out x hx).only U34 OD3)
            have U4 := Lib.hid (show Only [g1] wo w4 from (Only.of_below B3.out).trans U34)
            have B4 := Lib.hid (show Below w.heap.size w w4 from U34.below (B.out.trans (B3.out.mono B.out.size)) (Nat.le_trans B.out.size B3.out.size) (by simpa using g1lt.out.2))
            have PH : Hid (∀ es : List CD, L4 = (qs.set k (PD.mk pf pva pvn pvc pvs a4 pcn c4 es pse)).flatMap pcell') := Lib.hid fun es => by
              rw [hL4]
              refine flat_set_one pcell' 4 pcell'_len qs k 2 _ _ hkl (by omega) ?_
              have e := HQK.out
              rw [List.getElem?_eq_getElem hkl] at e
              rw [Option.some.inj e]
              rfl
            have LG : Hid (L4[k * 4 + 2]? = some (.slice a4 pcn c4)) := Lib.hid (by
              rw [hL4, List.getElem?_set_self]
              rw [flat_len pcell' 4 pcell'_len]; omega)
            clear hw4 U34 hL4 OD3 fz g2'
            have c2 : w4.cell? ⟨g1, k * 4 + 2, none⟩ = some (.slice a4 pcn c4) := (Row.of_own O4.out).cell LG.out
            go_wp2_with fail
            go_loopw [43] (fun i wx => ∃ r : Nat, r ≤ pcn ∧ i = .int .i64 r ∧ ∃ es : List CD, es.length = pcn ∧ wx.ownsRow wo.heap.size 36 5 (.slice a4 pcn c4) pcn (es.flatMap ccell) ∧ (∀ x ∈ es, OwnC wo.heap.size wx x ∧ x.vn ≤ 30) ∧ (∀ (j : Nat) x, j < r → es[j]? = some x → x.bs = oneB x.view x.seq) ∧ wx.ownsRow w.heap.size 32 4 (.slice (some ⟨g1, 0, none⟩) n c1) n L4 ∧ Only [g1] wo wx ∧ Below w.heap.size w wx) (fun i _ => pcn - (intOf i).toNat)
            case atStart =>
              refine ⟨0, by omega, rfl, ds, DL.out, R4.out, fun x hx => ⟨DI4.out x hx, ?_⟩, fun j x hj => absurd hj (by omega), O4.out, U4.out, B4.out⟩
              obtain ⟨j, hj, rfl⟩ := List.mem_iff_getElem.1 hx
              have hjp : j < pcs.length := by have := CI.out.len; have := DL.out; omega
              rw [(TW.out j _ _ (List.getElem?_eq_getElem hjp) (List.getElem?_eq_getElem hj)).vn]
              exact (SB2.out.c _ (List.getElem_mem hjp)).2
            case round =>
              obtain ⟨r, hr, rfl, es, hel, hR, hE, hdone, hO5, hU5, hB5⟩ := hrel
              have EL := Lib.hid hel
              have R5 := Lib.hid hR
              have E5 := Lib.hid hE
              have D5 := Lib.hid hdone
              have O5 := Lib.hid hO5
              have U5 := Lib.hid hU5
              have B5 := Lib.hid hB5
              have c2' : wr.cell? ⟨g1, k * 4 + 2, none⟩ = some (.slice a4 pcn c4) := (Row.of_own hO5).cell LG.out
              by_cases hrp : r < pcn
              · obtain ⟨g4, rfl⟩ : ∃ g4, a4 = some ⟨g4, 0, none⟩ := by
                  rcases hR.2 with ⟨hv, h0⟩ | ⟨g, cp, cur, hv, _⟩
                  · omega
                  · injection hv with hv
                    exact ⟨g, hv⟩
                have hrl : r < es.length := by omega
                have row := Row.of_own hR
                obtain ⟨x, hx⟩ : ∃ x, x = es[r] := ⟨_, rfl⟩
                have d0 : wr.cell? ⟨g4, r * 5, none⟩ = some (.int .i64 x.view) := row.cell (flat_get' ccell 5 ccell_len es r 0 (by omega) hrl _ (by rw [← hx]; rfl))
                have d2 : wr.cell? ⟨g4, r * 5 + 2, none⟩ = some (.int .i64 x.seq) := row.cell (flat_get' ccell 5 ccell_len es r 2 (by omega) hrl _ (by rw [← hx]; rfl))
                have d3 : wr.cell? ⟨g4, r * 5 + 3, none⟩ = some (.slice x.ba x.bn x.bc) := row.cell (flat_get' ccell 5 ccell_len es r 3 (by omega) hrl _ (by rw [← hx]; rfl))
                have cm4 := row.cap_max
                have XO := Lib.hid (hE x (by rw [hx]; exact List.getElem_mem hrl))
                have HXE := Lib.hid (show es[r]? = some x by rw [List.getElem?_eq_getElem hrl, hx])
                have G4 := Lib.hid (show wo.heap.size ≤ g4 from (World.ownsRow.lt hR g4 rfl).1)
                have hne41 : g4 ≠ g1 := by
                  have := g1lt.out.1
                  have := G4.out
                  omega
                obtain ⟨xv, hxv⟩ : ∃ z, z = x.view := ⟨_, rfl⟩
                obtain ⟨xs, hxs⟩ : ∃ z, z = x.seq := ⟨_, rfl⟩
                have XV := Lib.hid hxv
                have XS := Lib.hid hxs
                rw [← hxv] at d0
                rw [← hxs] at d2
                obtain ⟨xba, hxba⟩ : ∃ z, z = x.ba := ⟨_, rfl⟩
                obtain ⟨xbn, hxbn⟩ : ∃ z, z = x.bn := ⟨_, rfl⟩
                obtain ⟨xbc, hxbc⟩ : ∃ z, z = x.bc := ⟨_, rfl⟩
                rw [← hxba, ← hxbn, ← hxbc] at d3
                have j0 : (0 : Int) ≤ r := by omega
                have j1 : (r : Int) < pcn := by omega
                have KS : ∀ w', Below wr.heap.size wr w' → w'.cell? ⟨g4, r * 5, none⟩ = some (.int .i64 xv) ∧ w'.cell? ⟨g4, r * 5 + 2, none⟩ = some (.int .i64 xs) ∧ w'.cell? ⟨g4, r * 5 + 3, none⟩ = some (.slice xba xbn xbc) := fun w' o => ⟨kept o _ _ d0, kept o _ _ d2, kept o _ _ d3⟩
                clear hel hR hE hdone hO5 hU5 hB5 row hx hxv hxs hxba hxbn hxbc c2
                go_upto_region 12 with fail
                have E0 : Below wr.heap.size wr wr.drew := (Below.refl _ _).drew
                refine wp_region_plan (fun w' => w'.cell? ⟨g4, r * 5, none⟩ = some (.int .i64 xv) ∧ w'.cell? ⟨g4, r * 5 + 2, none⟩ = some (.int .i64 xs) ∧ w'.cell? ⟨g4, r * 5 + 3, none⟩ = some (.slice xba xbn xbc)) 13 (.take 0 (.take 1 (.take 2 (.take 3 (.take 4 (.take 5 (.take 6 (.take 7 (.take 8 (.take 9 (.one 10 (.one 11 (.take 12 (.one 13 .done)))))))))))))) (by kernel_rfl) (by kernel_rfl) (by kernel_rfl) (KS _ E0) ?_
                intro hS0
                obtain ⟨v0, hv0⟩ : ∃ v, v = wr.drew := ⟨_, rfl⟩
                rw [← hv0] at hS0 E0 ⊢
                clear hv0 d0 d2 d3 c2'
                repeat (refine' wpPlan_take rfl (by rfl) (by assumption) ?_ ?_; rotate_left; (· (intro w hSw; (try dsimp only at hSw); go_simp; try with_reducible rfl)); try simp only [Act.put, List.setIfInBounds_toArray, List.set_cons_zero, List.set_cons_succ])
                refine wpPlan_one rfl (fun KT hKT => ?_)
                go_simp
                refine hKT.out _ _ (KS _ (E0.alloc E0.size _)) (fun _ => ?_); clear hKT KT; try simp only [Act.put, List.setIfInBounds_toArray, List.set_cons_zero, List.set_cons_succ]
                obtain ⟨v1, hv1⟩ : ∃ v, v = v0.alloc (.cells #[.int .i64 xv, .int .i64 xs, .int .i64 0, .int .i64 0, .int .i64 0, .int .i64 0] 40) := ⟨_, rfl⟩
                rw [← hv1]
                have b01 : Below v0.heap.size v0 v1 := by rw [hv1]; exact (Below.refl _ _).alloc (Nat.le_refl _) _
                have E1 := E0.trans (b01.mono E0.size)
                have NB : Blk v1 v0.heap.size 40 #[.int .i64 xv, .int .i64 xs, .int .i64 0, .int .i64 0, .int .i64 0, .int .i64 0] := by rw [hv1]; exact Blk.new _ _ _
                have ZW : wo.heap.size ≤ v0.heap.size := Nat.le_trans U5.out.size E0.size
                have NR := Lib.hid (show v1.ownsRow wo.heap.size 40 6 (.slice (some ⟨v0.heap.size, 0, none⟩) 1 1) 1 ((oneB xv xs).flatMap rqc) from Row.own (Row.of_blk (n := 1) (s := 6) NB rfl (by unfold maxLen; omega)) ZW)
                have R6 := Lib.hid (own_below R5.out E1)
                have O6 := Lib.hid (own_below O5.out E1)
                have E6 := Lib.hid (fun y hy => And.intro ((E5.out y hy).1.below E1) (E5.out y hy).2)
                have U6 := Lib.hid (U5.out.trans (Only.of_below (S := [g1]) E1))
                have B6 := Lib.hid (B5.out.trans (E1.mono B5.out.size))
                have SK := KS _ E1
                have f3 := (Row.of_own R6.out).frozen (r * 5 + 3)
                clear hv1 b01 NB
                repeat (refine' wpPlan_take rfl (by rfl) (by assumption) ?_ ?_; rotate_left; (· (intro w hSw; (try dsimp only at hSw); go_simp; try with_reducible rfl)); try simp only [Act.put, List.setIfInBounds_toArray, List.set_cons_zero, List.set_cons_succ])
                refine wpPlan_one rfl (fun KT hKT => ?_)
                go_simp
                refine hKT.out _ _ (SK) (fun _ => ?_); clear hKT KT; try simp only [Act.put, List.setIfInBounds_toArray, List.set_cons_zero, List.set_cons_succ]
                repeat (refine' wpPlan_take rfl (by rfl) (by assumption) ?_ ?_; rotate_left; (· (intro w hSw; (try dsimp only at hSw); go_simp; try with_reducible rfl)); try simp only [Act.put, List.setIfInBounds_toArray, List.set_cons_zero, List.set_cons_succ])
                refine wpPlan_last rfl (fun KT hKT => ?_)
                go_simp
                refine hKT.out _ _ ?_; clear hKT KT; try simp only [Act.put, List.setIfInBounds_toArray, List.set_cons_zero, List.set_cons_succ]
                obtain ⟨gN, hgN⟩ : ∃ gN, gN = v0.heap.size := ⟨_, rfl⟩
                rw [← hgN] at NR ⊢
                obtain ⟨v2, hv2⟩ : ∃ v, v = v1.setCell ⟨g4, r * 5 + 3, none⟩ (.slice (some ⟨gN, 0, none⟩) 1 1) := ⟨_, rfl⟩
                rw [← hv2]
                have u12 : Only [g4] v1 v2 := by rw [hv2]; exact (Only.refl _ _).setCell (.inl (by simp)) _
                have od : Odd [g4] v1 40 70 := by simpa using odd_row R6.out (t1 := 40) (t2 := 70) (by decide) (by decide)
                obtain ⟨x', hx'⟩ : ∃ x' : CD, x' = { x with ba := some ⟨gN, 0, none⟩, bn := 1, bc := 1, bs := oneB xv xs } := ⟨_, rfl⟩
                have R7 := Lib.hid (show v2.ownsRow wo.heap.size 36 5 (.slice (some ⟨g4, 0, none⟩) pcn c4) pcn ((es.set r x').flatMap ccell) by
                  have h1 := (World.ownsRow.stored R6.out (r * 5 + 3) (.slice (some ⟨gN, 0, none⟩) 1 1)).1
                  have e : (es.flatMap ccell).set (r * 5 + 3) (.slice (some ⟨gN, 0, none⟩) 1 1) = (es.set r x').flatMap ccell := by
                    refine flat_set_one ccell 5 ccell_len es r 3 x' _ hrl (by omega) ?_
                    have e2 := HXE.out
                    rw [List.getElem?_eq_getElem hrl] at e2
                    rw [Option.some.inj e2, hx']
                    rfl
                  rw [e] at h1
                  rw [hv2]
                  exact h1)
                have X7 : Hid (OwnC wo.heap.size v2 x' ∧ x'.vn ≤ 30 ∧ x'.bs = oneB x'.view x'.seq) := Lib.hid (by
                  have h1 := XO.out.1
                  have h2 := (h1.below E1).only u12 od
                  rw [hx']
                  exact ⟨⟨own_odd NR.out u12 fun g hg cs t k => (od g hg cs t k).1, rfl, h2.v, h2.vl, h2.i0, h2.i1, h2.i2⟩, XO.out.2, by show oneB xv xs = oneB x.view x.seq; rw [XV.out, XS.out]⟩)
                have E7 : Hid (∀ y ∈ es.set r x', OwnC wo.heap.size v2 y ∧ y.vn ≤ 30) := Lib.hid fun y hy => by
                  rcases List.mem_or_eq_of_mem_set hy with h | h
                  · exact ⟨(E6.out y h).1.only u12 od, (E6.out y h).2⟩
                  · rw [h]; exact ⟨X7.out.1, X7.out.2.1⟩
                have D7 : Hid (∀ (j : Nat) y, j < r + 1 → (es.set r x')[j]? = some y → y.bs = oneB y.view y.seq) := Lib.hid fun j y hj hy => by
                  rcases Nat.lt_or_ge j r with h | h
                  · rw [List.getElem?_set_ne (by omega)] at hy
                    exact D5.out j y h hy
                  · obtain rfl : j = r := by omega
                    rw [List.getElem?_set_self hrl] at hy
                    cases hy
                    exact X7.out.2.2
                have O7 := Lib.hid (own_only O6.out u12 fun g hg hm => by
                  simp only [List.mem_singleton] at hm
                  simp only [Value.ownBlock, Option.some.injEq] at hg
                  omega)
                have U7 := Lib.hid (U6.out.then u12 (by simpa using .inr G4.out))
                have B7 := Lib.hid (u12.below B6.out B6.out.size (by have := B.out.size; have := G4.out; simp; omega))
                have L7 : Hid ((es.set r x').length = pcn) := Lib.hid (by rw [List.length_set]; exact EL.out)
                clear hv2 u12 od hx' f3 SK hgN
                refine wpPlan_done ?_
                go_wp2_with fail
                go_roundw
                case rel => exact ⟨r + 1, by omega, by go_num, _, L7.out, R7.out, E7.out, D7.out, O7.out, U7.out, B7.out⟩
                case measure => simp [intOf]; omega
              · have hrn : r = pcn := by omega
                subst hrn
                have DALL : Hid (∀ x ∈ es, x.bs = oneB x.view x.seq) := Lib.hid fun x hx => by
                  obtain ⟨j, hj, rfl⟩ := List.mem_iff_getElem.1 hx
                  exact hdone j _ (by omega) (List.getElem?_eq_getElem hj)
                have NEW : Hid (PDone w wr (PD.mk pf pva pvn pvc pvs a4 r c4 es pse)) := Lib.hid
                  ⟨PV.out, own_base_le hR B.out.size, hel, p20, fun x hx => ⟨(hE x hx).1.low B.out.size, DALL.out x hx, (hE x hx).2⟩, PI.out.1, PI.out.2⟩
                have OLD : Hid (∀ (j : Nat) q, j < k → qs[j]? = some q → PDone w wr q) := Lib.hid fun j q hj hq => (DN.out j q hj hq).only hU5 (by simpa using row_part O.out)
                have O8 := Lib.hid (show wr.ownsRow w.heap.size 32 4 (.slice (some ⟨g1, 0, none⟩) n c1) n ((qs.set k (PD.mk pf pva pvn pvc pvs a4 r c4 es pse)).flatMap pcell') by rw [← PH.out es]; exact hO5)
                have N8 : Hid (∀ (j : Nat) q, j < k + 1 → (qs.set k (PD.mk pf pva pvn pvc pvs a4 r c4 es pse))[j]? = some q → PDone w wr q) := Lib.hid fun j q hj hq => by
                  rcases Nat.lt_or_ge j k with h | h
                  · rw [List.getElem?_set_ne (by omega)] at hq
                    exact OLD.out j q h hq
                  · obtain rfl : j = k := by omega
                    rw [List.getElem?_set_self hkl] at hq
                    cases hq
                    exact NEW.out
                have S8 : Hid (∀ j, k + 1 ≤ j → (qs.set k (PD.mk pf pva pvn pvc pvs a4 r c4 es pse))[j]? = ps[j]?) := Lib.hid fun j hj => by
                  rw [List.getElem?_set_ne (by omega)]
                  exact RS.out j (by omega)
                have L8 : Hid ((qs.set k (PD.mk pf pva pvn pvc pvs a4 r c4 es pse)).length = n) := Lib.hid (by rw [List.length_set]; exact QL.out)
                clear hel hR hE hdone hO5 hU5 hB5 c2 c2'
                go_wp2_with fail
                go_roundw
                case rel => exact ⟨k + 1, by omega, by go_num, _, L8.out, O8.out, N8.out, S8.out, B5.out⟩
                case measure => simp [intOf]; omega
          · have hkn : k = n := by omega
            subst hkn
            have ALL : Hid (∀ q ∈ qs, PDone w wo q) := Lib.hid fun q hq => by
              obtain ⟨j, hj, rfl⟩ := List.mem_iff_getElem.1 hq
              exact hdone j _ (by omega) (List.getElem?_eq_getElem hj)
            clear hO hql hdone hrest hb
            go_wp2_with fail
            go_meet
            exact ⟨qs, QL.out, O.out, ALL.out, B.out⟩
      case rest =>
        obtain ⟨qs, hql, hO, hdone, hb⟩ := hcut
        obtain ⟨w4, hw4⟩ : ∃ w4, w4 = wc := ⟨_, rfl⟩
        rw [← hw4] at hO hdone hb ⊢
        have O := Lib.hid hO
        have QL := Lib.hid hql
        have DN := Lib.hid hdone
        have B := Lib.hid hb
        have e9 : IntKind.i64.wrap ((n : Int) - 1) = (n : Int) - 1 := IntWalk.i64_in _ (by omega)
        clear hw4 hO hql hdone hb
        go_upto_block 4 with fail
        go_cut [8] from 9 to 81 (fun s wx => ∃ (a8 : Option Addr) (c8 : Nat), s = .slice a8 n c8 ∧ wx.ownsRow w4.heap.size 32 4 (.slice a8 n c8) n (qs.reverse.flatMap pcell') ∧ Below w4.heap.size w4 wx)
        case first =>
          go_wp2_with fail
          go_loopw [8, 9] (fun s i wr => ∃ m : Nat, m ≤ n ∧ i = .int .i64 ((m : Int) - 1) ∧ ∃ (a8 : Option Addr) (c8 : Nat), s = .slice a8 (n - m) c8 ∧ wr.ownsRow w4.heap.size 32 4 (.slice a8 (n - m) c8) (n - m) ((qs.drop m).reverse.flatMap pcell') ∧ Below w4.heap.size w4 wr) (fun _ i _ => (intOf i + 1).toNat)
          case atStart =>
            refine ⟨n, by omega, rfl, none, 0, by rw [Nat.sub_self], ?_, Below.refl _ _⟩
            rw [Nat.sub_self, List.drop_of_length_le (by have := QL.out; omega)]
            exact ⟨rfl, .inl ⟨rfl, rfl⟩⟩
          case round =>
            obtain ⟨m, hm, rfl, a8, c8, rfl, hO8, hb8⟩ := hrel
            have O8 := Lib.hid hO8
            have B8 := Lib.hid hb8
            rcases (show m = 0 ∨ ∃ m', m = m' + 1 by cases m; exact .inl rfl; exact .inr ⟨_, rfl⟩) with rfl | ⟨m', rfl⟩
            · have l1 : ¬ (0 : Int) ≤ ((0 : Nat) : Int) - 1 := by omega
              have d1 : decide ((0 : Int) ≤ ((0 : Nat) : Int) - 1) = false := decide_eq_false l1
              have O9 := Lib.hid (show wr.ownsRow w4.heap.size 32 4 (.slice a8 n c8) n (qs.reverse.flatMap pcell') by have := hO8; simpa using this)
              clear hO8 hb8
              go_wp2_with fail
              go_meet
              exact ⟨a8, c8, by simp, O9.out, B8.out⟩
            · have hml : m' < qs.length := by have := QL.out; omega
              have i2 : (((m' + 1 : Nat) : Int) - 1) = (m' : Int) := by omega
              obtain ⟨b1, o1, ha1, hbl1, hc1⟩ := (own_vrow O.out).2 (by omega)
              subst ha1
              obtain ⟨p, hp⟩ : ∃ p, p = qs[m'] := ⟨_, rfl⟩
              have p0 : wr.cell? ⟨b1, o1 + m' * 4, none⟩ = some (.int .i64 p.from_) := kept hb8 _ _ (hc1 _ _ (flat_get' pcell' 4 pcell'_len qs m' 0 (by omega) hml _ (by rw [← hp]; rfl)))
              have p1 : wr.cell? ⟨b1, o1 + m' * 4 + 1, none⟩ = some (.slice p.va p.vn p.vc) := kept hb8 _ _ (by rw [Nat.add_assoc]; exact hc1 _ _ (flat_get' pcell' 4 pcell'_len qs m' 1 (by omega) hml _ (by rw [← hp]; rfl)))
              have p2 : wr.cell? ⟨b1, o1 + m' * 4 + 2, none⟩ = some (.slice p.ca p.cn p.cc) := kept hb8 _ _ (by rw [Nat.add_assoc]; exact hc1 _ _ (flat_get' pcell' 4 pcell'_len qs m' 2 (by omega) hml _ (by rw [← hp]; rfl)))
              have p3 : wr.cell? ⟨b1, o1 + m' * 4 + 3, none⟩ = some (.int .i64 p.seal_) := kept hb8 _ _ (by rw [Nat.add_assoc]; exact hc1 _ _ (flat_get' pcell' 4 pcell'_len qs m' 3 (by omega) hml _ (by rw [← hp]; rfl)))
              have NX : Hid ((qs.drop m').reverse.flatMap pcell' = (qs.drop (m' + 1)).reverse.flatMap pcell' ++ pcell' p) := Lib.hid (by
                rw [List.drop_eq_getElem_cons hml, List.reverse_cons, List.flatMap_append, ← hp]; simp)
              have PC : Hid (pcell' p = [.int .i64 p.from_, .slice p.va p.vn p.vc, .slice p.ca p.cn p.cc, .int .i64 p.seal_]) := Lib.hid rfl
              obtain ⟨q0, hq0⟩ : ∃ z, z = p.from_ := ⟨_, rfl⟩
              obtain ⟨q1, hq1⟩ : ∃ z, z = p.va := ⟨_, rfl⟩
              obtain ⟨q2, hq2⟩ : ∃ z, z = p.vn := ⟨_, rfl⟩
              obtain ⟨q3, hq3⟩ : ∃ z, z = p.vc := ⟨_, rfl⟩
              obtain ⟨q4, hq4⟩ : ∃ z, z = p.ca := ⟨_, rfl⟩
              obtain ⟨q5, hq5⟩ : ∃ z, z = p.cn := ⟨_, rfl⟩
              obtain ⟨q6, hq6⟩ : ∃ z, z = p.cc := ⟨_, rfl⟩
              obtain ⟨q7, hq7⟩ : ∃ z, z = p.seal_ := ⟨_, rfl⟩
              rw [← hq0, ← hq1, ← hq2, ← hq3, ← hq4, ← hq5, ← hq6, ← hq7] at PC
              rw [← hq0] at p0
              rw [← hq1, ← hq2, ← hq3] at p1
              rw [← hq4, ← hq5, ← hq6] at p2
              rw [← hq7] at p3
              have i0 : (0 : Int) ≤ m' := by omega
              have i1 : (m' : Int) < n := by omega
              have nm : n - m' = n - (m' + 1) + 1 := by omega
              have NM := Lib.hid nm
              have e8 : IntKind.i64.wrap ((m' : Int) - 1) = (m' : Int) - 1 := IntWalk.i64_in _ (by omega)
              have bz := (Below.refl wr.heap.size wr).alloc (Nat.le_refl _) (.cells #[.int .i64 q0, .slice q1 q2 q3, .slice q4 q5 q6, .int .i64 q7] 32)
              have OZ := Lib.hid (own_below O8.out bz)
              have BZ := Lib.hid (B8.out.trans (bz.mono B8.out.size))
              have VZ : Hid (VRow (wr.alloc (.cells #[.int .i64 q0, .slice q1 q2 q3, .slice q4 q5 q6, .int .i64 q7] 32)) (some ⟨wr.heap.size, 0, none⟩) 1 4 (pcell' p)) := Lib.hid (by rw [PC.out]; exact VRow.of_blk (n := 1) (s := 4) (Blk.new wr 32 #[.int .i64 q0, .slice q1 q2 q3, .slice q4 q5 q6, .int .i64 q7]) rfl)
              have X1 := Lib.hid (show ∀ u ∈ pcell' p, u.oneCell' = true from fun u hu => pcell'_one [p] u (by simpa using hu))
              obtain ⟨t, ht⟩ : ∃ t, t = n - (m' + 1) := ⟨_, rfl⟩
              rw [← ht] at OZ NM ⊢
              have t12 : t ≤ 12 := by omega
              rw [i2]
              clear hO8 hb8 hp hq0 hq1 hq2 hq3 hq4 hq5 hq6 hq7 hc1 hbl1 bz nm ht i2 e9
              go_wp2_with (at_builtin; refine wpList_app rfl _ _ _ rfl w4.heap.size 32 tp _ 4 64 Try.underlying22 pi0 pz0 pz1 pz2 rfl (by omega) a8 t c8 ((qs.drop (m' + 1)).reverse.flatMap pcell') rfl OZ.out (some ⟨wr.heap.size, 0, none⟩) 1 1 (pcell' p) rfl VZ.out X1.out (by unfold maxLen; omega) (by omega) BZ.out.size ?_; intro a7 c7 w7 h7)
              have O9 : Hid (w7.ownsRow w4.heap.size 32 4 (.slice a7 (n - m') c7) (n - m') ((qs.drop m').reverse.flatMap pcell')) := Lib.hid (by rw [NM.out, NX.out]; exact h7.own)
              have B9 : Hid (Below w4.heap.size w4 w7) := Lib.hid (h7.below OZ.out BZ.out (Nat.le_refl _) BZ.out.size)
              clear h7 p0 p1 p2 p3
              go_wp2_with fail
              go_roundw
              case rel => exact ⟨m', by omega, rfl, a7, c7, by rw [NM.out], O9.out, B9.out⟩
              case measure => first | (simp [intOf]; done) | (simp [intOf]; omega)
        case rest =>
          obtain ⟨a8, c8, rfl, hO8, hb8⟩ := hcut
          obtain ⟨w5, hw5⟩ : ∃ w5, w5 = wc := ⟨_, rfl⟩
          rw [← hw5] at hO8 hb8 ⊢
          have O8 := Lib.hid hO8
          have B5 := Lib.hid (B.out.trans (hb8.mono B.out.size))
          have D5 := Lib.hid (fun q hq => (DN.out q hq).below hb8)
          have P5 := Lib.hid (own_below O.out hb8)
          have Z5 := Lib.hid hb8.size
          clear hw5 hO8 hb8 e9
          have BSF : Hid (∀ c ∈ certsOf qs, c.bs = oneB c.view c.seq) := Lib.hid fun c hc => by
            obtain ⟨p, hp, hcp⟩ := List.mem_flatMap.1 hc
            exact ((DN.out p hp).is c hcp).2.1
          have SB : Hid (∀ p ∈ qs, p.cn ≤ 4096 ∧ ∀ c ∈ p.cs, c.bn ≤ 4096 ∧ c.vn ≤ 4096) := Lib.hid fun p hp => by
            have k := DN.out p hp
            refine ⟨by have := k.cn; omega, fun c hc => ?_⟩
            obtain ⟨k1, k2, k3⟩ := k.is c hc
            have e := k1.bl
            rw [k2] at e
            simp only [oneB, List.length_cons, List.length_nil] at e
            omega
          have RV : Hid (∀ c, c ∈ certsOf qs ↔ c ∈ certsOf qs.reverse) := Lib.hid fun c => by simp [certsOf]
          have RA : Hid (∀ c, c ∈ certsOf qs ↔ c ∈ certsOf (qs.reverse ++ qs)) := Lib.hid fun c => by simp [certsOf]
          obtain ⟨l, hl⟩ : ∃ l, batches inst qs = l := ⟨_, rfl⟩
          obtain ⟨m, hm⟩ : ∃ m, l.length = m := ⟨_, rfl⟩
          have hl2 : batches inst qs.reverse = l := by rw [← hl]; exact (batches_same oneB RV.out BSF.out).symm
          have hl3 : batches inst (qs.reverse ++ qs) = l := by rw [← hl]; exact (batches_same oneB RA.out BSF.out).symm
          have m16 : m ≤ 16 := by
            have := (greatest_le inst qs).2
            rw [← hm, ← hl, batches_len]
            omega
          have QP : Hid (Parts w5 a1 n c1 qs) := Lib.hid ⟨own_vrow P5.out, QL.out, own_cap P5.out, own_max P5.out, fun p hp => (D5.out p hp).to B5.out⟩
          have QT : Hid (Parts w5 a8 n c8 qs.reverse) := Lib.hid ⟨own_vrow O8.out, by rw [List.length_reverse]; exact QL.out, own_cap O8.out, own_max O8.out, fun p hp => (D5.out p (List.mem_reverse.1 hp)).to B5.out⟩
          have S1 : Hid (Small n qs) := Lib.hid ⟨by omega, fun p hp => (SB.out p hp).1, fun p hp => (SB.out p hp).2⟩
          have S2 : Hid (Small n qs.reverse) := Lib.hid ⟨by omega, fun p hp => (SB.out p (List.mem_reverse.1 hp)).1, fun p hp => (SB.out p (List.mem_reverse.1 hp)).2⟩
          have SM : ∀ p ∈ qs.reverse ++ qs, p ∈ qs := fun p hp => by
            rcases List.mem_append.1 hp with h | h
            · exact List.mem_reverse.1 h
            · exact h
          have S3 : Hid (Small (n + n) (qs.reverse ++ qs)) := Lib.hid ⟨by omega, fun p hp => (SB.out p (SM p hp)).1, fun p hp => (SB.out p (SM p hp)).2⟩
          have LB : Hid (∀ y ∈ l, y.length ≤ 4096) := Lib.hid (by rw [← hl]; exact batches_small QP.out S1.out inst)
          have SMH := Lib.hid SM
          have HL := Lib.hid hl
          have HL2 := Lib.hid hl2
          have HL3 := Lib.hid hl3
          have HM := Lib.hid hm
          clear hl hl2 hl3 hm SM
          go_wp2_with fail
          refine (batches_o inst a1 n c1 qs _ QP.out S1.out hi l HL.out m HM.out).mono ?_; rintro e w6 ⟨a6, c6, rfl, hbt, hb6⟩
          have BT6 := Lib.hid hbt
          have B6 := Lib.hid (B5.out.trans (hb6.mono B5.out.size))
          have O6 := Lib.hid (own_below O8.out hb6)
          have D6 := Lib.hid (fun q hq => (D5.out q hq).below hb6)
          have P6 := Lib.hid (own_below P5.out hb6)
          have QT6 := Lib.hid (QT.out.below hb6)
          have Z6 := Lib.hid hb6.size
          clear hbt hb6
          go_wp2_with fail
          refine (batches_o inst a8 n c8 _ _ QT6.out S2.out hi l HL2.out m HM.out).mono ?_; rintro e w7 ⟨a7, c7, rfl, hbt, hb7⟩
          have BU7 := Lib.hid hbt
          have BT7 := Lib.hid (BT6.out.below hb7)
          have B7 := Lib.hid (B6.out.trans (hb7.mono B6.out.size))
          have O7 := Lib.hid (own_below O6.out hb7)
          have D7 := Lib.hid (fun q hq => (D6.out q hq).below hb7)
          have P7 := Lib.hid (own_below P6.out hb7)
          have Z7 := Lib.hid hb7.size
          clear hbt hb7
          go_wp2_with fail
          refine (kbatches_c w w a7 a6 m m c7 c6 l l _ (BU7.out.to w) (BT7.out.to w) m16 LB.out true (decide_eq_true rfl)).mono ?_; rintro e w8 ⟨rfl, hb8⟩
          have BT8 := Lib.hid (BT7.out.below hb8)
          have B8 := Lib.hid (B7.out.trans (hb8.mono B7.out.size))
          have R8 := Lib.hid (own_below O7.out hb8)
          have D8 := Lib.hid (fun q hq => (D7.out q hq).below hb8)
          have P8 := Lib.hid (own_vrow (own_below P7.out hb8))
          have B48 : Hid (w4.heap.size ≤ w8.heap.size) := Lib.hid (Nat.le_trans (Nat.le_trans (Nat.le_trans Z5.out Z6.out) Z7.out) hb8.size)
          clear hb8 BU7
          go_wp2_with (at_builtin; refine wpList_app_g rfl _ _ _ rfl w4.heap.size 32 tp _ 4 64 Try.underlying22 pi0 pz0 pz1 pz2 rfl (by omega) a8 n c8 (qs.reverse.flatMap pcell') rfl R8.out a1 n c1 (qs.flatMap pcell') rfl P8.out (pcell'_one _) (by unfold maxLen; omega) (by omega) B48.out ?_; intro a9 c9 w9 h9)
          have O9 : Hid (w9.ownsRow w4.heap.size 32 4 (.slice a9 (n + n) c9) (n + n) ((qs.reverse ++ qs).flatMap pcell')) := Lib.hid (by have := h9.own; rw [List.flatMap_append]; exact this)
          have D9 := Lib.hid (fun q hq => (D8.out q hq).only h9.only (row_part R8.out))
          have BT9 := Lib.hid (BT8.out.only h9.only (odd_row R8.out (by decide) (by decide)))
          have B9 := Lib.hid (h9.below R8.out B8.out B.out.size B8.out.size)
          have Q9 : Hid (Parts w9 a9 (n + n) c9 (qs.reverse ++ qs)) := Lib.hid ⟨own_vrow O9.out, by rw [List.length_append, List.length_reverse, QL.out], own_cap O9.out, own_max O9.out, fun p hp => (D9.out p (SMH.out p hp)).to B9.out⟩
          clear h9
          go_wp2_with fail
          refine (batches_o inst a9 (n + n) c9 _ _ Q9.out S3.out hi l HL3.out m HM.out).mono ?_; rintro e wa ⟨aa, ca, rfl, hbt, hba⟩
          have BUa := Lib.hid hbt
          have BTa := Lib.hid (BT9.out.below hba)
          have Ba := Lib.hid (B9.out.trans (hba.mono B9.out.size))
          clear hbt hba
          go_wp2_with fail
          refine (kbatches_c w w aa a6 m m ca c6 l l _ (BUa.out.to w) (BTa.out.to w) m16 LB.out true (decide_eq_true rfl)).mono ?_; rintro e wb ⟨rfl, hbb⟩
          have Bb := Lib.hid (Ba.out.trans (hbb.mono Ba.out.size))
          clear hbb
          go_wp2_with fail
          refine (chwakes_c _).mono ?_; rintro e wd ⟨rfl, hbd⟩
          go_wp2_with fail
          go_ret
          exact ⟨rfl, Bb.out.trans (hbd.mono Bb.out.size)⟩

set_option maxRecDepth 100000 in
theorem lawWalk : LawWalk Try.checked 3 Try.f3 := by
  intro H enc W base args ds p hval hA hsz
  rw [Try.params3] at hA hval
  obtain ⟨v0, vs0, d0, ds0, p0, q0, hargs, rfl, rfl, h0, r0⟩ := trodAll_cons hA
  obtain ⟨v1, vs1, d1, ds1, p1, q1, rfl, rfl, rfl, h1, r1⟩ := trodAll_cons r0
  obtain ⟨rfl, rfl, rfl⟩ := trodAll_nil r1
  obtain rfl : args = #[v0, v1] := by cases args; simp_all
  obtain ⟨a0, rfl, rfl, rfl, w0⟩ := open_int Try.underlying3 (hval 0 3 v0 rfl rfl) h0
  obtain ⟨a1, n1, c1, ps1, rfl, hr1⟩ := open_parts (hval 1 22 v1 rfl rfl) h1
  exact walk a0 a1 n1 c1 ps1 W (I64.of_wf w0) hr1

theorem lifted (os : Os) (started : os.Started) (H : Type) (enc : TypeId × Value → H) :
    ReturnsInHanded {} Try.checked os 3 .any (Rows.chooseTwiceSpec.pre6 enc Try.prog Try.f3 Rows.chooseTwiceRow.domain false) (Rows.chooseTwiceSpec.post enc Try.prog Try.f3 false true false false) :=
  law_lift (C := Try.checked) (s := Rows.chooseTwiceSpec) (tb := 4) (by kernel_rfl) started (by kernel_rfl) Try.func3
    (ChangeSpec.witness6 (enc := enc) (C := Try.checked) false ⟨#[], #[.int .i64 0, .slice none 0 0], []⟩ 8 (by kernel_rfl) (by kernel_rfl) (by kernel_rfl) (by kernel_rfl))
    rfl (fun H ds h => by
      match ds, h with
      | [d0, d1], _ => rfl) (by kernel_rfl) (by kernel_rfl) (by kernel_rfl) Try.underlying4 lawWalk

theorem over : Rows.chooseTwiceRow.holds Try.pinned (OpenSpec.ofChange Rows.chooseTwiceSpec) :=
  OpenClaim.holds_of_wide 3 Try.f3 rfl rfl rfl rfl rfl rfl rfl ⟨rfl, rfl, rfl, rfl, rfl⟩ rfl rfl rfl rfl rfl (by kernel_rfl) Try.func3 (by kernel_rfl)
    (of_decide_eq_true (by kernel_rfl)) (by unfold Func.isWrapper; first | (rw [if_pos (by decide +kernel)]; kernel_rfl) | (rw [if_neg (by decide +kernel)]; exact ⟨rfl, rfl⟩))
    (fun os started H enc _ => lifted os started H enc)

/-- The statement. -/
theorem proved : Rows.ChooseTwiceSaid := over
#print axioms proved

end Go.Proofs.Ytpkifmophmjilaa.ChooseTwice
