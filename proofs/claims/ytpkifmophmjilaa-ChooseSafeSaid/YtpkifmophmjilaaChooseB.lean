/- choose.Best. -/
import Derived.Test.YtpkifmophmjilaaChooseG
import Derived.Test.YtpkifmophmjilaaApp
import Derived.OwnWalk
import Derived.Deep.AppendLies
import Derived.Deep.CutRange
import Derived.Deep.DeepCutAuto
import Derived.Deep.CutBlock
namespace Go.Proofs.Ytpkifmophmjilaa
open Go.RowKit
set_option linter.unusedVariables false

theorem info_reqT : (Try.prog.info? 40).map (fun i => (i.zero, i.size, i.bytes)) = some (some (.agg #[.int .i64 0, .int .i64 0, .int .i64 0, .int .i64 0, .int .i64 0, .int .i64 0]), 6, 48) := by kernel_rfl
theorem info_voteT : (Try.prog.info? 70).map (fun i => (i.zero, i.size, i.bytes)) = some (some (.agg #[.int .i64 0, .int .i64 0]), 2, 16) := by kernel_rfl

/-- What Best holds so far lies in its block. -/
def bestC (o : Option CD) : CD := o.getD zeroC
theorem bestB_take {inst seq view ins sq : Int} {o : Option CD} {c : CD} (h0 : c.view = view) (h1 : c.inst = ins) (h2 : c.seq = sq) (e1 : ins = inst) (e2 : sq = seq) (e3 : o.isSome = false ∨ (bestC o).view < view) : bestB inst seq o c = some c := by
  subst h0 h1 h2
  refine if_pos ⟨e1, e2, fun b hb => ?_⟩
  subst hb
  rcases e3 with e3 | e3
  · cases e3
  · exact e3
theorem bestB_keep {inst seq view ins sq : Int} {o : Option CD} {c : CD} (h0 : c.view = view) (h1 : c.inst = ins) (h2 : c.seq = sq) (e : ¬ (ins = inst ∧ sq = seq ∧ (o.isSome = false ∨ (bestC o).view < view))) : bestB inst seq o c = o := by
  subst h0 h1 h2
  refine if_neg fun h => e ⟨h.1, h.2.1, ?_⟩
  cases o with
  | none => exact .inl rfl
  | some b => exact .inr (h.2.2 b rfl)

/-- The same certificate elsewhere. -/
structure Like (d c : CD) : Prop where
  view : d.view = c.view
  inst : d.inst = c.inst
  seq : d.seq = c.seq
  bs : d.bs = c.bs
  vs : d.vs = c.vs
  bn : d.bn = c.bn
  vn : d.vn = c.vn

theorem own_max {w : World} {base s n c : Nat} {e : TypeId} {a : Option Addr} {xs : List Value} (h : w.ownsRow base e s (.slice a n c) n xs) : c ≤ maxLen := by
  rcases h.2 with ⟨hv, rfl⟩ | ⟨g, cap, cur, hv, _, hh, hc, hm, _⟩
  · injection hv with _ _ hcc
    rw [hcc]; exact Nat.zero_le _
  · injection hv with _ _ hcc
    rw [hcc]; exact hm
theorem zero_is (w : World) : (bestC none).Is w ∧ (bestC none).bn ≤ 4096 ∧ (bestC none).vn ≤ 4096 :=
  ⟨⟨RqRow.nil (c := 0) w none (Nat.zero_le _), VoRow.nil (c := 0) w none (Nat.zero_le _), I64.zero, I64.zero, I64.zero⟩, Nat.zero_le _, Nat.zero_le _⟩

set_option maxRecDepth 100000 in
set_option maxHeartbeats 6400000 in
theorem best_c (inst seq : Int) (a : Option Addr) (n c : Nat) (ps : List PD) (w : World) (h : Parts w a n c ps) (hs : Small n ps) (hi : I64 inst) (hq : I64 seq) (o : Option CD) (ho : best inst seq ps = o) (is : Bool) (his : o.isSome = is) :
    Calls Try.prog 34 #[.int .i64 inst, .int .i64 seq, .slice a n c] w fun e w' => ∃ d : CD, e = .returned (.tuple #[.agg (ccell d).toArray, .bool is]) ∧ d.Is w' ∧ Like d (bestC o) ∧ w'.ownsRow w.heap.size 40 6 (.slice d.ba d.bn d.bc) d.bn (d.bs.flatMap rqc) ∧ Below w.heap.size w w' := by
  have H := Lib.hid h
  have S := Lib.hid hs
  have n4 := hs.n
  obtain ⟨ti, hi0, hz0, hz1, hz2⟩ := info_parts info_reqT
  obtain ⟨tv, vi0, vz0, vz1, vz2⟩ := info_parts info_voteT
  obtain ⟨F, hF⟩ : ∃ F : Option CD → PD → Option CD, F = fun o p => p.cs.foldl (bestB inst seq) o := ⟨_, rfl⟩
  have HF := Lib.hid hF
  have G' := Lib.hid (show ps.foldl F none = o by rw [hF]; exact ho)
  have IS := Lib.hid his
  have OIS : Hid (∀ b, o = some b → b.Is w ∧ b.bn ≤ 4096 ∧ b.vn ≤ 4096) := Lib.hid fun b hb => by
    obtain ⟨p, hp, hbp⟩ := List.mem_flatMap.1 (best_mem (inst := inst) (seq := seq) (ps := ps) (b := b) (by rw [ho, hb])).1
    exact ⟨(h.is p hp).c.is b hbp, hs.b p hp b hbp⟩
  clear hF h hs ho his
  go_enter Try.func34, Try.ntmps34
  go_wp2_with fail
  obtain ⟨w2, hw2⟩ : ∃ w2, w2 = (w.alloc (.cells #[.int .i64 0, .int .i64 0, .int .i64 0, .slice none 0 0, .slice none 0 0] 36)).alloc (.cells #[.int .i64 0, .int .i64 0, .int .i64 0, .slice none 0 0, .slice none 0 0] 36) := ⟨_, rfl⟩
  rw [← hw2]
  obtain ⟨gb, hgb⟩ : ∃ gb, gb = w.heap.size + 1 := ⟨_, rfl⟩
  rw [← hgb]
  have K2 : Hid (Blk w2 gb 36 (ccell (bestC none)).toArray) := Lib.hid (by rw [hw2]; exact Blk.new' _ _ _ (by simp [hgb]))
  have R2 : Hid (Blk w2 w.heap.size 36 (ccell (bestC none)).toArray) := Lib.hid (by rw [hw2]; exact (Blk.new _ _ _).alloc _)
  have B2 : Hid (Below w.heap.size w w2) := Lib.hid (by rw [hw2]; exact ((Below.refl _ _).alloc (Nat.le_refl _) _).alloc (by simp) _)
  have GB : w.heap.size ≤ gb := by omega
  have GB2 : w.heap.size ≠ gb := by omega
  have GB3 := Lib.hid GB
  have GB4 := Lib.hid GB2
  clear hw2 hgb GB GB2
  go_loopw [9, 16] (fun v i wr => ∃ (k : Nat) (o1 : Option CD), k ≤ n ∧ i = .int .i64 k ∧ v = .bool o1.isSome ∧ o1 = (ps.take k).foldl F none ∧ Blk wr gb 36 (ccell (bestC o1)).toArray ∧ Blk wr w.heap.size 36 (ccell (bestC none)).toArray ∧ Below w.heap.size w wr) (fun _ i _ => n - (intOf i).toNat)
  case atStart => exact ⟨0, none, by omega, rfl, rfl, rfl, K2.out, R2.out, B2.out⟩
  case round =>
    obtain ⟨k, o1, hk, rfl, rfl, ho1, hK, hR, hb⟩ := hrel
    have B := Lib.hid hb
    have K := Lib.hid hK
    have RR := Lib.hid hR
    by_cases hlt : k < n
    · obtain ⟨b, off, rfl, hbl, p, hp, hpI, z0, z1, z2, z3⟩ := H.out.get hlt
      have pc : p.cn ≤ 4096 := S.out.c p (List.mem_of_getElem? hp)
      have NX : Hid ((ps.take (k + 1)).foldl F none = p.cs.foldl (bestB inst seq) o1) := Lib.hid (by rw [foldl_take_succ F none ps k p hp, ← ho1, HF.out])
      obtain ⟨⟨pf, pva, pvn, pvc, pvs, pca, pcn, pcc, pcs, pse⟩, hpe⟩ : ∃ q, q = p := ⟨_, rfl⟩
      rw [← hpe] at z0 z1 z2 z3 pc NX hpI
      simp only at z0 z1 z2 z3 pc NX
      have CI : Hid (Certs w pca pcn pcc pcs) := Lib.hid hpI.c
      have p0 := kept hb _ _ z0
      have p1 := kept hb _ _ z1
      have p2 := kept hb _ _ z2
      have p3 := kept hb _ _ z3
      have i0 : (0 : Int) ≤ k := by omega
      have i1 : (k : Int) < n := by omega
      clear hpI hp hpe hb hbl ho1 hK hR z0 z1 z2 z3
      go_wp2_with fail
      obtain ⟨w3, hw3⟩ : ∃ w3, w3 = wr.alloc (.cells #[.int .i64 pf, .slice pva pvn pvc, .slice pca pcn pcc, .int .i64 pse] 32) := ⟨_, rfl⟩
      rw [← hw3]
      have b2 : Below wr.heap.size wr w3 := by rw [hw3]; exact (Below.refl _ _).alloc (Nat.le_refl _) _
      have B3 := Lib.hid (B.out.trans (b2.mono B.out.size))
      have K3 := Lib.hid (K.out.below b2 K.out.lt)
      have R3 := Lib.hid (RR.out.below b2 RR.out.lt)
      clear hw3 b2 p0 p1 p2 p3 K RR B
      go_loopw [9, 23] (fun v i wx => ∃ (q : Nat) (o2 : Option CD), q ≤ pcn ∧ i = .int .i64 q ∧ v = .bool o2.isSome ∧ o2 = (pcs.take q).foldl (bestB inst seq) o1 ∧ Blk wx gb 36 (ccell (bestC o2)).toArray ∧ Blk wx w.heap.size 36 (ccell (bestC none)).toArray ∧ Below w.heap.size w wx) (fun _ i _ => pcn - (intOf i).toNat)
      case atStart => exact ⟨0, o1, by omega, rfl, rfl, rfl, K3.out, R3.out, B3.out⟩
      case round =>
        obtain ⟨q, o2, hq, rfl, rfl, ho2, hK, hR, hb4⟩ := hrel
        have B4 := Lib.hid hb4
        have K4 := Lib.hid hK
        have R4 := Lib.hid hR
        by_cases hq2 : q < pcn
        · obtain ⟨b3, o3, rfl, hbl3, x, hx, hxI, y0, y1, y2, y3, y4⟩ := CI.out.get hq2
          have x0 := kept hb4 _ _ y0
          have x1 := kept hb4 _ _ y1
          have x2 := kept hb4 _ _ y2
          have x3 := kept hb4 _ _ y3
          have x4 := kept hb4 _ _ y4
          have NX4 : Hid ((pcs.take (q + 1)).foldl (bestB inst seq) o1 = bestB inst seq o2 x) := Lib.hid (by rw [foldl_take_succ (bestB inst seq) o1 pcs q x hx, ← ho2])
          have g0 : wr.cell? ⟨gb, 0, none⟩ = some (.int .i64 (bestC o2).view) := hK.cell 0
          have YES : Hid (x.inst = inst → x.seq = seq → (o2.isSome = false ∨ (bestC o2).view < x.view) → bestB inst seq o2 x = some x) := Lib.hid fun e1 e2 e3 => bestB_take rfl rfl rfl e1 e2 e3
          have NO : Hid (¬ (x.inst = inst ∧ x.seq = seq ∧ (o2.isSome = false ∨ (bestC o2).view < x.view)) → bestB inst seq o2 x = o2) := Lib.hid fun e => bestB_keep rfl rfl rfl e
          have NC : Hid ((ccell x).toArray = #[.int .i64 x.view, .int .i64 x.inst, .int .i64 x.seq, .slice x.ba x.bn x.bc, .slice x.va x.vn x.vc]) := Lib.hid rfl
          obtain ⟨xv, hxv⟩ : ∃ z, z = x.view := ⟨_, rfl⟩
          obtain ⟨xi, hxi⟩ : ∃ z, z = x.inst := ⟨_, rfl⟩
          obtain ⟨xs, hxs⟩ : ∃ z, z = x.seq := ⟨_, rfl⟩
          obtain ⟨xba, hxba⟩ : ∃ z, z = x.ba := ⟨_, rfl⟩
          obtain ⟨xbn, hxbn⟩ : ∃ z, z = x.bn := ⟨_, rfl⟩
          obtain ⟨xbc, hxbc⟩ : ∃ z, z = x.bc := ⟨_, rfl⟩
          obtain ⟨xva, hxva⟩ : ∃ z, z = x.va := ⟨_, rfl⟩
          obtain ⟨xvn, hxvn⟩ : ∃ z, z = x.vn := ⟨_, rfl⟩
          obtain ⟨xvc, hxvc⟩ : ∃ z, z = x.vc := ⟨_, rfl⟩
          obtain ⟨bv, hbv⟩ : ∃ z, z = (bestC o2).view := ⟨_, rfl⟩
          obtain ⟨os, hos⟩ : ∃ z, z = o2.isSome := ⟨_, rfl⟩
          rw [← hxv] at x0 YES NO NC
          rw [← hxi] at x1 YES NO NC
          rw [← hxs] at x2 YES NO NC
          rw [← hxba, ← hxbn, ← hxbc] at x3 NC
          rw [← hxva, ← hxvn, ← hxvc] at x4 NC
          rw [← hbv] at g0 YES NO
          rw [← hos] at YES NO ⊢
          have OS := Lib.hid hos
          have BV := Lib.hid hbv
          have j0 : (0 : Int) ≤ q := by omega
          have j1 : (q : Int) < pcn := by omega
          clear hx hxI hb4 hxv hxi hxs hxba hxbn hxbc hxva hxvn hxvc hbv hos ho2 hK hR y0 y1 y2 y3 y4
          have K5 : Hid (Blk (wr.alloc (.cells #[.int .i64 xv, .int .i64 xi, .int .i64 xs, .slice xba xbn xbc, .slice xva xvn xvc] 36)) gb 36 (ccell (bestC o2)).toArray) := Lib.hid (K4.out.alloc _)
          have R5 : Hid (Blk (wr.alloc (.cells #[.int .i64 xv, .int .i64 xi, .int .i64 xs, .slice xba xbn xbc, .slice xva xvn xvc] 36)) w.heap.size 36 (ccell (bestC none)).toArray) := Lib.hid (R4.out.alloc _)
          have B5 : Hid (Below w.heap.size w (wr.alloc (.cells #[.int .i64 xv, .int .i64 xi, .int .i64 xs, .slice xba xbn xbc, .slice xva xvn xvc] 36))) := Lib.hid (B4.out.alloc B4.out.size _)
          have N5 : Hid (Blk (wr.alloc (.cells #[.int .i64 xv, .int .i64 xi, .int .i64 xs, .slice xba xbn xbc, .slice xva xvn xvc] 36)) wr.heap.size 36 #[.int .i64 xv, .int .i64 xi, .int .i64 xs, .slice xba xbn xbc, .slice xva xvn xvc]) := Lib.hid (Blk.new _ _ _)
          go_upto_region 9 with fail
          obtain ⟨w5, hw5⟩ : ∃ w5, w5 = wr.alloc (.cells #[.int .i64 xv, .int .i64 xi, .int .i64 xs, .slice xba xbn xbc, .slice xva xvn xvc] 36) := ⟨_, rfl⟩
          obtain ⟨g5, hg5⟩ : ∃ g5, g5 = wr.heap.size := ⟨_, rfl⟩
          rw [← hw5] at K5 R5 B5 N5 ⊢
          rw [← hg5] at N5 ⊢
          have c0 : w5.cell? ⟨g5, 0, none⟩ = some (.int .i64 xv) := N5.out.cell 0
          have c1 : w5.cell? ⟨g5, 1, none⟩ = some (.int .i64 xi) := N5.out.cell 1
          have c2 : w5.cell? ⟨g5, 2, none⟩ = some (.int .i64 xs) := N5.out.cell 2
          have c3 : w5.cell? ⟨g5, 3, none⟩ = some (.slice xba xbn xbc) := N5.out.cell 3
          have c4 : w5.cell? ⟨g5, 4, none⟩ = some (.slice xva xvn xvc) := N5.out.cell 4
          have d0 : w5.cell? ⟨gb, 0, none⟩ = some (.int .i64 bv) := by rw [K5.out.cell 0, BV.out]; rfl
          clear hw5 hg5 x0 x1 x2 x3 x4 g0 K4 R4 B4
          by_cases h1 : xi = inst
          case neg =>
            have Y := Lib.hid (NO.out (fun h => h1 h.1))
            have e2 : (xi == inst) = false := beq_eq_false_iff_ne.2 h1
            clear h1
            go_wp2_with fail
            go_roundw
            case rel => exact ⟨q + 1, o2, by omega, by go_num, by rw [OS.out], by rw [NX4.out, Y.out], K5.out, R5.out, B5.out⟩
            case measure => simp [intOf]; omega
          case pos =>
            subst h1
            by_cases h2 : xs = seq
            case neg =>
              have Y := Lib.hid (NO.out (fun h => h2 h.2.1))
              have e2 : (xs == seq) = false := beq_eq_false_iff_ne.2 h2
              clear h2
              go_wp2_with fail
              go_roundw
              case rel => exact ⟨q + 1, o2, by omega, by go_num, by rw [OS.out], by rw [NX4.out, Y.out], K5.out, R5.out, B5.out⟩
              case measure => simp [intOf]; omega
            case pos =>
              subst h2
              by_cases h3 : os = true ∧ ¬ bv < xv
              · obtain ⟨rfl, h4⟩ := h3
                have Y := Lib.hid (NO.out (fun h => by rcases h.2.2 with h | h; cases h; exact h4 h))
                have e3 : decide (bv < xv) = false := decide_eq_false h4
                clear h4
                go_wp2_with fail
                go_roundw
                case rel => exact ⟨q + 1, o2, by omega, by go_num, by rw [OS.out], by rw [NX4.out, Y.out], K5.out, R5.out, B5.out⟩
                case measure => simp [intOf]; omega
              · have h4 : os = false ∨ (os = true ∧ bv < xv) := by
                  cases os
                  · exact .inl rfl
                  · rcases Int.lt_or_le bv xv with h | h
                    · exact .inr ⟨rfl, h⟩
                    · exact absurd ⟨rfl, by omega⟩ h3
                have Y := Lib.hid (YES.out rfl rfl (h4.imp id And.right))
                have d1 : w5.cell? ⟨gb, 1, none⟩ = _ := K5.out.cell 1
                have d2 : w5.cell? ⟨gb, 2, none⟩ = _ := K5.out.cell 2
                have d3 : w5.cell? ⟨gb, 3, none⟩ = _ := K5.out.cell 3
                have d4 : w5.cell? ⟨gb, 4, none⟩ = _ := K5.out.cell 4
                have f0 := K5.out.frozen 0
                have f1 := K5.out.frozen 1
                have f2 := K5.out.frozen 2
                have f3 := K5.out.frozen 3
                have f4 := K5.out.frozen 4
                simp only [ccell] at d1 d2 d3 d4
                clear h3
                rcases h4 with rfl | ⟨rfl, h4⟩
                all_goals
                  go_wp2_with fail
                  go_roundw
                  case rel => exact ⟨q + 1, some x, by omega, by go_num, rfl, by rw [NX4.out, Y.out], by rw [show bestC (some x) = x from rfl, NC.out]; exact (((((K5.out.set_ 0 _).set_ 1 _).set_ 2 _).set_ 3 _).set_ 4 _), ((((R5.out.far (p := ⟨gb, 0, none⟩) GB4.out _).far (p := ⟨gb, 1, none⟩) GB4.out _).far (p := ⟨gb, 2, none⟩) GB4.out _).far (p := ⟨gb, 3, none⟩) GB4.out _).far (p := ⟨gb, 4, none⟩) GB4.out _, ((((B5.out.setCell (p := ⟨gb, 0, none⟩) GB3.out _).setCell (p := ⟨gb, 1, none⟩) GB3.out _).setCell (p := ⟨gb, 2, none⟩) GB3.out _).setCell (p := ⟨gb, 3, none⟩) GB3.out _).setCell (p := ⟨gb, 4, none⟩) GB3.out _⟩
                  case measure => simp [intOf]; omega
        · have hqq : q = pcn := by omega
          have LEN := CI.out.len
          have E := Lib.hid (show o2 = (ps.take (k + 1)).foldl F none by rw [NX.out, ho2, List.take_of_length_le (by omega)])
          clear hqq LEN hb4 hK hR ho2
          go_wp2_with fail
          go_roundw
          case rel => exact ⟨k + 1, o2, by omega, by go_num, rfl, E.out, K4.out, R4.out, B4.out⟩
          case measure => simp [intOf]; omega
    · have LEN := H.out.len
      have E : o1 = o := by rw [ho1, List.take_of_length_le (by omega)]; exact G'.out
      subst E
      have OI := IS.out
      clear hb LEN ho1 hK hR
      have K3 := K.out
      have CDI : Hid ((bestC o1).Is w ∧ (bestC o1).bn ≤ 4096 ∧ (bestC o1).vn ≤ 4096) := Lib.hid (by
        cases o1 with
        | none => exact zero_is w
        | some b => exact OIS.out b rfl)
      have RR' := RR
      obtain ⟨x, hx⟩ : ∃ x, x = bestC o1 := ⟨_, rfl⟩
      rw [← hx] at CDI K3
      have K3' : Blk wr gb 36 #[.int .i64 x.view, .int .i64 x.inst, .int .i64 x.seq, .slice x.ba x.bn x.bc, .slice x.va x.vn x.vc] := K3
      have XIS := Lib.hid (show I64 x.view ∧ I64 x.inst ∧ I64 x.seq from ⟨CDI.out.1.i0, CDI.out.1.i1, CDI.out.1.i2⟩)
      have RL := Lib.hid CDI.out.1.b.len
      have VL := Lib.hid CDI.out.1.v.len
      have XR0 := CDI.out.1.b.row
      have XV0 := CDI.out.1.v.row
      have BN := CDI.out.2.1
      have VN := CDI.out.2.2
      have HX := Lib.hid hx
      obtain ⟨xv, hxv⟩ : ∃ z, z = x.view := ⟨_, rfl⟩
      obtain ⟨xi, hxi⟩ : ∃ z, z = x.inst := ⟨_, rfl⟩
      obtain ⟨xs, hxs⟩ : ∃ z, z = x.seq := ⟨_, rfl⟩
      obtain ⟨xba, hxba⟩ : ∃ z, z = x.ba := ⟨_, rfl⟩
      obtain ⟨xbn, hxbn⟩ : ∃ z, z = x.bn := ⟨_, rfl⟩
      obtain ⟨xbc, hxbc⟩ : ∃ z, z = x.bc := ⟨_, rfl⟩
      obtain ⟨xva, hxva⟩ : ∃ z, z = x.va := ⟨_, rfl⟩
      obtain ⟨xvn, hxvn⟩ : ∃ z, z = x.vn := ⟨_, rfl⟩
      obtain ⟨xvc, hxvc⟩ : ∃ z, z = x.vc := ⟨_, rfl⟩
      rw [← hxv, ← hxi, ← hxs, ← hxba, ← hxbn, ← hxbc, ← hxva, ← hxvn, ← hxvc] at K3'
      rw [← hxba, ← hxbn] at XR0
      rw [← hxva, ← hxvn] at XV0
      rw [← hxbn] at BN RL
      rw [← hxvn] at VN VL
      rw [← hxv, ← hxi, ← hxs] at XIS
      have EQC := Lib.hid (show (ccell x).toArray = #[.int .i64 xv, .int .i64 xi, .int .i64 xs, .slice xba xbn xbc, .slice xva xvn xvc] by rw [hxv, hxi, hxs, hxba, hxbn, hxbc, hxva, hxvn, hxvc]; rfl)
      have EQS := Lib.hid (show xv = x.view ∧ xi = x.inst ∧ xs = x.seq ∧ xbn = x.bn ∧ xvn = x.vn from ⟨hxv, hxi, hxs, hxbn, hxvn⟩)
      have XR := Lib.hid (XR0.below B.out)
      have XV := Lib.hid XV0
      have k3 : wr.cell? ⟨gb, 3, none⟩ = some (.slice xba xbn xbc) := K3'.cell 3
      have KK := Lib.hid K3'
      rw [OI]
      clear hx hxv hxi hxs hxba hxbn hxbc hxva hxvn hxvc K3 K3' K XR0 XV0 OI CDI
      go_upto_region 14 with (at_builtin; refine wpList_app rfl _ _ _ rfl w.heap.size 40 ti _ 6 48 Try.underlying24 hi0 hz0 hz1 hz2 rfl (by omega) none 0 0 [] rfl ⟨rfl, .inl ⟨rfl, rfl⟩⟩ xba xbn xbc (x.bs.flatMap rqc) rfl XR.out (rqc_one _) (by unfold maxLen; omega) (by omega) B.out.size ?_; intro a5 c5 w5 h5; have hb5 := h5.only.to_below; have K5 := Lib.hid (KK.out.below hb5 KK.out.lt); have d5 : w5.cell? ⟨gb, 3, none⟩ = some (.slice xba xbn xbc) := K5.out.cell 3; have f5 := K5.out.frozen 3)
      have O5 : Hid (w5.ownsRow w.heap.size 40 6 (.slice a5 xbn c5) xbn (x.bs.flatMap rqc)) := Lib.hid (by have := h5.own; rwa [Nat.zero_add, List.nil_append] at this)
      have R5 := Lib.hid (RR.out.below hb5 RR.out.lt)
      have B5 := Lib.hid (B.out.trans (hb5.mono B.out.size))
      clear h5 hb5 k3
      try simp only [Nat.zero_add]
      obtain ⟨w6, hw6⟩ : ∃ w6, w6 = w5.setCell ⟨gb, 3, none⟩ (.slice a5 xbn c5) := ⟨_, rfl⟩
      rw [← hw6]
      have K6 : Hid (Blk w6 gb 36 #[.int .i64 xv, .int .i64 xi, .int .i64 xs, .slice a5 xbn c5, .slice xva xvn xvc]) := Lib.hid (by rw [hw6]; exact K5.out.set_ 3 _)
      have R6 : Hid (Blk w6 w.heap.size 36 (ccell (bestC none)).toArray) := Lib.hid (by rw [hw6]; exact R5.out.far (p := ⟨gb, 3, none⟩) GB4.out _)
      have B6 : Hid (Below w.heap.size w w6) := Lib.hid (by rw [hw6]; exact B5.out.setCell (p := ⟨gb, 3, none⟩) GB3.out _)
      have O6 : Hid (w6.ownsRow w.heap.size 40 6 (.slice a5 xbn c5) xbn (x.bs.flatMap rqc)) := Lib.hid (by rw [hw6]; exact ownsRow_setCell_other O5.out (own_blk_ne O5.out K5.out (by decide)) _)
      have k4 : w6.cell? ⟨gb, 4, none⟩ = some (.slice xva xvn xvc) := K6.out.cell 4
      have XV6 := Lib.hid (XV.out.below B6.out)
      clear hw6 d5 f5
      go_upto_region 15 with (at_builtin; refine wpList_app rfl _ _ _ rfl w.heap.size 70 tv _ 2 16 Try.underlying25 vi0 vz0 vz1 vz2 rfl (by omega) none 0 0 [] rfl ⟨rfl, .inl ⟨rfl, rfl⟩⟩ xva xvn xvc (x.vs.flatMap voc) rfl XV6.out (voc_one _) (by unfold maxLen; omega) (by omega) B6.out.size ?_; intro a7 c7 w7 h7; have hb7 := h7.only.to_below; have K7 := Lib.hid (K6.out.below hb7 K6.out.lt); have d7 : w7.cell? ⟨gb, 4, none⟩ = some (.slice xva xvn xvc) := K7.out.cell 4; have f7 := K7.out.frozen 4)
      have O7 : Hid (w7.ownsRow w.heap.size 70 2 (.slice a7 xvn c7) xvn (x.vs.flatMap voc)) := Lib.hid (by have := h7.own; rwa [Nat.zero_add, List.nil_append] at this)
      have P7 := Lib.hid (own_below O6.out hb7)
      have R7 := Lib.hid (R6.out.below hb7 R6.out.lt)
      have B7 := Lib.hid (B6.out.trans (hb7.mono B6.out.size))
      clear h7 hb7 k4
      try simp only [Nat.zero_add]
      obtain ⟨w8, hw8⟩ : ∃ w8, w8 = w7.setCell ⟨gb, 4, none⟩ (.slice a7 xvn c7) := ⟨_, rfl⟩
      rw [← hw8]
      have K8 : Hid (Blk w8 gb 36 #[.int .i64 xv, .int .i64 xi, .int .i64 xs, .slice a5 xbn c5, .slice a7 xvn c7]) := Lib.hid (by rw [hw8]; exact K7.out.set_ 4 _)
      have R8 : Hid (Blk w8 w.heap.size 36 (ccell (bestC none)).toArray) := Lib.hid (by rw [hw8]; exact R7.out.far (p := ⟨gb, 4, none⟩) GB4.out _)
      have B8 : Hid (Below w.heap.size w w8) := Lib.hid (by rw [hw8]; exact B7.out.setCell (p := ⟨gb, 4, none⟩) GB3.out _)
      have O8 : Hid (w8.ownsRow w.heap.size 40 6 (.slice a5 xbn c5) xbn (x.bs.flatMap rqc)) := Lib.hid (by rw [hw8]; exact ownsRow_setCell_other P7.out (own_blk_ne P7.out K7.out (by decide)) _)
      have Q8 : Hid (w8.ownsRow w.heap.size 70 2 (.slice a7 xvn c7) xvn (x.vs.flatMap voc)) := Lib.hid (by rw [hw8]; exact ownsRow_setCell_other O7.out (own_blk_ne O7.out K7.out (by decide)) _)
      have d0 : w8.cell? ⟨gb, 0, none⟩ = some (.int .i64 xv) := K8.out.cell 0
      have d1 : w8.cell? ⟨gb, 1, none⟩ = some (.int .i64 xi) := K8.out.cell 1
      have d2 : w8.cell? ⟨gb, 2, none⟩ = some (.int .i64 xs) := K8.out.cell 2
      have d3 : w8.cell? ⟨gb, 3, none⟩ = some (.slice a5 xbn c5) := K8.out.cell 3
      have d4 : w8.cell? ⟨gb, 4, none⟩ = some (.slice a7 xvn c7) := K8.out.cell 4
      have q0 : w8.cell? ⟨w.heap.size, 0, none⟩ = some (.int .i64 0) := R8.out.cell 0
      have q1 : w8.cell? ⟨w.heap.size, 1, none⟩ = some (.int .i64 0) := R8.out.cell 1
      have q2 : w8.cell? ⟨w.heap.size, 2, none⟩ = some (.int .i64 0) := R8.out.cell 2
      have q3 : w8.cell? ⟨w.heap.size, 3, none⟩ = some (.slice none 0 0) := R8.out.cell 3
      have q4 : w8.cell? ⟨w.heap.size, 4, none⟩ = some (.slice none 0 0) := R8.out.cell 4
      have f0 := R8.out.frozen 0
      have f1 := R8.out.frozen 1
      have f2 := R8.out.frozen 2
      have f3 := R8.out.frozen 3
      have f4 := R8.out.frozen 4
      clear hw8 d7 f7
      go_wp2_with fail
      try simp only [Exit.inBlock, Exit.then]
      obtain ⟨w9, hw9⟩ : ∃ w9, w9 = (((((w8.setCell ⟨w.heap.size, 0, none⟩ (.int .i64 xv)).setCell ⟨w.heap.size, 1, none⟩ (.int .i64 xi)).setCell ⟨w.heap.size, 2, none⟩ (.int .i64 xs)).setCell ⟨w.heap.size, 3, none⟩ (.slice a5 xbn c5)).setCell ⟨w.heap.size, 4, none⟩ (.slice a7 xvn c7)) := ⟨_, rfl⟩
      rw [← hw9]
      have R9 : Blk w9 w.heap.size 36 #[.int .i64 xv, .int .i64 xi, .int .i64 xs, .slice a5 xbn c5, .slice a7 xvn c7] := by rw [hw9]; exact (((((R8.out.set_ 0 _).set_ 1 _).set_ 2 _).set_ 3 _).set_ 4 _)
      have B9 : Below w.heap.size w w9 := by rw [hw9]; exact ((((B8.out.setCell (p := ⟨w.heap.size, 0, none⟩) (Nat.le_refl _) _).setCell (p := ⟨w.heap.size, 1, none⟩) (Nat.le_refl _) _).setCell (p := ⟨w.heap.size, 2, none⟩) (Nat.le_refl _) _).setCell (p := ⟨w.heap.size, 3, none⟩) (Nat.le_refl _) _).setCell (p := ⟨w.heap.size, 4, none⟩) (Nat.le_refl _) _
      have o8 : Only [w.heap.size] w8 w9 := by rw [hw9]; exact (((((Only.refl [w.heap.size] w8).setCell (p := ⟨w.heap.size, 0, none⟩) (.inl (by simp)) _).setCell (p := ⟨w.heap.size, 1, none⟩) (.inl (by simp)) _).setCell (p := ⟨w.heap.size, 2, none⟩) (.inl (by simp)) _).setCell (p := ⟨w.heap.size, 3, none⟩) (.inl (by simp)) _).setCell (p := ⟨w.heap.size, 4, none⟩) (.inl (by simp)) _
      have O9 := own_only O8.out o8 (fun g hg hm => by
        simp only [List.mem_singleton] at hm
        exact own_blk_ne O8.out R8.out (by decide) (by rw [hg, hm]))
      have Q9 := own_only Q8.out o8 (fun g hg hm => by
        simp only [List.mem_singleton] at hm
        exact own_blk_ne Q8.out R8.out (by decide) (by rw [hg, hm]))
      have r0 : w9.cell? ⟨w.heap.size, 0, none⟩ = some (.int .i64 xv) := R9.cell 0
      have r1 : w9.cell? ⟨w.heap.size, 1, none⟩ = some (.int .i64 xi) := R9.cell 1
      have r2 : w9.cell? ⟨w.heap.size, 2, none⟩ = some (.int .i64 xs) := R9.cell 2
      have r3 : w9.cell? ⟨w.heap.size, 3, none⟩ = some (.slice a5 xbn c5) := R9.cell 3
      have r4 : w9.cell? ⟨w.heap.size, 4, none⟩ = some (.slice a7 xvn c7) := R9.cell 4
      clear hw9
      obtain ⟨e1, e2, e3, e4, e5⟩ := EQS.out
      refine bodyPost_ret (v := .tuple #[.agg #[.int .i64 xv, .int .i64 xi, .int .i64 xs, .slice a5 xbn c5, .slice a7 xvn c7], .bool is]) (by simp [results, Try.results34, go_sem, r0, r1, r2, r3, r4]) rfl ?_
      exact ⟨⟨xv, xi, xs, a5, xbn, c5, x.bs, a7, xvn, c7, x.vs⟩, rfl, ⟨⟨own_vrow O9, RL.out, own_cap O9, own_max O9⟩, ⟨own_vrow Q9, VL.out, own_cap Q9, own_max Q9⟩, XIS.out.1, XIS.out.2.1, XIS.out.2.2⟩, by rw [← HX.out]; exact ⟨e1, e2, e3, rfl, rfl, e4, e5⟩, O9, B9⟩
end Go.Proofs.Ytpkifmophmjilaa
