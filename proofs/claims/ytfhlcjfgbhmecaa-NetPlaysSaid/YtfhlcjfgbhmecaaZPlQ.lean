/- PlE, PlQ. -/
import Derived.Test.YtfhlcjfgbhmecaaZPlD0
import Derived.Test.YtfhlcjfgbhmecaaZPlD5
import Derived.Test.YtfhlcjfgbhmecaaZPlD6
import Derived.Test.YtfhlcjfgbhmecaaZPlD7
import Derived.Test.YtfhlcjfgbhmecaaZPlD8
import Derived.Test.YtfhlcjfgbhmecaaZPlN
import Derived.Test.YtfhlcjfgbhmecaaZNetLo
/- The law's act, whole. -/
namespace Go.Proofs.Ytfhlcjfgbhmecaa
open Go.RowKit
set_option linter.unusedVariables false
theorem do_pl (w0 w : World) (gn x : Nat) (room S : Int) (Q : Nat → List (List Int)) (nk : Prop) (d A B K T : Int) (R : Byt) (hJ : J2 w0 w gn x room S S Q Q nk (fun _ => False)) (hr : 1 ≤ room ∧ room ≤ 256) (hd : I64 d) (hA : I64 A) (hB : I64 B) (hK : I64 K) (hT : I64 T) (hRi : R.Is w0) (hS : 0 ≤ S ∧ S ≤ 1000000) :
    Calls Try.prog 47 #[.pointer (some ⟨gn, 0, none⟩), .pointer (some ⟨x, 0, none⟩), .agg #[.int .i64 d, .int .i64 A, .int .i64 B, .int .i64 K, .int .i64 T, .slice R.a R.xs.length R.c]] w (fun e w' => e = .returned (.bool true) ∧ ∃ S' Q', S ≤ S' ∧ S' ≤ S + 1 ∧ J2 w0 w' gn x room S' S' Q' Q' nk (fun _ => False)) := by
  have h1 := Int.emod_nonneg d (show (9 : Int) ≠ 0 by omega)
  have h2 := Int.emod_lt_of_pos d (show (0 : Int) < 9 by omega)
  rcases (show d % 9 < 5 ∨ d % 9 = 5 ∨ d % 9 = 6 ∨ d % 9 = 7 ∨ d % 9 = 8 by omega) with h | h | h | h | h
  · exact do_push w0 w gn x room S Q nk d A B K T R hJ hr hd hA hB hK hT hRi hS h
  · exact do_take w0 w gn x room S Q nk d A B K T R hJ hr hd hA hB hK hT hRi hS h
  · exact do_peek w0 w gn x room S Q nk d A B K T R hJ hr hd hA hB hK hT hRi hS h
  · exact do_dup w0 w gn x room S Q nk d A B K T R hJ hr hd hA hB hK hT hRi hS h
  · exact do_move w0 w gn x room S Q nk d A B K T R hJ hr hd hA hB hK hT hRi hS h
/-- One act of a list lies where it came from. -/
theorem act_pl {w wr : World} {a : Option Addr} {n : Nat} {g : Nat → Nat → Int} {R : Nat → Byt} (hR : ActsB w a n 5 g R) (hb : Below w.heap.size w wr) {k : Nat} (hlt : k < n) :
    ∃ b off, a = some ⟨b, off, none⟩ ∧ wr.cell? ⟨b, off + k * 6, none⟩ = some (.int .i64 (g k 0)) ∧ wr.cell? ⟨b, off + k * 6 + 1, none⟩ = some (.int .i64 (g k 1)) ∧ wr.cell? ⟨b, off + k * 6 + 2, none⟩ = some (.int .i64 (g k 2)) ∧ wr.cell? ⟨b, off + k * 6 + 3, none⟩ = some (.int .i64 (g k 3)) ∧ wr.cell? ⟨b, off + k * 6 + 4, none⟩ = some (.int .i64 (g k 4)) ∧ wr.cell? ⟨b, off + k * 6 + 5, none⟩ = some (.slice (R k).a (R k).xs.length (R k).c) ∧ (R k).Is w := by
  obtain ⟨b, off, rfl, hbl, hcell⟩ := hR.row (by omega)
  obtain ⟨hc, hc3, hci⟩ := hcell k hlt
  exact ⟨b, off, rfl, (hb.cell (p := ⟨b, off + k * 6, none⟩) hbl).trans (hc 0 (by omega)), (hb.cell (p := ⟨b, off + k * 6 + 1, none⟩) hbl).trans (hc 1 (by omega)), (hb.cell (p := ⟨b, off + k * 6 + 2, none⟩) hbl).trans (hc 2 (by omega)), (hb.cell (p := ⟨b, off + k * 6 + 3, none⟩) hbl).trans (hc 3 (by omega)), (hb.cell (p := ⟨b, off + k * 6 + 4, none⟩) hbl).trans (hc 4 (by omega)), (hb.cell (p := ⟨b, off + k * 6 + 5, none⟩) hbl).trans hc3, hci⟩
end Go.Proofs.Ytfhlcjfgbhmecaa
/- NetPlays: a configuration that may not be; Links of both; clones of both. -/
namespace Go.Proofs.Ytfhlcjfgbhmecaa
open Go.RowKit
set_option linter.unusedVariables false
set_option maxRecDepth 100000

theorem nnew_bad (room : Int) (hr : ¬ (1 ≤ room ∧ room ≤ 256)) (w : World) :
    Calls Try.prog 30 #[.agg (cfgA room)] w fun e w' => e = .returned (.tuple #[.pointer none, .int .i64 1]) ∧ Below w.heap.size w w' := by
  have hv : Cfg.validB 1 2 2 4 room 8 8 8 1 2 12 8 6 2 6 = false := by
    have h4 : Cfg.inB room 1 256 = false := by unfold Cfg.inB; simpa using hr
    unfold Cfg.validB
    rw [h4]
    simp
  have HV := Lib.hid hv
  clear hv hr
  go_enter Try.func30, Try.ntmps30
  go_upto_region 1 with fail
  obtain ⟨w1, hw1⟩ : ∃ w1, w1 = w.alloc (.cells (cfgA room) 64) := ⟨_, rfl⟩
  obtain ⟨gc, hgc⟩ : ∃ g, g = w.heap.size := ⟨_, rfl⟩
  have hk : Blk w1 gc 64 (cfgA room) := by rw [hw1, hgc]; exact Blk.new _ _ _
  have hb1 : Below w.heap.size w w1 := by rw [hw1]; exact (Below.refl _ _).alloc (Nat.le_refl _) _
  have B1 := Lib.hid hb1
  have e0 : w.alloc (.cells #[.int .i64 1, .int .i64 2, .int .i64 2, .int .i64 4, .int .i64 room, .int .i64 8, .int .i64 8, .int .i64 8, .int .i64 1, .int .i64 2, .int .i64 12, .int .i64 8, .int .i64 6, .int .i64 2, .int .i64 6] 64) = w1 := hw1.symm
  rw [e0, ← hgc]
  have k0 := hk.cell 0
  have k1 := hk.cell 1
  have k2 := hk.cell 2
  have k3 := hk.cell 3
  have k4 := hk.cell 4
  have k5 := hk.cell 5
  have k6 := hk.cell 6
  have k7 := hk.cell 7
  have k8 := hk.cell 8
  have k9 := hk.cell 9
  have k10 := hk.cell 10
  have k11 := hk.cell 11
  have k12 := hk.cell 12
  have k13 := hk.cell 13
  have k14 := hk.cell 14
  clear e0 hw1 hgc hk hb1
  go_wp2_with fail
  refine (Cfg.valid_c 1 2 2 4 room 8 8 8 1 2 12 8 6 2 6 _).mono ?_; rintro e w2 ⟨rfl, hb2⟩
  have B2 := Lib.hid (B1.out.trans (hb2.mono B1.out.size))
  rw [HV.out]
  clear hb2
  go_wp2_with fail
  go_ret2
  exact ⟨by first | rfl | trivial, B2.out⟩

theorem lksTo_congr (n : Nat) (ps : List Int) (ms ms' : Nat → List (Value × List Int)) (h : ∀ k, (ms k).length = (ms' k).length) : ∀ N, lksTo n ps ms N = lksTo n ps ms' N
  | 0 => rfl
  | N + 1 => by rw [lksTo_succ, lksTo_succ, h N, lksTo_congr n ps ms ms' h N]
/-- The ends of the links that have messages. -/
def LK (Q : Nat → List (List Int)) : List (Int × Int) := lksTo 6 six (fun k => (Q k).map fun bs => (Value.bool true, bs)) 36
theorem LK_len (Q : Nat → List (List Int)) : (LK Q).length ≤ 36 := lksTo_len _ _ _ _
theorem lk_eq (Q : Nat → List (List Int)) (ms : Nat → List (Value × List Int)) (h : ∀ k, (ms k).map Prod.snd = Q k) : lksTo 6 six ms (6 * 6) = LK Q := by
  unfold LK
  exact lksTo_congr 6 six _ _ (fun k => by rw [List.length_map, ← h k, List.length_map]) 36
section
variable {w0 w w' : World} {gn x : Nat} {room Sn Sr : Int} {Qn Qr Q : Nat → List (List Int)} {nk : Prop} {av : Nat → Prop}
theorem j_nlinks (h : J2 w0 w gn x room Sn Sr Qn Qr nk av) (L : List (Int × Int)) (hL : LK Qn = L) :
    Calls Try.prog 37 #[.pointer (some ⟨gn, 0, none⟩)] w fun e w' => ∃ A c, e = .returned (.slice A L.length c) ∧ PRow w' w.heap.size (.slice A L.length c) L ∧ Below w.heap.size w w' := by
  obtain ⟨Bn, q, g, lost, ms, B, M, gf, cf, nb, an, cn, ac, cc, ge, ce, gq, cq, ra, rc, pn, pc, h1, h2, h3, h4, h5, h6, h7, h8, h9⟩ := h.ex
  exact nlinks_c w h1 (by omega) L (by rw [← hL]; exact lk_eq Qn ms h4)
theorem j_rlinks (h : J2 w0 w gn x room Sn Sr Q Q nk av) (L : List (Int × Int)) (hL : LK Q = L) :
    Calls Try.prog 51 #[.pointer (some ⟨x, 0, none⟩)] w fun e w' => ∃ A c, e = .returned (.slice A L.length c) ∧ PRow w' w.heap.size (.slice A L.length c) L ∧ Below w.heap.size w w' := by
  obtain ⟨Bn, q, g, lost, ms, B, M, gf, cf, nb, an, cn, ac, cc, ge, ce, gq, cq, ra, rc, pn, pc, h1, h2, h3, h4, h5, h6, h7, h8, h9⟩ := h.ex
  refine rlinks_c h2 L ?_
  rw [← hL, ← lk_eq Q ms h4]
  refine links_alike M ms (fun a b ha hb hab => ?_) (fun a ha => ?_) 6 (Nat.le_refl _)
  · have e1 := congrArg List.length (h5 a b ha hb hab)
    have e2 := congrArg List.length (h4 (a * 6 + b))
    rw [List.length_map] at e1 e2
    omega
  · have e2 := congrArg List.length (h4 (a * 6 + a))
    rw [h.diag a ha, List.length_map] at e2
    exact e2
/-- A clone of the net, the reference's not yet made. -/
structure CN (B : Nat) (w : World) (gn : Nat) (room Sn : Int) (Qn : Nat → List (List Int)) : Prop where
  ex : ∃ (q g : Nat → Nat) (lost : Nat → Int) (ms : Nat → List (Value × List Int)), Nt B w gn 6 six q g room lost ms ∧ (∀ k, (ms k).map Prod.snd = Qn k) ∧ (∀ k, 0 ≤ lost k) ∧ sumL lost 36 = Sn ∧ ∀ k, k < 36 → B ≤ q k ∧ B ≤ g k
theorem CN.keep {B : Nat} (h : CN B w gn room Sn Qn) (hb : Below w.heap.size w w') : CN B w' gn room Sn Qn := by
  obtain ⟨q, g, lost, ms, h1, h2⟩ := h.ex
  exact ⟨q, g, lost, ms, h1.below hb, h2⟩
theorem j_nclone (h : J2 w0 w gn x room Sn Sr Qn Qr nk av) :
    Calls Try.prog 48 #[.pointer (some ⟨gn, 0, none⟩)] w fun e w' => ∃ gn', e = .returned (.pointer (some ⟨gn', 0, none⟩)) ∧ CN w.heap.size w' gn' room Sn Qn ∧ Below w.heap.size w w' := by
  obtain ⟨Bn, q, g, lost, ms, B, M, gf, cf, nb, an, cn, ac, cc, ge, ce, gq, cq, ra, rc, pn, pc, h1, h2, h3, h4, h5, h6, h7, h8, h9⟩ := h.ex
  refine (nclone_c w h1 (by omega)).mono ?_
  rintro e w' ⟨gn', q', g', rfl, n1, n2, n3, n4⟩
  exact ⟨gn', rfl, ⟨q', g', lost, ms, n1, h4, h6, h7, n4⟩, n2⟩
/-- Both cloned. -/
theorem j_rclone {wc : World} {gn' : Nat} (h : J2 w0 wc gn x room Sn Sr Qn Qr nk av) (hnk : nk) (hb : Below wc.heap.size wc w) (hc : CN wc.heap.size w gn' room Sn Qn) :
    Calls Try.prog 49 #[.pointer (some ⟨x, 0, none⟩)] w fun e w' => ∃ y, e = .returned (.pointer (some ⟨y, 0, none⟩)) ∧ J2 wc w' gn' y room Sn Sr Qn Qr False (fun _ => False) ∧ Below w.heap.size w w' := by
  obtain ⟨Bn, q, g, lost, ms, B, M, gf, cf, nb, an, cn, ac, cc, ge, ce, gq, cq, ra, rc, pn, pc, h1, h2, h3, h4, h5, h6, h7, h8, h9⟩ := h.ex
  refine (rcclone_c (h2.keep hb) hnk).mono ?_
  rintro e w' ⟨y, nb', an', cn', ac', cc', gq', cq', pn', pc', rfl, rx, hb', hq'⟩
  have c2 := hc.keep hb'
  obtain ⟨q', g', lost', ms', n1, n2, n3, n4, n5⟩ := c2.ex
  have sz := hb.size
  have lt : ∀ j, j < 30 → ∀ p, (ra j).map (·.block) = some p → p < wc.heap.size := fun j hj p hp => (World.ownsRow.lt (h2.rows j hj) p (by rw [own_block_eq]; exact hp)).2
  refine ⟨y, rfl, ⟨⟨_, q', g', lost', ms', w.heap.size, M, gf, cf, nb', an', cn', ac', cc', ge, ce, gq', cq', ra, rc, pn', pc', n1, ?_, n5, n2, h5, n3, n4, fun k j hk hj hh => ?_, fun k hk m hm b hb hf => hf⟩, h.diag, hb.trans (hb'.mono sz)⟩, hb'⟩
  · exact ⟨rx.blk, rx.notary, rx.nrow, fun hf => hf.elim, rx.crow, fun hf => hf.elim, rx.frow, rx.fblk, rx.erow, rx.qrow, rx.rows, fun k hk m hm => by
      obtain ⟨a, c, e1, e2, e3⟩ := rx.msgs k hk m hm
      exact ⟨a, c, e1, e2.below h.below, e3⟩, rx.len, hb.trans (hb'.mono sz), ⟨Nat.le_trans sz rx.ge.2.2, sz, rx.ge.2.2⟩⟩
  · have := lt j hj _ hh
    have := (n5 k hk).2
    omega
end
end Go.Proofs.Ytfhlcjfgbhmecaa
