/- PlM, CopyB, PlN. -/
import Derived.Test.YtfhlcjfgbhmecaaZPlL
import Derived.Test.YtfhlcjfgbhmecaaZLinkP
import Derived.Test.YtfhlcjfgbhmecaaZApp
/- NetPlays: calls over a link that turn nothing; peeks; the reference's queues. -/
namespace Go.Proofs.Ytfhlcjfgbhmecaa
open Go.RowKit
set_option linter.unusedVariables false
set_option maxRecDepth 100000

section
variable {w0 w w' : World} {gn x : Nat} {room Sn Sr : Int} {Qn Qr : Nat → List (List Int)} {nk : Prop} {av : Nat → Prop}
theorem j_take_no (h : J2 w0 w gn x room Sn Sr Qn Qr nk av) (s d z : Int) (a b : Nat) (hl : Lnk 6 six s d (a * 6 + b)) (hz : I64 z) (hno : ¬ (0 ≤ z ∧ z < (Qn (a * 6 + b)).length)) :
    Calls Try.prog 38 #[.pointer (some ⟨gn, 0, none⟩), .int .i64 s, .int .i64 d, .int .i64 z] w fun e w' => e = .returned (.tuple #[.slice none 0 0, .bool false]) ∧ w = w' := by
  obtain ⟨Bn, q, g, lost, ms, B, M, gf, cf, nb, an, cn, ac, cc, ge, ce, gq, cq, ra, rc, pn, pc, h1, h2, h3, h4, h5, h6, h7, h8, h9⟩ := h.ex
  exact ntake_no' s d z w h1 (by omega) _ hl hz (by rw [← h4, List.length_map] at hno; exact hno)
theorem j_peek_no (h : J2 w0 w gn x room Sn Sr Qn Qr nk av) (s d z : Int) (a b : Nat) (hl : Lnk 6 six s d (a * 6 + b)) (hz : I64 z) (hno : ¬ (0 ≤ z ∧ z < (Qn (a * 6 + b)).length)) :
    Calls Try.prog 33 #[.pointer (some ⟨gn, 0, none⟩), .int .i64 s, .int .i64 d, .int .i64 z] w fun e w' => e = .returned (.tuple #[.slice none 0 0, .bool false]) ∧ w = w' := by
  obtain ⟨Bn, q, g, lost, ms, B, M, gf, cf, nb, an, cn, ac, cc, ge, ce, gq, cq, ra, rc, pn, pc, h1, h2, h3, h4, h5, h6, h7, h8, h9⟩ := h.ex
  exact npeek_no' s d z w h1 (by omega) _ hl hz (by rw [← h4, List.length_map] at hno; exact hno)
theorem j_move_no (h : J2 w0 w gn x room Sn Sr Qn Qr nk av) (s d z t : Int) (a b : Nat) (hl : Lnk 6 six s d (a * 6 + b)) (hz : I64 z) (ht : I64 t) (hno : ¬ ((0 ≤ z ∧ z < (Qn (a * 6 + b)).length) ∧ (0 ≤ t ∧ t < (Qn (a * 6 + b)).length))) :
    Calls Try.prog 89 #[.pointer (some ⟨gn, 0, none⟩), .int .i64 s, .int .i64 d, .int .i64 z, .int .i64 t] w fun e w' => e = .returned (.bool false) ∧ w = w' := by
  obtain ⟨Bn, q, g, lost, ms, B, M, gf, cf, nb, an, cn, ac, cc, ge, ce, gq, cq, ra, rc, pn, pc, h1, h2, h3, h4, h5, h6, h7, h8, h9⟩ := h.ex
  exact nmove_no' s d z t w h1 (by omega) _ hl hz ht (by rw [← h4, List.length_map] at hno; exact hno)
theorem j_dup_no (h : J2 w0 w gn x room Sn Sr Qn Qr nk av) (hr : 1 ≤ room ∧ room ≤ 256) (s d z : Int) (a b : Nat) (hl : Lnk 6 six s d (a * 6 + b)) (hz : I64 z) (hno : ¬ (0 ≤ z ∧ z < (Qn (a * 6 + b)).length) ∨ room ≤ (Qn (a * 6 + b)).length) :
    Calls Try.prog 87 #[.pointer (some ⟨gn, 0, none⟩), .int .i64 s, .int .i64 d, .int .i64 z] w fun e w' => e = .returned (.bool false) ∧ J2 w0 w' gn x room Sn Sr Qn Qr nk av ∧ Stay w w' := by
  obtain ⟨Bn, q, g, lost, ms, B, M, gf, cf, nb, an, cn, ac, cc, ge, ce, gq, cq, ra, rc, pn, pc, h1, h2, h3, h4, h5, h6, h7, h8, h9⟩ := h.ex
  exact (ndup_no' s d z w h1 (by omega) _ hl hr hz (by rw [← h4, List.length_map] at hno; exact hno)).mono fun e w' he => ⟨he.1, by obtain ⟨j, rfl⟩ := he.2; exact ⟨h.keep (below_drewN (Below.refl _ _) j), Stay.below (below_drewN (Below.refl _ _) j)⟩⟩
theorem j_peek_ok (h : J2 w0 w gn x room Sn Sr Qn Qr nk av) (s d z : Int) (a b : Nat) (hl : Lnk 6 six s d (a * 6 + b)) (i : Nat) (hz : z = i) (hi : i < (Qn (a * 6 + b)).length) :
    Calls Try.prog 33 #[.pointer (some ⟨gn, 0, none⟩), .int .i64 s, .int .i64 d, .int .i64 z] w fun e w' => ∃ v, e = .returned (.tuple #[v, .bool true]) ∧ Txt w' w.heap.size v (Qn (a * 6 + b))[i] ∧ Below w.heap.size w w' := by
  obtain ⟨Bn, q, g, lost, ms, B, M, gf, cf, nb, an, cn, ac, cc, ge, ce, gq, cq, ra, rc, pn, pc, h1, h2, h3, h4, h5, h6, h7, h8, h9⟩ := h.ex
  have hii : i < (ms (a * 6 + b)).length := by rw [← h4, List.length_map] at hi; exact hi
  refine (npeek_ok' s d z w h1 (by omega) _ hl i hii hz).mono ?_
  rintro e w' ⟨v, rfl, ht, hb⟩
  have e2 : ((ms (a * 6 + b))[i]'hii).2 = (Qn (a * 6 + b))[i] := by simp only [← h4, List.getElem_map]
  rw [e2] at ht
  exact ⟨v, rfl, ht, hb⟩
theorem j_rlink (h : J2 w0 w gn x room Sn Sr Qn Qr nk av) (s d r : Int) (hl : EIdx s d r) :
    Calls Try.prog 86 #[.pointer (some ⟨x, 0, none⟩), .int .i64 s, .int .i64 d] w fun e w' => e = .returned (.int .i64 r) ∧ w = w' := by
  obtain ⟨Bn, q, g, lost, ms, B, M, gf, cf, nb, an, cn, ac, cc, ge, ce, gq, cq, ra, rc, pn, pc, h1, h2, h3, h4, h5, h6, h7, h8, h9⟩ := h.ex
  exact rlink_c s d r h2 hl
theorem j_rdrop_no (h : J2 w0 w gn x room Sn Sr Qn Qr nk av) (s d z : Int) (a b : Nat) (ha : a < 6) (hb : b < 6) (hab : a ≠ b) (hl : EIdx s d (eidx a b : Nat)) (hno : ¬ (0 ≤ z ∧ z < (Qr (a * 6 + b)).length)) :
    Calls Try.prog 85 #[.pointer (some ⟨x, 0, none⟩), .int .i64 s, .int .i64 d, .int .i64 z] w fun e w' => e = .returned (.tuple #[.slice none 0 0, .bool false]) ∧ w = w' := by
  obtain ⟨Bn, q, g, lost, ms, B, M, gf, cf, nb, an, cn, ac, cc, ge, ce, gq, cq, ra, rc, pn, pc, h1, h2, h3, h4, h5, h6, h7, h8, h9⟩ := h.ex
  exact rdrop_no s d z h2 _ (eidx_lt a b ha hb hab) hl (by rw [← h5 a b ha hb hab, List.length_map] at hno; exact hno)
theorem j_rmove_no (h : J2 w0 w gn x room Sn Sr Qn Qr nk av) (s d z t : Int) (a b : Nat) (ha : a < 6) (hb : b < 6) (hab : a ≠ b) (hl : EIdx s d (eidx a b : Nat)) (hno : ¬ ((0 ≤ z ∧ z < (Qr (a * 6 + b)).length) ∧ (0 ≤ t ∧ t < (Qr (a * 6 + b)).length))) :
    Calls Try.prog 90 #[.pointer (some ⟨x, 0, none⟩), .int .i64 s, .int .i64 d, .int .i64 z, .int .i64 t] w fun e w' => e = .returned (.bool false) ∧ w = w' := by
  obtain ⟨Bn, q, g, lost, ms, B, M, gf, cf, nb, an, cn, ac, cc, ge, ce, gq, cq, ra, rc, pn, pc, h1, h2, h3, h4, h5, h6, h7, h8, h9⟩ := h.ex
  exact rmove_no s d z t h2 _ (eidx_lt a b ha hb hab) hl (by rw [← h5 a b ha hb hab, List.length_map] at hno; exact hno)
theorem j_rdup_no (h : J2 w0 w gn x room Sn Sr Qn Qr nk av) (s d z : Int) (a b : Nat) (ha : a < 6) (hb : b < 6) (hab : a ≠ b) (hl : EIdx s d (eidx a b : Nat)) (hno : ¬ (0 ≤ z ∧ z < (Qr (a * 6 + b)).length) ∨ room ≤ (Qr (a * 6 + b)).length) :
    Calls Try.prog 88 #[.pointer (some ⟨x, 0, none⟩), .int .i64 s, .int .i64 d, .int .i64 z] w fun e w' => e = .returned (.bool false) ∧ J2 w0 w' gn x room Sn Sr Qn Qr nk av ∧ Stay w w' := by
  obtain ⟨Bn, q, g, lost, ms, B, M, gf, cf, nb, an, cn, ac, cc, ge, ce, gq, cq, ra, rc, pn, pc, h1, h2, h3, h4, h5, h6, h7, h8, h9⟩ := h.ex
  exact (rdup_no s d z h2 _ (eidx_lt a b ha hb hab) hl (by rw [← h5 a b ha hb hab, List.length_map] at hno; exact hno)).mono fun e w' he => ⟨he.1, by obtain ⟨j, rfl⟩ := he.2; exact ⟨h.keep (below_drewN (Below.refl _ _) j), Stay.below (below_drewN (Below.refl _ _) j)⟩⟩
/-- The reference's queue of a link, as it lies. -/
theorem J2.queue (h : J2 w0 w gn x room Sn Sr Qn Qr nk av) (a b : Nat) (ha : a < 6) (hb : b < 6) (hab : a ≠ b) :
    ∃ (gq cq : Nat) (A : Option Addr) (c : Nat), w.cell? ⟨x, 20, none⟩ = some (.slice (some ⟨gq, 0, none⟩) 30 cq) ∧ w.cell? ⟨gq, eidx a b, none⟩ = some (.slice A (Qr (a * 6 + b)).length c) ∧
      ∀ (i : Nat) (hi : i < (Qr (a * 6 + b)).length), ∃ gr o av cv, A = some ⟨gr, o, none⟩ ∧ gr < w.heap.size ∧ w.cell? ⟨gr, o + i, none⟩ = some (.slice av ((Qr (a * 6 + b))[i]).length cv) ∧ VRow w0 av ((Qr (a * 6 + b))[i]).length 1 (brow (Qr (a * 6 + b))[i]) := by
  obtain ⟨Bn, q, g, lost, ms, B, M, gf, cf, nb, an, cn, ac, cc, ge, ce, gq, cq, ra, rc, pn, pc, h1, h2, h3, h4, h5, h6, h7, h8, h9⟩ := h.ex
  have hk := eidx_lt a b ha hb hab
  have hlen : (M (eidx a b)).length = (Qr (a * 6 + b)).length := by rw [← h5 a b ha hb hab, List.length_map]
  refine ⟨gq, cq, ra (eidx a b), rc (eidx a b), h2.blk.cell 20, by rw [← hlen]; exact h2.queue_at hk, fun i hi => ?_⟩
  have hii : i < (M (eidx a b)).length := by rw [hlen]; exact hi
  have hv := own_vrow (h2.rows _ hk)
  obtain ⟨gr, o, e1, e2, e3⟩ := hv.2 (by omega)
  obtain ⟨av, cv, m1, m2, _⟩ := h2.msgs (eidx a b) hk _ (List.getElem_mem hii)
  have e5 : ((M (eidx a b))[i]'hii).2 = (Qr (a * 6 + b))[i] := by simp only [← h5 a b ha hb hab, List.getElem_map]
  rw [e5] at m1 m2
  exact ⟨gr, o, av, cv, e1, e2, by rw [← m1]; exact e3 i _ (by simp [hii]), m2⟩
/-- The reference's count of what was lost. -/
theorem J2.rlost (h : J2 w0 w gn x room Sn Sr Qn Qr nk av) : w.cell? ⟨x, 21, none⟩ = some (.int .i64 Sr) := by
  obtain ⟨Bn, q, g, lost, ms, B, M, gf, cf, nb, an, cn, ac, cc, ge, ce, gq, cq, ra, rc, pn, pc, h1, h2, h3, h4, h5, h6, h7, h8, h9⟩ := h.ex
  exact h2.blk.cell 21
/-- The lengths are small. -/
theorem J2.len (h : J2 w0 w gn x room Sn Sr Qn Qr nk av) (a b : Nat) (ha : a < 6) (hb : b < 6) (hab : a ≠ b) : (Qr (a * 6 + b)).length ≤ 256 := by
  obtain ⟨Bn, q, g, lost, ms, B, M, gf, cf, nb, an, cn, ac, cc, ge, ce, gq, cq, ra, rc, pn, pc, h1, h2, h3, h4, h5, h6, h7, h8, h9⟩ := h.ex
  have := h2.len _ (eidx_lt a b ha hb hab)
  rw [← h5 a b ha hb hab, List.length_map]; exact this
end
end Go.Proofs.Ytfhlcjfgbhmecaa
/- A copy of bytes in new memory. -/
namespace Go.Proofs.Ytfhlcjfgbhmecaa
open Go.RowKit
set_option linter.unusedVariables false

set_option maxRecDepth 100000 in
theorem copy_by (a : Option Addr) (n c : Nat) (bs : List Int) (w : World) (h : VRow w a n 1 (brow bs)) (hn : n ≤ 1048576) :
    Calls Try.prog 83 #[.slice a n c] w fun e w' => ∃ a' c', e = .returned (.slice a' n c') ∧ w'.ownsRow w.heap.size 5 1 (.slice a' n c') n (brow bs) ∧ Below w.heap.size w w' := by
  obtain ⟨i0, hi0, hz0, hz1, hz2⟩ := info_parts info_u8
  have H := Lib.hid h
  clear h
  go_enter Try.func83, Try.ntmps83
  go_wp2_with (at_builtin; refine wpList_app rfl _ _ _ rfl w.heap.size 5 i0 _ 1 1 Try.underlying59 hi0 hz0 hz1 hz2 rfl (by omega) none 0 0 [] rfl ⟨rfl, .inl ⟨rfl, rfl⟩⟩ a n c (brow bs) rfl H.out (brow_one bs) (by unfold maxLen; omega) (by omega) (Nat.le_refl _) ?_; intro a5 c5 w5 h5)
  go_ret
  have h6 := h5.own
  rw [Nat.zero_add, List.nil_append] at h6
  exact ⟨_, _, rfl, h6, h5.only.to_below⟩
end Go.Proofs.Ytfhlcjfgbhmecaa
/- NetPlays: blocks of bytes that belong to nobody turn beside the net and the reference. -/
namespace Go.Proofs.Ytfhlcjfgbhmecaa
open Go.RowKit
set_option linter.unusedVariables false
set_option maxRecDepth 100000

theorem Que.far9 {w w' : World} {q g : Nat} {room lost : Int} {ms : List (Value × List Int)} {S : List Nat} (k : Que w q g room lost ms) (ho : Only S w w') (hS : ∀ k ∈ S, ∃ cs, Blk w k 5 cs) (ht : ∀ m ∈ ms, ∀ b, m.1.ownBlock = some b → b ∉ S) : Que w' q g room lost ms := by
  have h8 := k.no8
  have n1 : q ∉ S := fun hm => by obtain ⟨cs, hb⟩ := hS _ hm; exact h8 q (by simp) cs hb
  have n2 : g ∉ S := fun hm => by obtain ⟨cs, hb⟩ := hS _ hm; exact h8 g (by simp) cs hb
  obtain ⟨a, c, h1, h2, h3⟩ := k.ex
  refine ⟨⟨a, c, h1.only ho n1, h2.only ho ?_, h3⟩, fun m hm => ⟨?_, (k.tx m hm).2⟩, k.n⟩
  · rintro p rfl
    rcases h3 with ⟨h0, _⟩ | h0
    · cases h0
    · injection h0 with h0
      subst h0
      exact n2
  · obtain ⟨a', c', e, h4⟩ := (k.tx m hm).1
    exact ⟨a', c', e, own_only h4 ho fun b hb => ht m hm b (by rw [e]; exact hb)⟩
theorem RX.bytes {w0 w w' : World} {B x : Nat} {room lost : Int} {M : Nat → List (Value × List Int)} {gf cf nb : Nat} {an : Option Addr} {cn : Nat} {ac : Option Addr} {cc ge ce gq cq : Nat} {ra : Nat → Option Addr} {rc : Nat → Nat} {pn pc : Nat → Nat} {nk : Prop}
    (h : RX w0 w B x room lost M gf cf nb an cn ac cc ge ce gq cq ra rc pn pc nk) {S : List Nat} (ho : Only S w w') (hS : ∀ k ∈ S, ∃ cs, Blk w k 5 cs) (hge : ∀ k ∈ S, w0.heap.size ≤ k) :
    RX w0 w' B x room lost M gf cf nb an cn ac cc ge ce gq cq ra rc pn pc nk := by
  have T := Turn2.only ho hS
  obtain ⟨cs, hf⟩ := h.fblk
  refine ⟨T.blk h.blk (by decide) (by decide), T.blk h.notary (by decide) (by decide), T.row h.nrow (by decide) (by decide), fun n k hk => (h.nodes n k hk).turn T (by decide) (by decide), T.row h.crow (by decide) (by decide), fun n k hk => (h.cls n k hk).turn T (by decide) (by decide), ?_, ⟨cs, T.blk hf (by decide) (by decide)⟩, T.row h.erow (by decide) (by decide), T.row h.qrow (by decide) (by decide), fun k hk => T.row (h.rows k hk) (by decide) (by decide), h.msgs, h.len, ho.below h.below h.below.size hge, h.ge⟩
  refine h.frow.only ho fun b hb hm => ?_
  simp only [Option.map_some, Option.some.injEq] at hb
  subst hb
  obtain ⟨cs2, hb2⟩ := hS _ hm
  exact Blk.ne_ hf hb2 (by decide) rfl
section
variable {w0 w w' : World} {gn x : Nat} {room Sn Sr : Int} {Qn Qr : Nat → List (List Int)} {nk : Prop} {av av' : Nat → Prop}
theorem J2.bytes (h : J2 w0 w gn x room Sn Sr Qn Qr nk av) {S : List Nat} (ho : Only S w w') (hS : ∀ k ∈ S, ∃ cs, Blk w k 5 cs) (hge : ∀ k ∈ S, w0.heap.size ≤ k) (hav : ∀ k ∈ S, av k) : J2 w0 w' gn x room Sn Sr Qn Qr nk av := by
  obtain ⟨Bn, q, g, lost, ms, B, M, gf, cf, nb, an, cn, ac, cc, ge, ce, gq, cq, ra, rc, pn, pc, h1, h2, h3, h4, h5, h6, h7, h8, h9⟩ := h.ex
  have T := Turn2.only ho hS
  obtain ⟨ap, cp, al, cl, ra', rc', e1, e2, e3, e4⟩ := h1.ex
  have nt : Nt Bn w' gn 6 six q g room lost ms := ⟨⟨ap, cp, al, cl, ra', rc', T.blk e1 (by decide) (by decide), T.row e2 (by decide) (by decide), T.row e3 (by decide) (by decide), fun a ha => T.row (e4 a ha) (by decide) (by decide)⟩, ⟨fun k hk => (h1.qs.que k hk).far9 ho hS fun m hm b hb hin => h9 k hk m hm b hb (hav b hin), h1.qs.apart⟩⟩
  exact ⟨⟨Bn, q, g, lost, ms, B, M, gf, cf, nb, an, cn, ac, cc, ge, ce, gq, cq, ra, rc, pn, pc, nt, h2.bytes ho hS hge, h3, h4, h5, h6, h7, h8, h9⟩, h.diag, ho.below h.below h.below.size hge⟩
/-- No text of the net lies above the heap. -/
theorem J2.avoid (h : J2 w0 w gn x room Sn Sr Qn Qr nk av) (hav : ∀ b, av' b → w.heap.size ≤ b) : J2 w0 w gn x room Sn Sr Qn Qr nk av' := by
  obtain ⟨Bn, q, g, lost, ms, B, M, gf, cf, nb, an, cn, ac, cc, ge, ce, gq, cq, ra, rc, pn, pc, h1, h2, h3, h4, h5, h6, h7, h8, h9⟩ := h.ex
  exact ⟨⟨Bn, q, g, lost, ms, B, M, gf, cf, nb, an, cn, ac, cc, ge, ce, gq, cq, ra, rc, pn, pc, h1, h2, h3, h4, h5, h6, h7, h8, fun k hk m hm b hb h10 => by
    obtain ⟨a', c', e, h11⟩ := ((h1.qs.que k hk).tx m hm).1
    have := (World.ownsRow.lt h11 b (by rw [← e]; exact hb)).2
    have := hav b h10
    omega⟩, h.diag, h.below⟩
theorem J2.small (h : J2 w0 w gn x room Sn Sr Qn Qr nk av) (k : Nat) (hk : k < 36) : ∀ bs ∈ Qn k, bs.length ≤ 65536 := by
  obtain ⟨Bn, q, g, lost, ms, B, M, gf, cf, nb, an, cn, ac, cc, ge, ce, gq, cq, ra, rc, pn, pc, h1, h2, h3, h4, h5, h6, h7, h8, h9⟩ := h.ex
  intro bs hbs
  rw [← h4] at hbs
  obtain ⟨m, hm, rfl⟩ := List.mem_map.1 hbs
  exact ((h1.qs.que k hk).tx m hm).2
theorem J2.weaken (h : J2 w0 w gn x room Sn Sr Qn Qr nk av) (hav : ∀ b, av' b → av b) : J2 w0 w gn x room Sn Sr Qn Qr nk av' := by
  obtain ⟨Bn, q, g, lost, ms, B, M, gf, cf, nb, an, cn, ac, cc, ge, ce, gq, cq, ra, rc, pn, pc, h1, h2, h3, h4, h5, h6, h7, h8, h9⟩ := h.ex
  exact ⟨⟨Bn, q, g, lost, ms, B, M, gf, cf, nb, an, cn, ac, cc, ge, ce, gq, cq, ra, rc, pn, pc, h1, h2, h3, h4, h5, h6, h7, h8, fun k hk m hm b hb h10 => h9 k hk m hm b hb (hav b h10)⟩, h.diag, h.below⟩
end
end Go.Proofs.Ytfhlcjfgbhmecaa
