/- NdE, NdF. -/
import Derived.Test.YtfhlcjfgbhmecaaZNetL
import Derived.Test.YtfhlcjfgbhmecaaZNetY
/- The reference's cluster in the making. -/
namespace Go.Proofs.Ytfhlcjfgbhmecaa
open Go.RowKit
set_option linter.unusedVariables false
set_option maxRecDepth 100000

/-- Blocks of two types turn: all else stands. -/
structure Turn2 (w w' : World) (t1 t2 : TypeId) : Prop where
  row : ∀ {base e s n : Nat} {v : Value} {xs : List Value}, w.ownsRow base e s v n xs → e ≠ t1 → e ≠ t2 → w'.ownsRow base e s v n xs
  blk : ∀ {k t : Nat} {cs : Array Value}, Blk w k t cs → t ≠ t1 → t ≠ t2 → Blk w' k t cs
theorem kinds_of {w : World} {S : List Nat} {t : TypeId} (h : ∀ k ∈ S, ∃ cs, Blk w k t cs) : ∀ k ∈ S, ∀ cs t', Blk w k t' cs → t' = t ∨ t' = t := fun k hk cs t' hb => by
  obtain ⟨cs', hb'⟩ := h k hk
  unfold Blk at hb hb'
  rw [hb] at hb'
  injection hb' with hb'
  injection hb' with _ e
  exact .inl e
theorem Turn2.of {w w5 w8 : World} {B e s n0 c0 n c x t2 o : Nat} {a0 a : Option Addr} {xs0 xs : List Value} {v : Value} {cs : Array Value} (hb : Below w.heap.size w w5) (hr : w.ownsRow B e s (.slice a0 n0 c0) n0 xs0) (h8 : Apped w5 w8 B e s a0 a n c xs) (hx : Blk w8 x t2 cs) : Turn2 w (w8.setCell ⟨x, o, none⟩ v) e t2 := by
  have S8 := fun k hk => (own_blks (own_below hr hb) k hk).2
  have o9 : Only [x] w8 (w8.setCell ⟨x, o, none⟩ v) := (Only.refl _ _).setCell (.inl (by simp)) _
  have T9 : ∀ k ∈ [x], ∃ cs, Blk w8 k t2 cs := fun k hk => by
    have e : k = x := by simpa using hk
    rw [e]; exact ⟨_, hx⟩
  refine ⟨fun h h1 h2 => own_kinds (own_kinds (own_below h hb) h8.only (kinds_of S8) h1 h1) o9 (kinds_of T9) h2 h2, fun h h1 h2 => ((h.below hb h.lt).only h8.only fun hm => ?_).only o9 fun hm => ?_⟩
  · obtain ⟨c, hc⟩ := S8 _ hm
    exact (h.below hb h.lt).ne_ hc h1 rfl
  · have k8 := (h.below hb h.lt).only h8.only fun hm => by
      obtain ⟨c, hc⟩ := S8 _ hm
      exact (h.below hb h.lt).ne_ hc h1 rfl
    obtain ⟨c, hc⟩ := T9 _ hm
    exact k8.ne_ hc h2 rfl
theorem NodeB.turn {B : Nat} {w w' : World} {p : Nat} {t1 t2 : TypeId} (h : NodeB B w p) (T : Turn2 w w' t1 t2) (h1 : t1 ≠ 187 ∧ t1 ≠ 197 ∧ t1 ≠ 199) (h2 : t2 ≠ 187 ∧ t2 ≠ 197 ∧ t2 ≠ 199) : NodeB B w' p := by
  obtain ⟨cs, ai, ci, am, cm, xs, ys, h⟩ := h
  exact ⟨cs, ai, ci, am, cm, xs, ys, T.blk h.blk h1.1.symm h2.1.symm, h.size, h.one, h.fi, h.fm, h.nil, T.row h.irow h1.2.1.symm h2.2.1.symm, h.ione, T.row h.mrow h1.2.2.symm h2.2.2.symm, h.mone, h.ge⟩
theorem ClientB.turn {B : Nat} {w w' : World} {p : Nat} {t1 t2 : TypeId} (h : ClientB B w p) (T : Turn2 w w' t1 t2) (h1 : t1 ≠ 204) (h2 : t2 ≠ 204) : ClientB B w' p := by
  obtain ⟨h0, cs, hk, h⟩ := h
  exact ⟨h0, cs, T.blk hk h1.symm h2.symm, h⟩
/-- The ends of links: the first e of them. -/
def ends (e : Nat) : List (Int × Int) := (((List.range 6).flatMap fun a => (List.range 6).filterMap fun b => if a = b then none else some (six.getD a 0, six.getD b 0))).take e
abbrev cluC (room : Int) (nb : Nat) (an : Option Addr) (kn cn : Nat) (ac : Option Addr) (kc cc : Nat) (ae : Option Addr) (e ce : Nat) (aq : Option Addr) (cq : Nat) : Array Value :=
  #[.int .i64 1, .int .i64 2, .int .i64 2, .int .i64 4, .int .i64 room, .int .i64 8, .int .i64 8, .int .i64 8, .int .i64 1, .int .i64 2, .int .i64 12, .int .i64 8, .int .i64 6, .int .i64 2, .int .i64 6, .slice none 0 0, .pointer (some ⟨nb, 0, none⟩), .slice an kn cn, .slice ac kc cc, .slice ae e ce, .slice aq e cq, .int .i64 0]
abbrev ptrl (f : Nat → Nat) (n : Nat) : List Value := (List.range n).map fun k => Value.pointer (some ⟨f k, 0, none⟩)
/-- The cluster at x in the making: kn nodes, kc clients, e ends, e2 queues. -/
structure CX (B : Nat) (w : World) (x gc nb : Nat) (room : Int) (kn kc e e2 : Nat) (an : Option Addr) (cn : Nat) (ac : Option Addr) (cc : Nat) (ae : Option Addr) (ce : Nat) (aq : Option Addr) (cq : Nat) (pn pc : Nat → Nat) : Prop where
  blk : Blk w x 99 #[.int .i64 1, .int .i64 2, .int .i64 2, .int .i64 4, .int .i64 room, .int .i64 8, .int .i64 8, .int .i64 8, .int .i64 1, .int .i64 2, .int .i64 12, .int .i64 8, .int .i64 6, .int .i64 2, .int .i64 6, .slice none 0 0, .pointer (some ⟨nb, 0, none⟩), .slice an kn cn, .slice ac kc cc, .slice ae e ce, .slice aq e2 cq, .int .i64 0]
  cfg : Blk w gc 64 (cfgA room)
  notary : NotE w nb
  nrow : w.ownsRow B 139 1 (.slice an kn cn) kn (ptrl pn kn)
  nodes : ∀ k, k < kn → NodeB B w (pn k)
  crow : w.ownsRow B 142 1 (.slice ac kc cc) kc (ptrl pc kc)
  cls : ∀ k, k < kc → ClientB B w (pc k)
  erow : w.ownsRow B 75 2 (.slice ae e ce) e ((ends e).flatMap acell)
  qrow : w.ownsRow B 148 1 (.slice aq e2 cq) e2 (List.replicate e2 (.slice none 0 0))
  ge : B ≤ x ∧ B ≤ gc ∧ B ≤ nb
section
variable {B : Nat} {w w' w5 w8 : World} {x gc nb : Nat} {room : Int} {kn kc e e2 : Nat} {an ac ae aq : Option Addr} {cn cc ce cq : Nat} {pn pc : Nat → Nat}
theorem CX.below (h : CX B w x gc nb room kn kc e e2 an cn ac cc ae ce aq cq pn pc) (hb : Below w.heap.size w w') : CX B w' x gc nb room kn kc e e2 an cn ac cc ae ce aq cq pn pc :=
  ⟨h.blk.below hb h.blk.lt, h.cfg.below hb h.cfg.lt, Blk.below h.notary hb (Blk.lt h.notary), own_below h.nrow hb, fun k hk => (h.nodes k hk).below hb, own_below h.crow hb, fun k hk => (h.cls k hk).below hb, own_below h.erow hb, own_below h.qrow hb, h.ge⟩
theorem ptrl_up (f : Nat → Nat) (n x : Nat) : ptrl f n ++ [.pointer (some ⟨x, 0, none⟩)] = ptrl (upq f n x) (n + 1) := by
  unfold ptrl
  rw [List.range_succ, List.map_append]
  congr 1
  · refine List.map_congr_left fun k hk => ?_
    have := List.mem_range.1 hk
    rw [upq_ne _ _ (by omega)]
  · simp [upq_same]
theorem CX.node (h : CX B w x gc nb room kn kc e e2 an cn ac cc ae ce aq cq pn pc) (hb : Below w.heap.size w w5) {p : Nat} (hp : NodeB B w p) {a8 : Option Addr} {c8 : Nat} (h8 : Apped w5 w8 B 139 1 an a8 (kn + 1) c8 (ptrl pn kn ++ [.pointer (some ⟨p, 0, none⟩)])) :
    (∃ cs, Blk w8 x 99 cs ∧ cs[17]? = some (.slice an kn cn)) ∧ CX B (w8.setCell ⟨x, 17, none⟩ (.slice a8 (kn + 1) c8)) x gc nb room (kn + 1) kc e e2 a8 c8 ac cc ae ce aq cq (upq pn kn p) pc := by
  have k8 := h8.blk_ (own_below h.nrow hb) (h.blk.below hb h.blk.lt) (by decide)
  have T := Turn2.of (o := 17) (v := .slice a8 (kn + 1) c8) hb h.nrow h8 k8
  have o9 : Only [x] w8 (w8.setCell ⟨x, 17, none⟩ (.slice a8 (kn + 1) c8)) := (Only.refl _ _).setCell (.inl (by simp)) _
  have T9 : ∀ k ∈ [x], ∃ cs, Blk w8 k 99 cs := fun k hk => by
    have e : k = x := by simpa using hk
    rw [e]; exact ⟨_, k8⟩
  refine ⟨⟨_, k8, rfl⟩, k8.set_ 17 _, T.blk h.cfg (by decide) (by decide), T.blk h.notary (by decide) (by decide), ?_, fun k hk => ?_, T.row h.crow (by decide) (by decide), fun k hk => (h.cls k hk).turn T (by decide) (by decide), T.row h.erow (by decide) (by decide), T.row h.qrow (by decide) (by decide), h.ge⟩
  · rw [← ptrl_up]
    exact own_kinds h8.own o9 (kinds_of T9) (by decide) (by decide)
  · by_cases ek : k = kn
    · subst ek; rw [upq_same]; exact hp.turn T (by decide) (by decide)
    · rw [upq_ne _ _ ek]; exact (h.nodes k (by omega)).turn T (by decide) (by decide)
theorem CX.client (h : CX B w x gc nb room kn kc e e2 an cn ac cc ae ce aq cq pn pc) (hb : Below w.heap.size w w5) {p : Nat} (hp : ClientB B w p) {a8 : Option Addr} {c8 : Nat} (h8 : Apped w5 w8 B 142 1 ac a8 (kc + 1) c8 (ptrl pc kc ++ [.pointer (some ⟨p, 0, none⟩)])) :
    (∃ cs, Blk w8 x 99 cs ∧ cs[18]? = some (.slice ac kc cc)) ∧ CX B (w8.setCell ⟨x, 18, none⟩ (.slice a8 (kc + 1) c8)) x gc nb room kn (kc + 1) e e2 an cn a8 c8 ae ce aq cq pn (upq pc kc p) := by
  have k8 := h8.blk_ (own_below h.crow hb) (h.blk.below hb h.blk.lt) (by decide)
  have T := Turn2.of (o := 18) (v := .slice a8 (kc + 1) c8) hb h.crow h8 k8
  have o9 : Only [x] w8 (w8.setCell ⟨x, 18, none⟩ (.slice a8 (kc + 1) c8)) := (Only.refl _ _).setCell (.inl (by simp)) _
  have T9 : ∀ k ∈ [x], ∃ cs, Blk w8 k 99 cs := fun k hk => by
    have e : k = x := by simpa using hk
    rw [e]; exact ⟨_, k8⟩
  refine ⟨⟨_, k8, rfl⟩, k8.set_ 18 _, T.blk h.cfg (by decide) (by decide), T.blk h.notary (by decide) (by decide), T.row h.nrow (by decide) (by decide), fun k hk => (h.nodes k hk).turn T (by decide) (by decide), ?_, fun k hk => ?_, T.row h.erow (by decide) (by decide), T.row h.qrow (by decide) (by decide), h.ge⟩
  · rw [← ptrl_up]
    exact own_kinds h8.own o9 (kinds_of T9) (by decide) (by decide)
  · by_cases ek : k = kc
    · subst ek; rw [upq_same]; exact hp.turn T (by decide) (by decide)
    · rw [upq_ne _ _ ek]; exact (h.cls k (by omega)).turn T (by decide) (by decide)
theorem CX.end_ (h : CX B w x gc nb room kn kc e e2 an cn ac cc ae ce aq cq pn pc) (hb : Below w.heap.size w w5) {pr : Int × Int} (hpr : ends (e + 1) = ends e ++ [pr]) {a8 : Option Addr} {c8 : Nat} (h8 : Apped w5 w8 B 75 2 ae a8 (e + 1) c8 ((ends e).flatMap acell ++ acell pr)) :
    (∃ cs, Blk w8 x 99 cs ∧ cs[19]? = some (.slice ae e ce)) ∧ CX B (w8.setCell ⟨x, 19, none⟩ (.slice a8 (e + 1) c8)) x gc nb room kn kc (e + 1) e2 an cn ac cc a8 c8 aq cq pn pc := by
  have k8 := h8.blk_ (own_below h.erow hb) (h.blk.below hb h.blk.lt) (by decide)
  have T := Turn2.of (o := 19) (v := .slice a8 (e + 1) c8) hb h.erow h8 k8
  have o9 : Only [x] w8 (w8.setCell ⟨x, 19, none⟩ (.slice a8 (e + 1) c8)) := (Only.refl _ _).setCell (.inl (by simp)) _
  have T9 : ∀ k ∈ [x], ∃ cs, Blk w8 k 99 cs := fun k hk => by
    have e : k = x := by simpa using hk
    rw [e]; exact ⟨_, k8⟩
  refine ⟨⟨_, k8, rfl⟩, k8.set_ 19 _, T.blk h.cfg (by decide) (by decide), T.blk h.notary (by decide) (by decide), T.row h.nrow (by decide) (by decide), fun k hk => (h.nodes k hk).turn T (by decide) (by decide), T.row h.crow (by decide) (by decide), fun k hk => (h.cls k hk).turn T (by decide) (by decide), ?_, T.row h.qrow (by decide) (by decide), h.ge⟩
  rw [hpr, List.flatMap_append]
  have := own_kinds h8.own o9 (kinds_of T9) (by decide) (by decide)
  simpa using this
theorem CX.queue (h : CX B w x gc nb room kn kc e e2 an cn ac cc ae ce aq cq pn pc) (hb : Below w.heap.size w w5) {a8 : Option Addr} {c8 : Nat} (h8 : Apped w5 w8 B 148 1 aq a8 (e2 + 1) c8 (List.replicate e2 (.slice none 0 0) ++ [.slice none 0 0])) :
    (∃ cs, Blk w8 x 99 cs ∧ cs[20]? = some (.slice aq e2 cq)) ∧ CX B (w8.setCell ⟨x, 20, none⟩ (.slice a8 (e2 + 1) c8)) x gc nb room kn kc e (e2 + 1) an cn ac cc ae ce a8 c8 pn pc := by
  have k8 := h8.blk_ (own_below h.qrow hb) (h.blk.below hb h.blk.lt) (by decide)
  have T := Turn2.of (o := 20) (v := .slice a8 (e2 + 1) c8) hb h.qrow h8 k8
  have o9 : Only [x] w8 (w8.setCell ⟨x, 20, none⟩ (.slice a8 (e2 + 1) c8)) := (Only.refl _ _).setCell (.inl (by simp)) _
  have T9 : ∀ k ∈ [x], ∃ cs, Blk w8 k 99 cs := fun k hk => by
    have e : k = x := by simpa using hk
    rw [e]; exact ⟨_, k8⟩
  refine ⟨⟨_, k8, rfl⟩, k8.set_ 20 _, T.blk h.cfg (by decide) (by decide), T.blk h.notary (by decide) (by decide), T.row h.nrow (by decide) (by decide), fun k hk => (h.nodes k hk).turn T (by decide) (by decide), T.row h.crow (by decide) (by decide), fun k hk => (h.cls k hk).turn T (by decide) (by decide), T.row h.erow (by decide) (by decide), ?_, h.ge⟩
  rw [List.replicate_succ']
  exact own_kinds h8.own o9 (kinds_of T9) (by decide) (by decide)
end
theorem in_nil (y : Int) (w : World) : Calls Try.prog 77 #[.slice none 0 0, .int .i64 y] w fun e w' => e = .returned (.bool false) ∧ w = w' := by
  go_enter Try.func77, Try.ntmps77
  go_wp2_with fail
  go_loopw [8] (fun s wr => s = .int .i64 0 ∧ wr = w) (fun _ _ => 0)
  case atStart => exact ⟨rfl, rfl⟩
  case round =>
    obtain ⟨rfl, rfl⟩ := hrel
    go_wp2_with fail
    go_ret
    exact ⟨by first | rfl | trivial, by first | rfl | trivial⟩
end Go.Proofs.Ytfhlcjfgbhmecaa
/- psephosref21.parties. -/
namespace Go.Proofs.Ytfhlcjfgbhmecaa
open Go.RowKit
set_option linter.unusedVariables false
set_option maxRecDepth 100000

set_option maxHeartbeats 3200000 in
theorem rparties_c (room : Int) (w : World) : Calls Try.prog 81 #[.agg (cfgA room)] w fun e w' => ∃ a c, e = .returned (.slice a 6 c) ∧ w'.ownsRow w.heap.size 3 1 (.slice a 6 c) 6 (pints six) ∧ Below w.heap.size w w' := by
  obtain ⟨ti, hi0, hz0, hz1, hz2⟩ := info_parts info_intV
  go_enter Try.func81, Try.ntmps81
  go_upto_region 1 with fail
  obtain ⟨w1, hw1⟩ : ∃ w1, w1 = w.alloc (.cells (cfgA room) 64) := ⟨_, rfl⟩
  obtain ⟨gc, hgc⟩ : ∃ g, g = w.heap.size := ⟨_, rfl⟩
  rw [← hw1, ← hgc]
  have K1 : Hid (Blk w1 gc 64 (cfgA room)) := Lib.hid (by rw [hw1, hgc]; exact Blk.new _ _ _)
  have B1 : Hid (Below w.heap.size w w1) := Lib.hid (by rw [hw1]; exact (Below.refl _ _).alloc (Nat.le_refl _) _)
  have GC : Hid (w.heap.size ≤ gc) := Lib.hid (by omega)
  clear hw1 hgc
  go_upto_block 0 with fail
  go_cut [4, 3] (fun s t wx => s = .int .i64 4 ∧ (∃ a c, t = .slice a 4 c ∧ wx.ownsRow w.heap.size 3 1 (.slice a 4 c) 4 (pints (pk 4))) ∧ Blk wx gc 64 (cfgA room) ∧ Below w.heap.size w wx)
  case first =>
    go_wp2_with fail
    go_loopw [4, 3] (fun s t wr => ∃ k : Nat, k ≤ 4 ∧ s = .int .i64 k ∧ (∃ a c, t = .slice a k c ∧ wr.ownsRow w.heap.size 3 1 (.slice a k c) k (pints (pk k))) ∧ Blk wr gc 64 (cfgA room) ∧ Below w.heap.size w wr) (fun s _ _ => 4 - (intOf s).toNat)
    case atStart => exact ⟨0, by omega, rfl, ⟨none, 0, rfl, by exact ⟨rfl, .inl ⟨rfl, rfl⟩⟩⟩, K1.out, B1.out⟩
    case round =>
      obtain ⟨k, hk, rfl, ⟨a, c, rfl, ho⟩, hc, hb⟩ := hrel
      have KC := Lib.hid hc
      have KO := Lib.hid ho
      have BB := Lib.hid hb
      have d0 : wr.cell? ⟨gc, 0, none⟩ = some (.int .i64 1) := hc.cell 0
      clear hc ho hb
      go_wp2_with fail
      refine (rnodes_c 1 _ (by omega) (by omega)).mono ?_; rintro e w' ⟨rfl, rfl⟩
      by_cases hlt : k < 4
      · have i1 : (k : Int) < 4 := by omega
        clear d0
        go_wp2_with (at_builtin; refine wpList_app rfl (.tmp 13) (.tmp 15) _ rfl w.heap.size 3 ti _ 1 8 Try.underlying73 hi0 hz0 hz1 hz2 rfl (by omega) a k c (pints (pk k)) rfl (World.ownsRow.alloc KO.out _) (some ⟨wr.heap.size, 0, none⟩) 1 1 [.int .i64 k] rfl (own_one _ _ _) (by simp [Value.oneCell']) (by unfold maxLen; omega) (by omega) (by have := BB.out.size; simp; omega) ?_; intro a8 c8 w8 h8; have b8 := h8.below (World.ownsRow.alloc KO.out _) (BB.out.alloc BB.out.size (.cells #[.int .i64 k] 3)) (Nat.le_refl _) (by have := BB.out.size; simp; omega); have B8 := Lib.hid b8; have C8 := Lib.hid (h8.blk_ (World.ownsRow.alloc KO.out _) (KC.out.alloc _) (by decide)); have O8 := Lib.hid h8.own; clear h8 b8)
        go_roundw
        case rel => exact ⟨k + 1, by omega, by go_num, ⟨a8, c8, by go_num, by rw [pk_succ]; simpa [pints] using O8.out⟩, C8.out, B8.out⟩
        case measure => simp [intOf]; omega
      · have hk4 : k = 4 := by omega
        subst hk4
        clear d0
        go_wp2_with fail
        go_meet
        exact ⟨rfl, ⟨a, c, rfl, KO.out⟩, KC.out, BB.out⟩
  case rest =>
    obtain ⟨rfl, ⟨a4, c4, rfl, ho4⟩, hc4, hb4⟩ := hcut
    have K4 := Lib.hid hc4
    have O4 := Lib.hid ho4
    have B4 := Lib.hid hb4
    clear hc4 ho4 hb4 K1 B1
    go_wp2_with fail
    go_loopw [5, 3] (fun s t wr => ∃ k : Nat, k ≤ 2 ∧ s = .int .i64 k ∧ (∃ a c, t = .slice a (4 + k) c ∧ wr.ownsRow w.heap.size 3 1 (.slice a (4 + k) c) (4 + k) (pints (pl k))) ∧ Blk wr gc 64 (cfgA room) ∧ Below w.heap.size w wr) (fun s _ _ => 2 - (intOf s).toNat)
    case atStart => exact ⟨0, by omega, rfl, ⟨a4, c4, rfl, O4.out⟩, K4.out, B4.out⟩
    case round =>
      obtain ⟨k, hk, rfl, ⟨a, c, rfl, ho⟩, hc, hb⟩ := hrel
      have KC := Lib.hid hc
      have KO := Lib.hid ho
      have BB := Lib.hid hb
      have d0 : wr.cell? ⟨gc, 1, none⟩ = some (.int .i64 2) := hc.cell 1
      clear hc ho hb
      by_cases hlt : k < 2
      · have i1 : (k : Int) < 2 := by omega
        have e1 : IntKind.i64.wrap (100 + (k : Int)) = 100 + k := IntWalk.i64_in _ (by omega)
        obtain ⟨n, hn⟩ : ∃ n, n = 4 + k := ⟨_, rfl⟩
        have hn6 : n ≤ 6 := by omega
        have HN := Lib.hid hn
        rw [← hn] at KO ⊢
        clear hn
        go_wp2_with (at_builtin; refine wpList_app rfl (.tmp 23) (.tmp 26) _ rfl w.heap.size 3 ti _ 1 8 Try.underlying73 hi0 hz0 hz1 hz2 rfl (by omega) a n c (pints (pl k)) rfl (World.ownsRow.alloc KO.out _) (some ⟨wr.heap.size, 0, none⟩) 1 1 [.int .i64 (100 + k)] rfl (own_one _ _ _) (by simp [Value.oneCell']) (by unfold maxLen; omega) (by omega) (by have := BB.out.size; simp; omega) ?_; intro a8 c8 w8 h8; have b8 := h8.below (World.ownsRow.alloc KO.out _) (BB.out.alloc BB.out.size (.cells #[.int .i64 (100 + k)] 3)) (Nat.le_refl _) (by have := BB.out.size; simp; omega); have B8 := Lib.hid b8; have C8 := Lib.hid (h8.blk_ (World.ownsRow.alloc KO.out _) (KC.out.alloc _) (by decide)); have O8 := Lib.hid h8.own; clear h8 b8)
        go_roundw
        case rel => exact ⟨k + 1, by omega, by go_num, ⟨a8, c8, by rw [HN.out]; first | rfl | go_num, by have e := O8.out; rw [HN.out] at e; rw [pl_succ]; simpa [pints, Nat.add_assoc] using e⟩, C8.out, B8.out⟩
        case measure => simp [intOf]; omega
      · have hk4 : k = 2 := by omega
        subst hk4
        go_wp2_with fail
        go_ret
        exact ⟨a, c, by first | rfl | trivial, KO.out, BB.out⟩
end Go.Proofs.Ytfhlcjfgbhmecaa
