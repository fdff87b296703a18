/- NetV. -/
import Derived.Test.YtfhlcjfgbhmecaaZCfgB
import Derived.Test.YtfhlcjfgbhmecaaZCfgV
import Derived.Test.YtfhlcjfgbhmecaaZPlan
import Derived.Test.YtfhlcjfgbhmecaaZApp
import Derived.Deep.CutRange
import Derived.Deep.DeepCutAuto
import Derived.Deep.CutBlock
import Derived.BigQuiet
/- net.New: the net of the usual configuration. -/
namespace Go.Proofs.Ytfhlcjfgbhmecaa
open Go.RowKit
set_option linter.unusedVariables false
set_option maxRecDepth 100000

theorem info_intV : (Try.prog.info? 3).map (fun i => (i.zero, i.size, i.bytes)) = some (some (.int .i64 0), 1, 8) := by kernel_rfl
theorem info_rowV : (Try.prog.info? 117).map (fun i => (i.zero, i.size, i.bytes)) = some (some (.slice none 0 0), 1, 24) := by kernel_rfl
theorem info_ptrV : (Try.prog.info? 118).map (fun i => (i.zero, i.size, i.bytes)) = some (some (.pointer none), 1, 8) := by kernel_rfl
abbrev cfgA (room : Int) : Array Value := #[.int .i64 1, .int .i64 2, .int .i64 2, .int .i64 4, .int .i64 room, .int .i64 8, .int .i64 8, .int .i64 8, .int .i64 1, .int .i64 2, .int .i64 12, .int .i64 8, .int .i64 6, .int .i64 2, .int .i64 6]
/-- The net in the making: its parties so far. -/
structure NP (w0 w : World) (gc gn : Nat) (room : Int) (ps : List Int) : Prop where
  ex : ∃ ap cp, Blk w gn 116 #[.slice ap ps.length cp, .slice none 0 0] ∧ w.ownsRow w0.heap.size 3 1 (.slice ap ps.length cp) ps.length (pints ps)
  cfg : Blk w gc 64 (cfgA room)
  below : Below w0.heap.size w0 w
  ge : w0.heap.size ≤ gn ∧ w0.heap.size ≤ gc
theorem NP.push {w0 w w5 w8 : World} {gc gn : Nat} {room : Int} {ps : List Int} (h : NP w0 w gc gn room ps) {ap a8 : Option Addr} {cp c8 n : Nat} {x : Int} (hn : ps.length = n) (hk : Blk w gn 116 #[.slice ap n cp, .slice none 0 0]) (ho : w.ownsRow w0.heap.size 3 1 (.slice ap n cp) n (pints ps))
    (hb : Below w.heap.size w w5) (h8 : Apped w5 w8 w0.heap.size 3 1 ap a8 (n + 1) c8 (pints ps ++ [.int .i64 x])) :
    (Blk w8 gn 116 #[.slice ap n cp, .slice none 0 0]) ∧ NP w0 (w8.setCell ⟨gn, 0, none⟩ (.slice a8 (n + 1) c8)) gc gn room (ps ++ [x]) := by
  have S8 := own_blks (own_below ho hb)
  have k8 : Blk w8 gn 116 #[.slice ap n cp, .slice none 0 0] := (hk.below hb hk.lt).only h8.only fun hm => by
    obtain ⟨_, cs, hcs⟩ := S8 _ hm
    exact (hk.below hb hk.lt).ne_ hcs (by decide) rfl
  have f8 : Blk w8 gc 64 (cfgA room) := (h.cfg.below hb h.cfg.lt).only h8.only fun hm => by
    obtain ⟨_, cs, hcs⟩ := S8 _ hm
    exact (h.cfg.below hb h.cfg.lt).ne_ hcs (by decide) rfl
  have o9 : Only [gn] w8 (w8.setCell ⟨gn, 0, none⟩ (.slice a8 (n + 1) c8)) := (Only.refl _ _).setCell (.inl (by simp)) _
  have b5 : Below w0.heap.size w0 w5 := h.below.trans (hb.mono h.below.size)
  have b8 := h8.below (own_below ho hb) b5 (Nat.le_refl _) b5.size
  refine ⟨k8, ⟨⟨a8, c8, ?_, ?_⟩, f8.far (fun e => k8.ne_ f8 (by decide) e.symm) _, o9.below b8 b8.size (by simpa using h.ge.1), h.ge⟩⟩
  · have := k8.set_ 0 (.slice a8 (n + 1) c8)
    simpa [hn] using this
  · have := own_only h8.own o9 (fun g hg => by rw [own_block_eq] at hg; simpa using fun e : g = gn => own_blk_ne h8.own k8 (by decide) (by rw [own_block_eq, hg, e]))
    simpa [pints, hn] using this
def pk (k : Nat) : List Int := (List.range k).map fun (x : Nat) => (x : Int)
def pl (k : Nat) : List Int := pk 4 ++ (List.range k).map fun (x : Nat) => 100 + (x : Int)
theorem pk_len (k : Nat) : (pk k).length = k := by simp [pk]
theorem pk_succ (k : Nat) : pk (k + 1) = pk k ++ [(k : Int)] := by simp [pk, List.range_succ]
theorem pl_len (k : Nat) : (pl k).length = 4 + k := by simp [pl, pk]
theorem pl_succ (k : Nat) : pl (k + 1) = pl k ++ [100 + (k : Int)] := by simp [pl, List.range_succ]
/-- The net in the making: a rows, N queues. -/
structure NS (w0 w : World) (gc gn : Nat) (room : Int) (a N L : Nat) (q g : Nat → Nat) : Prop where
  nm : NM w0.heap.size w gn 6 a N L (pl 2) q g room (fun _ => 0) (fun _ => [])
  cfg : Blk w gc 64 (cfgA room)
  below : Below w0.heap.size w0 w
  ge : w0.heap.size ≤ gc
section
variable {w0 w w' : World} {gc gn : Nat} {room : Int} {a N L : Nat} {q g : Nat → Nat}
theorem NP.ns (h : NP w0 w gc gn room (pl 2)) (q g : Nat → Nat) : NS w0 w gc gn room 0 0 w.heap.size q g := by
  obtain ⟨ap, cp, h1, h2⟩ := h.ex
  exact ⟨⟨ap, cp, none, 0, fun _ => none, fun _ => 0, h1, h2, by exact ⟨rfl, .inl ⟨rfl, rfl⟩⟩, fun x hx => absurd hx (by omega), Qs.nil _ _ _ _ _ _, ⟨h.ge.1, fun k hk => absurd hk (by omega)⟩, Nat.le_refl _⟩, h.cfg, h.below, h.ge.2⟩
theorem NS.add (h : NS w0 w gc gn room a N L q g) (hb : Below w.heap.size w w') {x : Nat} (hx : Que w' x x room 0 []) (hge : w.heap.size ≤ x) : NS w0 w' gc gn room a (N + 1) L (upq q N x) (upq g N x) := by
  have e1 : upq (fun _ : Nat => (0 : Int)) N 0 = fun _ => 0 := by funext j; unfold upq; split <;> rfl
  have e2 : upq (fun _ : Nat => ([] : List (Value × List Int))) N [] = fun _ => [] := by funext j; unfold upq; split <;> rfl
  have n := h.nm.add hb h.below.size hx hge hge
  rw [e1, e2] at n
  exact ⟨n, h.cfg.below hb h.cfg.lt, h.below.trans (hb.mono h.below.size), h.ge⟩
theorem NS.keep (h : NS w0 w gc gn room a N L q g) (hb : Below w.heap.size w w') : NS w0 w' gc gn room a N L q g :=
  ⟨h.nm.below hb, h.cfg.below hb h.cfg.lt, h.below.trans (hb.mono h.below.size), h.ge⟩
theorem NS.grow (h : NS w0 w gc gn room a N L q g) {ar ar' : Option Addr} {cr cr' b n' : Nat} {xs xs' : List Value} (hr : w.ownsRow L 118 1 (.slice ar b cr) b xs) (hL : w0.heap.size ≤ L) (h8 : Apped w w' L 118 1 ar ar' n' cr' xs') : NS w0 w' gc gn room a N L q g := by
  have S := own_blks hr
  refine ⟨h.nm.grow h8.only S, h.cfg.only h8.only fun hm => ?_, h8.below hr h.below hL h.below.size, h.ge⟩
  obtain ⟨_, cs, hcs⟩ := S _ hm
  exact h.cfg.ne_ hcs (by decide) rfl
theorem NS.up (h : NS w0 w gc gn room a N L q g) {L' : Nat} (hL : L ≤ L') : NS w0 w gc gn room a N L' q g := ⟨h.nm.up hL, h.cfg, h.below, h.ge⟩
theorem NS.row (h : NS w0 w gc gn room a N L q g) (hN : N = a * 6 + 6) {ap al : Option Addr} {cp cl : Nat} {ra : Nat → Option Addr} {rc : Nat → Nat} (hx : NX w0.heap.size w gn 6 a N L (pl 2) q g room (fun _ => 0) (fun _ => []) ap cp al cl ra rc)
    {ar : Option Addr} {cr : Nat} (hr : w.ownsRow L 118 1 (.slice ar 6 cr) 6 (ptrs q (a * 6) 6)) (hL : w0.heap.size ≤ L) {w5 w8 : World} (hb : Below w.heap.size w w5) {al' : Option Addr} {cl' : Nat}
    (h8 : Apped w5 w8 w0.heap.size 117 1 al al' (a + 1) cl' (((List.range a).map fun a => Value.slice (ra a) 6 (rc a)) ++ [.slice ar 6 cr])) :
    (Blk w8 gn 116 #[.slice ap 6 cp, .slice al a cl]) ∧ NS w0 (w8.setCell ⟨gn, 1, none⟩ (.slice al' (a + 1) cl')) gc gn room (a + 1) N w.heap.size q g := by
  have S8 := own_blks (own_below hx.rows hb)
  have k8 : Blk w8 gn 116 #[.slice ap 6 cp, .slice al a cl] := (hx.blk.below hb hx.blk.lt).only h8.only fun hm => by
    obtain ⟨_, cs, hcs⟩ := S8 _ hm
    exact (hx.blk.below hb hx.blk.lt).ne_ hcs (by decide) rfl
  have f8 : Blk w8 gc 64 (cfgA room) := (h.cfg.below hb h.cfg.lt).only h8.only fun hm => by
    obtain ⟨_, cs, hcs⟩ := S8 _ hm
    exact (h.cfg.below hb h.cfg.lt).ne_ hcs (by decide) rfl
  have o9 : Only [gn] w8 (w8.setCell ⟨gn, 1, none⟩ (.slice al' (a + 1) cl')) := (Only.refl _ _).setCell (.inl (by simp)) _
  have b5 : Below w0.heap.size w0 w5 := h.below.trans (hb.mono h.below.size)
  have b8 := h8.below (own_below hx.rows hb) b5 (Nat.le_refl _) b5.size
  exact ⟨k8, (hx.row_ hN hr hL hb h8 o9).nm, f8.far (fun e => k8.ne_ f8 (by decide) e.symm) _, o9.below b8 b8.size (by simpa using hx.ge.1), h.ge⟩
end
theorem valid_usual (room : Int) (hr : 1 ≤ room ∧ room ≤ 256) : Cfg.validB 1 2 2 4 room 8 8 8 1 2 12 8 6 2 6 = true := by
  simp [Cfg.validB, Cfg.inB, hr]
set_option maxHeartbeats 3200000 in
theorem nnew_a (room : Int) (hr : 1 ≤ room ∧ room ≤ 256) (w : World) :
    Calls Try.prog 30 #[.agg (cfgA room)] w fun e w' => ∃ gn q g, e = .returned (.tuple #[.pointer (some ⟨gn, 0, none⟩), .int .i64 0]) ∧ Nt w.heap.size w' gn 6 [0, 1, 2, 3, 100, 101] q g room (fun _ => 0) (fun _ => []) ∧ Below w.heap.size w w' ∧ w.heap.size ≤ gn ∧ ∀ k, k < 36 → w.heap.size ≤ q k ∧ w.heap.size ≤ g k := by
  obtain ⟨ti, hi0, hz0, hz1, hz2⟩ := info_parts info_intV
  obtain ⟨pi, pi0, pz0, pz1, pz2⟩ := info_parts info_ptrV
  obtain ⟨ri, ri0, rz0, rz1, rz2⟩ := info_parts info_rowV
  go_enter Try.func30, Try.ntmps30
  go_upto_region 1 with fail
  obtain ⟨w1, hw1⟩ : ∃ w1, w1 = w.alloc (.cells (cfgA room) 64) := ⟨_, rfl⟩
  obtain ⟨gc, hgc⟩ : ∃ g, g = w.heap.size := ⟨_, rfl⟩
  rw [← hw1, ← hgc]
  have K1 : Hid (Blk w1 gc 64 (cfgA room)) := Lib.hid (by rw [hw1, hgc]; exact Blk.new _ _ _)
  have B1 : Hid (Below w.heap.size w w1) := Lib.hid (by rw [hw1]; exact (Below.refl _ _).alloc (Nat.le_refl _) _)
  have GC : Hid (w.heap.size ≤ gc) := Lib.hid (by omega)
  clear hw1 hgc
  have c0 : w1.cell? ⟨gc, 0, none⟩ = some (.int .i64 1) := K1.out.cell 0
  have c1 : w1.cell? ⟨gc, 1, none⟩ = some (.int .i64 2) := K1.out.cell 1
  have c2 : w1.cell? ⟨gc, 2, none⟩ = some (.int .i64 2) := K1.out.cell 2
  have c3 : w1.cell? ⟨gc, 3, none⟩ = some (.int .i64 4) := K1.out.cell 3
  have c4 : w1.cell? ⟨gc, 4, none⟩ = some (.int .i64 room) := K1.out.cell 4
  have c5 : w1.cell? ⟨gc, 5, none⟩ = some (.int .i64 8) := K1.out.cell 5
  have c6 : w1.cell? ⟨gc, 6, none⟩ = some (.int .i64 8) := K1.out.cell 6
  have c7 : w1.cell? ⟨gc, 7, none⟩ = some (.int .i64 8) := K1.out.cell 7
  have c8 : w1.cell? ⟨gc, 8, none⟩ = some (.int .i64 1) := K1.out.cell 8
  have c9 : w1.cell? ⟨gc, 9, none⟩ = some (.int .i64 2) := K1.out.cell 9
  have c10 : w1.cell? ⟨gc, 10, none⟩ = some (.int .i64 12) := K1.out.cell 10
  have c11 : w1.cell? ⟨gc, 11, none⟩ = some (.int .i64 8) := K1.out.cell 11
  have c12 : w1.cell? ⟨gc, 12, none⟩ = some (.int .i64 6) := K1.out.cell 12
  have c13 : w1.cell? ⟨gc, 13, none⟩ = some (.int .i64 2) := K1.out.cell 13
  have c14 : w1.cell? ⟨gc, 14, none⟩ = some (.int .i64 6) := K1.out.cell 14
  go_wp2_with fail
  refine (Cfg.valid_c _ _ _ _ _ _ _ _ _ _ _ _ _ _ _ _).mono ?_; rintro e w2 ⟨rfl, hb2⟩
  rw [valid_usual room hr]
  have K2 := Lib.hid (K1.out.below hb2 K1.out.lt)
  have B2 := Lib.hid (B1.out.trans (hb2.mono B1.out.size))
  clear hb2 c0 c1 c2 c3 c4 c5 c6 c7 c8 c9 c10 c11 c12 c13 c14 K1 B1
  go_upto_region 4 with fail
  obtain ⟨w3, hw3⟩ : ∃ w3, w3 = w2.alloc (.cells #[.slice none 0 0, .slice none 0 0] 116) := ⟨_, rfl⟩
  obtain ⟨gn, hgn⟩ : ∃ g, g = w2.heap.size := ⟨_, rfl⟩
  rw [← hw3, ← hgn]
  have N3 : Hid (NP w w3 gc gn room (pk 0)) := by
    have b3 : Below w2.heap.size w2 w3 := by rw [hw3]; exact (Below.refl _ _).alloc (Nat.le_refl _) _
    exact Lib.hid ⟨⟨none, 0, by rw [hw3, hgn]; exact Blk.new _ _ _, by simp [pk]; exact ⟨rfl, .inl ⟨rfl, rfl⟩⟩⟩, K2.out.below b3 K2.out.lt, B2.out.trans (b3.mono B2.out.size), by rw [hgn]; exact B2.out.size, GC.out⟩
  clear hw3 hgn K2 B2 GC
  go_upto_block 0 with fail
  go_cut [5] (fun s wx => s = .int .i64 4 ∧ NP w wx gc gn room (pk 4))
  case first =>
    go_wp2_with fail
    go_loopw [5] (fun s wr => ∃ k : Nat, k ≤ 4 ∧ s = .int .i64 k ∧ NP w wr gc gn room (pk k)) (fun s _ => 4 - (intOf s).toNat)
    case atStart => exact ⟨0, by omega, rfl, N3.out⟩
    case round =>
      obtain ⟨k, hk, rfl, hp⟩ := hrel
      have HP := Lib.hid hp
      have d0 : wr.cell? ⟨gc, 0, none⟩ = some (.int .i64 1) := hp.cfg.cell 0
      clear hp
      go_wp2_with fail
      refine (nodes_c 1 _ (by omega) (by omega)).mono ?_; rintro e w' ⟨rfl, rfl⟩
      by_cases hlt : k < 4
      · have i1 : (k : Int) < 4 := by omega
        obtain ⟨ap, cp, kk, ko⟩ := HP.out.ex
        rw [pk_len] at kk ko
        have KK := Lib.hid kk
        have KO := Lib.hid ko
        clear kk ko d0
        have KB := Lib.hid HP.out.below.size
        have kc : wr.cell? ⟨gn, 0, none⟩ = some (.slice ap k cp) := KK.out.cell 0
        go_wp2_with (at_builtin; refine wpList_app rfl (.tmp 26) (.tmp 28) _ rfl w.heap.size 3 ti _ 1 8 Try.underlying73 hi0 hz0 hz1 hz2 rfl (by omega) ap k cp (pints (pk k)) rfl (World.ownsRow.alloc KO.out _) (some ⟨wr.heap.size, 0, none⟩) 1 1 [.int .i64 k] rfl (own_one _ _ _) (by simp [Value.oneCell']) (by unfold maxLen; omega) (by omega) (by have := KB.out; simp; omega) ?_; intro a8 c8 w8 h8; obtain ⟨k8, p8⟩ := HP.out.push (pk_len k) KK.out KO.out ((Below.refl _ _).alloc (Nat.le_refl _) _) h8; have P8 := Lib.hid p8; have d8 := k8.cell 0; have f8 := k8.frozen 0; clear k8 p8 h8)
        go_roundw
        case rel => exact ⟨k + 1, by omega, by go_num, by rw [pk_succ]; exact P8.out⟩
        case measure => simp [intOf]; omega
      · have hk4 : k = 4 := by omega
        subst hk4
        clear d0
        go_wp2_with fail
        go_meet
        exact ⟨rfl, HP.out⟩
  case rest =>
    obtain ⟨rfl, h4⟩ := hcut
    have N4 := Lib.hid h4
    clear h4 N3
    go_upto_block 2 with fail
    go_cut [6] (fun s wx => s = .int .i64 2 ∧ NP w wx gc gn room (pl 2))
    case first =>
      go_wp2_with fail
      go_loopw [6] (fun s wr => ∃ k : Nat, k ≤ 2 ∧ s = .int .i64 k ∧ NP w wr gc gn room (pl k)) (fun s _ => 2 - (intOf s).toNat)
      case atStart => exact ⟨0, by omega, rfl, N4.out⟩
      case round =>
        obtain ⟨k, hk, rfl, hp⟩ := hrel
        have HP := Lib.hid hp
        have d0 : wr.cell? ⟨gc, 1, none⟩ = some (.int .i64 2) := hp.cfg.cell 1
        clear hp
        by_cases hlt : k < 2
        · have i1 : (k : Int) < 2 := by omega
          have e1 : IntKind.i64.wrap (100 + (k : Int)) = 100 + k := IntWalk.i64_in _ (by omega)
          obtain ⟨ap, cp, kk, ko⟩ := HP.out.ex
          obtain ⟨n, hn⟩ : ∃ n, n = 4 + k := ⟨_, rfl⟩
          rw [pl_len, ← hn] at kk ko
          have KK := Lib.hid kk
          have KO := Lib.hid ko
          have KB := Lib.hid HP.out.below.size
          have LN := Lib.hid ((pl_len k).trans hn.symm)
          have hn6 : n ≤ 6 := by omega
          have kc : wr.cell? ⟨gn, 0, none⟩ = some (.slice ap n cp) := KK.out.cell 0
          clear kk ko hn
          go_wp2_with (at_builtin; refine wpList_app rfl (.tmp 42) (.tmp 45) _ rfl w.heap.size 3 ti _ 1 8 Try.underlying73 hi0 hz0 hz1 hz2 rfl (by omega) ap n cp (pints (pl k)) rfl (World.ownsRow.alloc KO.out _) (some ⟨wr.heap.size, 0, none⟩) 1 1 [.int .i64 (100 + k)] rfl (own_one _ _ _) (by simp [Value.oneCell']) (by unfold maxLen; omega) (by omega) (by have := KB.out; simp; omega) ?_; intro a8 c8 w8 h8; obtain ⟨k8, p8⟩ := HP.out.push LN.out KK.out KO.out ((Below.refl _ _).alloc (Nat.le_refl _) _) h8; have P8 := Lib.hid p8; have d8 := k8.cell 0; have f8 := k8.frozen 0; clear k8 p8 h8)
          go_roundw
          case rel => exact ⟨k + 1, by omega, by go_num, by rw [pl_succ]; exact P8.out⟩
          case measure => simp [intOf]; omega
        · have hk4 : k = 2 := by omega
          subst hk4
          go_wp2_with fail
          go_meet
          exact ⟨rfl, HP.out⟩
    case rest =>
      obtain ⟨rfl, h5⟩ := hcut
      have N5 := Lib.hid h5
      obtain ⟨ap, cp, kk, ko⟩ := h5.ex
      have kc : wc.cell? ⟨gn, 0, none⟩ = some (.slice ap 6 cp) := kk.cell 0
      have M5 := Lib.hid (h5.ns (fun _ => 0) (fun _ => 0))
      clear h5 N4 kk ko
      go_wp2_with fail
      clear kc
      go_loopw [54] (fun s wr => ∃ (a : Nat) (q g : Nat → Nat), a ≤ 6 ∧ s = .int .i64 a ∧ NS w wr gc gn room a (a * 6) wr.heap.size q g) (fun s _ => 6 - (intOf s).toNat)
      case atStart => exact ⟨0, _, _, by omega, rfl, M5.out⟩
      case round =>
        obtain ⟨a, q, g, ha, rfl, hm⟩ := hrel
        have HM := Lib.hid hm
        clear hm
        by_cases hlt : a < 6
        · have i1 : (a : Int) < 6 := by omega
          obtain ⟨wo, rfl⟩ : ∃ wo, wo = wr := ⟨_, rfl⟩
          obtain ⟨ap, cp, al, cl, ra, rc, hx⟩ := HM.out.nm
          have kc : wo.cell? ⟨gn, 0, none⟩ = some (.slice ap 6 cp) := hx.blk.cell 0
          clear hx
          go_wp2_with fail
          clear kc
          go_loopw [61, 7] (fun s t wr => ∃ (b : Nat) (q' g' : Nat → Nat) (ar : Option Addr) (cr : Nat), b ≤ 6 ∧ s = .int .i64 b ∧ t = .slice ar b cr ∧ NS w wr gc gn room a (a * 6 + b) wo.heap.size q' g' ∧ wo.heap.size ≤ wr.heap.size ∧ wr.ownsRow wo.heap.size 118 1 (.slice ar b cr) b (ptrs q' (a * 6) b)) (fun s _ _ => 6 - (intOf s).toNat)
          case atStart => exact ⟨0, q, g, none, 0, by omega, rfl, rfl, HM.out, Nat.le_refl _, rfl, .inl ⟨rfl, rfl⟩⟩
          case round =>
            obtain ⟨b, q', g', ar, cr, hb6, rfl, rfl, hm, hle, hrow⟩ := hrel
            have HM2 := Lib.hid hm
            have HR := Lib.hid hrow
            clear hm hrow
            by_cases hblt : b < 6
            · have i2 : (b : Int) < 6 := by omega
              have k4 : wr.cell? ⟨gc, 4, none⟩ = some (.int .i64 room) := HM2.out.cfg.cell 4
              go_wp2_with fail
              refine (lq_new_ok room _ hr.1 hr.2).mono ?_; rintro e w5 ⟨x, rfl, hq5, hge5, hb5⟩
              have N6 := Lib.hid (HM2.out.add hb5 hq5 hge5)
              obtain ⟨k, hk⟩ : ∃ k, k = a * 6 + b := ⟨_, rfl⟩
              have R6 : Hid (w5.ownsRow wo.heap.size 118 1 (.slice ar b cr) b (ptrs (upq q' k x) (a * 6) b)) := Lib.hid (by
                rw [ptrs_congr (q := q') (fun k' hk' => upq_ne _ _ (by omega))]
                exact own_below HR.out hb5)
              rw [← hk] at N6
              have X6 : Hid (ptrs (upq q' k x) (a * 6) (b + 1) = ptrs (upq q' k x) (a * 6) b ++ [.pointer (some ⟨x, 0, none⟩)]) := Lib.hid (by
                unfold ptrs
                rw [List.range_succ, List.map_append]
                simp only [List.map_cons, List.map_nil]
                rw [← hk, upq_same])
              have HK := Lib.hid hk
              have LE : Hid (wo.heap.size ≤ w5.heap.size) := Lib.hid (Nat.le_trans hle hb5.size)
              clear hq5 hge5 hb5 k4 hk HR HM2
              go_wp2_with (at_builtin; refine wpList_app rfl (.tmp 69) (.tmp 71) _ rfl wo.heap.size 118 pi _ 1 8 Try.underlying117 pi0 pz0 pz1 pz2 rfl (by omega) ar b cr (ptrs (upq q' k x) (a * 6) b) rfl (World.ownsRow.alloc R6.out _) (some ⟨w5.heap.size, 0, none⟩) 1 1 [.pointer (some ⟨x, 0, none⟩)] rfl (own_one _ _ _) (by simp [Value.oneCell']) (by unfold maxLen; omega) (by omega) (by have := LE.out; simp; omega) ?_; intro a8 c8 w8 h8; have P8 := Lib.hid ((N6.out.keep ((Below.refl _ _).alloc (Nat.le_refl _) _)).grow (own_below R6.out ((Below.refl _ _).alloc (Nat.le_refl _) _)) HM.out.below.size h8); have Q8 := Lib.hid h8.own; have z8 : Hid (w5.heap.size ≤ w8.heap.size) := Lib.hid (Nat.le_trans (by simp) h8.only.size); clear h8)
              go_roundw
              case rel => exact ⟨b + 1, _, _, a8, c8, by omega, by go_num, by go_num, by rw [← Nat.add_assoc, ← HK.out]; exact P8.out, Nat.le_trans LE.out z8.out, by rw [X6.out]; exact Q8.out⟩
              case measure => simp [intOf]; omega
            · have hb : b = 6 := by omega
              subst hb
              obtain ⟨ap, cp, al, cl, ra, rc, hx⟩ := HM2.out.nm
              have HX := Lib.hid hx
              have k1 : wr.cell? ⟨gn, 1, none⟩ = some (.slice al a cl) := hx.blk.cell 1
              have LE : Hid (w.heap.size ≤ wr.heap.size) := Lib.hid HM2.out.below.size
              clear hx
              go_wp2_with (at_builtin; refine wpList_app rfl (.tmp 78) (.tmp 80) _ rfl w.heap.size 117 ri _ 1 24 Try.underlying114 ri0 rz0 rz1 rz2 rfl (by omega) al a cl ((List.range a).map fun a => Value.slice (ra a) 6 (rc a)) rfl (World.ownsRow.alloc HX.out.rows _) (some ⟨wr.heap.size, 0, none⟩) 1 1 [.slice ar 6 cr] rfl (own_one _ _ _) (by simp [Value.oneCell']) (by unfold maxLen; omega) (by omega) (by have := LE.out; simp; omega) ?_; intro a8 c8 w8 h8; obtain ⟨k8, p8⟩ := HM2.out.row rfl HX.out HR.out HM.out.below.size ((Below.refl _ _).alloc (Nat.le_refl _) _) h8; have P8 := Lib.hid p8; have d8 := k8.cell 1; have f8 := k8.frozen 1; have z8 : Hid (wr.heap.size ≤ w8.heap.size) := Lib.hid (Nat.le_trans (by simp) h8.only.size); clear k8 p8 h8)
              go_roundw
              case rel => exact ⟨a + 1, _, _, by omega, by go_num, by rw [Nat.succ_mul]; exact P8.out.up (by simpa using z8.out)⟩
              case measure => simp [intOf]; omega
        · have ha6 : a = 6 := by omega
          subst ha6
          go_wp2_with fail
          go_ret2
          refine ⟨gn, q, g, rfl, HM.out.nm.nt, HM.out.below, ?_, ?_⟩
          · obtain ⟨_, _, _, _, _, _, hx⟩ := HM.out.nm; exact hx.ge.1
          · obtain ⟨_, _, _, _, _, _, hx⟩ := HM.out.nm; exact hx.ge.2
end Go.Proofs.Ytfhlcjfgbhmecaa
