/- NetZ, NetLo. -/
import Derived.Test.YtfhlcjfgbhmecaaZNetV
import Derived.Test.YtfhlcjfgbhmecaaZNetK
/- net.Clone. -/
namespace Go.Proofs.Ytfhlcjfgbhmecaa
open Go.RowKit
set_option linter.unusedVariables false
set_option maxRecDepth 100000

theorem upq_self {α : Type} (f : Nat → α) (k : Nat) : upq f k (f k) = f := by
  funext j
  unfold upq
  split
  · rename_i e; rw [e]
  · rfl
/-- The clone in the making. -/
structure NZ (w0 w : World) (gn n a N L : Nat) (ps : List Int) (q g : Nat → Nat) (room : Int) (lost : Nat → Int) (ms : Nat → List (Value × List Int)) : Prop where
  nm : NM w0.heap.size w gn n a N L ps q g room lost ms
  below : Below w0.heap.size w0 w
section
variable {w0 w w' : World} {gn n a N L : Nat} {ps : List Int} {q g : Nat → Nat} {room : Int} {lost : Nat → Int} {ms : Nat → List (Value × List Int)}
theorem NZ.add (h : NZ w0 w gn n a N L ps q g room lost ms) (hb : Below w.heap.size w w') {x y : Nat} (hx : Que w' x y room (lost N) (ms N)) (h1 : w.heap.size ≤ x) (h2 : w.heap.size ≤ y) : NZ w0 w' gn n a (N + 1) L ps (upq q N x) (upq g N y) room lost ms := by
  have m := h.nm.add hb h.below.size hx h1 h2
  rw [upq_self, upq_self] at m
  exact ⟨m, h.below.trans (hb.mono h.below.size)⟩
theorem NZ.keep (h : NZ w0 w gn n a N L ps q g room lost ms) (hb : Below w.heap.size w w') : NZ w0 w' gn n a N L ps q g room lost ms := ⟨h.nm.below hb, h.below.trans (hb.mono h.below.size)⟩
theorem NZ.grow (h : NZ w0 w gn n a N L ps q g room lost ms) {ar ar' : Option Addr} {cr cr' b n' : Nat} {xs xs' : List Value} (hr : w.ownsRow L 118 1 (.slice ar b cr) b xs) (hL : w0.heap.size ≤ L) (h8 : Apped w w' L 118 1 ar ar' n' cr' xs') : NZ w0 w' gn n a N L ps q g room lost ms :=
  ⟨h.nm.grow h8.only (own_blks hr), h8.below hr h.below hL h.below.size⟩
theorem NZ.up (h : NZ w0 w gn n a N L ps q g room lost ms) {L' : Nat} (hL : L ≤ L') : NZ w0 w gn n a N L' ps q g room lost ms := ⟨h.nm.up hL, h.below⟩
theorem NZ.row (h : NZ w0 w gn n a N L ps q g room lost ms) (hN : N = a * n + n) {ap al : Option Addr} {cp cl : Nat} {ra : Nat → Option Addr} {rc : Nat → Nat} (hx : NX w0.heap.size w gn n a N L ps q g room lost ms ap cp al cl ra rc)
    {ar : Option Addr} {cr : Nat} (hr : w.ownsRow L 118 1 (.slice ar n cr) n (ptrs q (a * n) n)) (hL : w0.heap.size ≤ L) {w5 w8 : World} (hb : Below w.heap.size w w5) {al' : Option Addr} {cl' : Nat}
    (h8 : Apped w5 w8 w0.heap.size 117 1 al al' (a + 1) cl' (((List.range a).map fun a => Value.slice (ra a) n (rc a)) ++ [.slice ar n cr])) :
    (Blk w8 gn 116 #[.slice ap n cp, .slice al a cl]) ∧ NZ w0 (w8.setCell ⟨gn, 1, none⟩ (.slice al' (a + 1) cl')) gn n (a + 1) N w.heap.size ps q g room lost ms := by
  have S8 := own_blks (own_below hx.rows hb)
  have k8 : Blk w8 gn 116 #[.slice ap n cp, .slice al a cl] := (hx.blk.below hb hx.blk.lt).only h8.only fun hm => by
    obtain ⟨_, cs, hcs⟩ := S8 _ hm
    exact (hx.blk.below hb hx.blk.lt).ne_ hcs (by decide) rfl
  have o9 : Only [gn] w8 (w8.setCell ⟨gn, 1, none⟩ (.slice al' (a + 1) cl')) := (Only.refl _ _).setCell (.inl (by simp)) _
  have b5 : Below w0.heap.size w0 w5 := h.below.trans (hb.mono h.below.size)
  have b8 := h8.below (own_below hx.rows hb) b5 (Nat.le_refl _) b5.size
  exact ⟨k8, (hx.row_ hN hr hL hb h8 o9).nm, o9.below b8 b8.size (by simpa using hx.ge.1)⟩
end
set_option maxHeartbeats 3200000 in
theorem nclone_c {B gn n : Nat} {ps : List Int} {q g : Nat → Nat} {room : Int} {lost : Nat → Int} {ms : Nat → List (Value × List Int)} (w : World) (h : Nt B w gn n ps q g room lost ms) (hn : n ≤ 64) :
    Calls Try.prog 48 #[.pointer (some ⟨gn, 0, none⟩)] w fun e w' => ∃ gn' q' g', e = .returned (.pointer (some ⟨gn', 0, none⟩)) ∧ Nt w.heap.size w' gn' n ps q' g' room lost ms ∧ Below w.heap.size w w' ∧ w.heap.size ≤ gn' ∧ ∀ k, k < n * n → w.heap.size ≤ q' k ∧ w.heap.size ≤ g' k := by
  obtain ⟨ti, hi0, hz0, hz1, hz2⟩ := info_parts info_intV
  obtain ⟨pi, pi0, pz0, pz1, pz2⟩ := info_parts info_ptrV
  obtain ⟨ri, ri0, rz0, rz1, rz2⟩ := info_parts info_rowV
  obtain ⟨ap, cp, al, cl, ra, rc, h1, h2, h3, h4⟩ := h.ex
  have c0 : w.cell? ⟨gn, 0, none⟩ = some (.slice ap n cp) := h1.cell 0
  have C1 : Hid (w.cell? ⟨gn, 1, none⟩ = some (.slice al n cl)) := Lib.hid (h1.cell 1)
  have H2 := Lib.hid h2
  have H3 := Lib.hid h3
  have H4 := Lib.hid h4
  have QS := Lib.hid h.qs
  clear h h1 h2 h3 h4
  go_enter Try.func48, Try.ntmps48
  go_upto_region 2 with (at_builtin; refine wpList_app rfl _ (.tmp 12) _ rfl w.heap.size 3 ti _ 1 8 Try.underlying73 hi0 hz0 hz1 hz2 rfl (by omega) none 0 0 [] rfl ⟨rfl, .inl ⟨rfl, rfl⟩⟩ ap n cp (pints ps) rfl (own_vrow H2.out) (fun v hv => by obtain ⟨z, _, rfl⟩ := List.mem_map.1 hv; rfl) (by unfold maxLen; omega) (by omega) (Nat.le_refl _) ?_; intro a8 c8 w8 h8; have b8 : Hid (Below w.heap.size w w8) := Lib.hid h8.only.to_below; have O8 : Hid (w8.ownsRow w.heap.size 3 1 (.slice a8 n c8) n (pints ps)) := Lib.hid (by have e := h8.own; rw [Nat.zero_add, List.nil_append] at e; exact e); clear h8; try simp only [Nat.zero_add])
  obtain ⟨w3, hw3⟩ : ∃ w3, w3 = w8.alloc (.cells #[.slice a8 n c8, .slice none 0 0] 116) := ⟨_, rfl⟩
  obtain ⟨gn', hgn'⟩ : ∃ g, g = w8.heap.size := ⟨_, rfl⟩
  rw [← hw3, ← hgn']
  have Z3 : Hid (NZ w w3 gn' n 0 0 w3.heap.size ps (fun _ => 0) (fun _ => 0) room lost ms) := Lib.hid (by
    have b3 : Below w8.heap.size w8 w3 := by rw [hw3]; exact (Below.refl _ _).alloc (Nat.le_refl _) _
    exact ⟨⟨a8, c8, none, 0, fun _ => none, fun _ => 0, by rw [hw3, hgn']; exact Blk.new _ _ _, own_below O8.out b3, ⟨rfl, .inl ⟨rfl, rfl⟩⟩, fun x hx => absurd hx (by omega), Qs.nil _ _ _ _ _ _, ⟨by rw [hgn']; exact b8.out.size, fun k hk => absurd hk (by omega)⟩, by omega⟩, b8.out.trans (b3.mono b8.out.size)⟩)
  clear hw3 hgn' b8 O8 c0
  have c1 : w3.cell? ⟨gn, 1, none⟩ = some (.slice al n cl) := kept Z3.out.below _ _ C1.out
  go_wp2_with fail
  clear c1
  go_loopw [21] (fun s wr => ∃ (a : Nat) (q' g' : Nat → Nat), a ≤ n ∧ s = .int .i64 a ∧ NZ w wr gn' n a (a * n) wr.heap.size ps q' g' room lost ms) (fun s _ => n - (intOf s).toNat)
  case atStart => exact ⟨0, _, _, by omega, rfl, by rw [Nat.zero_mul]; exact Z3.out⟩
  case round =>
    obtain ⟨a, q', g', ha, rfl, hz⟩ := hrel
    have HZ := Lib.hid hz
    clear hz
    by_cases hlt : a < n
    · have i0 : (0 : Int) ≤ a := by omega
      have i1 : (a : Int) < n := by omega
      obtain ⟨wo, rfl⟩ : ∃ wo, wo = wr := ⟨_, rfl⟩
      obtain ⟨gl, hgl, r0⟩ := own_at (own_below H3.out HZ.out.below) hlt (v := .slice (ra a) n (rc a)) (by simp [hlt])
      subst hgl
      have R4 := Lib.hid (H4.out a hlt)
      obtain ⟨xa, hxa⟩ : ∃ z, z = ra a := ⟨_, rfl⟩
      obtain ⟨xc, hxc⟩ : ∃ z, z = rc a := ⟨_, rfl⟩
      rw [← hxa, ← hxc] at r0 R4
      clear hxa hxc
      go_wp2_with fail
      clear r0
      go_loopw [27, 6] (fun s t wr => ∃ (b : Nat) (q' g' : Nat → Nat) (ar : Option Addr) (cr : Nat), b ≤ n ∧ s = .int .i64 b ∧ t = .slice ar b cr ∧ NZ w wr gn' n a (a * n + b) wo.heap.size ps q' g' room lost ms ∧ wo.heap.size ≤ wr.heap.size ∧ wr.ownsRow wo.heap.size 118 1 (.slice ar b cr) b (ptrs q' (a * n) b)) (fun s _ _ => n - (intOf s).toNat)
      case atStart => exact ⟨0, q', g', none, 0, by omega, rfl, rfl, HZ.out, Nat.le_refl _, rfl, .inl ⟨rfl, rfl⟩⟩
      case round =>
        obtain ⟨b, q', g', ar, cr, hbn, rfl, rfl, hz, hle, hrow⟩ := hrel
        have HZ2 := Lib.hid hz
        have HR := Lib.hid hrow
        clear hz hrow
        by_cases hblt : b < n
        · have i2 : (0 : Int) ≤ b := by omega
          have i3 : (b : Int) < n := by omega
          have hk2 := at_lt hlt hblt
          obtain ⟨gr, hgr, r1⟩ := own_at (own_below R4.out HZ2.out.below) hblt (v := .pointer (some ⟨q (a * n + b), 0, none⟩)) (by simp [hblt])
          subst hgr
          have Q := Lib.hid ((QS.out.below HZ2.out.below).que _ hk2)
          obtain ⟨k, hk⟩ : ∃ k, k = a * n + b := ⟨_, rfl⟩
          rw [← hk] at Q r1 hk2 HZ2
          obtain ⟨qk, hqk⟩ : ∃ z, z = q k := ⟨_, rfl⟩
          rw [← hqk] at Q r1
          have HK := Lib.hid hk
          clear hk hqk
          go_wp2_with fail
          refine (qclone_c qk (g k) room (lost k) (ms k) _ Q.out).mono ?_; rintro e w5 ⟨x, y, rfl, hq5, hx5, hy5, hb5⟩
          have N6 := Lib.hid (HZ2.out.add hb5 hq5 hx5 hy5)
          have R6 : Hid (w5.ownsRow wo.heap.size 118 1 (.slice ar b cr) b (ptrs (upq q' k x) (a * n) b)) := Lib.hid (by
            have := HK.out
            rw [ptrs_congr (q := q') (fun k' hk' => upq_ne _ _ (by omega))]
            exact own_below HR.out hb5)
          have X6 : Hid (ptrs (upq q' k x) (a * n) (b + 1) = ptrs (upq q' k x) (a * n) b ++ [.pointer (some ⟨x, 0, none⟩)]) := Lib.hid (by
            unfold ptrs
            rw [List.range_succ, List.map_append]
            simp only [List.map_cons, List.map_nil]
            rw [← HK.out, upq_same])
          have LE : Hid (wo.heap.size ≤ w5.heap.size) := Lib.hid (Nat.le_trans hle hb5.size)
          clear hq5 hx5 hy5 hb5 r1 HR HZ2
          go_wp2_with (at_builtin; refine wpList_app rfl (.tmp 31) (.tmp 34) _ rfl wo.heap.size 118 pi _ 1 8 Try.underlying117 pi0 pz0 pz1 pz2 rfl (by omega) ar b cr (ptrs (upq q' k x) (a * n) b) rfl (World.ownsRow.alloc R6.out _) (some ⟨w5.heap.size, 0, none⟩) 1 1 [.pointer (some ⟨x, 0, none⟩)] rfl (own_one _ _ _) (by simp [Value.oneCell']) (by unfold maxLen; omega) (by omega) (by have := LE.out; simp; omega) ?_; intro a8 c8 w8 h8; have P8 := Lib.hid ((N6.out.keep ((Below.refl _ _).alloc (Nat.le_refl _) _)).grow (own_below R6.out ((Below.refl _ _).alloc (Nat.le_refl _) _)) HZ.out.below.size h8); have Q8 := Lib.hid h8.own; have z8 : Hid (w5.heap.size ≤ w8.heap.size) := Lib.hid (Nat.le_trans (by simp) h8.only.size); clear h8)
          go_roundw
          case rel => exact ⟨b + 1, _, _, a8, c8, by omega, by go_num, by go_num, by rw [← Nat.add_assoc, ← HK.out]; exact P8.out, Nat.le_trans LE.out z8.out, by rw [X6.out]; exact Q8.out⟩
          case measure => simp [intOf]; omega
        · have hb : b = n := by omega
          subst hb
          have i3 : ¬ (b : Int) < b := by omega
          obtain ⟨ap', cp', al', cl', ra', rc', hx⟩ := HZ2.out.nm
          have HX := Lib.hid hx
          have k1 : wr.cell? ⟨gn', 1, none⟩ = some (.slice al' a cl') := hx.blk.cell 1
          have LE : Hid (w.heap.size ≤ wr.heap.size) := Lib.hid HZ2.out.below.size
          clear hx
          go_wp2_with (at_builtin; refine wpList_app rfl (.tmp 41) (.tmp 43) _ rfl w.heap.size 117 ri _ 1 24 Try.underlying114 ri0 rz0 rz1 rz2 rfl (by omega) al' a cl' ((List.range a).map fun a => Value.slice (ra' a) b (rc' a)) rfl (World.ownsRow.alloc HX.out.rows _) (some ⟨wr.heap.size, 0, none⟩) 1 1 [.slice ar b cr] rfl (own_one _ _ _) (by simp [Value.oneCell']) (by unfold maxLen; omega) (by omega) (by have := LE.out; simp; omega) ?_; intro a8 c8 w8 h8; obtain ⟨k8, p8⟩ := HZ2.out.row rfl HX.out HR.out HZ.out.below.size ((Below.refl _ _).alloc (Nat.le_refl _) _) h8; have P8 := Lib.hid p8; have d8 := k8.cell 1; have f8 := k8.frozen 1; have z8 : Hid (wr.heap.size ≤ w8.heap.size) := Lib.hid (Nat.le_trans (by simp) h8.only.size); clear k8 p8 h8)
          go_roundw
          case rel => exact ⟨a + 1, _, _, by omega, by go_num, by rw [Nat.succ_mul]; exact P8.out.up (by simpa using z8.out)⟩
          case measure => simp [intOf]; omega
    · have ha6 : a = n := by omega
      subst ha6
      have i1 : ¬ (a : Int) < a := by omega
      go_wp2_with fail
      go_ret
      refine ⟨gn', by first | rfl | trivial, q', g', HZ.out.nm.nt, HZ.out.below, ?_, ?_⟩
      · obtain ⟨_, _, _, _, _, _, hx⟩ := HZ.out.nm; exact hx.ge.1
      · obtain ⟨_, _, _, _, _, _, hx⟩ := HZ.out.nm; exact hx.ge.2
end Go.Proofs.Ytfhlcjfgbhmecaa
/- Package net: Lost: the sum over all links. -/
namespace Go.Proofs.Ytfhlcjfgbhmecaa
open Go.RowKit
set_option linter.unusedVariables false
set_option maxRecDepth 100000

def sumL (f : Nat → Int) : Nat → Int
  | 0 => 0
  | N + 1 => sumL f N + f N
theorem sumL_succ (f : Nat → Int) (N : Nat) : sumL f (N + 1) = sumL f N + f N := rfl
theorem sumL_nn (f : Nat → Int) (N : Nat) (h : ∀ k, k < N → 0 ≤ f k) : ∀ m, m ≤ N → 0 ≤ sumL f m
  | 0, _ => Int.le_refl _
  | m + 1, hm => by
    have h1 := sumL_nn f N h m (by omega)
    have h2 := h m (by omega)
    rw [sumL_succ]
    omega
theorem sumL_le (f : Nat → Int) (N : Nat) (h : ∀ k, k < N → 0 ≤ f k) (m : Nat) (hm : m ≤ N) : sumL f m ≤ sumL f N := by
  obtain ⟨d, rfl⟩ : ∃ d, N = m + d := ⟨_, (Nat.add_sub_cancel' hm).symm⟩
  clear hm
  induction d with
  | zero => exact Int.le_refl _
  | succ d ih =>
    have h1 := ih (fun k hk => h k (by omega))
    have h2 := h (m + d) (by omega)
    show sumL f m ≤ sumL f (m + d) + f (m + d)
    omega
theorem sumL_up (f : Nat → Int) (k : Nat) (x : Int) : ∀ N, sumL (upq f k x) N = sumL f N + if k < N then x - f k else 0
  | 0 => by simp [sumL]
  | N + 1 => by
    rw [sumL_succ, sumL_succ, sumL_up f k x N]
    by_cases e : N = k
    · subst e
      rw [upq_same, if_neg (by omega), if_pos (by omega)]
      omega
    · rw [upq_ne _ _ e]
      by_cases h : k < N
      · rw [if_pos h, if_pos (by omega)]; omega
      · rw [if_neg h, if_neg (by omega)]; omega
theorem nlost_s {B gn n : Nat} {ps : List Int} {q g : Nat → Nat} {room : Int} {lost : Nat → Int} {ms : Nat → List (Value × List Int)} (w : World) (h : Nt B w gn n ps q g room lost ms) (hn : n ≤ 4096) (hl : ∀ k, k < n * n → 0 ≤ lost k) (S : Int) (hS : sumL lost (n * n) = S) (hS2 : S ≤ 1048576) :
    Calls Try.prog 35 #[.pointer (some ⟨gn, 0, none⟩)] w fun e w' => e = .returned (.int .i64 S) ∧ w = w' := by
  obtain ⟨ap, cp, al, cl, ra, rc, h1, h2, h3, h4⟩ := h.ex
  have c1 : w.cell? ⟨gn, 1, none⟩ = some (.slice al n cl) := h1.cell 1
  have H3 := Lib.hid h3
  have H4 := Lib.hid h4
  have HL := Lib.hid hl
  have QS := Lib.hid h.qs
  have HS := Lib.hid hS
  have HS2 := Lib.hid hS2
  clear h h1 h2 h3 h4 hl hS hS2
  go_enter Try.func35, Try.ntmps35
  go_wp2_with fail
  go_loopw [3, 13] (fun s i wr => ∃ a : Nat, a ≤ n ∧ i = .int .i64 a ∧ s = .int .i64 (sumL lost (a * n)) ∧ wr = w) (fun _ i _ => n - (intOf i).toNat)
  case atStart => exact ⟨0, by omega, rfl, by rw [Nat.zero_mul]; rfl, rfl⟩
  case round =>
    obtain ⟨a, ha, rfl, rfl, rfl⟩ := hrel
    by_cases hlt : a < n
    · obtain ⟨gl, hgl, r0⟩ := own_at H3.out hlt (v := .slice (ra a) n (rc a)) (by simp [hlt])
      subst hgl
      have R4 := Lib.hid (H4.out a hlt)
      obtain ⟨xa, hxa⟩ : ∃ z, z = ra a := ⟨_, rfl⟩
      obtain ⟨xc, hxc⟩ : ∃ z, z = rc a := ⟨_, rfl⟩
      rw [← hxa, ← hxc] at r0 R4
      have i0 : (0 : Int) ≤ a := by omega
      have i1 : (a : Int) < n := by omega
      clear hxa hxc
      go_wp2_with fail
      go_loopw [3, 19] (fun s i wx => ∃ b : Nat, b ≤ n ∧ i = .int .i64 b ∧ s = .int .i64 (sumL lost (a * n + b)) ∧ wx = wr) (fun _ i _ => n - (intOf i).toNat)
      case atStart => exact ⟨0, by omega, rfl, rfl, rfl⟩
      case round =>
        obtain ⟨b, hb, rfl, rfl, rfl⟩ := hrel
        by_cases hlt2 : b < n
        · obtain ⟨gr, hgr, r1⟩ := own_at R4.out hlt2 (v := .pointer (some ⟨q (a * n + b), 0, none⟩)) (by simp [hlt2])
          subst hgr
          have Q := Lib.hid (QS.out.que _ (at_lt hlt hlt2))
          have hk2 := at_lt hlt hlt2
          have u0 := sumL_nn lost (n * n) HL.out (a * n + b) (by omega)
          have u1 := sumL_nn lost (n * n) HL.out (a * n + b + 1) (by omega)
          have u2 := sumL_le lost (n * n) HL.out (a * n + b + 1) (by omega)
          have u3 := HL.out _ hk2
          have HN1 := Lib.hid (sumL_succ lost (a * n + b))
          rw [HS.out] at u2
          have u4 := HS2.out
          have u5 := sumL_succ lost (a * n + b)
          obtain ⟨k, hk⟩ : ∃ k, k = a * n + b := ⟨_, rfl⟩
          rw [← hk] at Q r1 HN1 u0 u1 u2 u3 u5 ⊢
          obtain ⟨s0, hs0⟩ : ∃ z, z = sumL lost k := ⟨_, rfl⟩
          obtain ⟨lk, hlk⟩ : ∃ z, z = lost k := ⟨_, rfl⟩
          rw [← hs0, ← hlk] at HN1
          rw [← hs0] at u0 u5 ⊢
          rw [← hlk] at u3 Q u5
          have ew : IntKind.i64.wrap (s0 + lk) = s0 + lk := IntWalk.i64_in _ (by omega)
          have HKB : Hid (a * n + (b + 1) = k + 1) := Lib.hid (by omega)
          obtain ⟨qk, hqk⟩ : ∃ z, z = q k := ⟨_, rfl⟩
          rw [← hqk] at Q r1
          have i2 : (0 : Int) ≤ b := by omega
          have i3 : (b : Int) < n := by omega
          clear hk hqk hs0 hlk u0 u1 u2 u3 u4 u5 hk2
          go_wp2_with fail
          refine (lq_lost_c qk (g k) room lk (ms k) _ Q.out).mono ?_; rintro e w' ⟨rfl, rfl⟩
          go_wp2_with fail
          go_roundw
          case rel => exact ⟨b + 1, by omega, by go_num, by rw [HKB.out, HN1.out], by first | rfl | trivial⟩
          case measure => simp [intOf]; omega
        · have i3 : ¬ (b : Int) < n := by omega
          have HKB : Hid ((a + 1) * n = a * n + b) := Lib.hid (by rw [Nat.succ_mul]; omega)
          go_wp2_with fail
          go_roundw
          case rel => exact ⟨a + 1, by omega, by go_num, by rw [HKB.out], by first | rfl | trivial⟩
          case measure => simp [intOf]; omega
    · have i1 : ¬ (a : Int) < n := by omega
      have han : a = n := by omega
      subst han
      rw [HS.out]
      go_wp2_with fail
      go_ret
      exact ⟨by first | rfl | trivial, by first | rfl | trivial⟩
end Go.Proofs.Ytfhlcjfgbhmecaa
