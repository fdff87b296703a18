/- RcA, RcB. -/
import Derived.Test.YtfhlcjfgbhmecaaZNdG
import Derived.Test.YtfhlcjfgbhmecaaZNetK
/- The reference's cluster at play: its links' queues. -/
namespace Go.Proofs.Ytfhlcjfgbhmecaa
open Go.RowKit
set_option linter.unusedVariables false
set_option maxRecDepth 100000

abbrev eight : List Int := [0, 1, 2, 3, 4, 100, 101, 102]
abbrev rxC (room lost : Int) (gf cf nb : Nat) (an : Option Addr) (cn : Nat) (ac : Option Addr) (cc ge ce gq cq : Nat) : Array Value :=
  #[.int .i64 1, .int .i64 2, .int .i64 2, .int .i64 4, .int .i64 room, .int .i64 8, .int .i64 8, .int .i64 8, .int .i64 1, .int .i64 2, .int .i64 12, .int .i64 8, .int .i64 6, .int .i64 2, .int .i64 6, .slice (some ⟨gf, 0, none⟩) 8 cf, .pointer (some ⟨nb, 0, none⟩), .slice an 4 cn, .slice ac 2 cc, .slice (some ⟨ge, 0, none⟩) 30 ce, .slice (some ⟨gq, 0, none⟩) 30 cq, .int .i64 lost]
/-- The cluster at x: M k are the messages of its k-th link: each a slice and its bytes, which lie in memory that w0 had. -/
structure RX (w0 w : World) (B x : Nat) (room lost : Int) (M : Nat → List (Value × List Int)) (gf cf nb : Nat) (an : Option Addr) (cn : Nat) (ac : Option Addr) (cc ge ce gq cq : Nat) (ra : Nat → Option Addr) (rc : Nat → Nat) (pn pc : Nat → Nat) (nk : Prop) : Prop where
  blk : Blk w x 99 (rxC room lost gf cf nb an cn ac cc ge ce gq cq)
  notary : NotE w nb
  nrow : w.ownsRow B 139 1 (.slice an 4 cn) 4 (ptrl pn 4)
  nodes : nk → ∀ k, k < 4 → NodeB B w (pn k)
  crow : w.ownsRow B 142 1 (.slice ac 2 cc) 2 (ptrl pc 2)
  cls : nk → ∀ k, k < 2 → ClientB B w (pc k)
  frow : VRow w (some ⟨gf, 0, none⟩) 8 1 (pints eight)
  fblk : ∃ cs, Blk w gf 3 cs
  erow : w.ownsRow 0 75 2 (.slice (some ⟨ge, 0, none⟩) 30 ce) 30 ((ends 30).flatMap acell)
  qrow : w.ownsRow B 148 1 (.slice (some ⟨gq, 0, none⟩) 30 cq) 30 ((List.range 30).map fun k => Value.slice (ra k) (M k).length (rc k))
  rows : ∀ k, k < 30 → w.ownsRow 0 59 1 (.slice (ra k) (M k).length (rc k)) (M k).length ((M k).map Prod.fst)
  msgs : ∀ k, k < 30 → ∀ m ∈ M k, ∃ a c, m.1 = .slice a m.2.length c ∧ VRow w0 a m.2.length 1 (brow m.2) ∧ m.2.length ≤ c ∧ c ≤ maxLen
  len : ∀ k, k < 30 → (M k).length ≤ 256
  below : Below w0.heap.size w0 w
  ge : w0.heap.size ≤ x ∧ w0.heap.size ≤ B ∧ B ≤ x
section
variable {w0 w w' : World} {B x : Nat} {room lost : Int} {M : Nat → List (Value × List Int)} {gf cf nb : Nat} {an : Option Addr} {cn : Nat} {ac : Option Addr} {cc ge ce gq cq : Nat} {ra : Nat → Option Addr} {rc : Nat → Nat} {pn pc : Nat → Nat} {nk : Prop}
theorem RX.keep (h : RX w0 w B x room lost M gf cf nb an cn ac cc ge ce gq cq ra rc pn pc nk) (hb : Below w.heap.size w w') : RX w0 w' B x room lost M gf cf nb an cn ac cc ge ce gq cq ra rc pn pc nk := by
  obtain ⟨cs, hf⟩ := h.fblk
  exact ⟨h.blk.below hb h.blk.lt, Blk.below h.notary hb (Blk.lt h.notary), own_below h.nrow hb, fun n k hk => (h.nodes n k hk).below hb, own_below h.crow hb, fun n k hk => (h.cls n k hk).below hb, h.frow.below hb, ⟨cs, hf.below hb hf.lt⟩, own_below h.erow hb, own_below h.qrow hb, fun k hk => own_below (h.rows k hk) hb, h.msgs, h.len, h.below.trans (hb.mono h.below.size), h.ge⟩
theorem RX.end_at (h : RX w0 w B x room lost M gf cf nb an cn ac cc ge ce gq cq ra rc pn pc nk) {i : Nat} (hi : i < 30) : w.cell? ⟨ge, i * 2, none⟩ = some (.int .i64 ((ends 30).getD i (0, 0)).1) ∧ w.cell? ⟨ge, i * 2 + 1, none⟩ = some (.int .i64 ((ends 30).getD i (0, 0)).2) := by
  have hl : i < (ends 30).length := by rw [show (ends 30).length = 30 by decide]; exact hi
  have e : (ends 30).getD i (0, 0) = (ends 30)[i] := by simp [List.getD, List.getElem?_eq_getElem hl]
  rw [e]
  exact ⟨(Row.of_own h.erow).cell (flat_get' acell 2 acell_len (ends 30) i 0 (by omega) hl _ rfl), (Row.of_own h.erow).cell (flat_get' acell 2 acell_len (ends 30) i 1 (by omega) hl _ rfl)⟩
theorem RX.queue_at (h : RX w0 w B x room lost M gf cf nb an cn ac cc ge ce gq cq ra rc pn pc nk) {i : Nat} (hi : i < 30) : w.cell? ⟨gq, i, none⟩ = some (.slice (ra i) (M i).length (rc i)) :=
  (Row.of_own h.qrow).cell (by simp [hi])
/-- The place of a link among the ends; -1: there is none. -/
def EIdx (s d : Int) (r : Int) : Prop := (∃ i : Nat, i < 30 ∧ r = i ∧ (ends 30).getD i (0, 0) = (s, d) ∧ ∀ j, j < i → (ends 30).getD j (0, 0) ≠ (s, d)) ∨ (r = -1 ∧ ∀ j, j < 30 → (ends 30).getD j (0, 0) ≠ (s, d))
theorem rlink_c (s d r : Int) (h : RX w0 w B x room lost M gf cf nb an cn ac cc ge ce gq cq ra rc pn pc nk) (hr : EIdx s d r) :
    Calls Try.prog 86 #[.pointer (some ⟨x, 0, none⟩), .int .i64 s, .int .i64 d] w fun e w' => e = .returned (.int .i64 r) ∧ w = w' := by
  have H := Lib.hid h
  have HR := Lib.hid hr
  have c19 : w.cell? ⟨x, 19, none⟩ = some (.slice (some ⟨ge, 0, none⟩) 30 ce) := h.blk.cell 19
  clear h hr
  go_enter Try.func86, Try.ntmps86
  go_wp2_with fail
  go_loopw [13] (fun i wr => ∃ k : Nat, k ≤ 30 ∧ i = .int .i64 k ∧ wr = w ∧ ∀ j, j < k → (ends 30).getD j (0, 0) ≠ (s, d)) (fun i _ => 30 - (intOf i).toNat)
  case atStart => exact ⟨0, by omega, rfl, rfl, fun j hj => absurd hj (by omega)⟩
  case round =>
    obtain ⟨k, hk, rfl, rfl, hno⟩ := hrel
    have NO := Lib.hid hno
    clear hno
    by_cases hlt : k < 30
    · obtain ⟨y0, y1⟩ := H.out.end_at hlt
      obtain ⟨p, hp⟩ : ∃ p, p = (ends 30).getD k (0, 0) := ⟨_, rfl⟩
      rw [← hp] at y0 y1
      obtain ⟨u, v⟩ := p
      have HP := Lib.hid hp
      have i0 : (0 : Int) ≤ k := by omega
      have i1 : (k : Int) < 30 := by omega
      clear hp
      by_cases he : u = s ∧ v = d
      · have ha := arr_two u v s d true ⟨fun _ => he, fun _ => rfl⟩
        have e : r = k := by
          rcases HR.out with ⟨i, hi, rfl, e1, e2⟩ | ⟨_, e2⟩
          · rcases Nat.lt_trichotomy i k with hik | rfl | hik
            · exact absurd e1 (NO.out i hik)
            · rfl
            · exact absurd (by rw [← HP.out, he.1, he.2]) (e2 k hik)
          · exact absurd (by rw [← HP.out, he.1, he.2]) (e2 k hlt)
        have E := Lib.hid e
        clear e he
        go_wp2_with fail
        go_ret
        exact ⟨by rw [E.out]; rfl, by first | rfl | trivial⟩
      · have ha := arr_two u v s d false ⟨fun h => Bool.noConfusion h, fun h => absurd h he⟩
        have HE := Lib.hid he
        clear he
        go_wp2_with fail
        go_roundw
        case rel => exact ⟨k + 1, by omega, by go_num, by first | rfl | trivial, fun j hj => by
          by_cases e : j = k
          · subst e
            rw [← HP.out]
            intro h2
            exact HE.out ⟨congrArg Prod.fst h2, congrArg Prod.snd h2⟩
          · exact NO.out j (by omega)⟩
        case measure => simp [intOf]; omega
    · have hk30 : k = 30 := by omega
      subst hk30
      have e : r = -1 := by
        rcases HR.out with ⟨i, hi, _, e1, _⟩ | ⟨e1, _⟩
        · exact absurd e1 (NO.out i hi)
        · exact e1
      have E := Lib.hid e
      clear e
      go_wp2_with fail
      go_ret
      exact ⟨by rw [E.out]; rfl, by first | rfl | trivial⟩
theorem rlen_c (s d : Int) (h : RX w0 w B x room lost M gf cf nb an cn ac cc ge ce gq cq ra rc pn pc nk) (k : Nat) (hk : k < 30) (hr : EIdx s d k) (l : Nat) (hl : (M k).length = l) :
    Calls Try.prog 91 #[.pointer (some ⟨x, 0, none⟩), .int .i64 s, .int .i64 d] w fun e w' => e = .returned (.int .i64 l) ∧ w = w' := by
  have H := Lib.hid h
  have HR := Lib.hid hr
  have c20 : w.cell? ⟨x, 20, none⟩ = some (.slice (some ⟨gq, 0, none⟩) 30 cq) := h.blk.cell 20
  have q0 := h.queue_at hk
  rw [hl] at q0
  have i0 : ¬ (k : Int) < 0 := by omega
  have i1 : (k : Int) < 30 := by omega
  have i2 : (0 : Int) ≤ k := by omega
  clear h hr hl
  go_enter Try.func91, Try.ntmps91
  go_wp2_with fail
  refine (rlink_c s d k H.out HR.out).mono ?_; rintro e w' ⟨rfl, rfl⟩
  go_wp2_with fail
  go_ret
  exact ⟨by first | rfl | trivial, by first | rfl | trivial⟩
theorem rlen_none (s d : Int) (h : RX w0 w B x room lost M gf cf nb an cn ac cc ge ce gq cq ra rc pn pc nk) (hr : EIdx s d (-1)) :
    Calls Try.prog 91 #[.pointer (some ⟨x, 0, none⟩), .int .i64 s, .int .i64 d] w fun e w' => e = .returned (.int .i64 0) ∧ w = w' := by
  have H := Lib.hid h
  have HR := Lib.hid hr
  clear h hr
  go_enter Try.func91, Try.ntmps91
  go_wp2_with fail
  refine (rlink_c s d (-1) H.out HR.out).mono ?_; rintro e w' ⟨rfl, rfl⟩
  go_wp2_with fail
  go_ret
  exact ⟨by first | rfl | trivial, by first | rfl | trivial⟩
end
end Go.Proofs.Ytfhlcjfgbhmecaa
/- The reference's cluster at play: what turns when a link's queue turns. -/
namespace Go.Proofs.Ytfhlcjfgbhmecaa
open Go.RowKit
set_option linter.unusedVariables false
set_option maxRecDepth 100000

theorem Turn2.only {w w' : World} {S : List Nat} {t : TypeId} (ho : Only S w w') (hS : ∀ k ∈ S, ∃ cs, Blk w k t cs) : Turn2 w w' t t :=
  ⟨fun h h1 _ => own_kinds h ho (kinds_of hS) h1 h1, fun h h1 _ => h.only ho fun hm => by
    obtain ⟨c, hc⟩ := hS _ hm
    exact h.ne_ hc h1 rfl⟩
section
variable {w0 w w' w8 : World} {B x : Nat} {room lost : Int} {M : Nat → List (Value × List Int)} {gf cf nb : Nat} {an : Option Addr} {cn : Nat} {ac : Option Addr} {cc ge ce gq cq : Nat} {ra : Nat → Option Addr} {rc : Nat → Nat} {pn pc : Nat → Nat} {nk : Prop}
/-- A message of the reference: a slice of memory that w0 had. -/
def Msg (w0 : World) (m : Value × List Int) : Prop := ∃ a c, m.1 = .slice a m.2.length c ∧ VRow w0 a m.2.length 1 (brow m.2) ∧ m.2.length ≤ c ∧ c ≤ maxLen
theorem range_set {α : Type} (f : Nat → α) (n k : Nat) (v : α) (hk : k < n) : ((List.range n).map f).set k v = (List.range n).map (upq f k v) := by
  apply List.ext_getElem?
  intro j
  rw [List.getElem?_set, List.getElem?_map, List.getElem?_map]
  by_cases h : k = j
  · subst h
    rw [if_pos rfl]
    simp [hk, upq_same]
  · rw [if_neg h]
    by_cases hj : j < n
    · simp [hj, upq_ne _ _ (fun e => h e.symm)]
    · simp [hj]
theorem RX.put (h : RX w0 w B x room lost M gf cf nb an cn ac cc ge ce gq cq ra rc pn pc nk) (hb : Below w.heap.size w w8) {k : Nat} (hk : k < 30) {a' : Option Addr} {c' : Nat} {ms' : List (Value × List Int)} (hrow : w8.ownsRow w.heap.size 59 1 (.slice a' ms'.length c') ms'.length (ms'.map Prod.fst))
    (hm : ∀ m ∈ ms', Msg w0 m) (hl : ms'.length ≤ 256) :
    RX w0 (w8.setCell ⟨gq, k, none⟩ (.slice a' ms'.length c')) B x room lost (upq M k ms') gf cf nb an cn ac cc ge ce gq cq (upq ra k a') (upq rc k c') pn pc nk ∧ Only [gq] w (w8.setCell ⟨gq, k, none⟩ (.slice a' ms'.length c')) := by
  have h8 := h.keep hb
  have hq8 : ∃ cs, Blk w8 gq 148 cs := by
    obtain ⟨cur, hc, _⟩ := (Row.of_own h8.qrow).parts
    exact ⟨cur, hc⟩
  have o9 : Only [gq] w8 (w8.setCell ⟨gq, k, none⟩ (.slice a' ms'.length c')) := (Only.refl _ _).setCell (.inl (by simp)) _
  have T := Turn2.only o9 (fun j hj => by
    have e : j = gq := by simpa using hj
    rw [e]; exact hq8)
  have hgq : w0.heap.size ≤ gq := Nat.le_trans h.ge.2.1 (World.ownsRow.lt h.qrow gq rfl).1
  obtain ⟨cs, hf⟩ := h8.fblk
  refine ⟨⟨T.blk h8.blk (by decide) (by decide), T.blk h8.notary (by decide) (by decide), T.row h8.nrow (by decide) (by decide), fun n j hj => (h8.nodes n j hj).turn T (by decide) (by decide), T.row h8.crow (by decide) (by decide), fun n j hj => (h8.cls n j hj).turn T (by decide) (by decide), ?_, ⟨cs, T.blk hf (by decide) (by decide)⟩, T.row h8.erow (by decide) (by decide), ?_, fun j hj => ?_, fun j hj m hmm => ?_, fun j hj => ?_, o9.below h8.below h8.below.size (by simpa using hgq), h.ge⟩, (Only.of_below hb).trans o9⟩
  · refine h8.frow.only o9 fun b hb hm => ?_
    simp only [Option.map_some, Option.some.injEq] at hb
    obtain ⟨cs2, hq⟩ := hq8
    exact hf.ne_ hq (by decide) (by rw [hb]; simpa using hm)
  · have e := (World.ownsRow.stored h8.qrow k (.slice a' ms'.length c')).1
    rw [range_set _ _ _ _ hk] at e
    have e2 : (List.range 30).map (upq (fun k => Value.slice (ra k) (M k).length (rc k)) k (.slice a' ms'.length c')) = (List.range 30).map fun j => Value.slice (upq ra k a' j) (upq M k ms' j).length (upq rc k c' j) := by
      refine List.map_congr_left fun j _ => ?_
      by_cases ej : j = k
      · subst ej; simp only [upq_same]
      · simp only [upq_ne _ _ ej]
    rw [e2] at e
    exact e
  · by_cases ej : j = k
    · subst ej; rw [upq_same, upq_same, upq_same]; exact T.row (own_base_le hrow (Nat.zero_le _)) (by decide) (by decide)
    · rw [upq_ne _ _ ej, upq_ne _ _ ej, upq_ne _ _ ej]; exact T.row (h8.rows j hj) (by decide) (by decide)
  · by_cases ej : j = k
    · subst ej; rw [upq_same] at hmm; exact hm m hmm
    · rw [upq_ne _ _ ej] at hmm; exact h.msgs j hj m hmm
  · by_cases ej : j = k
    · subst ej; rw [upq_same]; exact hl
    · rw [upq_ne _ _ ej]; exact h.len j hj
theorem RX.lose (h : RX w0 w B x room lost M gf cf nb an cn ac cc ge ce gq cq ra rc pn pc nk) (l' : Int) :
    RX w0 (w.setCell ⟨x, 21, none⟩ (.int .i64 l')) B x room l' M gf cf nb an cn ac cc ge ce gq cq ra rc pn pc nk ∧ Only [x] w (w.setCell ⟨x, 21, none⟩ (.int .i64 l')) := by
  have o9 : Only [x] w (w.setCell ⟨x, 21, none⟩ (.int .i64 l')) := (Only.refl _ _).setCell (.inl (by simp)) _
  have T := Turn2.only o9 (fun j hj => by
    have e : j = x := by simpa using hj
    rw [e]; exact ⟨_, h.blk⟩)
  obtain ⟨cs, hf⟩ := h.fblk
  refine ⟨⟨h.blk.set_ 21 _, T.blk h.notary (by decide) (by decide), T.row h.nrow (by decide) (by decide), fun n j hj => (h.nodes n j hj).turn T (by decide) (by decide), T.row h.crow (by decide) (by decide), fun n j hj => (h.cls n j hj).turn T (by decide) (by decide), ?_, ⟨cs, T.blk hf (by decide) (by decide)⟩, T.row h.erow (by decide) (by decide), T.row h.qrow (by decide) (by decide), fun j hj => T.row (h.rows j hj) (by decide) (by decide), h.msgs, h.len, o9.below h.below h.below.size (by simpa using h.ge.1), h.ge⟩, o9⟩
  refine h.frow.only o9 fun b hb hm => ?_
  simp only [Option.map_some, Option.some.injEq] at hb
  exact hf.ne_ h.blk (by decide) (by rw [hb]; simpa using hm)
end
end Go.Proofs.Ytfhlcjfgbhmecaa
