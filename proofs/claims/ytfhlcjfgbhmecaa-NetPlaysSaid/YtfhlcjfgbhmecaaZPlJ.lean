/- PlJ. -/
import Derived.Test.YtfhlcjfgbhmecaaZPlP
/- NetPlays: the net and the reference's cluster beside one another. -/
namespace Go.Proofs.Ytfhlcjfgbhmecaa
open Go.RowKit
set_option linter.unusedVariables false
set_option maxRecDepth 100000

/-- Blocks of a type that no net has turn: the net stands. -/
theorem Nt.ref {B gn n : Nat} {w w' : World} {ps : List Int} {q g : Nat → Nat} {room : Int} {lost : Nat → Int} {ms : Nat → List (Value × List Int)} {S : List Nat} {t : TypeId} (h : Nt B w gn n ps q g room lost ms) (ho : Only S w w') (hS : ∀ k ∈ S, ∃ cs, Blk w k t cs)
    (ht : t ≠ 116 ∧ t ≠ 3 ∧ t ≠ 117 ∧ t ≠ 118 ∧ t ≠ 161 ∧ t ≠ 59 ∧ t ≠ 5) : Nt B w' gn n ps q g room lost ms := by
  obtain ⟨ap, cp, al, cl, ra, rc, h1, h2, h3, h4⟩ := h.ex
  have T := Turn2.only ho hS
  exact ⟨⟨ap, cp, al, cl, ra, rc, T.blk h1 ht.1.symm ht.1.symm, T.row h2 ht.2.1.symm ht.2.1.symm, T.row h3 ht.2.2.1.symm ht.2.2.1.symm, fun a ha => T.row (h4 a ha) ht.2.2.2.1.symm ht.2.2.2.1.symm⟩, h.qs.kinds ho hS ht.2.2.2.2.1 ht.2.2.2.2.2.1 ht.2.2.2.2.2.2⟩
/-- A queue of the net turns: the reference's cluster stands, where none of its rows is the queue's. -/
theorem RX.net {w0 w w' : World} {B x : Nat} {room lost : Int} {M : Nat → List (Value × List Int)} {gf cf nb : Nat} {an : Option Addr} {cn : Nat} {ac : Option Addr} {cc ge ce gq cq : Nat} {ra : Nat → Option Addr} {rc : Nat → Nat} {pn pc : Nat → Nat} {nk : Prop}
    (h : RX w0 w B x room lost M gf cf nb an cn ac cc ge ce gq cq ra rc pn pc nk) {q g : Nat} {rm l : Int} {ms : List (Value × List Int)} (hq : Que w q g rm l ms) (ho : Only [q, g] w w') (hd : ∀ j, j < 30 → (ra j).map (·.block) ≠ some g) (hge : w0.heap.size ≤ q ∧ w0.heap.size ≤ g) :
    RX w0 w' B x room lost M gf cf nb an cn ac cc ge ce gq cq ra rc pn pc nk := by
  have T : Turn2 w w' 161 59 := ⟨fun hr h1 h2 => own_kinds hr ho hq.types h1 h2, fun hb h1 h2 => hb.only ho fun hm => by
    rcases hq.types _ hm _ _ hb with e | e
    · exact h1 e
    · exact h2 e⟩
  obtain ⟨cs, hf⟩ := h.fblk
  have hqb : ∃ cs, Blk w q 161 cs := by
    obtain ⟨_, _, h1, _⟩ := hq.ex
    exact ⟨_, h1⟩
  refine ⟨T.blk h.blk (by decide) (by decide), T.blk h.notary (by decide) (by decide), T.row h.nrow (by decide) (by decide), fun n k hk => (h.nodes n k hk).turn T (by decide) (by decide), T.row h.crow (by decide) (by decide), fun n k hk => (h.cls n k hk).turn T (by decide) (by decide), ?_, ⟨cs, T.blk hf (by decide) (by decide)⟩, T.row h.erow (by decide) (by decide), T.row h.qrow (by decide) (by decide), fun k hk => own_only (h.rows k hk) ho fun b hb hm => ?_, h.msgs, h.len, ho.below h.below h.below.size (by simpa using hge), h.ge⟩
  · refine h.frow.only ho fun b hb hm => ?_
    simp only [Option.map_some, Option.some.injEq] at hb
    subst hb
    rcases hq.types _ hm _ _ hf with e | e
    · exact absurd e (by decide)
    · exact absurd e (by decide)
  · simp only [List.mem_cons, List.not_mem_nil, or_false] at hm
    rcases hm with rfl | rfl
    · obtain ⟨cs2, hb2⟩ := hqb
      exact own_blk_ne (h.rows k hk) hb2 (by decide) hb
    · exact hd k hk (by rw [← own_block_eq]; exact hb)
section
variable {B gn n : Nat} {ps : List Int} {q g : Nat → Nat} {room : Int} {lost : Nat → Int} {ms : Nat → List (Value × List Int)}
theorem npush_atx (x y : Int) (v : Option Addr) (m c : Nat) (bs : List Int) (w : World) (h : Nt B w gn n ps q g room lost ms) (hn : n ≤ 4096) (hr : 1 ≤ room ∧ room ≤ 256) (k : Nat) (hl : Lnk n ps x y k) (hv : VRow w v m 1 (brow bs)) (hm : m ≤ 65536) (hlt : (ms k).length < room) :
    Calls Try.prog 32 #[.pointer (some ⟨gn, 0, none⟩), .int .i64 x, .agg #[.int .i64 y, .slice v m c]] w fun e w' => ∃ g' z, e = .returned (.bool true) ∧ Nt B w' gn n ps q (upq g k g') room (upq lost k (lost k)) (upq ms k (ms k ++ [(z, bs)])) ∧ Only [q k, g k] w w' ∧ (g' = g k ∨ w.heap.size ≤ g') ∧ (∀ b, z.ownBlock = some b → w.heap.size ≤ b) := by
  obtain ⟨w1, hw1⟩ : ∃ w1, w1 = w.alloc (.cells #[.int .i64 y, .slice v m c] 68) := ⟨_, rfl⟩
  have b1 : Below w.heap.size w w1 := by rw [hw1]; exact (Below.refl _ _).alloc (Nat.le_refl _) _
  have hkn := hl.lt
  have H := Lib.hid (h.below b1)
  have HL := Lib.hid hl
  have HV := Lib.hid (hv.below b1)
  have HR := Lib.hid hr
  have Q := Lib.hid ((h.below b1).qs.que k hkn)
  have B1 := Lib.hid b1
  have s1 : w1.cell? ⟨w.heap.size, 1, none⟩ = some (.slice v m c) := by rw [hw1]; exact (Blk.new w _ _).cell 1
  have s0 : w1.cell? ⟨w.heap.size, 0, none⟩ = some (.int .i64 y) := by rw [hw1]; exact (Blk.new w _ _).cell 0
  have HW := Lib.hid hw1
  clear h hl hv hr hw1 b1
  go_enter Try.func32, Try.ntmps32
  go_upto_region 1 with fail
  rw [← HW.out]
  go_wp2_with fail
  refine (link_at x y _ H.out hn k HL.out).mono ?_; rintro e w' ⟨rfl, rfl⟩
  go_wp2_with fail
  refine (push_ok (q k) (g k) room (lost k) (ms k) v m c bs _ Q.out HR.out HV.out hm hlt).mono ?_; rintro e w2 ⟨g', z, rfl, hq2, ho2, hg2, htx⟩
  have N2 := Lib.hid (H.out.turn hkn hq2 ho2 hg2)
  have O2 := Lib.hid ((Only.of_below (S := [q k, g k]) B1.out).trans ho2)
  have G2 : Hid (g' = g k ∨ w.heap.size ≤ g') := Lib.hid (hg2.imp id (Nat.le_trans B1.out.size))
  have Z2 : Hid (∀ b, z.ownBlock = some b → w.heap.size ≤ b) := Lib.hid (by
    obtain ⟨a', c', rfl, h1⟩ := htx
    exact fun b hb => Nat.le_trans B1.out.size (World.ownsRow.lt h1 b hb).1)
  clear hq2 ho2 hg2 htx
  go_wp2_with fail
  go_ret
  exact ⟨g', z, by first | rfl | trivial, N2.out, O2.out, G2.out, Z2.out⟩
end
/-- A type of which neither the net's queues nor the reference's are made. -/
abbrev plT (t : TypeId) : Prop := t ≠ 161 ∧ t ≠ 59 ∧ t ≠ 148 ∧ t ≠ 99
/-- What stands when a queue turns. -/
structure Stay (w w' : World) : Prop where
  row : ∀ {base e s n : Nat} {v : Value} {xs : List Value}, w.ownsRow base e s v n xs → plT e → w'.ownsRow base e s v n xs
  blk : ∀ {k t : Nat} {cs : Array Value}, Blk w k t cs → plT t → Blk w' k t cs
  size : w.heap.size ≤ w'.heap.size
theorem Stay.below {w w' : World} (h : Below w.heap.size w w') : Stay w w' := ⟨fun hr _ => own_below hr h, fun hb _ => hb.below h hb.lt, h.size⟩
theorem Stay.trans {w w' w'' : World} (h : Stay w w') (h' : Stay w' w'') : Stay w w'' := ⟨fun hr t => h'.row (h.row hr t) t, fun hb t => h'.blk (h.blk hb t) t, Nat.le_trans h.size h'.size⟩
theorem Stay.net {w w' : World} {q g : Nat} {rm l : Int} {ms : List (Value × List Int)} (hq : Que w q g rm l ms) (ho : Only [q, g] w w') : Stay w w' :=
  ⟨fun hr h => own_kinds hr ho hq.types h.1 h.2.1, fun hb h => hb.only ho fun hm => by
    rcases hq.types _ hm _ _ hb with e | e
    · exact h.1 e
    · exact h.2.1 e, ho.size⟩
theorem Stay.ref {w w' : World} {k t : Nat} {cs : Array Value} (hb : Blk w k t cs) (ho : Only [k] w w') (ht : t = 148 ∨ t = 99) : Stay w w' := by
  have T : Turn2 w w' t t := Turn2.only ho fun j hj => by
    have e : j = k := by simpa using hj
    rw [e]; exact ⟨_, hb⟩
  have key : ∀ e, plT e → e ≠ t := fun e he => by
    rcases ht with h | h
    · rw [h]; exact he.2.2.1
    · rw [h]; exact he.2.2.2
  exact ⟨fun hr h => T.row hr (key _ h) (key _ h), fun hb h => T.blk hb (key _ h) (key _ h), ho.size⟩
/-- The net at gn and the cluster at x beside one another: Qn k (in the net), Qr k (in the reference) are the messages from party k / 6 to party k % 6; Sn, Sr were lost; no text of the net lies in a block of av. -/
structure J2 (w0 w : World) (gn x : Nat) (room Sn Sr : Int) (Qn Qr : Nat → List (List Int)) (nk : Prop) (av : Nat → Prop) : Prop where
  ex : ∃ (Bn : Nat) (q g : Nat → Nat) (lost : Nat → Int) (ms : Nat → List (Value × List Int)) (B : Nat) (M : Nat → List (Value × List Int)) (gf cf nb : Nat) (an : Option Addr) (cn : Nat) (ac : Option Addr) (cc ge ce gq cq : Nat) (ra : Nat → Option Addr) (rc pn pc : Nat → Nat),
    Nt Bn w gn 6 six q g room lost ms ∧ RX w0 w B x room Sr M gf cf nb an cn ac cc ge ce gq cq ra rc pn pc nk ∧
    (∀ k, k < 36 → w0.heap.size ≤ q k ∧ w0.heap.size ≤ g k) ∧ (∀ k, (ms k).map Prod.snd = Qn k) ∧ (∀ a b, a < 6 → b < 6 → a ≠ b → (M (eidx a b)).map Prod.snd = Qr (a * 6 + b)) ∧
    (∀ k, 0 ≤ lost k) ∧ sumL lost 36 = Sn ∧ (∀ k j, k < 36 → j < 30 → (ra j).map (·.block) ≠ some (g k)) ∧
    (∀ k, k < 36 → ∀ m ∈ ms k, ∀ b, m.1.ownBlock = some b → ¬ av b)
  diag : ∀ a, a < 6 → Qn (a * 6 + a) = []
  below : Below w0.heap.size w0 w
section
variable {w0 w w' : World} {gn x : Nat} {room Sn Sr : Int} {Qn Qr : Nat → List (List Int)} {nk : Prop} {av : Nat → Prop}
theorem J2.keep (h : J2 w0 w gn x room Sn Sr Qn Qr nk av) (hb : Below w.heap.size w w') : J2 w0 w' gn x room Sn Sr Qn Qr nk av := by
  obtain ⟨Bn, q, g, lost, ms, B, M, gf, cf, nb, an, cn, ac, cc, ge, ce, gq, cq, ra, rc, pn, pc, h1, h2, h3⟩ := h.ex
  exact ⟨⟨Bn, q, g, lost, ms, B, M, gf, cf, nb, an, cn, ac, cc, ge, ce, gq, cq, ra, rc, pn, pc, h1.below hb, h2.keep hb, h3⟩, h.diag, h.below.trans (hb.mono h.below.size)⟩
theorem k_lt {a b : Nat} (ha : a < 6) (hb : b < 6) : a * 6 + b < 36 := by omega
theorem diag_up {k : Nat} {m : List (List Int)} (hd : ∀ a, a < 6 → Qn (a * 6 + a) = []) {a b : Nat} (hb : b < 6) (hab : a ≠ b) : ∀ c, c < 6 → upq Qn (a * 6 + b) m (c * 6 + c) = [] := fun c hc => by
  rw [upq_ne _ _ (by omega)]
  exact hd c hc
/-- What is behind a call of the net that turns one queue. -/
theorem J2.close {Bn : Nat} {q g : Nat → Nat} {lost : Nat → Int} {ms : Nat → List (Value × List Int)} {B : Nat} {M : Nat → List (Value × List Int)} {gf cf nb : Nat} {an : Option Addr} {cn : Nat} {ac : Option Addr} {cc ge ce gq cq : Nat} {ra : Nat → Option Addr} {rc pn pc : Nat → Nat}
    (h1 : Nt Bn w gn 6 six q g room lost ms) (h2 : RX w0 w B x room Sr M gf cf nb an cn ac cc ge ce gq cq ra rc pn pc nk) (h3 : ∀ k, k < 36 → w0.heap.size ≤ q k ∧ w0.heap.size ≤ g k) (h4 : ∀ k, (ms k).map Prod.snd = Qn k) (h5 : ∀ a b, a < 6 → b < 6 → a ≠ b → (M (eidx a b)).map Prod.snd = Qr (a * 6 + b))
    (h6 : ∀ k, 0 ≤ lost k) (h7 : sumL lost 36 = Sn) (h8 : ∀ k j, k < 36 → j < 30 → (ra j).map (·.block) ≠ some (g k)) (h9 : ∀ k, k < 36 → ∀ m ∈ ms k, ∀ b, m.1.ownBlock = some b → ¬ av b) (hdiag : ∀ a, a < 6 → Qn (a * 6 + a) = []) (hbelow : Below w0.heap.size w0 w)
    {a b : Nat} (ha : a < 6) (hb : b < 6) (hab : a ≠ b) {g' : Nat} {l' L' : Int} {m' : List (Value × List Int)} {Q' : List (List Int)}
    (n1 : Nt Bn w' gn 6 six q (upq g (a * 6 + b) g') room (upq lost (a * 6 + b) (lost (a * 6 + b) + l')) (upq ms (a * 6 + b) m')) (n2 : Only [q (a * 6 + b), g (a * 6 + b)] w w') (n3 : g' = g (a * 6 + b) ∨ w.heap.size ≤ g') (n4 : m'.map Prod.snd = Q') (n5 : 0 ≤ l') (n6 : l' = L') (n7 : ∀ m ∈ m', ∀ b, m.1.ownBlock = some b → ¬ av b) :
    J2 w0 w' gn x room (Sn + L') Sr (upq Qn (a * 6 + b) Q') Qr nk av := by
  have hk := k_lt ha hb
  have rx := h2.net (h1.qs.que _ hk) n2 (fun j hj => h8 _ j hk hj) (h3 _ hk)
  have lt : ∀ j, j < 30 → ∀ p, (ra j).map (·.block) = some p → p < w.heap.size := fun j hj p hp => (World.ownsRow.lt (h2.rows j hj) p (by rw [own_block_eq]; exact hp)).2
  refine ⟨⟨Bn, q, _, _, _, B, M, gf, cf, nb, an, cn, ac, cc, ge, ce, gq, cq, ra, rc, pn, pc, n1, rx, fun k hk2 => ⟨(h3 k hk2).1, ?_⟩, fun k => ?_, h5, fun k => ?_, ?_, fun k j hk2 hj => ?_, fun k hk2 => ?_⟩, diag_up (k := 0) hdiag hb hab, rx.below⟩
  · by_cases e : k = a * 6 + b
    · subst e
      rw [upq_same]
      rcases n3 with n3 | n3
      · rw [n3]; exact (h3 _ hk2).2
      · exact Nat.le_trans hbelow.size n3
    · rw [upq_ne _ _ e]; exact (h3 k hk2).2
  · by_cases e : k = a * 6 + b
    · subst e; rw [upq_same, upq_same]; exact n4
    · rw [upq_ne _ _ e, upq_ne _ _ e]; exact h4 k
  · by_cases e : k = a * 6 + b
    · subst e; rw [upq_same]; have := h6 (a * 6 + b); omega
    · rw [upq_ne _ _ e]; exact h6 k
  · rw [sumL_up, if_pos hk, h7, n6]; omega
  · by_cases e : k = a * 6 + b
    · subst e
      rw [upq_same]
      rcases n3 with n3 | n3
      · rw [n3]; exact h8 _ j hk2 hj
      · intro hh
        have := lt j hj g' hh
        omega
    · rw [upq_ne _ _ e]; exact h8 k j hk2 hj
  · by_cases e : k = a * 6 + b
    · subst e; rw [upq_same]; exact n7
    · rw [upq_ne _ _ e]; exact h9 k hk2
theorem j_push_ok (h : J2 w0 w gn x room Sn Sr Qn Qr nk av) (hr : 1 ≤ room ∧ room ≤ 256) (s d : Int) (a b : Nat) (ha : a < 6) (hb : b < 6) (hab : a ≠ b) (hl : Lnk 6 six s d (a * 6 + b)) (v : Option Addr) (m c : Nat) (bs : List Int) (hv : VRow w v m 1 (brow bs)) (hm : m ≤ 65536) (hlt : (Qn (a * 6 + b)).length < room) (hav : ∀ b, av b → b < w.heap.size) :
    Calls Try.prog 32 #[.pointer (some ⟨gn, 0, none⟩), .int .i64 s, .agg #[.int .i64 d, .slice v m c]] w fun e w' => e = .returned (.bool true) ∧ J2 w0 w' gn x room Sn Sr (upq Qn (a * 6 + b) (Qn (a * 6 + b) ++ [bs])) Qr nk av ∧ Stay w w' := by
  obtain ⟨Bn, q, g, lost, ms, B, M, gf, cf, nb, an, cn, ac, cc, ge, ce, gq, cq, ra, rc, pn, pc, h1, h2, h3, h4, h5, h6, h7, h8, h9⟩ := h.ex
  have hll : (ms (a * 6 + b)).length < room := by rw [← h4, List.length_map] at hlt; exact hlt
  refine (npush_atx s d v m c bs w h1 (by omega) hr _ hl hv hm hll).mono ?_
  rintro e w' ⟨g', z, rfl, n1, n2, n3, n8⟩
  refine ⟨rfl, ?_, Stay.net (h1.qs.que _ (k_lt ha hb)) n2⟩
  have e := J2.close (l' := 0) (L' := 0) h1 h2 h3 h4 h5 h6 h7 h8 h9 h.diag h.below ha hb hab (by rw [Int.add_zero]; exact n1) n2 n3 (by rw [List.map_append, h4]) (Int.le_refl 0) rfl (fun m hm => by
    rcases List.mem_append.1 hm with hm | hm
    · exact h9 _ (k_lt ha hb) m hm
    · simp only [List.mem_cons, List.not_mem_nil, or_false] at hm
      subst hm
      exact fun b hb2 h10 => absurd (hav b h10) (by have := n8 b hb2; omega))
  rw [Int.add_zero] at e
  exact e
theorem j_push_full (h : J2 w0 w gn x room Sn Sr Qn Qr nk av) (hr : 1 ≤ room ∧ room ≤ 256) (s d : Int) (a b : Nat) (ha : a < 6) (hb : b < 6) (hab : a ≠ b) (hl : Lnk 6 six s d (a * 6 + b)) (v : Option Addr) (m c : Nat) (hm : m ≤ 65536) (hfull : room ≤ (Qn (a * 6 + b)).length) (hS : Sn ≤ 1048575) :
    Calls Try.prog 32 #[.pointer (some ⟨gn, 0, none⟩), .int .i64 s, .agg #[.int .i64 d, .slice v m c]] w fun e w' => e = .returned (.bool false) ∧ J2 w0 w' gn x room (Sn + 1) Sr (upq Qn (a * 6 + b) (Qn (a * 6 + b))) Qr nk av ∧ Stay w w' := by
  obtain ⟨Bn, q, g, lost, ms, B, M, gf, cf, nb, an, cn, ac, cc, ge, ce, gq, cq, ra, rc, pn, pc, h1, h2, h3, h4, h5, h6, h7, h8, h9⟩ := h.ex
  have hll : room ≤ (ms (a * 6 + b)).length := by rw [← h4, List.length_map] at hfull; exact hfull
  have hk := k_lt ha hb
  have l1 : lost (a * 6 + b) ≤ Sn := by
    have e1 := sumL_le lost 36 (fun k _ => h6 k) (a * 6 + b + 1) (by omega)
    have e2 := sumL_nn lost 36 (fun k _ => h6 k) (a * 6 + b) (by omega)
    rw [sumL_succ, h7] at e1
    omega
  refine (npush_no s d v m c w h1 (by omega) hr _ hl ⟨h6 _, by omega⟩ (by omega) (.inl hll)).mono ?_
  rintro e w' ⟨rfl, n1, n2⟩
  exact ⟨rfl, J2.close (l' := 1) (L' := 1) h1 h2 h3 h4 h5 h6 h7 h8 h9 h.diag h.below ha hb hab n1 n2 (.inl rfl) (h4 _) (by omega) rfl (h9 _ hk), Stay.net (h1.qs.que _ (k_lt ha hb)) n2⟩
theorem j_take_ok (h : J2 w0 w gn x room Sn Sr Qn Qr nk av) (s d z : Int) (a b : Nat) (ha : a < 6) (hb : b < 6) (hab : a ≠ b) (hl : Lnk 6 six s d (a * 6 + b)) (i : Nat) (hz : z = i) (hi : i < (Qn (a * 6 + b)).length) :
    Calls Try.prog 38 #[.pointer (some ⟨gn, 0, none⟩), .int .i64 s, .int .i64 d, .int .i64 z] w fun e w' => ∃ v, e = .returned (.tuple #[v, .bool true]) ∧ Txt w' w.heap.size v (Qn (a * 6 + b))[i] ∧ J2 w0 w' gn x room Sn Sr (upq Qn (a * 6 + b) (outAt (Qn (a * 6 + b)) i)) Qr nk av ∧ Stay w w' := by
  obtain ⟨Bn, q, g, lost, ms, B, M, gf, cf, nb, an, cn, ac, cc, ge, ce, gq, cq, ra, rc, pn, pc, h1, h2, h3, h4, h5, h6, h7, h8, h9⟩ := h.ex
  have hii : i < (ms (a * 6 + b)).length := by rw [← h4, List.length_map] at hi; exact hi
  refine (ntake_ok' s d z w h1 (by omega) _ hl i hii hz).mono ?_
  rintro e w' ⟨g', v, rfl, ht, n1, n2, n3⟩
  have e2 : ((ms (a * 6 + b))[i]'hii).2 = (Qn (a * 6 + b))[i] := by simp only [← h4, List.getElem_map]
  rw [e2] at ht
  have e := J2.close (l' := 0) (L' := 0) h1 h2 h3 h4 h5 h6 h7 h8 h9 h.diag h.below ha hb hab (by rw [Int.add_zero]; exact n1) n2 n3 (by unfold outAt; rw [List.map_append, List.map_take, List.map_drop, h4]) (Int.le_refl 0) rfl (fun m hm => h9 _ (k_lt ha hb) m (outAt_mem hm))
  rw [Int.add_zero] at e
  exact ⟨v, rfl, ht, e, Stay.net (h1.qs.que _ (k_lt ha hb)) n2⟩
theorem j_dup_ok (h : J2 w0 w gn x room Sn Sr Qn Qr nk av) (hr : 1 ≤ room ∧ room ≤ 256) (s d : Int) (a b : Nat) (ha : a < 6) (hb : b < 6) (hab : a ≠ b) (hl : Lnk 6 six s d (a * 6 + b)) (i : Nat) (hi : i < (Qn (a * 6 + b)).length) (hlt : (Qn (a * 6 + b)).length < room) :
    Calls Try.prog 87 #[.pointer (some ⟨gn, 0, none⟩), .int .i64 s, .int .i64 d, .int .i64 i] w fun e w' => e = .returned (.bool true) ∧ J2 w0 w' gn x room Sn Sr (upq Qn (a * 6 + b) (Qn (a * 6 + b) ++ [(Qn (a * 6 + b))[i]])) Qr nk av ∧ Stay w w' := by
  obtain ⟨Bn, q, g, lost, ms, B, M, gf, cf, nb, an, cn, ac, cc, ge, ce, gq, cq, ra, rc, pn, pc, h1, h2, h3, h4, h5, h6, h7, h8, h9⟩ := h.ex
  have hii : i < (ms (a * 6 + b)).length := by rw [← h4, List.length_map] at hi; exact hi
  have hll : (ms (a * 6 + b)).length < room := by rw [← h4, List.length_map] at hlt; exact hlt
  refine (ndup_ok' s d w h1 (by omega) _ hl hr i hii hll).mono ?_
  rintro e w' ⟨g', rfl, n1, n2, n3⟩
  have e := J2.close (l' := 0) (L' := 0) (Q' := Qn (a * 6 + b) ++ [(Qn (a * 6 + b))[i]]) h1 h2 h3 h4 h5 h6 h7 h8 h9 h.diag h.below ha hb hab (by rw [Int.add_zero]; exact n1) n2 n3 (by simp only [← h4, List.map_append, List.getElem_map, List.map_cons, List.map_nil]) (Int.le_refl 0) rfl (fun m hm => by
    rcases List.mem_append.1 hm with hm | hm
    · exact h9 _ (k_lt ha hb) m hm
    · simp only [List.mem_cons, List.not_mem_nil, or_false] at hm
      subst hm
      exact h9 _ (k_lt ha hb) _ (List.getElem_mem hii))
  rw [Int.add_zero] at e
  exact ⟨rfl, e, Stay.net (h1.qs.que _ (k_lt ha hb)) n2⟩
theorem moved_memJ {α : Type} {l : List α} {k t : Nat} (hk : k < l.length) {m : α} (h : m ∈ moved l k t l[k]) : m ∈ l := by
  have key : ∀ x ∈ l.take k ++ l.drop (k + 1), x ∈ l := fun x hx => by
    rcases List.mem_append.1 hx with h | h
    · exact List.mem_of_mem_take h
    · exact List.mem_of_mem_drop h
  have all : ∀ x ∈ moved l k t l[k], x ∈ l := by
    unfold moved
    intro x hx
    simp only [List.mem_append, List.mem_cons] at hx
    rcases hx with hx | rfl | hx
    · exact key x (List.mem_append.2 (List.mem_append.1 (List.mem_of_mem_take hx)))
    · exact List.getElem_mem hk
    · exact key x (List.mem_append.2 (List.mem_append.1 (List.mem_of_mem_drop hx)))
  exact all m h
theorem moved_mapJ {α β : Type} (f : α → β) (l : List α) (k t : Nat) (m : α) : (moved l k t m).map f = moved (l.map f) k t (f m) := by simp [moved, List.map_take, List.map_drop]
theorem j_move_ok (h : J2 w0 w gn x room Sn Sr Qn Qr nk av) (s d : Int) (a b : Nat) (ha : a < 6) (hb : b < 6) (hab : a ≠ b) (hl : Lnk 6 six s d (a * 6 + b)) (i t : Nat) (hi : i < (Qn (a * 6 + b)).length) (ht : t < (Qn (a * 6 + b)).length) :
    Calls Try.prog 89 #[.pointer (some ⟨gn, 0, none⟩), .int .i64 s, .int .i64 d, .int .i64 i, .int .i64 t] w fun e w' => e = .returned (.bool true) ∧ J2 w0 w' gn x room Sn Sr (upq Qn (a * 6 + b) (moved (Qn (a * 6 + b)) i t (Qn (a * 6 + b))[i])) Qr nk av ∧ Stay w w' := by
  obtain ⟨Bn, q, g, lost, ms, B, M, gf, cf, nb, an, cn, ac, cc, ge, ce, gq, cq, ra, rc, pn, pc, h1, h2, h3, h4, h5, h6, h7, h8, h9⟩ := h.ex
  have hii : i < (ms (a * 6 + b)).length := by rw [← h4, List.length_map] at hi; exact hi
  have htt : t < (ms (a * 6 + b)).length := by rw [← h4, List.length_map] at ht; exact ht
  refine (nmove_ok' s d w h1 (by omega) _ hl i t hii htt).mono ?_
  rintro e w' ⟨g', rfl, n1, n2, n3⟩
  have e := J2.close (l' := 0) (L' := 0) (Q' := moved (Qn (a * 6 + b)) i t (Qn (a * 6 + b))[i]) h1 h2 h3 h4 h5 h6 h7 h8 h9 h.diag h.below ha hb hab (by rw [Int.add_zero]; exact n1) n2 n3 (by rw [moved_mapJ]; simp only [← h4, List.getElem_map]) (Int.le_refl 0) rfl (fun m hm => h9 _ (k_lt ha hb) m (moved_memJ hii hm))
  rw [Int.add_zero] at e
  exact ⟨rfl, e, Stay.net (h1.qs.que _ (k_lt ha hb)) n2⟩
theorem j_len (h : J2 w0 w gn x room Sn Sr Qn Qr nk av) (s d : Int) (a b : Nat) (hl : Lnk 6 six s d (a * 6 + b)) (l : Nat) (hm : (Qn (a * 6 + b)).length = l) :
    Calls Try.prog 34 #[.pointer (some ⟨gn, 0, none⟩), .int .i64 s, .int .i64 d] w fun e w' => e = .returned (.int .i64 l) ∧ w = w' := by
  obtain ⟨Bn, q, g, lost, ms, B, M, gf, cf, nb, an, cn, ac, cc, ge, ce, gq, cq, ra, rc, pn, pc, h1, h2, h3, h4, h5, h6, h7, h8, h9⟩ := h.ex
  exact nlen_c' s d w h1 (by omega) _ hl l (by rw [← hm, ← h4, List.length_map])
theorem j_lost (h : J2 w0 w gn x room Sn Sr Qn Qr nk av) (hS : Sn ≤ 1048576) :
    Calls Try.prog 35 #[.pointer (some ⟨gn, 0, none⟩)] w fun e w' => e = .returned (.int .i64 Sn) ∧ w = w' := by
  obtain ⟨Bn, q, g, lost, ms, B, M, gf, cf, nb, an, cn, ac, cc, ge, ce, gq, cq, ra, rc, pn, pc, h1, h2, h3, h4, h5, h6, h7, h8, h9⟩ := h.ex
  exact nlost_s w h1 (by omega) (fun k _ => h6 k) Sn h7 hS
theorem j_rlen (h : J2 w0 w gn x room Sn Sr Qn Qr nk av) (s d : Int) (a b : Nat) (ha : a < 6) (hb : b < 6) (hab : a ≠ b) (hr : EIdx s d (eidx a b : Nat)) (l : Nat) (hm : (Qr (a * 6 + b)).length = l) :
    Calls Try.prog 91 #[.pointer (some ⟨x, 0, none⟩), .int .i64 s, .int .i64 d] w fun e w' => e = .returned (.int .i64 l) ∧ w = w' := by
  obtain ⟨Bn, q, g, lost, ms, B, M, gf, cf, nb, an, cn, ac, cc, ge, ce, gq, cq, ra, rc, pn, pc, h1, h2, h3, h4, h5, h6, h7, h8, h9⟩ := h.ex
  exact rlen_c s d h2 _ (eidx_lt a b ha hb hab) hr l (by rw [← hm, ← h5 a b ha hb hab, List.length_map])
end
end Go.Proofs.Ytfhlcjfgbhmecaa
