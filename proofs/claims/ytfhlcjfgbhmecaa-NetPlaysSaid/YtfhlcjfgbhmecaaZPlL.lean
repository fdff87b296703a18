/- PlK, PlL. -/
import Derived.Test.YtfhlcjfgbhmecaaZPlJ
/- NetPlays: the reference's calls, the net beside it. -/
namespace Go.Proofs.Ytfhlcjfgbhmecaa
open Go.RowKit
set_option linter.unusedVariables false
set_option maxRecDepth 100000

theorem eidx_inj (a b c d : Nat) (hb : b < 6) (hd : d < 6) (hab : a ≠ b) (hcd : c ≠ d) (ha : a < 6) (hc : c < 6) (h : eidx a b = eidx c d) : a = c ∧ b = d := by
  unfold eidx at h
  split at h <;> split at h <;> omega
theorem RX.stay {w0 w w' : World} {B x : Nat} {room lost : Int} {M : Nat → List (Value × List Int)} {gf cf nb : Nat} {an : Option Addr} {cn : Nat} {ac : Option Addr} {cc ge ce gq cq : Nat} {ra : Nat → Option Addr} {rc : Nat → Nat} {pn pc : Nat → Nat} {nk : Prop} (h : RX w0 w B x room lost M gf cf nb an cn ac cc ge ce gq cq ra rc pn pc nk) (ho : Only [gq] w w') : Stay w w' := by
  obtain ⟨cur, hc, _⟩ := (Row.of_own h.qrow).parts
  exact Stay.ref hc ho (.inl rfl)
section
variable {w0 w w' : World} {gn x : Nat} {room Sn Sr : Int} {Qn Qr : Nat → List (List Int)} {nk : Prop} {av : Nat → Prop}
/-- What is behind a call of the reference that turns one queue. -/
theorem J2.closeR {Bn : Nat} {q g : Nat → Nat} {lost : Nat → Int} {ms : Nat → List (Value × List Int)} {B : Nat} {M : Nat → List (Value × List Int)} {gf cf nb : Nat} {an : Option Addr} {cn : Nat} {ac : Option Addr} {cc ge ce gq cq : Nat} {ra : Nat → Option Addr} {rc pn pc : Nat → Nat}
    (h1 : Nt Bn w gn 6 six q g room lost ms) (h2 : RX w0 w B x room Sr M gf cf nb an cn ac cc ge ce gq cq ra rc pn pc nk) (h3 : ∀ k, k < 36 → w0.heap.size ≤ q k ∧ w0.heap.size ≤ g k) (h4 : ∀ k, (ms k).map Prod.snd = Qn k) (h5 : ∀ a b, a < 6 → b < 6 → a ≠ b → (M (eidx a b)).map Prod.snd = Qr (a * 6 + b))
    (h6 : ∀ k, 0 ≤ lost k) (h7 : sumL lost 36 = Sn) (h8 : ∀ k j, k < 36 → j < 30 → (ra j).map (·.block) ≠ some (g k)) (h9 : ∀ k, k < 36 → ∀ m ∈ ms k, ∀ b, m.1.ownBlock = some b → ¬ av b) (hdiag : ∀ a, a < 6 → Qn (a * 6 + a) = [])
    {a b : Nat} (ha : a < 6) (hb : b < 6) (hab : a ≠ b) {a' : Option Addr} {c' : Nat} {m' : List (Value × List Int)} {Q' : List (List Int)}
    (rx : RX w0 w' B x room Sr (upq M (eidx a b) m') gf cf nb an cn ac cc ge ce gq cq (upq ra (eidx a b) a') (upq rc (eidx a b) c') pn pc nk) (ho : Only [gq] w w') (hnew : ∀ p, a'.map (·.block) = some p → w.heap.size ≤ p) (hm : m'.map Prod.snd = Q') :
    J2 w0 w' gn x room Sn Sr Qn (upq Qr (a * 6 + b) Q') nk av := by
  have n1 := h1.ref (t := 148) ho (fun k hk => by
    have e : k = gq := by simpa using hk
    rw [e]
    obtain ⟨cur, hc, _⟩ := (Row.of_own h2.qrow).parts
    exact ⟨cur, hc⟩) (by decide)
  refine ⟨⟨Bn, q, g, lost, ms, B, _, gf, cf, nb, an, cn, ac, cc, ge, ce, gq, cq, _, _, pn, pc, n1, rx, h3, h4, fun c d hc hd hcd => ?_, h6, h7, fun k j hk hj => ?_, h9⟩, hdiag, rx.below⟩
  · by_cases e : eidx c d = eidx a b
    · obtain ⟨rfl, rfl⟩ := eidx_inj c d a b hd hb hcd hab hc ha e
      rw [upq_same, upq_same]
      exact hm
    · have e2 : c * 6 + d ≠ a * 6 + b := fun e2 => e (by
        have e3 : c = a := by omega
        have e4 : d = b := by omega
        rw [e3, e4])
      rw [upq_ne _ _ e, upq_ne _ _ e2]
      exact h5 c d hc hd hcd
  · by_cases e : j = eidx a b
    · rw [e, upq_same]
      intro hh
      have := hnew _ hh
      have := (h1.qs.que k hk).glt
      omega
    · rw [upq_ne _ _ e]; exact h8 k j hk hj
theorem j_inject_ok (h : J2 w0 w gn x room Sn Sr Qn Qr nk av) (hr : room ≤ 256) (s d : Int) (hs : Sends s) (a b : Nat) (ha : a < 6) (hb : b < 6) (hab : a ≠ b) (hl : EIdx s d (eidx a b : Nat)) (v : Option Addr) (m c : Nat) (bs : List Int) (hm : bs.length = m) (hm2 : m ≤ 65536) (hv : Msg w0 (.slice v m c, bs)) (hlt : (Qr (a * 6 + b)).length < room) :
    Calls Try.prog 84 #[.pointer (some ⟨x, 0, none⟩), .int .i64 s, .int .i64 d, .slice v m c] w fun e w' => e = .returned (.int .i64 0) ∧ J2 w0 w' gn x room Sn Sr Qn (upq Qr (a * 6 + b) (Qr (a * 6 + b) ++ [bs])) nk av ∧ Stay w w' := by
  obtain ⟨Bn, q, g, lost, ms, B, M, gf, cf, nb, an, cn, ac, cc, ge, ce, gq, cq, ra, rc, pn, pc, h1, h2, h3, h4, h5, h6, h7, h8, h9⟩ := h.ex
  have hll : (M (eidx a b)).length < room := by rw [← h5 a b ha hb hab, List.length_map] at hlt; exact hlt
  refine (rinject_ok s d v m c bs hs h2 (eidx a b) (eidx_lt a b ha hb hab) hl hm hm2 hv hll hr).mono ?_
  rintro e w' ⟨a', c', rfl, rx, ho, hn⟩
  exact ⟨rfl, J2.closeR h1 h2 h3 h4 h5 h6 h7 h8 h9 h.diag ha hb hab rx ho hn (by rw [List.map_append, h5 a b ha hb hab]; rfl), h2.stay ho⟩
theorem j_rdrop_ok (h : J2 w0 w gn x room Sn Sr Qn Qr nk av) (s d z : Int) (a b : Nat) (ha : a < 6) (hb : b < 6) (hab : a ≠ b) (hl : EIdx s d (eidx a b : Nat)) (i : Nat) (hz : z = i) (hi : i < (Qr (a * 6 + b)).length) :
    Calls Try.prog 85 #[.pointer (some ⟨x, 0, none⟩), .int .i64 s, .int .i64 d, .int .i64 z] w fun e w' => ∃ va cv, e = .returned (.tuple #[.slice va ((Qr (a * 6 + b))[i]).length cv, .bool true]) ∧ VRow w0 va ((Qr (a * 6 + b))[i]).length 1 (brow (Qr (a * 6 + b))[i]) ∧ J2 w0 w' gn x room Sn Sr Qn (upq Qr (a * 6 + b) (outAt (Qr (a * 6 + b)) i)) nk av ∧ Stay w w' := by
  obtain ⟨Bn, q, g, lost, ms, B, M, gf, cf, nb, an, cn, ac, cc, ge, ce, gq, cq, ra, rc, pn, pc, h1, h2, h3, h4, h5, h6, h7, h8, h9⟩ := h.ex
  have hii : i < (M (eidx a b)).length := by rw [← h5 a b ha hb hab, List.length_map] at hi; exact hi
  have hk := eidx_lt a b ha hb hab
  refine (rdrop_ok s d z h2 (eidx a b) hk hl i hz hii).mono ?_
  rintro e w' ⟨a', c', rfl, rx, ho, hn⟩
  have e2 : ((M (eidx a b))[i]'hii).2 = (Qr (a * 6 + b))[i] := by simp only [← h5 a b ha hb hab, List.getElem_map]
  obtain ⟨va, cv, m1, m2, _⟩ := h2.msgs (eidx a b) hk _ (List.getElem_mem hii)
  rw [e2] at m1 m2
  exact ⟨va, cv, by rw [m1], m2, J2.closeR h1 h2 h3 h4 h5 h6 h7 h8 h9 h.diag ha hb hab rx ho hn (by unfold outAt; rw [List.map_append, List.map_take, List.map_drop, h5 a b ha hb hab]), h2.stay ho⟩
theorem j_rdup_ok (h : J2 w0 w gn x room Sn Sr Qn Qr nk av) (hr : room ≤ 256) (s d z : Int) (a b : Nat) (ha : a < 6) (hb : b < 6) (hab : a ≠ b) (hl : EIdx s d (eidx a b : Nat)) (i : Nat) (hz : z = i) (hi : i < (Qr (a * 6 + b)).length) (hlt : (Qr (a * 6 + b)).length < room) :
    Calls Try.prog 88 #[.pointer (some ⟨x, 0, none⟩), .int .i64 s, .int .i64 d, .int .i64 z] w fun e w' => e = .returned (.bool true) ∧ J2 w0 w' gn x room Sn Sr Qn (upq Qr (a * 6 + b) (Qr (a * 6 + b) ++ [(Qr (a * 6 + b))[i]])) nk av ∧ Stay w w' := by
  obtain ⟨Bn, q, g, lost, ms, B, M, gf, cf, nb, an, cn, ac, cc, ge, ce, gq, cq, ra, rc, pn, pc, h1, h2, h3, h4, h5, h6, h7, h8, h9⟩ := h.ex
  have hii : i < (M (eidx a b)).length := by rw [← h5 a b ha hb hab, List.length_map] at hi; exact hi
  have hll : (M (eidx a b)).length < room := by rw [← h5 a b ha hb hab, List.length_map] at hlt; exact hlt
  refine (rdup_ok s d z h2 (eidx a b) (eidx_lt a b ha hb hab) hl i hz hii hll hr).mono ?_
  rintro e w' ⟨a', c', rfl, rx, ho, hn⟩
  exact ⟨rfl, J2.closeR (Q' := Qr (a * 6 + b) ++ [(Qr (a * 6 + b))[i]]) h1 h2 h3 h4 h5 h6 h7 h8 h9 h.diag ha hb hab rx ho hn (by simp only [← h5 a b ha hb hab, List.map_append, List.getElem_map, List.map_cons, List.map_nil]), h2.stay ho⟩
theorem j_rmove_ok (h : J2 w0 w gn x room Sn Sr Qn Qr nk av) (s d z1 z2 : Int) (a b : Nat) (ha : a < 6) (hb : b < 6) (hab : a ≠ b) (hl : EIdx s d (eidx a b : Nat)) (i t : Nat) (hz1 : z1 = i) (hz2 : z2 = t) (hi : i < (Qr (a * 6 + b)).length) (ht : t < (Qr (a * 6 + b)).length) :
    Calls Try.prog 90 #[.pointer (some ⟨x, 0, none⟩), .int .i64 s, .int .i64 d, .int .i64 z1, .int .i64 z2] w fun e w' => e = .returned (.bool true) ∧ J2 w0 w' gn x room Sn Sr Qn (upq Qr (a * 6 + b) (moved (Qr (a * 6 + b)) i t (Qr (a * 6 + b))[i])) nk av ∧ Stay w w' := by
  obtain ⟨Bn, q, g, lost, ms, B, M, gf, cf, nb, an, cn, ac, cc, ge, ce, gq, cq, ra, rc, pn, pc, h1, h2, h3, h4, h5, h6, h7, h8, h9⟩ := h.ex
  have hii : i < (M (eidx a b)).length := by rw [← h5 a b ha hb hab, List.length_map] at hi; exact hi
  have htt : t < (M (eidx a b)).length := by rw [← h5 a b ha hb hab, List.length_map] at ht; exact ht
  refine (rmove_ok s d z1 z2 h2 (eidx a b) (eidx_lt a b ha hb hab) hl i t hz1 hz2 hii htt).mono ?_
  rintro e w' ⟨a', c', rfl, rx, ho, hn⟩
  exact ⟨rfl, J2.closeR (Q' := moved (Qr (a * 6 + b)) i t (Qr (a * 6 + b))[i]) h1 h2 h3 h4 h5 h6 h7 h8 h9 h.diag ha hb hab rx ho hn (by rw [moved_mapJ]; simp only [← h5 a b ha hb hab, List.getElem_map]), h2.stay ho⟩
theorem j_inject_full (h : J2 w0 w gn x room Sn Sr Qn Qr nk av) (s d : Int) (hs : Sends s) (a b : Nat) (ha : a < 6) (hb : b < 6) (hab : a ≠ b) (hl : EIdx s d (eidx a b : Nat)) (v : Option Addr) (m c : Nat) (hfull : room ≤ (Qr (a * 6 + b)).length) (hS : 0 ≤ Sr ∧ Sr ≤ 1048576) :
    Calls Try.prog 84 #[.pointer (some ⟨x, 0, none⟩), .int .i64 s, .int .i64 d, .slice v m c] w fun e w' => e = .returned (.int .i64 3) ∧ J2 w0 w' gn x room Sn (Sr + 1) Qn Qr nk av ∧ Stay w w' := by
  obtain ⟨Bn, q, g, lost, ms, B, M, gf, cf, nb, an, cn, ac, cc, ge, ce, gq, cq, ra, rc, pn, pc, h1, h2, h3, h4, h5, h6, h7, h8, h9⟩ := h.ex
  have hll : room ≤ (M (eidx a b)).length := by rw [← h5 a b ha hb hab, List.length_map] at hfull; exact hfull
  refine (rinject_full s d v m c hs h2 (eidx a b) (eidx_lt a b ha hb hab) hl hll hS).mono ?_
  rintro e w' ⟨rfl, rx, ho⟩
  have n1 := h1.ref (t := 99) ho (fun k hk => by
    have e : k = x := by simpa using hk
    rw [e]; exact ⟨_, h2.blk⟩) (by decide)
  exact ⟨rfl, ⟨⟨Bn, q, g, lost, ms, B, M, gf, cf, nb, an, cn, ac, cc, ge, ce, gq, cq, ra, rc, pn, pc, n1, rx, h3, h4, h5, h6, h7, h8, h9⟩, h.diag, rx.below⟩, Stay.ref h2.blk ho (.inr rfl)⟩
end
end Go.Proofs.Ytfhlcjfgbhmecaa
/- NetPlays: calls over no link, or that turn nothing. -/
namespace Go.Proofs.Ytfhlcjfgbhmecaa
open Go.RowKit
set_option linter.unusedVariables false
set_option maxRecDepth 100000

section
variable {w0 w w' : World} {gn x : Nat} {room Sn Sr : Int} {Qn Qr : Nat → List (List Int)} {nk : Prop} {av : Nat → Prop}
theorem j_push_none (h : J2 w0 w gn x room Sn Sr Qn Qr nk av) (s d : Int) (hl : NoLnk 6 six s d) (v : Option Addr) (m c : Nat) :
    Calls Try.prog 32 #[.pointer (some ⟨gn, 0, none⟩), .int .i64 s, .agg #[.int .i64 d, .slice v m c]] w fun e w' => e = .returned (.bool false) ∧ J2 w0 w' gn x room Sn Sr Qn Qr nk av ∧ Stay w w' := by
  obtain ⟨Bn, q, g, lost, ms, B, M, gf, cf, nb, an, cn, ac, cc, ge, ce, gq, cq, ra, rc, pn, pc, h1, h2, h3, h4, h5, h6, h7, h8, h9⟩ := h.ex
  exact (npush_none s d v m c w h1 (by omega) hl).mono fun e w' he => ⟨he.1, h.keep he.2, Stay.below he.2⟩
theorem j_len_none (h : J2 w0 w gn x room Sn Sr Qn Qr nk av) (s d : Int) (hl : NoLnk 6 six s d) :
    Calls Try.prog 34 #[.pointer (some ⟨gn, 0, none⟩), .int .i64 s, .int .i64 d] w fun e w' => e = .returned (.int .i64 0) ∧ w = w' := by
  obtain ⟨Bn, q, g, lost, ms, B, M, gf, cf, nb, an, cn, ac, cc, ge, ce, gq, cq, ra, rc, pn, pc, h1, h2, h3, h4, h5, h6, h7, h8, h9⟩ := h.ex
  exact nlen_none s d w h1 (by omega) hl
theorem j_take_none (h : J2 w0 w gn x room Sn Sr Qn Qr nk av) (s d : Int) (i : Int) (hl : NoLnk 6 six s d) :
    Calls Try.prog 38 #[.pointer (some ⟨gn, 0, none⟩), .int .i64 s, .int .i64 d, .int .i64 i] w fun e w' => e = .returned (.tuple #[.slice none 0 0, .bool false]) ∧ w = w' := by
  obtain ⟨Bn, q, g, lost, ms, B, M, gf, cf, nb, an, cn, ac, cc, ge, ce, gq, cq, ra, rc, pn, pc, h1, h2, h3, h4, h5, h6, h7, h8, h9⟩ := h.ex
  exact ntake_none s d i w h1 (by omega) hl
theorem j_peek_none (h : J2 w0 w gn x room Sn Sr Qn Qr nk av) (s d : Int) (i : Int) (hl : NoLnk 6 six s d) :
    Calls Try.prog 33 #[.pointer (some ⟨gn, 0, none⟩), .int .i64 s, .int .i64 d, .int .i64 i] w fun e w' => e = .returned (.tuple #[.slice none 0 0, .bool false]) ∧ w = w' := by
  obtain ⟨Bn, q, g, lost, ms, B, M, gf, cf, nb, an, cn, ac, cc, ge, ce, gq, cq, ra, rc, pn, pc, h1, h2, h3, h4, h5, h6, h7, h8, h9⟩ := h.ex
  exact npeek_none s d i w h1 (by omega) hl
theorem j_dup_none (h : J2 w0 w gn x room Sn Sr Qn Qr nk av) (s d : Int) (i : Int) (hl : NoLnk 6 six s d) :
    Calls Try.prog 87 #[.pointer (some ⟨gn, 0, none⟩), .int .i64 s, .int .i64 d, .int .i64 i] w fun e w' => e = .returned (.bool false) ∧ w = w' := by
  obtain ⟨Bn, q, g, lost, ms, B, M, gf, cf, nb, an, cn, ac, cc, ge, ce, gq, cq, ra, rc, pn, pc, h1, h2, h3, h4, h5, h6, h7, h8, h9⟩ := h.ex
  exact ndup_none s d i w h1 (by omega) hl
theorem j_move_none (h : J2 w0 w gn x room Sn Sr Qn Qr nk av) (s d : Int) (i t : Int) (hl : NoLnk 6 six s d) :
    Calls Try.prog 89 #[.pointer (some ⟨gn, 0, none⟩), .int .i64 s, .int .i64 d, .int .i64 i, .int .i64 t] w fun e w' => e = .returned (.bool false) ∧ w = w' := by
  obtain ⟨Bn, q, g, lost, ms, B, M, gf, cf, nb, an, cn, ac, cc, ge, ce, gq, cq, ra, rc, pn, pc, h1, h2, h3, h4, h5, h6, h7, h8, h9⟩ := h.ex
  exact nmove_none s d i t w h1 (by omega) hl
theorem j_rlen_none (h : J2 w0 w gn x room Sn Sr Qn Qr nk av) (s d : Int) (hl : EIdx s d (-1)) :
    Calls Try.prog 91 #[.pointer (some ⟨x, 0, none⟩), .int .i64 s, .int .i64 d] w fun e w' => e = .returned (.int .i64 0) ∧ w = w' := by
  obtain ⟨Bn, q, g, lost, ms, B, M, gf, cf, nb, an, cn, ac, cc, ge, ce, gq, cq, ra, rc, pn, pc, h1, h2, h3, h4, h5, h6, h7, h8, h9⟩ := h.ex
  exact rlen_none s d h2 hl
theorem j_rlink_none (h : J2 w0 w gn x room Sn Sr Qn Qr nk av) (s d : Int) (hl : EIdx s d (-1)) :
    Calls Try.prog 86 #[.pointer (some ⟨x, 0, none⟩), .int .i64 s, .int .i64 d] w fun e w' => e = .returned (.int .i64 (-1)) ∧ w = w' := by
  obtain ⟨Bn, q, g, lost, ms, B, M, gf, cf, nb, an, cn, ac, cc, ge, ce, gq, cq, ra, rc, pn, pc, h1, h2, h3, h4, h5, h6, h7, h8, h9⟩ := h.ex
  exact rlink_c s d (-1) h2 hl
theorem j_rdrop_none (h : J2 w0 w gn x room Sn Sr Qn Qr nk av) (s d : Int) (i : Int) (hl : EIdx s d (-1)) :
    Calls Try.prog 85 #[.pointer (some ⟨x, 0, none⟩), .int .i64 s, .int .i64 d, .int .i64 i] w fun e w' => e = .returned (.tuple #[.slice none 0 0, .bool false]) ∧ w = w' := by
  obtain ⟨Bn, q, g, lost, ms, B, M, gf, cf, nb, an, cn, ac, cc, ge, ce, gq, cq, ra, rc, pn, pc, h1, h2, h3, h4, h5, h6, h7, h8, h9⟩ := h.ex
  exact rdrop_none s d i h2 hl
theorem j_rmove_none (h : J2 w0 w gn x room Sn Sr Qn Qr nk av) (s d : Int) (i t : Int) (hl : EIdx s d (-1)) :
    Calls Try.prog 90 #[.pointer (some ⟨x, 0, none⟩), .int .i64 s, .int .i64 d, .int .i64 i, .int .i64 t] w fun e w' => e = .returned (.bool false) ∧ w = w' := by
  obtain ⟨Bn, q, g, lost, ms, B, M, gf, cf, nb, an, cn, ac, cc, ge, ce, gq, cq, ra, rc, pn, pc, h1, h2, h3, h4, h5, h6, h7, h8, h9⟩ := h.ex
  exact rmove_none s d i t h2 hl
theorem j_rdup_none (h : J2 w0 w gn x room Sn Sr Qn Qr nk av) (s d : Int) (i : Int) (hl : EIdx s d (-1)) :
    Calls Try.prog 88 #[.pointer (some ⟨x, 0, none⟩), .int .i64 s, .int .i64 d, .int .i64 i] w fun e w' => e = .returned (.bool false) ∧ J2 w0 w' gn x room Sn Sr Qn Qr nk av ∧ Stay w w' := by
  obtain ⟨Bn, q, g, lost, ms, B, M, gf, cf, nb, an, cn, ac, cc, ge, ce, gq, cq, ra, rc, pn, pc, h1, h2, h3, h4, h5, h6, h7, h8, h9⟩ := h.ex
  exact (rdup_none s d i h2 hl).mono fun e w' he => ⟨he.1, by obtain ⟨j, rfl⟩ := he.2; exact ⟨h.keep (below_drewN (Below.refl _ _) j), Stay.below (below_drewN (Below.refl _ _) j)⟩⟩
theorem j_rinject_none (h : J2 w0 w gn x room Sn Sr Qn Qr nk av) (s d : Int) (hs : Sends s) (v : Option Addr) (m c : Nat) (hl : EIdx s d (-1)) :
    Calls Try.prog 84 #[.pointer (some ⟨x, 0, none⟩), .int .i64 s, .int .i64 d, .slice v m c] w fun e w' => e = .returned (.int .i64 4) ∧ w = w' := by
  obtain ⟨Bn, q, g, lost, ms, B, M, gf, cf, nb, an, cn, ac, cc, ge, ce, gq, cq, ra, rc, pn, pc, h1, h2, h3, h4, h5, h6, h7, h8, h9⟩ := h.ex
  exact rinject_none s d v m c hs h2 hl
end
end Go.Proofs.Ytfhlcjfgbhmecaa
