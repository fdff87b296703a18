/- RcJ, PlP. -/
import Derived.Test.YtfhlcjfgbhmecaaZRcI
import Derived.Test.YtfhlcjfgbhmecaaZNetLo
/- The reference's cluster behind NewCluster, with its faulty parties: at play; the law's parties. -/
namespace Go.Proofs.Ytfhlcjfgbhmecaa
open Go.RowKit
set_option linter.unusedVariables false
set_option maxRecDepth 100000

theorem CX.rx {w0 w w5 : World} {x gc nb : Nat} {room : Int} {an ac ae aq : Option Addr} {cn cc ce cq : Nat} {pn pc : Nat → Nat} {gf : Nat} {cs : Array Value} {B : Nat} (hB : w0.heap.size ≤ B)
    (h : CX B w x gc nb room 4 2 30 30 an cn ac cc ae ce aq cq pn pc) (h0 : Below w0.heap.size w0 w) (hb : Below w.heap.size w w5) (hf : Blk w5 gf 3 cs) (hv : VRow w5 (some ⟨gf, 0, none⟩) 8 1 (pints eight)) :
    ∃ ge gq, RX w0 (w5.setCell ⟨x, 15, none⟩ (.slice (some ⟨gf, 0, none⟩) 8 8)) B x room 0 (fun _ => []) gf 8 nb an cn ac cc ge ce gq cq (fun _ => none) (fun _ => 0) pn pc True := by
  have h5 := h.below hb
  obtain ⟨ge, rfl⟩ : ∃ g, ae = some ⟨g, 0, none⟩ := by
    rcases own_addr h.erow with ⟨_, h1, _⟩ | h1
    · omega
    · exact h1
  obtain ⟨gq, rfl⟩ : ∃ g, aq = some ⟨g, 0, none⟩ := by
    rcases own_addr h.qrow with ⟨_, h1, _⟩ | h1
    · omega
    · exact h1
  have o9 : Only [x] w5 (w5.setCell ⟨x, 15, none⟩ (.slice (some ⟨gf, 0, none⟩) 8 8)) := (Only.refl _ _).setCell (.inl (by simp)) _
  have T := Turn2.only o9 (fun j hj => by
    have e : j = x := by simpa using hj
    rw [e]; exact ⟨_, h5.blk⟩)
  have b5 := h0.trans (hb.mono h0.size)
  refine ⟨ge, gq, h5.blk.set_ 15 _, T.blk h5.notary (by decide) (by decide), T.row h5.nrow (by decide) (by decide), fun _ k hk => (h5.nodes k hk).turn T (by decide) (by decide), T.row h5.crow (by decide) (by decide), fun _ k hk => (h5.cls k hk).turn T (by decide) (by decide), ?_, ⟨cs, T.blk hf (by decide) (by decide)⟩, own_base_le (T.row h5.erow (by decide) (by decide)) (Nat.zero_le _), ?_, fun k hk => ⟨rfl, .inl ⟨rfl, rfl⟩⟩, fun k hk m hm => absurd hm (by simp), fun k hk => by simp, o9.below b5 b5.size (by simp; exact Nat.le_trans hB h.ge.1), ⟨Nat.le_trans hB h.ge.1, hB, h.ge.1⟩⟩
  · refine hv.only o9 fun b hbb hm => ?_
    simp only [Option.map_some, Option.some.injEq] at hbb
    exact hf.ne_ h5.blk (by decide) (by rw [hbb]; simpa using hm)
  · have e : (List.range 30).map (fun k => Value.slice none ([] : List (Value × List Int)).length 0) = List.replicate 30 (.slice none 0 0) := by rfl
    rw [e]
    exact T.row h5.qrow (by decide) (by decide)
/-- The law's party of a number. -/
def prt (n : Int) : Int := if n % 8 < 5 then n % 8 else 95 + n % 8
theorem party_c (n : Int) (hn : I64 n) (w : World) : Calls Try.prog 82 #[.int .i64 n] w fun e w' => e = .returned (.int .i64 (prt n)) ∧ w = w' := by
  go_enter Try.func82, Try.ntmps82
  go_wp2_with fail
  refine (within_q n 8 _ hn (by omega) (by omega)).mono ?_; rintro e w' ⟨q, rfl, hq, q0, q8, rfl⟩
  have HQ := Lib.hid hq
  by_cases h5 : q < 5
  · have e1 : prt n = q := by unfold prt; rw [← hq.out, if_pos h5]
    have E1 := Lib.hid e1
    clear hq e1
    go_wp2_with fail
    go_ret
    exact ⟨by rw [E1.out]; rfl, by first | rfl | trivial⟩
  · have e1 : prt n = 95 + q := by unfold prt; rw [← hq.out, if_neg h5]
    have E1 := Lib.hid e1
    have e2 : IntKind.i64.wrap (100 + q) = 100 + q := IntWalk.i64_in _ (by omega)
    have e3 : IntKind.i64.wrap (100 + q - 5) = 100 + q - 5 := IntWalk.i64_in _ (by omega)
    have e4 : 100 + q - 5 = 95 + q := by omega
    have E4 := Lib.hid e4
    clear hq e4 e1
    go_wp2_with fail
    go_ret
    exact ⟨by rw [E1.out]; first | rfl | (rw [← E4.out]; rfl), by first | rfl | trivial⟩
end Go.Proofs.Ytfhlcjfgbhmecaa
/- NetPlays: the law's parties and their links: plain. -/
namespace Go.Proofs.Ytfhlcjfgbhmecaa
open Go.RowKit
set_option linter.unusedVariables false
set_option maxRecDepth 100000

theorem prt_mem (n : Int) : prt n ∈ eight := by
  unfold prt
  have h1 := Int.emod_nonneg n (show (8 : Int) ≠ 0 by omega)
  have h2 := Int.emod_lt_of_pos n (show (0 : Int) < 8 by omega)
  obtain ⟨m, hm⟩ := Int.eq_ofNat_of_zero_le h1
  rw [hm]
  have h3 : m < 8 := by omega
  match m, h3 with
  | 0, _ | 1, _ | 2, _ | 3, _ | 4, _ | 5, _ | 6, _ | 7, _ => decide
theorem sends_all : ∀ s ∈ eight, ∃ i, i < 8 ∧ eight[i]? = some s ∧ ∀ j, j < i → eight[j]? ≠ some s := by decide
theorem sends_of {s : Int} (h : s ∈ eight) : Sends s := by
  obtain ⟨i, _, h1, h2⟩ := sends_all s h
  exact ⟨i, h1, h2⟩
/-- The place of a party among the six; 6: none. -/
def plc (s : Int) : Nat := six.idxOf s
theorem plc_at : ∀ s ∈ eight, if plc s < 6 then six[plc s]? = some s ∧ ∀ m, m < plc s → six[m]? ≠ some s else ∀ m, m < 6 → six[m]? ≠ some s := by decide
theorem plc_ends : ∀ s ∈ eight, ∀ d ∈ eight, if plc s < 6 ∧ plc d < 6 ∧ plc s ≠ plc d then (ends 30).getD (eidx (plc s) (plc d)) (0, 0) = (s, d) ∧ ∀ j, j < eidx (plc s) (plc d) → (ends 30).getD j (0, 0) ≠ (s, d) else ∀ j, j < 30 → (ends 30).getD j (0, 0) ≠ (s, d) := by decide +kernel
theorem eidx_lt (a b : Nat) (h : a < 6) (h2 : b < 6) (hab : a ≠ b) : eidx a b < 30 := by unfold eidx; split <;> omega
/-- Whether there is a link, in the net and in the reference. -/
theorem link_or (s d : Int) (hs : s ∈ eight) (hd : d ∈ eight) :
    (∃ a b : Nat, a < 6 ∧ b < 6 ∧ a ≠ b ∧ Lnk 6 six s d (a * 6 + b) ∧ EIdx s d (eidx a b : Nat)) ∨ (NoLnk 6 six s d ∧ EIdx s d (-1)) := by
  have p1 := plc_at s hs
  have p2 := plc_at d hd
  have p3 := plc_ends s hs d hd
  by_cases h1 : plc s < 6
  · rw [if_pos h1] at p1
    by_cases h2 : plc d < 6
    · rw [if_pos h2] at p2
      by_cases h3 : plc s = plc d
      · rw [if_neg (fun h => h.2.2 h3)] at p3
        exact .inr ⟨⟨plc s, plc d, .inl ⟨_, rfl, p1.1, p1.2⟩, .inl ⟨_, rfl, p2.1, p2.2⟩, .inr (.inr (by rw [h3]))⟩, .inr ⟨rfl, p3⟩⟩
      · rw [if_pos ⟨h1, h2, h3⟩] at p3
        exact .inl ⟨plc s, plc d, h1, h2, h3, ⟨plc s, plc d, ⟨h1, p1.1, p1.2⟩, ⟨h2, p2.1, p2.2⟩, h3, rfl⟩, .inl ⟨_, eidx_lt _ _ h1 h2 h3, rfl, p3.1, p3.2⟩⟩
    · rw [if_neg h2] at p2
      rw [if_neg (fun h => h2 h.2.1)] at p3
      exact .inr ⟨⟨plc s, -1, .inl ⟨_, rfl, p1.1, p1.2⟩, .inr ⟨rfl, p2⟩, .inr (.inl rfl)⟩, .inr ⟨rfl, p3⟩⟩
  · rw [if_neg h1] at p1
    rw [if_neg (fun h => h1 h.1)] at p3
    by_cases h2 : plc d < 6
    · rw [if_pos h2] at p2
      exact .inr ⟨⟨-1, plc d, .inr ⟨rfl, p1⟩, .inl ⟨_, rfl, p2.1, p2.2⟩, .inl rfl⟩, .inr ⟨rfl, p3⟩⟩
    · rw [if_neg h2] at p2
      exact .inr ⟨⟨-1, -1, .inr ⟨rfl, p1⟩, .inr ⟨rfl, p2⟩, .inl rfl⟩, .inr ⟨rfl, p3⟩⟩
theorem ends_at : ∀ a, a < 6 → ∀ b, b < 6 → a ≠ b → (ends 30).getD (eidx a b) (0, 0) = (six.getD a 0, six.getD b 0) := by decide
/-- The links told by the net and by the reference are alike where their queues are. -/
theorem links_alike (M ms : Nat → List (Value × List Int)) (h : ∀ a b, a < 6 → b < 6 → a ≠ b → (M (eidx a b)).length = (ms (a * 6 + b)).length) (hd : ∀ a, a < 6 → (ms (a * 6 + a)).length = 0) :
    ∀ a, a ≤ 6 → rlksTo M (a * 5) = lksTo 6 six ms (a * 6) := by
  intro a
  induction a with
  | zero => intro _; rfl
  | succ a ih =>
    intro ha
    have key : ∀ b, b ≤ 6 → rlksTo M (eidx a b) = lksTo 6 six ms (a * 6 + b) := by
      intro b
      induction b with
      | zero => intro _; rw [eidx_zero, Nat.add_zero]; exact ih (by omega)
      | succ b ihb =>
        intro hb
        have e0 := ihb (by omega)
        rw [← Nat.add_assoc, lksTo_succ]
        by_cases hab : a = b
        · subst hab
          rw [eidx_self, hd a (by omega), if_neg (by omega)]
          exact e0
        · rw [eidx_next a b hab, rlksTo_succ, h a b (by omega) (by omega) hab, e0]
          have e1 := ends_succ a (by omega) b (by omega) hab
          have e2 : (ends 30).getD (eidx a b) (0, 0) = (six.getD ((a * 6 + b) / 6) 0, six.getD ((a * 6 + b) % 6) 0) := by
            rw [show (a * 6 + b) / 6 = a by omega, show (a * 6 + b) % 6 = b by omega]
            have := ends_at a (by omega) b (by omega) hab
            exact this
          rw [e2]
    have := key 6 (by omega)
    rw [eidx_end a (by omega)] at this
    rw [this, Nat.succ_mul]
end Go.Proofs.Ytfhlcjfgbhmecaa
