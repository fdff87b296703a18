/- The law's act, whichever; its look over all. -/
import Derived.Test.YtjdcjofogmplcaaLinkO
import Derived.Test.YtjdcjofogmplcaaLinkOm
import Derived.Test.YtjdcjofogmplcaaLinkOt
import Derived.Test.YtjdcjofogmplcaaLinkOk
import Derived.Test.YtjdcjofogmplcaaLinkOp0
import Derived.Test.YtjdcjofogmplcaaLinkOp1
import Derived.Test.YtjdcjofogmplcaaLinkOp2
namespace Go.Proofs.Ytjdcjofogmplcaa
open Go.RowKit
set_option linter.unusedVariables false

theorem do_c7 (w0 w : World) (q g p h : Nat) (room lost : Int) (L : List (List Int)) (d k t : Int) (R : Byt) (T : Two w0 w q g p h room lost L) (hr : 1 ≤ room ∧ room ≤ 256) (hx : I64 d) (hk : I64 k) (ht : I64 t) (hRi : R.Is w0) (hlo : 0 ≤ lost ∧ lost ≤ 1048500) (hl : L.length ≤ 256) :
    Calls Try.prog 44 #[.pointer (some ⟨q, 0, none⟩), .pointer (some ⟨p, 0, none⟩), .agg #[.int .i64 d, .int .i64 k, .int .i64 t, .slice R.a R.xs.length R.c]] w (fun e w' => ∃ lost' L', L'.length ≤ 256 ∧ lost ≤ lost' ∧ lost' ≤ lost + 1 ∧ DoPost w0 w q g p h room lost' L' e w') := by
  have h1 := Int.emod_nonneg d (show (7 : Int) ≠ 0 by omega)
  have h2 := Int.emod_lt_of_pos d (show (0 : Int) < 7 by omega)
  rcases (show d % 7 = 0 ∨ d % 7 = 1 ∨ d % 7 = 2 ∨ d % 7 = 3 ∨ d % 7 = 4 ∨ d % 7 = 5 ∨ d % 7 = 6 by omega) with h | h | h | h | h | h | h
  · exact do_push0 w0 w q g p _ room lost L d k t R T hr hx hk ht hRi hlo hl h
  · exact do_push1 w0 w q g p _ room lost L d k t R T hr hx hk ht hRi hlo hl h
  · exact do_push2 w0 w q g p _ room lost L d k t R T hr hx hk ht hRi hlo hl h
  · exact do_take w0 w q g p _ room lost L d k t R T hr hx hk ht hl h
  · exact do_peek w0 w q g p _ room lost L d k t R T hr hx hk ht hl h
  · refine (do_dup w0 w q g p _ room lost L d k t R T hr hx hk hl h).mono ?_
    rintro e w' ⟨L', h3, h4⟩
    exact ⟨lost, L', h3, Int.le_refl _, by omega, h4⟩
  · exact do_move w0 w q g p _ room lost L d k t R T hr hx hk ht hl h

set_option maxHeartbeats 1600000 in
theorem all_c (w0 w : World) (q g p h : Nat) (room lost : Int) (L : List (List Int)) (T : Two w0 w q g p h room lost L) (hl : L.length ≤ 256) :
    Calls Try.prog 45 #[.pointer (some ⟨q, 0, none⟩), .pointer (some ⟨p, 0, none⟩)] w fun e w' => e = .returned (.bool true) ∧ Below w.heap.size w w' := by
  obtain ⟨ms, hq, hms⟩ := T.que
  obtain ⟨ps, hpl, hps⟩ := T.pl
  have hpn : ps.length = L.length := by rw [← hps]; simp
  have hmn : ms.length = L.length := by rw [← hms]; simp
  obtain ⟨A, C, c0, c1, c2, hrow, hcap, hmax⟩ := hpl.row
  rw [hpn] at c2 hrow hcap
  obtain ⟨n, hn⟩ : ∃ n, n = L.length := ⟨_, rfl⟩
  rw [← hn] at c2 hrow hcap hl hpn hmn
  have HQ := Lib.hid hq
  have HP := Lib.hid hpl
  have HMS := Lib.hid hms
  have HPS := Lib.hid hps
  have HPN := Lib.hid hpn
  have HMN := Lib.hid hmn
  have HR := Lib.hid hrow
  have W0 := Lib.hid T.b
  clear T hpl hps hq hms hrow hmax hpn hmn hn c0 c1 hcap
  go_enter Try.func45, Try.ntmps45
  go_wp2_with fail
  go_loopw [13] (fun i wr => ∃ k : Nat, k ≤ n ∧ i = .int .i64 k ∧ Below w.heap.size w wr) (fun i _ => n - (intOf i).toNat)
  case atStart => exact ⟨0, by omega, rfl, Below.refl _ _⟩
  case round =>
    obtain ⟨k, hk, rfl, hb⟩ := hrel
    by_cases hlt : k < n
    · have i0 : (0 : Int) ≤ k := by omega
      have i1 : (k : Int) < n := by omega
      have hkp : k < ps.length := by rw [HPN.out]; exact hlt
      have hkm : k < ms.length := by rw [HMN.out]; exact hlt
      obtain ⟨a', c', e', -, -, hv', h50⟩ := HP.out.old _ (List.getElem_mem hkp)
      obtain ⟨b', off, rfl, hlt', hcell⟩ := HR.out.2 (by omega)
      have r4 : w.cell? ⟨b', off + k, none⟩ = some (.slice a' (ps[k]'hkp).2.length c') := by
        have := hcell k (ps[k]'hkp).1 (by simp [hkp])
        rw [e'] at this
        exact this
      have hbm := nth_same HMS.out HPS.out k hkm hkp
      obtain ⟨bs, hbs⟩ : ∃ bs, bs = (ps[k]'hkp).2 := ⟨_, rfl⟩
      rw [← hbs] at r4 h50 hv' hbm
      have HV := Lib.hid hv'
      have HBM := Lib.hid hbm
      have HB := Lib.hid hb
      clear hv' hcell hbs e' hbm hb
      go_wp2_with fail
      refine (peek_ok q g room lost ms k _ (HQ.out.below HB.out) hkm).mono ?_
      rintro e w4 ⟨v4, rfl, htx, hb4⟩
      have B4 := Lib.hid (HB.out.trans (hb4.mono HB.out.size))
      rw [← HBM.out] at htx
      obtain ⟨av, cv, rfl, hown⟩ := htx
      have VB := Lib.hid (own_vrow hown)
      have q2 := kept B4.out _ _ c2
      have q4 := kept B4.out _ _ r4
      clear hown hb4
      go_wp2_with fail
      refine (same_byte_c _ _ _ _ _ _ bs _ VB.out (HV.out.below (W0.out.trans (B4.out.mono W0.out.size))) (by omega)).mono ?_
      rintro e w5 ⟨rfl, hb5⟩
      have B5 := Lib.hid (B4.out.trans (hb5.mono B4.out.size))
      clear hb5 q2 q4
      go_wp2_with fail
      go_roundw
      case rel => exact ⟨k + 1, by omega, by go_num, B5.out⟩
      case measure => simp [intOf]; omega
    · have hkn : k = n := by omega
      subst hkn
      have q2 := kept hb _ _ c2
      have HQ9 := Lib.hid (HQ.out.below hb)
      have HB := Lib.hid hb
      clear hb
      go_wp2_with fail
      go_quiet ((go_at_call 34; exact Calls.quiet_of_same ((lq_len_c q g room lost ms _ (HQ9.out.drewN _) k HMN.out).mono fun _ _ e => ⟨e.1, e.2.symm⟩)))
      go_wp2_with fail
      go_ret
      exact ⟨rfl, below_drewN HB.out _⟩
/-- The plain one at its beginning. -/
theorem two_new {w0 w : World} {q : Nat} {room : Int} (hq : Que w q q room 0 []) (hb : Below w0.heap.size w0 w) (h0 : w0.heap.size ≤ q) :
    Two w0 (w.alloc (.cells #[.int .i64 room, .int .i64 0, .slice none 0 0] 79)) q q w.heap.size w.heap.size room 0 [] := by
  have hlt := hq.lt
  refine ⟨⟨[], hq.alloc _, rfl⟩, ⟨[], ⟨⟨none, 0, Blk.new _ _ _, ⟨rfl, .inl ⟨rfl, rfl⟩⟩, .inl ⟨rfl, rfl⟩⟩, by simp⟩, rfl⟩, by omega, hb.alloc hb.size _, h0, h0, hb.size, hb.size⟩
end Go.Proofs.Ytjdcjofogmplcaa
