/- choose.Batches: what it makes is the call's own. -/
import Derived.Test.YtpkifmophmjilaaChooseS
import Derived.Test.YtpkifmophmjilaaCopyC
namespace Go.Proofs.Ytpkifmophmjilaa
open Go.RowKit
set_option linter.unusedVariables false

/-- It reads, and lies among requests. -/
structure BOwn (w : World) (b : BD) : Prop where
  row : RqRow w b.a b.n b.c b.bs
  off : ∀ p, b.a = some p → 0 < b.n → ∃ cs, Blk w p.block 40 cs
theorem BOwn.below {w w' : World} {b : BD} (h : BOwn w b) (hb : Below w.heap.size w w') : BOwn w' b :=
  ⟨h.row.below hb, fun p hp h0 => by obtain ⟨cs, k⟩ := h.off p hp h0; exact ⟨cs, k.below hb k.lt⟩⟩
theorem BOwn.only {w w' : World} {b : BD} {S : List Nat} (h : BOwn w b) (hS : Only S w w') (ht : ∀ g ∈ S, ∀ cs t, Blk w g t cs → t ≠ 40) : BOwn w' b := by
  have key : ∀ p, b.a = some p → 0 < b.n → p.block ∉ S := fun p hp h0 hm => by
    obtain ⟨cs, k⟩ := h.off p hp h0
    exact ht _ hm cs _ k rfl
  exact ⟨h.row.only hS key, fun p hp h0 => by obtain ⟨cs, k⟩ := h.off p hp h0; exact ⟨cs, k.only hS (key p hp h0)⟩⟩
theorem BOwn.own {w w' : World} {b : BD} {a : Option Addr} {base n c : Nat} {xs : List Value} (h : BOwn w b) (ho : w.ownsRow base 24 1 (.slice a n c) n xs) (hS : Only (a.map (·.block)).toList w w') : BOwn w' b :=
  h.only hS fun g hg cs t k => (odd_row ho (t1 := 40) (t2 := 40) (by decide) (by decide) g hg cs t k).1
theorem BOwn.to {w0 w : World} {b : BD} (h : BOwn w b) : BIs w0 w b := ⟨h.row, fun p hp h0 => .inr (h.off p hp h0)⟩
structure BatsO (B : Nat) (w : World) (a : Option Addr) (n c : Nat) (l : List (List Rq)) : Prop where
  ex : ∃ bds : List BD, w.ownsRow B 24 1 (.slice a n c) n (bds.map bval) ∧ (∀ b ∈ bds, BOwn w b) ∧ bds.map (·.bs) = l
  len : l.length = n
section
variable {B : Nat} {w w' : World} {a : Option Addr} {n c : Nat} {l : List (List Rq)} {S : List Nat}
theorem BatsO.to (h : BatsO B w a n c l) (w0 : World) : Bats w0 w a n c l := by
  obtain ⟨bds, h1, h2, h3⟩ := h.ex
  exact ⟨⟨bds, own_vrow h1, fun b m => (h2 b m).to, h3⟩, h.len, own_cap h1, own_max h1⟩
theorem BatsO.below (h : BatsO B w a n c l) (hb : Below w.heap.size w w') : BatsO B w' a n c l := by
  obtain ⟨bds, h1, h2, h3⟩ := h.ex
  exact ⟨⟨bds, own_below h1 hb, fun b m => (h2 b m).below hb, h3⟩, h.len⟩
theorem BatsO.only (h : BatsO B w a n c l) (hS : Only S w w') (ht : Odd S w 40 24) : BatsO B w' a n c l := by
  obtain ⟨bds, h1, h2, h3⟩ := h.ex
  exact ⟨⟨bds, own_odd h1 hS fun g hg cs t k => (ht g hg cs t k).2, fun b m => (h2 b m).only hS fun g hg cs t k => (ht g hg cs t k).1, h3⟩, h.len⟩
end

set_option maxRecDepth 100000 in
set_option maxHeartbeats 6400000 in
theorem batches_o (inst : Int) (a : Option Addr) (n c : Nat) (ps : List PD) (w : World) (h : Parts w a n c ps) (hs : Small n ps) (hi : I64 inst) (l : List (List Rq)) (hl : batches inst ps = l) (m : Nat) (hm : l.length = m) :
    Calls Try.prog 17 #[.int .i64 inst, .slice a n c] w fun e w' => ∃ a' c', e = .returned (.slice a' m c') ∧ BatsO w.heap.size w' a' m c' l ∧ Below w.heap.size w w' := by
  obtain ⟨ti, hi0, hz0, hz1, hz2⟩ := info_parts info_batch
  obtain ⟨gr, hgr⟩ : ∃ gr : Nat, greatest inst ps = gr := ⟨(greatest inst ps).toNat, by have := (greatest_le inst ps).1; omega⟩
  have gr16 : gr ≤ 16 := by have := (greatest_le inst ps).2; omega
  have hmg : m = gr := by rw [← hm, ← hl, batches_len, hgr]; simp
  subst hmg
  have H := Lib.hid h
  have S := Lib.hid hs
  have G := Lib.hid hgr
  have HL := Lib.hid hl
  have HM := Lib.hid hm
  have TK : Hid (∀ k, k < m → l.take (k + 1) = l.take k ++ [batchOf inst ((k : Int) + 1) ps]) := Lib.hid fun k hk => by rw [← hl]; exact batches_take inst ps k (by rw [hgr]; simpa using hk)
  have SMB : Hid (∀ k, (bestC (best inst ((k : Int) + 1) ps)).bn ≤ 4096) := Lib.hid fun k => by
    cases hb : best inst ((k : Int) + 1) ps with
    | none => exact Nat.zero_le _
    | some b =>
      obtain ⟨p, hp, hbp⟩ := List.mem_flatMap.1 (best_mem hb).1
      exact (hs.b p hp b hbp).1
  clear h hs hgr hl hm
  go_enter Try.func17, Try.ntmps17
  go_wp2_with fail
  go_loopw [5, 6] (fun o i wr => ∃ k : Nat, k ≤ m ∧ i = .int .i64 ((k : Int) + 1) ∧ ∃ (bds : List BD) (a1 : Option Addr) (c1 : Nat), o = .slice a1 k c1 ∧ wr.ownsRow w.heap.size 24 1 (.slice a1 k c1) k (bds.map bval) ∧ (∀ b ∈ bds, BOwn wr b) ∧ bds.map (·.bs) = l.take k ∧ Below w.heap.size w wr) (fun _ i _ => 100 - (intOf i).toNat)
  case atStart => exact ⟨0, by omega, rfl, [], none, 0, rfl, ⟨rfl, .inl ⟨rfl, rfl⟩⟩, by simp, by simp, Below.refl _ _⟩
  case round =>
    obtain ⟨k, hk, rfl, bds, a1, c1, rfl, hO, hBI, hbs, hb⟩ := hrel
    have O := Lib.hid hO
    have BI := Lib.hid hBI
    have BS := Lib.hid hbs
    have B := Lib.hid hb
    clear hO hBI hbs hb
    have hi1 : I64 ((k : Int) + 1) := ⟨by omega, by omega⟩
    go_wp2_with fail
    refine (greatest_c inst a n c ps _ (H.out.below B.out) S.out hi m G.out).mono ?_; rintro e w1 ⟨rfl, hb1⟩
    have O1 := Lib.hid (own_below O.out hb1)
    have BI1 := Lib.hid (fun b hbm => (BI.out b hbm).below hb1)
    have B1 := Lib.hid (B.out.trans (hb1.mono B.out.size))
    clear hb1 O BI B
    by_cases hlt : k < m
    · have i1 : (k : Int) + 1 ≤ m := by omega
      go_wp2_with fail
      refine (best_c inst ((k : Int) + 1) a n c ps _ (H.out.below B1.out) S.out hi hi1 _ rfl _ rfl).mono ?_; rintro e w2 ⟨d, rfl, hd, hlike, hown, hb2⟩
      have O2 := Lib.hid (own_below O1.out hb2)
      have BI2 := Lib.hid (fun b hbm => (BI1.out b hbm).below hb2)
      have B2 := Lib.hid (B1.out.trans (hb2.mono B1.out.size))
      have DB := Lib.hid hlike.bs
      have DN := Lib.hid hlike.bn
      have DR := Lib.hid hd.b
      have DO := Lib.hid hown
      obtain ⟨⟨dv, di, ds, dba, dbn, dbc, dbs, dva, dvn, dvc, dvs⟩, hde⟩ : ∃ x, x = d := ⟨_, rfl⟩
      obtain ⟨isb, hisb⟩ : ∃ z, z = (best inst ((k : Int) + 1) ps).isSome := ⟨_, rfl⟩
      rw [← hde] at DB DN DR DO ⊢
      rw [← hisb]
      simp only at DB DN DR DO
      have hbn4 : dbn ≤ 4096 := by rw [DN.out]; exact SMB.out k
      simp only [ccell]
      clear hd hlike hown hb2 hde hisb O1 BI1 B1
      go_upto_region 6 with fail
      obtain ⟨w3, hw3⟩ : ∃ w3, w3 = w2.alloc (.cells #[.int .i64 dv, .int .i64 di, .int .i64 ds, .slice dba dbn dbc, .slice dva dvn dvc] 36) := ⟨_, rfl⟩
      obtain ⟨g3, hg3⟩ : ∃ g3, g3 = w2.heap.size := ⟨_, rfl⟩
      rw [← hw3, ← hg3]
      have b3 : Below w2.heap.size w2 w3 := by rw [hw3]; exact (Below.refl _ _).alloc (Nat.le_refl _) _
      have q3 : w3.cell? ⟨g3, 3, none⟩ = some (.slice dba dbn dbc) := by rw [hw3, hg3]; exact (Blk.new w2 _ _).cell 3
      have O3 := Lib.hid (own_below O2.out b3)
      have BI3 := Lib.hid (fun b hbm => (BI2.out b hbm).below b3)
      have B3 := Lib.hid (B2.out.trans (b3.mono B2.out.size))
      have DR3 := Lib.hid (DR.out.below b3)
      have DO3 := Lib.hid (own_below DO.out b3)
      have b4 := (Below.refl w3.heap.size w3).alloc (Nat.le_refl _) (.cells #[.slice dba dbn dbc] 24)
      have O4 := Lib.hid (own_below O3.out b4)
      have B4 := Lib.hid (B3.out.trans (b4.mono B3.out.size))
      have V4 : Hid (VRow (w3.alloc (.cells #[.slice dba dbn dbc] 24)) (some ⟨w3.heap.size, 0, none⟩) 1 1 [.slice dba dbn dbc]) := Lib.hid (own_one _ _ _)
      have BI4 : Hid (∀ b ∈ bds, BOwn (w3.alloc (.cells #[.slice dba dbn dbc] 24)) b) := Lib.hid (fun b hbm => (BI3.out b hbm).below b4)
      have NEW4 : Hid (BOwn (w3.alloc (.cells #[.slice dba dbn dbc] 24)) ⟨dba, dbn, dbc, dbs⟩) := Lib.hid ⟨DR3.out.below b4, fun p hp h0 => (by
        have hp' : dba = some p := hp
        subst hp'
        have ho := own_below DO3.out b4
        rcases ho.2 with ⟨hv, hz⟩ | ⟨g, cp, cur, hv, _, hh, _⟩
        · cases hv
        · injection hv with hv
          injection hv with hv
          subst hv
          exact ⟨cur, hh⟩)⟩
      clear hw3 hg3 b3 b4 O2 BI2 B2 DR DO O3 BI3 DR3 DO3
      go_wp2_with (at_builtin; refine wpList_app rfl _ _ _ rfl w.heap.size 24 ti _ 1 24 Try.underlying41 hi0 hz0 hz1 hz2 rfl (by omega) a1 k c1 (bds.map bval) rfl O4.out (some ⟨w3.heap.size, 0, none⟩) 1 1 [.slice dba dbn dbc] rfl V4.out (by intro u hu; simp only [List.mem_singleton] at hu; subst hu; rfl) (by unfold maxLen; omega) (by omega) B4.out.size ?_; intro a5 c5 w5 h5)
      have O5 : Hid (w5.ownsRow w.heap.size 24 1 (.slice a5 (k + 1) c5) (k + 1) ((bds ++ [BD.mk dba dbn dbc dbs]).map bval)) := Lib.hid (by have := h5.own; rw [List.map_append]; exact this)
      have BI5 : Hid (∀ b ∈ bds ++ [BD.mk dba dbn dbc dbs], BOwn w5 b) := Lib.hid (fun b hbm => by
        rcases List.mem_append.1 hbm with h | h
        · exact (BI4.out b h).own O4.out h5.only
        · simp only [List.mem_singleton] at h
          subst h
          exact NEW4.out.own O4.out h5.only)
      have B5 : Hid (Below w.heap.size w w5) := Lib.hid (h5.below O4.out B4.out (Nat.le_refl _) B4.out.size)
      have e9 : IntKind.i64.wrap ((k : Int) + 1 + 1) = (k : Int) + 1 + 1 := IntWalk.i64_in _ (by omega)
      clear h5 q3
      go_wp2_with fail
      go_roundw
      case rel => exact ⟨k + 1, by omega, by go_num, bds ++ [BD.mk dba dbn dbc dbs], a5, c5, by go_num, O5.out, BI5.out, by rw [List.map_append, BS.out, TK.out k hlt]; congr 1; simp only [List.map_cons, List.map_nil]; rw [DB.out]; rfl, B5.out⟩
      case measure => simp [intOf]; omega
    · have hkm : k = m := by omega
      subst hkm
      have i1 : ¬ ((k : Int) + 1 ≤ k) := by omega
      go_wp2_with fail
      go_ret
      exact ⟨a1, c1, rfl, ⟨⟨bds, O1.out, BI1.out, by rw [BS.out, List.take_of_length_le (by have := HM.out; omega)]⟩, HM.out⟩, B1.out⟩
end Go.Proofs.Ytpkifmophmjilaa
