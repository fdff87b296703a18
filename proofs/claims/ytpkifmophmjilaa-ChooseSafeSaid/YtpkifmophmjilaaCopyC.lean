/- Package psephoskeep: copies of requests, votes, parts, certificates. -/
import Derived.Test.YtpkifmophmjilaaChooseB
import Derived.Test.YtpkifmophmjilaaChooseOthers
import Derived.Test.YtpkifmophmjilaaPlanL
namespace Go.Proofs.Ytpkifmophmjilaa
open Go.RowKit
set_option linter.unusedVariables false

theorem copy_rq (a : Option Addr) (n c : Nat) (bs : List Rq) (w : World) (h : RqRow w a n c bs) (hn : n ≤ 4096) :
    Calls Try.prog 45 #[.slice a n c] w fun e w' => ∃ a' c', e = .returned (.slice a' n c') ∧ w'.ownsRow w.heap.size 40 6 (.slice a' n c') n (bs.flatMap rqc) ∧ Below w.heap.size w w' := by
  obtain ⟨i0, hi0, hz0, hz1, hz2⟩ := info_parts info_reqT
  have H := Lib.hid h.row
  clear h
  go_enter Try.func45, Try.ntmps45
  go_wp2_with (at_builtin; refine wpList_app rfl _ _ _ rfl w.heap.size 40 i0 _ 6 48 Try.underlying24 hi0 hz0 hz1 hz2 rfl (by omega) none 0 0 [] rfl ⟨rfl, .inl ⟨rfl, rfl⟩⟩ a n c (bs.flatMap rqc) rfl H.out (rqc_one _) (by unfold maxLen; omega) (by omega) (Nat.le_refl _) ?_; intro a5 c5 w5 h5)
  go_ret
  have h6 := h5.own
  rw [Nat.zero_add, List.nil_append] at h6
  exact ⟨_, _, rfl, h6, h5.only.to_below⟩
theorem copy_vo (a : Option Addr) (n c : Nat) (vs : List Vo) (w : World) (h : VoRow w a n c vs) (hn : n ≤ 4096) :
    Calls Try.prog 46 #[.slice a n c] w fun e w' => ∃ a' c', e = .returned (.slice a' n c') ∧ w'.ownsRow w.heap.size 70 2 (.slice a' n c') n (vs.flatMap voc) ∧ Below w.heap.size w w' := by
  obtain ⟨i0, hi0, hz0, hz1, hz2⟩ := info_parts info_voteT
  have H := Lib.hid h.row
  clear h
  go_enter Try.func46, Try.ntmps46
  go_wp2_with (at_builtin; refine wpList_app rfl _ _ _ rfl w.heap.size 70 i0 _ 2 16 Try.underlying25 hi0 hz0 hz1 hz2 rfl (by omega) none 0 0 [] rfl ⟨rfl, .inl ⟨rfl, rfl⟩⟩ a n c (vs.flatMap voc) rfl H.out (voc_one _) (by unfold maxLen; omega) (by omega) (Nat.le_refl _) ?_; intro a5 c5 w5 h5)
  go_ret
  have h6 := h5.own
  rw [Nat.zero_add, List.nil_append] at h6
  exact ⟨_, _, rfl, h6, h5.only.to_below⟩
theorem copy_pa (a : Option Addr) (n c : Nat) (ps : List PD) (w : World) (h : Parts w a n c ps) (hn : n ≤ 4096) :
    Calls Try.prog 15 #[.slice a n c] w fun e w' => ∃ a' c', e = .returned (.slice a' n c') ∧ w'.ownsRow w.heap.size 32 4 (.slice a' n c') n (ps.flatMap pcell') ∧ Below w.heap.size w w' := by
  obtain ⟨i0, hi0, hz0, hz1, hz2⟩ := info_parts info_partT
  have H := Lib.hid h.row
  clear h
  go_enter Try.func15, Try.ntmps15
  go_wp2_with (at_builtin; refine wpList_app rfl _ _ _ rfl w.heap.size 32 i0 _ 4 64 Try.underlying22 hi0 hz0 hz1 hz2 rfl (by omega) none 0 0 [] rfl ⟨rfl, .inl ⟨rfl, rfl⟩⟩ a n c (ps.flatMap pcell') rfl H.out (pcell'_one _) (by unfold maxLen; omega) (by omega) (Nat.le_refl _) ?_; intro a5 c5 w5 h5)
  go_ret
  have h6 := h5.own
  rw [Nat.zero_add, List.nil_append] at h6
  exact ⟨_, _, rfl, h6, h5.only.to_below⟩

/-- A certificate whose batch and votes are rows of the call's own. -/
structure OwnC (B : Nat) (w : World) (x : CD) : Prop where
  b : w.ownsRow B 40 6 (.slice x.ba x.bn x.bc) x.bn (x.bs.flatMap rqc)
  bl : x.bs.length = x.bn
  v : w.ownsRow B 70 2 (.slice x.va x.vn x.vc) x.vn (x.vs.flatMap voc)
  vl : x.vs.length = x.vn
  i0 : I64 x.view
  i1 : I64 x.inst
  i2 : I64 x.seq
theorem OwnC.to {B : Nat} {w : World} {x : CD} (h : OwnC B w x) : x.Is w := ⟨⟨own_vrow h.b, h.bl, own_cap h.b, own_max h.b⟩, ⟨own_vrow h.v, h.vl, own_cap h.v, own_max h.v⟩, h.i0, h.i1, h.i2⟩
theorem OwnC.below {B : Nat} {w w' : World} {x : CD} (h : OwnC B w x) (hb : Below w.heap.size w w') : OwnC B w' x := ⟨own_below h.b hb, h.bl, own_below h.v hb, h.vl, h.i0, h.i1, h.i2⟩
theorem OwnC.low {B B' : Nat} {w : World} {x : CD} (h : OwnC B w x) (hB : B' ≤ B) : OwnC B' w x := ⟨own_base_le h.b hB, h.bl, own_base_le h.v hB, h.vl, h.i0, h.i1, h.i2⟩
/-- Only blocks of other types have turned. -/
def Odd (S : List Nat) (w : World) (t1 t2 : TypeId) : Prop := ∀ g ∈ S, ∀ cs t, Blk w g t cs → t ≠ t1 ∧ t ≠ t2
theorem own_odd {base s n : Nat} {e : TypeId} {v : Value} {xs : List Value} {w w' : World} {S : List Nat} (h : w.ownsRow base e s v n xs) (ho : Only S w w') (hS : ∀ g ∈ S, ∀ cs t, Blk w g t cs → t ≠ e) : w'.ownsRow base e s v n xs :=
  own_only h ho fun g hg hm => by
    rcases h.2 with ⟨hv, _⟩ | ⟨k, cp, cur, hv, _, hb, _⟩
    · rw [hv] at hg; simp [Value.ownBlock] at hg
    · rw [hv] at hg
      simp only [Value.ownBlock, Option.some.injEq] at hg
      subst hg
      exact hS _ hm cur e hb rfl
theorem OwnC.only {B : Nat} {w w' : World} {x : CD} {S : List Nat} (h : OwnC B w x) (ho : Only S w w') (hS : Odd S w 40 70) : OwnC B w' x :=
  ⟨own_odd h.b ho fun g hg cs t k => (hS g hg cs t k).1, h.bl, own_odd h.v ho fun g hg cs t k => (hS g hg cs t k).2, h.vl, h.i0, h.i1, h.i2⟩
theorem odd_row {base s n c : Nat} {e t1 t2 : TypeId} {a : Option Addr} {xs : List Value} {w : World} (h : w.ownsRow base e s (.slice a n c) n xs) (h1 : e ≠ t1) (h2 : e ≠ t2) : Odd (a.map (·.block)).toList w t1 t2 := fun g hg cs t k => by
  have hb : (Value.slice a n c).ownBlock = some g := by rw [own_block_eq]; exact Option.mem_toList.1 hg
  rcases h.2 with ⟨hv, _⟩ | ⟨k', cp, cur, hv, _, hh, _⟩
  · rw [hv] at hb; simp [Value.ownBlock] at hb
  · rw [hv] at hb
    simp only [Value.ownBlock, Option.some.injEq] at hb
    subst hb
    unfold Blk at k
    rw [hh] at k
    injection k with k
    injection k with _ k
    rw [← k]
    exact ⟨h1, h2⟩
theorem odd_blk {g : Nat} {w : World} {t t1 t2 : TypeId} {cs : Array Value} (h : Blk w g t cs) (h1 : t ≠ t1) (h2 : t ≠ t2) : Odd [g] w t1 t2 := fun g' hg cs' t' k => by
  simp only [List.mem_singleton] at hg
  subst hg
  unfold Blk at h k
  rw [h] at k
  injection k with k
  injection k with _ k
  rw [← k]
  exact ⟨h1, h2⟩
/-- The same certificate, copied. -/
structure Twin (y x : CD) : Prop where
  view : y.view = x.view
  inst : y.inst = x.inst
  seq : y.seq = x.seq
  bn : y.bn = x.bn
  vn : y.vn = x.vn

set_option maxRecDepth 100000 in
set_option maxHeartbeats 6400000 in
theorem copycerts_c (a : Option Addr) (n c : Nat) (cs : List CD) (w : World) (h : Certs w a n c cs) (hn : n ≤ 4096) (hs : ∀ c ∈ cs, c.bn ≤ 4096 ∧ c.vn ≤ 4096) :
    Calls Try.prog 16 #[.slice a n c] w fun e w' => ∃ (a' : Option Addr) (c' : Nat) (ds : List CD), e = .returned (.slice a' n c') ∧ w'.ownsRow w.heap.size 36 5 (.slice a' n c') n (ds.flatMap ccell) ∧ ds.length = n ∧ (∀ x ∈ ds, OwnC w.heap.size w' x) ∧ (∀ (k : Nat) x y, cs[k]? = some x → ds[k]? = some y → Twin y x) ∧ Below w.heap.size w w' := by
  obtain ⟨ti, hi0, hz0, hz1, hz2⟩ := info_parts info_certT
  have H := Lib.hid h
  have S := Lib.hid hs
  clear h hs
  go_enter Try.func16, Try.ntmps16
  go_wp2_with fail
  go_loopw [3, 4] (fun s i wr => ∃ k : Nat, k ≤ n ∧ i = .int .i64 k ∧ ∃ (ds : List CD) (a1 : Option Addr) (c1 : Nat), s = .slice a1 k c1 ∧ ds.length = k ∧ wr.ownsRow w.heap.size 36 5 (.slice a1 k c1) k (ds.flatMap ccell) ∧ (∀ x ∈ ds, OwnC w.heap.size wr x) ∧ (∀ (k : Nat) x y, cs[k]? = some x → ds[k]? = some y → Twin y x) ∧ Below w.heap.size w wr) (fun _ i _ => n - (intOf i).toNat)
  case atStart => exact ⟨0, by omega, rfl, [], none, 0, rfl, rfl, ⟨rfl, .inl ⟨rfl, rfl⟩⟩, by simp, by simp, Below.refl _ _⟩
  case round =>
    obtain ⟨k, hk, rfl, ds, a1, c1, rfl, hdl, hO, hds, htw, hb⟩ := hrel
    have O := Lib.hid hO
    have DL := Lib.hid hdl
    have DS := Lib.hid hds
    have TW := Lib.hid htw
    have B := Lib.hid hb
    by_cases hlt : k < n
    · obtain ⟨b, off, rfl, hbl, x, hx, hxI, x0, x1, x2, x3, x4⟩ := H.out.get hlt
      have y0 := kept hb _ _ x0
      have y1 := kept hb _ _ x1
      have y2 := kept hb _ _ x2
      have y3 := kept hb _ _ x3
      have y4 := kept hb _ _ x4
      have XIS := Lib.hid hxI
      have XS := Lib.hid (S.out x (List.mem_of_getElem? hx))
      have HX := Lib.hid hx
      obtain ⟨xv, hxv⟩ : ∃ z, z = x.view := ⟨_, rfl⟩
      obtain ⟨xi, hxi⟩ : ∃ z, z = x.inst := ⟨_, rfl⟩
      obtain ⟨xs, hxs⟩ : ∃ z, z = x.seq := ⟨_, rfl⟩
      obtain ⟨xba, hxba⟩ : ∃ z, z = x.ba := ⟨_, rfl⟩
      obtain ⟨xbn, hxbn⟩ : ∃ z, z = x.bn := ⟨_, rfl⟩
      obtain ⟨xbc, hxbc⟩ : ∃ z, z = x.bc := ⟨_, rfl⟩
      obtain ⟨xva, hxva⟩ : ∃ z, z = x.va := ⟨_, rfl⟩
      obtain ⟨xvn, hxvn⟩ : ∃ z, z = x.vn := ⟨_, rfl⟩
      obtain ⟨xvc, hxvc⟩ : ∃ z, z = x.vc := ⟨_, rfl⟩
      have XB : Hid (RqRow w xba xbn xbc x.bs) := Lib.hid (by rw [hxba, hxbn, hxbc]; exact hxI.b)
      have XV : Hid (VoRow w xva xvn xvc x.vs) := Lib.hid (by rw [hxva, hxvn, hxvc]; exact hxI.v)
      have n1 : xbn ≤ 4096 := by rw [hxbn]; exact XS.out.1
      have n2 : xvn ≤ 4096 := by rw [hxvn]; exact XS.out.2
      have TX : Hid (∀ ba bc bs va vc vs, Twin ⟨xv, xi, xs, ba, xbn, bc, bs, va, xvn, vc, vs⟩ x) := Lib.hid fun _ _ _ _ _ _ => ⟨hxv, hxi, hxs, hxbn, hxvn⟩
      have XI : Hid (I64 xv ∧ I64 xi ∧ I64 xs) := Lib.hid (by rw [hxv, hxi, hxs]; exact ⟨hxI.i0, hxI.i1, hxI.i2⟩)
      rw [← hxv] at y0
      rw [← hxi] at y1
      rw [← hxs] at y2
      rw [← hxba, ← hxbn, ← hxbc] at y3
      rw [← hxva, ← hxvn, ← hxvc] at y4
      have i0 : (0 : Int) ≤ k := by omega
      have i1 : (k : Int) < n := by omega
      clear hx hxI hxv hxi hxs hxba hxbn hxbc hxva hxvn hxvc x0 x1 x2 x3 x4 hbl hdl hO hds htw hb XS
      go_upto_region 6 with fail
      obtain ⟨w2, hw2⟩ : ∃ w2, w2 = wr.alloc (.cells #[.int .i64 xv, .int .i64 xi, .int .i64 xs, .slice xba xbn xbc, .slice xva xvn xvc] 36) := ⟨_, rfl⟩
      obtain ⟨g5, hg5⟩ : ∃ g5, g5 = wr.heap.size := ⟨_, rfl⟩
      rw [← hw2, ← hg5]
      have b2 : Below wr.heap.size wr w2 := by rw [hw2]; exact (Below.refl _ _).alloc (Nat.le_refl _) _
      have K2 : Hid (Blk w2 g5 36 #[.int .i64 xv, .int .i64 xi, .int .i64 xs, .slice xba xbn xbc, .slice xva xvn xvc]) := Lib.hid (by rw [hw2, hg5]; exact Blk.new _ _ _)
      have O2 := Lib.hid (own_below O.out b2)
      have DS2 := Lib.hid (fun x hx => (DS.out x hx).below b2)
      have B2 := Lib.hid (B.out.trans (b2.mono B.out.size))
      have G5 : Hid (w.heap.size ≤ g5) := Lib.hid (by rw [hg5]; exact B.out.size)
      have RB : Hid (∀ g, (Value.slice a1 k c1).ownBlock = some g → g ≠ g5) := Lib.hid fun g hg => by have := (World.ownsRow.lt O.out g hg).2; omega
      have c3 : w2.cell? ⟨g5, 3, none⟩ = some (.slice xba xbn xbc) := K2.out.cell 3
      have c4 : w2.cell? ⟨g5, 4, none⟩ = some (.slice xva xvn xvc) := K2.out.cell 4
      have XB2 := Lib.hid (XB.out.below B2.out)
      have XV2 := Lib.hid (XV.out.below B2.out)
      have KS : ∀ w', Below w2.heap.size w2 w' → w'.cell? ⟨g5, 3, none⟩ = some (.slice xba xbn xbc) ∧ w'.cell? ⟨g5, 4, none⟩ = some (.slice xva xvn xvc) := fun w' o => ⟨kept o _ _ c3, kept o _ _ c4⟩
      have E0 : Below w2.heap.size w2 w2.drew := (Below.refl _ _).drew
      clear hw2 hg5 b2 y0 y1 y2 y3 y4 B O DS
      refine wp_region_pln (fun w' => w'.cell? ⟨g5, 3, none⟩ = some (.slice xba xbn xbc) ∧ w'.cell? ⟨g5, 4, none⟩ = some (.slice xva xvn xvc)) 6 (.take 0 (.take 1 (.take 3 (.take 4 (.one 2 (.free 6 (.one 5 (.one 7 (.free 8 (.one 9 .done)))))))))) (by kernel_rfl) (by kernel_rfl) (by kernel_rfl) (KS _ E0) ?_
      intro hS0
      obtain ⟨v0, hv0⟩ : ∃ v, v = w2.drew := ⟨_, rfl⟩
      rw [← hv0] at hS0 E0 ⊢
      clear hv0 c3 c4
      repeat (first | (refine' wpPln_take rfl (by rfl) (by assumption) ?_ ?_; rotate_left; (· (intro w hSw; (try dsimp only at hSw); go_simp; try with_reducible rfl)); try simp only [Act.put, List.setIfInBounds_toArray, List.set_cons_zero, List.set_cons_succ]) | (refine' wpPln_free rfl (by rfl) ?_ ?_; rotate_left; (· (intro w; go_simp; try with_reducible rfl)); try simp only [Act.put, List.setIfInBounds_toArray, List.set_cons_zero, List.set_cons_succ]))
      refine wpPln_one rfl (fun KT hKT => ?_)
      go_simp
      refine (copy_rq xba xbn xbc x.bs _ (XB2.out.below E0) n1).mono ?_
      rintro e v1 ⟨a5, c5, rfl, h5, hb5⟩
      have E1 : Below w2.heap.size w2 v1 := E0.trans (hb5.mono E0.size)
      have R5 := Lib.hid h5
      clear h5 hb5
      refine hKT.out _ _ (KS _ E1) (fun _ => ?_); clear hKT KT; try simp only [Act.put, List.setIfInBounds_toArray, List.set_cons_zero, List.set_cons_succ]
      repeat (first | (refine' wpPln_take rfl (by rfl) (by assumption) ?_ ?_; rotate_left; (· (intro w hSw; (try dsimp only at hSw); go_simp; try with_reducible rfl)); try simp only [Act.put, List.setIfInBounds_toArray, List.set_cons_zero, List.set_cons_succ]) | (refine' wpPln_free rfl (by rfl) ?_ ?_; rotate_left; (· (intro w; go_simp; try with_reducible rfl)); try simp only [Act.put, List.setIfInBounds_toArray, List.set_cons_zero, List.set_cons_succ]))
      refine wpPln_one rfl (fun KT hKT => ?_)
      go_simp
      refine (copy_vo xva xvn xvc x.vs _ (XV2.out.below E1) n2).mono ?_
      rintro e v2 ⟨a6, c6, rfl, h6, hb6⟩
      have E2 : Below w2.heap.size w2 v2 := E1.trans (hb6.mono E1.size)
      have R6 := Lib.hid h6
      have Q5 := Lib.hid (own_below R5.out hb6)
      clear h6 hb6
      refine hKT.out _ _ (KS _ E2) (fun _ => ?_); clear hKT KT; try simp only [Act.put, List.setIfInBounds_toArray, List.set_cons_zero, List.set_cons_succ]
      have K3 := Lib.hid (K2.out.below E2 K2.out.lt)
      have O3 := Lib.hid (own_below O2.out E2)
      have DS3 := Lib.hid (fun x hx => (DS2.out x hx).below E2)
      have B3 := Lib.hid (B2.out.trans (E2.mono B2.out.size))
      have Z0 := Lib.hid (Nat.le_trans B2.out.size E0.size)
      have Z1 := Lib.hid (Nat.le_trans B2.out.size E1.size)
      have d3 : v2.cell? ⟨g5, 3, none⟩ = some (.slice xba xbn xbc) := K3.out.cell 3
      have f3 := K3.out.frozen 3
      repeat (first | (refine' wpPln_take rfl (by rfl) (by assumption) ?_ ?_; rotate_left; (· (intro w hSw; (try dsimp only at hSw); go_simp; try with_reducible rfl)); try simp only [Act.put, List.setIfInBounds_toArray, List.set_cons_zero, List.set_cons_succ]) | (refine' wpPln_free rfl (by rfl) ?_ ?_; rotate_left; (· (intro w; go_simp; try with_reducible rfl)); try simp only [Act.put, List.setIfInBounds_toArray, List.set_cons_zero, List.set_cons_succ]))
      refine wpPln_late (by decide) rfl (fun KT hKT => ?_)
      go_simp
      refine hKT.out _ _ ?_; clear hKT KT; try simp only [Act.put, List.setIfInBounds_toArray, List.set_cons_zero, List.set_cons_succ]
      obtain ⟨v3, hv3⟩ : ∃ v, v = v2.setCell ⟨g5, 3, none⟩ (.slice a5 xbn c5) := ⟨_, rfl⟩
      rw [← hv3]
      have K4 := Lib.hid (show Blk v3 g5 36 #[.int .i64 xv, .int .i64 xi, .int .i64 xs, .slice a5 xbn c5, .slice xva xvn xvc] by rw [hv3]; exact K3.out.set_ 3 _)
      have U3 : Hid (Only [g5] v2 v3) := Lib.hid (by rw [hv3]; exact (Only.refl _ _).setCell (.inl (by simp)) _)
      have d4 : v3.cell? ⟨g5, 4, none⟩ = some (.slice xva xvn xvc) := K4.out.cell 4
      have f4 := K4.out.frozen 4
      clear hv3 d3 f3 E0 E1 E2 KS hS0
      repeat (first | (refine' wpPln_take rfl (by rfl) (by assumption) ?_ ?_; rotate_left; (· (intro w hSw; (try dsimp only at hSw); go_simp; try with_reducible rfl)); try simp only [Act.put, List.setIfInBounds_toArray, List.set_cons_zero, List.set_cons_succ]) | (refine' wpPln_free rfl (by rfl) ?_ ?_; rotate_left; (· (intro w; go_simp; try with_reducible rfl)); try simp only [Act.put, List.setIfInBounds_toArray, List.set_cons_zero, List.set_cons_succ]))
      refine wpPln_late (by decide) rfl (fun KT hKT => ?_)
      go_simp
      refine hKT.out _ _ ?_; clear hKT KT; try simp only [Act.put, List.setIfInBounds_toArray, List.set_cons_zero, List.set_cons_succ]
      obtain ⟨v4, hv4⟩ : ∃ v, v = v3.setCell ⟨g5, 4, none⟩ (.slice a6 xvn c6) := ⟨_, rfl⟩
      rw [← hv4]
      have K5 := Lib.hid (show Blk v4 g5 36 #[.int .i64 xv, .int .i64 xi, .int .i64 xs, .slice a5 xbn c5, .slice a6 xvn c6] by rw [hv4]; exact K4.out.set_ 4 _)
      have U4 : Hid (Only [g5] v2 v4) := Lib.hid (by rw [hv4]; exact U3.out.setCell (.inl (by simp)) _)
      have OD := Lib.hid (odd_blk K3.out (t1 := 40) (t2 := 70) (by decide) (by decide))
      have O4 := Lib.hid (own_only O3.out U4.out fun g hg hm => RB.out g hg (by simpa using hm))
      have DS4 := Lib.hid (fun x hx => (DS3.out x hx).only U4.out OD.out)
      have NC : Hid (OwnC w.heap.size v4 ⟨xv, xi, xs, a5, xbn, c5, x.bs, a6, xvn, c6, x.vs⟩) := Lib.hid
        ⟨own_base_le (own_odd Q5.out U4.out fun g hg cs t k => (OD.out g hg cs t k).1) Z0.out, XB.out.len, own_base_le (own_odd R6.out U4.out fun g hg cs t k => (OD.out g hg cs t k).2) Z1.out, XV.out.len, XI.out.1, XI.out.2.1, XI.out.2.2⟩
      have B4 : Hid (Below w.heap.size w v4) := Lib.hid (U4.out.below B3.out B3.out.size (by simpa using G5.out))
      clear hv4 d4 f4
      refine wpPln_done ?_
      have c0 : v4.cell? ⟨g5, 0, none⟩ = some (.int .i64 xv) := K5.out.cell 0
      have c1' : v4.cell? ⟨g5, 1, none⟩ = some (.int .i64 xi) := K5.out.cell 1
      have c2 : v4.cell? ⟨g5, 2, none⟩ = some (.int .i64 xs) := K5.out.cell 2
      have c3 : v4.cell? ⟨g5, 3, none⟩ = some (.slice a5 xbn c5) := K5.out.cell 3
      have c4 : v4.cell? ⟨g5, 4, none⟩ = some (.slice a6 xvn c6) := K5.out.cell 4
      have bz := (Below.refl v4.heap.size v4).alloc (Nat.le_refl _) (.cells #[.int .i64 xv, .int .i64 xi, .int .i64 xs, .slice a5 xbn c5, .slice a6 xvn c6] 36)
      have OZ := Lib.hid (own_below O4.out bz)
      have BZ := Lib.hid (B4.out.trans (bz.mono B4.out.size))
      have DZ : Hid (∀ y ∈ ds ++ [CD.mk xv xi xs a5 xbn c5 x.bs a6 xvn c6 x.vs], OwnC w.heap.size (v4.alloc (.cells #[.int .i64 xv, .int .i64 xi, .int .i64 xs, .slice a5 xbn c5, .slice a6 xvn c6] 36)) y) := Lib.hid fun y hy => by
        rcases List.mem_append.1 hy with h | h
        · exact (DS4.out y h).below bz
        · simp only [List.mem_singleton] at h
          subst h
          exact NC.out.below bz
      have TZ : Hid (∀ (j : Nat) x' y, cs[j]? = some x' → (ds ++ [CD.mk xv xi xs a5 xbn c5 x.bs a6 xvn c6 x.vs])[j]? = some y → Twin y x') := Lib.hid fun j x' y h1 h2 => by
        have hdl := DL.out
        rcases Nat.lt_or_ge j k with h | h
        · rw [List.getElem?_append_left (by omega)] at h2
          exact TW.out j x' y h1 h2
        · rw [List.getElem?_append_right (by omega)] at h2
          have hj : j - ds.length = 0 := by
            rcases Nat.eq_zero_or_pos (j - ds.length) with h0 | h0
            · exact h0
            · rw [List.getElem?_eq_none (by simp; omega)] at h2; cases h2
          have hjk : j = k := by omega
          subst hjk
          rw [hj] at h2
          rw [HX.out] at h1
          cases h1
          have h3 : CD.mk xv xi xs a5 xbn c5 x.bs a6 xvn c6 x.vs = y := by simpa using h2
          rw [← h3]
          exact TX.out _ _ _ _ _ _
      have VZ : Hid (VRow (v4.alloc (.cells #[.int .i64 xv, .int .i64 xi, .int .i64 xs, .slice a5 xbn c5, .slice a6 xvn c6] 36)) (some ⟨v4.heap.size, 0, none⟩) 1 5 (ccell (CD.mk xv xi xs a5 xbn c5 x.bs a6 xvn c6 x.vs))) := Lib.hid (VRow.of_blk (n := 1) (s := 5) (Blk.new v4 36 #[.int .i64 xv, .int .i64 xi, .int .i64 xs, .slice a5 xbn c5, .slice a6 xvn c6]) rfl)
      have X1 := Lib.hid (show ∀ u ∈ ccell (CD.mk xv xi xs a5 xbn c5 x.bs a6 xvn c6 x.vs), u.oneCell' = true from fun u hu => ccell_one [_] u (by simpa using hu))
      clear bz
      go_wp2_with (at_builtin; refine wpList_app rfl _ _ _ rfl w.heap.size 36 ti _ 5 72 Try.underlying26 hi0 hz0 hz1 hz2 rfl (by omega) a1 k c1 (ds.flatMap ccell) rfl OZ.out (some ⟨v4.heap.size, 0, none⟩) 1 1 (ccell (CD.mk xv xi xs a5 xbn c5 x.bs a6 xvn c6 x.vs)) rfl VZ.out X1.out (by unfold maxLen; omega) (by omega) BZ.out.size ?_; intro a7 c7 w7 h7)
      have O9 : Hid (w7.ownsRow w.heap.size 36 5 (.slice a7 (k + 1) c7) (k + 1) ((ds ++ [CD.mk xv xi xs a5 xbn c5 x.bs a6 xvn c6 x.vs]).flatMap ccell)) := Lib.hid (by rw [List.flatMap_append]; simpa using h7.own)
      have B9 : Hid (Below w.heap.size w w7) := Lib.hid (h7.below OZ.out BZ.out (Nat.le_refl _) BZ.out.size)
      have D9 := Lib.hid (fun y hy => (DZ.out y hy).only h7.only (odd_row OZ.out (by decide) (by decide)))
      have L9 : Hid ((ds ++ [CD.mk xv xi xs a5 xbn c5 x.bs a6 xvn c6 x.vs]).length = k + 1) := Lib.hid (by rw [List.length_append, DL.out]; rfl)
      clear h7 c0 c1' c2 c3 c4
      go_wp2_with fail
      go_roundw
      case rel => exact ⟨k + 1, by omega, by go_num, _, a7, c7, rfl, L9.out, O9.out, D9.out, TZ.out, B9.out⟩
      case measure => simp [intOf]; omega
    · have hkn : k = n := by omega
      subst hkn
      clear hdl hO hds htw hb
      go_wp2_with fail
      go_ret
      exact ⟨a1, c1, ds, rfl, O.out, DL.out, DS.out, TW.out, B.out⟩
end Go.Proofs.Ytpkifmophmjilaa
