/- Batches: cut, Fold. -/
import Derived.Test.YtfhlcjfgbhmecaaLedgerO
import Derived.Test.YtfhlcjfgbhmecaaDeep
import Derived.IntWalk
import Derived.Deep.RegionHeld3
namespace Go.Proofs.Ytfhlcjfgbhmecaa
open Go.RowKit
set_option linter.unusedVariables false

theorem runL_app (A : List Ent) (st : List (Bool × Int)) (ct : List (Int × Int)) : ∀ rs, runL (A, st, ct) rs = (A ++ (runL ([], st, ct) rs).1, (runL ([], st, ct) rs).2) := by
  intro rs
  induction rs generalizing A st ct with
  | nil => simp [runL]
  | cons r rs ih =>
    show runL (stepR (A, st, ct) r) rs = (A ++ (runL (stepR ([], st, ct) r) rs).1, (runL (stepR ([], st, ct) r) rs).2)
    unfold stepR resR
    simp only
    split
    · rw [ih (A ++ _), ih ([] ++ _)]
      simp
    · rw [ih A]
theorem runL_cat (s : LSt) (a b : List Rq) : runL s (a ++ b) = runL (runL s a) b := by
  unfold runL
  rw [List.foldl_append]

/-- A batch: where it lies, its length, its room, its requests. -/
structure Bt where
  a : Option Addr
  n : Nat
  c : Nat
  rs : List Rq
/-- It reads so. -/
structure Batch (w : World) (x : Bt) : Prop where
  v : VRow w x.a x.n 6 (x.rs.flatMap rqc)
  l : x.rs.length = x.n
  m : x.n ≤ 8
  k : x.n ≤ x.c
  i : ∀ r ∈ x.rs, RqI r
  s : 0 < x.n → ∀ p, x.a = some p → p.block < w.heap.size
def bval (x : Bt) : Value := .slice x.a x.n x.c
/-- A slice of batches. -/
structure BRow (w : World) (a : Option Addr) (n : Nat) (bs : List Bt) : Prop where
  v : VRow w a n 1 (bs.map bval)
  b : ∀ x ∈ bs, Batch w x
  m : n ≤ 20
theorem Batch.below {w w' : World} {x : Bt} (h : Batch w x) (hb : Below w.heap.size w w') : Batch w' x := ⟨h.v.below hb, h.l, h.m, h.k, h.i, fun h0 p hp => Nat.lt_of_lt_of_le (h.s h0 p hp) hb.size⟩
theorem BRow.below {w w' : World} {a : Option Addr} {n : Nat} {bs : List Bt} (h : BRow w a n bs) (hb : Below w.heap.size w w') : BRow w' a n bs := ⟨h.v.below hb, fun x hx => (h.b x hx).below hb, h.m⟩
theorem BRow.len {w : World} {a : Option Addr} {n : Nat} {bs : List Bt} (h : BRow w a n bs) : bs.length = n := by have := h.v.1; simpa using this
def allRq (bs : List Bt) : List Rq := bs.flatMap (·.rs)
theorem allRq_len {w : World} {bs : List Bt} (h : ∀ x ∈ bs, Batch w x) : (allRq bs).length ≤ 8 * bs.length := by
  induction bs with
  | nil => simp [allRq]
  | cons x xs ih =>
    have h1 := h x (by simp)
    have := ih (fun y hy => h y (by simp [hy]))
    have e : (allRq (x :: xs)).length = x.rs.length + (allRq xs).length := by simp [allRq]
    have := h1.l
    have := h1.m
    simp only [List.length_cons]
    omega

def rqOf (g : Nat → Int) (i : Nat) : Rq := (g (i * 6), g (i * 6 + 1), g (i * 6 + 2), g (i * 6 + 3), g (i * 6 + 4), g (i * 6 + 5))
theorem flat_rqs {w : World} {a : Option Addr} {n : Nat} {g : Nat → Int} (h : Flat w a n 6 g) : ∃ rs : List Rq, rs.length = n ∧ VRow w a n 6 (rs.flatMap rqc) ∧ ∀ r ∈ rs, RqI r := by
  refine ⟨(List.range n).map (rqOf g), by simp, flat_row h rqc rqc_len (by omega) (rqOf g) (fun i r v hr hv => ?_), fun e he => ?_⟩
  · rcases (show r = 0 ∨ r = 1 ∨ r = 2 ∨ r = 3 ∨ r = 4 ∨ r = 5 by omega) with rfl | rfl | rfl | rfl | rfl | rfl <;> exact (Option.some.inj hv).symm
  · obtain ⟨i, _, rfl⟩ := List.mem_map.1 he
    exact ⟨h.1 _, h.1 _, h.1 _, h.1 _, h.1 _, h.1 _⟩
theorem flat_lt {w : World} {a : Option Addr} {n k : Nat} {g : Nat → Int} (h : Flat w a n k g) (h0 : 0 < n) : ∀ p, a = some p → p.block < w.heap.size := by
  rintro p rfl
  obtain ⟨b, off, e, hlt, _⟩ := h.2 h0
  cases e
  exact hlt
theorem size_req (w : World) : (sizeOf 33).run Try.prog w = .ok 6 w := by
  have h : (Try.prog.info? 33).map (fun i => (i.zero, i.size, i.bytes)) = some (some (.agg #[.int .i64 0, .int .i64 0, .int .i64 0, .int .i64 0, .int .i64 0, .int .i64 0]), 6, 48) := by kernel_rfl
  obtain ⟨j0, hj0, hy0, hy1, hy2⟩ := info_parts h
  simp [sizeOf, typeInfo, hj0, hy1]
theorem info_batch : (Try.prog.info? 29).map (fun i => (i.zero, i.size, i.bytes)) = some (some (.slice none 0 0), 1, 24) := by kernel_rfl

set_option maxRecDepth 100000 in
set_option maxHeartbeats 3200000 in
theorem cut_c (W : World) (a : Option Addr) (n c : Nat) (R : Nat → Inner) (w : World) (h : Rows2 W a n 6 R) (hb0 : Below W.heap.size W w) (hm : n ≤ maxLen) :
    Calls Try.prog 17 #[.slice a n c] w fun e w' => ∃ (a' : Option Addr) (m c' : Nat) (bs : List Bt), e = .returned (.slice a' m c') ∧ w'.ownsRow w.heap.size 29 1 (.slice a' m c') m (bs.map bval) ∧ (∀ x ∈ bs, Batch W x) ∧ bs.length = m ∧ m ≤ 20 ∧ Below w.heap.size w w' := by
  obtain ⟨i0, hi0, hz0, hz1, hz2⟩ := info_parts info_batch
  unfold maxLen at hm
  have H := Lib.hid h
  have B0 := Lib.hid hb0
  clear h hb0
  go_enter Try.func17, Try.ntmps17
  go_wp2_with fail
  go_loopw [3, 4] (fun o i wr => ∃ k : Nat, k ≤ n ∧ k ≤ 20 ∧ i = .int .i64 k ∧ ∃ (bs : List Bt) (a1 : Option Addr) (c1 : Nat), bs.length = k ∧ o = .slice a1 k c1 ∧ wr.ownsRow w.heap.size 29 1 (.slice a1 k c1) k (bs.map bval) ∧ (∀ x ∈ bs, Batch W x) ∧ Below w.heap.size w wr) (fun _ i _ => n - (intOf i).toNat)
  case atStart => exact ⟨0, by omega, by omega, rfl, [], none, 0, rfl, rfl, ⟨by simp, .inl ⟨rfl, rfl⟩⟩, by simp, Below.refl _ _⟩
  case round =>
    obtain ⟨k, hkn, hk20, rfl, bs, a1, c1, hbl, rfl, ho, hbs, hb⟩ := hrel
    have O := Lib.hid ho
    have BS := Lib.hid hbs
    have B := Lib.hid hb
    have BL := Lib.hid hbl
    have zr := hb.size
    rcases (show (k < n ∧ k < 20) ∨ (¬ k < n) ∨ (k < n ∧ ¬ k < 20) by omega) with ⟨hlt, h20⟩ | hlt | ⟨hlt, h20⟩
    · obtain ⟨b, off, rfl, hbw, hrow⟩ := H.out (by omega)
      obtain ⟨hcell, hnc, hcm, hfl⟩ := hrow k hlt
      obtain ⟨⟨ai, ni, ci, gi⟩, hR⟩ : ∃ x, x = R k := ⟨_, rfl⟩
      rw [← hR] at hcell hnc hcm hfl
      simp only at hcell hnc hcm hfl
      have c0 : wr.cell? ⟨b, off + k, none⟩ = some (.slice ai ni ci) := ((B0.out.trans (hb.mono B0.out.size)).cell (p := ⟨b, off + k, none⟩) hbw).trans hcell
      unfold maxLen at hcm
      obtain ⟨mi, hmi⟩ : ∃ mi, mi = min ni 8 := ⟨_, rfl⟩
      have mi1 : mi ≤ ni := by omega
      have mi8 : mi ≤ 8 := by omega
      have NB := Lib.hid (show ∃ x : Bt, bval x = .slice ai mi ci ∧ Batch W x by
        obtain ⟨rs, hl, hv, hi⟩ := flat_rqs hfl
        refine ⟨⟨ai, mi, ci, rs.take mi⟩, rfl, ?_, (show (rs.take mi).length = mi by rw [List.length_take]; omega), mi8, (show mi ≤ ci by omega), fun r hr => hi r (List.mem_of_mem_take hr), ?_⟩
        · rw [← flat_take rqc 6 rqc_len]
          exact hv.take mi1
        · exact fun h0 => flat_lt hfl (Nat.lt_of_lt_of_le h0 mi1))
      have sl : ∀ w : World, (Instr.slice 29 (.slice ai ni ci) none (some (.int .i64 mi)) none).run Try.prog w = .ok (.slice ai mi ci) w := to_any (P := Try.prog) 29 33 6 Try.underlying29 (by kernel_rfl) size_req ai ni ci mi mi1 hnc
      have i1 : (0 : Int) ≤ k := by omega
      have i2 : (k : Int) < n := by omega
      have hll : (bs.map bval).length = k := by rw [List.length_map, hbl]
      clear hrow hcell hfl hR ho hbs hb hbl
      have hmin : (if 8 < (ni : Int) then (8 : Int) else (ni : Int)) = (mi : Int) := by split <;> omega
      clear hmi
      all_goals
        go_wp2_with fail
        have bd : b < wr.heap.size := Nat.lt_of_lt_of_le hbw (Nat.le_trans B0.out.size zr)
        have ow : ∀ g, (Value.slice a1 k c1).ownBlock = some g → w.heap.size ≤ g := fun g hg => (O.out.lt g hg).1
        have OW := Lib.hid ow
        clear ow
        go_region_held3 (fun w' => w'.cell? ⟨b, off + k, none⟩ = some (.slice ai ni ci)) (first | with_reducible exact s0 | go_keep)
          (first | (refine step_append_lies _ (by rfl) _ _ _ (by rfl) w.heap.size 29 i0 _ 1 24 Try.underlying22 hi0 hz0 hz1 hz2 rfl (by omega) (.slice a1 k c1) k (bs.map bval) (by rfl) ((World.ownsRow.alloc O.out _).drew) ⟨wr.heap.size, 0, none⟩ 1 1 [.slice ai mi ci] (by rfl) (by rfl) (World.news_of_block (cs := #[.slice ai mi ci]) (t := 29) (fr := (0, 0)) (heap_alloc_new wr _)) (by simp [Value.oneCell']) (by omega) (by unfold maxLen; omega) (by omega) (by simp; omega) (wr.heap.size + 1) (by simp) ?_; intro g5 cap5 w6 hown6 hgrow6 hat6 hlt6; have s0 := grown_cell hgrow6 (p := ⟨b, off + k, none⟩) (alloc_kept _ c0) (fun e => by have := OW.out _ e.symm; have := B0.out.size; simp at *; omega)))
        have B6 := Lib.hid (((B.out.alloc zr (.cells #[.slice ai mi ci] 29)).drew).grown hgrow6 (Nat.le_trans zr (by simp)) (fun j hj => (O.out.lt j hj).1))
        have O6 := Lib.hid hown6
        clear hown6 hgrow6 hat6 s0 c0 sl
        go_wp2_with fail
        obtain ⟨x, hx1, hx2⟩ := NB.out
        refine ⟨⟨k + 1, by omega, by omega, by go_num, bs ++ [x], some ⟨g5, 0, none⟩, cap5, by rw [List.length_append, BL.out]; rfl, rfl, ?_, ?_, B6.out⟩, by simp [intOf]; omega⟩
        · rw [List.map_append, List.map_cons, List.map_nil, hx1]
          exact O6.out
        · intro y hy
          rcases List.mem_append.1 hy with h | h
          · exact BS.out y h
          · rw [List.mem_singleton.1 h]; exact hx2
    all_goals
      clear ho hbs hb hbl
      go_wp2_with fail
      go_ret
      exact ⟨a1, k, c1, bs, rfl, O.out, BS.out, BL.out, by omega, B.out⟩

/-- What runs on a new ledger do. -/
def foldB (C : Nat) (bs : List Bt) : LSt := runL ([], st0, List.replicate C (0, 0)) (allRq bs)
theorem foldB_take (C : Nat) (bs : List Bt) (k : Nat) (hk : k < bs.length) : foldB C (bs.take (k + 1)) = runL (foldB C (bs.take k)) bs[k].rs := by
  unfold foldB allRq
  rw [List.take_add_one, List.getElem?_eq_getElem hk, List.flatMap_append, runL_cat]
  simp
/-- One more batch run. -/
theorem run_more (S : List Nat) (gd C : Nat) (s : LSt) (x : Bt) (W w : World) (h : Led w S gd C s.1 s.2.1 s.2.2) (hx : Batch W x) (hb : Below W.heap.size W w) (hS : ∀ k ∈ S, W.heap.size ≤ k) (hn : s.1.length ≤ 4000) (s' : LSt) (hs : runL s x.rs = s') :
    Calls Try.prog 18 #[.pointer (some ⟨gd, 0, none⟩), .slice x.a x.n x.c] w fun e w' => ∃ S' a' m c' out, e = .returned (.slice a' m c') ∧ Led w' S' gd C s'.1 s'.2.1 s'.2.2 ∧ s'.1 = s.1 ++ out ∧ out.length = m ∧ m ≤ 8 ∧
      w'.ownsRow w.heap.size 38 7 (.slice a' m c') m (out.flatMap ecell) ∧ (∀ g, (Value.slice a' m c').ownBlock = some g → g ∉ S') ∧ Only S w w' ∧ (∀ k ∈ S', W.heap.size ≤ k) ∧ Below W.heap.size W w' ∧ (∀ k ∈ S', k ∈ S ∨ w.heap.size ≤ k) := by
  obtain ⟨A, st, ct⟩ := s
  obtain ⟨⟨out, st', ct'⟩, hr⟩ : ∃ y, runL ([], st, ct) x.rs = y := ⟨_, rfl⟩
  have he : s' = (A ++ out, st', ct') := by rw [← hs, runL_app, hr]
  subst he
  have hlen : out.length ≤ x.n := by
    have := (runL_inv (s := ([], st, ct)) h.sm x.rs).2.2
    rw [hr, hx.l] at this
    simpa using this
  have hx8 := hx.m
  have hn' : A.length ≤ 4000 := hn
  refine (run_c S gd C A st ct x.a x.n x.c x.rs w h (hx.v.below (hb.mono (Nat.le_refl _))) (fun h0 p hp hm => by have := hS _ hm; have := hx.s h0 p hp; omega) hx.l (by omega) hx.i out st' ct' hr out.length rfl).mono ?_
  rintro e w' ⟨S', a', c', rfl, hL, ho, hal, hon, hS'⟩
  refine ⟨S', a', out.length, c', out, rfl, hL, rfl, rfl, by omega, ho, hal, hon, fun k hk => ?_, hon.below hb hb.size hS, hS'⟩
  rcases hS' k hk with h1 | h1
  · exact hS k h1
  · exact Nat.le_trans hb.size h1
theorem foldB_len (C : Nat) (bs : List Bt) : (foldB C bs).1.length ≤ (allRq bs).length := by
  have := (runL_inv (s := ([], st0, List.replicate C (0, 0))) Smalls.zero (allRq bs)).2.2
  unfold foldB
  simpa using this

set_option maxRecDepth 100000 in
set_option maxHeartbeats 1600000 in
theorem fold_c (C : Nat) (h1 : 1 ≤ C) (h4 : C ≤ 4) (a : Option Addr) (n c : Nat) (bs : List Bt) (w : World) (h : BRow w a n bs) :
    Calls Try.prog 25 #[.int .i64 C, .slice a n c] w fun e w' => ∃ S gd, e = .returned (.tuple #[.pointer (some ⟨gd, 0, none⟩), .int .i64 0]) ∧ Led w' S gd C (foldB C bs).1 (foldB C bs).2.1 (foldB C bs).2.2 ∧ (∀ k ∈ S, w.heap.size ≤ k) ∧ Below w.heap.size w w' := by
  have H := Lib.hid h
  have LEN := Lib.hid h.len
  have hn := h.m
  clear h
  go_enter Try.func25, Try.ntmps25
  go_wp2_with fail
  refine (lnew_ok C h1 h4 _).mono ?_; rintro e w1 ⟨S, gd, rfl, hL, hS, hb1⟩
  have L1 := Lib.hid hL
  have S1 := Lib.hid hS
  have B1 := Lib.hid hb1
  clear hL hS hb1
  go_wp2_with fail
  go_loopw [20] (fun i wr => ∃ k : Nat, k ≤ n ∧ i = .int .i64 k ∧ ∃ S, Led wr S gd C (foldB C (bs.take k)).1 (foldB C (bs.take k)).2.1 (foldB C (bs.take k)).2.2 ∧ (∀ k ∈ S, w.heap.size ≤ k) ∧ Below w.heap.size w wr) (fun i _ => n - (intOf i).toNat)
  case atStart => exact ⟨0, by omega, rfl, S, L1.out, S1.out, B1.out⟩
  case round =>
    obtain ⟨k, hk, rfl, S2, hL2, hS2, hb2⟩ := hrel
    have L2 := Lib.hid hL2
    have SS := Lib.hid hS2
    have B2 := Lib.hid hb2
    clear hL2 hS2 hb2
    by_cases hlt : k < n
    · obtain ⟨b, off, rfl, hbl, hcell⟩ := (H.out.v.below B2.out).2 (by omega)
      have kb : k < bs.length := by rw [LEN.out]; exact hlt
      have c0 : wr.cell? ⟨b, off + k, none⟩ = some (bval bs[k]) := hcell k _ (by rw [List.getElem?_map, List.getElem?_eq_getElem kb]; rfl)
      have hx := H.out.b _ (List.getElem_mem kb)
      obtain ⟨s', hs'⟩ : ∃ s', foldB C (bs.take (k + 1)) = s' := ⟨_, rfl⟩
      have ft := foldB_take C bs k kb
      rw [hs'] at ft
      obtain ⟨x, hx'⟩ : ∃ x, x = bs[k] := ⟨_, rfl⟩
      rw [← hx'] at c0 hx ft
      have HX := Lib.hid hx
      have FT := Lib.hid ft.symm
      have HS := Lib.hid hs'
      have FL := Lib.hid (show (foldB C (bs.take k)).1.length ≤ 4000 by
        have h1 := foldB_len C (bs.take k)
        have h2 := allRq_len (w := w) (bs := bs.take k) (fun y hy => H.out.b y (List.mem_of_mem_take hy))
        rw [List.length_take] at h2
        omega)
      unfold bval at c0
      have i0 : (0 : Int) ≤ k := by omega
      have i1 : (k : Int) < n := by omega
      clear hcell hx ft hx' hs'
      go_wp2_with fail
      refine (run_more S2 gd C (foldB C (bs.take k)) x w _ L2.out HX.out B2.out SS.out FL.out s' FT.out).mono ?_
      rintro e w3 ⟨S3, a3, m3, c3, out3, rfl, hL3, _, _, _, _, _, _, hS3, hb3, _⟩
      have L3 := Lib.hid hL3
      have SS3 := Lib.hid hS3
      have B3 := Lib.hid hb3
      clear hL3 hS3 hb3 c0
      go_wp2_with fail
      refine ⟨⟨k + 1, by omega, by go_num, S3, ?_, SS3.out, B3.out⟩, by simp [intOf]; omega⟩
      rw [HS.out]
      exact L3.out
    · have hkn : k = n := by omega
      have e : bs.take k = bs := List.take_of_length_le (by rw [LEN.out]; omega)
      rw [e] at L2
      go_wp2_with fail
      go_ret2
      exact ⟨S2, gd, rfl, L2.out, SS.out, B2.out⟩
end Go.Proofs.Ytfhlcjfgbhmecaa
