/- ChooseSafe: for all numbers the law returns true. No condition. -/
import Derived.Test.YtpkifmophmjilaaSafeM
import Derived.Deep.CutRange
import Derived.Deep.DeepCutAuto
import Derived.Deep.CutBlock
import Derived.Test.YtpkifmophmjilaaRows
namespace Go.Proofs.Ytpkifmophmjilaa.ChooseSafe
open Go.RowKit Go.ChangeShapes Go.WideShapes Go.ChangeAt
set_option linter.unusedVariables false

/-- What holds when a view begins (its first part done): the last committed batch D, what it begins with G. -/
structure Beg (w wx : World) (gc gh n : Nat) (K : Nat → CD) (hs : Nat → Bool) (com : Bool) (D G : BD) (isb : Bool) : Prop where
  g : BOwn wx G
  gn : G.n ≤ 1
  d : BOwn wx D
  dn : D.n ≤ 1
  m : Mem w wx gc gh n K hs
  is : com = true → isb = true ∧ G.bs = D.bs
theorem Beg.below {w wx wy : World} {gc gh n : Nat} {K : Nat → CD} {hs : Nat → Bool} {com : Bool} {D G : BD} {isb : Bool} (h : Beg w wx gc gh n K hs com D G isb) (hb : Below wx.heap.size wx wy) : Beg w wy gc gh n K hs com D G isb :=
  ⟨h.g.below hb, h.gn, h.d.below hb, h.dn, h.m.below hb, h.is⟩
theorem Beg.only {w wx wy : World} {gc gh n : Nat} {K : Nat → CD} {hs : Nat → Bool} {com : Bool} {D G : BD} {isb : Bool} {S : List Nat} (h : Beg w wx gc gh n K hs com D G isb) (hS : Only S wx wy) (ht : ∀ g ∈ S, ∀ cs t, Blk wx g t cs → t ≠ 40 ∧ t ≠ 36 ∧ t ≠ 4) (hg : ∀ g ∈ S, w.heap.size ≤ g) : Beg w wy gc gh n K hs com D G isb :=
  ⟨h.g.only hS fun g hg cs t k => (ht g hg cs t k).1, h.gn, h.d.only hS fun g hg cs t k => (ht g hg cs t k).1, h.dn, h.m.only hS ht hg, h.is⟩
/-- The parts that have been looked at. -/
structure Pts (w wx : World) (n j : Nat) (K : Nat → CD) (hs : Nat → Bool) (ps : List PD) (c : Nat) (a : Option Addr) (c' : Nat) (ch : Nat → Bool) : Prop where
  row : wx.ownsRow w.heap.size 32 4 (.slice a c c') c (ps.flatMap pcell')
  len : ps.length = c
  is : ∀ p ∈ ps, PS w.heap.size wx p
  cnt : cnt ch 0 j = c
  lt : ∀ i, ch i = true → i < j
  mem : ∀ x, x ∈ certsOf ps ↔ ∃ i, i < n ∧ ch i = true ∧ hs i = true ∧ x = K i
theorem Pts.below {w wx wy : World} {n j : Nat} {K : Nat → CD} {hs : Nat → Bool} {ps : List PD} {c : Nat} {a : Option Addr} {c' : Nat} {ch : Nat → Bool} (h : Pts w wx n j K hs ps c a c' ch) (hb : Below wx.heap.size wx wy) : Pts w wy n j K hs ps c a c' ch :=
  ⟨own_below h.row hb, h.len, fun p hp => (h.is p hp).below hb, h.cnt, h.lt, h.mem⟩
theorem Pts.skip {w wx : World} {n j : Nat} {K : Nat → CD} {hs : Nat → Bool} {ps : List PD} {c : Nat} {a : Option Addr} {c' : Nat} {ch : Nat → Bool} (h : Pts w wx n j K hs ps c a c' ch) : Pts w wx n (j + 1) K hs ps c a c' ch :=
  ⟨h.row, h.len, h.is, by rw [cnt_cut ch h.lt (by omega)]; exact h.cnt, fun i hi => by have := h.lt i hi; omega, h.mem⟩
/-- One part more. -/
theorem Pts.add {w wx wy : World} {n j : Nat} {K : Nat → CD} {hs : Nat → Bool} {ps : List PD} {c : Nat} {a a5 : Option Addr} {c' c5 : Nat} {ch : Nat → Bool} (h : Pts w wx n j K hs ps c a c' ch) (hj : j < n) (p : PD) (hp : PS w.heap.size wx p) (ho : Only (a.map (·.block)).toList wx wy)
    (hr : wy.ownsRow w.heap.size 32 4 (.slice a5 (c + 1) c5) (c + 1) (ps.flatMap pcell' ++ pcell' p)) (hc : p.cs = if hs j = true then [K j] else []) :
    Pts w wy n (j + 1) K hs (ps ++ [p]) (c + 1) a5 c5 (fun i => ch i || decide (i = j)) := by
  have od : ∀ g ∈ (a.map (·.block)).toList, ∀ cs t, Blk wx g t cs → t ≠ 40 ∧ t ≠ 36 := fun g hg cs t k => by
    have := odd_row h.row (t1 := 40) (t2 := 36) (by decide) (by decide) g hg cs t k
    exact this
  refine ⟨by rw [List.flatMap_append]; simpa using hr, by rw [List.length_append, h.len]; rfl, fun q hq => ?_, ?_, fun i hi => ?_, fun x => ?_⟩
  · rcases List.mem_append.1 hq with hq | hq
    · exact (h.is q hq).only ho od
    · simp only [List.mem_singleton] at hq
      subst hq
      exact hp.only ho od
  · rw [cnt_add ch j h.lt, h.cnt]
  · simp only [Bool.or_eq_true, decide_eq_true_eq] at hi
    rcases hi with hi | hi
    · have := h.lt i hi; omega
    · omega
  · have e : certsOf (ps ++ [p]) = certsOf ps ++ p.cs := by simp [certsOf]
    rw [e, List.mem_append, h.mem x, hc]
    constructor
    · rintro (⟨i, h1, h2, h3, h4⟩ | hx)
      · exact ⟨i, h1, by simp [h2], h3, h4⟩
      · by_cases hh : hs j = true
        · rw [if_pos hh, List.mem_singleton] at hx
          exact ⟨j, hj, by simp, hh, hx⟩
        · rw [if_neg hh] at hx
          cases hx
    · rintro ⟨i, h1, h2, h3, h4⟩
      simp only [Bool.or_eq_true, decide_eq_true_eq] at h2
      by_cases he : i = j
      · subst he
        rw [if_pos h3]
        exact .inr (by simp [h4])
      · exact .inl ⟨i, h1, h2.resolve_right he, h3, h4⟩
theorem Pts.parts {w wx : World} {n j : Nat} {K : Nat → CD} {hs : Nat → Bool} {ps : List PD} {c : Nat} {a : Option Addr} {c' : Nat} {ch : Nat → Bool} (h : Pts w wx n j K hs ps c a c' ch) (hc : c ≤ 10) : Parts wx a c c' ps ∧ Small c ps :=
  ⟨⟨own_vrow h.row, h.len, own_cap h.row, own_max h.row, fun p hp => (h.is p hp).to⟩, by omega, fun p hp => by have := (h.is p hp).cn; omega, fun p hp x hx => by
    have h1 := (h.is p hp).is x hx
    have h2 := h1.bn
    have h3 := h1.v.2.1
    omega⟩
theorem Pts.bat {w wx : World} {gc gh n j : Nat} {K : Nat → CD} {hs : Nat → Bool} {ps : List PD} {c : Nat} {a : Option Addr} {c' : Nat} {ch : Nat → Bool} (h : Pts w wx n j K hs ps c a c' ch) (hm : Mem w wx gc gh n K hs) : (batchOf 0 1 ps).length ≤ 1 := by
  unfold batchOf
  cases hb : best 0 1 ps with
  | none => exact Nat.zero_le _
  | some d =>
    obtain ⟨i, hi, _, _, rfl⟩ := (h.mem d).1 (best_mem hb).1
    have h1 := (hm.own i hi).b.row.len
    have h2 := (hm.own i hi).bn
    show (K i).bs.length ≤ 1
    have h3 : (K i).bs.length = (K i).bn := h1
    omega
/-- The votes: who has voted lies well, and votes for what the view begins with. -/
structure Vts (w wx : World) (gv f n j : Nat) (V : Nat → BD) (isb : Bool) (G : BD) : Prop where
  kv : Blk wx gv 24 (vArr n V)
  own : ∀ i, f ≤ i → i < j → BOwn wx (V i) ∧ (V i).n ≤ 1
  is : isb = true → ∀ i, f ≤ i → i < j → (V i).bs = G.bs
theorem Vts.below {w wx wy : World} {gv f n j : Nat} {V : Nat → BD} {isb : Bool} {G : BD} (h : Vts w wx gv f n j V isb G) (hb : Below wx.heap.size wx wy) : Vts w wy gv f n j V isb G :=
  ⟨h.kv.below hb h.kv.lt, fun i a b => ⟨(h.own i a b).1.below hb, (h.own i a b).2⟩, h.is⟩
theorem Vts.only {w wx wy : World} {gv f n j : Nat} {V : Nat → BD} {isb : Bool} {G : BD} {S : List Nat} (h : Vts w wx gv f n j V isb G) (hS : Only S wx wy) (ht : ∀ g ∈ S, ∀ cs t, Blk wx g t cs → t ≠ 40 ∧ t ≠ 24) : Vts w wy gv f n j V isb G :=
  ⟨h.kv.only hS fun hm => (ht _ hm _ _ h.kv).2 rfl, fun i a b => ⟨(h.own i a b).1.only hS fun g hg cs t k => (ht g hg cs t k).1, (h.own i a b).2⟩, h.is⟩
theorem blk_type {w : World} {g : Nat} {t t' : TypeId} {cs cs' : Array Value} (h : Blk w g t cs) (h' : Blk w g t' cs') : t' = t := by
  unfold Blk at h h'
  rw [h] at h'
  injection h' with h'
  injection h' with _ h'
  exact h'.symm

theorem Vts.put0 {w wx : World} {gv f n j : Nat} {V : Nat → BD} {isb : Bool} {G : BD} (h : Vts w wx gv f n j V isb G) (hj : j < n) (b : BD) : Vts w (wx.setCell ⟨gv, j, none⟩ (bval b)) gv f n j (upd V j b) isb G := by
  have U : Only [gv] wx (wx.setCell ⟨gv, j, none⟩ (bval b)) := (Only.refl _ _).setCell (.inl (by simp)) _
  refine ⟨by rw [← vArr_set n V j b hj]; exact h.kv.set_ j _, fun i a c => ?_, fun hi i a c => ?_⟩
  · rw [upd_ne V b (show i ≠ j by omega)]
    exact ⟨(h.own i a c).1.only U fun g hg cs t k => by
      simp only [List.mem_singleton] at hg
      subst hg
      rw [blk_type h.kv k]; decide, (h.own i a c).2⟩
  · rw [upd_ne V b (show i ≠ j by omega)]; exact h.is hi i a c
theorem Vts.put {w wx : World} {gv f n j : Nat} {V : Nat → BD} {isb : Bool} {G : BD} (h : Vts w wx gv f n j V isb G) (hj : j < n) (b : BD) (hb : BOwn wx b) (hn : b.n ≤ 1) (hi : isb = true → b.bs = G.bs) : Vts w (wx.setCell ⟨gv, j, none⟩ (bval b)) gv f n (j + 1) (upd V j b) isb G := by
  have U : Only [gv] wx (wx.setCell ⟨gv, j, none⟩ (bval b)) := (Only.refl _ _).setCell (.inl (by simp)) _
  have h0 := h.put0 hj b
  refine ⟨h0.kv, fun i a c => ?_, fun hh i a c => ?_⟩
  · by_cases e : i = j
    · subst e
      rw [upd_same]
      exact ⟨hb.only U fun g hg cs t k => by
        simp only [List.mem_singleton] at hg
        subst hg
        rw [blk_type h.kv k]; decide, hn⟩
    · exact h0.own i a (by omega)
  · by_cases e : i = j
    · subst e; rw [upd_same]; exact hi hh
    · exact h0.is hh i a (by omega)
theorem Beg.put {w wx : World} {gc gh gv f n j : Nat} {K : Nat → CD} {hs : Nat → Bool} {com : Bool} {D G : BD} {isb : Bool} {V : Nat → BD} (h : Beg w wx gc gh n K hs com D G isb) (hv : Vts w wx gv f n j V isb G) (hg : w.heap.size ≤ gv) (i : Nat) (u : Value) : Beg w (wx.setCell ⟨gv, i, none⟩ u) gc gh n K hs com D G isb :=
  h.only (S := [gv]) ((Only.refl _ _).setCell (.inl (by simp)) _) (fun g hg cs t k => by
    simp only [List.mem_singleton] at hg
    subst hg
    rw [blk_type hv.kv k]; exact ⟨by decide, by decide, by decide⟩) (by simpa using hg)
/-- All that lies in memory while a view's batches are tried. -/
structure Vw (w wx : World) (gc gh gv f n : Nat) (K : Nat → CD) (hs : Nat → Bool) (D G : BD) (isb : Bool) (V : Nat → BD) : Prop where
  g : BOwn wx G
  gn : G.n ≤ 1
  d : BOwn wx D
  dn : D.n ≤ 1
  m : Mem w wx gc gh n K hs
  v : Vts w wx gv f n n V isb G
theorem Vw.below {w wx wy : World} {gc gh gv f n : Nat} {K : Nat → CD} {hs : Nat → Bool} {D G : BD} {isb : Bool} {V : Nat → BD} (h : Vw w wx gc gh gv f n K hs D G isb V) (hb : Below wx.heap.size wx wy) : Vw w wy gc gh gv f n K hs D G isb V :=
  ⟨h.g.below hb, h.gn, h.d.below hb, h.dn, h.m.below hb, h.v.below hb⟩
/-- A certificate is laid. -/
theorem Vw.cert {w wx wy : World} {gc gh gv f n : Nat} {K : Nat → CD} {hs : Nat → Bool} {D G b : BD} {isb : Bool} {V : Nat → BD} (h : Vw w wx gc gh gv f n K hs D G isb V) (hb : BOwn wx b) (hbn : b.n ≤ 1) (hg : w.heap.size ≤ gc ∧ w.heap.size ≤ gh ∧ gc ≠ gh) {i : Nat} (hi : i < n) (v : Int) (hv : I64 v)
    (e : wy = ((((((wx.setCell ⟨gc, i * 5, none⟩ (.int .i64 v)).setCell ⟨gc, i * 5 + 1, none⟩ (.int .i64 0)).setCell ⟨gc, i * 5 + 2, none⟩ (.int .i64 1)).setCell ⟨gc, i * 5 + 3, none⟩ (bval b)).setCell ⟨gc, i * 5 + 4, none⟩ (.slice none 0 0)).setCell ⟨gh, i, none⟩ (.bool true))) :
    Vw w wy gc gh gv f n (upd K i ⟨v, 0, 1, b.a, b.n, b.c, b.bs, none, 0, 0, []⟩) (upd hs i true) D G isb V ∧ BOwn wy b := by
  have U : Only [gc, gh] wx wy := by
    rw [e]
    exact ((((((Only.refl _ _).setCell (.inl (by simp)) _).setCell (.inl (by simp)) _).setCell (.inl (by simp)) _).setCell (.inl (by simp)) _).setCell (.inl (by simp)) _).setCell (.inl (by simp)) _
  have T : ∀ g ∈ [gc, gh], ∀ cs t, Blk wx g t cs → t = 36 ∨ t = 4 := fun g hg cs t k => by
    simp only [List.mem_cons, List.not_mem_nil, or_false] at hg
    rcases hg with rfl | rfl
    · exact .inl (blk_type h.m.kc k)
    · exact .inr (blk_type h.m.kh k)
  have T1 : ∀ g ∈ [gc, gh], ∀ cs t, Blk wx g t cs → t ≠ 40 := fun g hg cs t k => by
    rcases T g hg cs t k with rfl | rfl <;> decide
  have T2 : ∀ g ∈ [gc, gh], ∀ cs t, Blk wx g t cs → t ≠ 40 ∧ t ≠ 24 := fun g hg cs t k => by
    rcases T g hg cs t k with rfl | rfl <;> exact ⟨by decide, by decide⟩
  have hb' := hb.only U T1
  refine ⟨⟨h.g.only U T1, h.gn, h.d.only U T1, h.dn, ⟨?_, ?_, fun j hj => ?_, U.below h.m.b h.m.b.size (by simpa using ⟨hg.1, hg.2.1⟩)⟩, h.v.only U T2⟩, hb'⟩
  · rw [← cArr_set n K i _ hi, e]
    exact ((((((h.m.kc.set_ _ _).set_ _ _).set_ _ _).set_ _ _).set_ _ _)).far hg.2.2 _
  · have es : seenC n (upd hs i true) = (seenC n hs).setIfInBounds i (.bool true) := by
      rw [seenC_set n hs i hi]
      unfold seenC
      congr 1
      refine List.map_congr_left fun j _ => ?_
      unfold upd
      by_cases ej : j = i
      · simp [ej]
      · simp [ej]
    rw [es, e]
    have hne : gh ≠ gc := fun h => hg.2.2 h.symm
    exact ((((((h.m.kh.far (p := ⟨gc, i * 5, none⟩) hne _).far (p := ⟨gc, i * 5 + 1, none⟩) hne _).far (p := ⟨gc, i * 5 + 2, none⟩) hne _).far (p := ⟨gc, i * 5 + 3, none⟩) hne _).far (p := ⟨gc, i * 5 + 4, none⟩) hne _)).set_ _ _
  · by_cases ej : j = i
    · subst ej
      rw [upd_same]
      exact ⟨hb', hbn, ⟨rfl, rfl, rfl, rfl⟩, hv, I64.zero, ⟨by show (-9223372036854775808 : Int) ≤ 1; omega, by show (1 : Int) ≤ 9223372036854775807; omega⟩⟩
    · rw [upd_ne _ _ ej]
      exact (h.m.own j hj).only U T1

set_option maxRecDepth 100000 in
set_option maxHeartbeats 25600000 in
theorem walk (v0 : Int) (a1 : Option Addr) (n1 c1 : Nat) (xs : List Int) (a2 : Option Addr) (n2 c2 : Nat) (ys : List Int) (w : World) (hv0 : I64 v0) (hr1 : IntRow w a1 n1 xs) (hm1 : n1 ≤ maxLen) (hx1 : ∀ x ∈ xs, I64 x) (hr2 : IntRow w a2 n2 ys) (hm2 : n2 ≤ maxLen) (hx2 : ∀ x ∈ ys, I64 x) :
    Calls Try.prog 4 #[.int .i64 v0, .slice a1 n1 c1, .slice a2 n2 c2] w fun e w' => e = .returned (.bool true) ∧ Below w.heap.size w w' := by
  obtain ⟨tp, pi0, pz0, pz1, pz2⟩ := info_parts info_prt
  have R1 := Lib.hid hr1
  have R2 := Lib.hid hr2
  have X1 := Lib.hid hx1
  have X2 := Lib.hid hx2
  have M1 := Lib.hid hm1
  have M2 := Lib.hid hm2
  clear hr1 hr2 hx1 hx2 hm1 hm2
  go_enter Try.func4, Try.ntmps4
  go_wp2_with fail
  refine (within_q v0 3 _ hv0 (by omega) (by omega)).mono ?_; rintro e w' ⟨q0, rfl, _, q0l, q0u, rfl⟩
  obtain ⟨f, hf⟩ : ∃ f : Nat, 1 + q0 = f := ⟨(1 + q0).toNat, by omega⟩
  have f13 : 1 ≤ f ∧ f ≤ 3 := by omega
  have eF : IntKind.i64.wrap (1 + q0) = f := by rw [IntWalk.i64_in _ (by omega)]; exact hf
  obtain ⟨n, hn⟩ : ∃ n, 3 * f + 1 = n := ⟨_, rfl⟩
  obtain ⟨q, hq⟩ : ∃ q, 2 * f + 1 = q := ⟨_, rfl⟩
  have HN := Lib.hid hn
  have HQ := Lib.hid hq
  have n10 : n ≤ 10 := by omega
  have f3 : f ≤ 3 := by omega
  have fn' : f < n := by omega
  have qn : q ≤ n := by omega
  have fq : f < q := by omega
  have q7 : q ≤ 7 := by omega
  clear hf q0l q0u hn hq
  go_wp2_with fail
  refine (nodes_c f n _ f13 HN.out).mono ?_; rintro e w' ⟨rfl, rfl⟩
  go_wp2_with fail
  refine (quorum_c f q _ f13 HQ.out).mono ?_; rintro e w' ⟨rfl, rfl⟩
  clear eF
  obtain ⟨ic, ci0, cz0, cz1, cz2⟩ := info_parts info_cert
  have mkc := fun W => run_make (P := Try.prog) W 26 36 ic _ Try.underlying26 ci0 cz0 .i64 .i64 n n (by omega) (by omega) (by rw [cz2]; omega) (by omega)
  rw [cz1] at mkc
  simp only [Int.toNat_natCast, Value.cells, made_k] at mkc
  obtain ⟨ib, bi0, bz0, bz1, bz2⟩ := info_parts info_bool
  have mkb := fun W => run_make (P := Try.prog) W 48 4 ib _ Try.underlying48 bi0 bz0 .i64 .i64 n n (by omega) (by omega) (by rw [bz2]; omega) (by omega)
  rw [bz1] at mkb
  simp only [Int.toNat_natCast, Value.cells, made_h] at mkb
  go_upto_block 0 with fail
  obtain ⟨gc, hgc⟩ : ∃ gc, gc = w.heap.size := ⟨_, rfl⟩
  obtain ⟨gh, hgh⟩ : ∃ gh, gh = w.heap.size + 1 := ⟨_, rfl⟩
  obtain ⟨w1, hw1⟩ : ∃ w1, w1 = (w.alloc (.cells (cArr n (fun _ => nilC)) 36)).alloc (.cells (seenC n (fun _ => false)) 4) := ⟨_, rfl⟩
  rw [← hw1, ← hgh, ← hgc]
  have M0 : Hid (Mem w w1 gc gh n (fun _ => nilC) (fun _ => false)) := Lib.hid ⟨by rw [hw1, hgc]; exact (Blk.new w _ _).alloc _, by rw [hw1, hgh]; exact Blk.new' _ _ _ (by simp), fun i _ => nilC_own _, by rw [hw1]; exact ((Below.refl _ _).alloc (Nat.le_refl _) _).alloc (by simp) _⟩
  have GG := Lib.hid (show w.heap.size ≤ gc ∧ w.heap.size ≤ gh ∧ gc ≠ gh from ⟨by omega, by omega, by omega⟩)
  clear hw1 hgc hgh mkc mkb ci0 cz0 cz1 cz2 bi0 bz0 bz1 bz2
  go_wp2_with fail
  go_loopw [11, 12, 14, 15] (fun sd sc st sv wr => ∃ v : Nat, v ≤ 6 ∧ sv = .int .i64 v ∧ ∃ (D : BD) (com : Bool) (s : Int) (K : Nat → CD) (hs : Nat → Bool), sd = bval D ∧ sc = .bool com ∧ st = .int .i64 s ∧ 0 ≤ s ∧ s ≤ 100 * (v : Int) ∧ BOwn wr D ∧ D.n ≤ 1 ∧ Mem w wr gc gh n K hs ∧ Safe1 f n v K hs com D.bs) (fun _ _ _ sv _ => 10 - (intOf sv).toNat)
  case atStart => exact ⟨0, by omega, rfl, nilB, false, 0, _, _, rfl, rfl, rfl, by omega, by omega, nilB_own _, Nat.zero_le _, M0.out, Safe1.zero _ _ _ _⟩
  case round =>
    obtain ⟨v, hv6, rfl, D, com, s, K, hs, rfl, rfl, rfl, s0, s1, hDo, hDn, hM, hS1⟩ := hrel
    have DO := Lib.hid hDo
    have DN := Lib.hid hDn
    have MM := Lib.hid hM
    have S1 := Lib.hid hS1
    obtain ⟨da, dn, dc, dbs⟩ := D
    simp only [bval]
    clear hDo hDn hM hS1
    by_cases hlt : v < 6
    case neg =>
      have i1 : ¬ (v : Int) < 6 := by omega
      have B := Lib.hid MM.out.b
      go_wp2_with fail
      refine (chwakes_c _).mono ?_; rintro e w2 ⟨rfl, hb2⟩
      go_wp2_with fail
      go_ret
      exact ⟨rfl, B.out.trans (hb2.mono B.out.size)⟩
    case pos =>
      have i1 : (v : Int) < 6 := by omega
      go_upto_if 46 with fail
      go_cut [14, 16, 17] from 41 to 105 (fun s14 s16 s17 wx => ∃ (s' : Int) (G : BD) (isb : Bool), s14 = .int .i64 s' ∧ s16 = bval G ∧ s17 = .bool isb ∧ 0 ≤ s' ∧ s' ≤ 100 * (v : Int) + 20 ∧ Beg w wx gc gh n K hs com ⟨da, dn, dc, dbs⟩ G isb)
      case first =>
        by_cases hv0 : 0 < v
        case neg =>
          have hv : v = 0 := by omega
          have i2 : ¬ (0 : Int) < v := by omega
          have NC : Hid (com = false) := Lib.hid (by
            cases hc : com with
            | false => rfl
            | true =>
              obtain ⟨vc, e1, e2, e3⟩ := S1.out.b hc
              have := cnt_le (later K hs vc) (fun _ => false) f n fun j _ hj e => by
                unfold later at e
                simp only [Bool.and_eq_true] at e
                have := (S1.out.a j hj e.1).2.2.2
                omega
              have h0 := cnt_two (fun _ => true) (fun _ => false) f n (by simp)
              have h1 := cnt_all (fun _ => true) f n (by simp)
              omega)
          subst hv
          go_wp2_with fail
          go_meet
          exact ⟨s, nilB, false, rfl, rfl, rfl, s0, by omega, nilB_own _, Nat.zero_le _, DO.out, DN.out, MM.out, fun h => by rw [NC.out] at h; cases h⟩
        case pos =>
          have i2 : (0 : Int) < v := by omega
          go_wp2_with fail
          go_loopw [14, 18, 19] (fun st p i wx => ∃ (j : Nat) (s' : Int) (ps : List PD) (c : Nat) (a : Option Addr) (c' : Nat) (ch : Nat → Bool), j ≤ n ∧ i = .int .i64 j ∧ st = .int .i64 s' ∧ 0 ≤ s' ∧ s' ≤ 100 * (v : Int) + j ∧ p = .slice a c c' ∧ c ≤ q ∧ q + j ≤ n + c ∧ Pts w wx n j K hs ps c a c' ch ∧ BOwn wx ⟨da, dn, dc, dbs⟩ ∧ Mem w wx gc gh n K hs) (fun _ _ i _ => n - (intOf i).toNat)
          case atStart => exact ⟨0, s, [], 0, none, 0, fun _ => false, by omega, rfl, rfl, s0, by omega, rfl, by omega, by omega, ⟨⟨rfl, .inl ⟨rfl, rfl⟩⟩, rfl, by simp, rfl, by simp, by simp [certsOf]⟩, DO.out, MM.out⟩
          case round =>
            obtain ⟨wo, rfl⟩ : ∃ wo, wo = wr := ⟨_, rfl⟩
            obtain ⟨j, s', ps, c, a, c', ch, hj, rfl, rfl, t0, t1, rfl, hcq, hqj, hP, hD, hM⟩ := hrel
            have P := Lib.hid hP
            have DO := Lib.hid hD
            have MM := Lib.hid hM
            clear hP hD hM
            by_cases hlt2 : j < n ∧ c < q
            case neg =>
              have hc : c = q := by omega
              obtain ⟨l, hl⟩ : ∃ l, batches 0 ps = l := ⟨_, rfl⟩
              obtain ⟨m, hm⟩ : ∃ m, l.length = m := ⟨_, rfl⟩
              have PP := Lib.hid (P.out.parts (by omega))
              have HL := Lib.hid hl
              have HM := Lib.hid hm
              have BG := Lib.hid (S1.out.begin HN.out.symm (ps := ps) (ch := ch) (by rw [cnt_cut ch P.out.lt hj, P.out.cnt]; have := HQ.out; omega) P.out.mem)
              have hmg : m = (greatest 0 ps).toNat := by rw [← hm, ← hl, batches_len]
              have m1 : m ≤ 1 := by have := BG.out.2.1; omega
              have GL : Hid (com = true → m = 1) := Lib.hid fun h => by have := (BG.out.2.2 h).1; omega
              have GB : Hid (m = 1 → l = [batchOf 0 1 ps]) := Lib.hid fun h => by
                rw [← hl]
                unfold batches
                rw [← hmg, h]
                rfl
              have LE := Lib.hid (P.out.bat MM.out)
              clear hl hm hmg
              subst hc
              rcases (show ¬ j < n ∨ (j < n ∧ ¬ c < c) by omega) with hx | ⟨hx, hy⟩
              · have i3 : ¬ (j : Int) < n := by omega
                clear hx hlt2
                go_wp2_with fail
                refine (batches_o 0 a c c' ps _ PP.out.1 PP.out.2 I64.zero l HL.out m HM.out).mono ?_; rintro e w6 ⟨a6, c6, rfl, hB, hb6⟩
                have D6 := Lib.hid (DO.out.below hb6)
                have M6 := Lib.hid (MM.out.below hb6)
                have BE := Lib.hid hB
                clear hB hb6
                by_cases hm0 : m = 0
                · subst hm0
                  cases com with
                  | true => exact absurd (GL.out rfl) (by omega)
                  | false =>
                    go_wp2_with fail
                    go_meet
                    exact ⟨s', nilB, false, rfl, rfl, rfl, t0, by omega, nilB_own _, Nat.zero_le _, D6.out, DN.out, M6.out, by simp⟩
                · have hm1 : m = 1 := by omega
                  subst hm1
                  obtain ⟨bds, h1, h2, h3⟩ := BE.out.ex
                  rw [GB.out rfl] at h3
                  obtain ⟨b, rfl⟩ : ∃ b, bds = [b] := by
                    match bds, h3 with
                    | [b], _ => exact ⟨b, rfl⟩
                  obtain ⟨g6, rfl⟩ : ∃ g6, a6 = some ⟨g6, 0, none⟩ := by
                    rcases h1.2 with ⟨hv, h0⟩ | ⟨g, cp, cur, hv, _⟩
                    · omega
                    · injection hv with hv
                      exact ⟨g, hv⟩
                  have x0 : w6.cell? ⟨g6, 0, none⟩ = some (.slice b.a b.n b.c) := (Row.of_own h1).cell rfl
                  have hbb : b.bs = batchOf 0 1 ps := by simpa using h3
                  have BO := Lib.hid (h2 b (by simp))
                  have BN : Hid (b.n ≤ 1) := Lib.hid (by
                    have e1 := BO.out.row.len
                    have e2 := LE.out
                    rw [← hbb] at e2
                    omega)
                  have BD' : Hid (com = true → b.bs = dbs) := Lib.hid fun h => hbb.trans (BG.out.2.2 h).2
                  clear h1 h2 h3 hbb hm0
                  cases com with
                  | true =>
                    go_wp2_with fail
                    refine (same_1 b.a da b.n dn b.c dc b.bs dbs _ BO.out.row D6.out.row (by have := BN.out; omega) true (decide_eq_true (BD'.out (by first | rfl | trivial)))).mono ?_; rintro e w8 ⟨rfl, hb8⟩
                    go_wp2_with fail
                    go_meet
                    exact ⟨s', b, true, rfl, rfl, rfl, t0, by omega, BO.out.below hb8, BN.out, D6.out.below hb8, DN.out, M6.out.below hb8, fun h => ⟨rfl, BD'.out (by first | rfl | trivial)⟩⟩
                  | false =>
                    go_wp2_with fail
                    go_meet
                    exact ⟨s', b, true, rfl, rfl, rfl, t0, by omega, BO.out, BN.out, D6.out, DN.out, M6.out, by simp⟩
              · have i3 : (j : Int) < n := by omega
                clear hx hy hlt2
                go_wp2_with fail
                refine (batches_o 0 a c c' ps _ PP.out.1 PP.out.2 I64.zero l HL.out m HM.out).mono ?_; rintro e w6 ⟨a6, c6, rfl, hB, hb6⟩
                have D6 := Lib.hid (DO.out.below hb6)
                have M6 := Lib.hid (MM.out.below hb6)
                have BE := Lib.hid hB
                clear hB hb6
                by_cases hm0 : m = 0
                · subst hm0
                  cases com with
                  | true => exact absurd (GL.out rfl) (by omega)
                  | false =>
                    go_wp2_with fail
                    go_meet
                    exact ⟨s', nilB, false, rfl, rfl, rfl, t0, by omega, nilB_own _, Nat.zero_le _, D6.out, DN.out, M6.out, by simp⟩
                · have hm1 : m = 1 := by omega
                  subst hm1
                  obtain ⟨bds, h1, h2, h3⟩ := BE.out.ex
                  rw [GB.out rfl] at h3
                  obtain ⟨b, rfl⟩ : ∃ b, bds = [b] := by
                    match bds, h3 with
                    | [b], _ => exact ⟨b, rfl⟩
                  obtain ⟨g6, rfl⟩ : ∃ g6, a6 = some ⟨g6, 0, none⟩ := by
                    rcases h1.2 with ⟨hv, h0⟩ | ⟨g, cp, cur, hv, _⟩
                    · omega
                    · injection hv with hv
                      exact ⟨g, hv⟩
                  have x0 : w6.cell? ⟨g6, 0, none⟩ = some (.slice b.a b.n b.c) := (Row.of_own h1).cell rfl
                  have hbb : b.bs = batchOf 0 1 ps := by simpa using h3
                  have BO := Lib.hid (h2 b (by simp))
                  have BN : Hid (b.n ≤ 1) := Lib.hid (by
                    have e1 := BO.out.row.len
                    have e2 := LE.out
                    rw [← hbb] at e2
                    omega)
                  have BD' : Hid (com = true → b.bs = dbs) := Lib.hid fun h => hbb.trans (BG.out.2.2 h).2
                  clear h1 h2 h3 hbb hm0
                  cases com with
                  | true =>
                    go_wp2_with fail
                    refine (same_1 b.a da b.n dn b.c dc b.bs dbs _ BO.out.row D6.out.row (by have := BN.out; omega) true (decide_eq_true (BD'.out (by first | rfl | trivial)))).mono ?_; rintro e w8 ⟨rfl, hb8⟩
                    go_wp2_with fail
                    go_meet
                    exact ⟨s', b, true, rfl, rfl, rfl, t0, by omega, BO.out.below hb8, BN.out, D6.out.below hb8, DN.out, M6.out.below hb8, fun h => ⟨rfl, BD'.out (by first | rfl | trivial)⟩⟩
                  | false =>
                    go_wp2_with fail
                    go_meet
                    exact ⟨s', b, true, rfl, rfl, rfl, t0, by omega, BO.out, BN.out, D6.out, DN.out, M6.out, by simp⟩
            case pos =>
              have i3 : (j : Int) < n := by omega
              have i4 : (c : Int) < q := by omega
              have i5 : (0 : Int) ≤ j := by omega
              have e1 : IntKind.i64.wrap ((n : Int) - j) = n - j := IntWalk.i64_in _ (by omega)
              have e2 : IntKind.i64.wrap (s' + 1) = s' + 1 := IntWalk.i64_in _ (by omega)
              have e3 : IntKind.i64.wrap ((q : Int) - c) = q - c := IntWalk.i64_in _ (by omega)
              clear hlt2
              go_upto_region 21 with fail
              go_cut [76] from 63 to 75 (fun sb wx => ∃ t : Bool, sb = .bool t ∧ wx = wo ∧ (t = true → q + j < n + c))
              case first =>
                by_cases hl : q + j < n + c
                · have i6 : (q : Int) - c < n - j := by omega
                  go_wp2_with fail
                  refine (at_c a2 n2 c2 ys (s' + 1) _ (R2.out.below MM.out.b) M2.out X2.out ⟨by omega, by omega⟩).mono ?_; rintro e w' ⟨x, rfl, _, rfl⟩
                  go_wp2_with fail
                  go_meet
                  exact ⟨_, rfl, rfl, fun _ => hl⟩
                · have i6 : ¬ (q : Int) - c < n - j := by omega
                  go_wp2_with fail
                  go_meet
                  exact ⟨false, rfl, rfl, by simp⟩
              case rest =>
                obtain ⟨t, rfl, rfl, ht⟩ := hcut
                obtain ⟨wx, hwx⟩ : ∃ wx, wx = wc := ⟨_, rfl⟩
                rw [← hwx] at P DO MM ⊢
                have HT := Lib.hid ht
                clear hwx ht
                cases t with
                | true =>
                  go_wp2_with fail
                  go_roundw
                  case rel => exact ⟨j + 1, s' + 1, ps, c, a, c', ch, by omega, by go_num, rfl, by omega, by omega, rfl, hcq, by have := HT.out rfl; omega, P.out.skip, DO.out, MM.out⟩
                  case measure => simp [intOf]; omega
                | false =>
                  go_upto_region 23 with fail
                  obtain ⟨w3, hw3⟩ : ∃ w3, w3 = wx.alloc (.cells #[.int .i64 j, .slice none 0 0, .slice none 0 0, .int .i64 0] 32) := ⟨_, rfl⟩
                  obtain ⟨gp, hgp⟩ : ∃ gp, gp = wx.heap.size := ⟨_, rfl⟩
                  rw [← hw3, ← hgp]
                  have b3 : Below wx.heap.size wx w3 := by rw [hw3]; exact (Below.refl _ _).alloc (Nat.le_refl _) _
                  have K3 : Hid (Blk w3 gp 32 #[.int .i64 j, .slice none 0 0, .slice none 0 0, .int .i64 0]) := Lib.hid (by rw [hw3, hgp]; exact Blk.new _ _ _)
                  have GP : Hid (w.heap.size ≤ gp) := Lib.hid (by rw [hgp]; exact MM.out.b.size)
                  have P3 := Lib.hid (P.out.below b3)
                  have D3 := Lib.hid (DO.out.below b3)
                  have M3 := Lib.hid (MM.out.below b3)
                  have OFF : Hid (∀ g, (Value.slice a c c').ownBlock = some g → g ≠ gp) := Lib.hid fun g hg => by
                    have := (World.ownsRow.lt P.out.row g hg).2
                    omega
                  clear hw3 hgp b3 P DO MM
                  have hc : w3.cell? ⟨gh, j, none⟩ = some (.bool (hs j)) := by rw [M3.out.kh.cell j, seenC_get n hs j (by omega)]
                  rcases (show (f ≤ j ∧ hs j = true) ∨ (f ≤ j ∧ hs j = false) ∨ (¬ f ≤ j ∧ hs j = false) by
                      cases hh : hs j with
                      | true => exact .inl ⟨(S1.out.a j (by omega) hh).1, rfl⟩
                      | false => by_cases h : f ≤ j
                                 · exact .inr (.inl ⟨h, rfl⟩)
                                 · exact .inr (.inr ⟨h, rfl⟩)) with ⟨hfj, hh⟩ | ⟨hfj, hh⟩ | ⟨hfj, hh⟩
                  · rw [hh] at hc
                    have HH := Lib.hid hh
                    clear hh
                    have i6 : (f : Int) ≤ j := by omega
                    have cb := M3.out.own j (by omega)
                    obtain ⟨cv0, cv1, cv2, cv3⟩ := cb.v
                    have y0 : w3.cell? ⟨gc, j * 5, none⟩ = some (.int .i64 (K j).view) := (M3.out.kc.cell _).trans (cArr_get n K j 0 (by omega) (by omega) _ rfl)
                    have y1 : w3.cell? ⟨gc, j * 5 + 1, none⟩ = some (.int .i64 (K j).inst) := (M3.out.kc.cell _).trans (cArr_get n K j 1 (by omega) (by omega) _ rfl)
                    have y2 : w3.cell? ⟨gc, j * 5 + 2, none⟩ = some (.int .i64 (K j).seq) := (M3.out.kc.cell _).trans (cArr_get n K j 2 (by omega) (by omega) _ rfl)
                    have y3 : w3.cell? ⟨gc, j * 5 + 3, none⟩ = some (.slice (K j).ba (K j).bn (K j).bc) := (M3.out.kc.cell _).trans (cArr_get n K j 3 (by omega) (by omega) _ rfl)
                    have y4 : w3.cell? ⟨gc, j * 5 + 4, none⟩ = some (.slice none 0 0) := (M3.out.kc.cell _).trans (cArr_get n K j 4 (by omega) (by omega) _ (by show some (Value.slice (K j).va (K j).vn (K j).vc) = _; rw [cv0, cv1, cv2]))
                    have CC : Hid (ccell (K j) = [.int .i64 (K j).view, .int .i64 (K j).inst, .int .i64 (K j).seq, .slice (K j).ba (K j).bn (K j).bc, .slice none 0 0]) := Lib.hid (by show [_, _, _, _, Value.slice (K j).va (K j).vn (K j).vc] = _; rw [cv0, cv1, cv2])
                    obtain ⟨xv, hxv⟩ : ∃ z, z = (K j).view := ⟨_, rfl⟩
                    obtain ⟨xi, hxi⟩ : ∃ z, z = (K j).inst := ⟨_, rfl⟩
                    obtain ⟨xs', hxs⟩ : ∃ z, z = (K j).seq := ⟨_, rfl⟩
                    obtain ⟨xba, hxba⟩ : ∃ z, z = (K j).ba := ⟨_, rfl⟩
                    obtain ⟨xbn, hxbn⟩ : ∃ z, z = (K j).bn := ⟨_, rfl⟩
                    obtain ⟨xbc, hxbc⟩ : ∃ z, z = (K j).bc := ⟨_, rfl⟩
                    rw [← hxv, ← hxi, ← hxs, ← hxba, ← hxbn, ← hxbc] at CC
                    rw [← hxv] at y0
                    rw [← hxi] at y1
                    rw [← hxs] at y2
                    rw [← hxba, ← hxbn, ← hxbc] at y3
                    obtain ⟨gq, hgq⟩ : ∃ gq, gq = w3.heap.size := ⟨_, rfl⟩
                    obtain ⟨w4, hw4⟩ : ∃ w4, w4 = w3.alloc (.cells #[.int .i64 xv, .int .i64 xi, .int .i64 xs', .slice xba xbn xbc, .slice none 0 0] 36) := ⟨_, rfl⟩
                    have d2 : (w3.alloc (.cells #[.int .i64 xv, .int .i64 xi, .int .i64 xs', .slice xba xbn xbc, .slice none 0 0] 36)).cell? ⟨gp, 2, none⟩ = some (.slice none 0 0) := (K3.out.alloc _).cell 2
                    have f2 := (K3.out.alloc (.cells #[.int .i64 xv, .int .i64 xi, .int .i64 xs', .slice xba xbn xbc, .slice none 0 0] 36)).frozen 2
                    have b4 : Below w3.heap.size w3 w4 := by rw [hw4]; exact (Below.refl _ _).alloc (Nat.le_refl _) _
                    have KC4 : Hid (Blk w4 gq 36 #[.int .i64 xv, .int .i64 xi, .int .i64 xs', .slice xba xbn xbc, .slice none 0 0]) := Lib.hid (by rw [hw4, hgq]; exact Blk.new _ _ _)
                    have K4 := Lib.hid (K3.out.below b4 K3.out.lt)
                    have P4 := Lib.hid (P3.out.below b4)
                    have D4 := Lib.hid (D3.out.below b4)
                    have M4 := Lib.hid (M3.out.below b4)
                    have GQ : Hid (w.heap.size ≤ gq) := Lib.hid (by rw [hgq]; exact M3.out.b.size)
                    clear hxv hxi hxs hxba hxbn hxbc cb cv0 cv1 cv2 cv3 b4
                    go_upto_region 25 with fail
                    obtain ⟨w5, hw5⟩ : ∃ w5, w5 = w4.setCell ⟨gp, 2, none⟩ (.slice (some ⟨gq, 0, none⟩) 1 1) := ⟨_, rfl⟩
                    rw [← hw4, ← hgq, ← hw5]
                    have U5 : Only [gp] w4 w5 := by rw [hw5]; exact (Only.refl _ _).setCell (.inl (by simp)) _
                    have T5 : ∀ g ∈ [gp], ∀ cs t, Blk w4 g t cs → t = 32 := fun g hg cs t k => by
                      simp only [List.mem_singleton] at hg
                      subst hg
                      exact blk_type K4.out k
                    have KQ : Hid (Blk w5 gp 32 #[.int .i64 j, .slice none 0 0, .slice (some ⟨gq, 0, none⟩) 1 1, .int .i64 0]) := Lib.hid (by rw [hw5]; exact K4.out.set_ 2 _)
                    have KC5 := Lib.hid (KC4.out.only U5 (by simp only [List.mem_singleton]; exact Blk.ne_ KC4.out K4.out (by decide)))
                    have PQ : Hid (Pts w w5 n j K hs ps c a c' ch) := Lib.hid ⟨own_only P4.out.row U5 fun g hg hm => OFF.out g hg (by simpa using hm), P4.out.len, fun p hp => (P4.out.is p hp).only U5 fun g hg cs t k => by rw [T5 g hg cs t k]; exact ⟨by decide, by decide⟩, P4.out.cnt, P4.out.lt, P4.out.mem⟩
                    have DQ := Lib.hid (D4.out.only U5 fun g hg cs t k => by rw [T5 g hg cs t k]; decide)
                    have MQ := Lib.hid (M4.out.only U5 (fun g hg cs t k => by rw [T5 g hg cs t k]; exact ⟨by decide, by decide, by decide⟩) (by simpa using GP.out))
                    have NQ : Hid (PS w.heap.size w5 (PD.mk j none 0 0 [] (some ⟨gq, 0, none⟩) 1 1 [K j] 0)) := Lib.hid ⟨⟨rfl, rfl, rfl, rfl⟩, by
                        have := Row.own (Row.of_blk (n := 1) (s := 5) KC5.out rfl (by unfold maxLen; omega)) GQ.out
                        simpa [CC.out] using this, rfl, Nat.le_refl _, fun x hx => by
                        simp only [List.mem_singleton] at hx
                        subst hx
                        exact MQ.out.own j (by omega), (show I64 (j : Int) from ⟨by omega, by omega⟩), I64.zero⟩
                    clear hw5 hw4 hgq U5 T5 d2 f2 y0 y1 y2 y3 y4 hc P4 D4 M4 K4 KC4 P3 D3 M3 K3
                    have p0 : w5.cell? ⟨gp, 0, none⟩ = some (.int .i64 j) := KQ.out.cell 0
                    have p1 : w5.cell? ⟨gp, 1, none⟩ = some (.slice none 0 0) := KQ.out.cell 1
                    have p2 : w5.cell? ⟨gp, 2, none⟩ = some (.slice (some ⟨gq, 0, none⟩) 1 1) := KQ.out.cell 2
                    have p3 : w5.cell? ⟨gp, 3, none⟩ = some (.int .i64 0) := KQ.out.cell 3
                    obtain ⟨w6, hw6⟩ : ∃ w6, w6 = w5.alloc (.cells #[.int .i64 j, .slice none 0 0, .slice (some ⟨gq, 0, none⟩) 1 1, .int .i64 0] 32) := ⟨_, rfl⟩
                    have b6 : Below w5.heap.size w5 w6 := by rw [hw6]; exact (Below.refl _ _).alloc (Nat.le_refl _) _
                    have P6 := Lib.hid (PQ.out.below b6)
                    have D6 := Lib.hid (DQ.out.below b6)
                    have M6 := Lib.hid (MQ.out.below b6)
                    have N6 := Lib.hid (NQ.out.below b6)
                    have V6 : Hid (VRow w6 (some ⟨w5.heap.size, 0, none⟩) 1 4 (pcell' (PD.mk j none 0 0 [] (some ⟨gq, 0, none⟩) 1 1 [K j] 0))) := Lib.hid (by rw [hw6]; exact VRow.of_blk (n := 1) (s := 4) (Blk.new w5 32 #[.int .i64 j, .slice none 0 0, .slice (some ⟨gq, 0, none⟩) 1 1, .int .i64 0]) rfl)
                    have X6 := Lib.hid (show ∀ u ∈ pcell' (PD.mk j none 0 0 [] (some ⟨gq, 0, none⟩) 1 1 [K j] 0), u.oneCell' = true from fun u hu => pcell'_one [_] u (by simpa using hu))
                    have O6 := Lib.hid P6.out.row
                    have B6 := Lib.hid M6.out.b
                    have HW := Lib.hid hw6
                    clear hw6 b6
                    go_wp2_with (at_builtin; rw [← HW.out]; refine wpList_app rfl _ _ _ rfl w.heap.size 32 tp _ 4 64 Try.underlying22 pi0 pz0 pz1 pz2 rfl (by omega) a c c' (ps.flatMap pcell') rfl O6.out (some ⟨w5.heap.size, 0, none⟩) 1 1 (pcell' (PD.mk j none 0 0 [] (some ⟨gq, 0, none⟩) 1 1 [K j] 0)) rfl V6.out X6.out (by unfold maxLen; omega) (by omega) B6.out.size ?_; intro a7 c7 w7 h7)
                    have od1 := odd_row O6.out (t1 := 40) (t2 := 36) (by decide) (by decide)
                    have od2 := odd_row O6.out (t1 := 4) (t2 := 4) (by decide) (by decide)
                    have P7 := Lib.hid (P6.out.add (by omega) (PD.mk j none 0 0 [] (some ⟨gq, 0, none⟩) 1 1 [K j] 0) N6.out h7.only h7.own (by rw [if_pos HH.out]))
                    have D7 := Lib.hid (D6.out.only h7.only fun g hg cs t k => (od1 g hg cs t k).1)
                    have GE : ∀ g ∈ (a.map (·.block)).toList, w.heap.size ≤ g := fun g hg => (World.ownsRow.lt O6.out g (by rw [own_block_eq]; exact Option.mem_toList.1 hg)).1
                    have M7 := Lib.hid (M6.out.only h7.only (fun g hg cs t k => ⟨(od1 g hg cs t k).1, (od1 g hg cs t k).2, (od2 g hg cs t k).1⟩) GE)
                    clear h7 od1 od2 GE p0 p1 p2 p3
                    go_wp2_with fail
                    go_roundw
                    case rel => exact ⟨j + 1, s' + 1, _, c + 1, a7, c7, _, by omega, by go_num, rfl, by omega, by omega, by go_num, by omega, by omega, P7.out, D7.out, M7.out⟩
                    case measure => simp [intOf]; omega
                  · rw [hh] at hc
                    have HH := Lib.hid hh
                    have i6 : (f : Int) ≤ j := by omega
                    have KQ := K3
                    have PQ := P3
                    have DQ := D3
                    have MQ := M3
                    have NQ : Hid (PS w.heap.size w3 (PD.mk j none 0 0 [] none 0 0 [] 0)) := Lib.hid ⟨⟨rfl, rfl, rfl, rfl⟩, ⟨rfl, .inl ⟨rfl, rfl⟩⟩, rfl, Nat.zero_le _, by simp, (show I64 (j : Int) from ⟨by omega, by omega⟩), I64.zero⟩
                    clear hh K3 P3 D3 M3
                    go_upto_region 25 with fail
                    clear hc
                    have p0 : w3.cell? ⟨gp, 0, none⟩ = some (.int .i64 j) := KQ.out.cell 0
                    have p1 : w3.cell? ⟨gp, 1, none⟩ = some (.slice none 0 0) := KQ.out.cell 1
                    have p2 : w3.cell? ⟨gp, 2, none⟩ = some (.slice none 0 0) := KQ.out.cell 2
                    have p3 : w3.cell? ⟨gp, 3, none⟩ = some (.int .i64 0) := KQ.out.cell 3
                    obtain ⟨w6, hw6⟩ : ∃ w6, w6 = w3.alloc (.cells #[.int .i64 j, .slice none 0 0, .slice none 0 0, .int .i64 0] 32) := ⟨_, rfl⟩
                    have b6 : Below w3.heap.size w3 w6 := by rw [hw6]; exact (Below.refl _ _).alloc (Nat.le_refl _) _
                    have P6 := Lib.hid (PQ.out.below b6)
                    have D6 := Lib.hid (DQ.out.below b6)
                    have M6 := Lib.hid (MQ.out.below b6)
                    have N6 := Lib.hid (NQ.out.below b6)
                    have V6 : Hid (VRow w6 (some ⟨w3.heap.size, 0, none⟩) 1 4 (pcell' (PD.mk j none 0 0 [] none 0 0 [] 0))) := Lib.hid (by rw [hw6]; exact VRow.of_blk (n := 1) (s := 4) (Blk.new w3 32 #[.int .i64 j, .slice none 0 0, .slice none 0 0, .int .i64 0]) rfl)
                    have X6 := Lib.hid (show ∀ u ∈ pcell' (PD.mk j none 0 0 [] none 0 0 [] 0), u.oneCell' = true from fun u hu => pcell'_one [_] u (by simpa using hu))
                    have O6 := Lib.hid P6.out.row
                    have B6 := Lib.hid M6.out.b
                    have HW := Lib.hid hw6
                    clear hw6 b6
                    go_wp2_with (at_builtin; rw [← HW.out]; refine wpList_app rfl _ _ _ rfl w.heap.size 32 tp _ 4 64 Try.underlying22 pi0 pz0 pz1 pz2 rfl (by omega) a c c' (ps.flatMap pcell') rfl O6.out (some ⟨w3.heap.size, 0, none⟩) 1 1 (pcell' (PD.mk j none 0 0 [] none 0 0 [] 0)) rfl V6.out X6.out (by unfold maxLen; omega) (by omega) B6.out.size ?_; intro a7 c7 w7 h7)
                    have od1 := odd_row O6.out (t1 := 40) (t2 := 36) (by decide) (by decide)
                    have od2 := odd_row O6.out (t1 := 4) (t2 := 4) (by decide) (by decide)
                    have P7 := Lib.hid (P6.out.add (by omega) (PD.mk j none 0 0 [] none 0 0 [] 0) N6.out h7.only h7.own (by rw [if_neg (by rw [HH.out]; decide)]))
                    have D7 := Lib.hid (D6.out.only h7.only fun g hg cs t k => (od1 g hg cs t k).1)
                    have GE : ∀ g ∈ (a.map (·.block)).toList, w.heap.size ≤ g := fun g hg => (World.ownsRow.lt O6.out g (by rw [own_block_eq]; exact Option.mem_toList.1 hg)).1
                    have M7 := Lib.hid (M6.out.only h7.only (fun g hg cs t k => ⟨(od1 g hg cs t k).1, (od1 g hg cs t k).2, (od2 g hg cs t k).1⟩) GE)
                    clear h7 od1 od2 GE p0 p1 p2 p3
                    go_wp2_with fail
                    go_roundw
                    case rel => exact ⟨j + 1, s' + 1, _, c + 1, a7, c7, _, by omega, by go_num, rfl, by omega, by omega, by go_num, by omega, by omega, P7.out, D7.out, M7.out⟩
                    case measure => simp [intOf]; omega
                  · have HH := Lib.hid hh
                    have i6 : ¬ (f : Int) ≤ j := by omega
                    have KQ := K3
                    have PQ := P3
                    have DQ := D3
                    have MQ := M3
                    have NQ : Hid (PS w.heap.size w3 (PD.mk j none 0 0 [] none 0 0 [] 0)) := Lib.hid ⟨⟨rfl, rfl, rfl, rfl⟩, ⟨rfl, .inl ⟨rfl, rfl⟩⟩, rfl, Nat.zero_le _, by simp, (show I64 (j : Int) from ⟨by omega, by omega⟩), I64.zero⟩
                    clear hh hc K3 P3 D3 M3
                    go_upto_region 25 with fail
                    have p0 : w3.cell? ⟨gp, 0, none⟩ = some (.int .i64 j) := KQ.out.cell 0
                    have p1 : w3.cell? ⟨gp, 1, none⟩ = some (.slice none 0 0) := KQ.out.cell 1
                    have p2 : w3.cell? ⟨gp, 2, none⟩ = some (.slice none 0 0) := KQ.out.cell 2
                    have p3 : w3.cell? ⟨gp, 3, none⟩ = some (.int .i64 0) := KQ.out.cell 3
                    obtain ⟨w6, hw6⟩ : ∃ w6, w6 = w3.alloc (.cells #[.int .i64 j, .slice none 0 0, .slice none 0 0, .int .i64 0] 32) := ⟨_, rfl⟩
                    have b6 : Below w3.heap.size w3 w6 := by rw [hw6]; exact (Below.refl _ _).alloc (Nat.le_refl _) _
                    have P6 := Lib.hid (PQ.out.below b6)
                    have D6 := Lib.hid (DQ.out.below b6)
                    have M6 := Lib.hid (MQ.out.below b6)
                    have N6 := Lib.hid (NQ.out.below b6)
                    have V6 : Hid (VRow w6 (some ⟨w3.heap.size, 0, none⟩) 1 4 (pcell' (PD.mk j none 0 0 [] none 0 0 [] 0))) := Lib.hid (by rw [hw6]; exact VRow.of_blk (n := 1) (s := 4) (Blk.new w3 32 #[.int .i64 j, .slice none 0 0, .slice none 0 0, .int .i64 0]) rfl)
                    have X6 := Lib.hid (show ∀ u ∈ pcell' (PD.mk j none 0 0 [] none 0 0 [] 0), u.oneCell' = true from fun u hu => pcell'_one [_] u (by simpa using hu))
                    have O6 := Lib.hid P6.out.row
                    have B6 := Lib.hid M6.out.b
                    have HW := Lib.hid hw6
                    clear hw6 b6
                    go_wp2_with (at_builtin; rw [← HW.out]; refine wpList_app rfl _ _ _ rfl w.heap.size 32 tp _ 4 64 Try.underlying22 pi0 pz0 pz1 pz2 rfl (by omega) a c c' (ps.flatMap pcell') rfl O6.out (some ⟨w3.heap.size, 0, none⟩) 1 1 (pcell' (PD.mk j none 0 0 [] none 0 0 [] 0)) rfl V6.out X6.out (by unfold maxLen; omega) (by omega) B6.out.size ?_; intro a7 c7 w7 h7)
                    have od1 := odd_row O6.out (t1 := 40) (t2 := 36) (by decide) (by decide)
                    have od2 := odd_row O6.out (t1 := 4) (t2 := 4) (by decide) (by decide)
                    have P7 := Lib.hid (P6.out.add (by omega) (PD.mk j none 0 0 [] none 0 0 [] 0) N6.out h7.only h7.own (by rw [if_neg (by rw [HH.out]; decide)]))
                    have D7 := Lib.hid (D6.out.only h7.only fun g hg cs t k => (od1 g hg cs t k).1)
                    have GE : ∀ g ∈ (a.map (·.block)).toList, w.heap.size ≤ g := fun g hg => (World.ownsRow.lt O6.out g (by rw [own_block_eq]; exact Option.mem_toList.1 hg)).1
                    have M7 := Lib.hid (M6.out.only h7.only (fun g hg cs t k => ⟨(od1 g hg cs t k).1, (od1 g hg cs t k).2, (od2 g hg cs t k).1⟩) GE)
                    clear h7 od1 od2 GE p0 p1 p2 p3
                    go_wp2_with fail
                    go_roundw
                    case rel => exact ⟨j + 1, s' + 1, _, c + 1, a7, c7, _, by omega, by go_num, rfl, by omega, by omega, by go_num, by omega, by omega, P7.out, D7.out, M7.out⟩
                    case measure => simp [intOf]; omega
      case rest =>
        obtain ⟨s', G, isb, rfl, rfl, rfl, t0, t1, hB⟩ := hcut
        have BG := Lib.hid hB
        obtain ⟨ga, gn, gcp, gbs⟩ := G
        simp only [bval]
        clear hB MM DO
        obtain ⟨iv, vi0, vz0, vz1, vz2⟩ := info_parts info_batch
        have mkv := fun W => run_make (P := Try.prog) W 41 24 iv _ Try.underlying41 vi0 vz0 .i64 .i64 n n (by omega) (by omega) (by rw [vz2]; omega) (by omega)
        rw [vz1] at mkv
        simp only [Int.toNat_natCast, Value.cells, made_v] at mkv
        clear vi0 vz0 vz1 vz2
        go_upto_region 32 with fail
        obtain ⟨gv, hgv⟩ : ∃ gv, gv = wc.heap.size := ⟨_, rfl⟩
        obtain ⟨w2, hw2⟩ : ∃ w2, w2 = wc.alloc (.cells (vArr n (fun _ => nilB)) 24) := ⟨_, rfl⟩
        rw [← hw2, ← hgv]
        have V2 : Hid (Vts w w2 gv f n f (fun _ => nilB) isb ⟨ga, gn, gcp, gbs⟩) := Lib.hid ⟨by rw [hw2, hgv]; exact Blk.new _ _ _, fun i a b => absurd a (by omega), fun _ i a b => absurd a (by omega)⟩
        have B2 : Hid (Beg w w2 gc gh n K hs com ⟨da, dn, dc, dbs⟩ ⟨ga, gn, gcp, gbs⟩ isb) := Lib.hid (by rw [hw2]; exact BG.out.below ((Below.refl _ _).alloc (Nat.le_refl _) _))
        have GV : Hid (w.heap.size ≤ gv) := Lib.hid (by rw [hgv]; exact BG.out.m.b.size)
        clear hw2 hgv mkv BG
        go_wp2_with fail
        go_loopw [14, 24] (fun st i wx => ∃ (j : Nat) (s' : Int) (V : Nat → BD), f ≤ j ∧ j ≤ n ∧ i = .int .i64 j ∧ st = .int .i64 s' ∧ 0 ≤ s' ∧ s' ≤ 100 * (v : Int) + 20 + j ∧ Vts w wx gv f n j V isb ⟨ga, gn, gcp, gbs⟩ ∧ Beg w wx gc gh n K hs com ⟨da, dn, dc, dbs⟩ ⟨ga, gn, gcp, gbs⟩ isb) (fun _ i _ => n - (intOf i).toNat)
        case atStart => exact ⟨f, s', _, by omega, by omega, rfl, rfl, t0, by omega, V2.out, B2.out⟩
        case round =>
          obtain ⟨j, s', V, hfj, hj, rfl, rfl, t0, t1, hV, hB⟩ := hrel
          have VT := Lib.hid hV
          have BG := Lib.hid hB
          clear hV hB V2 B2
          by_cases hlt2 : j < n
          case pos =>
            have i3 : (j : Int) < n := by omega
            have i5 : (0 : Int) ≤ j := by omega
            have e2 : IntKind.i64.wrap (s' + 1) = s' + 1 := IntWalk.i64_in _ (by omega)
            go_wp2_with fail
            refine (at_c a1 n1 c1 xs (s' + 1) _ (R1.out.below BG.out.m.b) M1.out X1.out ⟨by omega, by omega⟩).mono ?_; rintro e w' ⟨x, rfl, hx, rfl⟩
            obtain ⟨wx, hwx⟩ : ∃ wx, wx = wr := ⟨_, rfl⟩
            go_wp2_with fail
            refine (batch_c x _ hx).mono ?_; rintro e w6 ⟨b, rfl, hbn, hbo, hb6⟩
            obtain ⟨ba, bn, bc, bbs⟩ := b
            simp only at hbn
            subst hbn
            simp only [bval]
            have V6 := Lib.hid (VT.out.below hb6)
            have B6 := Lib.hid (BG.out.below hb6)
            have O6 := Lib.hid hbo
            have c6 : w6.cell? ⟨gv, j, none⟩ = some (.slice (V j).a (V j).n (V j).c) := (V6.out.kv.cell j).trans (vArr_get n V j (by omega))
            have f6 := V6.out.kv.frozen j
            clear hb6 hbo VT BG hwx
            go_upto_region 37 with fail
            obtain ⟨w7, hw7⟩ : ∃ w7, w7 = w6.setCell ⟨gv, j, none⟩ (.slice ba 1 bc) := ⟨_, rfl⟩
            rw [← hw7]
            have V7 : Hid (Vts w w7 gv f n j (upd V j ⟨ba, 1, bc, bbs⟩) isb ⟨ga, gn, gcp, gbs⟩) := Lib.hid (by rw [hw7]; exact V6.out.put0 hlt2 ⟨ba, 1, bc, bbs⟩)
            have B7 : Hid (Beg w w7 gc gh n K hs com ⟨da, dn, dc, dbs⟩ ⟨ga, gn, gcp, gbs⟩ isb) := Lib.hid (by rw [hw7]; exact B6.out.put V6.out GV.out _ _)
            cases isb with
            | true =>
              have c7 : w7.cell? ⟨gv, j, none⟩ = some (.slice ba 1 bc) := (V7.out.kv.cell j).trans ((vArr_get n _ j (by omega)).trans (by rw [upd_same]; rfl))
              have f7 := V7.out.kv.frozen j
              clear hw7 c6 f6 V6 B6
              go_wp2_with fail
              go_roundw
              case rel => exact ⟨j + 1, s' + 1, _, by omega, by omega, by go_num, rfl, by omega, by omega, V7.out.put hlt2 ⟨ga, gn, gcp, gbs⟩ B7.out.g B7.out.gn (fun _ => rfl), B7.out.put V7.out GV.out _ _⟩
              case measure => simp [intOf]; omega
            | false =>
              have V8 : Hid (Vts w w7 gv f n (j + 1) (upd V j ⟨ba, 1, bc, bbs⟩) false ⟨ga, gn, gcp, gbs⟩) := Lib.hid (by rw [hw7]; exact V6.out.put hlt2 ⟨ba, 1, bc, bbs⟩ O6.out (Nat.le_refl _) (by simp))
              clear hw7 c6 f6 V6 B6
              go_wp2_with fail
              go_roundw
              case rel => exact ⟨j + 1, s' + 1, _, by omega, by omega, by go_num, rfl, by omega, by omega, V8.out, B7.out⟩
              case measure => simp [intOf]; omega
          case neg =>
            have hjn : j = n := by omega
            rw [hjn] at VT
            have i3 : ¬ (j : Int) < n := by omega
            have S2 : Hid (Safe2 f n v K hs com dbs (fun i => (V i).bs)) := Lib.hid (S1.out.start HN.out.symm fun hc i a b => (VT.out.is (BG.out.is hc).1 i a b).trans (BG.out.is hc).2)
            have VW0 : Hid (Vw w wr gc gh gv f n K hs ⟨da, dn, dc, dbs⟩ ⟨ga, gn, gcp, gbs⟩ isb V) := Lib.hid ⟨BG.out.g, BG.out.gn, BG.out.d, BG.out.dn, BG.out.m, VT.out⟩
            have t2 : s' ≤ 100 * (v : Int) + 40 := by omega
            clear VT BG S1 DN hlt2 hj t1
            go_wp2_with fail
            go_loopw [11, 12, 14, 25] (fun sd sc st sk wx => ∃ (k : Nat) (D : BD) (com : Bool) (s' : Int) (K : Nat → CD) (hs : Nat → Bool), k ≤ 4 ∧ sk = .int .i64 k ∧ sd = bval D ∧ sc = .bool com ∧ st = .int .i64 s' ∧ 0 ≤ s' ∧ s' ≤ 100 * (v : Int) + 40 + 10 * k ∧ Vw w wx gc gh gv f n K hs D ⟨ga, gn, gcp, gbs⟩ isb V ∧ Safe2 f n v K hs com D.bs (fun i => (V i).bs)) (fun _ _ _ sk _ => 4 - (intOf sk).toNat)
            case atStart => exact ⟨0, _, com, s', K, hs, by omega, rfl, rfl, rfl, rfl, t0, by omega, VW0.out, S2.out⟩
            case round =>
              clear VW0 S2 t2 t0
              obtain ⟨k, D, com, s', K, hs, hk, rfl, rfl, rfl, rfl, t0, t1, hVW, hS⟩ := hrel
              have VW := Lib.hid hVW
              have S2 := Lib.hid hS
              obtain ⟨da, dn, dc, dbs⟩ := D
              simp only [bval]
              clear hVW hS
              by_cases hk4 : k < 4
              case neg =>
                have i6 : ¬ (k : Int) < 4 := by omega
                have ev : IntKind.i64.wrap ((v : Int) + 1) = v + 1 := IntWalk.i64_in _ (by omega)
                go_wp2_with fail
                go_roundw
                case rel => exact ⟨v + 1, by omega, by go_num, ⟨da, dn, dc, dbs⟩, com, s', K, hs, rfl, rfl, rfl, t0, by omega, VW.out.d, VW.out.dn, VW.out.m, S2.out.done⟩
                case measure => simp [intOf]; omega
              case pos =>
                have i6 : (k : Int) < 4 := by omega
                go_wp2_with fail
                refine (batch_c k _ ⟨by omega, by omega⟩).mono ?_; rintro e w6 ⟨b, rfl, hbn, hbo, hb6⟩
                have VW6 := Lib.hid (VW.out.below hb6)
                have O6 := Lib.hid hbo
                obtain ⟨ba, bn, bc, bbs⟩ := b
                simp only at hbn
                subst hbn
                simp only [bval]
                clear hb6 hbo VW
                go_upto_if 147 with fail
                go_cut [26] from 148 to 148 (fun sb wx => ∃ b : BD, sb = bval b ∧ wx = w6 ∧ BOwn w6 b ∧ b.n ≤ 1)
                case first =>
                  by_cases hk3 : (k : Int) = 3
                  · go_wp2_with fail
                    go_meet
                    exact ⟨⟨ga, gn, gcp, gbs⟩, rfl, rfl, VW6.out.g, VW6.out.gn⟩
                  · go_wp2_with fail
                    go_meet
                    exact ⟨⟨ba, 1, bc, bbs⟩, rfl, rfl, O6.out, Nat.le_refl _⟩
                case rest =>
                  obtain ⟨b, rfl, rfl, hbo, hbn⟩ := hcut
                  obtain ⟨w7, hw7⟩ : ∃ w7, w7 = wc := ⟨_, rfl⟩
                  rw [← hw7] at VW6 hbo ⊢
                  have BO := Lib.hid hbo
                  have BN := Lib.hid hbn
                  obtain ⟨pa, pn, pc, pbs⟩ := b
                  simp only [bval]
                  clear hw7 hbo hbn O6
                  go_wp2_with fail
                  go_loopw [27, 28] (fun sn si wx => ∃ (i m : Nat), f ≤ i ∧ i ≤ n ∧ si = .int .i64 i ∧ sn = .int .i64 m ∧ m = f + cnt (votesFor (fun i => (V i).bs) pbs) f i ∧ Vw w wx gc gh gv f n K hs ⟨da, dn, dc, dbs⟩ ⟨ga, gn, gcp, gbs⟩ isb V ∧ BOwn wx ⟨pa, pn, pc, pbs⟩) (fun _ si _ => n - (intOf si).toNat)
                  case atStart => exact ⟨f, f, Nat.le_refl _, by omega, rfl, rfl, by have := cnt_none (votesFor (fun i => (V i).bs) pbs) f f (Nat.le_refl _); omega, VW6.out, BO.out⟩
                  case round =>
                    clear VW6 BO
                    obtain ⟨i, m, hfi, hin, rfl, rfl, hm, hVW, hbo⟩ := hrel
                    have HM := Lib.hid hm
                    have VW := Lib.hid hVW
                    have BO := Lib.hid hbo
                    have m10 : m ≤ 20 := by have := cnt_bound (votesFor (fun i => (V i).bs) pbs) f i; omega
                    clear hm hVW hbo
                    by_cases hlt2 : i < n
                    case pos =>
                      have i3 : (i : Int) < n := by omega
                      have i5 : (0 : Int) ≤ i := by omega
                      have c6 : wr.cell? ⟨gv, i, none⟩ = some (.slice (V i).a (V i).n (V i).c) := (VW.out.v.kv.cell i).trans (vArr_get n V i (by omega))
                      have vo := VW.out.v.own i hfi hlt2
                      obtain ⟨bb, hbb⟩ : ∃ bb, decide ((V i).bs = pbs) = bb := ⟨_, rfl⟩
                      have CS := Lib.hid (cnt_succ (votesFor (fun i => (V i).bs) pbs) hfi)
                      have VF : Hid (votesFor (fun i => (V i).bs) pbs i = bb) := Lib.hid hbb
                      have HBB := Lib.hid hbb
                      have VO := Lib.hid vo
                      clear vo hbb
                      cases bb with
                      | true =>
                        have e9 : IntKind.i64.wrap ((m : Int) + 1) = m + 1 := IntWalk.i64_in _ (by omega)
                        go_wp2_with fail
                        refine (same_1 (V i).a pa (V i).n pn (V i).c pc (V i).bs pbs _ VO.out.1.row BO.out.row (by have := VO.out.2; omega) true HBB.out).mono ?_; rintro e w8 ⟨rfl, hb8⟩
                        have VW8 := Lib.hid (VW.out.below hb8)
                        have BO8 := Lib.hid (BO.out.below hb8)
                        clear hb8 c6 VW BO
                        go_wp2_with fail
                        go_roundw
                        case rel => exact ⟨i + 1, m + 1, by omega, by omega, by go_num, by go_num, by rw [CS.out, VF.out, if_pos rfl]; have := HM.out; omega, VW8.out, BO8.out⟩
                        case measure => simp [intOf]; omega
                      | false =>
                        go_wp2_with fail
                        refine (same_1 (V i).a pa (V i).n pn (V i).c pc (V i).bs pbs _ VO.out.1.row BO.out.row (by have := VO.out.2; omega) false HBB.out).mono ?_; rintro e w8 ⟨rfl, hb8⟩
                        have VW8 := Lib.hid (VW.out.below hb8)
                        have BO8 := Lib.hid (BO.out.below hb8)
                        clear hb8 c6 VW BO
                        go_wp2_with fail
                        go_roundw
                        case rel => exact ⟨i + 1, m, by omega, by omega, by go_num, rfl, by rw [CS.out, VF.out, if_neg (by decide)]; exact HM.out, VW8.out, BO8.out⟩
                        case measure => simp [intOf]; omega
                    case neg =>
                      have hi : i = n := by omega
                      rw [hi] at HM
                      have i3 : ¬ (i : Int) < n := by omega
                      by_cases hmq : m < q
                      case pos =>
                        have i7 : (m : Int) < q := by omega
                        clear hmq hlt2 hin hi
                        go_wp2_with fail
                        go_roundw
                        case rel => exact ⟨k + 1, _, com, s', K, hs, by omega, by go_num, rfl, rfl, rfl, t0, by omega, VW.out, S2.out⟩
                        case measure => simp [intOf]; omega
                      case neg =>
                        have i7 : ¬ (m : Int) < q := by omega
                        have HB : Hid (f + 1 ≤ cnt (votesFor (fun i => (V i).bs) pbs) f n) := Lib.hid (by have := HM.out; have := HQ.out; omega)
                        clear hmq hlt2 hin hi hfi HM m10
                        go_wp2_with fail
                        go_loopw [14, 27, 29] (fun st sn si wx => ∃ (i m : Nat) (s' : Int) (K : Nat → CD) (hs : Nat → Bool), f ≤ i ∧ i ≤ n ∧ si = .int .i64 i ∧ sn = .int .i64 m ∧ st = .int .i64 s' ∧ 0 ≤ s' ∧ s' ≤ 100 * (v : Int) + 40 + 10 * k + i ∧ m ≤ f + cnt (just K hs v pbs) f i ∧ Vw w wx gc gh gv f n K hs ⟨da, dn, dc, dbs⟩ ⟨ga, gn, gcp, gbs⟩ isb V ∧ BOwn wx ⟨pa, pn, pc, pbs⟩ ∧ Safe2 f n v K hs com dbs (fun i => (V i).bs)) (fun _ _ si _ => n - (intOf si).toNat)
                        case atStart => exact ⟨f, f, s', K, hs, Nat.le_refl _, by omega, rfl, rfl, rfl, t0, by omega, by omega, VW.out, BO.out, S2.out⟩
                        case round =>
                          clear VW BO S2 t0 t1
                          obtain ⟨i, m, s', K, hs, hfi, hin, rfl, rfl, rfl, t0, t1, hm, hVW, hbo, hS⟩ := hrel
                          have m10 : m ≤ 20 := by have := cnt_bound (just K hs v pbs) f i; omega
                          have HM := Lib.hid hm
                          have VW := Lib.hid hVW
                          have BO := Lib.hid hbo
                          have S2 := Lib.hid hS
                          clear hm hVW hbo hS
                          by_cases hlt2 : i < n
                          case pos =>
                            have i3 : (i : Int) < n := by omega
                            have i5 : (0 : Int) ≤ i := by omega
                            have e2 : IntKind.i64.wrap (s' + 1) = s' + 1 := IntWalk.i64_in _ (by omega)
                            have e9 : IntKind.i64.wrap ((m : Int) + 1) = m + 1 := IntWalk.i64_in _ (by omega)
                            go_wp2_with fail
                            refine (at_c a2 n2 c2 ys (s' + 1) _ (R2.out.below VW.out.m.b) M2.out X2.out ⟨by omega, by omega⟩).mono ?_; rintro e w' ⟨x, rfl, _, rfl⟩
                            have CS := Lib.hid (cnt_mono (just K hs v pbs) f (show i ≤ i + 1 by omega))
                            by_cases hx3 : x.tmod 3 = 0
                            · go_wp2_with fail
                              go_roundw
                              case rel => exact ⟨i + 1, m, s' + 1, K, hs, by omega, by omega, by go_num, rfl, rfl, by omega, by omega, by have := CS.out; have := HM.out; omega, VW.out, BO.out, S2.out⟩
                              case measure => simp [intOf]; omega
                            · obtain ⟨wz, hwz⟩ : ∃ wz, wz = wr := ⟨_, rfl⟩
                              go_upto_region 58 with fail
                              have q0 : wr.cell? ⟨gc, i * 5, none⟩ = some (.int .i64 (K i).view) := (VW.out.m.kc.cell _).trans (cArr_get n K i 0 (by omega) (by omega) _ rfl)
                              have q1 : wr.cell? ⟨gc, i * 5 + 1, none⟩ = some (.int .i64 (K i).inst) := (VW.out.m.kc.cell _).trans (cArr_get n K i 1 (by omega) (by omega) _ rfl)
                              have q2 : wr.cell? ⟨gc, i * 5 + 2, none⟩ = some (.int .i64 (K i).seq) := (VW.out.m.kc.cell _).trans (cArr_get n K i 2 (by omega) (by omega) _ rfl)
                              have q3 : wr.cell? ⟨gc, i * 5 + 3, none⟩ = some (.slice (K i).ba (K i).bn (K i).bc) := (VW.out.m.kc.cell _).trans (cArr_get n K i 3 (by omega) (by omega) _ rfl)
                              have q4 : wr.cell? ⟨gc, i * 5 + 4, none⟩ = some (.slice (K i).va (K i).vn (K i).vc) := (VW.out.m.kc.cell _).trans (cArr_get n K i 4 (by omega) (by omega) _ rfl)
                              have q5 : wr.cell? ⟨gh, i, none⟩ = some (.bool (hs i)) := (VW.out.m.kh.cell _).trans (seenC_get n hs i (by omega))
                              have z0 := VW.out.m.kc.frozen (i * 5)
                              have z1 := VW.out.m.kc.frozen (i * 5 + 1)
                              have z2 := VW.out.m.kc.frozen (i * 5 + 2)
                              have z3 := VW.out.m.kc.frozen (i * 5 + 3)
                              have z4 := VW.out.m.kc.frozen (i * 5 + 4)
                              have z5 := VW.out.m.kh.frozen i
                              have ne1 : gc ≠ gh := GG.out.2.2
                              have ne2 : gh ≠ gc := fun h => GG.out.2.2 h.symm
                              clear hwz
                              go_upto_region 59 with fail
                              obtain ⟨w8, hw8⟩ : ∃ w8, w8 = ((((((wr.setCell ⟨gc, i * 5, none⟩ (.int .i64 v)).setCell ⟨gc, i * 5 + 1, none⟩ (.int .i64 0)).setCell ⟨gc, i * 5 + 2, none⟩ (.int .i64 1)).setCell ⟨gc, i * 5 + 3, none⟩ (.slice pa pn pc)).setCell ⟨gc, i * 5 + 4, none⟩ (.slice none 0 0)).setCell ⟨gh, i, none⟩ (.bool true)) := ⟨_, rfl⟩
                              rw [← hw8]
                              have VC := Lib.hid (VW.out.cert BO.out BN.out GG.out hlt2 v ⟨by omega, by omega⟩ hw8)
                              have S3 := Lib.hid (S2.out.prep HN.out.symm HB.out ⟨hfi, hlt2⟩ (by omega) (CD.mk v 0 1 pa pn pc pbs none 0 0 []) rfl rfl rfl rfl)
                              have CJ : Hid (m + 1 ≤ f + cnt (just (upd K i (CD.mk v 0 1 pa pn pc pbs none 0 0 [])) (upd hs i true) v pbs) f (i + 1)) := Lib.hid (by
                                rw [cnt_succ _ hfi, if_pos (by unfold just; rw [upd_same, upd_same]; simp), cnt_congr (just (upd K i (CD.mk v 0 1 pa pn pc pbs none 0 0 [])) (upd hs i true) v pbs) (just K hs v pbs) f i (fun j _ hj => by unfold just; rw [upd_ne _ _ (show j ≠ i by omega), upd_ne _ _ (show j ≠ i by omega)])]
                                have := HM.out
                                omega)
                              clear hw8 q0 q1 q2 q3 q4 q5 z0 z1 z2 z3 z4 z5 VW BO S2 HM CS
                              go_wp2_with fail
                              go_roundw
                              case rel => exact ⟨i + 1, m + 1, s' + 1, _, _, by omega, by omega, by go_num, by go_num, rfl, by omega, by omega, CJ.out, VC.out.1, VC.out.2, S3.out⟩
                              case measure => simp [intOf]; omega
                          case neg =>
                            have hi : i = n := by omega
                            rw [hi] at HM
                            have i3 : ¬ (i : Int) < n := by omega
                            by_cases hmq : q ≤ m
                            case neg =>
                              have i7 : ¬ (q : Int) ≤ m := by omega
                              clear hmq hlt2 hin
                              go_wp2_with fail
                              go_roundw
                              case rel => exact ⟨k + 1, ⟨da, dn, dc, dbs⟩, com, s', K, hs, by omega, by go_num, rfl, rfl, rfl, t0, by omega, VW.out, S2.out⟩
                              case measure => simp [intOf]; omega
                            case pos =>
                              have i7 : (q : Int) ≤ m := by omega
                              have HJ : Hid (f + 1 ≤ cnt (just K hs v pbs) f n) := Lib.hid (by have := HM.out; have := HQ.out; omega)
                              have S3 := Lib.hid (S2.out.commit HN.out.symm HB.out HJ.out)
                              cases com with
                              | false =>
                                clear hmq hlt2 hin
                                go_wp2_with fail
                                go_roundw
                                case rel => exact ⟨k + 1, ⟨pa, pn, pc, pbs⟩, true, s', K, hs, by omega, by go_num, rfl, rfl, rfl, t0, by omega, ⟨VW.out.g, VW.out.gn, BO.out, BN.out, VW.out.m, VW.out.v⟩, S3.out⟩
                                case measure => simp [intOf]; omega
                              | true =>
                                have SB := Lib.hid (S2.out.same HN.out.symm HB.out rfl)
                                clear hmq hlt2 hin
                                go_wp2_with fail
                                refine (same_1 da pa dn pn dc pc dbs pbs _ VW.out.d.row BO.out.row (by have : dn ≤ 1 := VW.out.dn; omega) true (decide_eq_true SB.out)).mono ?_; rintro e w8 ⟨rfl, hb8⟩
                                have VW8 := Lib.hid (VW.out.below hb8)
                                have BO8 := Lib.hid (BO.out.below hb8)
                                clear hb8 VW BO
                                go_wp2_with fail
                                go_roundw
                                case rel => exact ⟨k + 1, ⟨pa, pn, pc, pbs⟩, true, s', K, hs, by omega, by go_num, rfl, rfl, rfl, t0, by omega, ⟨VW8.out.g, VW8.out.gn, BO8.out, BN.out, VW8.out.m, VW8.out.v⟩, S3.out⟩
                                case measure => simp [intOf]; omega

set_option maxRecDepth 100000 in
theorem lawWalk : LawWalk Try.checked 4 Try.f4 := by
  intro H enc W base args ds p hval hA hsz
  rw [Try.params4] at hA hval
  obtain ⟨v0, vs0, d0, ds0, p0, q0, hargs, rfl, rfl, h0, r0⟩ := trodAll_cons hA
  obtain ⟨v1, vs1, d1, ds1, p1, q1, rfl, rfl, rfl, h1, r1⟩ := trodAll_cons r0
  obtain ⟨v2, vs2, d2, ds2, p2, q2, rfl, rfl, rfl, h2, r2⟩ := trodAll_cons r1
  obtain ⟨rfl, rfl, rfl⟩ := trodAll_nil r2
  obtain rfl : args = #[v0, v1, v2] := by cases args; simp_all
  obtain ⟨a0, rfl, rfl, rfl, w0⟩ := open_int Try.underlying3 (hval 0 3 v0 rfl rfl) h0
  obtain ⟨a1, n1, c1, xs1, rfl, hnc1, hcm1, hr1, hx1⟩ := open_int_slice Try.underlying45 Try.underlying3 (by kernel_rfl) (hval 1 45 v1 rfl rfl) h1
  obtain ⟨a2, n2, c2, xs2, rfl, hnc2, hcm2, hr2, hx2⟩ := open_int_slice Try.underlying45 Try.underlying3 (by kernel_rfl) (hval 2 45 v2 rfl rfl) h2
  exact walk a0 a1 n1 c1 xs1 a2 n2 c2 xs2 W (I64.of_wf w0) hr1 (Nat.le_trans hnc1 hcm1) hx1 hr2 (Nat.le_trans hnc2 hcm2) hx2

theorem lifted (os : Os) (started : os.Started) (H : Type) (enc : TypeId × Value → H) :
    ReturnsInHanded {} Try.checked os 4 .any (Rows.chooseSafeSpec.pre6 enc Try.prog Try.f4 Rows.chooseSafeRow.domain false) (Rows.chooseSafeSpec.post enc Try.prog Try.f4 false true false false) :=
  law_lift (C := Try.checked) (s := Rows.chooseSafeSpec) (tb := 4) (by kernel_rfl) started (by kernel_rfl) Try.func4
    (ChangeSpec.witness6 (enc := enc) (C := Try.checked) false ⟨#[], #[.int .i64 0, .slice none 0 0, .slice none 0 0], []⟩ 8 (by kernel_rfl) (by kernel_rfl) (by kernel_rfl) (by kernel_rfl))
    rfl (fun H ds h => by
      match ds, h with
      | [d0, d1, d2], _ => rfl) (by kernel_rfl) (by kernel_rfl) (by kernel_rfl) Try.underlying4 lawWalk

theorem over : Rows.chooseSafeRow.holds Try.pinned (OpenSpec.ofChange Rows.chooseSafeSpec) :=
  OpenClaim.holds_of_wide 4 Try.f4 rfl rfl rfl rfl rfl rfl rfl ⟨rfl, rfl, rfl, rfl, rfl⟩ rfl rfl rfl rfl rfl (by kernel_rfl) Try.func4 (by kernel_rfl)
    (of_decide_eq_true (by kernel_rfl)) (by unfold Func.isWrapper; first | (rw [if_pos (by decide +kernel)]; kernel_rfl) | (rw [if_neg (by decide +kernel)]; exact ⟨rfl, rfl⟩))
    (fun os started H enc _ => lifted os started H enc)

/-- The statement. -/
theorem proved : Rows.ChooseSafeSaid := over
#print axioms proved

end Go.Proofs.Ytpkifmophmjilaa.ChooseSafe
