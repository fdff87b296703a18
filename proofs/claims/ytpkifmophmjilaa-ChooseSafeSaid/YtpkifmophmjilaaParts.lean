/- Certificates and parts as they lie in memory; slices of parts, of certificates, that came in. -/
import Derived.Test.YtpkifmophmjilaaReq
import Derived.Test.YtpkifmophmjilaaDeep
namespace Go.Proofs.Ytpkifmophmjilaa
open Go.ChangeShapes Go.WideShapes Go.ChangeAt Go.RowKit Go.Deep
set_option linter.unusedVariables false

/-- A certificate as it lies: its numbers, its two slices, what these hold. -/
structure CD where
  view : Int
  inst : Int
  seq : Int
  ba : Option Addr
  bn : Nat
  bc : Nat
  bs : List Rq
  va : Option Addr
  vn : Nat
  vc : Nat
  vs : List Vo
deriving Inhabited
def ccell (c : CD) : List Value := [.int .i64 c.view, .int .i64 c.inst, .int .i64 c.seq, .slice c.ba c.bn c.bc, .slice c.va c.vn c.vc]
theorem ccell_len (c : CD) : (ccell c).length = 5 := rfl
theorem ccell_one (rs : List CD) : ∀ v ∈ rs.flatMap ccell, v.oneCell' = true := by
  intro v hv
  obtain ⟨p, _, hp⟩ := List.mem_flatMap.1 hv
  simp only [ccell, List.mem_cons, List.not_mem_nil, or_false] at hp
  rcases hp with rfl | rfl | rfl | rfl | rfl <;> rfl
structure CD.Is (w : World) (c : CD) : Prop where
  b : RqRow w c.ba c.bn c.bc c.bs
  v : VoRow w c.va c.vn c.vc c.vs
  i0 : I64 c.view
  i1 : I64 c.inst
  i2 : I64 c.seq
theorem CD.Is.below {w w' : World} {c : CD} (h : c.Is w) (hb : Below w.heap.size w w') : c.Is w' := ⟨h.b.below hb, h.v.below hb, h.i0, h.i1, h.i2⟩
/-- Certificates that lie at a slice. -/
structure Certs (w : World) (a : Option Addr) (n c : Nat) (cs : List CD) : Prop where
  row : VRow w a n 5 (cs.flatMap ccell)
  len : cs.length = n
  cap : n ≤ c
  max : c ≤ maxLen
  is : ∀ c ∈ cs, c.Is w
/-- A part as it lies. -/
structure PD where
  from_ : Int
  va : Option Addr
  vn : Nat
  vc : Nat
  vs : List Vo
  ca : Option Addr
  cn : Nat
  cc : Nat
  cs : List CD
  seal_ : Int
deriving Inhabited
def pcell' (p : PD) : List Value := [.int .i64 p.from_, .slice p.va p.vn p.vc, .slice p.ca p.cn p.cc, .int .i64 p.seal_]
theorem pcell'_len (c : PD) : (pcell' c).length = 4 := rfl
theorem pcell'_one (rs : List PD) : ∀ v ∈ rs.flatMap pcell', v.oneCell' = true := by
  intro v hv
  obtain ⟨p, _, hp⟩ := List.mem_flatMap.1 hv
  simp only [pcell', List.mem_cons, List.not_mem_nil, or_false] at hp
  rcases hp with rfl | rfl | rfl | rfl <;> rfl
structure PD.Is (w : World) (p : PD) : Prop where
  v : VoRow w p.va p.vn p.vc p.vs
  c : Certs w p.ca p.cn p.cc p.cs
  i0 : I64 p.from_
  i1 : I64 p.seal_
structure Parts (w : World) (a : Option Addr) (n c : Nat) (ps : List PD) : Prop where
  row : VRow w a n 4 (ps.flatMap pcell')
  len : ps.length = n
  cap : n ≤ c
  max : c ≤ maxLen
  is : ∀ p ∈ ps, p.Is w
section
variable {w w' : World} {a : Option Addr} {n c : Nat} {cs : List CD} {ps : List PD}
theorem Certs.below (h : Certs w a n c cs) (hb : Below w.heap.size w w') : Certs w' a n c cs := ⟨h.row.below hb, h.len, h.cap, h.max, fun c hc => (h.is c hc).below hb⟩
theorem Certs.nil (w : World) (a : Option Addr) (h : c ≤ maxLen) : Certs w a 0 c [] := ⟨VRow.nil _ _ _, rfl, Nat.zero_le _, h, by simp⟩
theorem PD.Is.below {p : PD} (h : p.Is w) (hb : Below w.heap.size w w') : p.Is w' := ⟨h.v.below hb, h.c.below hb, h.i0, h.i1⟩
theorem Parts.below (h : Parts w a n c ps) (hb : Below w.heap.size w w') : Parts w' a n c ps := ⟨h.row.below hb, h.len, h.cap, h.max, fun c hc => (h.is c hc).below hb⟩
theorem Parts.nil (w : World) (a : Option Addr) (h : c ≤ maxLen) : Parts w a 0 c [] := ⟨VRow.nil _ _ _, rfl, Nat.zero_le _, h, by simp⟩
theorem Certs.get (h : Certs w a n c cs) {k : Nat} (hk : k < n) : ∃ b off, a = some ⟨b, off, none⟩ ∧ b < w.heap.size ∧ ∃ x : CD, cs[k]? = some x ∧ x.Is w ∧
    w.cell? ⟨b, off + k * 5, none⟩ = some (.int .i64 x.view) ∧ w.cell? ⟨b, off + k * 5 + 1, none⟩ = some (.int .i64 x.inst) ∧ w.cell? ⟨b, off + k * 5 + 2, none⟩ = some (.int .i64 x.seq) ∧
    w.cell? ⟨b, off + k * 5 + 3, none⟩ = some (.slice x.ba x.bn x.bc) ∧ w.cell? ⟨b, off + k * 5 + 4, none⟩ = some (.slice x.va x.vn x.vc) := by
  obtain ⟨b, off, rfl, hlt, hc⟩ := h.row.2 (by omega)
  have hk' : k < cs.length := by have := h.len; omega
  have key : ∀ j v, j < 5 → (ccell cs[k])[j]? = some v → w.cell? ⟨b, off + k * 5 + j, none⟩ = some v := fun j v hj hv => by
    rw [Nat.add_assoc]
    exact hc _ _ (flat_get' ccell 5 ccell_len cs k j hj hk' v hv)
  exact ⟨b, off, rfl, hlt, _, List.getElem?_eq_getElem hk', h.is _ (List.getElem_mem hk'), key 0 _ (by omega) rfl, key 1 _ (by omega) rfl, key 2 _ (by omega) rfl, key 3 _ (by omega) rfl, key 4 _ (by omega) rfl⟩
theorem Parts.get (h : Parts w a n c ps) {k : Nat} (hk : k < n) : ∃ b off, a = some ⟨b, off, none⟩ ∧ b < w.heap.size ∧ ∃ x : PD, ps[k]? = some x ∧ x.Is w ∧
    w.cell? ⟨b, off + k * 4, none⟩ = some (.int .i64 x.from_) ∧ w.cell? ⟨b, off + k * 4 + 1, none⟩ = some (.slice x.va x.vn x.vc) ∧ w.cell? ⟨b, off + k * 4 + 2, none⟩ = some (.slice x.ca x.cn x.cc) ∧
    w.cell? ⟨b, off + k * 4 + 3, none⟩ = some (.int .i64 x.seal_) := by
  obtain ⟨b, off, rfl, hlt, hc⟩ := h.row.2 (by omega)
  have hk' : k < ps.length := by have := h.len; omega
  have key : ∀ j v, j < 4 → (pcell' ps[k])[j]? = some v → w.cell? ⟨b, off + k * 4 + j, none⟩ = some v := fun j v hj hv => by
    rw [Nat.add_assoc]
    exact hc _ _ (flat_get' pcell' 4 pcell'_len ps k j hj hk' v hv)
  exact ⟨b, off, rfl, hlt, _, List.getElem?_eq_getElem hk', h.is _ (List.getElem_mem hk'), key 0 _ (by omega) rfl, key 1 _ (by omega) rfl, key 2 _ (by omega) rfl, key 3 _ (by omega) rfl⟩
end

/-! Opening. -/
theorem list_of {α : Type} [Inhabited α] {n : Nat} {R : Nat → α → Prop} (h : ∀ i, i < n → ∃ x, R i x) : ∃ l : List α, l.length = n ∧ ∀ i (hi : i < l.length), R i l[i] :=
  ⟨(List.range n).map fun i => if h' : i < n then Classical.choose (h i h') else default, by simp, fun i hi => by
    have hi' : i < n := by simpa using hi
    simp only [List.getElem_map, List.getElem_range, dif_pos hi']
    exact Classical.choose_spec (h i hi')⟩
section
variable {H : Type} {enc : TypeId × Value → H} {P : Program} {w : World} {base : Nat} {held : Bool}
theorem rows_of_trod {t e : TypeId} {k : Nat} {a0 : Option Addr} {n c fuel : Nat} {x : DataW H × List MemPlace} (ht : P.underlying t = some (.slice e)) (hk : P.cellsOf e = k) (hpos : 0 < k)
    (hf : DataW.trod enc P w base (fun _ => true) held fuel t [.slice a0 n c] = some x) : n ≤ c ∧ c ≤ maxLen ∧
    ∀ i, i < n → ∃ b off, a0 = some ⟨b, off, none⟩ ∧ b < w.heap.size ∧ ∃ cs' fu y, cs'.length = k ∧ (∀ j, j < k → w.cell? ⟨b, off + (i * k + j), none⟩ = cs'[j]?) ∧ DataW.trod enc P w base (fun _ => true) held fu e cs' = some y := by
  subst hk
  rcases Go.Deep.open_slice ht hf with ⟨hcs, _⟩ | ⟨a, len, cap, m, nn, D, Pl, hcs, _, hl, hm, hmm, _, hi⟩
  · simp only [List.cons.injEq, and_true] at hcs
    injection hcs with h1 h2 h3
    subst h1
    subst h2
    subst h3
    exact ⟨Nat.le_refl _, by simp [maxLen], fun i h => absurd h (by omega)⟩
  · simp only [List.cons.injEq, and_true] at hcs
    injection hcs with h1 h2 h3
    subst h1
    subst h2
    subst h3
    have hmc : m = c := by simpa using hmm
    subst hmc
    refine ⟨hl, hm, fun i hin => ?_⟩
    obtain ⟨cs', hc, hy⟩ := hi i (by omega)
    obtain ⟨_, hlen, hat⟩ := World.cells?_some hc
    have h0 := hat 0 hpos
    obtain ⟨cs0, hc0, _⟩ := hi 0 (by omega)
    obtain ⟨_, hlen0, hat0⟩ := World.cells?_some hc0
    have h00 := hat0 0 hpos
    rw [List.getElem?_eq_getElem (by omega), Go.Deep.add_add, Nat.zero_mul] at h00
    obtain ⟨b, off, spot⟩ := a
    have hspot : spot = none := by simpa [Addr.add] using World.cell?_spot h00
    clear h0
    subst hspot
    have hat' : ∀ j, j < P.cellsOf e → w.cell? ⟨b, off + (i * P.cellsOf e + j), none⟩ = cs'[j]? := fun j hj => by
      rw [← hat j hj, Go.Deep.add_add, addr_add]
    refine ⟨b, off, rfl, ?_, cs', _, _, hlen, hat', hy⟩
    have h1 := hat' 0 hpos
    rw [List.getElem?_eq_getElem (by omega)] at h1
    exact lt_of_cell h1
theorem leaf_int {t l : TypeId} {j fuel : Nat} {cs : List Value} {x : DataW H × List MemPlace} (hl : leafAt P 8 t j = some l) (hu : P.underlying l = some (.int .i64))
    (hx : DataW.trod enc P w base (fun _ => true) held fuel t cs = some x) : ∃ z : Int, cs[j]? = some (.int .i64 z) ∧ I64 z := by
  obtain ⟨v, n', y, hv, hy'⟩ := trod_leaf 8 t j l fuel cs x hl hx
  obtain ⟨z, hz, _, hw⟩ := DataW.trod_int hu hy'
  simp only [List.cons.injEq, and_true] at hz
  subst hz
  exact ⟨z, hv, I64.of_wf hw⟩
theorem leaf_slice {t l f : TypeId} {j fuel : Nat} {cs : List Value} {x : DataW H × List MemPlace} (hl : leafAt P 8 t j = some l) (hu : P.underlying l = some (.slice f))
    (hx : DataW.trod enc P w base (fun _ => true) held fuel t cs = some x) : ∃ a n c fu y, cs[j]? = some (.slice a n c) ∧ DataW.trod enc P w base (fun _ => true) held fu l [.slice a n c] = some y := by
  obtain ⟨v, n', y, hv, hy'⟩ := trod_leaf 8 t j l fuel cs x hl hx
  rcases DataW.trod_slice hu hy' with ⟨hs, _⟩ | ⟨a', len', cap', _, _, _, _, hs, _⟩
  · simp only [List.cons.injEq, and_true] at hs
    subst hs
    exact ⟨none, 0, 0, n', y, hv, hy'⟩
  · simp only [List.cons.injEq, and_true] at hs
    subst hs
    exact ⟨some a', len', cap', n', y, hv, hy'⟩
/-- Rows of things whose cells a function tells. -/
theorem vrow_of {α : Type} {a : Option Addr} {n s : Nat} {l : List α} (f : α → List Value) (hs : ∀ x, (f x).length = s) (hpos : 0 < s) (hl : l.length = n)
    (h : ∀ i (hi : i < l.length), ∃ b off, a = some ⟨b, off, none⟩ ∧ b < w.heap.size ∧ ∀ j, j < s → w.cell? ⟨b, off + (i * s + j), none⟩ = (f l[i])[j]?) : VRow w a n s (l.flatMap f) := by
  refine ⟨by rw [flat_len f s hs, hl], fun hn => ?_⟩
  obtain ⟨b, off, rfl, hlt, _⟩ := h 0 (by omega)
  refine ⟨b, off, rfl, hlt, fun j v hv => ?_⟩
  have hd : j = j / s * s + j % s := by rw [Nat.mul_comm]; exact (Nat.div_add_mod j s).symm
  have hm := Nat.mod_lt j hpos
  rw [hd, flat_get f s hs _ _ _ hm] at hv
  by_cases hk : j / s < l.length
  · rw [List.getElem?_eq_getElem hk] at hv
    obtain ⟨b', off', e, _, hc⟩ := h (j / s) hk
    cases e
    rw [hd]
    exact (hc _ hm).trans hv
  · rw [List.getElem?_eq_none (by omega)] at hv
    cases hv
end
section
variable {H : Type} {enc : TypeId × Value → H} {w : World} {base : Nat} {held : Bool} {a : Option Addr} {n c fuel : Nat} {x : DataW H × List MemPlace}
theorem rqs_of_trod (h : DataW.trod enc Try.prog w base (fun _ => true) held fuel 24 [.slice a n c] = some x) : ∃ bs, RqRow w a n c bs ∧ ∀ r ∈ bs, RqI r := by
  obtain ⟨h1, h2, hr⟩ := rows_of_trod (k := 6) Try.underlying24 (by kernel_rfl) (by decide) h
  obtain ⟨l, hl, hx⟩ := list_of (α := Rq) (n := n) (R := fun i r => RqI r ∧ ∃ b off, a = some ⟨b, off, none⟩ ∧ b < w.heap.size ∧ ∀ j, j < 6 → w.cell? ⟨b, off + (i * 6 + j), none⟩ = (rqc r)[j]?) (fun i hi => by
    obtain ⟨b, off, e, hlt, cs', fu, y, hlen, hc, ht⟩ := hr i hi
    obtain ⟨z0, e0, k0⟩ := leaf_int (j := 0) (l := 3) (by kernel_rfl) Try.underlying3 ht
    obtain ⟨z1, e1, k1⟩ := leaf_int (j := 1) (l := 3) (by kernel_rfl) Try.underlying3 ht
    obtain ⟨z2, e2, k2⟩ := leaf_int (j := 2) (l := 3) (by kernel_rfl) Try.underlying3 ht
    obtain ⟨z3, e3, k3⟩ := leaf_int (j := 3) (l := 3) (by kernel_rfl) Try.underlying3 ht
    obtain ⟨z4, e4, k4⟩ := leaf_int (j := 4) (l := 3) (by kernel_rfl) Try.underlying3 ht
    obtain ⟨z5, e5, k5⟩ := leaf_int (j := 5) (l := 3) (by kernel_rfl) Try.underlying3 ht
    refine ⟨(z0, z1, z2, z3, z4, z5), ⟨k0, k1, k2, k3, k4, k5⟩, b, off, e, hlt, fun j hj => (hc j hj).trans ?_⟩
    rcases (show j = 0 ∨ j = 1 ∨ j = 2 ∨ j = 3 ∨ j = 4 ∨ j = 5 by omega) with rfl | rfl | rfl | rfl | rfl | rfl
    · exact e0
    · exact e1
    · exact e2
    · exact e3
    · exact e4
    · exact e5)
  refine ⟨l, ⟨vrow_of rqc rqc_len (by decide) hl fun i hi => (hx i hi).2, hl, h1, h2⟩, fun r hr => ?_⟩
  obtain ⟨i, hi, rfl⟩ := List.mem_iff_getElem.1 hr
  exact (hx i hi).1
theorem vos_of_trod (h : DataW.trod enc Try.prog w base (fun _ => true) held fuel 25 [.slice a n c] = some x) : ∃ vs, VoRow w a n c vs := by
  obtain ⟨h1, h2, hr⟩ := rows_of_trod (k := 2) Try.underlying25 (by kernel_rfl) (by decide) h
  obtain ⟨l, hl, hx⟩ := list_of (α := Vo) (n := n) (R := fun i r => ∃ b off, a = some ⟨b, off, none⟩ ∧ b < w.heap.size ∧ ∀ j, j < 2 → w.cell? ⟨b, off + (i * 2 + j), none⟩ = (voc r)[j]?) (fun i hi => by
    obtain ⟨b, off, e, hlt, cs', fu, y, hlen, hc, ht⟩ := hr i hi
    obtain ⟨z0, e0, k0⟩ := leaf_int (j := 0) (l := 3) (by kernel_rfl) Try.underlying3 ht
    obtain ⟨z1, e1, k1⟩ := leaf_int (j := 1) (l := 3) (by kernel_rfl) Try.underlying3 ht
    refine ⟨(z0, z1), b, off, e, hlt, fun j hj => (hc j hj).trans ?_⟩
    rcases (show j = 0 ∨ j = 1 by omega) with rfl | rfl
    · exact e0
    · exact e1)
  exact ⟨l, ⟨vrow_of voc voc_len (by decide) hl fun i hi => hx i hi, hl, h1, h2⟩⟩
theorem certs_of_trod (h : DataW.trod enc Try.prog w base (fun _ => true) held fuel 26 [.slice a n c] = some x) : ∃ cs, Certs w a n c cs := by
  obtain ⟨h1, h2, hr⟩ := rows_of_trod (k := 5) Try.underlying26 (by kernel_rfl) (by decide) h
  obtain ⟨l, hl, hx⟩ := list_of (α := CD) (n := n) (R := fun i r => r.Is w ∧ ∃ b off, a = some ⟨b, off, none⟩ ∧ b < w.heap.size ∧ ∀ j, j < 5 → w.cell? ⟨b, off + (i * 5 + j), none⟩ = (ccell r)[j]?) (fun i hi => by
    obtain ⟨b, off, e, hlt, cs', fu, y, hlen, hc, ht⟩ := hr i hi
    obtain ⟨z0, e0, k0⟩ := leaf_int (j := 0) (l := 3) (by kernel_rfl) Try.underlying3 ht
    obtain ⟨z1, e1, k1⟩ := leaf_int (j := 1) (l := 3) (by kernel_rfl) Try.underlying3 ht
    obtain ⟨z2, e2, k2⟩ := leaf_int (j := 2) (l := 3) (by kernel_rfl) Try.underlying3 ht
    obtain ⟨a3, n3, c3, _, _, e3, t3⟩ := leaf_slice (j := 3) (l := 24) (by kernel_rfl) Try.underlying24 ht
    obtain ⟨a4, n4, c4, _, _, e4, t4⟩ := leaf_slice (j := 4) (l := 25) (by kernel_rfl) Try.underlying25 ht
    obtain ⟨bs, hb, _⟩ := rqs_of_trod t3
    obtain ⟨vs, hv⟩ := vos_of_trod t4
    refine ⟨⟨z0, z1, z2, a3, n3, c3, bs, a4, n4, c4, vs⟩, ⟨hb, hv, k0, k1, k2⟩, b, off, e, hlt, fun j hj => (hc j hj).trans ?_⟩
    rcases (show j = 0 ∨ j = 1 ∨ j = 2 ∨ j = 3 ∨ j = 4 by omega) with rfl | rfl | rfl | rfl | rfl
    · exact e0
    · exact e1
    · exact e2
    · exact e3
    · exact e4)
  refine ⟨l, ⟨vrow_of ccell ccell_len (by decide) hl fun i hi => (hx i hi).2, hl, h1, h2, fun r hr => ?_⟩⟩
  obtain ⟨i, hi, rfl⟩ := List.mem_iff_getElem.1 hr
  exact (hx i hi).1
theorem parts_of_trod (h : DataW.trod enc Try.prog w base (fun _ => true) held fuel 22 [.slice a n c] = some x) : ∃ ps, Parts w a n c ps := by
  obtain ⟨h1, h2, hr⟩ := rows_of_trod (k := 4) Try.underlying22 (by kernel_rfl) (by decide) h
  obtain ⟨l, hl, hx⟩ := list_of (α := PD) (n := n) (R := fun i r => r.Is w ∧ ∃ b off, a = some ⟨b, off, none⟩ ∧ b < w.heap.size ∧ ∀ j, j < 4 → w.cell? ⟨b, off + (i * 4 + j), none⟩ = (pcell' r)[j]?) (fun i hi => by
    obtain ⟨b, off, e, hlt, cs', fu, y, hlen, hc, ht⟩ := hr i hi
    obtain ⟨z0, e0, k0⟩ := leaf_int (j := 0) (l := 3) (by kernel_rfl) Try.underlying3 ht
    obtain ⟨a1, n1, c1, _, _, e1, t1⟩ := leaf_slice (j := 1) (l := 25) (by kernel_rfl) Try.underlying25 ht
    obtain ⟨a2, n2, c2, _, _, e2, t2⟩ := leaf_slice (j := 2) (l := 26) (by kernel_rfl) Try.underlying26 ht
    obtain ⟨z3, e3, k3⟩ := leaf_int (j := 3) (l := 3) (by kernel_rfl) Try.underlying3 ht
    obtain ⟨vs, hv⟩ := vos_of_trod t1
    obtain ⟨cs, hcc⟩ := certs_of_trod t2
    refine ⟨⟨z0, a1, n1, c1, vs, a2, n2, c2, cs, z3⟩, ⟨hv, hcc, k0, k3⟩, b, off, e, hlt, fun j hj => (hc j hj).trans ?_⟩
    rcases (show j = 0 ∨ j = 1 ∨ j = 2 ∨ j = 3 by omega) with rfl | rfl | rfl | rfl
    · exact e0
    · exact e1
    · exact e2
    · exact e3)
  refine ⟨l, ⟨vrow_of pcell' pcell'_len (by decide) hl fun i hi => (hx i hi).2, hl, h1, h2, fun r hr => ?_⟩⟩
  obtain ⟨i, hi, rfl⟩ := List.mem_iff_getElem.1 hr
  exact (hx i hi).1
end
section
variable {H : Type} {enc : TypeId × Value → H} {w : World} {base : Nat} {held : Bool}
theorem open_parts {v : Value} {r : Reach} {b0 : Nat} {d : DataW H} {p : List MemPlace} (hv : Value.okWide Try.prog w r b0 22 v) (h : DataW.Trod enc Try.prog w base (fun _ => true) held 22 v d p) :
    ∃ a n c ps, v = .slice a n c ∧ Parts w a n c ps := by
  obtain ⟨a0, n, c, rfl⟩ := okWide_slice Try.underlying22 hv
  obtain ⟨fuel, hf⟩ := h
  obtain ⟨ps, hp⟩ := parts_of_trod hf
  exact ⟨a0, n, c, ps, rfl, hp⟩
theorem open_certs {v : Value} {r : Reach} {b0 : Nat} {d : DataW H} {p : List MemPlace} (hv : Value.okWide Try.prog w r b0 26 v) (h : DataW.Trod enc Try.prog w base (fun _ => true) held 26 v d p) :
    ∃ a n c cs, v = .slice a n c ∧ Certs w a n c cs := by
  obtain ⟨a0, n, c, rfl⟩ := okWide_slice Try.underlying26 hv
  obtain ⟨fuel, hf⟩ := h
  obtain ⟨ps, hp⟩ := certs_of_trod hf
  exact ⟨a0, n, c, ps, rfl, hp⟩
end
end Go.Proofs.Ytpkifmophmjilaa
