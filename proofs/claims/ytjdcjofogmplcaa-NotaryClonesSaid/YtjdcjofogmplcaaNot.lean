/- Package notary: its map, what it holds; the instructions on it. -/
import Derived.Test.YtjdcjofogmplcaaLink
import Derived.Test.YtjdcjofogmplcaaBytes
import Derived.DeepKeys4
import Derived.Maps.OwnSet
import Derived.Laws.BytesArg
namespace Go.Proofs.Ytjdcjofogmplcaa
open Go.RowKit Go.Maps
open Go.ChangeMaps (setBlock heap_setBlock_same)
set_option linter.unusedVariables false

theorem klaw : Keyed Try.prog 93 := Keyed.of_law (deep_law_laid (by kernel_rfl) (m := 2) (by omega) (of_decide_eq_true (by kernel_rfl)) (by kernel_rfl) (by rw [Try.underlying93]))
theorem kof (p : Int) (s : ByteArray) (hp : I64 p) (hs : s.size ≤ maxLen) : ∃ l, keyOf Try.prog 93 (.agg #[.int .i64 p, .string s]) = some l := by
  have hf : (Value.agg #[.int .i64 p, .string s]).formed Try.prog 93 = true := by
    simp [Value.formed, Try.underlying93]
    kernel_rfl
  have hw : (Lit.int .i64 p).wf = true := WalkArith.wf_i64 hp
  have c1 : Try.prog.cellsOf 3 = 1 := by kernel_rfl
  have c2 : Try.prog.cellsOf 9 = 1 := by kernel_rfl
  have c3 : Try.prog.cellsOf 93 = 2 := by kernel_rfl
  have c4 : Try.prog.keyType 93 = true := by kernel_rfl
  unfold keyOf
  rw [Try.underlying93]
  simp only [hf]
  unfold Program.keyLits
  simp [Try.underlying93]
  simp [c1, c2, c3, c4, Value.cells, Program.keyLits, Try.underlying3, Try.underlying9, hw, hs]

/-- A party and bytes, as a key. -/
def kv (e : Int × List Int) : Value := .agg #[.int .i64 e.1, .string (strOfNums e.2)]
structure OkE (e : Int × List Int) : Prop where
  p : I64 e.1
  b : ∀ x ∈ e.2, 0 ≤ x ∧ x ≤ 255
  n : e.2.length ≤ maxLen
theorem str_size (xs : List Int) : (strOfNums xs).size = xs.length := by simp [strOfNums, ByteArray.size]
theorem kof_kv {e : Int × List Int} (h : OkE e) : ∃ l, keyOf Try.prog 93 (kv e) = some l := kof e.1 _ h.p (by rw [str_size]; exact h.n)
theorem byte_inj : ∀ (xs ys : List Int), (∀ x ∈ xs, 0 ≤ x ∧ x ≤ 255) → (∀ x ∈ ys, 0 ≤ x ∧ x ≤ 255) → xs.map (fun n => UInt8.ofNat n.toNat) = ys.map (fun n => UInt8.ofNat n.toNat) → xs = ys
  | [], [], _, _, _ => rfl
  | [], y :: ys, _, _, h => by simp at h
  | x :: xs, [], _, _, h => by simp at h
  | x :: xs, y :: ys, hx, hy, h => by
    simp only [List.map_cons, List.cons.injEq] at h
    have h1 := hx x (by simp)
    have h2 := hy y (by simp)
    have h3 := congrArg UInt8.toNat h.1
    simp only [UInt8.toNat_ofNat'] at h3
    rw [Nat.mod_eq_of_lt (by omega), Nat.mod_eq_of_lt (by omega)] at h3
    have e : x = y := by omega
    rw [e, byte_inj xs ys (fun z hz => hx z (by simp [hz])) (fun z hz => hy z (by simp [hz])) h.2]
theorem str_inj {xs ys : List Int} (hx : ∀ x ∈ xs, 0 ≤ x ∧ x ≤ 255) (hy : ∀ x ∈ ys, 0 ≤ x ∧ x ≤ 255) (h : strOfNums xs = strOfNums ys) : xs = ys := by
  apply byte_inj xs ys hx hy
  have := congrArg (fun s : ByteArray => s.data.toList) h
  simpa [strOfNums] using this
theorem kv_inj {a b : Int × List Int} (ha : OkE a) (hb : OkE b) (h : kv a = kv b) : a = b := by
  unfold kv at h
  injection h with h
  have h1 : Value.int .i64 a.1 = .int .i64 b.1 ∧ Value.string (strOfNums a.2) = .string (strOfNums b.2) := by simpa using h
  injection h1.1 with _ e1
  injection h1.2 with e2
  exact Prod.ext e1 (str_inj ha.b hb.b e2)

/-- The number of a seal; 0, if there is none. -/
def num (K : List (Int × List Int)) (q : Int × List Int) : Int := if q ∈ K then (K.idxOf q : Int) + 1 else 0
/-- The map at b holds just the seals of K, numbered. -/
structure NMap (w : World) (b : Nat) (K : List (Int × List Int)) : Prop where
  ex : ∃ es clock, w.heap[b]? = some (.map es clock) ∧ es.size = K.length ∧ (∀ e ∈ es.toList, ∃ (i : Nat) (q : Int × List Int), K[i]? = some q ∧ e.key = kv q ∧ e.val = .int .i64 ((i : Int) + 1)) ∧ (∀ q ∈ K, ∃ e ∈ es.toList, e.key = kv q)
  ok : ∀ q ∈ K, OkE q
  nd : K.Nodup
  n : K.length ≤ 1048576
  born : ∀ es clock, w.heap[b]? = some (.map es clock) → (∀ e ∈ es.toList, e.born < clock) ∧ (es.toList.map (·.born)).Nodup ∧ (es.toList.map (·.key)).Nodup
section
variable {w w' : World} {b : Nat} {K : List (Int × List Int)} {q : Int × List Int}
theorem NMap.lt (h : NMap w b K) : b < w.heap.size := by
  obtain ⟨es, cl, hb, _⟩ := h.ex
  rcases Nat.lt_or_ge b w.heap.size with hlt | hge
  · exact hlt
  · rw [Array.getElem?_eq_none hge] at hb; cases hb
theorem NMap.only {S : List Nat} (h : NMap w b K) (ho : Only S w w') (hn : b ∉ S) : NMap w' b K := by
  obtain ⟨es, cl, hb, h1, h2, h3⟩ := h.ex
  exact ⟨⟨es, cl, by rw [ho.block b h.lt hn]; exact hb, h1, h2, h3⟩, h.ok, h.nd, h.n, fun es' cl' hb' => h.born es' cl' (by rw [← ho.block b h.lt hn]; exact hb')⟩
theorem NMap.below (h : NMap w b K) (hb : Below w.heap.size w w') : NMap w' b K := h.only (Only.of_below (S := []) hb) (by simp)
theorem NMap.drewN (h : NMap w b K) (j : Nat) : NMap (w.drewN j) b K := ⟨h.ex, h.ok, h.nd, h.n, h.born⟩
theorem idx_of (h : NMap w b K) {i : Nat} (hi : K[i]? = some q) : K.idxOf q = i := by
  obtain ⟨hlt, rfl⟩ := List.getElem?_eq_some_iff.1 hi
  exact h.nd.idxOf_getElem i hlt
/-- 's, is := seals[k]'. -/
theorem NMap.look (h : NMap w b K) (hq : OkE q) : (Instr.lookup 88 (.map (some b)) (kv q) true).run Try.prog w = .ok (.tuple #[.int .i64 (num K q), .bool (decide (q ∈ K))]) w := by
  obtain ⟨es, cl, hb, h1, h2, h3⟩ := h.ex
  obtain ⟨l, hl⟩ := kof_kv hq
  have hes : ∀ e ∈ es.toList, ∃ l, keyOf Try.prog 93 e.key = some l := fun e he => by
    obtain ⟨i, q', hi, hk, _⟩ := h2 e he
    rw [hk]
    exact kof_kv (h.ok q' (List.mem_of_getElem? hi))
  rcases klaw.find w hl es.toList hes with ⟨f1, f2⟩ | ⟨j, e0, f1, f2, f3⟩
  · have hn : q ∉ K := fun hm => by
      obtain ⟨e, he, hk⟩ := h3 q hm
      exact f2 e he hk
    rw [num, if_neg hn, decide_eq_false hn]
    simp [Instr.lookup, run_underlying Try.underlying88, MapKept.run_getObj_map hb, klaw.check w _ hl, f1, Result.andThen]
  · obtain ⟨i, q', hi, hk, hv⟩ := h2 e0 (List.mem_of_getElem? f2)
    have hm := List.mem_of_getElem? hi
    obtain rfl : q' = q := kv_inj (h.ok q' hm) hq (by rw [← hk, f3])
    rw [num, if_pos hm, decide_eq_true hm, idx_of h hi, ← hv]
    simp [Instr.lookup, run_underlying Try.underlying88, MapKept.run_getObj_map hb, klaw.check w _ hl, f1, Result.andThen]
/-- 'len(seals)'. -/
theorem NMap.len (h : NMap w b K) (ty : TypeId) : (Builtin.len_ #[88] ty #[.map (some b)]).run Try.prog w = .ok (.int .i64 K.length) w := by
  obtain ⟨es, cl, hb, h1, h2, h3⟩ := h.ex
  rw [← h1]
  simp [Builtin.len_, run_underlying Try.underlying88, MapKept.run_getObj_map hb, goInt, Result.andThen]
theorem only_setBlock (w : World) (b : Nat) (o : Obj) : Only [b] w (setBlock w b o) := by
  refine ⟨rfl, rfl, rfl, by simp [setBlock], fun k hk hn => ?_⟩
  simp only [List.mem_cons, List.not_mem_nil, or_false] at hn
  simp [setBlock, Ne.symm hn]
/-- 'seals[k] = len + 1', of a new key. -/
theorem NMap.put (h : NMap w b K) (hq : OkE q) (hn : q ∉ K) (hlen : K.length < 1048576) : ∃ w', (Instr.mapUpdate 88 (.map (some b)) (kv q) (.int .i64 ((K.length : Int) + 1))).run Try.prog w = .ok () w' ∧ NMap w' b (K ++ [q]) ∧ Only [b] w w' := by
  obtain ⟨es, cl, hb, h1, h2, h3⟩ := h.ex
  obtain ⟨l, hl⟩ := kof_kv hq
  have hes : ∀ e ∈ es.toList, ∃ l, keyOf Try.prog 93 e.key = some l := fun e he => by
    obtain ⟨i, q', hi, hk, _⟩ := h2 e he
    rw [hk]
    exact kof_kv (h.ok q' (List.mem_of_getElem? hi))
  rcases klaw.find w hl es.toList hes with ⟨f1, f2⟩ | ⟨j, e0, f1, f2, f3⟩
  · refine ⟨setBlock w b (.map (es.push ⟨kv q, .int .i64 ((K.length : Int) + 1), cl⟩) (cl + 1)), ?_, ⟨⟨_, _, heap_setBlock_same hb _, by simp [h1], ?_, ?_⟩, ?_, ?_, by simp; omega, ?_⟩, only_setBlock _ _ _⟩
    · simp [Instr.mapUpdate, run_underlying Try.underlying88, MapKept.run_getObj_map hb, klaw.check w false hl, f1, MapKept.run_setObj_map _ hb, Result.andThen, setBlock]
    · intro e he
      simp only [Array.toList_push, List.mem_append, List.mem_singleton] at he
      rcases he with he | rfl
      · obtain ⟨i, q', hi, hk, hv⟩ := h2 e he
        exact ⟨i, q', by rw [List.getElem?_append_left (List.getElem?_eq_some_iff.1 hi).1]; exact hi, hk, hv⟩
      · exact ⟨K.length, q, by simp, rfl, rfl⟩
    · intro q' hq'
      rcases List.mem_append.1 hq' with hq' | hq'
      · obtain ⟨e, he, hk⟩ := h3 q' hq'
        exact ⟨e, by simp [he], hk⟩
      · simp only [List.mem_singleton] at hq'
        subst hq'
        exact ⟨_, by simp; exact .inr rfl, rfl⟩
    · intro q' hq'
      rcases List.mem_append.1 hq' with hq' | hq'
      · exact h.ok q' hq'
      · simp only [List.mem_singleton] at hq'
        subst hq'
        exact hq
    · rw [List.nodup_append]
      exact ⟨h.nd, by simp, fun a ha b hb e => hn (by simp at hb; rw [← hb, ← e]; exact ha)⟩
    · intro es' cl' hb'
      rw [heap_setBlock_same hb _] at hb'
      obtain ⟨p1, p2, p3⟩ := h.born es cl hb
      injection hb' with hb'
      injection hb' with e1 e2
      subst e1
      subst e2
      refine ⟨fun e he => ?_, ?_, ?_⟩
      · simp only [Array.toList_push, List.mem_append, List.mem_singleton] at he
        rcases he with he | rfl
        · exact Nat.lt_succ_of_lt (p1 e he)
        · exact Nat.lt_succ_self _
      · rw [Array.toList_push, List.map_append, List.nodup_append]
        refine ⟨p2, by simp, fun x hx y hy e => ?_⟩
        obtain ⟨z, hz, rfl⟩ := List.mem_map.1 hx
        simp only [List.map_cons, List.map_nil, List.mem_singleton] at hy
        have := p1 z hz
        omega
      · rw [Array.toList_push, List.map_append, List.nodup_append]
        refine ⟨p3, by simp, fun x hx y hy e => ?_⟩
        obtain ⟨z, hz, rfl⟩ := List.mem_map.1 hx
        simp only [List.map_cons, List.map_nil, List.mem_singleton] at hy
        exact f2 z hz (by rw [e, hy])
  · obtain ⟨i, q', hi, hk, hv⟩ := h2 e0 (List.mem_of_getElem? f2)
    have hm := List.mem_of_getElem? hi
    obtain rfl : q' = q := kv_inj (h.ok q' hm) hq (by rw [← hk, f3])
    exact absurd hm hn
/-- 'string(b)'. -/
theorem conv_bytes {a : Option Addr} {n c : Nat} {bs : List Int} (h : VRow w a n 1 (brow bs)) : (convert 33 9 (.slice a n c)).run Try.prog w = .ok (.string (strOfNums bs)) w := by
  have hl : bs.length = n := by have := h.1; simpa [brow] using this
  subst hl
  by_cases h0 : bs.length = 0
  · obtain rfl : bs = [] := List.eq_nil_of_length_eq_zero h0
    cases a with
    | none => exact run_convert_bytes_nil w _ _ Try.underlying33 Try.underlying5 _ _ _ Try.underlying9
    | some p =>
      rw [run_convert_bytes_string w _ _ _ _ _ _ Try.underlying33 Try.underlying5 Try.underlying9]
      have hz : (loadCells p 0).run Try.prog w = .ok #[] w := by simpa using run_loadCells_list (P := Try.prog) w p [] (by simp)
      exact run_bytesToString w p 0 c [] hz
  · obtain ⟨b, off, rfl, hlt, hc⟩ := h.2 (by omega)
    exact run_convert_bytes_arg w _ _ Try.underlying33 Try.underlying5 b off bs.length c bs rfl (fun i hi => by
      rw [hc i (.int .u8 (bs[i]'hi)) (by simp [brow, hi])]
      simp [List.getD, hi]) _ Try.underlying9
end
end Go.Proofs.Ytjdcjofogmplcaa
