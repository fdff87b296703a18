/- NetLinks: the net and the law's map beside one another. -/
import Derived.Test.YtfhlcjfgbhmecaaNetLinksP
import Derived.Test.YtfhlcjfgbhmecaaNetY
import Derived.Test.YtfhlcjfgbhmecaaNetK
namespace Go.Proofs.Ytfhlcjfgbhmecaa
open Go.RowKit
open Go.ChangeMaps (setBlock heap_setBlock_same)
set_option linter.unusedVariables false
set_option maxRecDepth 20000

/-- The blocks of a queue are rows of cells. -/
theorem Que.blks {w : World} {q g : Nat} {room lost : Int} {ms : List (Value × List Int)} (h : Que w q g room lost ms) : ∀ k ∈ [q, g], ∃ cs t, Blk w k t cs := by
  obtain ⟨a, c, h1, h2, h3⟩ := h.ex
  intro k hk
  simp only [List.mem_cons, List.not_mem_nil, or_false] at hk
  rcases hk with rfl | rfl
  · exact ⟨_, _, h1⟩
  · rcases h3 with ⟨_, rfl⟩ | rfl
    · exact ⟨_, _, h1⟩
    · obtain ⟨cur, _, h4, _⟩ := h2.blk
      exact ⟨_, _, h4⟩
theorem CMap.ne_blk {w : World} {b k : Nat} {K : List ((Int × Int) × Int)} {t : TypeId} {cs : Array Value} (h : CMap w b K) (hb : Blk w k t cs) : k ≠ b := by
  obtain ⟨es, cl, he, _⟩ := h.ex
  rintro rfl
  unfold Blk at hb
  rw [he] at hb
  cases hb
section
variable {B : Nat} {w w' : World} {gn n : Nat} {ps : List Int} {q g : Nat → Nat} {room : Int} {lost : Nat → Int} {ms : Nat → List (Value × List Int)} {bm : Nat} {K : List ((Int × Int) × Int)}
theorem own_map {base s n : Nat} {e : TypeId} {v : Value} {xs : List Value} (h : w.ownsRow base e s v n xs) (ho : Only [bm] w w') (hm : CMap w bm K) : w'.ownsRow base e s v n xs := by
  refine own_only h ho fun k hk hmm => ?_
  rcases h.2 with ⟨hv, _⟩ | ⟨k', cp, cur, hv, _, hh, _⟩
  · rw [hv] at hk; simp [Value.ownBlock] at hk
  · rw [hv] at hk
    simp only [Value.ownBlock, Option.some.injEq] at hk
    subst hk
    obtain rfl : k' = bm := by simpa using hmm
    exact hm.ne_blk hh rfl
theorem Nt.map_ (h : Nt B w gn n ps q g room lost ms) (ho : Only [bm] w w') (hm : CMap w bm K) : Nt B w' gn n ps q g room lost ms := by
  obtain ⟨ap, cp, al, cl, ra, rc, h1, h2, h3, h4⟩ := h.ex
  refine ⟨⟨ap, cp, al, cl, ra, rc, h1.only ho (by simpa using hm.ne_blk h1), own_map h2 ho hm, own_map h3 ho hm, fun a ha => own_map (h4 a ha) ho hm⟩, fun k hk => ?_, h.qs.apart⟩
  have hq := h.qs.que k hk
  have nb : ∀ x ∈ [q k, g k], x ∉ [bm] := fun x hx hmm => by
    obtain ⟨cs, t, hb⟩ := hq.blks x hx
    exact hm.ne_blk hb (by simpa using hmm)
  exact hq.only ho (nb _ (by simp)) (nb _ (by simp)) fun x hx cs hb => hm.ne_blk hb (by simpa using hx)
end
/-- A net of the six, all of whose queues hold chains. -/
structure Nw (w0 w : World) (gn : Nat) (Q : Nat → List (List Int)) : Prop where
  ex : ∃ B q g lost ms, Nt B w gn 6 six q g 64 lost ms ∧ (∀ k, lost k = 0) ∧ (∀ k, (ms k).map Prod.snd = Q k) ∧ ∀ k, k < 36 → w0.heap.size ≤ q k ∧ w0.heap.size ≤ g k
  below : Below w0.heap.size w0 w
section
variable {w0 w w' : World} {gn : Nat} {Q : Nat → List (List Int)} {bm : Nat} {K : List ((Int × Int) × Int)}
theorem Nw.later (h : Nw w0 w gn Q) (hb : Below w.heap.size w w') : Nw w0 w' gn Q := by
  obtain ⟨B, q, g, lost, ms, h1, h2, h3, h4⟩ := h.ex
  exact ⟨⟨B, q, g, lost, ms, h1.below hb, h2, h3, h4⟩, h.below.trans (hb.mono h.below.size)⟩
theorem Nw.map_ (h : Nw w0 w gn Q) (ho : Only [bm] w w') (hm : CMap w bm K) (hge : w0.heap.size ≤ bm) : Nw w0 w' gn Q := by
  obtain ⟨B, q, g, lost, ms, h1, h2, h3, h4⟩ := h.ex
  exact ⟨⟨B, q, g, lost, ms, h1.map_ ho hm, h2, h3, h4⟩, ho.below h.below h.below.size (by simpa using hge)⟩
theorem six_lnk (p q : Nat) (hp : p < 4) (hq : q < 4) (hne : p ≠ q) : Lnk 6 six p q (p * 6 + q) := ⟨p, q, at6 p p hp rfl, at6 q q hq rfl, hne, rfl⟩
theorem six_no (p : Nat) (x : Int) (h : p < 4) (hx : x = p) : NoLnk 6 six x x := ⟨p, p, .inl ⟨p, rfl, (at6 p x h hx).2⟩, .inl ⟨p, rfl, (at6 p x h hx).2⟩, .inr (.inr rfl)⟩
theorem mapq {ms : Nat → List (Value × List Int)} (h3 : ∀ k, (ms k).map Prod.snd = Q k) (k : Nat) (m : List (Value × List Int)) (x : List (List Int)) (hm : m.map Prod.snd = x) : ∀ j, ((upq ms k m) j).map Prod.snd = upq Q k x j := fun j => by
  unfold upq
  split
  · exact hm
  · exact h3 j
/-- What stands aside when a queue turns. -/
structure Aside (w w' : World) : Prop where
  row : ∀ {base e s n : Nat} {v : Value} {xs : List Value}, w.ownsRow base e s v n xs → e ≠ 161 → e ≠ 59 → w'.ownsRow base e s v n xs
  blk : ∀ {k t : Nat} {cs : Array Value}, Blk w k t cs → t ≠ 161 → t ≠ 59 → Blk w' k t cs
  map : ∀ {bm : Nat} {K : List ((Int × Int) × Int)}, CMap w bm K → CMap w' bm K
theorem Aside.of {w w' : World} {q g : Nat} {room lost : Int} {ms : List (Value × List Int)} (h : Que w q g room lost ms) (ho : Only [q, g] w w') : Aside w w' := by
  refine ⟨fun hr h1 h2 => own_kinds hr ho h.types h1 h2, fun hb h1 h2 => hb.only ho fun hm => ?_, fun hm => hm.only ho fun hmm => ?_⟩
  · rcases h.types _ hm _ _ hb with e | e
    · exact h1 e
    · exact h2 e
  · obtain ⟨cs, t, hb⟩ := h.blks _ hmm
    exact hm.ne_blk hb rfl
theorem Aside.below {w w' : World} (hb : Below w.heap.size w w') : Aside w w' := ⟨fun hr _ _ => own_below hr hb, fun hk _ _ => hk.below hb hk.lt, fun hm => hm.below hb⟩
theorem Aside.trans {w w' w'' : World} (h : Aside w w') (h' : Aside w' w'') : Aside w w'' := ⟨fun hr a b => h'.row (h.row hr a b) a b, fun hk a b => h'.blk (h.blk hk a b) a b, fun hm => h'.map (h.map hm)⟩
theorem nw_push (h : Nw w0 w gn Q) (a b : Nat) (ha : a < 4) (hb : b < 4) (hab : a ≠ b) (v : Option Addr) (c : Nat) (x : Int) (hv : VRow w v 1 1 (brow [x])) (hlt : (Q (a * 6 + b)).length < 64) :
    Calls Try.prog 32 #[.pointer (some ⟨gn, 0, none⟩), .int .i64 a, .agg #[.int .i64 b, .slice v 1 c]] w fun e w' => e = .returned (.bool true) ∧ Nw w0 w' gn (upq Q (a * 6 + b) (Q (a * 6 + b) ++ [[x]])) ∧ Aside w w' := by
  obtain ⟨B, q, g, lost, ms, h1, h2, h3, h4⟩ := h.ex
  have hk : a * 6 + b < 36 := by omega
  have hl : (ms (a * 6 + b)).length < 64 := by rw [← h3, List.length_map] at hlt; exact hlt
  refine (npush_at a b v 1 c [x] w h1 (by omega) (by omega) _ (six_lnk a b ha hb hab) hv (by omega) (by omega)).mono ?_
  rintro e w' ⟨g', z, rfl, hn, ho, hg⟩
  refine ⟨rfl, ⟨⟨B, q, _, _, _, hn, fun k => ?_, mapq h3 _ _ _ (by rw [List.map_append, h3]; rfl), fun k hk => ?_⟩, ho.below h.below h.below.size (by simpa using h4 _ hk)⟩, Aside.of (h1.qs.que _ hk) ho⟩
  · unfold upq; split
    · exact h2 _
    · exact h2 _
  · refine ⟨(h4 k hk).1, ?_⟩
    unfold upq; split
    · rcases hg with rfl | hg
      · rename_i e; rw [← e]; exact (h4 k hk).2
      · exact Nat.le_trans h.below.size hg
    · exact (h4 k hk).2
theorem nw_take (h : Nw w0 w gn Q) (a b : Nat) (ha : a < 4) (hb : b < 4) (hab : a ≠ b) (x : List Int) (r : List (List Int)) (hQ : Q (a * 6 + b) = x :: r) :
    Calls Try.prog 38 #[.pointer (some ⟨gn, 0, none⟩), .int .i64 a, .int .i64 b, .int .i64 0] w fun e w' => ∃ v c, e = .returned (.tuple #[.slice v x.length c, .bool true]) ∧ VRow w' v x.length 1 (brow x) ∧ Nw w0 w' gn (upq Q (a * 6 + b) r) ∧ Aside w w' := by
  obtain ⟨B, q, g, lost, ms, h1, h2, h3, h4⟩ := h.ex
  have hk : a * 6 + b < 36 := by omega
  have h3k := h3 (a * 6 + b)
  rw [hQ] at h3k
  obtain ⟨m, ms', hms⟩ : ∃ m ms', ms (a * 6 + b) = m :: ms' := by
    cases hh : ms (a * 6 + b) with
    | nil => rw [hh] at h3k; cases h3k
    | cons m ms' => exact ⟨m, ms', rfl⟩
  have hm1 : m.2 = x ∧ ms'.map Prod.snd = r := by
    rw [hms] at h3k
    simpa using h3k
  have hl : 0 < (ms (a * 6 + b)).length := by rw [hms]; simp
  refine (ntake_ok' a b 0 w h1 (by omega) _ (six_lnk a b ha hb hab) 0 hl rfl).mono ?_
  rintro e w' ⟨g', v, rfl, ht, hn, ho, hg⟩
  have e0 : ((ms (a * 6 + b))[0]'hl).2 = x := by simp only [hms]; exact hm1.1
  rw [e0] at ht
  obtain ⟨av, cv, rfl, hrow⟩ := ht
  refine ⟨av, cv, rfl, own_vrow hrow, ⟨⟨B, q, _, _, _, hn, fun k => ?_, mapq h3 _ _ _ (by simp only [hms, outAt]; simpa using hm1.2), fun k hk => ?_⟩, ho.below h.below h.below.size (by simpa using h4 _ hk)⟩, Aside.of (h1.qs.que _ hk) ho⟩
  · unfold upq; split
    · exact h2 _
    · exact h2 _
  · refine ⟨(h4 k hk).1, ?_⟩
    unfold upq; split
    · rcases hg with rfl | hg
      · rename_i e; rw [← e]; exact (h4 k hk).2
      · exact Nat.le_trans h.below.size hg
    · exact (h4 k hk).2
theorem nw_len (h : Nw w0 w gn Q) (a b : Nat) (ha : a < 4) (hb : b < 4) (hab : a ≠ b) (l : Nat) (hl : (Q (a * 6 + b)).length = l) :
    Calls Try.prog 34 #[.pointer (some ⟨gn, 0, none⟩), .int .i64 a, .int .i64 b] w fun e w' => e = .returned (.int .i64 l) ∧ w = w' := by
  obtain ⟨B, q, g, lost, ms, h1, h2, h3, h4⟩ := h.ex
  exact nlen_c' a b w h1 (by omega) _ (six_lnk a b ha hb hab) l (by rw [← hl, ← h3, List.length_map])
theorem nw_lost (h : Nw w0 w gn Q) : Calls Try.prog 35 #[.pointer (some ⟨gn, 0, none⟩)] w fun e w' => e = .returned (.int .i64 0) ∧ w = w' := by
  obtain ⟨B, q, g, lost, ms, h1, h2, h3, h4⟩ := h.ex
  exact nlost_c w h1 (by omega) fun k _ => h2 k
theorem nw_links (h : Nw w0 w gn Q) (cnt : Nat → Nat) (hc : ∀ k, (Q k).length = cnt k) : Calls Try.prog 37 #[.pointer (some ⟨gn, 0, none⟩)] w fun e w' => ∃ A c, e = .returned (.slice A (idx cnt 36).length c) ∧ PRow w' w.heap.size (.slice A (idx cnt 36).length c) ((idx cnt 36).map (prOf six 6)) ∧ Below w.heap.size w w' := by
  obtain ⟨B, q, g, lost, ms, h1, h2, h3, h4⟩ := h.ex
  refine (nlinks_c w h1 (by omega) _ (lks_idx 6 six ms cnt (fun k => by rw [← hc, ← h3, List.length_map]) (6 * 6))).mono ?_
  rintro e w' ⟨A, c, rfl, hp, hb⟩
  exact ⟨A, c, by rw [List.length_map], by rw [List.length_map] at hp; exact hp, hb⟩
end
theorem idx_nil (cnt : Nat → Nat) (h : ∀ k, k < 36 → cnt k = 0) : idx cnt 36 = [] := by
  refine List.eq_nil_iff_forall_not_mem.2 fun k hk => ?_
  have := (idx_mem cnt 36 k).1 hk
  have := h k this.1
  omega
end Go.Proofs.Ytfhlcjfgbhmecaa
