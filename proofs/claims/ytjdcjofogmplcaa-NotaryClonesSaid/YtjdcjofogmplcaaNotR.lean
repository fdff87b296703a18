/- The document's notary: Find, Seal, Check. -/
import Derived.Test.YtjdcjofogmplcaaNotW
import Derived.Test.YtjdcjofogmplcaaApp
import Derived.Test.YtjdcjofogmplcaaPlan
import Derived.Deep.DeepCutAuto
namespace Go.Proofs.Ytjdcjofogmplcaa
open Go.RowKit
set_option linter.unusedVariables false

def parties (K : List (Int × List Int)) : List Value := K.map fun e => .int .i64 e.1
def texts (K : List (Int × List Int)) : List Value := K.map fun e => .string (strOfNums e.2)
/-- The document's notary at r: its rows are the call's own; F: the blocks that are its. -/
structure Rty (w0 w : World) (r : Nat) (F : List Nat) (K : List (Int × List Int)) : Prop where
  ex : ∃ a c a' c', Blk w r 30 #[.slice a K.length c, .slice a' K.length c'] ∧ w.ownsRow w0.heap.size 3 1 (.slice a K.length c) K.length (parties K) ∧ w.ownsRow w0.heap.size 9 1 (.slice a' K.length c') K.length (texts K) ∧ F = r :: ((a.map (·.block)).toList ++ (a'.map (·.block)).toList)
  base : w0.heap.size ≤ r
section
variable {w0 w w' : World} {r : Nat} {F : List Nat} {K : List (Int × List Int)}
theorem Rty.only {S : List Nat} (h : Rty w0 w r F K) (ho : Only S w w') (hF : ∀ k ∈ F, k ∉ S) : Rty w0 w' r F K := by
  obtain ⟨a, c, a', c', h1, h2, h3, rfl⟩ := h.ex
  refine ⟨⟨a, c, a', c', h1.only ho (hF _ (by simp)), own_only h2 ho fun g hg => hF g ?_, own_only h3 ho fun g hg => hF g ?_, rfl⟩, h.base⟩
  · rw [own_block_eq] at hg
    simp [hg]
  · rw [own_block_eq] at hg
    simp [hg]
theorem Rty.below (h : Rty w0 w r F K) (hb : Below w.heap.size w w') : Rty w0 w' r F K := h.only (Only.of_below (S := []) hb) (by simp)
theorem Rty.drewN (h : Rty w0 w r F K) (j : Nat) : Rty w0 (w.drewN j) r F K := h.only (S := []) ((Only.refl _ _).drewN j) (by simp)
theorem Rty.lt (h : Rty w0 w r F K) : ∀ k ∈ F, w0.heap.size ≤ k ∧ k < w.heap.size ∧ ∃ t cs, Blk w k t cs ∧ (t = 30 ∨ t = 3 ∨ t = 9) := by
  obtain ⟨a, c, a', c', h1, h2, h3, rfl⟩ := h.ex
  intro k hk
  simp only [List.mem_cons, List.mem_append, Option.mem_toList] at hk
  rcases hk with rfl | hk | hk
  · exact ⟨h.base, h1.lt, _, _, h1, .inl rfl⟩
  · have hg : (Value.slice a K.length c).ownBlock = some k := by rw [own_block_eq]; exact hk
    have hl := World.ownsRow.lt h2 k hg
    refine ⟨hl.1, hl.2, ?_⟩
    rcases h2.2 with ⟨hv, _⟩ | ⟨k', cap, cur, hv, _, hb, _⟩
    · rw [hv] at hg; simp [Value.ownBlock] at hg
    · rw [hv] at hg
      simp only [Value.ownBlock, Option.some.injEq] at hg
      subst hg
      exact ⟨_, _, hb, .inr (.inl rfl)⟩
  · have hg : (Value.slice a' K.length c').ownBlock = some k := by rw [own_block_eq]; exact hk
    have hl := World.ownsRow.lt h3 k hg
    refine ⟨hl.1, hl.2, ?_⟩
    rcases h3.2 with ⟨hv, _⟩ | ⟨k', cap, cur, hv, _, hb, _⟩
    · rw [hv] at hg; simp [Value.ownBlock] at hg
    · rw [hv] at hg
      simp only [Value.ownBlock, Option.some.injEq] at hg
      subst hg
      exact ⟨_, _, hb, .inr (.inr rfl)⟩
theorem Rty.rows (h : Rty w0 w r F K) : ∃ a c a' c', w.cell? ⟨r, 0, none⟩ = some (.slice a K.length c) ∧ w.cell? ⟨r, 1, none⟩ = some (.slice a' K.length c') ∧ VRow w a K.length 1 (parties K) ∧ VRow w a' K.length 1 (texts K) := by
  obtain ⟨a, c, a', c', h1, h2, h3, _⟩ := h.ex
  exact ⟨a, c, a', c', h1.cell 0, h1.cell 1, own_vrow h2, own_vrow h3⟩
end

theorem str_ne {s t : ByteArray} (h : ¬ s = t) : (s.toList == t.toList) = false :=
  beq_eq_false_iff_ne.2 fun e => h (by
    rw [ByteArray.toList_eq, ByteArray.toList_eq] at e
    cases s
    cases t
    simp_all)
/-- Before its place nothing is the same. -/
theorem before_ne {K : List (Int × List Int)} {q : Int × List Int} {i : Nat} (hi : i < K.length) (h : ∀ j, j < i → K[j]? ≠ some q) (hq : K[i]? = some q) : num K q = (i : Int) + 1 ∧ q ∈ K := by
  have hm := List.mem_of_getElem? hq
  refine ⟨?_, hm⟩
  rw [num, if_pos hm]
  have h1 : K.idxOf q ≤ i := by
    obtain ⟨_, he⟩ := List.getElem?_eq_some_iff.1 hq
    rcases Nat.lt_or_ge i (K.idxOf q) with hlt | hge
    · have h5 := List.not_of_lt_findIdx (p := (· == q)) (xs := K) (i := i) (by simpa [List.idxOf] using hlt)
      simp [he] at h5
    · exact hge
  have h2 : ¬ K.idxOf q < i := fun hlt => h _ hlt (by
    have hl := List.idxOf_lt_length_of_mem hm
    rw [List.getElem?_eq_getElem hl, List.getElem_idxOf hl])
  omega

set_option maxRecDepth 100000 in
set_option maxHeartbeats 1600000 in
theorem rfind_c (w0 : World) (r : Nat) (F : List Nat) (K : List (Int × List Int)) (p : Int) (a : Option Addr) (m c : Nat) (bs : List Int) (w : World) (h : Rty w0 w r F K) (hK : ∀ q ∈ K, OkE q) (hv : VRow w a m 1 (brow bs)) (hq : OkE (p, bs)) (hn : K.length ≤ 1048576) (x : Int) (hx : num K (p, bs) = x) (is : Bool) (his : decide ((p, bs) ∈ K) = is) :
    Calls Try.prog 51 #[.pointer (some ⟨r, 0, none⟩), .int .i64 p, .slice a m c] w fun e w' => e = .returned (.tuple #[.int .i64 x, .bool is]) ∧ w = w' := by
  obtain ⟨A, C, A', C', c0, c1, v0, v1⟩ := h.rows
  obtain ⟨s, hs⟩ : ∃ s, s = strOfNums bs := ⟨_, rfl⟩
  have f1 : (convert 33 9 (.slice a m c)).run Try.prog w = .ok (.string s) w := by rw [hs]; exact conv_bytes hv
  have V0 := Lib.hid v0
  have V1 := Lib.hid v1
  have HQ := Lib.hid hq
  have HK := Lib.hid hK
  have HX := Lib.hid hx
  have HI := Lib.hid his
  have HS := Lib.hid hs
  obtain ⟨n, hn'⟩ : ∃ n, n = K.length := ⟨_, rfl⟩
  rw [← hn'] at c0 c1 hn
  have HN := Lib.hid hn'
  clear h hv hs hq hK hx his v0 v1 hn'
  go_enter Try.func51, Try.ntmps51
  go_wp2_with fail
  go_loopw [9] (fun i wr => ∃ k : Nat, k ≤ n ∧ i = .int .i64 k ∧ w = wr ∧ ∀ j, j < k → K[j]? ≠ some (p, bs)) (fun i _ => n - (intOf i).toNat)
  case atStart => exact ⟨0, by omega, rfl, rfl, fun j hj => by omega⟩
  case round =>
    obtain ⟨k, hk, rfl, rfl, hno⟩ := hrel
    have NO := Lib.hid hno
    clear hno
    by_cases hlt : k < n
    · have hkl : k < K.length := by have := HN.out; omega
      obtain ⟨b0, o0, rfl, _, hc0⟩ := V0.out.2 (by omega)
      obtain ⟨b1, o1, rfl, _, hc1⟩ := V1.out.2 (by omega)
      obtain ⟨⟨pk, tk⟩, hek⟩ : ∃ e, e = K[k]'hkl := ⟨_, rfl⟩
      have ek : K[k]? = some (pk, tk) := by rw [List.getElem?_eq_getElem hkl, hek]
      have d0 : w.cell? ⟨b0, o0 + k, none⟩ = some (.int .i64 pk) := hc0 k _ (by simp [parties, ek])
      obtain ⟨sk, hsk⟩ : ∃ sk, sk = strOfNums tk := ⟨_, rfl⟩
      have d1 : w.cell? ⟨b1, o1 + k, none⟩ = some (.string sk) := hc1 k _ (by simp [texts, ek, hsk])
      have i0 : (0 : Int) ≤ k := by omega
      have i1 : (k : Int) < n := by omega
      have EK := Lib.hid ek
      have SK := Lib.hid hsk
      have OKK := Lib.hid (HK.out (pk, tk) (List.mem_of_getElem? ek))
      clear hc0 hc1 hek ek hsk
      by_cases e1 : pk = p
      · by_cases e2 : sk = s
        · have e3 : tk = bs := str_inj OKK.out.b HQ.out.b (by rw [← SK.out, ← HS.out]; exact e2)
          subst e1
          subst e2
          subst e3
          obtain ⟨h1, h2⟩ := before_ne hkl NO.out EK.out
          have i5 : IntKind.i64.wrap ((k : Int) + 1) = (k : Int) + 1 := IntWalk.i64_in _ (by omega)
          have e8 : x = (k : Int) + 1 := by rw [← HX.out, h1]
          have e9 : is = true := by rw [← HI.out]; exact decide_eq_true h2
          subst e8
          subst e9
          clear h1 h2
          go_wp2_with fail
          go_ret2
          exact ⟨rfl, rfl⟩
        · have e4 : (sk.toList == s.toList) = false := str_ne e2
          subst e1
          have hne : K[k]? ≠ some (pk, bs) := fun e => e2 (by rw [EK.out] at e; injection e with e; injection e with _ e; rw [SK.out, HS.out, e])
          have NE := Lib.hid hne
          clear hne e2
          go_wp2_with fail
          go_roundw
          case rel => exact ⟨k + 1, by omega, by go_num, trivial, fun j hj => by
            rcases Nat.lt_or_ge j k with h | h
            · exact NO.out j h
            · obtain rfl : j = k := by omega
              exact NE.out⟩
          case measure => simp [intOf]; omega
      · have e4 : (pk == p) = false := beq_eq_false_iff_ne.2 e1
        have hne : K[k]? ≠ some (p, bs) := fun e => e1 (by rw [EK.out] at e; injection e with e; injection e with e _)
        have NE := Lib.hid hne
        clear hne e1
        go_wp2_with fail
        go_roundw
        case rel => exact ⟨k + 1, by omega, by go_num, trivial, fun j hj => by
          rcases Nat.lt_or_ge j k with h | h
          · exact NO.out j h
          · obtain rfl : j = k := by omega
            exact NE.out⟩
        case measure => simp [intOf]; omega
    · have hnm : (p, bs) ∉ K := fun hm => by
        obtain ⟨j, hj, he⟩ := List.mem_iff_getElem.1 hm
        exact NO.out j (by have := HN.out; omega) (by rw [List.getElem?_eq_getElem hj, he])
      have e8 : x = 0 := by rw [← HX.out, num, if_neg hnm]
      have e9 : is = false := by rw [← HI.out]; exact decide_eq_false hnm
      subst e8
      subst e9
      clear hnm
      go_wp2_with fail
      go_ret2
      exact ⟨rfl, rfl⟩

theorem info_int1 : (Try.prog.info? 3).map (fun i => (i.zero, i.size, i.bytes)) = some (some (.int .i64 0), 1, 8) := by kernel_rfl
theorem info_str1 : (Try.prog.info? 9).map (fun i => (i.zero, i.size, i.bytes)) = some (some (.string ByteArray.empty), 1, 16) := by kernel_rfl
theorem rseal_old (w0 : World) (r : Nat) (F : List Nat) (K : List (Int × List Int)) (p : Int) (a : Option Addr) (m c : Nat) (bs : List Int) (w : World) (h : Rty w0 w r F K) (hK : ∀ q ∈ K, OkE q) (hv : VRow w a m 1 (brow bs)) (hq : OkE (p, bs)) (hn : K.length ≤ 1048576) (hm : (p, bs) ∈ K) (x : Int) (hx : num K (p, bs) = x) :
    Calls Try.prog 49 #[.pointer (some ⟨r, 0, none⟩), .int .i64 p, .slice a m c] w fun e w' => e = .returned (.int .i64 x) ∧ w = w' := by
  have H := Lib.hid h
  have HK := Lib.hid hK
  have HV := Lib.hid hv
  have HQ := Lib.hid hq
  have HN := Lib.hid hn
  have HM := Lib.hid (decide_eq_true hm)
  have HX := Lib.hid hx
  clear h hK hv hq hn hm hx
  go_enter Try.func49, Try.ntmps49
  go_wp2_with fail
  refine (rfind_c w0 r F K p a m c bs _ H.out HK.out HV.out HQ.out HN.out x HX.out true HM.out).mono ?_; rintro e w1 ⟨rfl, rfl⟩
  go_wp2_with fail
  go_ret
  exact ⟨rfl, rfl⟩
set_option maxRecDepth 100000 in
set_option maxHeartbeats 1600000 in
theorem rseal_new (w0 : World) (r : Nat) (F : List Nat) (K : List (Int × List Int)) (p : Int) (a : Option Addr) (m c : Nat) (bs : List Int) (w : World) (h : Rty w0 w r F K) (h0 : Below w0.heap.size w0 w) (hK : ∀ q ∈ K, OkE q) (hv : VRow w0 a m 1 (brow bs)) (hq : OkE (p, bs)) (hn : K.length < 1048576) (hm : (p, bs) ∉ K) :
    Calls Try.prog 49 #[.pointer (some ⟨r, 0, none⟩), .int .i64 p, .slice a m c] w fun e w' => e = .returned (.int .i64 ((K.length : Int) + 1)) ∧ ∃ F', Rty w0 w' r F' (K ++ [(p, bs)]) ∧ Below w0.heap.size w0 w' ∧ Only F w w' ∧ ∀ x ∈ F', x ∈ F ∨ w.heap.size ≤ x := by
  obtain ⟨ti, hi0, hz0, hz1, hz2⟩ := info_parts info_int1
  obtain ⟨si, hj0, hy0, hy1, hy2⟩ := info_parts info_str1
  have H := Lib.hid h
  have HB := Lib.hid h0
  have HK := Lib.hid hK
  have HV := Lib.hid hv
  have HQ := Lib.hid hq
  have HM := Lib.hid (decide_eq_false hm)
  have HX : Hid (num K (p, bs) = 0) := Lib.hid (if_neg hm)
  obtain ⟨A, C, A', C', hb, ho1, ho2, hF⟩ := h.ex
  have HF := Lib.hid hF
  clear hF
  have c0 : w.cell? ⟨r, 0, none⟩ = some (.slice A K.length C) := hb.cell 0
  have c1 : w.cell? ⟨r, 1, none⟩ = some (.slice A' K.length C') := hb.cell 1
  have f0 := hb.frozen 0
  obtain ⟨n, hn'⟩ : ∃ n, n = K.length := ⟨_, rfl⟩
  rw [← hn'] at c0 c1 hn hb ho1 ho2 ⊢
  have HN := Lib.hid hn'
  have BK := Lib.hid hb
  have O1 := Lib.hid ho1
  have O2 := Lib.hid ho2
  have hbase := Lib.hid h.base
  clear h h0 hK hv hq hm hb ho1 ho2 hn'
  go_enter Try.func49, Try.ntmps49
  go_wp2_with fail
  refine (rfind_c w0 r F K p a m c bs _ H.out HK.out (HV.out.below HB.out) HQ.out (by have := HN.out; omega) 0 HX.out false HM.out).mono ?_; rintro e w1 ⟨rfl, rfl⟩
  obtain ⟨s, hs⟩ : ∃ s, s = strOfNums bs := ⟨_, rfl⟩
  have CV : Hid (∀ w', Below w0.heap.size w0 w' → (convert 33 9 (.slice a m c)).run Try.prog w' = .ok (.string s) w') := Lib.hid fun w' hb => by rw [hs]; exact conv_bytes (HV.out.below hb)
  have HS := Lib.hid hs
  clear hs
  have rA : ∀ g, A.map (·.block) = some g → g ≠ r := fun g hg e => own_blk_ne O1.out BK.out (by decide) (by rw [own_block_eq, hg, e])
  have rA' : ∀ g, A'.map (·.block) = some g → g ≠ r := fun g hg e => own_blk_ne O2.out BK.out (by decide) (by rw [own_block_eq, hg, e])
  have RA := Lib.hid rA
  have RA' := Lib.hid rA'
  clear rA rA'
  go_upto_region 5 with (at_builtin; go_loud (refine wpList_app rfl _ _ _ rfl w0.heap.size 3 ti _ 1 8 Try.underlying27 hi0 hz0 hz1 hz2 rfl (by omega) A n C (parties K) rfl (own_below O1.out ((Below.refl w.heap.size w).alloc (Nat.le_refl _) (.cells #[.int .i64 p] 3))) (some ⟨w.heap.size, 0, none⟩) 1 1 [.int .i64 p] rfl (own_one w 3 _) (by simp [Value.oneCell']) (by unfold maxLen; omega) (by omega) (Nat.le_trans HB.out.size (by simp)) ?_; intro a5 c5 w5 h5; have k5 : Blk w5 r _ _ := (BK.out.alloc (.cells #[.int .i64 p] 3)).only h5.only (fun hm => RA.out _ (Option.mem_toList.1 hm) rfl); have f5 := k5.frozen 0; have e5 : w5.cell? ⟨r, 0, none⟩ = some (.slice A n C) := k5.cell 0))
  obtain ⟨w6, hw6⟩ : ∃ w6, w6 = w5.setCell ⟨r, 0, none⟩ (.slice a5 (n + 1) c5) := ⟨_, rfl⟩
  rw [← hw6]
  have bw : Below w.heap.size w (w.alloc (.cells #[.int .i64 p] 3)) := (Below.refl _ _).alloc (Nat.le_refl _) _
  have B5 : Below w0.heap.size w0 w5 := h5.below (own_below O1.out bw) (HB.out.trans (bw.mono HB.out.size)) (Nat.le_refl _) (Nat.le_trans HB.out.size bw.size)
  have K6 : Hid (Blk w6 r 30 #[.slice a5 (n + 1) c5, .slice A' n C']) := by rw [hw6]; exact Lib.hid (k5.set_ 0 _)
  have o6 : Only [r] w5 w6 := by rw [hw6]; exact (Only.refl _ _).setCell (.inl (by simp)) _
  have R5 : ∀ g, a5.map (·.block) = some g → g ≠ r := fun g hg e => own_blk_ne h5.own k5 (by decide) (by rw [own_block_eq, hg, e])
  have P6 := Lib.hid (own_only h5.own o6 (fun g hg => by rw [own_block_eq] at hg; simpa using R5 g hg))
  have hAA : ∀ g, A'.map (·.block) = some g → g ∉ (A.map (·.block)).toList := fun g hg hm => by
    have h6 := Option.mem_toList.1 hm
    rcases own_ne O2.out O1.out (by decide) with e | e
    · rw [own_block_eq, hg] at e; cases e
    · exact e (by rw [own_block_eq, own_block_eq, hg, h6])
  have T6 := Lib.hid (own_only (own_only (own_below O2.out bw) h5.only (fun g hg => by rw [own_block_eq] at hg; exact hAA g hg)) o6 (fun g hg => by rw [own_block_eq] at hg; simpa using RA'.out g hg))
  have B6 := Lib.hid (o6.below B5 B5.size (by simp; exact hbase.out))
  have OF6 : Hid (Only F w w6) := Lib.hid (((Only.of_below (S := F) bw).then h5.only (fun k hk => .inl (by rw [HF.out]; simp only [List.mem_cons, List.mem_append]; exact .inr (.inl hk)))).then o6 (fun k hk => .inl (by rw [HF.out]; simp at hk; simp [hk])))
  have AT5 : Hid (∀ k, a5.map (·.block) = some k → k ∈ F ∨ w.heap.size ≤ k) := Lib.hid fun k hk => by
    rcases h5.at_ k hk with e | e
    · exact .inl (by rw [HF.out]; simp [e])
    · exact .inr (Nat.le_trans bw.size e)
  have R5' := Lib.hid R5
  clear hw6 bw B5 o6 R5 hAA h5 k5 f5 e5 c0 c1 f0
  have d1 : w6.cell? ⟨r, 1, none⟩ = some (.slice A' n C') := K6.out.cell 1
  have KS : ∀ w', w'.cell? ⟨r, 1, none⟩ = some (.slice A' n C') → Below w0.heap.size w0 w' → w'.cell? ⟨r, 1, none⟩ = some (.slice A' n C') ∧ (convert 33 9 (.slice a m c)).run Try.prog w' = .ok (.string s) w' ∧ Below w0.heap.size w0 w' := fun w' h1 h2 => ⟨h1, CV.out w' h2, h2⟩
  refine wp_region_plan (fun w' => w'.cell? ⟨r, 1, none⟩ = some (.slice A' n C') ∧ (convert 33 9 (.slice a m c)).run Try.prog w' = .ok (.string s) w' ∧ Below w0.heap.size w0 w') 11 (.take 0 (.take 1 (.take 2 (.take 3 (.take 4 (.take 5 (.take 6 (.one 7 (.one 8 (.one 9 (.take 10 (.one 11 .done)))))))))))) (by kernel_rfl) (by kernel_rfl) (by kernel_rfl) (KS _ d1 B6.out.drew) ?_
  intro hS0
  repeat (refine' wpPlan_take rfl (by rfl) (by assumption) ?_ ?_; rotate_left; (· (intro w hSw; (try dsimp only at hSw); go_simp; try with_reducible rfl)); try simp only [Act.put, List.setIfInBounds_toArray, List.set_cons_zero, List.set_cons_succ])
  refine wpPlan_one rfl (fun KT hKT => ?_)
  go_simp
  have E7 := B6.out.drew.alloc B6.out.drew.size (.cells #[.string s] 9)
  refine hKT.out _ _ (KS _ (alloc_kept _ d1) E7) (fun _ => ?_); clear hKT KT; try simp only [Act.put, List.setIfInBounds_toArray, List.set_cons_zero, List.set_cons_succ]
  refine wpPlan_one rfl (fun KT hKT => ?_)
  refine step_app (by rfl) _ _ _ (by rfl) w0.heap.size 9 si _ 1 16 Try.underlying28 hj0 hy0 hy1 hy2 rfl (by omega) A' n C' (texts K) (by rfl) (own_below (T6.out.drew) ((Below.refl _ _).alloc (Nat.le_refl _) (.cells #[.string s] 9))) (some ⟨w6.heap.size, 0, none⟩) 1 1 [.string s] (by rfl) (own_one w6.drew 9 _) (by simp [Value.oneCell']) (by unfold maxLen; omega) (by omega) E7.size ?_
  intro a8 c8 w8 h8
  have k8 : Blk w8 r 30 #[.slice a5 (n + 1) c5, .slice A' n C'] := (K6.out.drew.alloc (.cells #[.string s] 9)).only h8.only (fun hm => RA'.out _ (Option.mem_toList.1 hm) rfl)
  have E8 : Below w0.heap.size w0 w8 := h8.below (own_below (T6.out.drew) ((Below.refl _ _).alloc (Nat.le_refl _) (.cells #[.string s] 9))) E7 (Nat.le_refl _) E7.size
  refine hKT.out _ _ (KS _ (k8.cell 1) E8) (fun _ => ?_); clear hKT KT; try simp only [Act.put, List.setIfInBounds_toArray, List.set_cons_zero, List.set_cons_succ]
  refine wpPlan_one rfl (fun KT hKT => ?_)
  go_simp
  refine hKT.out _ _ (KS _ (k8.cell 1) E8) (fun _ => ?_); clear hKT KT; try simp only [Act.put, List.setIfInBounds_toArray, List.set_cons_zero, List.set_cons_succ]
  repeat (refine' wpPlan_take rfl (by rfl) (by assumption) ?_ ?_; rotate_left; (· (intro w hSw; (try dsimp only at hSw); go_simp; try with_reducible rfl)); try simp only [Act.put, List.setIfInBounds_toArray, List.set_cons_zero, List.set_cons_succ])
  refine wpPlan_last rfl (fun KT hKT => ?_)
  have f8 := k8.frozen 1
  have d8 := k8.cell 1
  go_simp
  refine hKT.out _ _ ?_; clear hKT KT; try simp only [Act.put, List.setIfInBounds_toArray, List.set_cons_zero, List.set_cons_succ]
  refine wpPlan_done ?_
  have k9 : Blk (w8.setCell ⟨r, 1, none⟩ (.slice a8 (n + 1) c8)) r 30 #[.slice a5 (n + 1) c5, .slice a8 (n + 1) c8] := k8.set_ 1 _
  have d9 := k9.cell 0
  have o9 : Only [r] w8 (w8.setCell ⟨r, 1, none⟩ (.slice a8 (n + 1) c8)) := (Only.refl _ _).setCell (.inl (by simp)) _
  have p8 := own_only (own_below P6.out.drew ((Below.refl _ _).alloc (Nat.le_refl _) (.cells #[.string s] 9))) h8.only (fun g hg hm => by
    have h6 := Option.mem_toList.1 hm
    rcases own_ne P6.out T6.out (by decide) with e | e
    · rw [e] at hg; cases hg
    · exact e (by rw [hg, own_block_eq, h6]))
  have p9 := own_only p8 o9 (fun g hg => by rw [own_block_eq] at hg; simpa using R5'.out g hg)
  have t9 := own_only h8.own o9 (fun g hg => by rw [own_block_eq] at hg; simpa using fun e : g = r => own_blk_ne h8.own k8 (by decide) (by rw [own_block_eq, hg, e]))
  have B9 := o9.below E8 E8.size (by simp; exact hbase.out)
  obtain ⟨w9, hw9⟩ : ∃ w9, w9 = w8.setCell ⟨r, 1, none⟩ (.slice a8 (n + 1) c8) := ⟨_, rfl⟩
  rw [← hw9] at k9 d9 p9 t9 B9 ⊢
  have OF9 : Only F w w9 := by
    rw [hw9]
    exact (((OF6.out.drew).alloc (.cells #[.string s] 9)).then h8.only (fun k hk => .inl (by rw [HF.out]; simp only [List.mem_cons, List.mem_append]; exact .inr (.inr hk)))).then o9 (fun k hk => .inl (by rw [HF.out]; simp at hk; simp [hk]))
  have FIN : Hid (∃ F', Rty w0 w9 r F' (K ++ [(p, bs)]) ∧ Below w0.heap.size w0 w9 ∧ Only F w w9 ∧ ∀ x ∈ F', x ∈ F ∨ w.heap.size ≤ x) := by
    refine Lib.hid ⟨r :: ((a5.map (·.block)).toList ++ (a8.map (·.block)).toList), ⟨⟨a5, c5, a8, c8, ?_⟩, hbase.out⟩, B9, OF9, fun x hx => ?_⟩
    rotate_left
    · simp only [List.mem_cons, List.mem_append, Option.mem_toList] at hx
      rcases hx with rfl | hx | hx
      · exact .inl (by rw [HF.out]; simp)
      · exact AT5.out x hx
      · rcases h8.at_ x hx with e | e
        · exact .inl (by rw [HF.out]; simp [e])
        · exact .inr (Nat.le_trans OF6.out.size (Nat.le_trans (by simp) e))
    have e1 : (K ++ [(p, bs)]).length = n + 1 := by rw [List.length_append, ← HN.out]; rfl
    have e2 : parties (K ++ [(p, bs)]) = parties K ++ [.int .i64 p] := by simp [parties]
    have e3 : texts (K ++ [(p, bs)]) = texts K ++ [.string s] := by simp [texts, HS.out]
    rw [e1, e2, e3]
    exact ⟨k9, p9, t9, rfl⟩
  clear hw9 k9 o9 p8 p9 t9 B9 OF9 k8 f8 d8 h8 E8 E7 KS d1 hS0
  go_wp2_with fail
  go_ret
  exact ⟨rfl, FIN.out⟩
end Go.Proofs.Ytjdcjofogmplcaa
