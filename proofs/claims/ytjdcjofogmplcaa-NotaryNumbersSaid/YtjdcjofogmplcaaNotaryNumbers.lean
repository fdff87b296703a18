/- NotaryNumbers: for all numbers of seals and of parties the law returns true: new seals have the numbers 1, 2, 3, ..; what was sealed is found again; asked again nothing is new. No condition. -/
import Derived.Test.YtjdcjofogmplcaaNotW
import Derived.Test.YtjdcjofogmplcaaApp
import Derived.Deep.RegionLawGrows
import Derived.Test.YtjdcjofogmplcaaRows
import Derived.Deep.DeepCutAuto
import Derived.Deep.CutBlock
namespace Go.Proofs.Ytjdcjofogmplcaa.NotaryNumbers
open Go.RowKit Go.ChangeShapes Go.WideShapes Go.ChangeAt
set_option linter.unusedVariables false

/-- What is sealed as number i + 1. -/
def one (p i : Nat) : Int × List Int := (((i % p : Nat) : Int), [((i / p : Nat) : Int), (i : Int)])
def upto (p n : Nat) : List (Int × List Int) := (List.range n).map (one p)
theorem upto_len (p n : Nat) : (upto p n).length = n := by simp [upto]
theorem upto_succ (p n : Nat) : upto p n ++ [one p n] = upto p (n + 1) := by simp [upto, List.range_succ]
theorem one_inj {p i j : Nat} (h : one p i = one p j) : i = j := by
  unfold one at h
  injection h with _ h
  simp only [List.cons.injEq, and_true] at h
  omega
theorem one_mem {p n i : Nat} (h : i < n) : one p i ∈ upto p n := by
  unfold upto
  exact List.mem_map.2 ⟨i, List.mem_range.2 h, rfl⟩
theorem one_not {p n : Nat} : one p n ∉ upto p n := fun h => by
  obtain ⟨i, hi, e⟩ := List.mem_map.1 h
  have := one_inj e
  have := List.mem_range.1 hi
  omega
theorem upto_nodup (p : Nat) : ∀ n, (upto p n).Nodup
  | 0 => by simp [upto]
  | n + 1 => by
    rw [← upto_succ, List.nodup_append]
    exact ⟨upto_nodup p n, by simp, fun a ha b hb e => one_not (p := p) (n := n) (by simp at hb; rw [← hb, ← e]; exact ha)⟩
theorem num_one {p n i : Nat} (h : i < n) : num (upto p n) (one p i) = (i : Int) + 1 := by
  have hm := one_mem (p := p) h
  rw [num, if_pos hm]
  have e : (upto p n)[i]? = some (one p i) := by simp [upto, h]
  obtain ⟨hlt, he⟩ := List.getElem?_eq_some_iff.1 e
  rw [← he, (upto_nodup p n).idxOf_getElem i hlt]
theorem sealed_one (p n : Nat) : sealed (upto p n) (one p n) = upto p (n + 1) := by rw [sealed, if_neg one_not, upto_succ]
theorem sealed_old {p n i : Nat} (h : i < n) : sealed (upto p n) (one p i) = upto p n := by rw [sealed, if_pos (one_mem h)]
theorem long_not {p n : Nat} {q : Int} {x y z : Int} : (q, [x, y, z]) ∉ upto p n := fun h => by
  obtain ⟨i, hi, e⟩ := List.mem_map.1 h
  unfold one at e
  injection e with _ e
  simp at e
theorem one_ok {p i : Nat} (hi : i < 60) (hp : 1 ≤ p) : OkE (one p i) := by
  have h1 : i % p ≤ i := Nat.mod_le _ _
  have h2 : i / p ≤ i := Nat.div_le_self _ _
  refine ⟨by unfold one I64; simp only; omega, fun x hx => ?_, by simp [one, maxLen]⟩
  simp only [one, List.mem_cons, List.not_mem_nil, or_false] at hx
  rcases hx with rfl | rfl
  · exact ⟨Int.natCast_nonneg _, by omega⟩
  · omega

def Rel1 (w wr : World) (n b p len : Nat) (i : Value) : Prop := ∃ k : Nat, k ≤ len ∧ i = .int .i64 k ∧ Nty wr n b (upto p k) ∧ Below w.heap.size w wr
def Rel2 (w wr : World) (n b p len : Nat) (i : Value) : Prop := ∃ k : Nat, k ≤ len ∧ i = .int .i64 k ∧ Nty wr n b (upto p len) ∧ Below w.heap.size w wr

set_option maxRecDepth 100000 in
set_option maxHeartbeats 6400000 in
theorem walk (u0 u1 : Int) (w : World) (h0 : I64 u0) (h1 : I64 u1) :
    Calls Try.prog 5 #[.int .i64 u0, .int .i64 u1] w fun e w' => e = .returned (.bool true) ∧ Below w.heap.size w w' := by
  obtain ⟨ti, hi0, hz0, hz1, hz2⟩ := info_parts info_u8
  have H0 := Lib.hid h0
  have H1 := Lib.hid h1
  clear h0 h1
  go_enter Try.func5, Try.ntmps5
  go_wp2_with fail
  refine (nnew_c _).mono ?_; rintro e w1 ⟨n, b, rfl, hN1, hn1, hb1, hw1⟩
  have N1 := Lib.hid hN1
  have B1 := Lib.hid hw1
  clear hN1 hw1
  go_wp2_with fail
  refine (within_q u0 60 _ H0.out (by omega) (by omega)).mono ?_; rintro e w' ⟨x, rfl, hx5, hx0, hx7, rfl⟩
  clear hx5
  obtain ⟨len, rfl⟩ := Int.eq_ofNat_of_zero_le hx0
  have hlen : len < 60 := by omega
  clear hx0 hx7
  go_wp2_with fail
  refine (within_q u1 5 _ H1.out (by omega) (by omega)).mono ?_; rintro e w' ⟨y, rfl, hy5, hy0, hy7, rfl⟩
  clear hy5
  obtain ⟨p, hp⟩ : ∃ p : Nat, (p : Int) = 1 + y := ⟨(1 + y).toNat, by omega⟩
  have hp1 : 1 ≤ p := by omega
  have hp5 : p ≤ 5 := by omega
  have i9 : IntKind.i64.wrap (1 + y) = (p : Int) := by rw [hp]; exact IntWalk.i64_in _ (by omega)
  have i8 : (p : Int) ≠ 0 := by omega
  clear hp
  go_wp2_with fail
  go_loopw [6] (fun i wr => Rel1 w wr n b p len i) (fun i _ => len - (intOf i).toNat)
  case atStart => exact ⟨0, by omega, rfl, N1.out, B1.out⟩
  case round =>
    obtain ⟨k, hkn, rfl, hN, hb⟩ := hrel
    by_cases hlt : k < len
    · have i1 : (k : Int) < len := by omega
      have t1 : (k : Int).tdiv p = ((k / p : Nat) : Int) := by rw [Int.tdiv_eq_ediv_of_nonneg (by omega)]; norm_cast
      have t2 : (k : Int).tmod p = ((k % p : Nat) : Int) := by rw [Int.tmod_eq_emod_of_nonneg (by omega)]; norm_cast
      have NN := Lib.hid hN
      have BB := Lib.hid hb
      have i2 : k / p ≤ k := Nat.div_le_self _ _
      have i3 : k % p ≤ k := Nat.mod_le _ _
      obtain ⟨dv, hdv⟩ : ∃ dv, dv = k / p := ⟨_, rfl⟩
      obtain ⟨md, hmd⟩ : ∃ md, md = k % p := ⟨_, rfl⟩
      rw [← hdv] at t1 i2
      rw [← hmd] at t2 i3
      have ONE : Hid (one p k = ((md : Int), [(dv : Int), (k : Int)])) := Lib.hid (by rw [hdv, hmd]; rfl)
      have OK : Hid (OkE ((md : Int), [(dv : Int), (k : Int)])) := Lib.hid (by rw [← ONE.out]; exact one_ok (by omega) hp1)
      clear hN hb hdv hmd
      go_wp2_with fail
      obtain ⟨w2, hw2⟩ : ∃ w2, w2 = wr.alloc (.cells #[.int .u8 dv, .int .u8 k] 5) := ⟨_, rfl⟩
      obtain ⟨gb, hgb⟩ : ∃ gb, gb = wr.heap.size := ⟨_, rfl⟩
      rw [← hw2, ← hgb]
      have bl : Below wr.heap.size wr w2 := by rw [hw2]; exact (Below.refl _ _).alloc (Nat.le_refl _) _
      have N2 := Lib.hid (NN.out.below bl)
      have B2 := Lib.hid (BB.out.trans (bl.mono BB.out.size))
      have V2 : Hid (VRow w2 (some ⟨gb, 0, none⟩) 2 1 (brow [(dv : Int), (k : Int)])) := by rw [hw2, hgb]; exact Lib.hid (own_bytes wr [(dv : Int), (k : Int)])
      clear hw2 hgb bl
      refine (nseal_c n b (upto p k) md _ 2 2 [(dv : Int), (k : Int)] _ N2.out V2.out OK.out (by rw [upto_len]; omega) ((k : Int) + 1) (by rw [← ONE.out, sealed_one, num_one (by omega)]) (upto p (k + 1)) (by rw [← ONE.out, sealed_one])).mono ?_
      rintro e w3 ⟨rfl, hN3, ho3⟩
      have N3 := Lib.hid hN3
      have B3 := Lib.hid (ho3.below B2.out B2.out.size (by simp; exact hb1))
      clear hN3 ho3
      go_wp2_with fail
      refine (nlen_c n b _ _ N3.out ((k : Int) + 1) (by rw [upto_len]; norm_cast)).mono ?_; rintro e w4 ⟨rfl, rfl⟩
      go_wp2_with fail
      go_roundw
      case rel => exact ⟨k + 1, by omega, by go_num, N3.out, B3.out⟩
      case measure => simp [intOf]; omega
    · have hkl : k = len := by omega
      rw [hkl] at hN ⊢
      have N9 := Lib.hid hN
      have B9 := Lib.hid hb
      clear hN hb hkn hlt hkl
      go_wp2_with fail
      go_loopw [8] (fun i wr => Rel2 w wr n b p len i) (fun i _ => len - (intOf i).toNat)
      case atStart => exact ⟨0, by omega, rfl, N9.out, B9.out⟩
      case round =>
        clear N9 B9 k
        obtain ⟨k, hkn, rfl, hN, hb⟩ := hrel
        by_cases hlt : k < len
        · have i1 : (k : Int) < len := by omega
          have t1 : (k : Int).tdiv p = ((k / p : Nat) : Int) := by rw [Int.tdiv_eq_ediv_of_nonneg (by omega)]; norm_cast
          have t2 : (k : Int).tmod p = ((k % p : Nat) : Int) := by rw [Int.tmod_eq_emod_of_nonneg (by omega)]; norm_cast
          have NN := Lib.hid hN
          have BB := Lib.hid hb
          have i2 : k / p ≤ k := Nat.div_le_self _ _
          have i3 : k % p ≤ k := Nat.mod_le _ _
          obtain ⟨dv, hdv⟩ : ∃ dv, dv = k / p := ⟨_, rfl⟩
          obtain ⟨md, hmd⟩ : ∃ md, md = k % p := ⟨_, rfl⟩
          rw [← hdv] at t1 i2
          rw [← hmd] at t2 i3
          have ONE : Hid (one p k = ((md : Int), [(dv : Int), (k : Int)])) := Lib.hid (by rw [hdv, hmd]; rfl)
          have OK : Hid (OkE ((md : Int), [(dv : Int), (k : Int)])) := Lib.hid (by rw [← ONE.out]; exact one_ok (by omega) hp1)
          clear hN hb hdv hmd
          go_wp2_with fail
          obtain ⟨w2, hw2⟩ : ∃ w2, w2 = wr.alloc (.cells #[.int .u8 dv, .int .u8 k] 5) := ⟨_, rfl⟩
          obtain ⟨gb, hgb⟩ : ∃ gb, gb = wr.heap.size := ⟨_, rfl⟩
          rw [← hw2, ← hgb]
          have bl : Below wr.heap.size wr w2 := by rw [hw2]; exact (Below.refl _ _).alloc (Nat.le_refl _) _
          have N2 := Lib.hid (NN.out.below bl)
          have B2 := Lib.hid (BB.out.trans (bl.mono BB.out.size))
          have V2 : Hid (VRow w2 (some ⟨gb, 0, none⟩) 2 1 (brow [(dv : Int), (k : Int)])) := by rw [hw2, hgb]; exact Lib.hid (own_bytes wr [(dv : Int), (k : Int)])
          clear hw2 hgb bl
          have i7 : ¬ p = 0 := by omega
          have i4 : IntKind.i64.wrap ((md : Int) + 1) = (md : Int) + 1 := IntWalk.i64_in _ (by omega)
          have HMEM : Hid (((md : Int), [(dv : Int), (k : Int)]) ∈ upto p len) := Lib.hid (by rw [← ONE.out]; exact one_mem hlt)
          have HNUM : Hid (num (upto p len) ((md : Int), [(dv : Int), (k : Int)]) = (k : Int) + 1) := Lib.hid (by rw [← ONE.out]; exact num_one hlt)
          have HSL : Hid (sealed (upto p len) ((md : Int), [(dv : Int), (k : Int)]) = upto p len) := Lib.hid (by rw [← ONE.out]; exact sealed_old hlt)
          refine (nfind_c n b (upto p len) md _ 2 2 [(dv : Int), (k : Int)] _ N2.out V2.out OK.out ((k : Int) + 1) HNUM.out true (decide_eq_true HMEM.out)).mono ?_
          rintro e w3 ⟨rfl, j3, hj3⟩
          have N3 : Hid (Nty w3 n b (upto p len)) := by rw [hj3]; exact Lib.hid (N2.out.drewN j3)
          have V3 : Hid (VRow w3 (some ⟨gb, 0, none⟩) 2 1 (brow [(dv : Int), (k : Int)])) := by rw [hj3]; exact Lib.hid (V2.out.below (below_drewN (Below.refl _ _) j3))
          have B3 : Hid (Below w.heap.size w w3) := by rw [hj3]; exact Lib.hid (below_drewN B2.out j3)
          clear hj3
          go_upto_region 16 with fail
          refine wp_region_plan (fun w' => Below w3.heap.size w3 w') 14 (.take 0 (.take 1 (.take 2 (.take 3 (.take 4 (.take 5 (.one 6 (.one 7 (.one 8 (.take 9 (.take 10 (.take 11 (.take 12 (.take 13 .done)))))))))))))) (by kernel_rfl) (by kernel_rfl) (by kernel_rfl) ((Below.refl _ _).drew) ?_
          intro hS0
          repeat (refine' wpPlan_take rfl (by rfl) (by assumption) ?_ ?_; rotate_left; (· (intro w hSw; (try dsimp only at hSw); go_simp; try with_reducible rfl)); try simp only [Act.put, List.setIfInBounds_toArray, List.set_cons_zero, List.set_cons_succ])
          refine wpPlan_one rfl (fun K hK => ?_)
          go_simp
          have E4 := ((Below.refl w3.heap.size w3).drew).alloc (Nat.le_refl _) (.cells #[.int .u8 1] 5)
          refine hK.out _ _ (E4) (fun _ => ?_); clear hK K; try simp only [Act.put, List.setIfInBounds_toArray, List.set_cons_zero, List.set_cons_succ]
          refine wpPlan_one rfl (fun K hK => ?_)
          refine step_append_grows (by rfl) _ _ _ (by rfl) 5 ti _ 1 1 Try.underlying33 hi0 hz0 hz1 hz2 rfl (by omega) (some ⟨gb, 0, none⟩) 2 2 (brow [(dv : Int), (k : Int)]) (by rfl) (fun h => by cases h) rfl (fun bb hbb j u hu => by
            injection hbb with hbb
            subst hbb
            obtain ⟨b', off, e', _, hc⟩ := (V3.out.below E4).2 (by omega)
            injection e' with e'
            injection e' with e1 e2
            subst e1
            subst e2
            rw [addr_add]
            exact hc j u hu) ⟨w3.heap.size, 0, none⟩ 1 1 [.int .u8 1] (by rfl) (by rfl) (World.news_of_block (cs := #[.int .u8 1]) (t := 5) (fr := (0, 0)) (heap_alloc_new w3.drew _)) (by simp [Value.oneCell']) (by omega) (by unfold maxLen; omega) (by omega) ?_
          intro v5 w5 hown5 hg5
          have E5 := E4.trans ((only_of_grown hg5).to_below.mono E4.size)
          obtain ⟨a6, c6, rfl⟩ : ∃ a6 c6, v5 = .slice a6 3 c6 := by
            rcases hown5.2 with ⟨rfl, h0⟩ | ⟨g', cap', cur', rfl, _⟩
            · omega
            · exact ⟨_, _, rfl⟩
          refine hK.out _ _ (E5) (fun _ => ?_); clear hK K; try simp only [Act.put, List.setIfInBounds_toArray, List.set_cons_zero, List.set_cons_succ]
          refine wpPlan_one rfl (fun K hK => ?_)
          go_simp
          refine (nfind_c n b (upto p len) ((md : Int) + 1) a6 3 c6 [(dv : Int), (k : Int), 1] _ (N3.out.below E5) (own_vrow hown5) ⟨by unfold I64; simp only; omega, fun x hx => by
            simp only [List.mem_cons, List.not_mem_nil, or_false] at hx
            rcases hx with rfl | rfl | rfl
            · exact ⟨Int.natCast_nonneg _, by omega⟩
            · exact ⟨Int.natCast_nonneg _, by omega⟩
            · omega, by simp [maxLen]⟩ 0 (if_neg long_not) false (decide_eq_false long_not)).mono ?_
          rintro e w6 ⟨rfl, j6, hj6⟩
          have E6 : Below w3.heap.size w3 w6 := by rw [hj6]; exact below_drewN E5 j6
          refine hK.out _ _ (E6) (fun _ => ?_); clear hK K; try simp only [Act.put, List.setIfInBounds_toArray, List.set_cons_zero, List.set_cons_succ]
          repeat (refine' wpPlan_take rfl (by rfl) (by assumption) ?_ ?_; rotate_left; (· (intro w hSw; (try dsimp only at hSw); go_simp; try with_reducible rfl)); try simp only [Act.put, List.setIfInBounds_toArray, List.set_cons_zero, List.set_cons_succ])
          refine wpPlan_done ?_
          have N6 := Lib.hid (N3.out.below E6)
          have V6 := Lib.hid (V3.out.below E6)
          have B6 := Lib.hid (B3.out.trans (E6.mono B3.out.size))
          clear E6 E5 E4 hj6 hown5 hg5 hS0
          go_wp2_with fail
          refine (nseal_c n b (upto p len) md _ 2 2 [(dv : Int), (k : Int)] _ N6.out V6.out OK.out (by rw [upto_len]; omega) ((k : Int) + 1) (by rw [HSL.out, HNUM.out]) (upto p len) HSL.out).mono ?_
          rintro e w7 ⟨rfl, hN7, ho7⟩
          have N7 := Lib.hid hN7
          have B7 := Lib.hid (ho7.below B6.out B6.out.size (by simp; exact hb1))
          have hgb : gb ≠ b := by
            obtain ⟨es, cl, hbm, _⟩ := N2.out.map.ex
            rintro rfl
            obtain ⟨b', off, e', _, hc⟩ := V2.out.2 (by omega)
            injection e' with e'
            injection e' with e1 e2
            subst e1
            have := hc 0 (.int .u8 dv) rfl
            simp [World.cell?, hbm] at this
          have V7 := Lib.hid (V6.out.only ho7 (fun bb hbb => by
            simp only [Option.map_some, Option.some.injEq] at hbb
            subst hbb
            simpa using hgb))
          clear hN7 ho7 hgb
          go_wp2_with fail
          refine (ncheck_c n b (upto p len) md _ 2 2 [(dv : Int), (k : Int)] ((k : Int) + 1) _ N7.out V7.out OK.out true (by rw [decide_eq_true HMEM.out, HNUM.out]; simp)).mono ?_
          rintro e w8 ⟨rfl, j8, hj8⟩
          have N8 : Hid (Nty w8 n b (upto p len)) := by rw [hj8]; exact Lib.hid (N7.out.drewN j8)
          have B8 : Hid (Below w.heap.size w w8) := by rw [hj8]; exact Lib.hid (below_drewN B7.out j8)
          clear hj8
          go_wp2_with fail
          go_roundw
          case rel => exact ⟨k + 1, by omega, by go_num, N8.out, B8.out⟩
          case measure => simp [intOf]; omega
        · have hkl : k = len := by omega
          have N9 := Lib.hid hN
          have B9 := Lib.hid hb
          clear hN hb
          go_wp2_with fail
          refine (nlen_c n b _ _ N9.out (len : Int) (by rw [upto_len])).mono ?_; rintro e w4 ⟨rfl, rfl⟩
          go_wp2_with fail
          refine (nwakes_c _).mono ?_; rintro e w5 ⟨rfl, hb5⟩
          go_wp2_with fail
          go_ret
          exact ⟨rfl, B9.out.trans (hb5.mono B9.out.size)⟩

set_option maxRecDepth 100000 in
theorem lawWalk : LawWalk Try.checked 5 Try.f5 := by
  intro H enc W base args ds p hval hA hsz
  rw [Try.params5] at hA hval
  obtain ⟨v0, vs0, d0, ds0, p0, q0, hargs, rfl, rfl, h0, r0⟩ := trodAll_cons hA
  obtain ⟨v1, vs1, d1, ds1, p1, q1, rfl, rfl, rfl, h1, r1⟩ := trodAll_cons r0
  obtain ⟨rfl, rfl, rfl⟩ := trodAll_nil r1
  obtain rfl : args = #[v0, v1] := by cases args; simp_all
  obtain ⟨a0, rfl, rfl, rfl, w0⟩ := open_int Try.underlying3 (hval 0 3 v0 rfl rfl) h0
  obtain ⟨a1, rfl, rfl, rfl, w1⟩ := open_int Try.underlying3 (hval 1 3 v1 rfl rfl) h1
  exact walk a0 a1 W (I64.of_wf w0) (I64.of_wf w1)

theorem lifted (os : Os) (started : os.Started) (H : Type) (enc : TypeId × Value → H) :
    ReturnsInHanded {} Try.checked os 5 .any (Rows.notaryNumbersSpec.pre6 enc Try.prog Try.f5 Rows.notaryNumbersRow.domain false) (Rows.notaryNumbersSpec.post enc Try.prog Try.f5 false true false false) :=
  law_lift (C := Try.checked) (s := Rows.notaryNumbersSpec) (tb := 4) (by kernel_rfl) started (by kernel_rfl) Try.func5
    (ChangeSpec.witness6 (enc := enc) (C := Try.checked) false ⟨#[], #[.int .i64 0, .int .i64 0], []⟩ 8 (by kernel_rfl) (by kernel_rfl) (by kernel_rfl) (by kernel_rfl))
    rfl (fun H ds h => by
      match ds, h with
      | [d0, d1], _ => rfl) (by kernel_rfl) (by kernel_rfl) (by kernel_rfl) Try.underlying4 lawWalk

theorem over : Rows.notaryNumbersRow.holds Try.pinned (OpenSpec.ofChange Rows.notaryNumbersSpec) :=
  OpenClaim.holds_of_wide 5 Try.f5 rfl rfl rfl rfl rfl rfl rfl ⟨rfl, rfl, rfl, rfl, rfl⟩ rfl rfl rfl rfl rfl (by kernel_rfl) Try.func5 (by kernel_rfl)
    (of_decide_eq_true (by kernel_rfl)) (by unfold Func.isWrapper; first | (rw [if_pos (by decide +kernel)]; kernel_rfl) | (rw [if_neg (by decide +kernel)]; exact ⟨rfl, rfl⟩))
    (fun os started H enc _ => lifted os started H enc)

/-- The statement. -/
theorem proved : Rows.NotaryNumbersSaid := over
#print axioms proved

end Go.Proofs.Ytjdcjofogmplcaa.NotaryNumbers
