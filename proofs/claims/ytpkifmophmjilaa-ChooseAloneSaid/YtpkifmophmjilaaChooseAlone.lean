/- ChooseAlone: for all numbers the law returns true. No condition. -/
import Derived.Test.YtpkifmophmjilaaAlone
import Derived.Test.YtpkifmophmjilaaChooseO
import Derived.Test.YtpkifmophmjilaaChooseV
import Derived.Test.YtpkifmophmjilaaKeep
import Derived.Deep.CutRange
import Derived.Deep.DeepCutAuto
import Derived.Deep.CutBlock
import Derived.Test.YtpkifmophmjilaaRows
namespace Go.Proofs.Ytpkifmophmjilaa.ChooseAlone
open Go.RowKit Go.ChangeShapes Go.WideShapes Go.ChangeAt
set_option linter.unusedVariables false

theorem getI {xs : List Int} (h : ∀ x ∈ xs, I64 x) (j : Nat) : I64 (xs.getD j 0) := by
  rw [List.getD_eq_getElem?_getD]
  by_cases hj : j < xs.length
  · rw [List.getElem?_eq_getElem hj]; exact h _ (List.getElem_mem hj)
  · rw [List.getElem?_eq_none (by omega)]; exact I64.zero
/-- The law's part in memory, its certificates all the law's own. -/
structure Own1 (w wr : World) (gh gp : Nat) (q top : Int) (cs : List CD) (ca : Option Addr) (cc : Nat) (f : Nat → Bool) : Prop where
  al : Alone q cs top f
  has : Blk wr gh 72 (seenC 18 f)
  p : Blk wr gp 32 #[.int .i64 0, .slice none 0 0, .slice ca cs.length cc, .int .i64 0]
  row : wr.ownsRow w.heap.size 36 5 (.slice ca cs.length cc) cs.length (cs.flatMap ccell)
  is : ∀ c ∈ cs, OwnC w.heap.size wr c ∧ c.bn ≤ 4096 ∧ c.vn ≤ 4096
  b : Below w.heap.size w wr
theorem Own1.below {w wr wx : World} {gh gp : Nat} {q top : Int} {cs : List CD} {ca : Option Addr} {cc : Nat} {f : Nat → Bool} (h : Own1 w wr gh gp q top cs ca cc f) (hb : Below wr.heap.size wr wx) : Own1 w wx gh gp q top cs ca cc f :=
  ⟨h.al, h.has.below hb h.has.lt, h.p.below hb h.p.lt, own_below h.row hb, fun c hc => ⟨(h.is c hc).1.below hb, (h.is c hc).2⟩, h.b.trans (hb.mono h.b.size)⟩
def P1 (ca : Option Addr) (cc : Nat) (cs : List CD) : PD := ⟨0, none, 0, 0, [], ca, cs.length, cc, cs, 0⟩
def P3 : PD := ⟨3, none, 0, 0, [], none, 0, 0, [], 0⟩
theorem Own1.part {w wr : World} {gh gp : Nat} {q top : Int} {cs : List CD} {ca : Option Addr} {cc : Nat} {f : Nat → Bool} (h : Own1 w wr gh gp q top cs ca cc f) : (P1 ca cc cs).Is wr :=
  ⟨VoRow.nil _ _ (Nat.zero_le _), ⟨own_vrow h.row, rfl, own_cap h.row, own_max h.row, fun c hc => (h.is c hc).1.to⟩, I64.zero, I64.zero⟩
theorem Own1.one {w wr : World} {gh gp g : Nat} {q top : Int} {cs : List CD} {ca : Option Addr} {cc : Nat} {f : Nat → Bool} (h : Own1 w wr gh gp q top cs ca cc f) (hk : Blk wr g 32 #[.int .i64 0, .slice none 0 0, .slice ca cs.length cc, .int .i64 0]) : Parts wr (some ⟨g, 0, none⟩) 1 1 [P1 ca cc cs] :=
  parts_of_blk (l := [P1 ca cc cs]) hk rfl (by simp [maxLen]) (fun p hp => by simp only [List.mem_singleton] at hp; subst hp; exact h.part)
theorem Own1.two {w wr : World} {gh gp g : Nat} {q top : Int} {cs : List CD} {ca : Option Addr} {cc : Nat} {f : Nat → Bool} (h : Own1 w wr gh gp q top cs ca cc f) (hk : Blk wr g 32 #[.int .i64 0, .slice none 0 0, .slice ca cs.length cc, .int .i64 0, .int .i64 3, .slice none 0 0, .slice none 0 0, .int .i64 0]) : Parts wr (some ⟨g, 0, none⟩) 2 2 [P1 ca cc cs, P3] :=
  parts_of_blk (l := [P1 ca cc cs, P3]) hk rfl (by simp [maxLen]) (fun p hp => by
    simp only [List.mem_cons, List.not_mem_nil, or_false] at hp
    rcases hp with rfl | rfl
    · exact h.part
    · exact ⟨VoRow.nil _ _ (Nat.zero_le _), Certs.nil _ _ (Nat.zero_le _), (show I64 3 from ⟨by omega, by omega⟩), I64.zero⟩)
theorem Own1.small {w wr : World} {gh gp : Nat} {q top : Int} {cs : List CD} {ca : Option Addr} {cc : Nat} {f : Nat → Bool} (h : Own1 w wr gh gp q top cs ca cc f) (hn : cs.length ≤ 4096) : Small 1 [P1 ca cc cs] ∧ Small 2 [P1 ca cc cs, P3] := by
  refine ⟨⟨by omega, fun p hp => ?_, fun p hp c hc => ?_⟩, ⟨by omega, fun p hp => ?_, fun p hp c hc => ?_⟩⟩
  · simp only [List.mem_singleton] at hp; subst hp; exact hn
  · simp only [List.mem_singleton] at hp; subst hp; exact (h.is c hc).2
  · simp only [List.mem_cons, List.not_mem_nil, or_false] at hp
    rcases hp with rfl | rfl
    · exact hn
    · exact Nat.zero_le _
  · simp only [List.mem_cons, List.not_mem_nil, or_false] at hp
    rcases hp with rfl | rfl
    · exact (h.is c hc).2
    · simp [P3] at hc
theorem c1 {ca : Option Addr} {cc : Nat} {cs : List CD} : certsOf [P1 ca cc cs] = cs := by simp [certsOf, P1]
theorem c2 {ca : Option Addr} {cc : Nat} {cs : List CD} : certsOf [P1 ca cc cs, P3] = cs := by simp [certsOf, P1, P3]

set_option maxRecDepth 100000 in
set_option maxHeartbeats 12800000 in
theorem walk (a0 : Option Addr) (n0 c0 : Nat) (xs : List Int) (a1 : Option Addr) (n1 c1' : Nat) (ys : List Int) (v2 : Int) (w : World) (hr0 : IntRow w a0 n0 xs) (hm0 : n0 ≤ maxLen) (hx0 : ∀ x ∈ xs, I64 x) (hr1 : IntRow w a1 n1 ys) (hm1 : n1 ≤ maxLen) (hx1 : ∀ x ∈ ys, I64 x) (hv2 : I64 v2) :
    Calls Try.prog 9 #[.slice a0 n0 c0, .slice a1 n1 c1', .int .i64 v2] w fun e w' => e = .returned (.bool true) ∧ Below w.heap.size w w' := by
  obtain ⟨ti, hi0, hz0, hz1, hz2⟩ := info_parts info_certT
  unfold maxLen at hm0 hm1
  have R0 := Lib.hid hr0
  have R1 := Lib.hid hr1
  have X0 := Lib.hid hx0
  have X1 := Lib.hid hx1
  clear hr0 hr1 hx0 hx1
  go_enter Try.func9, Try.ntmps9
  go_wp2_with fail
  refine (within_q v2 5 _ hv2 (by omega) (by omega)).mono ?_; rintro e w' ⟨q, rfl, _, q0, q1, rfl⟩
  go_upto_block 0 with fail
  obtain ⟨w1, hw1⟩ : ∃ w1, w1 = (w.alloc (.cells #[.bool false, .bool false, .bool false, .bool false, .bool false, .bool false, .bool false, .bool false, .bool false, .bool false, .bool false, .bool false, .bool false, .bool false, .bool false, .bool false, .bool false, .bool false] 72)).alloc (.cells #[.int .i64 0, .slice none 0 0, .slice none 0 0, .int .i64 0] 32) := ⟨_, rfl⟩
  obtain ⟨gh, hgh⟩ : ∃ gh, gh = w.heap.size := ⟨_, rfl⟩
  rw [← hw1, ← hgh]
  obtain ⟨gp, hgp⟩ : ∃ gp, gp = gh + 1 := ⟨_, rfl⟩
  rw [← hgp]
  have ST : Hid (Own1 w w1 gh gp q 0 [] none 0 (fun _ => false)) := Lib.hid ⟨Alone.nil q, by rw [hw1, hgh]; exact (Blk.new w _ _).alloc _, by rw [hw1]; exact Blk.new' _ _ _ (by simp [hgp, hgh]), ⟨rfl, .inl ⟨rfl, rfl⟩⟩, by simp, by rw [hw1]; exact ((Below.refl _ _).alloc (Nat.le_refl _) _).alloc (by simp) _⟩
  have GH := Lib.hid (show w.heap.size ≤ gh ∧ w.heap.size ≤ gp ∧ gp ≠ gh from ⟨by omega, by omega, by omega⟩)
  clear hw1 hgh hgp
  go_cut [9] from 10 to 63 (fun s wx => ∃ (cs : List CD) (f : Nat → Bool) (top : Int) (ca : Option Addr) (cc : Nat), s = .int .i64 top ∧ cs.length ≤ 20 ∧ Own1 w wx gh gp q top cs ca cc f)
  case first =>
    go_wp2_with fail
    go_loopw [9, 10] (fun s i wr => ∃ j : Nat, j ≤ n0 ∧ j ≤ 20 ∧ i = .int .i64 j ∧ ∃ (cs : List CD) (f : Nat → Bool) (top : Int) (ca : Option Addr) (cc : Nat), s = .int .i64 top ∧ cs.length ≤ j ∧ Own1 w wr gh gp q top cs ca cc f) (fun _ i _ => 20 - (intOf i).toNat)
    case atStart => exact ⟨0, by omega, by omega, rfl, [], _, 0, none, 0, rfl, by simp, ST.out⟩
    case round =>
      obtain ⟨j, hj0, hj1, rfl, cs, f, top, ca, cc, rfl, hcl, hS⟩ := hrel
      have S := Lib.hid hS
      rcases (show (j < n0 ∧ j < 20) ∨ (¬ j < n0) ∨ (j < n0 ∧ ¬ j < 20) by omega) with ⟨h1, h2⟩ | h1 | ⟨h1, h2⟩
      · obtain ⟨b, off, rfl, hbl, hcell⟩ := R0.out.2 (by omega)
        have x0 : wr.cell? ⟨b, off + j, none⟩ = some (.int .i64 (xs.getD j 0)) := (hS.b.cell (p := ⟨b, off + j, none⟩) hbl).trans (hcell j h1)
        have y0 := getI X0.out j
        obtain ⟨x, hx⟩ : ∃ x, x = xs.getD j 0 := ⟨_, rfl⟩
        rw [← hx] at x0 y0
        have i0 : (0 : Int) ≤ j := by omega
        have i1 : (j : Int) < n0 := by omega
        have i2 : (j : Int) < 20 := by omega
        clear hcell hx
        go_wp2_with fail
        refine (within_q x 16 _ y0 (by omega) (by omega)).mono ?_; rintro e w' ⟨z, rfl, _, z0, z1, rfl⟩
        obtain ⟨K, hK⟩ : ∃ K : Nat, 1 + z = K := ⟨(1 + z).toNat, by omega⟩
        have K1 : 1 ≤ K := by omega
        have K16 : K ≤ 16 := by omega
        have k0 : (0 : Int) ≤ K := by omega
        have k1 : (K : Int) < 18 := by omega
        have eK : IntKind.i64.wrap (1 + z) = K := by rw [IntWalk.i64_in _ (by omega)]; exact hK
        have hc : wr.cell? ⟨gh, K, none⟩ = some (.bool (f K)) := by rw [hS.has.cell K, seenC_get 18 f K (by omega)]
        have fz := hS.has.frozen K
        clear x0 hK z0 z1 hS
        cases hf : f K with
        | true =>
          rw [hf] at hc
          clear hf
          go_wp2_with fail
          go_roundw
          case rel => exact ⟨j + 1, by omega, by omega, by go_num, cs, f, top, ca, cc, rfl, by omega, S.out⟩
          case measure => simp [intOf]; omega
        | false =>
          rw [hf] at hc
          have HF := Lib.hid hf
          clear hf
          go_upto_region 11 with fail
          obtain ⟨w3, hw3⟩ : ∃ w3, w3 = wr.setCell ⟨gh, K, none⟩ (.bool true) := ⟨_, rfl⟩
          rw [← hw3]
          have u3 : Only [gh] wr w3 := by rw [hw3]; exact (Only.refl _ _).setCell (.inl (by simp)) _
          have od : Odd [gh] wr 40 70 := odd_blk S.out.has (by decide) (by decide)
          have H3 : Hid (Blk w3 gh 72 (seenC 18 (fun i => f i || decide (i = K)))) := Lib.hid (by rw [hw3, ← seenC_set 18 f K (by omega)]; exact S.out.has.set_ K _)
          have P3' : Hid (Blk w3 gp 32 #[.int .i64 0, .slice none 0 0, .slice ca cs.length cc, .int .i64 0]) := Lib.hid (S.out.p.only u3 (by simp; exact GH.out.2.2))
          have O3 := Lib.hid (own_odd S.out.row u3 fun g hg cs' t k => by
            simp only [List.mem_singleton] at hg
            subst hg
            exact fun e => Blk.ne_ k S.out.has (by rw [e]; decide) rfl)
          have I3 := Lib.hid (fun c hc => And.intro ((S.out.is c hc).1.only u3 od) (S.out.is c hc).2)
          have B3 := Lib.hid (u3.below S.out.b S.out.b.size (by simpa using GH.out.1))
          clear hw3 u3 od hc fz
          have AL := Lib.hid S.out.al
          clear S
          go_upto_region 13 with fail
          obtain ⟨tp, htp⟩ : ∃ tp, tp = (if top < (K : Int) then (K : Int) else top) := ⟨_, rfl⟩
          rw [← htp]
          have TP := Lib.hid htp
          clear htp
          go_upto_if 46 with fail
          obtain ⟨tb, htb⟩ : ∃ tb, tb = decide (j < n1) := ⟨_, rfl⟩
          rw [← htb]
          have TB := Lib.hid htb
          clear htb
          go_cut [12] from 47 to 51 (fun s wx => ∃ v, s = .int .i64 v ∧ I64 v ∧ wx = w3)
          case first =>
            cases tb
            case' true => have hj2 : j < n1 := of_decide_eq_true TB.out.symm
            case' false => have hj2 : ¬ j < n1 := of_decide_eq_false TB.out.symm
            rotate_left
            · obtain ⟨b, off, rfl, hbl, hcell⟩ := R1.out.2 (by omega)
              have x0 : w3.cell? ⟨b, off + j, none⟩ = some (.int .i64 (ys.getD j 0)) := (B3.out.cell (p := ⟨b, off + j, none⟩) hbl).trans (hcell j hj2)
              have y0 := getI X1.out j
              obtain ⟨x, hx⟩ : ∃ x, x = ys.getD j 0 := ⟨_, rfl⟩
              rw [← hx] at x0 y0
              have i3 : (j : Int) < n1 := by omega
              clear hcell hx
              go_wp2_with fail
              refine (within_q x 5 _ y0 (by omega) (by omega)).mono ?_; rintro e w' ⟨v, rfl, _, z0, z1, rfl⟩
              go_wp2_with fail
              go_meet
              exact ⟨v, rfl, ⟨by omega, by omega⟩, rfl⟩
            · have i3 : ¬ (j : Int) < n1 := by omega
              go_wp2_with fail
              go_meet
              exact ⟨0, rfl, I64.zero, rfl⟩
          case rest =>
            obtain ⟨v, rfl, hv, rfl⟩ := hcut
            have HV := Lib.hid hv
            obtain ⟨w3, hw3⟩ : ∃ w3, w3 = wc := ⟨_, rfl⟩
            rw [← hw3] at H3 P3' O3 I3 B3 ⊢
            clear hw3 hv
            obtain ⟨cn, hcn⟩ : ∃ cn, cn = cs.length := ⟨_, rfl⟩
            rw [← hcn] at P3' O3 hcl
            have CN := Lib.hid hcn
            have c2 : w3.cell? ⟨gp, 2, none⟩ = some (.slice ca cn cc) := P3'.out.cell 2
            obtain ⟨gr, hgr⟩ : ∃ gr, gr = w3.heap.size := ⟨_, rfl⟩
            obtain ⟨w4, hw4⟩ : ∃ w4, w4 = w3.alloc (.cells #[.int .i64 0, .int .i64 K, .int .i64 0, .int .i64 0, .int .i64 0, .int .i64 0] 40) := ⟨_, rfl⟩
            obtain ⟨w5, hw5⟩ : ∃ w5, w5 = w4.alloc (.cells #[.int .i64 v, .int .i64 q, .int .i64 K, .slice (some ⟨gr, 0, none⟩) 1 1, .slice none 0 0] 36) := ⟨_, rfl⟩
            have s4 : w4.heap.size = gr + 1 := by rw [hw4, hgr]; simp
            have b4 : Below w3.heap.size w3 w4 := by rw [hw4]; exact (Below.refl _ _).alloc (Nat.le_refl _) _
            have b5 : Below w4.heap.size w4 w5 := by rw [hw5]; exact (Below.refl _ _).alloc (Nat.le_refl _) _
            have b35 : Below w3.heap.size w3 w5 := b4.trans (b5.mono b4.size)
            have GR : w.heap.size ≤ gr := by rw [hgr]; exact B3.out.size
            have kr : Blk w4 gr 40 #[.int .i64 0, .int .i64 K, .int .i64 0, .int .i64 0, .int .i64 0, .int .i64 0] := by rw [hw4, hgr]; exact Blk.new _ _ _
            have NC : Hid (OwnC w.heap.size w5 (CD.mk v q K (some ⟨gr, 0, none⟩) 1 1 (oneT K) none 0 0 [])) := Lib.hid
              ⟨Row.own (Row.of_blk (n := 1) (s := 6) (kr.below b5 kr.lt) rfl (by unfold maxLen; omega)) GR, rfl, ⟨rfl, .inl ⟨rfl, rfl⟩⟩, rfl, HV.out, ⟨by show -9223372036854775808 ≤ q; omega, by show q ≤ 9223372036854775807; omega⟩, ⟨by show -9223372036854775808 ≤ (K : Int); omega, by show (K : Int) ≤ 9223372036854775807; omega⟩⟩
            have V5 : Hid (VRow w5 (some ⟨w4.heap.size, 0, none⟩) 1 5 (ccell (CD.mk v q K (some ⟨gr, 0, none⟩) 1 1 (oneT K) none 0 0 []))) := Lib.hid (by rw [hw5]; exact VRow.of_blk (n := 1) (s := 5) (Blk.new w4 36 #[.int .i64 v, .int .i64 q, .int .i64 K, .slice (some ⟨gr, 0, none⟩) 1 1, .slice none 0 0]) rfl)
            have X9 := Lib.hid (show ∀ u ∈ ccell (CD.mk v q K (some ⟨gr, 0, none⟩) 1 1 (oneT K) none 0 0 []), u.oneCell' = true from fun u hu => ccell_one [_] u (by simpa using hu))
            have H5 := Lib.hid (H3.out.below b35 H3.out.lt)
            have P5 := Lib.hid (P3'.out.below b35 P3'.out.lt)
            have O5 := Lib.hid (own_below O3.out b35)
            have I5 := Lib.hid (fun c hc => And.intro ((I3.out c hc).1.below b35) (I3.out c hc).2)
            have B5 := Lib.hid (B3.out.trans (b35.mono B3.out.size))
            rw [s4] at V5
            have HW : Hid (w5 = (w3.alloc (.cells #[.int .i64 0, .int .i64 K, .int .i64 0, .int .i64 0, .int .i64 0, .int .i64 0] 40)).alloc (.cells #[.int .i64 v, .int .i64 q, .int .i64 K, .slice (some ⟨gr, 0, none⟩) 1 1, .slice none 0 0] 36)) := Lib.hid (by rw [hw5, hw4])
            have HGR := Lib.hid hgr
            clear hw4 hw5 s4 b4 b5 b35 kr hgr hcn
            go_wp2_with (at_builtin; rw [← HGR.out, ← HW.out]; refine wpList_app rfl _ _ _ rfl w.heap.size 36 ti _ 5 72 Try.underlying26 hi0 hz0 hz1 hz2 rfl (by omega) ca cn cc (cs.flatMap ccell) rfl O5.out (some ⟨gr + 1, 0, none⟩) 1 1 (ccell (CD.mk v q K (some ⟨gr, 0, none⟩) 1 1 (oneT K) none 0 0 [])) rfl V5.out X9.out (by unfold maxLen; omega) (by omega) B5.out.size ?_; intro a7 c7 w7 h7; have KN : gp ∉ (ca.map (·.block)).toList := fun hm => own_blk_ne O5.out P5.out (by decide) (by rw [own_block_eq]; exact Option.mem_toList.1 hm); have P7 := Lib.hid (P5.out.only h7.only KN); have d7 : w7.cell? ⟨gp, 2, none⟩ = some (.slice ca cn cc) := P7.out.cell 2; have f7 := P7.out.frozen 2)
            have O7 : Hid (w7.ownsRow w.heap.size 36 5 (.slice a7 (cn + 1) c7) (cn + 1) ((cs ++ [CD.mk v q K (some ⟨gr, 0, none⟩) 1 1 (oneT K) none 0 0 []]).flatMap ccell)) := Lib.hid (by have := h7.own; rw [List.flatMap_append]; simpa using this)
            have od7 := odd_row O5.out (t1 := 40) (t2 := 70) (by decide) (by decide)
            have I7 : Hid (∀ c ∈ cs ++ [CD.mk v q K (some ⟨gr, 0, none⟩) 1 1 (oneT K) none 0 0 []], OwnC w.heap.size w7 c ∧ c.bn ≤ 4096 ∧ c.vn ≤ 4096) := Lib.hid fun c hc => by
              rcases List.mem_append.1 hc with h | h
              · exact ⟨(I5.out c h).1.only h7.only od7, (I5.out c h).2⟩
              · simp only [List.mem_singleton] at h
                subst h
                exact ⟨NC.out.only h7.only od7, by show 1 ≤ 4096; omega, by show 0 ≤ 4096; omega⟩
            have H7 : Hid (Blk w7 gh 72 (seenC 18 (fun i => f i || decide (i = K)))) := Lib.hid (H5.out.only h7.only (fun hm => own_blk_ne O5.out H5.out (by decide) (by rw [own_block_eq]; exact Option.mem_toList.1 hm)))
            have B7 : Hid (Below w.heap.size w w7) := Lib.hid (h7.below O5.out B5.out (Nat.le_refl _) B5.out.size)
            obtain ⟨w8, hw8⟩ : ∃ w8, w8 = w7.setCell ⟨gp, 2, none⟩ (.slice a7 (cn + 1) c7) := ⟨_, rfl⟩
            have u8 : Only [gp] w7 w8 := by rw [hw8]; exact (Only.refl _ _).setCell (.inl (by simp)) _
            have od8 : Odd [gp] w7 40 70 := odd_blk P7.out (by decide) (by decide)
            have LL : Hid ((cs ++ [CD.mk v q K (some ⟨gr, 0, none⟩) 1 1 (oneT K) none 0 0 []]).length = cn + 1) := Lib.hid (by rw [List.length_append, ← CN.out]; rfl)
            have S8 : Hid (Own1 w w8 gh gp q tp (cs ++ [CD.mk v q K (some ⟨gr, 0, none⟩) 1 1 (oneT K) none 0 0 []]) a7 c7 (fun i => f i || decide (i = K))) := Lib.hid
              ⟨by rw [TP.out]; exact AL.out.add K ⟨K1, K16⟩ _ rfl rfl rfl, H7.out.only u8 (by simp; exact fun e => GH.out.2.2 e.symm), by rw [LL.out, hw8]; exact P7.out.set_ 2 _, by rw [LL.out]; exact own_odd O7.out u8 (fun g hg cs' t k => by
                simp only [List.mem_singleton] at hg
                subst hg
                exact fun e => Blk.ne_ k P7.out (by rw [e]; decide) rfl), fun c hc => ⟨(I7.out c hc).1.only u8 od8, (I7.out c hc).2⟩, u8.below B7.out B7.out.size (by simpa using GH.out.2.1)⟩
            have HW8 := Lib.hid hw8
            clear h7 od7 u8 od8 hw8 d7 f7 KN c2
            go_wp2_with fail
            go_roundw
            case rel => exact ⟨j + 1, by omega, by omega, by go_num, _, _, tp, a7, c7, rfl, by rw [LL.out]; omega, by rw [← HW8.out]; exact S8.out⟩
            case measure => simp [intOf]; omega
      · have i1 : ¬ (j : Int) < n0 := by omega
        clear hS
        go_wp2_with fail
        go_meet
        exact ⟨cs, f, top, ca, cc, rfl, by omega, S.out⟩
      · have i1 : (j : Int) < n0 := by omega
        have i2 : ¬ (j : Int) < 20 := by omega
        clear hS
        go_wp2_with fail
        go_meet
        exact ⟨cs, f, top, ca, cc, rfl, by omega, S.out⟩
  case rest =>
    obtain ⟨cs, f, top, ca, cc, rfl, hcl, hS⟩ := hcut
    obtain ⟨w2, hw2⟩ : ∃ w2, w2 = wc := ⟨_, rfl⟩
    rw [← hw2] at hS ⊢
    clear hw2
    obtain ⟨T, rfl⟩ : ∃ T : Nat, top = T := ⟨top.toNat, by have := hS.al.lo; omega⟩
    have T16 : T ≤ 16 := by have := hS.al.lo; omega
    have S2 := Lib.hid hS
    have SM := Lib.hid (hS.small (by omega))
    have G1 := Lib.hid (hS.al.gr (ps := [P1 ca cc cs]) c1)
    have G2 := Lib.hid (hS.al.gr (ps := [P1 ca cc cs, P3]) c2)
    have N1 := Lib.hid (hS.al.nx (ps := [P1 ca cc cs]) c1)
    have BAT : Hid (∀ k : Nat, batchOf q (k : Int) [P1 ca cc cs, P3] = if f k = true then oneT k else []) := Lib.hid fun k => hS.al.bat c2
    have BST : Hid (∀ k : Nat, f k = true → ∃ c, best q (k : Int) [P1 ca cc cs] = some c ∧ c.inst = q ∧ c.seq = (k : Int) ∧ c.bs = oneT k) := Lib.hid fun k hk => hS.al.bst c1 hk
    have NON : Hid (∀ k : Nat, f k = false → best q (k : Int) [P1 ca cc cs] = none) := Lib.hid fun k hk => hS.al.non c1 hk
    have BQ : Hid (batches q [P1 ca cc cs] = batches q [P1 ca cc cs, P3]) := Lib.hid (by
      unfold batches
      rw [G1.out, G2.out]
      refine List.map_congr_left fun i _ => ?_
      rw [show ((i : Int) + 1) = ((i + 1 : Nat) : Int) from rfl, hS.al.bat c1, hS.al.bat c2])
    obtain ⟨l, hl⟩ : ∃ l, batches q [P1 ca cc cs, P3] = l := ⟨_, rfl⟩
    have hlT : l.length = T := by rw [← hl, batches_len, G2.out]; simp
    have LG : Hid (∀ k, k < T → l[k]? = some (if f (k + 1) = true then oneT ((k + 1 : Nat) : Int) else [])) := Lib.hid fun k hk => by
      rw [← hl, batches_get q _ k (by rw [G2.out]; simpa using hk), show ((k : Int) + 1) = ((k + 1 : Nat) : Int) from rfl, BAT.out]
    have HL := Lib.hid hl
    have HLT := Lib.hid hlT
    have hq : I64 q := ⟨by omega, by omega⟩
    have HQ := Lib.hid hq
    have hq1 : I64 (q + 1) := ⟨by omega, by omega⟩
    have HQ1 := Lib.hid hq1
    have eq1 : IntKind.i64.wrap (q + 1) = q + 1 := IntWalk.i64_in _ (by omega)
    have p0 : w2.cell? ⟨gp, 0, none⟩ = some (.int .i64 0) := hS.p.cell 0
    have p1 : w2.cell? ⟨gp, 1, none⟩ = some (.slice none 0 0) := hS.p.cell 1
    have p2 : w2.cell? ⟨gp, 2, none⟩ = some (.slice ca cs.length cc) := hS.p.cell 2
    have p3 : w2.cell? ⟨gp, 3, none⟩ = some (.int .i64 0) := hS.p.cell 3
    have b3 := (Below.refl w2.heap.size w2).alloc (Nat.le_refl _) (.cells #[.int .i64 0, .slice none 0 0, .slice ca cs.length cc, .int .i64 0, .int .i64 3, .slice none 0 0, .slice none 0 0, .int .i64 0] 32)
    have S3 := Lib.hid (hS.below b3)
    have PT := Lib.hid (S3.out.two (Blk.new w2 _ _))
    clear hS hl hlT b3 hq hq1 ST
    go_wp2_with fail
    refine (batches_c q _ 2 2 _ _ PT.out SM.out.2 HQ.out l HL.out T HLT.out).mono ?_; rintro e w4 ⟨a4, c4, rfl, hbt, hb4⟩
    have BT4 := Lib.hid hbt
    have S4 := Lib.hid (S3.out.below hb4)
    clear hbt hb4 p0 p1 p2 p3 S3 PT S2
    have p0 : w4.cell? ⟨gp, 0, none⟩ = some (.int .i64 0) := S4.out.p.cell 0
    have p1 : w4.cell? ⟨gp, 1, none⟩ = some (.slice none 0 0) := S4.out.p.cell 1
    have p2 : w4.cell? ⟨gp, 2, none⟩ = some (.slice ca cs.length cc) := S4.out.p.cell 2
    have p3 : w4.cell? ⟨gp, 3, none⟩ = some (.int .i64 0) := S4.out.p.cell 3
    have b5 := (Below.refl w4.heap.size w4).alloc (Nat.le_refl _) (.cells #[.int .i64 0, .slice none 0 0, .slice ca cs.length cc, .int .i64 0] 32)
    have S5 := Lib.hid (S4.out.below b5)
    have PT5 := Lib.hid (S5.out.one (Blk.new w4 _ _))
    have BT5 := Lib.hid (BT4.out.below b5)
    have tt : ((T : Int) != T) = false := by simp
    clear b5 BT4
    go_wp2_with fail
    refine (greatest_c q _ 1 1 _ _ PT5.out SM.out.1 HQ.out T G1.out).mono ?_; rintro e w6 ⟨rfl, hb6⟩
    have S6 := Lib.hid (S5.out.below hb6)
    have BT6 := Lib.hid (BT5.out.below hb6)
    clear hb6 p0 p1 p2 p3 PT5 S5 BT5 S4
    have p0 : w6.cell? ⟨gp, 0, none⟩ = some (.int .i64 0) := S6.out.p.cell 0
    have p1 : w6.cell? ⟨gp, 1, none⟩ = some (.slice none 0 0) := S6.out.p.cell 1
    have p2 : w6.cell? ⟨gp, 2, none⟩ = some (.slice ca cs.length cc) := S6.out.p.cell 2
    have p3 : w6.cell? ⟨gp, 3, none⟩ = some (.int .i64 0) := S6.out.p.cell 3
    have b7 := (Below.refl w6.heap.size w6).alloc (Nat.le_refl _) (.cells #[.int .i64 0, .slice none 0 0, .slice ca cs.length cc, .int .i64 0] 32)
    have S7 := Lib.hid (S6.out.below b7)
    have PT7 := Lib.hid (S7.out.one (Blk.new w6 _ _))
    have BT7 := Lib.hid (BT6.out.below b7)
    clear b7 BT6
    go_wp2_with fail
    refine (greatest_c (q + 1) _ 1 1 _ _ PT7.out SM.out.1 HQ1.out 0 N1.out).mono ?_; rintro e w8 ⟨rfl, hb8⟩
    have S8 := Lib.hid (S7.out.below hb8)
    have BT8 := Lib.hid (BT7.out.below hb8)
    clear hb8 p0 p1 p2 p3 PT7 S7 BT7 S6
    go_wp2_with fail
    go_loopw [14] (fun i wr => ∃ k : Nat, k ≤ T ∧ i = .int .i64 ((k : Int) + 1) ∧ Own1 w wr gh gp q T cs ca cc f ∧ Below w8.heap.size w8 wr) (fun i _ => 40 - (intOf i).toNat)
    case atStart => exact ⟨0, by omega, rfl, S8.out, Below.refl _ _⟩
    case round =>
      obtain ⟨k, hk, rfl, hS, hbr⟩ := hrel
      have S := Lib.hid hS
      have BR := Lib.hid hbr
      by_cases hlt : k < T
      · have i1 : (k : Int) + 1 ≤ T := by omega
        have p0 : wr.cell? ⟨gp, 0, none⟩ = some (.int .i64 0) := hS.p.cell 0
        have p1 : wr.cell? ⟨gp, 1, none⟩ = some (.slice none 0 0) := hS.p.cell 1
        have p2 : wr.cell? ⟨gp, 2, none⟩ = some (.slice ca cs.length cc) := hS.p.cell 2
        have p3 : wr.cell? ⟨gp, 3, none⟩ = some (.int .i64 0) := hS.p.cell 3
        have b9 := (Below.refl wr.heap.size wr).alloc (Nat.le_refl _) (.cells #[.int .i64 0, .slice none 0 0, .slice ca cs.length cc, .int .i64 0] 32)
        have S9 := Lib.hid (hS.below b9)
        have PT9 := Lib.hid (S9.out.one (Blk.new wr _ _))
        have B9 := Lib.hid (BR.out.trans (b9.mono BR.out.size))
        have hk1 : I64 ((k : Int) + 1) := ⟨by omega, by omega⟩
        clear hS hbr b9
        go_wp2_with fail
        refine (best_c q ((k : Int) + 1) _ 1 1 _ _ PT9.out SM.out.1 HQ.out hk1 _ rfl (f (k + 1)) (by
          cases hf : f (k + 1) with
          | true => obtain ⟨c, hc, _⟩ := BST.out (k + 1) hf; rw [show ((k : Int) + 1) = ((k + 1 : Nat) : Int) from rfl, hc]; rfl
          | false => rw [show ((k : Int) + 1) = ((k + 1 : Nat) : Int) from rfl, NON.out (k + 1) hf]; rfl)).mono ?_; rintro e wa ⟨d, rfl, hd, hlike, hown, hba⟩
        have Sa := Lib.hid (S9.out.below hba)
        have Ba := Lib.hid (B9.out.trans (hba.mono B9.out.size))
        have DI := Lib.hid hd
        have DS : Hid (f (k + 1) = true → d.inst = q ∧ d.seq = (k : Int) + 1 ∧ d.bs = oneT ((k : Int) + 1)) := Lib.hid fun hf => by
          obtain ⟨c, hc, e1, e2, e3⟩ := BST.out (k + 1) hf
          rw [show ((k : Int) + 1) = ((k + 1 : Nat) : Int) from rfl, hc] at hlike
          exact ⟨hlike.inst.trans e1, hlike.seq.trans e2, hlike.bs.trans e3⟩
        obtain ⟨⟨dv, di, ds, dba, dbn, dbc, dbs, dva, dvn, dvc, dvs⟩, hde⟩ : ∃ x, x = d := ⟨_, rfl⟩
        rw [← hde] at DI DS ⊢
        simp only at DS
        simp only [ccell]
        clear hd hlike hown hba hde p0 p1 p2 p3 PT9 S9 B9
        go_upto_region 23 with fail
        obtain ⟨wb, hwb⟩ : ∃ wb, wb = wa.alloc (.cells #[.int .i64 dv, .int .i64 di, .int .i64 ds, .slice dba dbn dbc, .slice dva dvn dvc] 36) := ⟨_, rfl⟩
        obtain ⟨gb, hgb⟩ : ∃ gb, gb = wa.heap.size := ⟨_, rfl⟩
        rw [← hwb, ← hgb]
        have bb : Below wa.heap.size wa wb := by rw [hwb]; exact (Below.refl _ _).alloc (Nat.le_refl _) _
        have KB : Hid (Blk wb gb 36 #[.int .i64 dv, .int .i64 di, .int .i64 ds, .slice dba dbn dbc, .slice dva dvn dvc]) := Lib.hid (by rw [hwb, hgb]; exact Blk.new _ _ _)
        have Sb := Lib.hid (Sa.out.below bb)
        have Bb := Lib.hid (Ba.out.trans (bb.mono Ba.out.size))
        have Db := Lib.hid (DI.out.below bb)
        have BTb := Lib.hid (BT8.out.below Bb.out)
        clear hwb hgb bb Sa Ba DI
        have hc : wb.cell? ⟨gh, k + 1, none⟩ = some (.bool (f (k + 1))) := by rw [Sb.out.has.cell (k + 1), seenC_get 18 f (k + 1) (by omega)]
        obtain ⟨b6, o6, ha4, hl6, ya, yn, yc, ys, hy, q0', r0⟩ := BTb.out.get hlt
        subst ha4
        have hys := LG.out k hlt
        rw [hy] at hys
        have hys' := Option.some.inj hys
        have R0 := Lib.hid r0
        have e9 : IntKind.i64.wrap ((k : Int) + 1 - 1) = (k : Int) := by rw [IntWalk.i64_in _ (by omega)]; omega
        have e8 : IntKind.i64.wrap ((k : Int) + 1 + 1) = (k : Int) + 1 + 1 := IntWalk.i64_in _ (by omega)
        have j0 : (0 : Int) ≤ (k : Int) + 1 := by omega
        have j1 : (k : Int) + 1 < 18 := by omega
        have j2 : (0 : Int) ≤ k := by omega
        have j3 : (k : Int) < T := by omega
        have t9 : ((k : Int) + 1).toNat = k + 1 := by omega
        clear hy hys r0
        cases hf : f (k + 1) with
        | true =>
          rw [hf] at hc hys'
          rw [if_pos rfl] at hys'
          obtain ⟨e1, e2, e3⟩ := DS.out hf
          subst e1 e2 e3
          have HY := Lib.hid hys'
          have FT := Lib.hid hf
          have YN : yn ≤ 4096 := by
            have := R0.out.len
            rw [← this, hys']
            show 1 ≤ 4096
            omega
          have bz := (Below.refl wb.heap.size wb).alloc (Nat.le_refl _) (.cells #[.int .i64 0, .int .i64 ((k : Int) + 1), .int .i64 0, .int .i64 0, .int .i64 0, .int .i64 0] 40)
          have RZ := Lib.hid (rq_of_blk (l := oneT ((k : Int) + 1)) (n := 1) (Blk.new wb 40 #[.int .i64 0, .int .i64 ((k : Int) + 1), .int .i64 0, .int .i64 0, .int .i64 0, .int .i64 0]) rfl (by simp [maxLen]))
          have YZ := Lib.hid (R0.out.below bz)
          have Sz := Lib.hid (Sb.out.below bz)
          have Bz := Lib.hid (Bb.out.trans (bz.mono Bb.out.size))
          have Dz := Lib.hid (Db.out.below bz)
          have Kz := Lib.hid (KB.out.below bz KB.out.lt)
          clear bz hys' hf Sb Bb Db KB BTb
          go_wp2_with fail
          refine (same_q ya _ yn 1 yc 1 ys _ _ YZ.out RZ.out YN true (decide_eq_true HY.out)).mono ?_; rintro e wd ⟨rfl, hbd⟩
          have Sd := Lib.hid (Sz.out.below hbd)
          have Bd := Lib.hid (Bz.out.trans (hbd.mono Bz.out.size))
          have Dd := Lib.hid (Dz.out.below hbd)
          have Kd := Lib.hid (Kz.out.below hbd Kz.out.lt)
          clear hbd q0' hc Sz Bz Dz Kz YZ RZ R0
          have p0 : wd.cell? ⟨gp, 0, none⟩ = some (.int .i64 0) := Sd.out.p.cell 0
          have p1 : wd.cell? ⟨gp, 1, none⟩ = some (.slice none 0 0) := Sd.out.p.cell 1
          have p2 : wd.cell? ⟨gp, 2, none⟩ = some (.slice ca cs.length cc) := Sd.out.p.cell 2
          have p3 : wd.cell? ⟨gp, 3, none⟩ = some (.int .i64 0) := Sd.out.p.cell 3
          have k0 : wd.cell? ⟨gb, 0, none⟩ = some (.int .i64 dv) := Kd.out.cell 0
          have k1 : wd.cell? ⟨gb, 1, none⟩ = some (.int .i64 di) := Kd.out.cell 1
          have k2 : wd.cell? ⟨gb, 2, none⟩ = some (.int .i64 ((k : Int) + 1)) := Kd.out.cell 2
          have k3 : wd.cell? ⟨gb, 3, none⟩ = some (.slice dba dbn dbc) := Kd.out.cell 3
          have k4 : wd.cell? ⟨gb, 4, none⟩ = some (.slice dva dvn dvc) := Kd.out.cell 4
          have hh := Sd.out.has.cell (k + 1)
          rw [seenC_get 18 f (k + 1) (by omega)] at hh
          have be := (Below.refl wd.heap.size wd).alloc (Nat.le_refl _) (.cells #[.int .i64 0, .slice none 0 0, .slice ca cs.length cc, .int .i64 0] 32)
          have Se := Lib.hid (Sd.out.below be)
          have PTe := Lib.hid (Se.out.one (Blk.new wd _ _))
          have Be := Lib.hid (Bd.out.trans (be.mono Bd.out.size))
          have De := Lib.hid (Dd.out.below be)
          have HO : Hid (holdsP [P1 ca cc cs] ⟨dv, di, (k : Int) + 1, dba, dbn, dbc, oneT ((k : Int) + 1), dva, dvn, dvc, dvs⟩) := Lib.hid (by
            refine ⟨by show 1 ≤ (k : Int) + 1; omega, ?_, ?_⟩
            · show (k : Int) + 1 ≤ ((batches di [P1 ca cc cs]).length : Int)
              rw [BQ.out, HL.out, HLT.out]; exact i1
            · show (batches di [P1 ca cc cs])[((k : Int) + 1 - 1).toNat]? = some (oneT ((k : Int) + 1))
              rw [BQ.out, HL.out, show ((k : Int) + 1 - 1).toNat = k by omega, LG.out k hlt, if_pos FT.out]
              rfl)
          clear be Sd Bd Dd Kd hh
          go_wp2_with fail
          refine (holds_c ⟨dv, di, (k : Int) + 1, dba, dbn, dbc, oneT ((k : Int) + 1), dva, dvn, dvc, dvs⟩ _ 1 1 _ _ PTe.out SM.out.1 De.out true ⟨fun _ => HO.out, fun _ => rfl⟩).mono ?_; rintro e wf ⟨rfl, hbf⟩
          have Sf := Lib.hid (Se.out.below hbf)
          have Bf := Lib.hid (Be.out.trans (hbf.mono Be.out.size))
          have hcf : wf.cell? ⟨gh, k + 1, none⟩ = some (.bool true) := by rw [Sf.out.has.cell (k + 1), seenC_get 18 f (k + 1) (by omega), FT.out]
          clear hbf p0 p1 p2 p3 k0 k1 k2 k3 k4
          go_wp2_with fail
          go_roundw
          case rel => exact ⟨k + 1, by omega, by go_num, Sf.out, Bf.out⟩
          case measure => simp [intOf]; omega
        | false =>
          rw [hf] at hc hys'
          rw [if_neg (by decide)] at hys'
          have hyn : yn = 0 := by rw [← R0.out.len, hys']; rfl
          subst hyn
          clear hf hys'
          go_wp2_with fail
          go_roundw
          case rel => exact ⟨k + 1, by omega, by go_num, Sb.out, Bb.out⟩
          case measure => simp [intOf]; omega
      · have hkT : k = T := by omega
        subst hkT
        have i1 : ¬ ((k : Int) + 1 ≤ k) := by omega
        have B0 := Lib.hid hS.b
        clear hS hbr
        have PN : Hid (Parts wr none 0 0 []) := Lib.hid (Parts.nil _ _ (Nat.zero_le _))
        have E0 : Hid (batches q [] = []) := Lib.hid (by simp [batches, greatest])
        go_wp2_with fail
        refine (batches_c q none 0 0 [] _ PN.out ⟨by omega, by simp, by simp⟩ HQ.out [] E0.out 0 rfl).mono ?_; rintro e wz ⟨az, cz, rfl, hbt, hbz⟩
        have Bz := Lib.hid (B0.out.trans (hbz.mono B0.out.size))
        clear hbt hbz
        go_wp2_with fail
        refine (chwakes_c _).mono ?_; rintro e wy ⟨rfl, hby⟩
        go_wp2_with fail
        go_ret
        exact ⟨by simp, Bz.out.trans (hby.mono Bz.out.size)⟩

set_option maxRecDepth 100000 in
theorem lawWalk : LawWalk Try.checked 9 Try.f9 := by
  intro H enc W base args ds p hval hA hsz
  rw [Try.params9] at hA hval
  obtain ⟨v0, vs0, d0, ds0, p0, q0, hargs, rfl, rfl, h0, r0⟩ := trodAll_cons hA
  obtain ⟨v1, vs1, d1, ds1, p1, q1, rfl, rfl, rfl, h1, r1⟩ := trodAll_cons r0
  obtain ⟨v2, vs2, d2, ds2, p2, q2, rfl, rfl, rfl, h2, r2⟩ := trodAll_cons r1
  obtain ⟨rfl, rfl, rfl⟩ := trodAll_nil r2
  obtain rfl : args = #[v0, v1, v2] := by cases args; simp_all
  obtain ⟨a0, n0, c0, xs0, rfl, hnc0, hcm0, hr0, hx0⟩ := open_int_slice Try.underlying45 Try.underlying3 (by kernel_rfl) (hval 0 45 v0 rfl rfl) h0
  obtain ⟨a1, n1, c1, xs1, rfl, hnc1, hcm1, hr1, hx1⟩ := open_int_slice Try.underlying45 Try.underlying3 (by kernel_rfl) (hval 1 45 v1 rfl rfl) h1
  obtain ⟨a2, rfl, rfl, rfl, w2⟩ := open_int Try.underlying3 (hval 2 3 v2 rfl rfl) h2
  exact walk a0 n0 c0 xs0 a1 n1 c1 xs1 a2 W hr0 (Nat.le_trans hnc0 hcm0) hx0 hr1 (Nat.le_trans hnc1 hcm1) hx1 (I64.of_wf w2)

theorem lifted (os : Os) (started : os.Started) (H : Type) (enc : TypeId × Value → H) :
    ReturnsInHanded {} Try.checked os 9 .any (Rows.chooseAloneSpec.pre6 enc Try.prog Try.f9 Rows.chooseAloneRow.domain false) (Rows.chooseAloneSpec.post enc Try.prog Try.f9 false true false false) :=
  law_lift (C := Try.checked) (s := Rows.chooseAloneSpec) (tb := 4) (by kernel_rfl) started (by kernel_rfl) Try.func9
    (ChangeSpec.witness6 (enc := enc) (C := Try.checked) false ⟨#[], #[.slice none 0 0, .slice none 0 0, .int .i64 0], []⟩ 8 (by kernel_rfl) (by kernel_rfl) (by kernel_rfl) (by kernel_rfl))
    rfl (fun H ds h => by
      match ds, h with
      | [d0, d1, d2], _ => rfl) (by kernel_rfl) (by kernel_rfl) (by kernel_rfl) Try.underlying4 lawWalk

theorem over : Rows.chooseAloneRow.holds Try.pinned (OpenSpec.ofChange Rows.chooseAloneSpec) :=
  OpenClaim.holds_of_wide 9 Try.f9 rfl rfl rfl rfl rfl rfl rfl ⟨rfl, rfl, rfl, rfl, rfl⟩ rfl rfl rfl rfl rfl (by kernel_rfl) Try.func9 (by kernel_rfl)
    (of_decide_eq_true (by kernel_rfl)) (by unfold Func.isWrapper; first | (rw [if_pos (by decide +kernel)]; kernel_rfl) | (rw [if_neg (by decide +kernel)]; exact ⟨rfl, rfl⟩))
    (fun os started H enc _ => lifted os started H enc)

/-- The statement. -/
theorem proved : Rows.ChooseAloneSaid := over
#print axioms proved

end Go.Proofs.Ytpkifmophmjilaa.ChooseAlone
