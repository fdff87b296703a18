/- Package clock: what its functions do. -/
import Derived.Test.YtfeepofdnjnkpaaProg
import Derived.Test.YtfeepofdnjnkpaaRow
import Derived.Test.YtfeepofdnjnkpaaFlat
import Derived.Test.YtfeepofdnjnkpaaOpen
import Derived.StillTailTactics
import Derived.Deep.AppendLies
import Derived.OwnWalk
namespace Go.Proofs.Ytfeepofdnjnkpaa
open Go.RowKit
set_option linter.unusedVariables false

/-- Below B all is as it was; above it only clocks' memory has turned. -/
structure Ticked (B : Nat) (w w' : World) : Prop where
  b : Below B w w'
  far : ∀ k cs t, Blk w k t cs → t ≠ 79 → t ≠ 81 → Blk w' k t cs
section
variable {B : Nat} {w w' a : World}
theorem Ticked.refl (B : Nat) (w : World) : Ticked B w w := ⟨Below.refl _ _, fun _ _ _ h _ _ => h⟩
theorem Ticked.trans (h : Ticked B a w) (k : Ticked B w w') : Ticked B a w' := ⟨h.b.trans k.b, fun i cs t hb h1 h2 => k.far i cs t (h.far i cs t hb h1 h2) h1 h2⟩
theorem Ticked.of_below (hB : B ≤ w.heap.size) (h : Below w.heap.size w w') : Ticked B w w' := ⟨h.mono hB, fun i cs t hb _ _ => hb.below h hb.lt⟩
theorem Ticked.set {g i : Nat} {t : TypeId} {cs : Array Value} (hg : Blk w g t cs) (ht : t = 79 ∨ t = 81) (hB : B ≤ g) (u : Value) : Ticked B w (w.setCell ⟨g, i, none⟩ u) :=
  ⟨(Below.refl _ _).setCell hB _, fun k cs' t' hb h1 h2 => hb.far (p := ⟨g, i, none⟩) (fun e => by
    subst e
    have := Blk.ne_ (t := t') (t' := t) hb hg
    rcases ht with rfl | rfl
    · exact this h1 rfl
    · exact this h2 rfl) _⟩
end

def tcell (p : Int × Int) : List Value := [.int .i64 p.1, .int .i64 p.2]
theorem tcell_len (p : Int × Int) : (tcell p).length = 2 := rfl
/-- The clock at gc, all of it at B or above: its time, its timers. -/
structure Clk (w : World) (B gc : Nat) (now : Int) (L : List (Int × Int)) : Prop where
  ex : ∃ a c, Blk w gc 79 #[.int .i64 now, .slice a L.length c] ∧ w.ownsRow B 81 2 (.slice a L.length c) L.length (L.flatMap tcell) ∧ L.length ≤ c
  ge : B ≤ gc
section
variable {w w' : World} {B B' gc : Nat} {now : Int} {L : List (Int × Int)}
theorem Clk.lt (h : Clk w B gc now L) : gc < w.heap.size := by obtain ⟨a, c, h1, _⟩ := h.ex; exact h1.lt
theorem Clk.below (h : Clk w B gc now L) (hb : Below w.heap.size w w') : Clk w' B gc now L := by
  obtain ⟨a, c, h1, h2, h3⟩ := h.ex
  exact ⟨⟨a, c, h1.below hb h1.lt, own_below h2 hb, h3⟩, h.ge⟩
theorem Clk.drew (h : Clk w B gc now L) : Clk w.drew B gc now L := ⟨h.ex, h.ge⟩
theorem Clk.drewN (h : Clk w B gc now L) (n : Nat) : Clk (w.drewN n) B gc now L := ⟨h.ex, h.ge⟩
end

theorem clock_new_c (w : World) : Calls Try.prog 29 #[] w fun e w' => ∃ gc, e = .returned (.pointer (some ⟨gc, 0, none⟩)) ∧ Clk w' w.heap.size gc 0 [] ∧ Below w.heap.size w w' := by
  go_enter Try.func29, Try.ntmps29
  go_wp2
  go_ret
  exact ⟨w.heap.size, rfl, ⟨⟨none, 0, Blk.new _ _ _, ⟨by simp, .inl ⟨rfl, rfl⟩⟩, Nat.le_refl _⟩, Nat.le_refl _⟩, (Below.refl _ _).alloc (Nat.le_refl _) _⟩

theorem now_c (B gc : Nat) (now : Int) (L : List (Int × Int)) (w : World) (h : Clk w B gc now L) :
    Calls Try.prog 34 #[.pointer (some ⟨gc, 0, none⟩)] w fun e w' => e = .returned (.int .i64 now) ∧ w = w' := by
  obtain ⟨a, c, h1, h2, h3⟩ := h.ex
  have c0 : w.cell? ⟨gc, 0, none⟩ = some (.int .i64 now) := h1.cell 0
  clear h1 h2 h3 h
  go_enter Try.func34, Try.ntmps34
  go_wp2
  go_ret
  exact ⟨rfl, rfl⟩

theorem tick_c (B gc : Nat) (now : Int) (L : List (Int × Int)) (w : World) (h : Clk w B gc now L) (h0 : 0 ≤ now) (h1 : now < 1048576) :
    Calls Try.prog 32 #[.pointer (some ⟨gc, 0, none⟩)] w fun e w' => e = .returned (.bool true) ∧ Clk w' B gc (now + 1) L ∧ Ticked B w w' := by
  obtain ⟨a, c, k1, k2, k3⟩ := h.ex
  have c0 : w.cell? ⟨gc, 0, none⟩ = some (.int .i64 now) := k1.cell 0
  have f0 := k1.frozen 0
  have K1 := Lib.hid k1
  have K2 := Lib.hid k2
  have HG := Lib.hid h.ge
  clear k1 k2 h
  go_enter Try.func32, Try.ntmps32
  go_wp2
  go_ret
  exact ⟨rfl, ⟨⟨a, c, K1.out.set_ 0 _, ownsRow_setCell_other K2.out (own_blk_ne K2.out K1.out (by decide)) _, k3⟩, HG.out⟩, Ticked.set K1.out (.inl rfl) HG.out _⟩

/-- The place of an id in a list of timers. -/
structure Place (L : List (Int × Int)) (id : Int) (k : Nat) (is : Bool) : Prop where
  le : k ≤ L.length
  low : ∀ i (h : i < L.length), i < k → L[i].1 < id
  high : ∀ h : k < L.length, ¬ L[k].1 < id
  yes : ∀ h : k < L.length, (L[k].1 == id) = is
  no : ¬ k < L.length → is = false
theorem place_c (B gc : Nat) (now : Int) (L : List (Int × Int)) (id : Int) (w : World) (h : Clk w B gc now L) (hL : ∀ p ∈ L, I64 p.1 ∧ I64 p.2) (hn : L.length ≤ 1000) (hi : I64 id) (k : Nat) (is : Bool) (hp : Place L id k is) :
    Calls Try.prog 41 #[.pointer (some ⟨gc, 0, none⟩), .int .i64 id] w fun e w' => e = .returned (.tuple #[.int .i64 k, .bool is]) ∧ Below w.heap.size w w' := by
  obtain ⟨a, c, k1, k2, k3⟩ := h.ex
  have hrow := Lib.hid (own_vrow k2)
  have c1 : w.cell? ⟨gc, 1, none⟩ = some (.slice a L.length c) := k1.cell 1
  have HP := Lib.hid hp
  clear h k1 k2 hp
  go_enter Try.func41, Try.ntmps41
  go_wp2_with fail
  go_loop [6] (fun i => ∃ j : Nat, j ≤ k ∧ i = .int .i64 j) (fun i => k - (intOf i).toNat)
  case atStart => exact ⟨0, by omega, rfl⟩
  case round =>
    obtain ⟨j, hj, rfl⟩ := hrel
    have hkl := HP.out.le
    by_cases hjl : j < L.length
    · obtain ⟨b, off, rfl, hb, hcell⟩ := hrow.out.2 (by omega)
      have q0 : w.cell? ⟨b, off + j * 2, none⟩ = some (.int .i64 L[j].1) := hcell _ _ (flat_get' tcell 2 tcell_len L j 0 (by omega) hjl _ rfl)
      have i0 : (0 : Int) ≤ j := by omega
      have i1 : (j : Int) < L.length := by omega
      by_cases hjk : j < k
      · have g1 : L[j].1 < id := HP.out.low j hjl hjk
        obtain ⟨x, hx⟩ : ∃ x, x = L[j].1 := ⟨_, rfl⟩
        rw [← hx] at q0 g1
        clear hx hcell
        go_wp2
        go_round
        case rel => exact ⟨j + 1, by omega, by go_num⟩
        case measure => simp [intOf]; omega
      · obtain rfl : j = k := by omega
        have g1 : ¬ L[j].1 < id := HP.out.high hjl
        have g2 : (L[j].1 == id) = is := HP.out.yes hjl
        obtain ⟨x, hx⟩ : ∃ x, x = L[j].1 := ⟨_, rfl⟩
        rw [← hx] at q0 g1 g2
        clear hx hcell
        go_wp2_with fail
        go_quiet (fail)
        go_wp2
        go_ret2
        exact ⟨rfl, below_drewN (Below.refl _ _) nq⟩
    · obtain rfl : j = k := by omega
      obtain rfl : is = false := HP.out.no hjl
      go_wp2_with fail
      go_quiet (fail)
      go_wp2
      go_ret2
      exact ⟨rfl, below_drewN (Below.refl _ _) nq⟩

/-- How many ticks are left, by the place. -/
theorem left_yes (B gc : Nat) (now : Int) (L : List (Int × Int)) (id : Int) (w : World) (h : Clk w B gc now L) (hL : ∀ p ∈ L, I64 p.1 ∧ I64 p.2) (hn : L.length ≤ 1000) (hi : I64 id) (k : Nat) (hp : Place L id k true) (d : Int) (hk : ∃ h : k < L.length, L[k].2 = d) (hd : 0 ≤ d ∧ d ≤ 4194304) (hnow : 0 ≤ now ∧ now ≤ 1048576) (r : Int) (hr : (0 < d - now ∧ r = d - now) ∨ (d - now ≤ 0 ∧ r = 0)) :
    Calls Try.prog 35 #[.pointer (some ⟨gc, 0, none⟩), .int .i64 id] w fun e w' => e = .returned (.tuple #[.int .i64 r, .bool true]) ∧ Below w.heap.size w w' := by
  obtain ⟨hkl, hk⟩ := hk
  have H := Lib.hid h
  have HP := Lib.hid hp
  clear h hp
  go_enter Try.func35, Try.ntmps35
  go_wp2_with fail
  refine (place_c B gc now L id _ H.out hL hn hi k true HP.out).mono ?_; rintro e w1 ⟨rfl, hb1⟩
  have H1 := H.out.below hb1
  obtain ⟨a, c, k1, k2, k3⟩ := H1.ex
  obtain ⟨b, off, rfl, hb, hcell⟩ := (own_vrow k2).2 (by omega)
  have q0 : w1.cell? ⟨b, off + k * 2 + 1, none⟩ = some (.int .i64 d) := by rw [Nat.add_assoc]; exact hcell _ _ (flat_get' tcell 2 tcell_len L k 1 (by omega) hkl _ (by simp [tcell, hk]))
  have c0 : w1.cell? ⟨gc, 0, none⟩ = some (.int .i64 now) := k1.cell 0
  have c1 : w1.cell? ⟨gc, 1, none⟩ = some (.slice (some ⟨b, off, none⟩) L.length c) := k1.cell 1
  have i0 : (0 : Int) ≤ k := by omega
  have i1 : (k : Int) < L.length := by omega
  clear k1 k2 hcell H1 hk
  rcases hr with ⟨g1, rfl⟩ | ⟨g1, rfl⟩
  all_goals
    go_wp2_with fail
    go_quiet (fail)
    go_wp2
    go_ret2
    exact ⟨rfl, below_drewN hb1 nq⟩
theorem left_no (B gc : Nat) (now : Int) (L : List (Int × Int)) (id : Int) (w : World) (h : Clk w B gc now L) (hL : ∀ p ∈ L, I64 p.1 ∧ I64 p.2) (hn : L.length ≤ 1000) (hi : I64 id) (k : Nat) (hp : Place L id k false) :
    Calls Try.prog 35 #[.pointer (some ⟨gc, 0, none⟩), .int .i64 id] w fun e w' => e = .returned (.tuple #[.int .i64 0, .bool false]) ∧ Below w.heap.size w w' := by
  have H := Lib.hid h
  have HP := Lib.hid hp
  clear h hp
  go_enter Try.func35, Try.ntmps35
  go_wp2_with fail
  refine (place_c B gc now L id _ H.out hL hn hi k false HP.out).mono ?_; rintro e w1 ⟨rfl, hb1⟩
  go_wp2
  go_ret2
  exact ⟨rfl, hb1⟩
end Go.Proofs.Ytfeepofdnjnkpaa
