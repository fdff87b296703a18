/- Link. -/
import Derived.Test.YtfhlcjfgbhmecaaProg
import Derived.Test.YtfhlcjfgbhmecaaZLoose
import Derived.StillTailTactics
import Derived.BigQuiet
/- Package link: its state, and what its functions do: New, fresh, Push, has, Len, Lost. -/
namespace Go.Proofs.Ytfhlcjfgbhmecaa
open Go.RowKit
set_option linter.unusedVariables false

/-- Bytes as cells. -/
def brow (bs : List Int) : List Value := bs.map (Value.int .u8)
theorem brow_len (bs : List Int) : (brow bs).length = bs.length := by simp [brow]
theorem brow_one (bs : List Int) : ∀ v ∈ brow bs, v.oneCell' = true := by
  intro v hv
  simp only [brow, List.mem_map] at hv
  obtain ⟨x, _, rfl⟩ := hv
  rfl
/-- The slice v is bytes bs, in memory at B or above. -/
def Txt (w : World) (B : Nat) (v : Value) (bs : List Int) : Prop := ∃ a c, v = .slice a bs.length c ∧ w.ownsRow B 5 1 (.slice a bs.length c) bs.length (brow bs)
section
variable {w w' : World} {B B' : Nat} {v : Value} {bs : List Int} {S : List Nat}
theorem Txt.only (h : Txt w B v bs) (ho : Only S w w') (hS : ∀ k ∈ S, ∀ cs, ¬ Blk w k 5 cs) : Txt w' B v bs := by
  obtain ⟨a, c, rfl, h1⟩ := h
  refine ⟨a, c, rfl, own_only h1 ho fun k hk hm => ?_⟩
  rcases h1.2 with ⟨hv, _⟩ | ⟨k', cap, cur, hv, _, hb, _⟩
  · rw [hv] at hk; simp [Value.ownBlock] at hk
  · rw [hv] at hk
    simp only [Value.ownBlock, Option.some.injEq] at hk
    subst hk
    exact hS _ hm _ hb
theorem Txt.below (h : Txt w B v bs) (hb : Below w.heap.size w w') : Txt w' B v bs := h.only (Only.of_below (S := []) hb) (by simp)
theorem Txt.drew (h : Txt w B v bs) : Txt w.drew B v bs := h
theorem Txt.drewN (h : Txt w B v bs) (k : Nat) : Txt (w.drewN k) B v bs := h
theorem Txt.alloc (h : Txt w B v bs) (o : Obj) : Txt (w.alloc o) B v bs := h.below ((Below.refl _ _).alloc (Nat.le_refl _) _)
theorem Txt.base (h : Txt w B v bs) (hb : B' ≤ B) : Txt w B' v bs := by
  obtain ⟨a, c, rfl, h1⟩ := h
  exact ⟨a, c, rfl, own_base h1 fun g hg => Nat.le_trans hb (h1.lt g hg).1⟩
end

/-- The queue at q; its row at g (q, where it has none): room, what was lost, the messages: the slice and its bytes. -/
structure Que (w : World) (q g : Nat) (room lost : Int) (ms : List (Value × List Int)) : Prop where
  ex : ∃ a c, Blk w q 161 #[.int .i64 room, .int .i64 lost, .slice a ms.length c] ∧ Loose w a 59 1 ms.length c (ms.map Prod.fst) ∧ (a = none ∧ g = q ∨ a = some ⟨g, 0, none⟩)
  tx : ∀ m ∈ ms, Txt w 0 m.1 m.2 ∧ m.2.length ≤ 65536
  n : ms.length ≤ 4096
section
variable {w w' : World} {q g : Nat} {room lost : Int} {ms : List (Value × List Int)} {S : List Nat}
theorem Que.lt (h : Que w q g room lost ms) : q < w.heap.size := by
  obtain ⟨a, c, h1, _⟩ := h.ex
  exact h1.lt
theorem Que.glt (h : Que w q g room lost ms) : g < w.heap.size := by
  obtain ⟨a, c, h1, h2, h3⟩ := h.ex
  rcases h3 with ⟨_, rfl⟩ | rfl
  · exact h1.lt
  · exact h2.lt
theorem Que.no8 (h : Que w q g room lost ms) : ∀ k ∈ [q, g], ∀ cs, ¬ Blk w k 5 cs := by
  obtain ⟨a, c, h1, h2, h3⟩ := h.ex
  intro k hk cs hb
  have n1 : k ≠ q := fun e => by subst e; exact Blk.ne_ h1 hb (by decide) rfl
  simp only [List.mem_cons, List.not_mem_nil, or_false] at hk
  rcases hk with rfl | rfl
  · exact n1 rfl
  · rcases h3 with ⟨_, rfl⟩ | rfl
    · exact n1 rfl
    · obtain ⟨cur, _, h4, _⟩ := h2.blk
      exact Blk.ne_ h4 hb (by decide) rfl
theorem Que.only (h : Que w q g room lost ms) (ho : Only S w w') (hq : q ∉ S) (hg : g ∉ S) (hS : ∀ k ∈ S, ∀ cs, ¬ Blk w k 5 cs) : Que w' q g room lost ms := by
  obtain ⟨a, c, h1, h2, h3⟩ := h.ex
  refine ⟨⟨a, c, h1.only ho hq, h2.only ho ?_, h3⟩, fun m hm => ⟨(h.tx m hm).1.only ho hS, (h.tx m hm).2⟩, h.n⟩
  rintro p rfl
  rcases h3 with ⟨h0, _⟩ | h0
  · cases h0
  · injection h0 with h0
    subst h0
    exact hg
theorem Que.below (h : Que w q g room lost ms) (hb : Below w.heap.size w w') : Que w' q g room lost ms := h.only (Only.of_below (S := []) hb) (by simp) (by simp) (by simp)
theorem Que.drew (h : Que w q g room lost ms) : Que w.drew q g room lost ms := ⟨h.ex, h.tx, h.n⟩
theorem Que.drewN (h : Que w q g room lost ms) (k : Nat) : Que (w.drewN k) q g room lost ms := ⟨h.ex, h.tx, h.n⟩
theorem Que.alloc (h : Que w q g room lost ms) (o : Obj) : Que (w.alloc o) q g room lost ms := h.below ((Below.refl _ _).alloc (Nat.le_refl _) _)
end

theorem info_u8 : (Try.prog.info? 5).map (fun i => (i.zero, i.size, i.bytes)) = some (some (.int .u8 0), 1, 1) := by kernel_rfl
theorem info_b8 : (Try.prog.info? 59).map (fun i => (i.zero, i.size, i.bytes)) = some (some (.slice none 0 0), 1, 24) := by kernel_rfl
theorem size_b8 (w : World) : (sizeOf 59).run Try.prog w = .ok 1 w := by
  obtain ⟨j0, hj0, hy0, hy1, hy2⟩ := info_parts info_b8
  simp [sizeOf, typeInfo, hj0, hy1]
theorem size_u8 (w : World) : (sizeOf 5).run Try.prog w = .ok 1 w := by
  obtain ⟨j0, hj0, hy0, hy1, hy2⟩ := info_parts info_u8
  simp [sizeOf, typeInfo, hj0, hy1]

theorem fresh_c (a : Option Addr) (n c : Nat) (bs : List Int) (w : World) (h : VRow w a n 1 (brow bs)) (hm : n ≤ 65537) :
    Calls Try.prog 100 #[.slice a n c] w fun e w' => ∃ v, e = .returned v ∧ Txt w' w.heap.size v bs ∧ Below w.heap.size w w' := by
  obtain ⟨i0, hi0, hz0, hz1, hz2⟩ := info_parts info_u8
  have hl : n = bs.length := by have := h.1; rw [brow_len, Nat.mul_one] at this; exact this.symm
  subst hl
  by_cases h0 : bs.length = 0
  · obtain rfl : bs = [] := List.eq_nil_of_length_eq_zero h0
    clear h
    go_enter Try.func100, Try.ntmps100
    go_wp2_with (at_builtin; refine wpList_append_no rfl _ _ _ rfl 5 i0 Try.underlying59 hi0 none a 0 0 c (.inl ⟨rfl, rfl, rfl⟩) (Nat.le_refl _) rfl rfl ?_)
    go_ret
    exact ⟨_, rfl, ⟨none, 0, rfl, ⟨rfl, .inl ⟨rfl, rfl⟩⟩⟩, Below.refl _ _⟩
  · obtain ⟨b, off, rfl, hlt, hc⟩ := h.2 (by omega)
    have hbl := brow_len bs
    have hb1 := brow_one bs
    have hnews : ∀ j u, (brow bs)[j]? = some u → w.cell? ((⟨b, off, none⟩ : Addr).add j) = some u := fun j u hj => by rw [addr_add]; exact hc j u hj
    go_enter Try.func100, Try.ntmps100
    go_wp2_with (at_builtin; refine wpList_append_lies _ rfl _ _ _ rfl w.heap.size 5 i0 _ 1 1 Try.underlying59 hi0 hz0 hz1 hz2 rfl (by omega) (.slice none 0 0) 0 [] rfl ⟨rfl, .inl ⟨rfl, rfl⟩⟩ ⟨b, off, none⟩ bs.length c (brow bs) rfl (by rw [hbl, Nat.mul_one]) hnews hb1 (by omega) (by unfold maxLen; omega) (by omega) (Nat.le_refl _) w.heap.size rfl ?_; intro g5 cap5 w5 hown5 hgrow5 hat5 hlt5)
    go_ret
    rw [Nat.zero_add, List.nil_append] at hown5
    exact ⟨_, rfl, ⟨some ⟨g5, 0, none⟩, cap5, rfl, hown5⟩, ((Only.refl [] w).grown hgrow5 (fun k hk => by cases hk)).to_below⟩

theorem lq_new_ok (room : Int) (w : World) (h1 : 1 ≤ room) (h2 : room ≤ 256) :
    Calls Try.prog 62 #[.int .i64 room] w fun e w' => ∃ q, e = .returned (.tuple #[.pointer (some ⟨q, 0, none⟩), .int .i64 0]) ∧ Que w' q q room 0 [] ∧ w.heap.size ≤ q ∧ Below w.heap.size w w' := by
  go_enter Try.func62, Try.ntmps62
  go_wp2
  go_ret2
  exact ⟨w.heap.size, rfl, ⟨⟨none, 0, Blk.new _ _ _, Loose.nil _ _ _, .inl ⟨rfl, rfl⟩⟩, by simp, by simp⟩, Nat.le_refl _, (Below.refl _ _).alloc (Nat.le_refl _) _⟩
theorem lq_new_no (room : Int) (w : World) (h : ¬ (1 ≤ room ∧ room ≤ 256)) (hr : I64 room) :
    Calls Try.prog 62 #[.int .i64 room] w fun e w' => e = .returned (.tuple #[.pointer none, .int .i64 1]) ∧ w = w' := by
  unfold I64 at hr
  by_cases h1 : room < 1
  · go_enter Try.func62, Try.ntmps62
    go_wp2
    go_ret2
    exact ⟨rfl, rfl⟩
  · have h2 : 256 < room := by omega
    clear h
    go_enter Try.func62, Try.ntmps62
    go_wp2
    go_ret2
    exact ⟨rfl, rfl⟩
theorem lq_len_c (q g : Nat) (room lost : Int) (ms : List (Value × List Int)) (w : World) (h : Que w q g room lost ms) (n : Nat) (hn : ms.length = n) :
    Calls Try.prog 67 #[.pointer (some ⟨q, 0, none⟩)] w fun e w' => e = .returned (.int .i64 n) ∧ w = w' := by
  subst hn
  obtain ⟨a, c, h1, h2, h3⟩ := h.ex
  have c2 : w.cell? ⟨q, 2, none⟩ = some (.slice a ms.length c) := h1.cell 2
  clear h h1 h2 h3
  go_enter Try.func67, Try.ntmps67
  go_wp2
  go_ret
  exact ⟨rfl, rfl⟩
theorem lq_lost_c (q g : Nat) (room lost : Int) (ms : List (Value × List Int)) (w : World) (h : Que w q g room lost ms) :
    Calls Try.prog 68 #[.pointer (some ⟨q, 0, none⟩)] w fun e w' => e = .returned (.int .i64 lost) ∧ w = w' := by
  obtain ⟨a, c, h1, h2, h3⟩ := h.ex
  have c2 : w.cell? ⟨q, 1, none⟩ = some (.int .i64 lost) := h1.cell 1
  clear h h1 h2 h3
  go_enter Try.func68, Try.ntmps68
  go_wp2
  go_ret
  exact ⟨rfl, rfl⟩
theorem has_c (q g : Nat) (room lost : Int) (ms : List (Value × List Int)) (k : Int) (w : World) (h : Que w q g room lost ms) (hk : I64 k) (b : Bool) (hb : decide (0 ≤ k ∧ k < ms.length) = b) :
    Calls Try.prog 101 #[.pointer (some ⟨q, 0, none⟩), .int .i64 k] w fun e w' => e = .returned (.bool b) ∧ w = w' := by
  have hn := h.n
  obtain ⟨a, c, h1, h2, h3⟩ := h.ex
  have c2 : w.cell? ⟨q, 2, none⟩ = some (.slice a ms.length c) := h1.cell 2
  clear h h1 h2 h3
  unfold I64 at hk
  by_cases h0 : 0 ≤ k
  · by_cases h1 : k < ms.length
    · obtain rfl : b = true := by rw [← hb]; exact decide_eq_true ⟨h0, h1⟩
      clear hb
      go_enter Try.func101, Try.ntmps101
      go_wp2
      go_ret
      exact ⟨rfl, rfl⟩
    · obtain rfl : b = false := by rw [← hb]; exact decide_eq_false (fun e => h1 e.2)
      clear hb
      go_enter Try.func101, Try.ntmps101
      go_wp2
      go_ret
      exact ⟨rfl, rfl⟩
  · obtain rfl : b = false := by rw [← hb]; exact decide_eq_false (fun e => h0 e.1)
    clear hb
    go_enter Try.func101, Try.ntmps101
    go_wp2
    go_ret
    exact ⟨rfl, rfl⟩

/-- A push that finds no room, or is too long. -/
theorem push_no (q g : Nat) (room lost : Int) (ms : List (Value × List Int)) (a : Option Addr) (n c : Nat) (w : World) (h : Que w q g room lost ms) (hr : 1 ≤ room ∧ room ≤ 256) (hl : 0 ≤ lost ∧ lost ≤ 1048576) (hn : n ≤ 4611686018427387904) (hno : room ≤ ms.length ∨ 65536 < n) :
    Calls Try.prog 65 #[.pointer (some ⟨q, 0, none⟩), .slice a n c] w fun e w' => e = .returned (.bool false) ∧ Que w' q g room (lost + 1) ms ∧ Only [q, g] w w' := by
  have hmn := h.n
  obtain ⟨A, C, h1, h2, h3⟩ := h.ex
  have c0 : w.cell? ⟨q, 0, none⟩ = some (.int .i64 room) := h1.cell 0
  have c1 : w.cell? ⟨q, 1, none⟩ = some (.int .i64 lost) := h1.cell 1
  have c2 : w.cell? ⟨q, 2, none⟩ = some (.slice A ms.length C) := h1.cell 2
  have f1 := h1.frozen 1
  have H := Lib.hid h
  have H1 := Lib.hid h1
  have H2 := Lib.hid h2
  have H3 := Lib.hid h3
  clear h h1 h2 h3
  have fin : ∀ j, Que ((w.drewN j).setCell ⟨q, 1, none⟩ (.int .i64 (lost + 1))) q g room (lost + 1) ms ∧ Only [q, g] w ((w.drewN j).setCell ⟨q, 1, none⟩ (.int .i64 (lost + 1))) := by
    intro j
    have o : Only [q, g] w ((w.drewN j).setCell ⟨q, 1, none⟩ (.int .i64 (lost + 1))) := ((Only.refl _ w).drewN j).setCell (.inl (by simp)) _
    exact ⟨⟨⟨A, C, (H1.out.drewN j).set_ 1 _, (H2.out.drewN j).far (fun p hp => H2.out.ne H1.out (by decide) p hp) _, H3.out⟩, fun m hm => ⟨(H.out.tx m hm).1.only o H.out.no8, (H.out.tx m hm).2⟩, hmn⟩, o⟩
  have FIN := Lib.hid fin
  clear fin
  by_cases hd : room ≤ ms.length
  · have d1 : decide ((ms.length : Int) ≥ room) = true := decide_eq_true hd
    clear hno
    go_enter Try.func65, Try.ntmps65
    go_wp2_with fail
    go_quiet (fail)
    go_wp2_with fail
    go_ret
    exact ⟨rfl, FIN.out _⟩
  · have d1 : decide ((ms.length : Int) ≥ room) = false := decide_eq_false hd
    have d2 : decide ((n : Int) > 65536) = true := decide_eq_true (by omega)
    have d3 : (65536 : Int) < n := by omega
    clear hno
    go_enter Try.func65, Try.ntmps65
    go_wp2_with fail
    go_quiet (fail)
    go_wp2_with fail
    go_ret
    exact ⟨rfl, FIN.out _⟩
end Go.Proofs.Ytfhlcjfgbhmecaa
