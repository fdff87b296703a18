/- Copies of texts and of lists of texts. -/
import Derived.Test.YtjdcjofogmplcaaLinkG
namespace Go.Proofs.Ytjdcjofogmplcaa
open Go.RowKit
set_option linter.unusedVariables false

theorem copy_b8 (a : Option Addr) (n c : Nat) (xs : List Value) (w : World) (h : VRow w a n 1 xs) (h1 : ∀ u ∈ xs, u.oneCell' = true) (hn : n ≤ 1048576) :
    Calls Try.prog 47 #[.slice a n c] w fun e w' => ∃ a' c', e = .returned (.slice a' n c') ∧ w'.ownsRow w.heap.size 33 1 (.slice a' n c') n xs ∧ Below w.heap.size w w' := by
  obtain ⟨i0, hi0, hz0, hz1, hz2⟩ := info_parts info_b8
  have H := Lib.hid h
  have H1 := Lib.hid h1
  clear h h1
  go_enter Try.func47, Try.ntmps47
  go_wp2_with (at_builtin; refine wpList_app rfl _ _ _ rfl w.heap.size 33 i0 _ 1 24 Try.underlying77 hi0 hz0 hz1 hz2 rfl (by omega) none 0 0 [] rfl ⟨rfl, .inl ⟨rfl, rfl⟩⟩ a n c xs rfl H.out H1.out (by unfold maxLen; omega) (by omega) (Nat.le_refl _) ?_; intro a5 c5 w5 h5)
  go_ret
  have h6 := h5.own
  rw [Nat.zero_add, List.nil_append] at h6
  exact ⟨_, _, rfl, h6, h5.only.to_below⟩

theorem copy_u8 (a : Option Addr) (n c : Nat) (bs : List Int) (w : World) (h : VRow w a n 1 (brow bs)) (hn : n ≤ 1048576) :
    Calls Try.prog 48 #[.slice a n c] w fun e w' => ∃ a' c', e = .returned (.slice a' n c') ∧ w'.ownsRow w.heap.size 5 1 (.slice a' n c') n (brow bs) ∧ Below w.heap.size w w' := by
  obtain ⟨i0, hi0, hz0, hz1, hz2⟩ := info_parts info_u8
  have H := Lib.hid h
  clear h
  go_enter Try.func48, Try.ntmps48
  go_wp2_with (at_builtin; refine wpList_app rfl _ _ _ rfl w.heap.size 5 i0 _ 1 1 Try.underlying33 hi0 hz0 hz1 hz2 rfl (by omega) none 0 0 [] rfl ⟨rfl, .inl ⟨rfl, rfl⟩⟩ a n c (brow bs) rfl H.out (brow_one bs) (by unfold maxLen; omega) (by omega) (Nat.le_refl _) ?_; intro a5 c5 w5 h5)
  go_ret
  have h6 := h5.own
  rw [Nat.zero_add, List.nil_append] at h6
  exact ⟨_, _, rfl, h6, h5.only.to_below⟩
theorem Txt.of_own {w : World} {B : Nat} {a : Option Addr} {n c : Nat} {bs : List Int} (h : w.ownsRow B 5 1 (.slice a n c) n (brow bs)) (hn : bs.length = n) : Txt w B (.slice a n c) bs := by
  subst hn
  exact ⟨a, c, rfl, h⟩
/-- What an act leaves. -/
def DoPost (w0 w : World) (q g p h : Nat) (room lost' : Int) (L' : List (List Int)) : Ending → World → Prop := fun e w' =>
  e = .returned (.bool true) ∧ ∃ g' h', Two w0 w' q g' p h' room lost' L' ∧ Only [q, g, p] w w' ∧ (g' = g ∨ w.heap.size ≤ g') ∧ (h' = h ∨ h' = p ∨ w.heap.size ≤ h')
/-- What the tail of an act asks. -/
theorem Two.tail {w0 w : World} {q g p h : Nat} {room lost : Int} {L : List (List Int)} (k : Two w0 w q g p h room lost L) :
    ∃ ms a c, Hid (Que w q g room lost ms) ∧ ms.length = L.length ∧ w.cell? ⟨p, 1, none⟩ = some (.int .i64 lost) ∧ w.cell? ⟨p, 2, none⟩ = some (.slice a L.length c) := by
  obtain ⟨ms, h1, h2⟩ := k.que
  obtain ⟨ps, h3, h4⟩ := k.pl
  obtain ⟨a, c, _, c1, c2, _⟩ := h3.row
  have l1 : ms.length = L.length := by rw [← h2]; simp
  have l2 : ps.length = L.length := by rw [← h4]; simp
  rw [l2] at c2
  exact ⟨ms, a, c, Lib.hid h1, l1, c1, c2⟩
theorem Two.drewN {w0 w : World} {q g p h : Nat} {room lost : Int} {L : List (List Int)} (k : Two w0 w q g p h room lost L) (j : Nat) : Two w0 (w.drewN j) q g p h room lost L := by
  obtain ⟨ms, h1, h2⟩ := k.que
  obtain ⟨ps, h3, h4⟩ := k.pl
  exact ⟨⟨ms, h1.drewN j, h2⟩, ⟨ps, h3.drewN j, h4⟩, k.gh, below_drewN k.b j, k.hq, k.hg, k.hp, k.hh⟩
theorem Two.only {w0 w w' : World} {q g p h : Nat} {room lost : Int} {L : List (List Int)} {S : List Nat} (k : Two w0 w q g p h room lost L) (ho : Only S w w') (n1 : q ∉ S) (n2 : g ∉ S) (n3 : p ∉ S) (n4 : h ∉ S) (n5 : ∀ k ∈ S, ∀ cs, ¬ Blk w k 5 cs) (hS : ∀ k ∈ S, w0.heap.size ≤ k) : Two w0 w' q g p h room lost L := by
  obtain ⟨ms, h1, h2⟩ := k.que
  obtain ⟨ps, h3, h4⟩ := k.pl
  exact ⟨⟨ms, h1.only ho n1 n2 n5, h2⟩, ⟨ps, h3.only ho n3 n4, h4⟩, k.gh, ho.below k.b k.b.size hS, k.hq, k.hg, k.hp, k.hh⟩
theorem Two.below {w0 w w' : World} {q g p h : Nat} {room lost : Int} {L : List (List Int)} (k : Two w0 w q g p h room lost L) (hb : Below w.heap.size w w') : Two w0 w' q g p h room lost L :=
  k.only (Only.of_below (S := []) hb) (by simp) (by simp) (by simp) (by simp) (by simp) (by simp)
theorem nth_same {ms ps : List (Value × List Int)} {L : List (List Int)} (h : ms.map Prod.snd = L) (h' : ps.map Prod.snd = L) (m : Nat) (h1 : m < ms.length) (h2 : m < ps.length) : ps[m].2 = ms[m].2 := by
  have e : (ps.map Prod.snd)[m]? = (ms.map Prod.snd)[m]? := by rw [h, h']
  simpa [h1, h2] using e
/-- What an act leaves, out of the state behind it. -/
theorem do_post {w0 w w' : World} {q g p h g' h' : Nat} {room lost : Int} {L : List (List Int)} (T : Two w0 w' q g' p h' room lost L) (o : Only [q, g, p] w w') (hg : g' = g ∨ w.heap.size ≤ g') (hh : h' = h ∨ h' = p ∨ w.heap.size ≤ h') : DoPost w0 w q g p h room lost L (.returned (.bool true)) w' :=
  ⟨rfl, g', h', T, o, hg, hh⟩
section
variable {w0 w w' : World} {q g p h g' h' : Nat} {room lost lost' : Int} {ms ms' ps ps' : List (Value × List Int)} {L : List (List Int)}
theorem que_pl_ne (hq : Que w q g room lost ms) (hp : Pl w0 w p h room lost' ps) : p ≠ q ∧ p ≠ g ∧ h ≠ q := by
  obtain ⟨a, c, b1, b3, b4⟩ := hq.ex
  obtain ⟨a', c', b2, b5, b6⟩ := hp.ex
  refine ⟨Blk.ne_ b2 b1 (by decide), ?_, ?_⟩
  · rcases b4 with ⟨_, rfl⟩ | rfl
    · exact Blk.ne_ b2 b1 (by decide)
    · obtain ⟨cur, _, b7, _⟩ := b3.blk
      exact Blk.ne_ b2 b7 (by decide)
  · rcases b6 with ⟨_, rfl⟩ | rfl
    · exact Blk.ne_ b2 b1 (by decide)
    · obtain ⟨cur, _, b7, _⟩ := (Loose.of_own b5).blk
      exact Blk.ne_ b7 b1 (by decide)
/-- The plain one's row has turned. -/
theorem two_pl (hq : Que w q g room lost ms) (hL : ms.map Prod.snd = L) (k : Pl w0 w p h room lost' ps) (k' : Pl w0 w' p h' room lost ps') (hL' : ps'.map Prod.snd = L) (o : Only [p] w w') (hh : h' = p ∨ w.heap.size ≤ h') (b : Below w0.heap.size w0 w)
    (hq0 : w0.heap.size ≤ q) (hg0 : w0.heap.size ≤ g) (hp0 : w0.heap.size ≤ p) : Two w0 w' q g p h' room lost L := by
  obtain ⟨n1, n2, n3⟩ := que_pl_ne hq k
  obtain ⟨A, C, b2, _⟩ := k.ex
  have hgl := hq.glt
  refine ⟨⟨ms, hq.only o (by simp; exact n1.symm) (by simp; exact n2.symm) ?_, hL⟩, ⟨ps', k', hL'⟩, ?_, o.below b b.size (by simp; exact hp0), hq0, hg0, hp0, ?_⟩
  · intro k hk cs hb
    simp only [List.mem_cons, List.not_mem_nil, or_false] at hk
    subst hk
    exact Blk.ne_ b2 hb (by decide) rfl
  · rcases hh with rfl | hh
    · exact n2.symm
    · omega
  · rcases hh with rfl | hh
    · exact hp0
    · have := b.size; omega
/-- The queue has turned. -/
theorem two_que (T : Two w0 w q g p h room lost L) (hq : Que w q g room lost ms) (hp : Pl w0 w p h room lost ps) (hq' : Que w' q g' room lost' ms') (o : Only [q, g] w w') (hg : g' = g ∨ w.heap.size ≤ g') : Pl w0 w' p h room lost ps ∧ g' ≠ h ∧ w0.heap.size ≤ g' ∧ Below w0.heap.size w0 w' := by
  obtain ⟨n1, n2, n3⟩ := que_pl_ne hq hp
  have hb := T.b.size
  have h1 := hp.hlt
  have h2 := T.hg
  have h3 := T.gh
  refine ⟨hp.only o (by simp; exact ⟨n1, n2⟩) (by simp; exact ⟨n3, T.gh.symm⟩), ?_, ?_, o.below T.b T.b.size (by simp; exact ⟨T.hq, T.hg⟩)⟩
  · rcases hg with rfl | hg
    · exact h3
    · omega
  · rcases hg with rfl | hg
    · exact h2
    · omega
end
end Go.Proofs.Ytjdcjofogmplcaa
