/- Keep, LinkN. -/
import Derived.Test.YtfhlcjfgbhmecaaProg
import Derived.Test.YtfhlcjfgbhmecaaZOpen
import Derived.Test.YtfhlcjfgbhmecaaZSameB
/- Contracts of package psephoskeep: Within. -/
namespace Go.Proofs.Ytfhlcjfgbhmecaa
open Go.RowKit
set_option linter.unusedVariables false

theorem tmod_emod (v n : Int) (hn : 1 ≤ n) : (0 ≤ v.tmod n → v % n = v.tmod n) ∧ (v.tmod n < 0 → v % n = v.tmod n + n) ∧ -n < v.tmod n ∧ v.tmod n < n := by
  have h1 := Int.emod_nonneg v (show n ≠ 0 by omega)
  have h2 := Int.emod_lt_of_pos v (show 0 < n by omega)
  have h4 : v.tmod n < n := Int.tmod_lt_of_pos v (by omega)
  rcases Int.le_total 0 v with h | h
  · have : v.tmod n = v % n := Int.tmod_eq_emod_of_nonneg h
    rw [this]; omega
  · have e : (-v).tmod n = (-v) % n := Int.tmod_eq_emod_of_nonneg (by omega)
    have e2 : v.tmod n = - ((-v) % n) := by rw [← e, Int.neg_tmod]; omega
    have h5 := Int.emod_nonneg (-v) (show n ≠ 0 by omega)
    have h6 := Int.emod_lt_of_pos (-v) (show 0 < n by omega)
    have h7 : (v % n + (-v) % n) % n = 0 := by rw [← Int.add_emod, Int.add_right_neg, Int.zero_emod]
    rw [e2]
    generalize v % n = a at *
    generalize (-v) % n = b at *
    have h8 : a + b = 0 ∨ a + b = n := by
      rcases Int.lt_or_le (a + b) n with h9 | h9
      · left
        rw [Int.emod_eq_of_lt (by omega) h9] at h7
        exact h7
      · right
        have : (a + b) % n = (a + b - n) % n := by rw [Int.sub_emod_right]
        rw [this, Int.emod_eq_of_lt (by omega) (by omega)] at h7
        omega
    omega

theorem within_keep (v n : Int) (w : World) (hv : I64 v) (hn : 1 ≤ n) (hn2 : n ≤ 4611686018427387904) :
    Calls Try.prog 15 #[.int .i64 v, .int .i64 n] w fun e w' => e = .returned (.int .i64 (v % n)) ∧ w = w' := by
  obtain ⟨hv1, hv2⟩ := hv
  obtain ⟨t0, t1, t2, t3⟩ := tmod_emod v n hn
  by_cases h0 : 0 ≤ v
  · have e0 := Int.emod_nonneg v (show n ≠ 0 by omega)
    have e1 := Int.emod_lt_of_pos v (show 0 < n by omega)
    clear t0 t1 t2 t3
    go_enter Try.func15, Try.ntmps15
    go_wp2
    go_ret
    exact ⟨rfl, rfl⟩
  · by_cases h : v.tmod n < 0
    · have e := Lib.hid (t1 h)
      clear t0 t1
      go_enter Try.func15, Try.ntmps15
      go_wp2
      go_ret
      exact ⟨by rw [e.out]; rfl, rfl⟩
    · have e := Lib.hid (t0 (by omega))
      clear t0 t1
      go_enter Try.func15, Try.ntmps15
      go_wp2
      go_ret
      exact ⟨by rw [e.out]; rfl, rfl⟩

theorem within_q (v n : Int) (w : World) (hv : I64 v) (hn : 1 ≤ n) (hn2 : n ≤ 4611686018427387904) :
    Calls Try.prog 15 #[.int .i64 v, .int .i64 n] w fun e w' => ∃ q, e = .returned (.int .i64 q) ∧ Hid (q = v % n) ∧ 0 ≤ q ∧ q < n ∧ w = w' :=
  (within_keep v n w hv hn hn2).mono fun e w' ⟨he, hw⟩ => ⟨_, he, Lib.hid rfl, Int.emod_nonneg v (by omega), Int.emod_lt_of_pos v (by omega), hw⟩
end Go.Proofs.Ytfhlcjfgbhmecaa
/- Package link: a queue of the law's own, its contents as bytes alone. -/
namespace Go.Proofs.Ytfhlcjfgbhmecaa
open Go.RowKit
set_option linter.unusedVariables false
set_option maxRecDepth 100000

theorem moved_map {α β : Type} (f : α → β) (ms : List α) (k t : Nat) (m : α) : (moved ms k t m).map f = moved (ms.map f) k t (f m) := by
  simp [moved, List.map_append, List.map_take, List.map_drop]
theorem moved_at {α : Type} (ms : List α) (k t : Nat) (m : α) (hk : k < ms.length) (ht : t < ms.length) : (moved ms k t m)[t]? = some m := by
  unfold moved
  have hl := rem_len ms k hk
  have h2 : (List.take t (List.take k ms ++ List.drop (k + 1) ms)).length = t := by rw [List.length_take]; omega
  rw [List.getElem?_append_right (by omega), h2, Nat.sub_self]
  rfl
theorem moved_back {α : Type} (ms : List α) (k t : Nat) (m : α) (hk : k < ms.length) (ht : t < ms.length) (hm : ms[k]? = some m) : moved (moved ms k t m) t k m = ms := by
  have hl := rem_len ms k hk
  obtain ⟨R, hR⟩ : ∃ R, R = List.take k ms ++ List.drop (k + 1) ms := ⟨_, rfl⟩
  rw [← hR] at hl
  have e1 : moved ms k t m = R.take t ++ (m :: R.drop t) := by unfold moved; rw [← hR]
  have ht2 : (R.take t).length = t := by rw [List.length_take]; omega
  have e2 : (moved ms k t m).take t ++ (moved ms k t m).drop (t + 1) = R := by
    rw [e1, List.take_append_of_le_length (by omega), List.take_of_length_le (by omega), List.drop_append, ht2, List.drop_of_length_le (by omega), List.nil_append, show t + 1 - t = 1 by omega]
    show R.take t ++ (R.drop t) = R
    rw [List.take_append_drop]
  have ek : (List.take k ms).length = k := by rw [List.length_take]; omega
  show (moved ms k t m |>.take t) ++ (moved ms k t m |>.drop (t + 1)) |>.take k |> fun x => x ++ (m :: (((moved ms k t m).take t ++ (moved ms k t m).drop (t + 1)).drop k)) = ms
  show ((moved ms k t m).take t ++ (moved ms k t m).drop (t + 1)).take k ++ (m :: (((moved ms k t m).take t ++ (moved ms k t m).drop (t + 1)).drop k)) = ms
  rw [e2, hR, List.take_append_of_le_length (by omega), List.take_of_length_le (by omega), List.drop_append_of_le_length (by omega), List.drop_of_length_le (by omega), List.nil_append]
  have hg : ms[k] = m := by
    rw [List.getElem?_eq_getElem hk] at hm
    injection hm
  rw [← hg, ← List.drop_eq_getElem_cons hk, List.take_append_drop]

/-- Texts are as they were. -/
def TK (w w' : World) : Prop := ∀ B v bs, Txt w B v bs → Txt w' B v bs
theorem TK.refl (w : World) : TK w w := fun _ _ _ h => h
theorem TK.trans {a b c : World} (h : TK a b) (k : TK b c) : TK a c := fun B v bs x => k B v bs (h B v bs x)
theorem TK.below {w w' : World} (h : Below w.heap.size w w') : TK w w' := fun _ _ _ x => x.below h
/-- A queue of the law's own: its contents. -/
def Lk (w0 w : World) (q : Nat) (room lost : Int) (L : List (List Int)) : Prop :=
  ∃ g ms, Que w q g room lost ms ∧ ms.map Prod.snd = L ∧ w0.heap.size ≤ q ∧ w0.heap.size ≤ g ∧ Below w0.heap.size w0 w
section
variable {w0 w w' : World} {q : Nat} {room lost : Int} {L : List (List Int)}
theorem Lk.b (h : Lk w0 w q room lost L) : Below w0.heap.size w0 w := by obtain ⟨g, ms, _, _, _, _, h⟩ := h; exact h
theorem Lk.below (h : Lk w0 w q room lost L) (hb : Below w.heap.size w w') : Lk w0 w' q room lost L := by
  obtain ⟨g, ms, h1, h2, h3, h4, h5⟩ := h
  exact ⟨g, ms, h1.below hb, h2, h3, h4, h5.trans (hb.mono h5.size)⟩
theorem Lk.alloc (h : Lk w0 w q room lost L) (o : Obj) : Lk w0 (w.alloc o) q room lost L := h.below ((Below.refl _ _).alloc (Nat.le_refl _) _)
theorem Lk.drewN (h : Lk w0 w q room lost L) (k : Nat) : Lk w0 (w.drewN k) q room lost L := by
  obtain ⟨g, ms, h1, h2, h3, h4, h5⟩ := h
  exact ⟨g, ms, h1.drewN k, h2, h3, h4, below_drewN h5 k⟩
end
theorem lk_next {w0 w w' : World} {q g g' : Nat} {room lost lost' : Int} {ms ms' : List (Value × List Int)} {L' : List (List Int)} (h : Que w q g room lost ms) (hq : w0.heap.size ≤ q) (hg : w0.heap.size ≤ g) (hb : Below w0.heap.size w0 w) (h' : Que w' q g' room lost' ms') (ho : Only [q, g] w w') (hat : g' = g ∨ w.heap.size ≤ g') (hL : ms'.map Prod.snd = L') :
    Lk w0 w' q room lost' L' ∧ TK w w' := by
  refine ⟨⟨g', ms', h', hL, hq, ?_, ?_⟩, fun B v bs x => x.only ho h.no8⟩
  · rcases hat with rfl | e
    · exact hg
    · exact Nat.le_trans hb.size e
  · exact ho.below hb hb.size (fun k hk => by
      simp only [List.mem_cons, List.not_mem_nil, or_false] at hk
      rcases hk with rfl | rfl
      · exact hq
      · exact hg)
theorem lk_push (w0 : World) (q : Nat) (room lost : Int) (L : List (List Int)) (a : Option Addr) (n c : Nat) (bs : List Int) (w : World) (h : Lk w0 w q room lost L) (hr : 1 ≤ room ∧ room ≤ 256) (hv : VRow w a n 1 (brow bs)) (hn : n ≤ 65536) (hlt : L.length < room) (L' : List (List Int)) (hL : L ++ [bs] = L') :
    Calls Try.prog 65 #[.pointer (some ⟨q, 0, none⟩), .slice a n c] w fun e w' => e = .returned (.bool true) ∧ Lk w0 w' q room lost L' ∧ TK w w' := by
  subst hL
  obtain ⟨g, ms, h1, rfl, h3, h4, h5⟩ := h
  refine (push_ok q g room lost ms a n c bs w h1 hr hv hn (by simpa using hlt)).mono ?_
  rintro e w' ⟨g', v, rfl, q1, o1, g1, _⟩
  exact ⟨rfl, lk_next h1 h3 h4 h5 q1 o1 g1 (by simp)⟩
theorem lk_push_no (w0 : World) (q : Nat) (room lost : Int) (L : List (List Int)) (a : Option Addr) (n c : Nat) (w : World) (h : Lk w0 w q room lost L) (hr : 1 ≤ room ∧ room ≤ 256) (hl : 0 ≤ lost ∧ lost ≤ 1048576) (hn : n ≤ 4611686018427387904) (hno : room ≤ L.length ∨ 65536 < n) (lost' : Int) (hL : lost + 1 = lost') :
    Calls Try.prog 65 #[.pointer (some ⟨q, 0, none⟩), .slice a n c] w fun e w' => e = .returned (.bool false) ∧ Lk w0 w' q room lost' L ∧ TK w w' := by
  subst hL
  obtain ⟨g, ms, h1, rfl, h3, h4, h5⟩ := h
  refine (push_no q g room lost ms a n c w h1 hr hl hn (by simpa using hno)).mono ?_
  rintro e w' ⟨rfl, q1, o1⟩
  exact ⟨rfl, lk_next h1 h3 h4 h5 q1 o1 (.inl rfl) rfl⟩
theorem lk_len (w0 : World) (q : Nat) (room lost : Int) (L : List (List Int)) (w : World) (h : Lk w0 w q room lost L) (n : Int) (hn : L.length = n) :
    Calls Try.prog 67 #[.pointer (some ⟨q, 0, none⟩)] w fun e w' => e = .returned (.int .i64 n) ∧ w = w' := by
  obtain ⟨g, ms, h1, rfl, h3, h4, h5⟩ := h
  subst hn
  rw [List.length_map]
  exact lq_len_c q g room lost ms w h1 _ rfl
theorem lk_lost (w0 : World) (q : Nat) (room lost : Int) (L : List (List Int)) (w : World) (h : Lk w0 w q room lost L) :
    Calls Try.prog 68 #[.pointer (some ⟨q, 0, none⟩)] w fun e w' => e = .returned (.int .i64 lost) ∧ w = w' := by
  obtain ⟨g, ms, h1, rfl, h3, h4, h5⟩ := h
  exact lq_lost_c q g room lost ms w h1
theorem lk_peek (w0 : World) (q : Nat) (room lost : Int) (L : List (List Int)) (k : Nat) (bs : List Int) (w : World) (h : Lk w0 w q room lost L) (hk : L[k]? = some bs) (i : Int) (hi : i = k) :
    Calls Try.prog 66 #[.pointer (some ⟨q, 0, none⟩), .int .i64 i] w fun e w' => ∃ a c, e = .returned (.tuple #[.slice a bs.length c, .bool true]) ∧ Txt w' w.heap.size (.slice a bs.length c) bs ∧ Below w.heap.size w w' := by
  subst hi
  obtain ⟨g, ms, h1, rfl, h3, h4, h5⟩ := h
  have hkl : k < ms.length := by
    have := (List.getElem?_eq_some_iff.1 hk).1
    simpa using this
  refine (peek_ok q g room lost ms k w h1 hkl).mono ?_
  rintro e w' ⟨v, rfl, t1, b1⟩
  have : ms[k].2 = bs := by simpa [hkl] using hk
  rw [this] at t1
  have t2 := t1
  obtain ⟨a, c, rfl, _⟩ := t1
  exact ⟨a, c, rfl, t2, b1⟩
theorem lk_peek_no (w0 : World) (q : Nat) (room lost : Int) (L : List (List Int)) (k : Int) (w : World) (h : Lk w0 w q room lost L) (hk : I64 k) (hno : ¬ (0 ≤ k ∧ k < L.length)) :
    Calls Try.prog 66 #[.pointer (some ⟨q, 0, none⟩), .int .i64 k] w fun e w' => e = .returned (.tuple #[.slice none 0 0, .bool false]) ∧ w = w' := by
  obtain ⟨g, ms, h1, rfl, h3, h4, h5⟩ := h
  exact peek_no q g room lost ms k w h1 hk (by simpa using hno)
theorem lk_take (w0 : World) (q : Nat) (room lost : Int) (L : List (List Int)) (k : Nat) (bs : List Int) (w : World) (h : Lk w0 w q room lost L) (hk : L[k]? = some bs) (i : Int) (hi : i = k) (L' : List (List Int)) (hL : L.take k ++ L.drop (k + 1) = L') :
    Calls Try.prog 69 #[.pointer (some ⟨q, 0, none⟩), .int .i64 i] w fun e w' => ∃ a c, e = .returned (.tuple #[.slice a bs.length c, .bool true]) ∧ Txt w' w.heap.size (.slice a bs.length c) bs ∧ Lk w0 w' q room lost L' ∧ TK w w' := by
  subst hL
  obtain ⟨g, ms, h1, rfl, h3, h4, h5⟩ := h
  have hkl : k < ms.length := by
    have := (List.getElem?_eq_some_iff.1 hk).1
    simpa using this
  refine (take_ok q g room lost ms k w h1 hkl i hi).mono ?_
  rintro e w' ⟨g', v, rfl, t1, q1, o1, g1, _⟩
  have : ms[k].2 = bs := by simpa [hkl] using hk
  rw [this] at t1
  have t2 := t1
  obtain ⟨a, c, rfl, _⟩ := t1
  exact ⟨a, c, rfl, t2, lk_next h1 h3 h4 h5 q1 o1 g1 (by rw [List.map_append, List.map_take, List.map_drop])⟩
theorem lk_take_no (w0 : World) (q : Nat) (room lost : Int) (L : List (List Int)) (k : Int) (w : World) (h : Lk w0 w q room lost L) (hk : I64 k) (hno : ¬ (0 ≤ k ∧ k < L.length)) :
    Calls Try.prog 69 #[.pointer (some ⟨q, 0, none⟩), .int .i64 k] w fun e w' => e = .returned (.tuple #[.slice none 0 0, .bool false]) ∧ w = w' := by
  obtain ⟨g, ms, h1, rfl, h3, h4, h5⟩ := h
  exact take_no q g room lost ms k w h1 hk (by simpa using hno)
theorem lk_dup (w0 : World) (q : Nat) (room lost : Int) (L : List (List Int)) (k : Nat) (bs : List Int) (w : World) (h : Lk w0 w q room lost L) (hr : 1 ≤ room ∧ room ≤ 256) (hk : L[k]? = some bs) (hlt : L.length < room) (i : Int) (hi : i = k) (L' : List (List Int)) (hL : L ++ [bs] = L') :
    Calls Try.prog 106 #[.pointer (some ⟨q, 0, none⟩), .int .i64 i] w fun e w' => e = .returned (.bool true) ∧ Lk w0 w' q room lost L' ∧ TK w w' := by
  subst hi
  subst hL
  obtain ⟨g, ms, h1, rfl, h3, h4, h5⟩ := h
  have hkl : k < ms.length := by
    have := (List.getElem?_eq_some_iff.1 hk).1
    simpa using this
  refine (dup_ok q g room lost ms k w h1 hr hkl (by simpa using hlt)).mono ?_
  rintro e w' ⟨g', rfl, q1, o1, g1⟩
  have : ms[k].2 = bs := by simpa [hkl] using hk
  exact ⟨rfl, lk_next h1 h3 h4 h5 q1 o1 g1 (by rw [List.map_append, List.map_cons, List.map_nil, this])⟩
theorem lk_dup_no (w0 : World) (q : Nat) (room lost : Int) (L : List (List Int)) (k : Int) (w : World) (h : Lk w0 w q room lost L) (hr : 1 ≤ room ∧ room ≤ 256) (hk : I64 k) (hno : ¬ (0 ≤ k ∧ k < L.length) ∨ room ≤ L.length) :
    Calls Try.prog 106 #[.pointer (some ⟨q, 0, none⟩), .int .i64 k] w fun e w' => e = .returned (.bool false) ∧ ∃ j, w' = w.drewN j := by
  obtain ⟨g, ms, h1, rfl, h3, h4, h5⟩ := h
  exact dup_no q g room lost ms k w h1 hr hk (by simpa using hno)
theorem lk_move (w0 : World) (q : Nat) (room lost : Int) (L : List (List Int)) (k t : Nat) (bs : List Int) (w : World) (h : Lk w0 w q room lost L) (hk : L[k]? = some bs) (ht : t < L.length) (i j : Int) (hi : i = k) (hj : j = t) (L' : List (List Int)) (hL : moved L k t bs = L') :
    Calls Try.prog 107 #[.pointer (some ⟨q, 0, none⟩), .int .i64 i, .int .i64 j] w fun e w' => e = .returned (.bool true) ∧ Lk w0 w' q room lost L' ∧ TK w w' := by
  subst hi
  subst hj
  subst hL
  obtain ⟨g, ms, h1, rfl, h3, h4, h5⟩ := h
  have hkl : k < ms.length := by
    have := (List.getElem?_eq_some_iff.1 hk).1
    simpa using this
  refine (move_ok q g room lost ms k t w h1 hkl (by simpa using ht)).mono ?_
  rintro e w' ⟨g', rfl, q1, o1, g1⟩
  have : ms[k].2 = bs := by simpa [hkl] using hk
  exact ⟨rfl, lk_next h1 h3 h4 h5 q1 o1 g1 (by rw [moved_map, this])⟩
theorem lk_move_no (w0 : World) (q : Nat) (room lost : Int) (L : List (List Int)) (k t : Int) (w : World) (h : Lk w0 w q room lost L) (hk : I64 k) (ht : I64 t) (hno : ¬ ((0 ≤ k ∧ k < L.length) ∧ (0 ≤ t ∧ t < L.length))) :
    Calls Try.prog 107 #[.pointer (some ⟨q, 0, none⟩), .int .i64 k, .int .i64 t] w fun e w' => e = .returned (.bool false) ∧ w = w' := by
  obtain ⟨g, ms, h1, rfl, h3, h4, h5⟩ := h
  exact move_no q g room lost ms k t w h1 hk ht (by simpa using hno)

/-- The row of a slice of bytes that is written out. -/
theorem own_bytes (w : World) (xs : List Int) : VRow (w.alloc (.cells (brow xs).toArray 5)) (some ⟨w.heap.size, 0, none⟩) xs.length 1 (brow xs) := by
  have := VRow.of_blk (n := xs.length) (s := 1) (Blk.new w 5 (brow xs).toArray) (by simp [brow])
  simpa using this
theorem Txt.vrow {w : World} {B : Nat} {a : Option Addr} {n c : Nat} {bs : List Int} (h : Txt w B (.slice a n c) bs) : VRow w a bs.length 1 (brow bs) := by
  obtain ⟨a', c', e, h⟩ := h
  injection e with e1 e2 e3
  subst e1
  exact own_vrow h

end Go.Proofs.Ytfhlcjfgbhmecaa
