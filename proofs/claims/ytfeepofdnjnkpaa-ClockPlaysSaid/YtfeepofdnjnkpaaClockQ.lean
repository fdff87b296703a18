/- The law's plain clock: two lists of numbers; find, drop. -/
import Derived.Test.YtfeepofdnjnkpaaClockA
import Derived.BigQuiet
namespace Go.Proofs.Ytfeepofdnjnkpaa
open Go.RowKit
set_option linter.unusedVariables false

def ids (P : List (Int × Int)) : List Value := P.map fun p => .int .i64 p.1
def ats (P : List (Int × Int)) : List Value := P.map fun p => .int .i64 p.2
theorem ids_one (P : List (Int × Int)) : ∀ v ∈ ids P, v.oneCell' = true := fun v hv => by
  obtain ⟨x, _, rfl⟩ := List.mem_map.1 hv
  rfl
theorem ats_one (P : List (Int × Int)) : ∀ v ∈ ats P, v.oneCell' = true := fun v hv => by
  obtain ⟨x, _, rfl⟩ := List.mem_map.1 hv
  rfl
/-- The plain clock at gp, its rows the call's own. -/
structure Pn (w : World) (B gp : Nat) (now : Int) (P : List (Int × Int)) : Prop where
  ex : ∃ a c a' c', Blk w gp 70 #[.int .i64 now, .slice a P.length c, .slice a' P.length c'] ∧ w.ownsRow 0 3 1 (.slice a P.length c) P.length (ids P) ∧ w.ownsRow 0 3 1 (.slice a' P.length c') P.length (ats P)
  ge : B ≤ gp
theorem own_ticked {w w' : World} {B base s n : Nat} {e : TypeId} {v : Value} {xs : List Value} (h : w.ownsRow base e s v n xs) (ht : Ticked B w w') (h1 : e ≠ 79) (h2 : e ≠ 81) : w'.ownsRow base e s v n xs := by
  refine ⟨h.1, ?_⟩
  rcases h.2 with h0 | ⟨k, cap, cur, hv, hb, hh, rest⟩
  · exact .inl h0
  · exact .inr ⟨k, cap, cur, hv, hb, ht.far k cur e hh h1 h2, rest⟩
section
variable {w w' : World} {B B' gp : Nat} {now : Int} {P : List (Int × Int)} {S : List Nat}
theorem Pn.lt (h : Pn w B gp now P) : gp < w.heap.size := by obtain ⟨a, c, a', c', h1, _⟩ := h.ex; exact h1.lt
theorem Pn.ticked (h : Pn w B gp now P) (ht : Ticked B' w w') : Pn w' B gp now P := by
  obtain ⟨a, c, a', c', h1, h2, h3⟩ := h.ex
  exact ⟨⟨a, c, a', c', ht.far _ _ _ h1 (by decide) (by decide), own_ticked h2 ht (by decide) (by decide), own_ticked h3 ht (by decide) (by decide)⟩, h.ge⟩
theorem Pn.only (h : Pn w B gp now P) (ho : Only S w w') (hn : gp ∉ S) (hS : ∀ k ∈ S, ∀ cs, ¬ Blk w k 3 cs) : Pn w' B gp now P := by
  obtain ⟨a, c, a', c', h1, h2, h3⟩ := h.ex
  have key : ∀ {v n xs}, w.ownsRow 0 3 1 v n xs → w'.ownsRow 0 3 1 v n xs := fun hr => own_only hr ho fun g hg hm => by
    rcases hr.2 with ⟨hv, _⟩ | ⟨k', cp, cur, hv, _, hb, _⟩
    · rw [hv] at hg; simp [Value.ownBlock] at hg
    · rw [hv] at hg
      simp only [Value.ownBlock, Option.some.injEq] at hg
      subst hg
      exact hS _ hm _ hb
  exact ⟨⟨a, c, a', c', h1.only ho hn, key h2, key h3⟩, h.ge⟩
theorem Pn.below (h : Pn w B gp now P) (hb : Below w.heap.size w w') : Pn w' B gp now P := h.only (Only.of_below (S := []) hb) (by simp) (by simp)
theorem Pn.drewN (h : Pn w B gp now P) (j : Nat) : Pn (w.drewN j) B gp now P := h.only (S := []) ((Only.refl _ _).drewN j) (by simp) (by simp)
end

/-- Where an id stands, -1: nowhere. -/
def FindAt (P : List (Int × Int)) (id i : Int) : Prop := (i = -1 ∧ ∀ x ∈ P, x.1 ≠ id) ∨ ∃ (j : Nat) (h : j < P.length), i = j ∧ P[j].1 = id ∧ ∀ j' (h' : j' < P.length), j' < j → P[j'].1 ≠ id
theorem find_ex (P : List (Int × Int)) (id : Int) : ∃ i, FindAt P id i := by
  by_cases h : ∃ (j : Nat) (h : j < P.length), P[j].1 = id
  · obtain ⟨j, hj⟩ := h
    have : ∀ j : Nat, (∃ h : j < P.length, P[j].1 = id) → ∃ i, FindAt P id i := by
      intro j
      induction j using Nat.strongRecOn with
      | ind j ih =>
        rintro ⟨h, e⟩
        by_cases h2 : ∃ j', j' < j ∧ ∃ h' : j' < P.length, P[j'].1 = id
        · obtain ⟨j', h3, h4⟩ := h2
          exact ih j' h3 h4
        · exact ⟨j, .inr ⟨j, h, rfl, e, fun j' h' hlt e' => h2 ⟨j', hlt, h', e'⟩⟩⟩
    exact this j hj
  · exact ⟨-1, .inl ⟨rfl, fun x hx e => by
      obtain ⟨j, hj, rfl⟩ := List.mem_iff_getElem.1 hx
      exact h ⟨j, hj, e⟩⟩⟩

set_option maxHeartbeats 1600000 in
theorem find_c (B gp : Nat) (now : Int) (P : List (Int × Int)) (id : Int) (w : World) (h : Pn w B gp now P) (hn : P.length ≤ 1000) (hi : I64 id) (i : Int) (hf : FindAt P id i) :
    Calls Try.prog 42 #[.pointer (some ⟨gp, 0, none⟩), .int .i64 id] w fun e w' => e = .returned (.int .i64 i) ∧ w = w' := by
  obtain ⟨a, c, a', c', h1, h2, h3⟩ := h.ex
  obtain ⟨n, hnn⟩ : ∃ n, n = P.length := ⟨_, rfl⟩
  rw [← hnn] at h1 h2 h3 hn
  have N := Lib.hid hnn
  have c1 : w.cell? ⟨gp, 1, none⟩ = some (.slice a n c) := h1.cell 1
  have V := Lib.hid (own_vrow h2)
  have HF := Lib.hid hf
  clear h1 h2 h3 h hnn hf
  go_enter Try.func42, Try.ntmps42
  go_wp2_with fail
  go_loop [11] (fun v => ∃ k : Nat, k ≤ n ∧ v = .int .i64 k ∧ (∀ j (h : j < P.length), j < k → P[j].1 ≠ id)) (fun v => n - (intOf v).toNat)
  case atStart => exact ⟨0, by omega, rfl, fun _ _ h => by omega⟩
  case round =>
    obtain ⟨k, hk, rfl, hlow⟩ := hrel
    have LO := Lib.hid hlow
    clear hlow
    by_cases hlt : k < n
    · have hkP : k < P.length := by have := N.out; omega
      obtain ⟨b, off, rfl, hb, hc⟩ := V.out.2 (by omega)
      have q0 : w.cell? ⟨b, off + k, none⟩ = some (.int .i64 P[k].1) := hc k _ (by simp [ids, hkP])
      obtain ⟨x, hx⟩ : ∃ x, x = P[k].1 := ⟨_, rfl⟩
      rw [← hx] at q0
      have HX := Lib.hid hx
      have i0 : (0 : Int) ≤ k := by omega
      have i1 : (k : Int) < n := by omega
      clear hc hx
      by_cases he : x = id
      · subst he
        obtain rfl : i = k := by
          rcases HF.out with ⟨_, h2⟩ | ⟨j, hj, rfl, h2, h3⟩
          · exact absurd HX.out.symm (h2 _ (List.getElem_mem hkP))
          · rcases Nat.lt_trichotomy j k with h4 | h4 | h4
            · exact absurd h2 (LO.out j hj h4)
            · rw [h4]
            · exact absurd HX.out.symm (h3 k hkP h4)
        go_wp2_with fail
        go_ret
        exact ⟨rfl, rfl⟩
      · have e4 : (x == id) = false := beq_eq_false_iff_ne.2 he
        have NE := Lib.hid he
        clear he
        go_wp2_with fail
        go_round
        case rel => exact ⟨k + 1, by omega, by go_num, fun j hj hjk => by
          rcases Nat.lt_or_ge j k with h4 | h4
          · exact LO.out j hj h4
          · obtain rfl : j = k := by omega
            rw [← HX.out]
            exact NE.out⟩
        case measure => simp [intOf]; omega
    · obtain rfl : i = -1 := by
        rcases HF.out with ⟨h1, _⟩ | ⟨j, hj, _, h2, _⟩
        · exact h1
        · exact absurd h2 (LO.out j hj (by have := N.out; omega))
      go_wp2_with fail
      go_ret
      exact ⟨rfl, rfl⟩

theorem info_intQ : (Try.prog.info? 3).map (fun i => (i.zero, i.size, i.bytes)) = some (some (.int .i64 0), 1, 8) := by kernel_rfl
theorem size_intQ (w : World) : (sizeOf 3).run Try.prog w = .ok 1 w := by
  obtain ⟨i0, hi0, hz0, hz1, hz2⟩ := info_parts info_intQ
  simp [sizeOf, typeInfo, hi0, hz1]
theorem copy_i (a : Option Addr) (n c : Nat) (xs : List Value) (w : World) (h : VRow w a n 1 xs) (h1 : ∀ u ∈ xs, u.oneCell' = true) (hn : n ≤ 1048576) :
    Calls Try.prog 44 #[.slice a n c] w fun e w' => ∃ a' c', e = .returned (.slice a' n c') ∧ w'.ownsRow w.heap.size 3 1 (.slice a' n c') n xs ∧ Below w.heap.size w w' := by
  obtain ⟨i0, hi0, hz0, hz1, hz2⟩ := info_parts info_intQ
  have H := Lib.hid h
  have H1 := Lib.hid h1
  clear h h1
  go_enter Try.func44, Try.ntmps44
  go_wp2_with (at_builtin; refine wpList_app rfl _ _ _ rfl w.heap.size 3 i0 _ 1 8 Try.underlying51 hi0 hz0 hz1 hz2 rfl (by omega) none 0 0 [] rfl ⟨rfl, .inl ⟨rfl, rfl⟩⟩ a n c xs rfl H.out H1.out (by unfold maxLen; omega) (by omega) (Nat.le_refl _) ?_; intro a5 c5 w5 h5)
  go_ret
  have h6 := h5.own
  rw [Nat.zero_add, List.nil_append] at h6
  exact ⟨_, _, rfl, h6, h5.only.to_below⟩
end Go.Proofs.Ytfeepofdnjnkpaa
