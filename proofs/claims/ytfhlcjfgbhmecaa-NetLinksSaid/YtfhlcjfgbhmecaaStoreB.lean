/- store.All, Get, Len, Same, Clone. -/
import Derived.Test.YtfhlcjfgbhmecaaStoreA
import Derived.Deep.AppendLies
import Derived.Laws.OwnMore
namespace Go.Proofs.Ytfhlcjfgbhmecaa
open Go.RowKit
set_option linter.unusedVariables false

/-- The keys that have a value, and their values, of the first k keys. -/
def allTo (st : List (Bool × Int)) : Nat → List (Int × Int)
  | 0 => []
  | k + 1 => if (st.getD k (false, 0)).1 then allTo st k ++ [((k : Int), (st.getD k (false, 0)).2)] else allTo st k
theorem allTo_succ (st : List (Bool × Int)) (k : Nat) : allTo st (k + 1) = if (st.getD k (false, 0)).1 then allTo st k ++ [((k : Int), (st.getD k (false, 0)).2)] else allTo st k := rfl
def acell (p : Int × Int) : List Value := [.int .i64 p.1, .int .i64 p.2]
theorem acell_len (p : Int × Int) : (acell p).length = 2 := rfl
theorem allTo_len (st : List (Bool × Int)) : ∀ k, (allTo st k).length ≤ k
  | 0 => Nat.le_refl _
  | k + 1 => by
    have := allTo_len st k
    unfold allTo
    split
    · rw [List.length_append]; simp; omega
    · omega
theorem info_two : (Try.prog.info? 75).map (fun i => (i.zero, i.size, i.bytes)) = some (some (.agg #[.int .i64 0, .int .i64 0]), 2, 16) := by kernel_rfl

/-- A slice of pairs that reads as these. -/
def PRow (w : World) (base : Nat) (v : Value) (l : List (Int × Int)) : Prop := w.ownsRow base 75 2 v l.length (l.flatMap acell)

set_option maxRecDepth 100000 in
set_option maxHeartbeats 1600000 in
theorem all_c (gs : Nat) (st : List (Bool × Int)) (w : World) (h : Store w gs st) :
    Calls Try.prog 58 #[.pointer (some ⟨gs, 0, none⟩)] w fun e w' => ∃ a c, e = .returned (.slice a (allTo st 64).length c) ∧ PRow w' w.heap.size (.slice a (allTo st 64).length c) (allTo st 64) ∧ Below w.heap.size w w' := by
  obtain ⟨i0, hi0, hz0, hz1, hz2⟩ := info_parts info_two
  have H := Lib.hid h
  have hg1 := Lib.hid (show w.heap[gs]? = some (.cells (kcells st) 130 (0, 0)) from h.b)
  have hsz1 := Lib.hid (show (Try.prog.info? 128).map (·.size) = some (kcells st).size by rw [kcells_size, h.n]; exact kcells_info)
  clear h
  go_enter Try.func58, Try.ntmps58
  go_wp2_with (refine wpList_load_row rfl 128 (.tmp 8) rfl gs rfl 130 (kcells st) (0, 0) _ hg1.out Try.underlying128 rfl hsz1.out ?_)
  go_loopw [3, 10] (fun v i wr => ∃ k : Nat, k ≤ 64 ∧ i = .int .i64 k ∧ (∃ a c, v = .slice a (allTo st k).length c ∧ PRow wr w.heap.size (.slice a (allTo st k).length c) (allTo st k)) ∧ Below w.heap.size w wr) (fun _ i _ => 64 - (intOf i).toNat)
  case atStart => exact ⟨0, by omega, rfl, ⟨none, 0, rfl, World.ownsRow_nil _ _ _ _⟩, Below.refl _ _⟩
  case round =>
    obtain ⟨k, hk64, rfl, ⟨a, c, rfl, hown⟩, hb⟩ := hrel
    have HB := Lib.hid hb
    have HO := Lib.hid hown
    have hsz := hb.size
    clear hb hown
    by_cases hlt' : k < 64
    · have hkl : k < st.length := by rw [H.out.n]; exact hlt'
      have hidx := index_c st H.out.n k hkl
      have hg : st.getD k (false, 0) = st[k] := by simp [List.getD, hkl]
      have hlen := allTo_len st k
      obtain ⟨c0, hc⟩ : ∃ c, c = st[k] := ⟨_, rfl⟩
      rw [← hc] at hidx hg
      obtain ⟨c1, c2⟩ := c0
      have hstep : allTo st (k + 1) = if c1 then allTo st k ++ [((k : Int), c2)] else allTo st k := by rw [allTo_succ, hg]
      have HS := Lib.hid hstep
      clear hc hg hstep
      obtain ⟨L, hL⟩ : ∃ L, L = allTo st k := ⟨_, rfl⟩
      rw [← hL] at HS HO hlen ⊢
      clear hL
      cases c1 with
      | false =>
        go_wp2
        go_roundw
        case rel =>
          refine ⟨k + 1, by omega, by go_num, ⟨a, c, ?_, ?_⟩, HB.out.alloc hsz _⟩
          · rw [HS.out]; rfl
          · rw [HS.out]; exact HO.out.alloc _
        case measure => simp [intOf]; omega
      | true =>
        go_wp2_with (at_builtin; refine wpList_append_lies _ rfl (.tmp 16) (.tmp 21) _ rfl w.heap.size 75 i0 _ 2 16 Try.underlying76 hi0 hz0 hz1 hz2 rfl (by omega) (.slice a L.length c) L.length (L.flatMap acell) rfl ((World.ownsRow.alloc HO.out _).alloc _) ⟨wr.heap.size + 1, 0, none⟩ 1 1 [.int .i64 k, .int .i64 c2] rfl rfl (World.news_of_block (cs := #[.int .i64 k, .int .i64 c2]) (t := 75) (fr := (0, 0)) (heap_alloc2_new wr _ _)) (by simp [Value.oneCell']) (by omega) (by unfold maxLen; omega) (by omega) (by simp; omega) (wr.heap.size + 2) (by simp) ?_; intro g cap w5 hown5 hgrow5 hat5 hlt5)
        have HO5 := Lib.hid hown5
        have hb5 : Below w.heap.size w w5 := ((HB.out.alloc hsz _).alloc (by simp; omega) _).grown hgrow5 (by simp; omega) (fun k hk => (World.ownsRow.lt HO.out k hk).1)
        have HB5 := Lib.hid hb5
        clear hown5 hgrow5 hat5 hb5
        go_roundw
        case rel =>
          refine ⟨k + 1, by omega, by go_num, ⟨some ⟨g, 0, none⟩, cap, ?_, ?_⟩, HB5.out⟩
          · rw [HS.out, if_pos rfl, List.length_append]; rfl
          · rw [HS.out, if_pos rfl]
            have e := HO5.out
            unfold PRow
            rw [List.length_append, List.flatMap_append]
            exact e
        case measure => simp [intOf]; omega
    · have hk' : k = 64 := by omega
      subst hk'
      go_wp2
      go_ret
      exact ⟨a, c, rfl, HO.out, HB.out⟩
end Go.Proofs.Ytfhlcjfgbhmecaa
