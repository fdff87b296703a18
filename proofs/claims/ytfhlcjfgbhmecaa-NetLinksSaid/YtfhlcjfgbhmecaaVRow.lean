/- Slices that read as lists of cells. Over any program. -/
import Derived.Test.YtfhlcjfgbhmecaaBlk
namespace Go.Proofs.Ytfhlcjfgbhmecaa
open Go.RowKit
set_option linter.unusedVariables false

/-- The slice at a of n elements of s cells each: its cells hold vs. -/
def VRow (w : World) (a : Option Addr) (n s : Nat) (vs : List Value) : Prop :=
  vs.length = n * s ∧ (0 < n → ∃ b off, a = some ⟨b, off, none⟩ ∧ b < w.heap.size ∧ ∀ i v, vs[i]? = some v → w.cell? ⟨b, off + i, none⟩ = some v)
theorem VRow.nil (w : World) (a : Option Addr) (s : Nat) : VRow w a 0 s [] := ⟨by simp, fun h => absurd h (by omega)⟩
theorem VRow.keep {w w' : World} {a : Option Addr} {n s : Nat} {vs : List Value} (h : VRow w a n s vs) (hsz : w.heap.size ≤ w'.heap.size) (hk : ∀ b, a.map (·.block) = some b → b < w.heap.size → w'.heap[b]? = w.heap[b]?) : VRow w' a n s vs :=
  ⟨h.1, fun hn => by
    obtain ⟨b, off, rfl, hlt, hc⟩ := h.2 hn
    refine ⟨b, off, rfl, Nat.lt_of_lt_of_le hlt hsz, fun i v hv => ?_⟩
    rw [← hc i v hv]
    exact World.cell?_of_block (w := w) (hk b rfl hlt)⟩
theorem VRow.below {w w' : World} {a : Option Addr} {n s : Nat} {vs : List Value} (h : VRow w a n s vs) (hb : Below w.heap.size w w') : VRow w' a n s vs :=
  h.keep hb.size fun b _ hlt => hb.block b hlt
theorem VRow.later {w0 : World} {a : Option Addr} {n s : Nat} {vs : List Value} (h : VRow w0 a n s vs) (x : Later w0) : VRow x.w a n s vs := h.below x.b
theorem VRow.drew {w : World} {a : Option Addr} {n s : Nat} {vs : List Value} (h : VRow w a n s vs) : VRow w.drew a n s vs := h
theorem VRow.of_blk {w : World} {g : Nat} {t : TypeId} {cs : Array Value} {n s : Nat} (h : Blk w g t cs) (hs : cs.size = n * s) : VRow w (some ⟨g, 0, none⟩) n s cs.toList :=
  ⟨by simpa using hs, fun _ => ⟨g, 0, rfl, h.lt, fun i v hv => by rw [Nat.zero_add, h.cell i, ← hv]; simp⟩⟩
/-- s[k:]: where nothing is left of the capacity the model keeps the address. -/
theorem VRow.from_ {w : World} {a : Option Addr} {n s : Nat} {vs : List Value} (h : VRow w a n s vs) {k : Nat} (hk : k < n) :
    ∃ b off, a = some ⟨b, off, none⟩ ∧ VRow w (some ⟨b, off + k * s, none⟩) (n - k) s (vs.drop (k * s)) := by
  obtain ⟨b, off, rfl, hlt, hc⟩ := h.2 (by omega)
  refine ⟨b, off, rfl, by rw [List.length_drop, h.1, Nat.sub_mul], fun _ => ⟨b, off + k * s, rfl, hlt, fun i v hv => ?_⟩⟩
  rw [List.getElem?_drop] at hv
  rw [Nat.add_assoc]
  exact hc _ _ hv
end Go.Proofs.Ytfhlcjfgbhmecaa
