/-
  HOW INTS LIE IN MEMORY.
-/
import Derived.Test.YtgegaipkfpdocaaRep
namespace Go.Proofs.Ytgegaipkfpdocaa
open Go.RowKit

/-- A slice of ints. -/
def RIv (w : World) (xs : List Int) (v : Value) : Prop :=
  ∃ A c, v = .slice A xs.length c ∧ xs.length ≤ c ∧ xs.length ≤ 17592186044416 ∧ (0 < xs.length → ∃ b o, A = some ⟨b, o, none⟩ ∧ ∀ (i : Nat) x, xs[i]? = some x → w.cell? ⟨b, o + i, none⟩ = some (.int .i64 x))
theorem RIv.below {w w1 : World} (hb : Below w.heap.size w w1) {xs : List Int} {v : Value} (h : RIv w xs v) : RIv w1 xs v := by
  obtain ⟨A, c, e, h1, h2, h3⟩ := h
  refine ⟨A, c, e, h1, h2, fun hp => ?_⟩
  obtain ⟨b, o, eA, h⟩ := h3 hp
  exact ⟨b, o, eA, fun i x hi => cell_below hb (h i x hi)⟩

end Go.Proofs.Ytgegaipkfpdocaa
