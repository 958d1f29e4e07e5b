/-
  WHAT A WALK LEAVES; slices of one and two terms.
-/
import Derived.Test.YtgegaipkfpdocaaDoorCnt
import Derived.Test.YtgegaipkfpdocaaDoorSame
import Derived.Test.YtgegaipkfpdocaaDoorSize
namespace Go.Proofs.YtgegaipkfpdocaaDoor
open Go.RowKit

/-- A term that can be read. -/
def GivesT (u : Tm) (w : World) (e : Ending) (w' : World) : Prop :=
  ∃ A n c A' n' c', e = .returned (.agg #[.int .i64 u.kind, .int .i64 u.num, .int .i64 u.atN, .slice A n c, .slice A' n' c']) ∧ RT w' u (.slice A n c) (.slice A' n' c') ∧ Below w.heap.size w w'
theorem MadeT.gives {u : Tm} {w w' : World} {e : Ending} (h : MadeT u w e w') : GivesT u w e w' := by
  obtain ⟨vl, vk, bs, rfl, ho, _, hb⟩ := h
  obtain ⟨A, n, c, A', n', c', rfl, rfl⟩ := ho.forms
  exact ⟨_, _, _, _, _, _, rfl, ho.reads, hb⟩

theorem RLv_nil (w : World) : RLv w [] (.slice none 0 0) := ⟨none, 0, rfl, Nat.le_refl _, by simp, fun h => absurd h (by simp)⟩
theorem RKv_nil (w : World) : RKv w [] (.slice none 0 0) := ⟨none, 0, rfl, Nat.le_refl _, by simp, fun h => absurd h (by simp)⟩
theorem RT_leaf (w : World) (k n a : Int) : RT w (.node k n a [] []) (.slice none 0 0) (.slice none 0 0) := (RT_iff _ _ _ _ _ _ _ _).2 ⟨RLv_nil w, RKv_nil w⟩
/-- A slice of one term, of two, in a block of its own. -/
theorem RKv_one {w : World} {b : Nat} {t : Tm} {vl vk : Value} (B : Box w b [.int .i64 t.kind, .int .i64 t.num, .int .i64 t.atN, vl, vk]) (h : RT w t vl vk) (c : Nat) (hc : 1 ≤ c) : RKv w [t] (.slice (some ⟨b, 0, none⟩) 1 c) :=
  ⟨_, c, rfl, hc, by simp, fun _ => ⟨b, 0, rfl, by simp only [RK]; exact ⟨⟨vl, vk, B.cell rfl, B.cell rfl, B.cell rfl, B.cell rfl, B.cell rfl, h⟩, trivial⟩⟩⟩
theorem RKv_two {w : World} {b : Nat} {t u : Tm} {vl vk ul uk : Value} (B : Box w b [.int .i64 t.kind, .int .i64 t.num, .int .i64 t.atN, vl, vk, .int .i64 u.kind, .int .i64 u.num, .int .i64 u.atN, ul, uk]) (h : RT w t vl vk) (h' : RT w u ul uk) (c : Nat) (hc : 2 ≤ c) :
    RKv w [t, u] (.slice (some ⟨b, 0, none⟩) 2 c) :=
  ⟨_, c, rfl, hc, by simp, fun _ => ⟨b, 0, rfl, by simp only [RK]; exact ⟨⟨vl, vk, B.cell rfl, B.cell rfl, B.cell rfl, B.cell rfl, B.cell rfl, h⟩, ⟨ul, uk, B.cell rfl, B.cell rfl, B.cell rfl, B.cell rfl, B.cell rfl, h'⟩, trivial⟩⟩⟩

abbrev vT (n : Int) : Tm := .node 1 n 0 [] []
abbrev appT (f a : Tm) : Tm := .node 6 0 0 [] [f, a]
abbrev lamT (a b : Tm) : Tm := .node 5 0 0 [] [a, b]

end Go.Proofs.YtgegaipkfpdocaaDoor
