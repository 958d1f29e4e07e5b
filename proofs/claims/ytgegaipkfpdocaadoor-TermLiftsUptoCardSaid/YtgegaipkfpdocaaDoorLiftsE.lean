/-
  THE WALK OF term.node's closure: is a level right?
-/
import Derived.Test.YtgegaipkfpdocaaDoorLiftsA
import Derived.Test.YtgegaipkfpdocaaDoorLevR
namespace Go.Proofs.YtgegaipkfpdocaaDoor
open Go.RowKit
set_option linter.unusedSimpArgs false
set_option linter.unusedVariables false
set_option maxRecDepth 100000

theorem nodeLv_any (l : Lv) (v : Value) (W : World) (hv : RPv W l v) : Calls Tryd.prog 92 #[.agg #[v]] W fun e w' => e = .returned (.bool (!(lvRight 9 l))) ∧ Below W.heap.size W w' := by
  have hb0 : Below W.heap.size W (W.alloc (.cells #[v] 37)) := (Below.refl _ _).alloc (Nat.le_refl _) _
  have hcall := lright_any 9 l v _ (hv.below hb0)
  obtain ⟨A, c, rfl, -⟩ := hv
  generalize lvRight 9 l = r at *
  go_enter Tryd.func92, Tryd.ntmps92
  go_wp2_with fail
  refine hcall.mono ?_
  rintro e w1 ⟨rfl, hb1⟩
  have hb := below_chV hb0 hb1
  clear hcall hb1 hb0
  go_wp2_with fail
  go_ret
  exact ⟨rfl, hb⟩
/-- term.Right's contract, the levels' own asked. -/
theorem rightT_any (t : Tm) (vl vk : Value) (W : World) (hK : Kinds W) (hr : RT W t vl vk) :
    Calls Tryd.prog 20 #[.agg #[.int .i64 t.kind, .int .i64 t.num, .int .i64 t.atN, vl, vk]] W fun e w' => e = .returned (.bool (rightB (lvRight 9) t)) ∧ Below W.heap.size W w' :=
  right_any (lvRight 9) t vl vk W hK hr fun l v W' _ _ hv => nodeLv_any l v W' hv

end Go.Proofs.YtgegaipkfpdocaaDoor
