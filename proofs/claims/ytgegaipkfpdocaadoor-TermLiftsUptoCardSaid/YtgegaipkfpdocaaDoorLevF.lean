/-
  THE WALK OF level.Norm.
-/
import Derived.Test.YtgegaipkfpdocaaDoorLevE
namespace Go.Proofs.YtgegaipkfpdocaaDoor
open Go.RowKit Go.Maps
set_option linter.unusedSimpArgs false
set_option linter.unusedVariables false
set_option maxRecDepth 100000

/-- A level of one's own stored into a cell ahead of it, and handed back. -/
theorem MadeL.store {W w0 w1 : World} {l : Lv} {q : Nat} {bs : List Nat} {v : Value} (hb0 : Below W.heap.size W w0) (hO : OPv w1 w0.heap.size bs l v) (hb1 : Below w0.heap.size w0 w1) (hq0 : W.heap.size ≤ q) (hq : q < w0.heap.size) :
    MadeL l W (.returned (.agg #[v])) (w1.setCell ⟨q, 0, none⟩ v) :=
  ⟨_, bs, rfl, (hO.lower hb0.size).move fun j hj => Below.heap_setCell _ _ _ _ (by have := hO.inn j hj; show j ≠ q; omega), (hb0.trans (hb1.mono hb0.size)).setCell hq0 _⟩

theorem norm_any (l : Lv) (v : Value) (W : World) (hv : RPv W l v) : Calls Tryd.prog 74 #[.agg #[v]] W (MadeL (nfP l) W) := by
  obtain ⟨w0, hw0⟩ : ∃ w0, ((W.alloc (.cells #[v] 37)).alloc (.cells #[.slice none 0 0] 37)).alloc (.cells #[v] 37) = w0 := ⟨_, rfl⟩
  have hs0 : w0.heap.size = W.heap.size + 3 := by rw [← hw0]; simp
  have hb0 : Below W.heap.size W w0 := by rw [← hw0]; exact (((Below.refl _ _).alloc (Nat.le_refl _) _).alloc (by simp) _).alloc (by simp; omega) _
  have B1 : Box w0 (W.heap.size + 1) [.slice none 0 0] := by rw [← hw0]; exact (Box.new' _ [_] _ (by simp)).alloc _
  have B2 : Box w0 (W.heap.size + 2) [v] := by rw [← hw0]; exact Box.new' _ [_] _ (by simp)
  have hL : RLv w0 [l] (.slice (some ⟨W.heap.size + 2, 0, none⟩) 1 1) := ⟨_, _, rfl, Nat.le_refl _, by simp, fun _ => ⟨_, _, rfl, ⟨v, B2.cell rfl, hv.below hb0⟩, trivial⟩⟩
  have hcall := of_any [l] _ w0 hL
  have e : [l].flatten = l := by simp
  rw [e] at hcall
  obtain ⟨A, n, c, rfl⟩ := hv.form
  have HB1 := Lib.hid B1
  clear B1 B2 hL hv
  go_enter Tryd.func74, Tryd.ntmps74
  go_wp2_with fail
  refine hcall.mono ?_
  rintro e w1 ⟨v, bs, rfl, hO, hb1⟩
  have C1 := HB1.out.below hb1
  have z0 := C1.cell (j := 0) rfl
  have z1 := C1.frozen 0
  obtain ⟨A', n', c', rfl⟩ := hO.reads.form
  have z2 := (C1.set 0 (.slice A' n' c')).cell (j := 0) rfl
  have HO := Lib.hid hO
  have HB := Lib.hid hb1
  clear hO hb1 hcall hw0
  go_wp2_with fail
  exact bodyPost_ret (v := .agg #[.slice A' n' c']) (by simp [results, Tryd.results74, go_sem, z2]) rfl (MadeL.store hb0 HO.out HB.out (by omega) (by omega))

end Go.Proofs.YtgegaipkfpdocaaDoor
