/-
  THE WALK OF level.Put.
-/
import Derived.Test.YtgegaipkfpdocaaDoorLevU
namespace Go.Proofs.YtgegaipkfpdocaaDoor
open Go.RowKit Go.Maps
set_option linter.unusedSimpArgs false
set_option linter.unusedVariables false
set_option maxRecDepth 100000

theorem lput_any (l : Lv) (bs : List Lv) (v vb : Value) (W : World) (hv : RPv W l v) (hvb : RLv W bs vb) : Calls Tryd.prog 41 #[.agg #[v], vb] W (MadeL (putLv l bs) W) := by
  have hmf : ∀ (fn : Fn) (first cap : Array Value) (w : World), (Instr.makeFunc fn first cap).run Tryd.prog w = .ok (.func fn first cap) w := fun _ _ _ _ => rfl
  obtain ⟨w0, hw0⟩ : ∃ w0, ((W.alloc (.cells #[v] 37)).alloc (.cells #[vb] 24)).alloc (.cells #[.slice none 0 0] 37) = w0 := ⟨_, rfl⟩
  have hs0 : w0.heap.size = W.heap.size + 3 := by rw [← hw0]; simp
  have hb0 : Below W.heap.size W w0 := by rw [← hw0]; exact (((Below.refl _ _).alloc (Nat.le_refl _) _).alloc (by simp) _).alloc (by simp; omega) _
  have B0 : Box w0 W.heap.size [v] := by rw [← hw0]; exact ((Box.new W [_] _).alloc _).alloc _
  have B1 : Box w0 (W.heap.size + 1) [vb] := by rw [← hw0]; exact (Box.new' _ [_] _ (by simp)).alloc _
  have B2 : Box w0 (W.heap.size + 1 + 1) [.slice none 0 0] := by rw [← hw0]; exact Box.new' _ [_] _ (by simp)
  have hcall := made_any 73 _ (putsP l bs) w0 (enters_of Tryd.func73 (by kernel_rfl) rfl) (put_puts l bs v vb w0 W.heap.size (W.heap.size + 1) B0 B1 (hv.below hb0) (hvb.below hb0))
  obtain ⟨A0, n0, c0, rfl⟩ := hv.form
  obtain ⟨A, c, rfl, -⟩ := hvb
  have HB2 := Lib.hid B2
  have he : nfP (putsP l bs) = putLv l bs := rfl
  rw [he] at hcall
  clear B0 B1 B2 he
  go_enter Tryd.func41, Tryd.ntmps41
  go_wp2_with fail
  refine hcall.mono ?_
  rintro e w1 ⟨v, bs, rfl, hO, hb1⟩
  have C1 := HB2.out.below hb1
  have z0 := C1.cell (j := 0) rfl
  have z1 := C1.frozen 0
  obtain ⟨A', n', c', rfl⟩ := hO.reads.form
  have z2 := (C1.set 0 (.slice A' n' c')).cell (j := 0) rfl
  have HO := Lib.hid hO
  have HB := Lib.hid hb1
  clear hO hb1 hcall hw0
  go_wp2_with fail
  exact bodyPost_ret (v := .agg #[.slice A' n' c']) (by simp [results, Tryd.results41, go_sem, z2]) rfl (MadeL.store hb0 HO.out HB.out (by omega) (by omega))

end Go.Proofs.YtgegaipkfpdocaaDoor
