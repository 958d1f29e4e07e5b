/-
  THE WALKS OF level.Max, part, Num, Var.
-/
import Derived.Test.YtgegaipkfpdocaaLevF
namespace Go.Proofs.Ytgegaipkfpdocaa
open Go.RowKit Go.Maps
set_option linter.unusedSimpArgs false
set_option linter.unusedVariables false
set_option maxRecDepth 100000

theorem lmax_any (ls : List Lv) (v : Value) (W : World) (hv : RLv W ls v) : Calls Try.prog 13 #[v] W (MadeL (nfP ls.flatten) W) := by
  obtain ⟨w0, hw0⟩ : ∃ w0, W.alloc (.cells #[.slice none 0 0] 24) = w0 := ⟨_, rfl⟩
  have hs0 : w0.heap.size = W.heap.size + 1 := by rw [← hw0]; simp
  have hb0 : Below W.heap.size W w0 := by rw [← hw0]; exact (Below.refl _ _).alloc (Nat.le_refl _) _
  have B1 : Box w0 W.heap.size [.slice none 0 0] := by rw [← hw0]; exact Box.new _ [_] _
  have hcall := of_any ls _ w0 (hv.below hb0)
  obtain ⟨A, c, rfl, -⟩ := hv
  have HB1 := Lib.hid B1
  clear B1
  go_enter Try.func13, Try.ntmps13
  go_wp2_with fail
  refine hcall.mono ?_
  rintro e w1 ⟨v, bs, rfl, hO, hb1⟩
  have C1 := HB1.out.below hb1
  have z0 := C1.cell (j := 0) rfl
  have z1 := C1.frozen 0
  obtain ⟨A', n', c', rfl⟩ := hO.reads.form
  have z2 := (C1.set 0 (.slice A' n' c')).cell (j := 0) rfl
  have HO := Lib.hid hO
  have HB := Lib.hid hb1
  clear hO hb1 hcall hw0
  go_wp2_with fail
  exact bodyPost_ret (v := .agg #[.slice A' n' c']) (by simp [results, Try.results13, go_sem, z2]) rfl (MadeL.store hb0 HO.out HB.out (by omega) (by omega))

theorem lpart_any (x y : Int) (W : World) : Calls Try.prog 29 #[.int .i64 x, .int .i64 y] W (MadeL (nfP [(x, y)]) W) := by
  obtain ⟨w0, hw0⟩ : ∃ w0, ((W.alloc (.cells #[.slice none 0 0] 24)).alloc (.cells #[.int .i64 x, .int .i64 y] 41)).alloc (.cells #[.slice (some ⟨W.heap.size + 1, 0, none⟩) 1 1] 24) = w0 := ⟨_, rfl⟩
  have hs0 : w0.heap.size = W.heap.size + 3 := by rw [← hw0]; simp
  have hb0 : Below W.heap.size W w0 := by rw [← hw0]; exact (((Below.refl _ _).alloc (Nat.le_refl _) _).alloc (by simp) _).alloc (by simp; omega) _
  have B0 : Box w0 W.heap.size [.slice none 0 0] := by rw [← hw0]; exact ((Box.new _ [_] _).alloc _).alloc _
  have B1 : Box w0 (W.heap.size + 1) [.int .i64 x, .int .i64 y] := by rw [← hw0]; exact (Box.new' _ [_, _] _ (by simp)).alloc _
  have B2 : Box w0 (W.heap.size + 2) [.slice (some ⟨W.heap.size + 1, 0, none⟩) 1 1] := by rw [← hw0]; exact Box.new' _ [_] _ (by simp)
  have hP : RPv w0 [(x, y)] (.slice (some ⟨W.heap.size + 1, 0, none⟩) 1 1) := ⟨_, _, rfl, Nat.le_refl _, by simp, fun _ => ⟨_, _, rfl, ⟨B1.cell rfl, B1.cell rfl⟩, trivial⟩⟩
  have hL : RLv w0 [[(x, y)]] (.slice (some ⟨W.heap.size + 2, 0, none⟩) 1 1) := ⟨_, _, rfl, Nat.le_refl _, by simp, fun _ => ⟨_, _, rfl, ⟨_, B2.cell rfl, hP⟩, trivial⟩⟩
  have hcall := of_any [[(x, y)]] _ w0 hL
  have e : [[(x, y)]].flatten = [(x, y)] := by simp
  rw [e] at hcall
  have HB0 := Lib.hid B0
  clear B0 B1 B2 hL hP
  go_enter Try.func29, Try.ntmps29
  go_wp2_with fail
  refine hcall.mono ?_
  rintro e w1 ⟨v, bs, rfl, hO, hb1⟩
  have C1 := HB0.out.below hb1
  have z0 := C1.cell (j := 0) rfl
  have z1 := C1.frozen 0
  obtain ⟨A', n', c', rfl⟩ := hO.reads.form
  have z2 := (C1.set 0 (.slice A' n' c')).cell (j := 0) rfl
  have HO := Lib.hid hO
  have HB := Lib.hid hb1
  clear hO hb1 hcall hw0
  go_wp2_with fail
  exact bodyPost_ret (v := .agg #[.slice A' n' c']) (by simp [results, Try.results29, go_sem, z2]) rfl (MadeL.store hb0 HO.out HB.out (by omega) (by omega))

theorem lnum_any (x : Int) (W : World) : Calls Try.prog 17 #[.int .i64 x] W (MadeL (nfP [(0, x)]) W) := by
  obtain ⟨w0, hw0⟩ : ∃ w0, W.alloc (.cells #[.slice none 0 0] 24) = w0 := ⟨_, rfl⟩
  have hs0 : w0.heap.size = W.heap.size + 1 := by rw [← hw0]; simp
  have hb0 : Below W.heap.size W w0 := by rw [← hw0]; exact (Below.refl _ _).alloc (Nat.le_refl _) _
  have B1 : Box w0 W.heap.size [.slice none 0 0] := by rw [← hw0]; exact Box.new _ [_] _
  have hcall := lpart_any 0 x w0
  have HB1 := Lib.hid B1
  clear B1
  go_enter Try.func17, Try.ntmps17
  go_wp2_with fail
  refine hcall.mono ?_
  rintro e w1 ⟨v, bs, rfl, hO, hb1⟩
  have C1 := HB1.out.below hb1
  have z0 := C1.cell (j := 0) rfl
  have z1 := C1.frozen 0
  obtain ⟨A', n', c', rfl⟩ := hO.reads.form
  have z2 := (C1.set 0 (.slice A' n' c')).cell (j := 0) rfl
  have HO := Lib.hid hO
  have HB := Lib.hid hb1
  clear hO hb1 hcall hw0
  go_wp2_with fail
  exact bodyPost_ret (v := .agg #[.slice A' n' c']) (by simp [results, Try.results17, go_sem, z2]) rfl (MadeL.store hb0 HO.out HB.out (by omega) (by omega))

theorem lvar_any (x : Int) (W : World) : Calls Try.prog 16 #[.int .i64 x] W (MadeL (nfP [(x, 0)]) W) := by
  obtain ⟨w0, hw0⟩ : ∃ w0, W.alloc (.cells #[.slice none 0 0] 24) = w0 := ⟨_, rfl⟩
  have hs0 : w0.heap.size = W.heap.size + 1 := by rw [← hw0]; simp
  have hb0 : Below W.heap.size W w0 := by rw [← hw0]; exact (Below.refl _ _).alloc (Nat.le_refl _) _
  have B1 : Box w0 W.heap.size [.slice none 0 0] := by rw [← hw0]; exact Box.new _ [_] _
  have hcall := lpart_any x 0 w0
  have HB1 := Lib.hid B1
  clear B1
  go_enter Try.func16, Try.ntmps16
  go_wp2_with fail
  refine hcall.mono ?_
  rintro e w1 ⟨v, bs, rfl, hO, hb1⟩
  have C1 := HB1.out.below hb1
  have z0 := C1.cell (j := 0) rfl
  have z1 := C1.frozen 0
  obtain ⟨A', n', c', rfl⟩ := hO.reads.form
  have z2 := (C1.set 0 (.slice A' n' c')).cell (j := 0) rfl
  have HO := Lib.hid hO
  have HB := Lib.hid hb1
  clear hO hb1 hcall hw0
  go_wp2_with fail
  exact bodyPost_ret (v := .agg #[.slice A' n' c']) (by simp [results, Try.results16, go_sem, z2]) rfl (MadeL.store hb0 HO.out HB.out (by omega) (by omega))

end Go.Proofs.Ytgegaipkfpdocaa
