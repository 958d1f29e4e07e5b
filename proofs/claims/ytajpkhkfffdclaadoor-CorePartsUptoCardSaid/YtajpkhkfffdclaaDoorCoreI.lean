/-
  THE WALKS OF spandrellaw05: v, of, awake.
-/
import Derived.Test.YtajpkhkfffdclaaDoorCoreH
import Derived.Test.YtajpkhkfffdclaaDoorLaw
namespace Go.Proofs.YtajpkhkfffdclaaDoor
open Go.RowKit
set_option linter.unusedSimpArgs false
set_option linter.unusedVariables false
set_option maxRecDepth 100000

theorem v5_any (n : Int) (w : World) : Calls Tryd.prog 24 #[.int .i64 n] w (GivesT (.node 1 n 0 [] []) w) := by
  generalize hw1 : w.alloc (.cells #[.int .i64 0, .int .i64 0, .int .i64 0, .slice none 0 0, .slice none 0 0] 26) = w1
  have B : Box w1 w.heap.size [.int .i64 0, .int .i64 0, .int .i64 0, .slice none 0 0, .slice none 0 0] := by rw [← hw1]; exact Box.new w [_, _, _, _, _] _
  have b1 : Below w.heap.size w w1 := by rw [← hw1]; exact (Below.refl _ _).alloc (Nat.le_refl _) _
  obtain ⟨s0, s1, s2, s3, s4⟩ := B.five
  obtain ⟨r0, r1, r2, r3, r4⟩ := B.thaw
  have HW := Lib.hid hw1
  go_enter Tryd.func24, Tryd.ntmps24
  go_wp2_with fail
  obtain ⟨wf, ewf, F, hmv, hbf⟩ := put5 B (.int .i64 1) (.int .i64 n) (.int .i64 0) (.slice none 0 0) (.slice none 0 0)
  rw [ewf]
  obtain ⟨z0, z1, z2, z3, z4⟩ := F.five
  refine bodyPost_ret (v := .agg #[.int .i64 1, .int .i64 n, .int .i64 0, .slice none 0 0, .slice none 0 0]) (by simp [results, Tryd.results24, go_sem, z0, z1, z2, z3, z4]) rfl ?_
  exact ⟨_, _, _, _, _, _, rfl, (RT_iff _ _ _ _ _ _ _ _).2 ⟨RLv_nil _, RKv_nil _⟩, b1.trans hbf⟩

theorem of5_any (k : Int) (ks : List Tm) (vk : Value) (w : World) (hk : RKv w ks vk) : Calls Tryd.prog 43 #[.int .i64 k, vk] w (GivesT (.node k 0 0 [] ks) w) := by
  obtain ⟨A2, c2, e2, _⟩ := id hk
  generalize ks.length = n2 at *
  subst e2
  have HK := Lib.hid hk
  clear hk
  generalize hw1 : w.alloc (.cells #[.int .i64 0, .int .i64 0, .int .i64 0, .slice none 0 0, .slice none 0 0] 26) = w1
  have B : Box w1 w.heap.size [.int .i64 0, .int .i64 0, .int .i64 0, .slice none 0 0, .slice none 0 0] := by rw [← hw1]; exact Box.new w [_, _, _, _, _] _
  have b1 : Below w.heap.size w w1 := by rw [← hw1]; exact (Below.refl _ _).alloc (Nat.le_refl _) _
  obtain ⟨s0, s1, s2, s3, s4⟩ := B.five
  obtain ⟨r0, r1, r2, r3, r4⟩ := B.thaw
  have HW := Lib.hid hw1
  go_enter Tryd.func43, Tryd.ntmps43
  go_wp2_with fail
  obtain ⟨wf, ewf, F, hmv, hbf⟩ := put5 B (.int .i64 k) (.int .i64 0) (.int .i64 0) (.slice none 0 0) (.slice A2 n2 c2)
  rw [ewf]
  obtain ⟨z0, z1, z2, z3, z4⟩ := F.five
  refine bodyPost_ret (v := .agg #[.int .i64 k, .int .i64 0, .int .i64 0, .slice none 0 0, .slice A2 n2 c2]) (by simp [results, Tryd.results43, go_sem, z0, z1, z2, z3, z4]) rfl ?_
  exact ⟨_, _, _, _, _, _, rfl, (RT_iff _ _ _ _ _ _ _ _).2 ⟨RLv_nil _, RKv.below (b1.trans hbf) HK.out⟩, b1.trans hbf⟩

theorem RIv_nil (w : World) : RIv w [] (.slice none 0 0) := ⟨none, 0, rfl, Nat.le_refl _, Nat.zero_le _, fun h => by simp at h⟩
abbrev idT : Tm := .node 5 0 0 [] [.node 22 2 0 [] [], .node 1 0 0 [] []]
theorem right_id : (decide ((0 : Int) ≤ 0 ∧ (0 : Int) ≤ 0) && coreB 0 [] 0 idT) = true := by decide +kernel
theorem right_v0 : (decide ((0 : Int) ≤ 0 ∧ (0 : Int) ≤ 0) && coreB 0 [] 0 (.node 1 0 0 [] [])) = false := by decide +kernel
theorem right_v1 : (decide ((0 : Int) ≤ 0 ∧ (0 : Int) ≤ 1) && coreB 0 [] 1 (.node 1 0 0 [] [])) = true := by decide +kernel

theorem awake5_any (w : World) (hK : Kinds w) : Calls Tryd.prog 16 #[] w fun e w' => e = .returned (.bool true) ∧ Below w.heap.size w w' := by
  go_enter Tryd.func16, Tryd.ntmps16
  go_wp2_with fail
  refine (v5_any 0 w).mono ?_
  rintro e w1 ⟨A, n, c, A', n', c', rfl, g1, hb1⟩
  go_wp2_with fail
  refine (of5_any 5 [.node 22 2 0 [] [], .node 1 0 0 [] []] _ _ (RKv_two (Box.new _ [_, _, _, _, _, _, _, _, _, _] _) (RT_leaf _ _ _ _) (RT.below ((Below.refl _ _).alloc (Nat.le_refl _) _) g1) 2 (Nat.le_refl _))).mono ?_
  rintro e w2 ⟨A2, n2, c2, A2', n2', c2', rfl, g2, hb2⟩
  have hb02 : Below w.heap.size w w2 := below_ch (below_ch hb1 ((Below.refl _ _).alloc (Nat.le_refl _) _)) hb2
  clear hb1 hb2 g1
  have hr1 := fun W (hb : Below w2.heap.size w2 W) => right_core 0 0 [] idT _ _ _ W (hK.below (below_ch hb02 hb)) (RT.below hb g2) (RIv_nil W) (by simp only [idT, size, sizeL]; omega)
  simp only [right_id] at hr1
  have HR1 := Lib.hid hr1
  clear hr1 g2
  go_wp2_with fail
  refine (HR1.out _ ((Below.refl _ _).alloc (Nat.le_refl _) _)).mono ?_
  rintro e w3 ⟨rfl, hb3⟩
  have hb03 : Below w.heap.size w w3 := below_ch (below_ch hb02 ((Below.refl _ _).alloc (Nat.le_refl _) _)) hb3
  clear hb3 HR1 hb02
  go_wp2_with fail
  refine (v5_any 0 w3).mono ?_
  rintro e w4 ⟨A3, n3, c3, A3', n3', c3', rfl, g4, hb4⟩
  have hb04 : Below w.heap.size w w4 := below_ch hb03 hb4
  clear hb4 hb03
  have hr2 := right_core 0 0 [] (.node 1 0 0 [] []) _ _ _ w4 (hK.below hb04) g4 (RIv_nil w4) (by simp only [size, sizeL]; omega)
  simp only [right_v0] at hr2
  have HR2 := Lib.hid hr2
  clear hr2 g4
  go_wp2_with fail
  refine HR2.out.mono ?_
  rintro e w5 ⟨rfl, hb5⟩
  have hb05 : Below w.heap.size w w5 := below_ch hb04 hb5
  clear hb5 hb04 HR2
  go_wp2_with fail
  refine (v5_any 0 w5).mono ?_
  rintro e w6 ⟨A4, n4, c4, A4', n4', c4', rfl, g6, hb6⟩
  have hb06 : Below w.heap.size w w6 := below_ch hb05 hb6
  clear hb6 hb05
  have hr3 := right_core 0 1 [] (.node 1 0 0 [] []) _ _ _ w6 (hK.below hb06) g6 (RIv_nil w6) (by simp only [size, sizeL]; omega)
  simp only [right_v1] at hr3
  have HR3 := Lib.hid hr3
  clear hr3 g6
  go_wp2_with fail
  refine HR3.out.mono ?_
  rintro e w7 ⟨rfl, hb7⟩
  have hb07 : Below w.heap.size w w7 := below_ch hb06 hb7
  clear hb7 hb06 HR3
  go_wp2_with fail
  go_ret
  exact ⟨rfl, hb07⟩

end Go.Proofs.YtajpkhkfffdclaaDoor
