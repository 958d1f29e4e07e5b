/-
  THE WALK OF spandrellaw01.awake: the chapter's examples.
-/
import Derived.Test.YtgegaipkfpdocaaLawO
namespace Go.Proofs.Ytgegaipkfpdocaa
open Go.RowKit Go.Maps
set_option linter.unusedSimpArgs false
set_option linter.unusedVariables false
set_option maxRecDepth 100000

theorem ints_new (w : World) (xs : List Int) (t : TypeId) (h : xs.length ≤ 1000) : RIv (w.alloc (.cells (xs.map (Value.int .i64)).toArray t)) xs (.slice (some ⟨w.heap.size, 0, none⟩) xs.length xs.length) :=
  ⟨_, _, rfl, Nat.le_refl _, by omega, fun _ => ⟨_, _, rfl, fun i x hi => (Box.new w _ t).cell (by rw [Nat.zero_add, List.getElem?_map, hi]; rfl)⟩⟩
theorem RIv_none (w : World) : RIv w [] (.slice none 0 0) := ⟨none, 0, rfl, Nat.le_refl _, Nat.zero_le _, fun h => by simp at h⟩
theorem levels_two {a b : Lv} {va vb : Value} (w : World) (ha : RPv w a va) (hb : RPv w b vb) (t : TypeId) : RLv (w.alloc (.cells #[va, vb] t)) [a, b] (.slice (some ⟨w.heap.size, 0, none⟩) 2 2) :=
  have hB : Below w.heap.size w (w.alloc (.cells #[va, vb] t)) := (Below.refl _ _).alloc (Nat.le_refl _) _
  ⟨_, _, rfl, Nat.le_refl _, by simp, fun _ => ⟨_, _, rfl, ⟨va, (Box.new w [_, _] t).cell rfl, ha.below hB⟩, ⟨vb, (Box.new w [_, _] t).cell rfl, hb.below hB⟩, trivial⟩⟩

set_option maxHeartbeats 4000000 in
theorem lawAwake_any (W : World) : Calls Try.prog 5 #[] W fun e w' => e = .returned (.bool true) ∧ Below W.heap.size W w' := by
  go_enter Try.func5, Try.ntmps5
  go_wp2_with fail
  refine (lvar_any 1 _).mono ?_
  rintro e w1 ⟨v1, b1, rfl, hO1, hb1⟩
  obtain ⟨A1, n1, c1, rfl⟩ := hO1.reads.form
  have R1 : Hid (RPv w1 [(1, 0)] (.slice A1 n1 c1)) := hO1.reads
  have HW : Hid (Below W.heap.size W w1) := hb1
  clear hO1 hb1
  go_wp2_with fail
  refine (lnum_any 3 _).mono ?_
  rintro e w2 ⟨v2, b2, rfl, hO2, hb2⟩
  obtain ⟨A2, n2, c2, rfl⟩ := hO2.reads.form
  have R2 : Hid (RPv w2 [(0, 3)] (.slice A2 n2 c2)) := hO2.reads
  replace R1 := Lib.hid (R1.out.below hb2)
  replace HW := Lib.hid (below_chV HW.out hb2)
  clear hO2 hb2
  have hL : RLv (w2.alloc (.cells #[.slice A1 n1 c1, .slice A2 n2 c2] 24)) [[(1, 0)], [(0, 3)]] (.slice (some ⟨w2.heap.size, 0, none⟩) 2 2) := levels_two w2 R1.out R2.out _
  have hm := lmax_any _ _ _ hL
  rw [show nfP [[((1 : Int), (0 : Int))], [(0, 3)]].flatten = [(0, 3), (1, 0)] by decide] at hm
  go_wp2_with fail
  refine hm.mono ?_
  rintro e w3 ⟨v3, b3, rfl, hO3, hb3⟩
  obtain ⟨A3, n3, c3, rfl⟩ := hO3.reads.form
  have hs := succ_any _ _ w3 hO3.reads
  rw [show sucL [((0 : Int), (3 : Int)), (1, 0)] = [(0, 4), (1, 1)] by decide] at hs
  replace HW := Lib.hid (below_chV (below_chV HW.out ((Below.refl _ _).alloc (Nat.le_refl _) _)) hb3)
  clear hO3 hb3 hm hL R1 R2
  go_wp2_with fail
  refine hs.mono ?_
  rintro e wc ⟨v4, b4, rfl, hO4, hb4⟩
  obtain ⟨A4, n4, c4, rfl⟩ := hO4.reads.form
  have R4 := Lib.hid hO4.reads
  replace HW := Lib.hid (below_chV HW.out hb4)
  clear hO4 hb4 hs
  have hr10 : RIv (wc.alloc (.cells #[.int .i64 0, .int .i64 4, .int .i64 1, .int .i64 1] 3)) (intsP [(0, 4), (1, 1)]) (.slice (some ⟨wc.heap.size, 0, none⟩) 4 4) := ints_new wc [0, 4, 1, 1] _ (by simp)
  have hof10 := lawOf_any [(0, 4), (1, 1)] _ _ hr10 (by simp)
  go_wp2_with fail
  refine hof10.mono ?_
  rintro e wd ⟨u10, b10, rfl, hO, hb⟩
  have hbd : Below wc.heap.size wc wd := below_chV ((Below.refl _ _).alloc (Nat.le_refl _) _) hb
  obtain ⟨A10, n10, c10, rfl⟩ := hO.reads.form
  have R10 := Lib.hid hO.reads
  replace R4 := Lib.hid (R4.out.below hbd)
  replace HW := Lib.hid (below_chV HW.out hbd)
  clear hb hbd hof10 hr10 hO
  obtain ⟨wc, rfl⟩ : ∃ wc : World, wc = wd := ⟨_, rfl⟩
  have hc := lawSame_any [(0, 4), (1, 1)] [(0, 4), (1, 1)] _ _ wc R4.out R10.out
  rw [decide_eq_true rfl] at hc
  go_wp2_with fail
  refine hc.mono ?_
  rintro e wd ⟨rfl, hb⟩
  replace HW := Lib.hid (below_chV HW.out hb)
  clear hc hb R4 R10
  obtain ⟨wc, rfl⟩ : ∃ wc : World, wc = wd := ⟨_, rfl⟩
  have hr11 : RIv (wc.alloc (.cells #[.int .i64 1, .int .i64 1] 3)) (intsP [(1, 1)]) (.slice (some ⟨wc.heap.size, 0, none⟩) 2 2) := ints_new wc [1, 1] _ (by simp)
  have hof11 := lawOf_any [(1, 1)] _ _ hr11 (by simp)
  go_wp2_with fail
  refine hof11.mono ?_
  rintro e wd ⟨u11, b11, rfl, hO, hb⟩
  have hbd : Below wc.heap.size wc wd := below_chV ((Below.refl _ _).alloc (Nat.le_refl _) _) hb
  obtain ⟨A11, n11, c11, rfl⟩ := hO.reads.form
  have R11 := Lib.hid hO.reads
  replace HW := Lib.hid (below_chV HW.out hbd)
  clear hb hbd hof11 hr11 hO
  obtain ⟨wc, rfl⟩ : ∃ wc : World, wc = wd := ⟨_, rfl⟩
  have hr12 : RIv (wc.alloc (.cells #[.int .i64 0, .int .i64 5, .int .i64 1, .int .i64 2] 3)) (intsP [(0, 5), (1, 2)]) (.slice (some ⟨wc.heap.size, 0, none⟩) 4 4) := ints_new wc [0, 5, 1, 2] _ (by simp)
  have hof12 := lawOf_any [(0, 5), (1, 2)] _ _ hr12 (by simp)
  go_wp2_with fail
  refine hof12.mono ?_
  rintro e wd ⟨u12, b12, rfl, hO, hb⟩
  have hbd : Below wc.heap.size wc wd := below_chV ((Below.refl _ _).alloc (Nat.le_refl _) _) hb
  obtain ⟨A12, n12, c12, rfl⟩ := hO.reads.form
  have R12 := Lib.hid hO.reads
  replace R11 := Lib.hid (R11.out.below hbd)
  replace HW := Lib.hid (below_chV HW.out hbd)
  clear hb hbd hof12 hr12 hO
  obtain ⟨wc, rfl⟩ : ∃ wc : World, wc = wd := ⟨_, rfl⟩
  have hc := leq_any [(1, 1)] [(0, 5), (1, 2)] _ _ wc R11.out R12.out
  rw [show leqL [(1, 1)] [(0, 5), (1, 2)] = true by decide] at hc
  go_wp2_with fail
  refine hc.mono ?_
  rintro e wd ⟨rfl, hb⟩
  replace HW := Lib.hid (below_chV HW.out hb)
  clear hc hb R11 R12
  obtain ⟨wc, rfl⟩ : ∃ wc : World, wc = wd := ⟨_, rfl⟩
  have hr13 : RIv (wc.alloc (.cells #[.int .i64 0, .int .i64 5] 3)) (intsP [(0, 5)]) (.slice (some ⟨wc.heap.size, 0, none⟩) 2 2) := ints_new wc [0, 5] _ (by simp)
  have hof13 := lawOf_any [(0, 5)] _ _ hr13 (by simp)
  go_wp2_with fail
  refine hof13.mono ?_
  rintro e wd ⟨u13, b13, rfl, hO, hb⟩
  have hbd : Below wc.heap.size wc wd := below_chV ((Below.refl _ _).alloc (Nat.le_refl _) _) hb
  obtain ⟨A13, n13, c13, rfl⟩ := hO.reads.form
  have R13 := Lib.hid hO.reads
  replace HW := Lib.hid (below_chV HW.out hbd)
  clear hb hbd hof13 hr13 hO
  obtain ⟨wc, rfl⟩ : ∃ wc : World, wc = wd := ⟨_, rfl⟩
  have hr14 : RIv (wc.alloc (.cells #[.int .i64 1, .int .i64 0] 3)) (intsP [(1, 0)]) (.slice (some ⟨wc.heap.size, 0, none⟩) 2 2) := ints_new wc [1, 0] _ (by simp)
  have hof14 := lawOf_any [(1, 0)] _ _ hr14 (by simp)
  go_wp2_with fail
  refine hof14.mono ?_
  rintro e wd ⟨u14, b14, rfl, hO, hb⟩
  have hbd : Below wc.heap.size wc wd := below_chV ((Below.refl _ _).alloc (Nat.le_refl _) _) hb
  obtain ⟨A14, n14, c14, rfl⟩ := hO.reads.form
  have R14 := Lib.hid hO.reads
  replace R13 := Lib.hid (R13.out.below hbd)
  replace HW := Lib.hid (below_chV HW.out hbd)
  clear hb hbd hof14 hr14 hO
  obtain ⟨wc, rfl⟩ : ∃ wc : World, wc = wd := ⟨_, rfl⟩
  have hc := leq_any [(0, 5)] [(1, 0)] _ _ wc R13.out R14.out
  rw [show leqL [(0, 5)] [(1, 0)] = false by decide] at hc
  go_wp2_with fail
  refine hc.mono ?_
  rintro e wd ⟨rfl, hb⟩
  replace HW := Lib.hid (below_chV HW.out hb)
  clear hc hb R13 R14
  obtain ⟨wc, rfl⟩ : ∃ wc : World, wc = wd := ⟨_, rfl⟩
  have hof15 := lawOf_any [] _ wc (RIv_none wc) (by simp)
  go_wp2_with fail
  refine hof15.mono ?_
  rintro e wd ⟨u15, b15, rfl, hO, hb⟩
  have hbd : Below wc.heap.size wc wd := hb
  obtain ⟨A15, n15, c15, rfl⟩ := hO.reads.form
  have R15 := Lib.hid hO.reads
  replace HW := Lib.hid (below_chV HW.out hbd)
  clear hb hbd hof15 hO
  obtain ⟨wc, rfl⟩ : ∃ wc : World, wc = wd := ⟨_, rfl⟩
  have hr16 : RIv (wc.alloc (.cells #[.int .i64 1, .int .i64 0] 3)) (intsP [(1, 0)]) (.slice (some ⟨wc.heap.size, 0, none⟩) 2 2) := ints_new wc [1, 0] _ (by simp)
  have hof16 := lawOf_any [(1, 0)] _ _ hr16 (by simp)
  go_wp2_with fail
  refine hof16.mono ?_
  rintro e wd ⟨u16, b16, rfl, hO, hb⟩
  have hbd : Below wc.heap.size wc wd := below_chV ((Below.refl _ _).alloc (Nat.le_refl _) _) hb
  obtain ⟨A16, n16, c16, rfl⟩ := hO.reads.form
  have R16 := Lib.hid hO.reads
  replace R15 := Lib.hid (R15.out.below hbd)
  replace HW := Lib.hid (below_chV HW.out hbd)
  clear hb hbd hof16 hr16 hO
  obtain ⟨wc, rfl⟩ : ∃ wc : World, wc = wd := ⟨_, rfl⟩
  have hc := leq_any [] [(1, 0)] _ _ wc R15.out R16.out
  rw [show leqL [] [(1, 0)] = true by decide] at hc
  go_wp2_with fail
  refine hc.mono ?_
  rintro e wd ⟨rfl, hb⟩
  replace HW := Lib.hid (below_chV HW.out hb)
  clear hc hb R15 R16
  obtain ⟨wc, rfl⟩ : ∃ wc : World, wc = wd := ⟨_, rfl⟩
  have hr17 : RIv (wc.alloc (.cells #[.int .i64 1, .int .i64 0] 3)) (intsP [(1, 0)]) (.slice (some ⟨wc.heap.size, 0, none⟩) 2 2) := ints_new wc [1, 0] _ (by simp)
  have hof17 := lawOf_any [(1, 0)] _ _ hr17 (by simp)
  go_wp2_with fail
  refine hof17.mono ?_
  rintro e wd ⟨u17, b17, rfl, hO, hb⟩
  have hbd : Below wc.heap.size wc wd := below_chV ((Below.refl _ _).alloc (Nat.le_refl _) _) hb
  obtain ⟨A17, n17, c17, rfl⟩ := hO.reads.form
  have R17 := Lib.hid hO.reads
  replace HW := Lib.hid (below_chV HW.out hbd)
  clear hb hbd hof17 hr17 hO
  obtain ⟨wc, rfl⟩ : ∃ wc : World, wc = wd := ⟨_, rfl⟩
  have hr18 : RIv (wc.alloc (.cells #[.int .i64 2, .int .i64 0] 3)) (intsP [(2, 0)]) (.slice (some ⟨wc.heap.size, 0, none⟩) 2 2) := ints_new wc [2, 0] _ (by simp)
  have hof18 := lawOf_any [(2, 0)] _ _ hr18 (by simp)
  go_wp2_with fail
  refine hof18.mono ?_
  rintro e wd ⟨u18, b18, rfl, hO, hb⟩
  have hbd : Below wc.heap.size wc wd := below_chV ((Below.refl _ _).alloc (Nat.le_refl _) _) hb
  obtain ⟨A18, n18, c18, rfl⟩ := hO.reads.form
  have R18 := Lib.hid hO.reads
  replace R17 := Lib.hid (R17.out.below hbd)
  replace HW := Lib.hid (below_chV HW.out hbd)
  clear hb hbd hof18 hr18 hO
  obtain ⟨wc, rfl⟩ : ∃ wc : World, wc = wd := ⟨_, rfl⟩
  have hc := lsame_any [(1, 0)] [(2, 0)] _ _ wc R17.out R18.out
  rw [show decide (nfP [((1 : Int), (0 : Int))] = nfP [(2, 0)]) = false by decide] at hc
  go_wp2_with fail
  refine hc.mono ?_
  rintro e wd ⟨rfl, hb⟩
  replace HW := Lib.hid (below_chV HW.out hb)
  clear hc hb R17 R18
  obtain ⟨wc, rfl⟩ : ∃ wc : World, wc = wd := ⟨_, rfl⟩
  go_wp2_with fail
  go_ret
  exact ⟨rfl, HW.out⟩

end Go.Proofs.Ytgegaipkfpdocaa
