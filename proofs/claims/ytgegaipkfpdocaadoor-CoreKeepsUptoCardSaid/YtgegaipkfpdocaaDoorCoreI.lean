/-
  THE WALKS OF spandrellaw05: v, of, awake.
  THE WALKS OF Deep AND OF spandrellaw05.great: that they tell something.
-/
import Derived.Test.YtgegaipkfpdocaaDoorCoreH
import Derived.Test.YtgegaipkfpdocaaDoorLawH
namespace Go.Proofs.YtgegaipkfpdocaaDoor
open Go.RowKit
set_option linter.unusedSimpArgs false
set_option linter.unusedVariables false
set_option maxRecDepth 100000

theorem v5_any (n : Int) (w : World) : Calls Tryd.prog 22 #[.int .i64 n] w (GivesT (.node 1 n 0 [] []) w) := by
  generalize hw1 : w.alloc (.cells #[.int .i64 0, .int .i64 0, .int .i64 0, .slice none 0 0, .slice none 0 0] 27) = w1
  have B : Box w1 w.heap.size [.int .i64 0, .int .i64 0, .int .i64 0, .slice none 0 0, .slice none 0 0] := by rw [← hw1]; exact Box.new w [_, _, _, _, _] _
  have b1 : Below w.heap.size w w1 := by rw [← hw1]; exact (Below.refl _ _).alloc (Nat.le_refl _) _
  obtain ⟨s0, s1, s2, s3, s4⟩ := B.five
  obtain ⟨r0, r1, r2, r3, r4⟩ := B.thaw
  have HW := Lib.hid hw1
  go_enter Tryd.func22, Tryd.ntmps22
  go_wp2_with fail
  obtain ⟨wf, ewf, F, hmv, hbf⟩ := put5 B (.int .i64 1) (.int .i64 n) (.int .i64 0) (.slice none 0 0) (.slice none 0 0)
  rw [ewf]
  obtain ⟨z0, z1, z2, z3, z4⟩ := F.five
  refine bodyPost_ret (v := .agg #[.int .i64 1, .int .i64 n, .int .i64 0, .slice none 0 0, .slice none 0 0]) (by simp [results, Tryd.results22, go_sem, z0, z1, z2, z3, z4]) rfl ?_
  exact ⟨_, _, _, _, _, _, rfl, (RT_iff _ _ _ _ _ _ _ _).2 ⟨RLv_nil _, RKv_nil _⟩, b1.trans hbf⟩

theorem of5_any (k : Int) (ks : List Tm) (vk : Value) (w : World) (hk : RKv w ks vk) : Calls Tryd.prog 21 #[.int .i64 k, vk] w (GivesT (.node k 0 0 [] ks) w) := by
  obtain ⟨A2, c2, e2, _⟩ := id hk
  generalize ks.length = n2 at *
  subst e2
  have HK := Lib.hid hk
  clear hk
  generalize hw1 : w.alloc (.cells #[.int .i64 0, .int .i64 0, .int .i64 0, .slice none 0 0, .slice none 0 0] 27) = w1
  have B : Box w1 w.heap.size [.int .i64 0, .int .i64 0, .int .i64 0, .slice none 0 0, .slice none 0 0] := by rw [← hw1]; exact Box.new w [_, _, _, _, _] _
  have b1 : Below w.heap.size w w1 := by rw [← hw1]; exact (Below.refl _ _).alloc (Nat.le_refl _) _
  obtain ⟨s0, s1, s2, s3, s4⟩ := B.five
  obtain ⟨r0, r1, r2, r3, r4⟩ := B.thaw
  have HW := Lib.hid hw1
  go_enter Tryd.func21, Tryd.ntmps21
  go_wp2_with fail
  obtain ⟨wf, ewf, F, hmv, hbf⟩ := put5 B (.int .i64 k) (.int .i64 0) (.int .i64 0) (.slice none 0 0) (.slice A2 n2 c2)
  rw [ewf]
  obtain ⟨z0, z1, z2, z3, z4⟩ := F.five
  refine bodyPost_ret (v := .agg #[.int .i64 k, .int .i64 0, .int .i64 0, .slice none 0 0, .slice A2 n2 c2]) (by simp [results, Tryd.results21, go_sem, z0, z1, z2, z3, z4]) rfl ?_
  exact ⟨_, _, _, _, _, _, rfl, (RT_iff _ _ _ _ _ _ _ _).2 ⟨RLv_nil _, RKv.below (b1.trans hbf) HK.out⟩, b1.trans hbf⟩

theorem RIv_nil (w : World) : RIv w [] (.slice none 0 0) := ⟨none, 0, rfl, Nat.le_refl _, Nat.zero_le _, fun h => by simp at h⟩
abbrev idT : Tm := .node 5 0 0 [] [.node 22 2 0 [] [], .node 1 0 0 [] []]
theorem right_id : (decide ((0 : Int) ≤ 0 ∧ (0 : Int) ≤ 0) && coreB 0 [] 0 idT) = true := by decide +kernel
theorem right_v0 : (decide ((0 : Int) ≤ 0 ∧ (0 : Int) ≤ 0) && coreB 0 [] 0 (.node 1 0 0 [] [])) = false := by decide +kernel
theorem right_v1 : (decide ((0 : Int) ≤ 0 ∧ (0 : Int) ≤ 1) && coreB 0 [] 1 (.node 1 0 0 [] [])) = true := by decide +kernel

theorem awake5_any (w : World) (hK : Kinds w) : Calls Tryd.prog 5 #[] w fun e w' => e = .returned (.bool true) ∧ Below w.heap.size w w' := by
  go_enter Tryd.func5, Tryd.ntmps5
  go_wp2_with fail
  refine (v5_any 0 w).mono ?_
  rintro e w1 ⟨A, n, c, A', n', c', rfl, g1, hb1⟩
  go_wp2_with fail
  refine (of5_any 5 [.node 22 2 0 [] [], .node 1 0 0 [] []] _ _ (RKv_two (Box.new _ [_, _, _, _, _, _, _, _, _, _] _) (RT_leaf _ _ _ _) (RT.below ((Below.refl _ _).alloc (Nat.le_refl _) _) g1) 2 (Nat.le_refl _))).mono ?_
  rintro e w2 ⟨A2, n2, c2, A2', n2', c2', rfl, g2, hb2⟩
  have hb02 : Below w.heap.size w w2 := below_ch (below_ch hb1 ((Below.refl _ _).alloc (Nat.le_refl _) _)) hb2
  clear hb1 hb2 g1
  have hr1 := fun W (hb : Below w2.heap.size w2 W) => right_core 0 0 [] idT _ _ _ W (hK.below (below_ch hb02 hb)) (RT.below hb g2) (RIv_nil W) (by simp only [idT, size, sizeL]; omega)
  simp only [right_id] at hr1
  have HR1 := Lib.hid hr1
  clear hr1 g2
  go_wp2_with fail
  refine (HR1.out _ ((Below.refl _ _).alloc (Nat.le_refl _) _)).mono ?_
  rintro e w3 ⟨rfl, hb3⟩
  have hb03 : Below w.heap.size w w3 := below_ch (below_ch hb02 ((Below.refl _ _).alloc (Nat.le_refl _) _)) hb3
  clear hb3 HR1 hb02
  go_wp2_with fail
  refine (v5_any 0 w3).mono ?_
  rintro e w4 ⟨A3, n3, c3, A3', n3', c3', rfl, g4, hb4⟩
  have hb04 : Below w.heap.size w w4 := below_ch hb03 hb4
  clear hb4 hb03
  have hr2 := right_core 0 0 [] (.node 1 0 0 [] []) _ _ _ w4 (hK.below hb04) g4 (RIv_nil w4) (by simp only [size, sizeL]; omega)
  simp only [right_v0] at hr2
  have HR2 := Lib.hid hr2
  clear hr2 g4
  go_wp2_with fail
  refine HR2.out.mono ?_
  rintro e w5 ⟨rfl, hb5⟩
  have hb05 : Below w.heap.size w w5 := below_ch hb04 hb5
  clear hb5 hb04 HR2
  go_wp2_with fail
  refine (v5_any 0 w5).mono ?_
  rintro e w6 ⟨A4, n4, c4, A4', n4', c4', rfl, g6, hb6⟩
  have hb06 : Below w.heap.size w w6 := below_ch hb05 hb6
  clear hb6 hb05
  have hr3 := right_core 0 1 [] (.node 1 0 0 [] []) _ _ _ w6 (hK.below hb06) g6 (RIv_nil w6) (by simp only [size, sizeL]; omega)
  simp only [right_v1] at hr3
  have HR3 := Lib.hid hr3
  clear hr3 g6
  go_wp2_with fail
  refine HR3.out.mono ?_
  rintro e w7 ⟨rfl, hb7⟩
  have hb07 : Below w.heap.size w w7 := below_ch hb06 hb7
  clear hb7 hb06 HR3
  go_wp2_with fail
  go_ret
  exact ⟨rfl, hb07⟩

open Go.RowKit
set_option linter.unusedSimpArgs false
set_option linter.unusedVariables false
set_option maxRecDepth 100000

/-- A call tells a number; nothing that lay has turned. -/
def SomeInt (w : World) (e : Ending) (w' : World) : Prop := ∃ r : Int, e = .returned (.int .i64 r) ∧ Below w.heap.size w w'
def DeepAt (M : Nat) : Prop := ∀ (t : Tm) (q : Int) (vl vk : Value) (W : World), size t ≤ M → RT W t vl vk →
    Calls Tryd.prog 23 #[.agg #[.int .i64 t.kind, .int .i64 t.num, .int .i64 t.atN, vl, vk], .int .i64 q] W (SomeInt W)

set_option maxHeartbeats 2000000 in
theorem deep_step (M : Nat) (IH : DeepAt M) : DeepAt (M + 1) := by
  intro t q vl vk W hM ht
  obtain ⟨k, m, a, ls, ks⟩ := t
  rw [RT_iff] at ht
  obtain ⟨hls, A2, c2, rfl, hk1, hk2, hk3⟩ := ht
  simp only [Tm.kind, Tm.num, Tm.atN, size] at hM ⊢
  obtain ⟨A1, n1, c1, rfl⟩ : ∃ A n c, vl = .slice A n c := by obtain ⟨A, c, e, _⟩ := hls; exact ⟨A, _, c, e⟩
  have HK := Lib.hid hk3
  clear hk3 hls
  generalize hln : ks.length = n2 at *
  have HLN := Lib.hid hln
  clear hln
  go_enter Tryd.func23, Tryd.ntmps23
  go_wp2_with fail
  generalize hw0 : W.alloc (.cells #[.int .i64 k, .int .i64 m, .int .i64 a, .slice A1 n1 c1, .slice A2 n2 c2] 27) = w0
  have B0 : Box w0 W.heap.size [.int .i64 k, .int .i64 m, .int .i64 a, .slice A1 n1 c1, .slice A2 n2 c2] := by rw [← hw0]; exact Box.new W [_, _, _, _, _] _
  have hb0 : Below W.heap.size W w0 := by rw [← hw0]; exact (Below.refl _ _).alloc (Nat.le_refl _) _
  have q4 := B0.cell (j := 4) rfl
  clear hw0 B0
  go_loopw [5, 6] (fun x i wr => ∃ (j : Nat) (r : Int), j ≤ n2 ∧ i = .int .i64 j ∧ x = .int .i64 r ∧ Below w0.heap.size w0 wr) (fun _ i _ => n2 - (intOf i).toNat)
  case atStart => exact ⟨0, 0, Nat.zero_le _, rfl, rfl, Below.refl _ _⟩
  case round =>
    obtain ⟨j, r, hj, rfl, rfl, hb⟩ := hrel
    have hbr := below_ch hb0 hb
    have q4' := cell_below hb q4
    by_cases hlt : j < n2
    · have hlt' : (j : Int) < (n2 : Int) := by omega
      have hj0 : (0 : Int) ≤ (j : Int) := by omega
      by_cases hq : 0 < q
      · obtain ⟨b, o, rfl, hkk⟩ := HK.out (by omega)
        obtain ⟨x, hxj⟩ : ∃ x, ks[j]? = some x := ⟨_, List.getElem?_eq_getElem (by have := HLN.out; omega)⟩
        obtain ⟨xl, xk, x0, x1, x2, x3, x4, hRx⟩ := (hkk.below hbr).get hxj
        have hsz := size_at hxj
        have hcall := fun q' => IH x q' xl xk wr (by omega) hRx
        obtain ⟨A5, n5, c5, A6, n6, c6, rfl, rfl⟩ := hRx.forms
        have HC := Lib.hid hcall
        clear hcall hRx hkk hxj HK
        go_wp2_with fail
        refine (HC.out _).mono ?_
        rintro e w2 ⟨r2, rfl, hb2⟩
        have HB := Lib.hid (below_ch hb hb2)
        clear hb2 HC
        go_wp2_with fail
        all_goals
          go_roundw
          case rel => exact ⟨j + 1, _, by omega, by go_num, rfl, HB.out⟩
          case measure => simp [intOf]; omega
      · go_wp2_with fail
        go_ret
        exact ⟨_, rfl, hbr⟩
    · obtain rfl : j = n2 := by omega
      go_wp2_with fail
      go_ret
      exact ⟨_, rfl, hbr⟩
theorem deep_all : ∀ M, DeepAt M
  | 0 => fun t _ _ _ _ h => by have := size_pos t; omega
  | M + 1 => deep_step M (deep_all M)

theorem great5_any (ts : List Tm) (v : Value) (w : World) (hv : RKv w ts v) (hd : depthL ts ≤ 1000000000) :
    Calls Tryd.prog 6 #[v] w fun e w' => (∃ r : Bool, e = .returned (.bool r)) ∧ Below w.heap.size w w' := by
  have hterms := fun W (h : Below w.heap.size w W) => termsOf_any ts v 3000 W (hv.below h) (by omega) (by omega) hd
  obtain ⟨A, c, rfl, h1, h2, h3⟩ := hv
  generalize hnn : ts.length = n at *
  have HN := Lib.hid hnn
  have HX := Lib.hid h3
  have HT := Lib.hid hterms
  clear hnn h3 hterms
  go_enter Tryd.func6, Tryd.ntmps6
  go_wp2_with fail
  go_loopw [3] (fun i wr => ∃ (j : Nat), j ≤ n ∧ i = .int .i64 j ∧ Below w.heap.size w wr) (fun i _ => n - (intOf i).toNat)
  case atStart => exact ⟨0, Nat.zero_le _, rfl, Below.refl _ _⟩
  case round =>
    obtain ⟨j, hj, rfl, hb⟩ := hrel
    by_cases hlt : j < n
    · have hlt' : (j : Int) < (n : Int) := by omega
      have hj0 : (0 : Int) ≤ (j : Int) := by omega
      obtain ⟨b, o, rfl, hkk⟩ := HX.out (by omega)
      obtain ⟨x, hxj⟩ : ∃ x, ts[j]? = some x := ⟨_, List.getElem?_eq_getElem (by have := HN.out; omega)⟩
      obtain ⟨xl, xk, x0, x1, x2, x3, x4, hRx⟩ := (hkk.below hb).get hxj
      have hcall := deep_all (size x) x 400 xl xk wr (Nat.le_refl _) hRx
      obtain ⟨A5, n5, c5, A6, n6, c6, rfl, rfl⟩ := hRx.forms
      have HC := Lib.hid hcall
      clear hcall hRx hkk hxj HX HT
      go_wp2_with fail
      refine HC.out.mono ?_
      rintro e w2 ⟨r2, rfl, hb2⟩
      have HB := Lib.hid (below_ch hb hb2)
      clear hb2 HC
      by_cases hr : 400 < r2
      · go_wp2_with fail
        go_ret
        exact ⟨⟨_, rfl⟩, HB.out⟩
      · go_wp2_with fail
        go_roundw
        case rel => exact ⟨j + 1, by omega, by go_num, HB.out⟩
        case measure => simp [intOf]; omega
    · obtain rfl : j = n := by omega
      have hcall := HT.out wr hb
      clear HX HT
      go_wp2_with fail
      refine hcall.mono ?_
      rintro e w2 ⟨rfl, hb2⟩
      have HB := Lib.hid (below_ch hb hb2)
      clear hb2 hcall
      go_wp2_with fail
      go_ret
      exact ⟨⟨_, rfl⟩, HB.out⟩

end Go.Proofs.YtgegaipkfpdocaaDoor
