/-
  THE WALK OF LevelDecides.
-/
import Derived.Test.YtgegaipkfpdocaaLawA
import Derived.IntWalk
import Derived.OwnWalk
namespace Go.Proofs.Ytgegaipkfpdocaa
open Go.RowKit Go.Maps
set_option linter.unusedSimpArgs false
set_option linter.unusedVariables false
set_option maxRecDepth 100000

theorem info_int : (Try.prog.info? 3).map (fun i => (i.zero, i.size, i.bytes)) = some (some (.int .i64 0), 1, 8) := by kernel_rfl
theorem zeros200 : (madeCells (Value.int .i64 0).cells (200 * 1)).toList = (List.replicate 200 (0 : Int)).map (Value.int .i64) := by kernel_rfl
theorem RIv_own' {w : World} {B : Nat} {xs : List Int} {v : Value} {n : Nat} (hn : n = xs.length) (hown : w.ownsRow B 3 1 v n (xs.map (Value.int .i64))) (hm : xs.length ≤ 17592186044416) : RIv w xs v := by
  subst hn
  obtain ⟨A, c, rfl, h1, h2, h3⟩ := own_form hown
  refine ⟨A, c, rfl, h1, hm, fun hp => ?_⟩
  obtain ⟨b, rfl, hj⟩ := h3 hp
  exact ⟨b, 0, rfl, fun i x hi => by rw [Nat.zero_add]; exact hj i _ (by simp [hi])⟩
theorem bigAt_map (v : Nat) : ((List.replicate 200 (0 : Int)).map (Value.int .i64)).set v (.int .i64 524288) = (bigAt v).map (Value.int .i64) := by
  unfold bigAt
  rw [List.map_set]

theorem zero_at {w : World} {B g k : Nat} (h : w.ownsRow B 3 1 (.slice (some ⟨g, 0, none⟩) 200 200) 200 ((List.replicate 200 (0 : Int)).map (Value.int .i64))) (hk : k < 200) : w.cell? ⟨g, k, none⟩ = some (.int .i64 0) := by
  rw [h.cellAt k (by omega), List.getElem?_map, List.getElem?_replicate, if_pos hk]; rfl
/-- A call whose value does not hang on the world. -/
abbrev Fixed (WX : World) (f : FuncId) (args : Array Value) (v : Value) : Prop := ∀ W', Below WX.heap.size WX W' → Calls Try.prog f args W' fun e w' => e = .returned v ∧ Below WX.heap.size WX w'
theorem Fixed.mk {WX : World} {f : FuncId} {args : Array Value} {v : Value} (h : ∀ W', Below WX.heap.size WX W' → Calls Try.prog f args W' fun e w' => e = .returned v ∧ Below W'.heap.size W' w') : Fixed WX f args v :=
  fun W' hb => (h W' hb).mono fun e w' ⟨he, hb'⟩ => ⟨he, hb.trans (hb'.mono hb.size)⟩

set_option maxHeartbeats 4000000 in
theorem decides_any (a b : Lv) (ns : List Int) (va vb nv : Value) (W : World) (ha : RPv W a va) (hb : RPv W b vb) (hn : RIv W ns nv) :
    Calls Try.prog 3 #[.agg #[va], .agg #[vb], nv] W fun e w' => e = .returned (.bool true) ∧ Below W.heap.size W w' := by
  obtain ⟨w0, hw0⟩ : ∃ w0, (W.alloc (.cells #[va] 24)).alloc (.cells #[vb] 24) = w0 := ⟨_, rfl⟩
  have hb0 : Below W.heap.size W w0 := by rw [← hw0]; exact ((Below.refl _ _).alloc (Nat.le_refl _) _).alloc (by simp) _
  have B0 : Box w0 W.heap.size [va] := by rw [← hw0]; exact (Box.new W [_] _).alloc _
  have B1 : Box w0 (W.heap.size + 1) [vb] := by rw [← hw0]; exact Box.new' _ [_] _ (by simp)
  have HA0 := Lib.hid (ha.below hb0)
  have HB0 := Lib.hid (hb.below hb0)
  have HN0 := Lib.hid (hn.below hb0)
  obtain ⟨A1, n1, c1, rfl⟩ := ha.form
  obtain ⟨A2, n2, c2, rfl⟩ := hb.form
  obtain ⟨A3, c3, rfl, hc3, hl3, -⟩ := hn
  generalize hnn : ns.length = m at *
  have HNN := Lib.hid hnn
  have HQ0 := Lib.hid B0
  have HQ1 := Lib.hid B1
  have haw := lawAwake_any w0
  clear hnn ha hb B0 B1
  go_enter Try.func3, Try.ntmps3
  go_wp2_with fail
  refine haw.mono ?_
  rintro e w1 ⟨rfl, hb1⟩
  have HW1 := Lib.hid (below_chV hb0 hb1)
  have HA1 := Lib.hid (HA0.out.below hb1)
  have HB1 := Lib.hid (HB0.out.below hb1)
  have HN1 := Lib.hid (HN0.out.below hb1)
  have R0 := HQ0.out.below hb1
  have R1 := HQ1.out.below hb1
  have q0 := R0.cell (j := 0) rfl
  have q1 := R1.cell (j := 0) rfl
  obtain ⟨w2, hw2⟩ : ∃ w2, w1.alloc (.cells #[.slice A1 n1 c1, .slice A2 n2 c2] 24) = w2 := ⟨_, rfl⟩
  have hb2 : Below w1.heap.size w1 w2 := by rw [← hw2]; exact (Below.refl _ _).alloc (Nat.le_refl _) _
  have hL : RLv w2 [a, b] (.slice (some ⟨w1.heap.size, 0, none⟩) 2 2) := by rw [← hw2]; exact levels_two w1 HA1.out HB1.out _
  have HGR := Lib.hid (great_any _ _ w2 hL)
  have S0 := R0.below hb2
  have S1 := R1.below hb2
  have HS0 := Lib.hid S0
  have HS1 := Lib.hid S1
  have HA2 := Lib.hid (HA1.out.below hb2)
  have HB2 := Lib.hid (HB1.out.below hb2)
  have HN2 := Lib.hid (HN1.out.below hb2)
  have HW2 := Lib.hid (below_chV HW1.out hb2)
  generalize decide (60 < lvsOf 60 0 [a, b]) = g at *
  clear HA0 HB0 HN0 HQ0 HQ1 hb0 hb1 haw hL S0 S1 R0 R1 HA1 HB1 HN1 HW1 hb2 hw0
  have HSA := Lib.hid (fun W' (h : Below w2.heap.size w2 W') => small_any a _ W' (HA2.out.below h))
  have HSB := Lib.hid (fun W' (h : Below w2.heap.size w2 W') => small_any b _ W' (HB2.out.below h))
  generalize hsa : smallB a = sa at *
  generalize hsb : smallB b = sb at *
  have HSAE := Lib.hid hsa
  have HSBE := Lib.hid hsb
  clear hsa hsb
  go_wp2_with fail
  refine HGR.out.mono ?_
  rintro e w3 ⟨rfl, hb3⟩
  have HW3 := Lib.hid (below_chV HW2.out hb3)
  have r0 := (HS0.out.below hb3).cell (j := 0) rfl
  clear q0 q1 hw2 HGR
  cases g with
  | true =>
    go_wp2_with fail
    go_ret
    exact ⟨rfl, HW3.out⟩
  | false =>
    go_wp2_with fail
    refine (HSA.out w3 hb3).mono ?_
    rintro e w4 ⟨rfl, hb4⟩
    have HW4 := Lib.hid (below_chV HW3.out hb4)
    have hb24 : Below w2.heap.size w2 w4 := below_chV hb3 hb4
    have r1 := (HS1.out.below hb24).cell (j := 0) rfl
    clear r0 hb4 hb3 HSA
    cases sa with
    | false =>
      go_wp2_with fail
      go_ret
      exact ⟨rfl, HW4.out⟩
    | true =>
      go_wp2_with fail
      refine (HSB.out w4 hb24).mono ?_
      rintro e w5 ⟨rfl, hb5⟩
      have HW5 := Lib.hid (below_chV HW4.out hb5)
      have HB5 := Lib.hid (below_chV hb24 hb5)
      clear r1 hb5 hb24 HSB
      cases sb with
      | false =>
        go_wp2_with fail
        go_ret
        exact ⟨rfl, HW5.out⟩
      | true =>
        by_cases hm : 60 < m
        · have hm' : (60 : Int) < (m : Int) := by omega
          go_wp2_with fail
          go_ret
          exact ⟨rfl, HW5.out⟩
        · have hm' : ¬ (60 : Int) < (m : Int) := by omega
          have hSa := Lib.hid (smallB_iff.1 HSAE.out)
          have hSb := Lib.hid (smallB_iff.1 HSBE.out)
          have HA5 := Lib.hid (HA2.out.below HB5.out)
          have HB5' := Lib.hid (HB2.out.below HB5.out)
          have HN5 := Lib.hid (HN2.out.below HB5.out)
          have T0 := HS0.out.below HB5.out
          have T1 := HS1.out.below HB5.out
          have t0 := T0.cell (j := 0) rfl
          have t1 := T1.cell (j := 0) rfl
          have HT0 := Lib.hid T0
          have HT1 := Lib.hid T1
          have hleq := leq_any a b _ _ w5 HA5.out HB5'.out
          clear T0 T1 HA2 HB2 HN2 HS0 HS1 HW2 HW3 HW4 HSAE HSBE HB5
          cases hl : leqL a b with
          | true =>
            rw [hl] at hleq
            have HL := Lib.hid (decides_yes hl ns)
            clear hl
            go_wp2_with fail
            refine hleq.mono ?_
            rintro e w6 ⟨rfl, hb6⟩
            have p0 : ∀ W', Below w6.heap.size w6 W' → W'.cell? ⟨W.heap.size, 0, none⟩ = some (.slice A1 n1 c1) := fun W' h => ((HT0.out.below hb6).below h).cell (j := 0) rfl
            have p1 : ∀ W', Below w6.heap.size w6 W' → W'.cell? ⟨W.heap.size + 1, 0, none⟩ = some (.slice A2 n2 c2) := fun W' h => ((HT1.out.below hb6).below h).cell (j := 0) rfl
            have hcA := Fixed.mk (WX := w6) (fun W' h => value_any a ns _ _ W' ((HA5.out.below hb6).below h) ((HN5.out.below hb6).below h))
            have hcB := Fixed.mk (WX := w6) (fun W' h => value_any b ns _ _ W' ((HB5'.out.below hb6).below h) ((HN5.out.below hb6).below h))
            have HW6 := Lib.hid (below_chV HW5.out hb6)
            generalize valL a ns = x at *
            generalize valL b ns = y at *
            have hxy := HL.out
            clear hleq t0 t1 hb6
            go_wp2_with fail
            refine wp_region_below w6 (by kernel_rfl) (by kernel_rfl) (Below.refl _ _) ?_
            repeat
              (refine wpQuiet_step (fun K hK => ?_)
               go_simp
               first
                 | (refine hK _ ?_; clear hK K)
                 | (apply Exists.intro
                    refine ⟨fun W' hW' => ?_, hK _ ?_⟩
                    (first | with_reducible exact hcA W' hW' | with_reducible exact hcB W' hW' | with_reducible rfl | (go_simp; rfl))
                    clear hK K))
            refine wpQuiet_nil ?_
            intro w7 hb7
            go_wp2_with fail
            go_ret
            exact ⟨rfl, below_chV HW6.out hb7⟩
          | false =>
            rw [hl] at hleq
            have HNO := Lib.hid (decides_no hSa.out hSb.out hl)
            clear hl
            go_wp2_with fail
            refine hleq.mono ?_
            rintro e w6 ⟨rfl, hb6⟩
            have HT6 := Lib.hid (HT0.out.below hb6)
            have HT7 := Lib.hid (HT1.out.below hb6)
            have HA6 := Lib.hid (HA5.out.below hb6)
            have HB6 := Lib.hid (HB5'.out.below hb6)
            have HW6 := Lib.hid (below_chV HW5.out hb6)
            clear hleq t0 t1 hb6 HT0 HT1 HA5 HB5' HN5
            have p0 : ∀ W', Below w6.heap.size w6 W' → W'.cell? ⟨W.heap.size, 0, none⟩ = some (.slice A1 n1 c1) := fun W' h => (HT6.out.below h).cell (j := 0) rfl
            have p1 : ∀ W', Below w6.heap.size w6 W' → W'.cell? ⟨W.heap.size + 1, 0, none⟩ = some (.slice A2 n2 c2) := fun W' h => (HT7.out.below h).cell (j := 0) rfl
            have hcA := Fixed.mk (WX := w6) (fun W' h => value_any a [] _ _ W' (HA6.out.below h) (RIv_none W'))
            have hcB := Fixed.mk (WX := w6) (fun W' h => value_any b [] _ _ W' (HB6.out.below h) (RIv_none W'))
            generalize valL a [] = x at *
            generalize valL b [] = y at *
            go_wp2_with fail
            refine wp_region_below w6 (by kernel_rfl) (by kernel_rfl) (Below.refl _ _) ?_
            repeat
              (refine wpQuiet_step (fun K hK => ?_)
               go_simp
               first
                 | (refine hK _ ?_; clear hK K)
                 | (apply Exists.intro
                    refine ⟨fun W' hW' => ?_, hK _ ?_⟩
                    (first | with_reducible exact hcA W' hW' | with_reducible exact hcB W' hW' | with_reducible rfl | (go_simp; rfl))
                    clear hK K))
            refine wpQuiet_nil ?_
            intro w7 hb7
            clear p0 p1 hcA hcB
            by_cases hxy : y < x
            · go_wp2_with fail
              go_ret
              exact ⟨rfl, below_chV HW6.out hb7⟩
            · have HNO2 : Hid (∃ v < 200, valL b (bigAt v) < valL a (bigAt v)) := HNO.out.resolve_left hxy
              clear HNO
              go_wp2_with fail
              clear hxy
              go_loopw [7] (fun i wr => ∃ k : Nat, k ≤ 200 ∧ i = .int .i64 k ∧ Hid (∀ v < k, ¬ valL b (bigAt v) < valL a (bigAt v)) ∧ Below w6.heap.size w6 wr) (fun i _ => 200 - (RowKit.intOf i).toNat)
              case atStart => exact ⟨0, by omega, rfl, Lib.hid (fun v hv => by omega), hb7⟩
              case round =>
                obtain ⟨k, hk, rfl, hK, hb8⟩ := hrel
                have hsz := hb8.size
                by_cases hlt : k < 200
                · have h1 : (k : Int) < (200 : Int) := by omega
                  have h0 : (0 : Int) ≤ (k : Int) := by omega
                  obtain ⟨i0, hi, hz0, hz1, hz2⟩ := info_parts info_int
                  go_wp2_with (at_make; refine wpList_make_full _ rfl _ _ 25 rfl w6.heap.size 3 i0 _ 1 Try.underlying25 hi hz0 hz1 .i64 .i64 200 200 200 rfl rfl rfl rfl (by rw [hz2]; omega) (by unfold maxLen; omega) hsz ?_; intro w8 hown8 hg8; rw [zeros200] at hown8; have z0 := zero_at hown8 hlt; have z1 := hown8.frozenAt k)
                  have hst := hown8.stored k (.int .i64 524288)
                  rw [bigAt_map] at hst
                  obtain ⟨w9, hw9⟩ : ∃ w9, w8.setCell ⟨wr.heap.size, k, none⟩ (.int .i64 524288) = w9 := ⟨_, rfl⟩
                  rw [hw9] at hst ⊢
                  have hb9 : Below w6.heap.size w6 w9 := (hb8.grown hg8 hsz (fun j e => by cases e)).grown hst.2 (by have := hg8.size; omega) (fun j e => by injection e with e; omega)
                  have HR9 := Lib.hid (RIv_own' (by simp [bigAt]) hst.1 (by simp [bigAt]))
                  clear hst hown8 hg8 z0 z1 hw9
                  have p0 : ∀ W', Below w9.heap.size w9 W' → W'.cell? ⟨W.heap.size, 0, none⟩ = some (.slice A1 n1 c1) := fun W' h => ((HT6.out.below hb9).below h).cell (j := 0) rfl
                  have p1 : ∀ W', Below w9.heap.size w9 W' → W'.cell? ⟨W.heap.size + 1, 0, none⟩ = some (.slice A2 n2 c2) := fun W' h => ((HT7.out.below hb9).below h).cell (j := 0) rfl
                  have hcA := Fixed.mk (WX := w9) (fun W' h => value_any a (bigAt k) _ _ W' ((HA6.out.below hb9).below h) (HR9.out.below h))
                  have hcB := Fixed.mk (WX := w9) (fun W' h => value_any b (bigAt k) _ _ W' ((HB6.out.below hb9).below h) (HR9.out.below h))
                  have HK : Hid (∀ x y : Int, valL a (bigAt k) = x → valL b (bigAt k) = y → ¬ y < x → ∀ v < k + 1, ¬ valL b (bigAt v) < valL a (bigAt v)) := Lib.hid fun x y ex ey hxy v hv => by
                    by_cases hvk : v = k
                    · subst hvk; rw [ex, ey]; exact hxy
                    · have hq := hK.out v (by omega); omega
                  generalize hx : valL a (bigAt k) = x2 at *
                  generalize hy : valL b (bigAt k) = y2 at *
                  have HK2 := Lib.hid (HK.out x2 y2 rfl rfl)
                  clear HK hx hy hK
                  refine wp_region_below w9 (by kernel_rfl) (by kernel_rfl) (Below.refl _ _) ?_
                  repeat
                    (refine wpQuiet_step (fun K hK => ?_)
                     go_simp
                     first
                       | (refine hK _ ?_; clear hK K)
                       | (apply Exists.intro
                          refine ⟨fun W' hW' => ?_, hK _ ?_⟩
                          (first | with_reducible exact hcA W' hW' | with_reducible exact hcB W' hW' | with_reducible rfl | (go_simp; rfl))
                          clear hK K))
                  refine wpQuiet_nil ?_
                  intro w10 hb10
                  have hb11 : Below w6.heap.size w6 w10 := below_chV hb9 hb10
                  clear p0 p1 hcA hcB hb9 hb10
                  by_cases hxy2 : y2 < x2
                  · go_wp2_with fail
                    go_ret
                    exact ⟨rfl, below_chV HW6.out hb11⟩
                  · have HK3 := Lib.hid (HK2.out hxy2)
                    go_wp2_with fail
                    go_roundw
                    case rel => exact ⟨k + 1, by omega, by go_num, HK3, hb11⟩
                    case measure => simp [RowKit.intOf]; omega
                · obtain rfl : k = 200 := by omega
                  exfalso
                  obtain ⟨v, hv, h⟩ := HNO2.out
                  have hq := hK.out v hv
                  omega

end Go.Proofs.Ytgegaipkfpdocaa
