/-
  LevelOrders: the end of its region 17. Printed by gen_ord.py.
-/
import Derived.Test.YtgegaipkfpdocaaOrdP
namespace Go.Proofs.Ytgegaipkfpdocaa
open Go.RowKit Go.Maps
set_option linter.unusedSimpArgs false
set_option linter.unusedVariables false
set_option maxRecDepth 100000

theorem ints35 (w : World) : RIv (w.alloc (.cells #[.int .i64 3, .int .i64 5] 3)) [3, 5] (.slice (some ⟨w.heap.size, 0, none⟩) 2 2) := ints_new w [3, 5] 3 (by simp)
set_option maxHeartbeats 64000000 in
theorem ord17b (N : Nat) (a b : Lv) (A1 A2 A4 : Option Addr) (n1 c1 n2 c2 nl c4 : Nat) (m p q : Nat) (Am Ap Aq : Option Addr) (nm cm np cp nq cq : Nat) (x y : Int) (wc w1 : World) (u0 u1 u2 u7 u8 u9 u10 u11 u15 u16 u17 u18 u19 u20 u21 u22 u23 u24 u25 u26 u27 u28 u29 u30 u31 u32 u33 u34 u35 u36 u37 u38 u39 u40 u41 u42 u43 u44 u45 u46 u47 u48 u49 u50 u51 u52 u53 u54 u55 u56 u57 u58 u59 u60 u61 u62 u63 u64 u65 u66 u67 u68 u69 u70 u71 u72 u73 u74 u75 u76 u77 u78 u79 u80 u81 u82 u83 u84 u85 u86 u87 u88 u89 u90 u91 u92 u93 u94 u95 u96 u97 u98 u99 u100 u101 u102 u103 u104 u105 u106 u107 u108 u109 u110 u111 u112 u113 u114 u115 u116 u117 u118 u119 u120 u121 u122 u123 u124 u125 u126 u127 u128 u129 u130 u131 u132 u133 u134 u135 u136 u137 u138 u139 u140 u141 u142 u143 u144 u145 u146 u147 u148 u149 u150 u151 u152 u153 u154 u155 u156 u157 u158 u159 u160 u161 u162 u163 u164 u165 u166 u167 u168 u169 u170 u172 u173 u174 u175 u176 u177 u178 u179 u180 u181 u182 u183 : Value)
    (HS0 : Hid (∀ W', Below wc.heap.size wc W' → W'.cell? ⟨N, 0, none⟩ = some (.slice A1 n1 c1) ∧ W'.cell? ⟨N + 1, 0, none⟩ = some (.slice A2 n2 c2) ∧ W'.cell? ⟨m, 0, none⟩ = some (.slice Am nm cm) ∧ W'.cell? ⟨p, 0, none⟩ = some (.slice Ap np cp) ∧ W'.cell? ⟨q, 0, none⟩ = some (.slice Aq nq cq))) (HBW : Hid (Below wc.heap.size wc w1)) (FA : Hid (RPv w1 a (.slice A1 n1 c1))) (FB : Hid (RPv w1 b (.slice A2 n2 c2))) (FM : Hid (RPv w1 (nfP (a ++ b)) (.slice Am nm cm)))
    (CVM : Hid (∀ W v, RPv W (nfP (a ++ b)) (.slice Am nm cm) → RIv W [3, 5] v → Calls Try.prog 9 #[.agg #[(.slice Am nm cm)], v] W (fun e w' => e = .returned (.int .i64 (max x y)) ∧ Below W.heap.size W w'))) (CVA : Hid (∀ W v, RPv W a (.slice A1 n1 c1) → RIv W [3, 5] v → Calls Try.prog 9 #[.agg #[(.slice A1 n1 c1)], v] W (fun e w' => e = .returned (.int .i64 x) ∧ Below W.heap.size W w'))) (CVB : Hid (∀ W v, RPv W b (.slice A2 n2 c2) → RIv W [3, 5] v → Calls Try.prog 9 #[.agg #[(.slice A2 n2 c2)], v] W (fun e w' => e = .returned (.int .i64 y) ∧ Below W.heap.size W w')))
    (ops : Array Oper) (hops : Try.f4.body.bind (codeAtO 17) = some (.region 17 ops true)) (listed : Array Bool) (hl : listed = #[true, true, true, true, true, true, true, true, true, true, true, true, true, true, true, true, true, true, false, false, false, false, false, false, false, false, false, false, false, false, false]) (K : Act → World → Prop)
    (HQ : Hid (∀ v172 v173 v174 v175 v176 v177 v178 v179 v180 v181 v182 v183 w', Below wc.heap.size wc w' → K { tmps := List.toArray [u0, u1, u2, .slice A4 nl c4, .pointer (some ⟨N, 0, none⟩), .pointer (some ⟨N + 1, 0, none⟩), .pointer (some ⟨N + 2, 0, none⟩), u7, .bool true, u9, u10, u11, .pointer (some ⟨m, 0, none⟩), .pointer (some ⟨p, 0, none⟩), .pointer (some ⟨q, 0, none⟩), u15, u16, u17, u18, u19, u20, u21, u22, u23, u24, u25, u26, u27, u28, u29, u30, u31, u32, u33, u34, u35, u36, u37, u38, u39, u40, u41, u42, u43, u44, u45, u46, u47, u48, u49, u50, u51, u52, u53, u54, u55, u56, u57, u58, u59, u60, u61, u62, u63, u64, u65, u66, u67, u68, u69, u70, u71, u72, u73, u74, u75, u76, u77, u78, u79, u80, u81, u82, u83, u84, u85, u86, u87, u88, u89, u90, u91, u92, u93, u94, u95, u96, u97, u98, u99, u100, u101, u102, u103, u104, u105, u106, u107, u108, u109, u110, u111, u112, u113, u114, u115, u116, u117, u118, u119, u120, u121, u122, u123, u124, u125, u126, u127, u128, u129, u130, u131, u132, u133, u134, u135, u136, u137, u138, u139, u140, u141, u142, u143, u144, u145, u146, u147, u148, u149, u150, u151, u152, u153, u154, u155, u156, u157, u158, u159, u160, u161, u162, u163, u164, u165, u166, u167, u168, u169, u170, .bool true, v172, v173, v174, v175, v176, v177, v178, v179, v180, v181, v182, v183], defers := [] } w')) :
    wpAnyH Try.prog .any ops (Exit.then K fun _ _ _ => False) (fun w' => w'.cell? ⟨N, 0, none⟩ = some (.slice A1 n1 c1) ∧ w'.cell? ⟨N + 1, 0, none⟩ = some (.slice A2 n2 c2) ∧ w'.cell? ⟨m, 0, none⟩ = some (.slice Am nm cm) ∧ w'.cell? ⟨p, 0, none⟩ = some (.slice Ap np cp) ∧ w'.cell? ⟨q, 0, none⟩ = some (.slice Aq nq cq)) 13 listed { tmps := List.toArray [u0, u1, u2, .slice A4 nl c4, .pointer (some ⟨N, 0, none⟩), .pointer (some ⟨N + 1, 0, none⟩), .pointer (some ⟨N + 2, 0, none⟩), u7, u8, u9, u10, u11, .pointer (some ⟨m, 0, none⟩), .pointer (some ⟨p, 0, none⟩), .pointer (some ⟨q, 0, none⟩), u15, u16, u17, u18, u19, u20, u21, u22, u23, u24, u25, u26, u27, u28, u29, u30, u31, u32, u33, u34, u35, u36, u37, u38, u39, u40, u41, u42, u43, u44, u45, u46, u47, u48, u49, u50, u51, u52, u53, u54, u55, u56, u57, u58, u59, u60, u61, u62, u63, u64, u65, u66, u67, u68, u69, u70, u71, u72, u73, u74, u75, u76, u77, u78, u79, u80, u81, u82, u83, u84, u85, u86, u87, u88, u89, u90, u91, u92, u93, u94, u95, u96, u97, u98, u99, u100, u101, u102, u103, u104, u105, u106, u107, u108, u109, u110, u111, u112, u113, u114, u115, u116, u117, u118, u119, u120, u121, u122, u123, u124, u125, u126, u127, u128, u129, u130, u131, u132, u133, u134, u135, u136, u137, u138, u139, u140, u141, u142, u143, u144, u145, u146, u147, u148, u149, u150, u151, u152, u153, u154, u155, u156, u157, u158, u159, u160, u161, u162, u163, u164, u165, u166, u167, u168, u169, u170, .bool true, u172, u173, u174, u175, u176, u177, u178, u179, u180, u181, u182, u183], defers := [] } w1 := by
  simp only [Try.f4, codeAtO, Option.bind_some, Nat.reduceEqDiff, if_true, if_false, Option.some.injEq, Code.region.injEq, true_and, and_true] at hops
  subst hops hl
  have hHeld := HS0.out _ HBW.out
  refine wpAnyH_take (i := 18) (v := ?v1) rfl (by kernel_rfl) (by kernel_rfl) (by kernel_rfl) (fun _ _ _ h => h) (Or.inl ⟨by rfl, ?hy1⟩) (by assumption) ?rest1
  case hy1 => intro w hSw; (try dsimp only at hSw); go_simp; try with_reducible rfl
  (try simp only [List.getElem_toArray, List.getElem_cons_succ, List.getElem_cons_zero, Act.put, List.setIfInBounds_toArray, List.set_cons_zero, List.set_cons_succ, bne_self_eq_false])
  refine wpAnyH_take (i := 21) (v := ?v2) rfl (by kernel_rfl) (by kernel_rfl) (by kernel_rfl) (fun _ _ _ h => h) (Or.inl ⟨by rfl, ?hy2⟩) (by assumption) ?rest2
  case hy2 => intro w hSw; (try dsimp only at hSw); go_simp; try with_reducible rfl
  (try simp only [List.getElem_toArray, List.getElem_cons_succ, List.getElem_cons_zero, Act.put, List.setIfInBounds_toArray, List.set_cons_zero, List.set_cons_succ, bne_self_eq_false])
  refine wpAnyH_take (i := 24) (v := ?v3) rfl (by kernel_rfl) (by kernel_rfl) (by kernel_rfl) (fun _ _ _ h => h) (Or.inl ⟨by rfl, ?hy3⟩) (by assumption) ?rest3
  case hy3 => intro w hSw; (try dsimp only at hSw); go_simp; try with_reducible rfl
  (try simp only [List.getElem_toArray, List.getElem_cons_succ, List.getElem_cons_zero, Act.put, List.setIfInBounds_toArray, List.set_cons_zero, List.set_cons_succ, bne_self_eq_false])
  refine wpAnyH_ready (rs := [19, 22, 25]) (by kernel_rfl) (by simp) ?_
  refine (AllReadyH.cons rfl (fun K hK => ?_) (AllReadyH.cons rfl (fun K hK => ?_) (AllReadyH.cons rfl (fun K hK => ?_) AllReadyH.nil)))
  · skip
    go_simp
    have I19 := Lib.hid (ints35 w1)
    replace FA := Lib.hid (FA.out.below ((Below.refl _ _).alloc (Nat.le_refl _) (.cells #[.int .i64 3, .int .i64 5] 3)))
    replace FB := Lib.hid (FB.out.below ((Below.refl _ _).alloc (Nat.le_refl _) (.cells #[.int .i64 3, .int .i64 5] 3)))
    replace FM := Lib.hid (FM.out.below ((Below.refl _ _).alloc (Nat.le_refl _) (.cells #[.int .i64 3, .int .i64 5] 3)))
    replace HBW := Lib.hid (HBW.out.alloc HBW.out.size (.cells #[.int .i64 3, .int .i64 5] 3))
    refine hK.out _ _ (HS0.out _ HBW.out) (fun hHeld => ?_)
    clear hK K
    (try simp only [List.getElem_toArray, List.getElem_cons_succ, List.getElem_cons_zero, Act.put, List.setIfInBounds_toArray, List.set_cons_zero, List.set_cons_succ, bne_self_eq_false])
    generalize hwn4 : (w1.alloc (.cells #[.int .i64 3, .int .i64 5] 3)) = w4 at *
    clear hwn4
    refine wpAnyH_ready (rs := [20, 22, 25]) (by kernel_rfl) (by simp) ?_
    refine (AllReadyH.cons rfl (fun K hK => ?_) (AllReadyH.cons rfl (fun K hK => ?_) (AllReadyH.cons rfl (fun K hK => ?_) AllReadyH.nil)))
    · skip
      go_simp
      refine (CVM.out _ _ FM.out I19.out).mono ?_
      rintro e w5 ⟨rfl, hst⟩
      replace FA := Lib.hid (FA.out.below hst)
      replace FB := Lib.hid (FB.out.below hst)
      replace FM := Lib.hid (FM.out.below hst)
      replace I19 := Lib.hid (I19.out.below hst)
      replace HBW := Lib.hid (below_chV HBW.out hst)
      clear hst
      refine hK.out _ _ (HS0.out _ HBW.out) (fun hHeld => ?_)
      clear hK K
      (try simp only [List.getElem_toArray, List.getElem_cons_succ, List.getElem_cons_zero, Act.put, List.setIfInBounds_toArray, List.set_cons_zero, List.set_cons_succ, bne_self_eq_false])
      refine wpAnyH_ready (rs := [22, 25]) (by kernel_rfl) (by simp) ?_
      refine (AllReadyH.cons rfl (fun K hK => ?_) (AllReadyH.cons rfl (fun K hK => ?_) AllReadyH.nil))
      · skip
        go_simp
        have I22 := Lib.hid (ints35 w5)
        replace FA := Lib.hid (FA.out.below ((Below.refl _ _).alloc (Nat.le_refl _) (.cells #[.int .i64 3, .int .i64 5] 3)))
        replace FB := Lib.hid (FB.out.below ((Below.refl _ _).alloc (Nat.le_refl _) (.cells #[.int .i64 3, .int .i64 5] 3)))
        replace FM := Lib.hid (FM.out.below ((Below.refl _ _).alloc (Nat.le_refl _) (.cells #[.int .i64 3, .int .i64 5] 3)))
        replace I19 := Lib.hid (I19.out.below ((Below.refl _ _).alloc (Nat.le_refl _) (.cells #[.int .i64 3, .int .i64 5] 3)))
        replace HBW := Lib.hid (HBW.out.alloc HBW.out.size (.cells #[.int .i64 3, .int .i64 5] 3))
        refine hK.out _ _ (HS0.out _ HBW.out) (fun hHeld => ?_)
        clear hK K
        (try simp only [List.getElem_toArray, List.getElem_cons_succ, List.getElem_cons_zero, Act.put, List.setIfInBounds_toArray, List.set_cons_zero, List.set_cons_succ, bne_self_eq_false])
        generalize hwn6 : (w5.alloc (.cells #[.int .i64 3, .int .i64 5] 3)) = w6 at *
        clear hwn6
        refine wpAnyH_ready (rs := [23, 25]) (by kernel_rfl) (by simp) ?_
        refine (AllReadyH.cons rfl (fun K hK => ?_) (AllReadyH.cons rfl (fun K hK => ?_) AllReadyH.nil))
        · skip
          go_simp
          refine (CVA.out _ _ FA.out I22.out).mono ?_
          rintro e w7 ⟨rfl, hst⟩
          replace FA := Lib.hid (FA.out.below hst)
          replace FB := Lib.hid (FB.out.below hst)
          replace FM := Lib.hid (FM.out.below hst)
          replace I19 := Lib.hid (I19.out.below hst)
          replace I22 := Lib.hid (I22.out.below hst)
          replace HBW := Lib.hid (below_chV HBW.out hst)
          clear hst
          refine hK.out _ _ (HS0.out _ HBW.out) (fun hHeld => ?_)
          clear hK K
          (try simp only [List.getElem_toArray, List.getElem_cons_succ, List.getElem_cons_zero, Act.put, List.setIfInBounds_toArray, List.set_cons_zero, List.set_cons_succ, bne_self_eq_false])
          refine wpAnyH_ready (rs := [25]) (by kernel_rfl) (by simp) ?_
          refine (AllReadyH.cons rfl (fun K hK => ?_) AllReadyH.nil)
          go_simp
          have I25 := Lib.hid (ints35 w7)
          replace FA := Lib.hid (FA.out.below ((Below.refl _ _).alloc (Nat.le_refl _) (.cells #[.int .i64 3, .int .i64 5] 3)))
          replace FB := Lib.hid (FB.out.below ((Below.refl _ _).alloc (Nat.le_refl _) (.cells #[.int .i64 3, .int .i64 5] 3)))
          replace FM := Lib.hid (FM.out.below ((Below.refl _ _).alloc (Nat.le_refl _) (.cells #[.int .i64 3, .int .i64 5] 3)))
          replace I19 := Lib.hid (I19.out.below ((Below.refl _ _).alloc (Nat.le_refl _) (.cells #[.int .i64 3, .int .i64 5] 3)))
          replace I22 := Lib.hid (I22.out.below ((Below.refl _ _).alloc (Nat.le_refl _) (.cells #[.int .i64 3, .int .i64 5] 3)))
          replace HBW := Lib.hid (HBW.out.alloc HBW.out.size (.cells #[.int .i64 3, .int .i64 5] 3))
          refine hK.out _ _ (HS0.out _ HBW.out) (fun hHeld => ?_)
          clear hK K
          (try simp only [List.getElem_toArray, List.getElem_cons_succ, List.getElem_cons_zero, Act.put, List.setIfInBounds_toArray, List.set_cons_zero, List.set_cons_succ, bne_self_eq_false])
          generalize hwn8 : (w7.alloc (.cells #[.int .i64 3, .int .i64 5] 3)) = w8 at *
          clear hwn8
          refine wpAnyH_ready (rs := [26]) (by kernel_rfl) (by simp) ?_
          refine (AllReadyH.cons rfl (fun K hK => ?_) AllReadyH.nil)
          go_simp
          refine (CVB.out _ _ FB.out I25.out).mono ?_
          rintro e w9 ⟨rfl, hst⟩
          replace FA := Lib.hid (FA.out.below hst)
          replace FB := Lib.hid (FB.out.below hst)
          replace FM := Lib.hid (FM.out.below hst)
          replace I19 := Lib.hid (I19.out.below hst)
          replace I22 := Lib.hid (I22.out.below hst)
          replace I25 := Lib.hid (I25.out.below hst)
          replace HBW := Lib.hid (below_chV HBW.out hst)
          clear hst
          refine hK.out _ _ (HS0.out _ HBW.out) (fun hHeld => ?_)
          clear hK K
          (try simp only [List.getElem_toArray, List.getElem_cons_succ, List.getElem_cons_zero, Act.put, List.setIfInBounds_toArray, List.set_cons_zero, List.set_cons_succ, bne_self_eq_false])
          refine wpAnyH_take (i := 27) (v := ?v10) rfl (by kernel_rfl) (by kernel_rfl) (by kernel_rfl) (fun _ _ _ h => h) (Or.inl ⟨by rfl, ?hy10⟩) (by assumption) ?rest10
          case hy10 => intro w hSw; (try dsimp only at hSw); go_simp; try with_reducible rfl
          (try simp only [List.getElem_toArray, List.getElem_cons_succ, List.getElem_cons_zero, Act.put, List.setIfInBounds_toArray, List.set_cons_zero, List.set_cons_succ, bne_self_eq_false])
          refine wpAnyH_take (i := 28) (v := ?v11) rfl (by kernel_rfl) (by kernel_rfl) (by kernel_rfl) (fun _ _ _ h => h) (Or.inl ⟨by rfl, ?hy11⟩) (by assumption) ?rest11
          case hy11 => intro w hSw; (try dsimp only at hSw); go_simp; try with_reducible rfl
          (try simp only [List.getElem_toArray, List.getElem_cons_succ, List.getElem_cons_zero, Act.put, List.setIfInBounds_toArray, List.set_cons_zero, List.set_cons_succ, bne_self_eq_false])
          refine wpAnyH_take (i := 29) (v := ?v12) rfl (by kernel_rfl) (by kernel_rfl) (by kernel_rfl) (fun _ _ _ h => h) (Or.inl ⟨by rfl, ?hy12⟩) (by assumption) ?rest12
          case hy12 => intro w hSw; (try dsimp only at hSw); go_simp; try with_reducible rfl
          (try simp only [List.getElem_toArray, List.getElem_cons_succ, List.getElem_cons_zero, Act.put, List.setIfInBounds_toArray, List.set_cons_zero, List.set_cons_succ, bne_self_eq_false])
          refine wpAnyH_take (i := 30) (v := ?v13) rfl (by kernel_rfl) (by kernel_rfl) (by kernel_rfl) (fun _ _ _ h => h) (Or.inl ⟨by rfl, ?hy13⟩) (by assumption) ?rest13
          case hy13 => intro w hSw; (try dsimp only at hSw); go_simp; try with_reducible rfl
          (try simp only [List.getElem_toArray, List.getElem_cons_succ, List.getElem_cons_zero, Act.put, List.setIfInBounds_toArray, List.set_cons_zero, List.set_cons_succ, bne_self_eq_false])
          refine wpAnyH_done (by kernel_rfl) ?_ _
          go_wp2_with fail
          exact HQ.out _ _ _ _ _ _ _ _ _ _ _ _ _ HBW.out
        · skip
          go_simp
          have I25 := Lib.hid (ints35 w6)
          replace FA := Lib.hid (FA.out.below ((Below.refl _ _).alloc (Nat.le_refl _) (.cells #[.int .i64 3, .int .i64 5] 3)))
          replace FB := Lib.hid (FB.out.below ((Below.refl _ _).alloc (Nat.le_refl _) (.cells #[.int .i64 3, .int .i64 5] 3)))
          replace FM := Lib.hid (FM.out.below ((Below.refl _ _).alloc (Nat.le_refl _) (.cells #[.int .i64 3, .int .i64 5] 3)))
          replace I19 := Lib.hid (I19.out.below ((Below.refl _ _).alloc (Nat.le_refl _) (.cells #[.int .i64 3, .int .i64 5] 3)))
          replace I22 := Lib.hid (I22.out.below ((Below.refl _ _).alloc (Nat.le_refl _) (.cells #[.int .i64 3, .int .i64 5] 3)))
          replace HBW := Lib.hid (HBW.out.alloc HBW.out.size (.cells #[.int .i64 3, .int .i64 5] 3))
          refine hK.out _ _ (HS0.out _ HBW.out) (fun hHeld => ?_)
          clear hK K
          (try simp only [List.getElem_toArray, List.getElem_cons_succ, List.getElem_cons_zero, Act.put, List.setIfInBounds_toArray, List.set_cons_zero, List.set_cons_succ, bne_self_eq_false])
          generalize hwn14 : (w6.alloc (.cells #[.int .i64 3, .int .i64 5] 3)) = w14 at *
          clear hwn14
          refine wpAnyH_ready (rs := [23]) (by kernel_rfl) (by simp) ?_
          refine (AllReadyH.cons rfl (fun K hK => ?_) AllReadyH.nil)
          go_simp
          refine (CVA.out _ _ FA.out I22.out).mono ?_
          rintro e w15 ⟨rfl, hst⟩
          replace FA := Lib.hid (FA.out.below hst)
          replace FB := Lib.hid (FB.out.below hst)
          replace FM := Lib.hid (FM.out.below hst)
          replace I19 := Lib.hid (I19.out.below hst)
          replace I22 := Lib.hid (I22.out.below hst)
          replace I25 := Lib.hid (I25.out.below hst)
          replace HBW := Lib.hid (below_chV HBW.out hst)
          clear hst
          refine hK.out _ _ (HS0.out _ HBW.out) (fun hHeld => ?_)
          clear hK K
          (try simp only [List.getElem_toArray, List.getElem_cons_succ, List.getElem_cons_zero, Act.put, List.setIfInBounds_toArray, List.set_cons_zero, List.set_cons_succ, bne_self_eq_false])
          refine wpAnyH_ready (rs := [26]) (by kernel_rfl) (by simp) ?_
          refine (AllReadyH.cons rfl (fun K hK => ?_) AllReadyH.nil)
          go_simp
          refine (CVB.out _ _ FB.out I25.out).mono ?_
          rintro e w16 ⟨rfl, hst⟩
          replace FA := Lib.hid (FA.out.below hst)
          replace FB := Lib.hid (FB.out.below hst)
          replace FM := Lib.hid (FM.out.below hst)
          replace I19 := Lib.hid (I19.out.below hst)
          replace I22 := Lib.hid (I22.out.below hst)
          replace I25 := Lib.hid (I25.out.below hst)
          replace HBW := Lib.hid (below_chV HBW.out hst)
          clear hst
          refine hK.out _ _ (HS0.out _ HBW.out) (fun hHeld => ?_)
          clear hK K
          (try simp only [List.getElem_toArray, List.getElem_cons_succ, List.getElem_cons_zero, Act.put, List.setIfInBounds_toArray, List.set_cons_zero, List.set_cons_succ, bne_self_eq_false])
          refine wpAnyH_take (i := 27) (v := ?v17) rfl (by kernel_rfl) (by kernel_rfl) (by kernel_rfl) (fun _ _ _ h => h) (Or.inl ⟨by rfl, ?hy17⟩) (by assumption) ?rest17
          case hy17 => intro w hSw; (try dsimp only at hSw); go_simp; try with_reducible rfl
          (try simp only [List.getElem_toArray, List.getElem_cons_succ, List.getElem_cons_zero, Act.put, List.setIfInBounds_toArray, List.set_cons_zero, List.set_cons_succ, bne_self_eq_false])
          refine wpAnyH_take (i := 28) (v := ?v18) rfl (by kernel_rfl) (by kernel_rfl) (by kernel_rfl) (fun _ _ _ h => h) (Or.inl ⟨by rfl, ?hy18⟩) (by assumption) ?rest18
          case hy18 => intro w hSw; (try dsimp only at hSw); go_simp; try with_reducible rfl
          (try simp only [List.getElem_toArray, List.getElem_cons_succ, List.getElem_cons_zero, Act.put, List.setIfInBounds_toArray, List.set_cons_zero, List.set_cons_succ, bne_self_eq_false])
          refine wpAnyH_take (i := 29) (v := ?v19) rfl (by kernel_rfl) (by kernel_rfl) (by kernel_rfl) (fun _ _ _ h => h) (Or.inl ⟨by rfl, ?hy19⟩) (by assumption) ?rest19
          case hy19 => intro w hSw; (try dsimp only at hSw); go_simp; try with_reducible rfl
          (try simp only [List.getElem_toArray, List.getElem_cons_succ, List.getElem_cons_zero, Act.put, List.setIfInBounds_toArray, List.set_cons_zero, List.set_cons_succ, bne_self_eq_false])
          refine wpAnyH_take (i := 30) (v := ?v20) rfl (by kernel_rfl) (by kernel_rfl) (by kernel_rfl) (fun _ _ _ h => h) (Or.inl ⟨by rfl, ?hy20⟩) (by assumption) ?rest20
          case hy20 => intro w hSw; (try dsimp only at hSw); go_simp; try with_reducible rfl
          (try simp only [List.getElem_toArray, List.getElem_cons_succ, List.getElem_cons_zero, Act.put, List.setIfInBounds_toArray, List.set_cons_zero, List.set_cons_succ, bne_self_eq_false])
          refine wpAnyH_done (by kernel_rfl) ?_ _
          go_wp2_with fail
          exact HQ.out _ _ _ _ _ _ _ _ _ _ _ _ _ HBW.out
      · skip
        go_simp
        have I25 := Lib.hid (ints35 w5)
        replace FA := Lib.hid (FA.out.below ((Below.refl _ _).alloc (Nat.le_refl _) (.cells #[.int .i64 3, .int .i64 5] 3)))
        replace FB := Lib.hid (FB.out.below ((Below.refl _ _).alloc (Nat.le_refl _) (.cells #[.int .i64 3, .int .i64 5] 3)))
        replace FM := Lib.hid (FM.out.below ((Below.refl _ _).alloc (Nat.le_refl _) (.cells #[.int .i64 3, .int .i64 5] 3)))
        replace I19 := Lib.hid (I19.out.below ((Below.refl _ _).alloc (Nat.le_refl _) (.cells #[.int .i64 3, .int .i64 5] 3)))
        replace HBW := Lib.hid (HBW.out.alloc HBW.out.size (.cells #[.int .i64 3, .int .i64 5] 3))
        refine hK.out _ _ (HS0.out _ HBW.out) (fun hHeld => ?_)
        clear hK K
        (try simp only [List.getElem_toArray, List.getElem_cons_succ, List.getElem_cons_zero, Act.put, List.setIfInBounds_toArray, List.set_cons_zero, List.set_cons_succ, bne_self_eq_false])
        generalize hwn21 : (w5.alloc (.cells #[.int .i64 3, .int .i64 5] 3)) = w21 at *
        clear hwn21
        refine wpAnyH_ready (rs := [22]) (by kernel_rfl) (by simp) ?_
        refine (AllReadyH.cons rfl (fun K hK => ?_) AllReadyH.nil)
        go_simp
        have I22 := Lib.hid (ints35 w21)
        replace FA := Lib.hid (FA.out.below ((Below.refl _ _).alloc (Nat.le_refl _) (.cells #[.int .i64 3, .int .i64 5] 3)))
        replace FB := Lib.hid (FB.out.below ((Below.refl _ _).alloc (Nat.le_refl _) (.cells #[.int .i64 3, .int .i64 5] 3)))
        replace FM := Lib.hid (FM.out.below ((Below.refl _ _).alloc (Nat.le_refl _) (.cells #[.int .i64 3, .int .i64 5] 3)))
        replace I19 := Lib.hid (I19.out.below ((Below.refl _ _).alloc (Nat.le_refl _) (.cells #[.int .i64 3, .int .i64 5] 3)))
        replace I25 := Lib.hid (I25.out.below ((Below.refl _ _).alloc (Nat.le_refl _) (.cells #[.int .i64 3, .int .i64 5] 3)))
        replace HBW := Lib.hid (HBW.out.alloc HBW.out.size (.cells #[.int .i64 3, .int .i64 5] 3))
        refine hK.out _ _ (HS0.out _ HBW.out) (fun hHeld => ?_)
        clear hK K
        (try simp only [List.getElem_toArray, List.getElem_cons_succ, List.getElem_cons_zero, Act.put, List.setIfInBounds_toArray, List.set_cons_zero, List.set_cons_succ, bne_self_eq_false])
        generalize hwn22 : (w21.alloc (.cells #[.int .i64 3, .int .i64 5] 3)) = w22 at *
        clear hwn22
        refine wpAnyH_ready (rs := [23]) (by kernel_rfl) (by simp) ?_
        refine (AllReadyH.cons rfl (fun K hK => ?_) AllReadyH.nil)
        go_simp
        refine (CVA.out _ _ FA.out I22.out).mono ?_
        rintro e w23 ⟨rfl, hst⟩
        replace FA := Lib.hid (FA.out.below hst)
        replace FB := Lib.hid (FB.out.below hst)
        replace FM := Lib.hid (FM.out.below hst)
        replace I19 := Lib.hid (I19.out.below hst)
        replace I25 := Lib.hid (I25.out.below hst)
        replace I22 := Lib.hid (I22.out.below hst)
        replace HBW := Lib.hid (below_chV HBW.out hst)
        clear hst
        refine hK.out _ _ (HS0.out _ HBW.out) (fun hHeld => ?_)
        clear hK K
        (try simp only [List.getElem_toArray, List.getElem_cons_succ, List.getElem_cons_zero, Act.put, List.setIfInBounds_toArray, List.set_cons_zero, List.set_cons_succ, bne_self_eq_false])
        refine wpAnyH_ready (rs := [26]) (by kernel_rfl) (by simp) ?_
        refine (AllReadyH.cons rfl (fun K hK => ?_) AllReadyH.nil)
        go_simp
        refine (CVB.out _ _ FB.out I25.out).mono ?_
        rintro e w24 ⟨rfl, hst⟩
        replace FA := Lib.hid (FA.out.below hst)
        replace FB := Lib.hid (FB.out.below hst)
        replace FM := Lib.hid (FM.out.below hst)
        replace I19 := Lib.hid (I19.out.below hst)
        replace I25 := Lib.hid (I25.out.below hst)
        replace I22 := Lib.hid (I22.out.below hst)
        replace HBW := Lib.hid (below_chV HBW.out hst)
        clear hst
        refine hK.out _ _ (HS0.out _ HBW.out) (fun hHeld => ?_)
        clear hK K
        (try simp only [List.getElem_toArray, List.getElem_cons_succ, List.getElem_cons_zero, Act.put, List.setIfInBounds_toArray, List.set_cons_zero, List.set_cons_succ, bne_self_eq_false])
        refine wpAnyH_take (i := 27) (v := ?v25) rfl (by kernel_rfl) (by kernel_rfl) (by kernel_rfl) (fun _ _ _ h => h) (Or.inl ⟨by rfl, ?hy25⟩) (by assumption) ?rest25
        case hy25 => intro w hSw; (try dsimp only at hSw); go_simp; try with_reducible rfl
        (try simp only [List.getElem_toArray, List.getElem_cons_succ, List.getElem_cons_zero, Act.put, List.setIfInBounds_toArray, List.set_cons_zero, List.set_cons_succ, bne_self_eq_false])
        refine wpAnyH_take (i := 28) (v := ?v26) rfl (by kernel_rfl) (by kernel_rfl) (by kernel_rfl) (fun _ _ _ h => h) (Or.inl ⟨by rfl, ?hy26⟩) (by assumption) ?rest26
        case hy26 => intro w hSw; (try dsimp only at hSw); go_simp; try with_reducible rfl
        (try simp only [List.getElem_toArray, List.getElem_cons_succ, List.getElem_cons_zero, Act.put, List.setIfInBounds_toArray, List.set_cons_zero, List.set_cons_succ, bne_self_eq_false])
        refine wpAnyH_take (i := 29) (v := ?v27) rfl (by kernel_rfl) (by kernel_rfl) (by kernel_rfl) (fun _ _ _ h => h) (Or.inl ⟨by rfl, ?hy27⟩) (by assumption) ?rest27
        case hy27 => intro w hSw; (try dsimp only at hSw); go_simp; try with_reducible rfl
        (try simp only [List.getElem_toArray, List.getElem_cons_succ, List.getElem_cons_zero, Act.put, List.setIfInBounds_toArray, List.set_cons_zero, List.set_cons_succ, bne_self_eq_false])
        refine wpAnyH_take (i := 30) (v := ?v28) rfl (by kernel_rfl) (by kernel_rfl) (by kernel_rfl) (fun _ _ _ h => h) (Or.inl ⟨by rfl, ?hy28⟩) (by assumption) ?rest28
        case hy28 => intro w hSw; (try dsimp only at hSw); go_simp; try with_reducible rfl
        (try simp only [List.getElem_toArray, List.getElem_cons_succ, List.getElem_cons_zero, Act.put, List.setIfInBounds_toArray, List.set_cons_zero, List.set_cons_succ, bne_self_eq_false])
        refine wpAnyH_done (by kernel_rfl) ?_ _
        go_wp2_with fail
        exact HQ.out _ _ _ _ _ _ _ _ _ _ _ _ _ HBW.out
    · skip
      go_simp
      have I22 := Lib.hid (ints35 w4)
      replace FA := Lib.hid (FA.out.below ((Below.refl _ _).alloc (Nat.le_refl _) (.cells #[.int .i64 3, .int .i64 5] 3)))
      replace FB := Lib.hid (FB.out.below ((Below.refl _ _).alloc (Nat.le_refl _) (.cells #[.int .i64 3, .int .i64 5] 3)))
      replace FM := Lib.hid (FM.out.below ((Below.refl _ _).alloc (Nat.le_refl _) (.cells #[.int .i64 3, .int .i64 5] 3)))
      replace I19 := Lib.hid (I19.out.below ((Below.refl _ _).alloc (Nat.le_refl _) (.cells #[.int .i64 3, .int .i64 5] 3)))
      replace HBW := Lib.hid (HBW.out.alloc HBW.out.size (.cells #[.int .i64 3, .int .i64 5] 3))
      refine hK.out _ _ (HS0.out _ HBW.out) (fun hHeld => ?_)
      clear hK K
      (try simp only [List.getElem_toArray, List.getElem_cons_succ, List.getElem_cons_zero, Act.put, List.setIfInBounds_toArray, List.set_cons_zero, List.set_cons_succ, bne_self_eq_false])
      generalize hwn29 : (w4.alloc (.cells #[.int .i64 3, .int .i64 5] 3)) = w29 at *
      clear hwn29
      refine wpAnyH_ready (rs := [20, 25]) (by kernel_rfl) (by simp) ?_
      refine (AllReadyH.cons rfl (fun K hK => ?_) (AllReadyH.cons rfl (fun K hK => ?_) AllReadyH.nil))
      · skip
        go_simp
        refine (CVM.out _ _ FM.out I19.out).mono ?_
        rintro e w30 ⟨rfl, hst⟩
        replace FA := Lib.hid (FA.out.below hst)
        replace FB := Lib.hid (FB.out.below hst)
        replace FM := Lib.hid (FM.out.below hst)
        replace I19 := Lib.hid (I19.out.below hst)
        replace I22 := Lib.hid (I22.out.below hst)
        replace HBW := Lib.hid (below_chV HBW.out hst)
        clear hst
        refine hK.out _ _ (HS0.out _ HBW.out) (fun hHeld => ?_)
        clear hK K
        (try simp only [List.getElem_toArray, List.getElem_cons_succ, List.getElem_cons_zero, Act.put, List.setIfInBounds_toArray, List.set_cons_zero, List.set_cons_succ, bne_self_eq_false])
        refine wpAnyH_ready (rs := [23, 25]) (by kernel_rfl) (by simp) ?_
        refine (AllReadyH.cons rfl (fun K hK => ?_) (AllReadyH.cons rfl (fun K hK => ?_) AllReadyH.nil))
        · skip
          go_simp
          refine (CVA.out _ _ FA.out I22.out).mono ?_
          rintro e w31 ⟨rfl, hst⟩
          replace FA := Lib.hid (FA.out.below hst)
          replace FB := Lib.hid (FB.out.below hst)
          replace FM := Lib.hid (FM.out.below hst)
          replace I19 := Lib.hid (I19.out.below hst)
          replace I22 := Lib.hid (I22.out.below hst)
          replace HBW := Lib.hid (below_chV HBW.out hst)
          clear hst
          refine hK.out _ _ (HS0.out _ HBW.out) (fun hHeld => ?_)
          clear hK K
          (try simp only [List.getElem_toArray, List.getElem_cons_succ, List.getElem_cons_zero, Act.put, List.setIfInBounds_toArray, List.set_cons_zero, List.set_cons_succ, bne_self_eq_false])
          refine wpAnyH_ready (rs := [25]) (by kernel_rfl) (by simp) ?_
          refine (AllReadyH.cons rfl (fun K hK => ?_) AllReadyH.nil)
          go_simp
          have I25 := Lib.hid (ints35 w31)
          replace FA := Lib.hid (FA.out.below ((Below.refl _ _).alloc (Nat.le_refl _) (.cells #[.int .i64 3, .int .i64 5] 3)))
          replace FB := Lib.hid (FB.out.below ((Below.refl _ _).alloc (Nat.le_refl _) (.cells #[.int .i64 3, .int .i64 5] 3)))
          replace FM := Lib.hid (FM.out.below ((Below.refl _ _).alloc (Nat.le_refl _) (.cells #[.int .i64 3, .int .i64 5] 3)))
          replace I19 := Lib.hid (I19.out.below ((Below.refl _ _).alloc (Nat.le_refl _) (.cells #[.int .i64 3, .int .i64 5] 3)))
          replace I22 := Lib.hid (I22.out.below ((Below.refl _ _).alloc (Nat.le_refl _) (.cells #[.int .i64 3, .int .i64 5] 3)))
          replace HBW := Lib.hid (HBW.out.alloc HBW.out.size (.cells #[.int .i64 3, .int .i64 5] 3))
          refine hK.out _ _ (HS0.out _ HBW.out) (fun hHeld => ?_)
          clear hK K
          (try simp only [List.getElem_toArray, List.getElem_cons_succ, List.getElem_cons_zero, Act.put, List.setIfInBounds_toArray, List.set_cons_zero, List.set_cons_succ, bne_self_eq_false])
          generalize hwn32 : (w31.alloc (.cells #[.int .i64 3, .int .i64 5] 3)) = w32 at *
          clear hwn32
          refine wpAnyH_ready (rs := [26]) (by kernel_rfl) (by simp) ?_
          refine (AllReadyH.cons rfl (fun K hK => ?_) AllReadyH.nil)
          go_simp
          refine (CVB.out _ _ FB.out I25.out).mono ?_
          rintro e w33 ⟨rfl, hst⟩
          replace FA := Lib.hid (FA.out.below hst)
          replace FB := Lib.hid (FB.out.below hst)
          replace FM := Lib.hid (FM.out.below hst)
          replace I19 := Lib.hid (I19.out.below hst)
          replace I22 := Lib.hid (I22.out.below hst)
          replace I25 := Lib.hid (I25.out.below hst)
          replace HBW := Lib.hid (below_chV HBW.out hst)
          clear hst
          refine hK.out _ _ (HS0.out _ HBW.out) (fun hHeld => ?_)
          clear hK K
          (try simp only [List.getElem_toArray, List.getElem_cons_succ, List.getElem_cons_zero, Act.put, List.setIfInBounds_toArray, List.set_cons_zero, List.set_cons_succ, bne_self_eq_false])
          refine wpAnyH_take (i := 27) (v := ?v34) rfl (by kernel_rfl) (by kernel_rfl) (by kernel_rfl) (fun _ _ _ h => h) (Or.inl ⟨by rfl, ?hy34⟩) (by assumption) ?rest34
          case hy34 => intro w hSw; (try dsimp only at hSw); go_simp; try with_reducible rfl
          (try simp only [List.getElem_toArray, List.getElem_cons_succ, List.getElem_cons_zero, Act.put, List.setIfInBounds_toArray, List.set_cons_zero, List.set_cons_succ, bne_self_eq_false])
          refine wpAnyH_take (i := 28) (v := ?v35) rfl (by kernel_rfl) (by kernel_rfl) (by kernel_rfl) (fun _ _ _ h => h) (Or.inl ⟨by rfl, ?hy35⟩) (by assumption) ?rest35
          case hy35 => intro w hSw; (try dsimp only at hSw); go_simp; try with_reducible rfl
          (try simp only [List.getElem_toArray, List.getElem_cons_succ, List.getElem_cons_zero, Act.put, List.setIfInBounds_toArray, List.set_cons_zero, List.set_cons_succ, bne_self_eq_false])
          refine wpAnyH_take (i := 29) (v := ?v36) rfl (by kernel_rfl) (by kernel_rfl) (by kernel_rfl) (fun _ _ _ h => h) (Or.inl ⟨by rfl, ?hy36⟩) (by assumption) ?rest36
          case hy36 => intro w hSw; (try dsimp only at hSw); go_simp; try with_reducible rfl
          (try simp only [List.getElem_toArray, List.getElem_cons_succ, List.getElem_cons_zero, Act.put, List.setIfInBounds_toArray, List.set_cons_zero, List.set_cons_succ, bne_self_eq_false])
          refine wpAnyH_take (i := 30) (v := ?v37) rfl (by kernel_rfl) (by kernel_rfl) (by kernel_rfl) (fun _ _ _ h => h) (Or.inl ⟨by rfl, ?hy37⟩) (by assumption) ?rest37
          case hy37 => intro w hSw; (try dsimp only at hSw); go_simp; try with_reducible rfl
          (try simp only [List.getElem_toArray, List.getElem_cons_succ, List.getElem_cons_zero, Act.put, List.setIfInBounds_toArray, List.set_cons_zero, List.set_cons_succ, bne_self_eq_false])
          refine wpAnyH_done (by kernel_rfl) ?_ _
          go_wp2_with fail
          exact HQ.out _ _ _ _ _ _ _ _ _ _ _ _ _ HBW.out
        · skip
          go_simp
          have I25 := Lib.hid (ints35 w30)
          replace FA := Lib.hid (FA.out.below ((Below.refl _ _).alloc (Nat.le_refl _) (.cells #[.int .i64 3, .int .i64 5] 3)))
          replace FB := Lib.hid (FB.out.below ((Below.refl _ _).alloc (Nat.le_refl _) (.cells #[.int .i64 3, .int .i64 5] 3)))
          replace FM := Lib.hid (FM.out.below ((Below.refl _ _).alloc (Nat.le_refl _) (.cells #[.int .i64 3, .int .i64 5] 3)))
          replace I19 := Lib.hid (I19.out.below ((Below.refl _ _).alloc (Nat.le_refl _) (.cells #[.int .i64 3, .int .i64 5] 3)))
          replace I22 := Lib.hid (I22.out.below ((Below.refl _ _).alloc (Nat.le_refl _) (.cells #[.int .i64 3, .int .i64 5] 3)))
          replace HBW := Lib.hid (HBW.out.alloc HBW.out.size (.cells #[.int .i64 3, .int .i64 5] 3))
          refine hK.out _ _ (HS0.out _ HBW.out) (fun hHeld => ?_)
          clear hK K
          (try simp only [List.getElem_toArray, List.getElem_cons_succ, List.getElem_cons_zero, Act.put, List.setIfInBounds_toArray, List.set_cons_zero, List.set_cons_succ, bne_self_eq_false])
          generalize hwn38 : (w30.alloc (.cells #[.int .i64 3, .int .i64 5] 3)) = w38 at *
          clear hwn38
          refine wpAnyH_ready (rs := [23]) (by kernel_rfl) (by simp) ?_
          refine (AllReadyH.cons rfl (fun K hK => ?_) AllReadyH.nil)
          go_simp
          refine (CVA.out _ _ FA.out I22.out).mono ?_
          rintro e w39 ⟨rfl, hst⟩
          replace FA := Lib.hid (FA.out.below hst)
          replace FB := Lib.hid (FB.out.below hst)
          replace FM := Lib.hid (FM.out.below hst)
          replace I19 := Lib.hid (I19.out.below hst)
          replace I22 := Lib.hid (I22.out.below hst)
          replace I25 := Lib.hid (I25.out.below hst)
          replace HBW := Lib.hid (below_chV HBW.out hst)
          clear hst
          refine hK.out _ _ (HS0.out _ HBW.out) (fun hHeld => ?_)
          clear hK K
          (try simp only [List.getElem_toArray, List.getElem_cons_succ, List.getElem_cons_zero, Act.put, List.setIfInBounds_toArray, List.set_cons_zero, List.set_cons_succ, bne_self_eq_false])
          refine wpAnyH_ready (rs := [26]) (by kernel_rfl) (by simp) ?_
          refine (AllReadyH.cons rfl (fun K hK => ?_) AllReadyH.nil)
          go_simp
          refine (CVB.out _ _ FB.out I25.out).mono ?_
          rintro e w40 ⟨rfl, hst⟩
          replace FA := Lib.hid (FA.out.below hst)
          replace FB := Lib.hid (FB.out.below hst)
          replace FM := Lib.hid (FM.out.below hst)
          replace I19 := Lib.hid (I19.out.below hst)
          replace I22 := Lib.hid (I22.out.below hst)
          replace I25 := Lib.hid (I25.out.below hst)
          replace HBW := Lib.hid (below_chV HBW.out hst)
          clear hst
          refine hK.out _ _ (HS0.out _ HBW.out) (fun hHeld => ?_)
          clear hK K
          (try simp only [List.getElem_toArray, List.getElem_cons_succ, List.getElem_cons_zero, Act.put, List.setIfInBounds_toArray, List.set_cons_zero, List.set_cons_succ, bne_self_eq_false])
          refine wpAnyH_take (i := 27) (v := ?v41) rfl (by kernel_rfl) (by kernel_rfl) (by kernel_rfl) (fun _ _ _ h => h) (Or.inl ⟨by rfl, ?hy41⟩) (by assumption) ?rest41
          case hy41 => intro w hSw; (try dsimp only at hSw); go_simp; try with_reducible rfl
          (try simp only [List.getElem_toArray, List.getElem_cons_succ, List.getElem_cons_zero, Act.put, List.setIfInBounds_toArray, List.set_cons_zero, List.set_cons_succ, bne_self_eq_false])
          refine wpAnyH_take (i := 28) (v := ?v42) rfl (by kernel_rfl) (by kernel_rfl) (by kernel_rfl) (fun _ _ _ h => h) (Or.inl ⟨by rfl, ?hy42⟩) (by assumption) ?rest42
          case hy42 => intro w hSw; (try dsimp only at hSw); go_simp; try with_reducible rfl
          (try simp only [List.getElem_toArray, List.getElem_cons_succ, List.getElem_cons_zero, Act.put, List.setIfInBounds_toArray, List.set_cons_zero, List.set_cons_succ, bne_self_eq_false])
          refine wpAnyH_take (i := 29) (v := ?v43) rfl (by kernel_rfl) (by kernel_rfl) (by kernel_rfl) (fun _ _ _ h => h) (Or.inl ⟨by rfl, ?hy43⟩) (by assumption) ?rest43
          case hy43 => intro w hSw; (try dsimp only at hSw); go_simp; try with_reducible rfl
          (try simp only [List.getElem_toArray, List.getElem_cons_succ, List.getElem_cons_zero, Act.put, List.setIfInBounds_toArray, List.set_cons_zero, List.set_cons_succ, bne_self_eq_false])
          refine wpAnyH_take (i := 30) (v := ?v44) rfl (by kernel_rfl) (by kernel_rfl) (by kernel_rfl) (fun _ _ _ h => h) (Or.inl ⟨by rfl, ?hy44⟩) (by assumption) ?rest44
          case hy44 => intro w hSw; (try dsimp only at hSw); go_simp; try with_reducible rfl
          (try simp only [List.getElem_toArray, List.getElem_cons_succ, List.getElem_cons_zero, Act.put, List.setIfInBounds_toArray, List.set_cons_zero, List.set_cons_succ, bne_self_eq_false])
          refine wpAnyH_done (by kernel_rfl) ?_ _
          go_wp2_with fail
          exact HQ.out _ _ _ _ _ _ _ _ _ _ _ _ _ HBW.out
      · skip
        go_simp
        have I25 := Lib.hid (ints35 w29)
        replace FA := Lib.hid (FA.out.below ((Below.refl _ _).alloc (Nat.le_refl _) (.cells #[.int .i64 3, .int .i64 5] 3)))
        replace FB := Lib.hid (FB.out.below ((Below.refl _ _).alloc (Nat.le_refl _) (.cells #[.int .i64 3, .int .i64 5] 3)))
        replace FM := Lib.hid (FM.out.below ((Below.refl _ _).alloc (Nat.le_refl _) (.cells #[.int .i64 3, .int .i64 5] 3)))
        replace I19 := Lib.hid (I19.out.below ((Below.refl _ _).alloc (Nat.le_refl _) (.cells #[.int .i64 3, .int .i64 5] 3)))
        replace I22 := Lib.hid (I22.out.below ((Below.refl _ _).alloc (Nat.le_refl _) (.cells #[.int .i64 3, .int .i64 5] 3)))
        replace HBW := Lib.hid (HBW.out.alloc HBW.out.size (.cells #[.int .i64 3, .int .i64 5] 3))
        refine hK.out _ _ (HS0.out _ HBW.out) (fun hHeld => ?_)
        clear hK K
        (try simp only [List.getElem_toArray, List.getElem_cons_succ, List.getElem_cons_zero, Act.put, List.setIfInBounds_toArray, List.set_cons_zero, List.set_cons_succ, bne_self_eq_false])
        generalize hwn45 : (w29.alloc (.cells #[.int .i64 3, .int .i64 5] 3)) = w45 at *
        clear hwn45
        refine wpAnyH_ready (rs := [20]) (by kernel_rfl) (by simp) ?_
        refine (AllReadyH.cons rfl (fun K hK => ?_) AllReadyH.nil)
        go_simp
        refine (CVM.out _ _ FM.out I19.out).mono ?_
        rintro e w46 ⟨rfl, hst⟩
        replace FA := Lib.hid (FA.out.below hst)
        replace FB := Lib.hid (FB.out.below hst)
        replace FM := Lib.hid (FM.out.below hst)
        replace I19 := Lib.hid (I19.out.below hst)
        replace I22 := Lib.hid (I22.out.below hst)
        replace I25 := Lib.hid (I25.out.below hst)
        replace HBW := Lib.hid (below_chV HBW.out hst)
        clear hst
        refine hK.out _ _ (HS0.out _ HBW.out) (fun hHeld => ?_)
        clear hK K
        (try simp only [List.getElem_toArray, List.getElem_cons_succ, List.getElem_cons_zero, Act.put, List.setIfInBounds_toArray, List.set_cons_zero, List.set_cons_succ, bne_self_eq_false])
        refine wpAnyH_ready (rs := [23]) (by kernel_rfl) (by simp) ?_
        refine (AllReadyH.cons rfl (fun K hK => ?_) AllReadyH.nil)
        go_simp
        refine (CVA.out _ _ FA.out I22.out).mono ?_
        rintro e w47 ⟨rfl, hst⟩
        replace FA := Lib.hid (FA.out.below hst)
        replace FB := Lib.hid (FB.out.below hst)
        replace FM := Lib.hid (FM.out.below hst)
        replace I19 := Lib.hid (I19.out.below hst)
        replace I22 := Lib.hid (I22.out.below hst)
        replace I25 := Lib.hid (I25.out.below hst)
        replace HBW := Lib.hid (below_chV HBW.out hst)
        clear hst
        refine hK.out _ _ (HS0.out _ HBW.out) (fun hHeld => ?_)
        clear hK K
        (try simp only [List.getElem_toArray, List.getElem_cons_succ, List.getElem_cons_zero, Act.put, List.setIfInBounds_toArray, List.set_cons_zero, List.set_cons_succ, bne_self_eq_false])
        refine wpAnyH_ready (rs := [26]) (by kernel_rfl) (by simp) ?_
        refine (AllReadyH.cons rfl (fun K hK => ?_) AllReadyH.nil)
        go_simp
        refine (CVB.out _ _ FB.out I25.out).mono ?_
        rintro e w48 ⟨rfl, hst⟩
        replace FA := Lib.hid (FA.out.below hst)
        replace FB := Lib.hid (FB.out.below hst)
        replace FM := Lib.hid (FM.out.below hst)
        replace I19 := Lib.hid (I19.out.below hst)
        replace I22 := Lib.hid (I22.out.below hst)
        replace I25 := Lib.hid (I25.out.below hst)
        replace HBW := Lib.hid (below_chV HBW.out hst)
        clear hst
        refine hK.out _ _ (HS0.out _ HBW.out) (fun hHeld => ?_)
        clear hK K
        (try simp only [List.getElem_toArray, List.getElem_cons_succ, List.getElem_cons_zero, Act.put, List.setIfInBounds_toArray, List.set_cons_zero, List.set_cons_succ, bne_self_eq_false])
        refine wpAnyH_take (i := 27) (v := ?v49) rfl (by kernel_rfl) (by kernel_rfl) (by kernel_rfl) (fun _ _ _ h => h) (Or.inl ⟨by rfl, ?hy49⟩) (by assumption) ?rest49
        case hy49 => intro w hSw; (try dsimp only at hSw); go_simp; try with_reducible rfl
        (try simp only [List.getElem_toArray, List.getElem_cons_succ, List.getElem_cons_zero, Act.put, List.setIfInBounds_toArray, List.set_cons_zero, List.set_cons_succ, bne_self_eq_false])
        refine wpAnyH_take (i := 28) (v := ?v50) rfl (by kernel_rfl) (by kernel_rfl) (by kernel_rfl) (fun _ _ _ h => h) (Or.inl ⟨by rfl, ?hy50⟩) (by assumption) ?rest50
        case hy50 => intro w hSw; (try dsimp only at hSw); go_simp; try with_reducible rfl
        (try simp only [List.getElem_toArray, List.getElem_cons_succ, List.getElem_cons_zero, Act.put, List.setIfInBounds_toArray, List.set_cons_zero, List.set_cons_succ, bne_self_eq_false])
        refine wpAnyH_take (i := 29) (v := ?v51) rfl (by kernel_rfl) (by kernel_rfl) (by kernel_rfl) (fun _ _ _ h => h) (Or.inl ⟨by rfl, ?hy51⟩) (by assumption) ?rest51
        case hy51 => intro w hSw; (try dsimp only at hSw); go_simp; try with_reducible rfl
        (try simp only [List.getElem_toArray, List.getElem_cons_succ, List.getElem_cons_zero, Act.put, List.setIfInBounds_toArray, List.set_cons_zero, List.set_cons_succ, bne_self_eq_false])
        refine wpAnyH_take (i := 30) (v := ?v52) rfl (by kernel_rfl) (by kernel_rfl) (by kernel_rfl) (fun _ _ _ h => h) (Or.inl ⟨by rfl, ?hy52⟩) (by assumption) ?rest52
        case hy52 => intro w hSw; (try dsimp only at hSw); go_simp; try with_reducible rfl
        (try simp only [List.getElem_toArray, List.getElem_cons_succ, List.getElem_cons_zero, Act.put, List.setIfInBounds_toArray, List.set_cons_zero, List.set_cons_succ, bne_self_eq_false])
        refine wpAnyH_done (by kernel_rfl) ?_ _
        go_wp2_with fail
        exact HQ.out _ _ _ _ _ _ _ _ _ _ _ _ _ HBW.out
    · skip
      go_simp
      have I25 := Lib.hid (ints35 w4)
      replace FA := Lib.hid (FA.out.below ((Below.refl _ _).alloc (Nat.le_refl _) (.cells #[.int .i64 3, .int .i64 5] 3)))
      replace FB := Lib.hid (FB.out.below ((Below.refl _ _).alloc (Nat.le_refl _) (.cells #[.int .i64 3, .int .i64 5] 3)))
      replace FM := Lib.hid (FM.out.below ((Below.refl _ _).alloc (Nat.le_refl _) (.cells #[.int .i64 3, .int .i64 5] 3)))
      replace I19 := Lib.hid (I19.out.below ((Below.refl _ _).alloc (Nat.le_refl _) (.cells #[.int .i64 3, .int .i64 5] 3)))
      replace HBW := Lib.hid (HBW.out.alloc HBW.out.size (.cells #[.int .i64 3, .int .i64 5] 3))
      refine hK.out _ _ (HS0.out _ HBW.out) (fun hHeld => ?_)
      clear hK K
      (try simp only [List.getElem_toArray, List.getElem_cons_succ, List.getElem_cons_zero, Act.put, List.setIfInBounds_toArray, List.set_cons_zero, List.set_cons_succ, bne_self_eq_false])
      generalize hwn53 : (w4.alloc (.cells #[.int .i64 3, .int .i64 5] 3)) = w53 at *
      clear hwn53
      refine wpAnyH_ready (rs := [20, 22]) (by kernel_rfl) (by simp) ?_
      refine (AllReadyH.cons rfl (fun K hK => ?_) (AllReadyH.cons rfl (fun K hK => ?_) AllReadyH.nil))
      · skip
        go_simp
        refine (CVM.out _ _ FM.out I19.out).mono ?_
        rintro e w54 ⟨rfl, hst⟩
        replace FA := Lib.hid (FA.out.below hst)
        replace FB := Lib.hid (FB.out.below hst)
        replace FM := Lib.hid (FM.out.below hst)
        replace I19 := Lib.hid (I19.out.below hst)
        replace I25 := Lib.hid (I25.out.below hst)
        replace HBW := Lib.hid (below_chV HBW.out hst)
        clear hst
        refine hK.out _ _ (HS0.out _ HBW.out) (fun hHeld => ?_)
        clear hK K
        (try simp only [List.getElem_toArray, List.getElem_cons_succ, List.getElem_cons_zero, Act.put, List.setIfInBounds_toArray, List.set_cons_zero, List.set_cons_succ, bne_self_eq_false])
        refine wpAnyH_ready (rs := [22]) (by kernel_rfl) (by simp) ?_
        refine (AllReadyH.cons rfl (fun K hK => ?_) AllReadyH.nil)
        go_simp
        have I22 := Lib.hid (ints35 w54)
        replace FA := Lib.hid (FA.out.below ((Below.refl _ _).alloc (Nat.le_refl _) (.cells #[.int .i64 3, .int .i64 5] 3)))
        replace FB := Lib.hid (FB.out.below ((Below.refl _ _).alloc (Nat.le_refl _) (.cells #[.int .i64 3, .int .i64 5] 3)))
        replace FM := Lib.hid (FM.out.below ((Below.refl _ _).alloc (Nat.le_refl _) (.cells #[.int .i64 3, .int .i64 5] 3)))
        replace I19 := Lib.hid (I19.out.below ((Below.refl _ _).alloc (Nat.le_refl _) (.cells #[.int .i64 3, .int .i64 5] 3)))
        replace I25 := Lib.hid (I25.out.below ((Below.refl _ _).alloc (Nat.le_refl _) (.cells #[.int .i64 3, .int .i64 5] 3)))
        replace HBW := Lib.hid (HBW.out.alloc HBW.out.size (.cells #[.int .i64 3, .int .i64 5] 3))
        refine hK.out _ _ (HS0.out _ HBW.out) (fun hHeld => ?_)
        clear hK K
        (try simp only [List.getElem_toArray, List.getElem_cons_succ, List.getElem_cons_zero, Act.put, List.setIfInBounds_toArray, List.set_cons_zero, List.set_cons_succ, bne_self_eq_false])
        generalize hwn55 : (w54.alloc (.cells #[.int .i64 3, .int .i64 5] 3)) = w55 at *
        clear hwn55
        refine wpAnyH_ready (rs := [23]) (by kernel_rfl) (by simp) ?_
        refine (AllReadyH.cons rfl (fun K hK => ?_) AllReadyH.nil)
        go_simp
        refine (CVA.out _ _ FA.out I22.out).mono ?_
        rintro e w56 ⟨rfl, hst⟩
        replace FA := Lib.hid (FA.out.below hst)
        replace FB := Lib.hid (FB.out.below hst)
        replace FM := Lib.hid (FM.out.below hst)
        replace I19 := Lib.hid (I19.out.below hst)
        replace I25 := Lib.hid (I25.out.below hst)
        replace I22 := Lib.hid (I22.out.below hst)
        replace HBW := Lib.hid (below_chV HBW.out hst)
        clear hst
        refine hK.out _ _ (HS0.out _ HBW.out) (fun hHeld => ?_)
        clear hK K
        (try simp only [List.getElem_toArray, List.getElem_cons_succ, List.getElem_cons_zero, Act.put, List.setIfInBounds_toArray, List.set_cons_zero, List.set_cons_succ, bne_self_eq_false])
        refine wpAnyH_ready (rs := [26]) (by kernel_rfl) (by simp) ?_
        refine (AllReadyH.cons rfl (fun K hK => ?_) AllReadyH.nil)
        go_simp
        refine (CVB.out _ _ FB.out I25.out).mono ?_
        rintro e w57 ⟨rfl, hst⟩
        replace FA := Lib.hid (FA.out.below hst)
        replace FB := Lib.hid (FB.out.below hst)
        replace FM := Lib.hid (FM.out.below hst)
        replace I19 := Lib.hid (I19.out.below hst)
        replace I25 := Lib.hid (I25.out.below hst)
        replace I22 := Lib.hid (I22.out.below hst)
        replace HBW := Lib.hid (below_chV HBW.out hst)
        clear hst
        refine hK.out _ _ (HS0.out _ HBW.out) (fun hHeld => ?_)
        clear hK K
        (try simp only [List.getElem_toArray, List.getElem_cons_succ, List.getElem_cons_zero, Act.put, List.setIfInBounds_toArray, List.set_cons_zero, List.set_cons_succ, bne_self_eq_false])
        refine wpAnyH_take (i := 27) (v := ?v58) rfl (by kernel_rfl) (by kernel_rfl) (by kernel_rfl) (fun _ _ _ h => h) (Or.inl ⟨by rfl, ?hy58⟩) (by assumption) ?rest58
        case hy58 => intro w hSw; (try dsimp only at hSw); go_simp; try with_reducible rfl
        (try simp only [List.getElem_toArray, List.getElem_cons_succ, List.getElem_cons_zero, Act.put, List.setIfInBounds_toArray, List.set_cons_zero, List.set_cons_succ, bne_self_eq_false])
        refine wpAnyH_take (i := 28) (v := ?v59) rfl (by kernel_rfl) (by kernel_rfl) (by kernel_rfl) (fun _ _ _ h => h) (Or.inl ⟨by rfl, ?hy59⟩) (by assumption) ?rest59
        case hy59 => intro w hSw; (try dsimp only at hSw); go_simp; try with_reducible rfl
        (try simp only [List.getElem_toArray, List.getElem_cons_succ, List.getElem_cons_zero, Act.put, List.setIfInBounds_toArray, List.set_cons_zero, List.set_cons_succ, bne_self_eq_false])
        refine wpAnyH_take (i := 29) (v := ?v60) rfl (by kernel_rfl) (by kernel_rfl) (by kernel_rfl) (fun _ _ _ h => h) (Or.inl ⟨by rfl, ?hy60⟩) (by assumption) ?rest60
        case hy60 => intro w hSw; (try dsimp only at hSw); go_simp; try with_reducible rfl
        (try simp only [List.getElem_toArray, List.getElem_cons_succ, List.getElem_cons_zero, Act.put, List.setIfInBounds_toArray, List.set_cons_zero, List.set_cons_succ, bne_self_eq_false])
        refine wpAnyH_take (i := 30) (v := ?v61) rfl (by kernel_rfl) (by kernel_rfl) (by kernel_rfl) (fun _ _ _ h => h) (Or.inl ⟨by rfl, ?hy61⟩) (by assumption) ?rest61
        case hy61 => intro w hSw; (try dsimp only at hSw); go_simp; try with_reducible rfl
        (try simp only [List.getElem_toArray, List.getElem_cons_succ, List.getElem_cons_zero, Act.put, List.setIfInBounds_toArray, List.set_cons_zero, List.set_cons_succ, bne_self_eq_false])
        refine wpAnyH_done (by kernel_rfl) ?_ _
        go_wp2_with fail
        exact HQ.out _ _ _ _ _ _ _ _ _ _ _ _ _ HBW.out
      · skip
        go_simp
        have I22 := Lib.hid (ints35 w53)
        replace FA := Lib.hid (FA.out.below ((Below.refl _ _).alloc (Nat.le_refl _) (.cells #[.int .i64 3, .int .i64 5] 3)))
        replace FB := Lib.hid (FB.out.below ((Below.refl _ _).alloc (Nat.le_refl _) (.cells #[.int .i64 3, .int .i64 5] 3)))
        replace FM := Lib.hid (FM.out.below ((Below.refl _ _).alloc (Nat.le_refl _) (.cells #[.int .i64 3, .int .i64 5] 3)))
        replace I19 := Lib.hid (I19.out.below ((Below.refl _ _).alloc (Nat.le_refl _) (.cells #[.int .i64 3, .int .i64 5] 3)))
        replace I25 := Lib.hid (I25.out.below ((Below.refl _ _).alloc (Nat.le_refl _) (.cells #[.int .i64 3, .int .i64 5] 3)))
        replace HBW := Lib.hid (HBW.out.alloc HBW.out.size (.cells #[.int .i64 3, .int .i64 5] 3))
        refine hK.out _ _ (HS0.out _ HBW.out) (fun hHeld => ?_)
        clear hK K
        (try simp only [List.getElem_toArray, List.getElem_cons_succ, List.getElem_cons_zero, Act.put, List.setIfInBounds_toArray, List.set_cons_zero, List.set_cons_succ, bne_self_eq_false])
        generalize hwn62 : (w53.alloc (.cells #[.int .i64 3, .int .i64 5] 3)) = w62 at *
        clear hwn62
        refine wpAnyH_ready (rs := [20]) (by kernel_rfl) (by simp) ?_
        refine (AllReadyH.cons rfl (fun K hK => ?_) AllReadyH.nil)
        go_simp
        refine (CVM.out _ _ FM.out I19.out).mono ?_
        rintro e w63 ⟨rfl, hst⟩
        replace FA := Lib.hid (FA.out.below hst)
        replace FB := Lib.hid (FB.out.below hst)
        replace FM := Lib.hid (FM.out.below hst)
        replace I19 := Lib.hid (I19.out.below hst)
        replace I25 := Lib.hid (I25.out.below hst)
        replace I22 := Lib.hid (I22.out.below hst)
        replace HBW := Lib.hid (below_chV HBW.out hst)
        clear hst
        refine hK.out _ _ (HS0.out _ HBW.out) (fun hHeld => ?_)
        clear hK K
        (try simp only [List.getElem_toArray, List.getElem_cons_succ, List.getElem_cons_zero, Act.put, List.setIfInBounds_toArray, List.set_cons_zero, List.set_cons_succ, bne_self_eq_false])
        refine wpAnyH_ready (rs := [23]) (by kernel_rfl) (by simp) ?_
        refine (AllReadyH.cons rfl (fun K hK => ?_) AllReadyH.nil)
        go_simp
        refine (CVA.out _ _ FA.out I22.out).mono ?_
        rintro e w64 ⟨rfl, hst⟩
        replace FA := Lib.hid (FA.out.below hst)
        replace FB := Lib.hid (FB.out.below hst)
        replace FM := Lib.hid (FM.out.below hst)
        replace I19 := Lib.hid (I19.out.below hst)
        replace I25 := Lib.hid (I25.out.below hst)
        replace I22 := Lib.hid (I22.out.below hst)
        replace HBW := Lib.hid (below_chV HBW.out hst)
        clear hst
        refine hK.out _ _ (HS0.out _ HBW.out) (fun hHeld => ?_)
        clear hK K
        (try simp only [List.getElem_toArray, List.getElem_cons_succ, List.getElem_cons_zero, Act.put, List.setIfInBounds_toArray, List.set_cons_zero, List.set_cons_succ, bne_self_eq_false])
        refine wpAnyH_ready (rs := [26]) (by kernel_rfl) (by simp) ?_
        refine (AllReadyH.cons rfl (fun K hK => ?_) AllReadyH.nil)
        go_simp
        refine (CVB.out _ _ FB.out I25.out).mono ?_
        rintro e w65 ⟨rfl, hst⟩
        replace FA := Lib.hid (FA.out.below hst)
        replace FB := Lib.hid (FB.out.below hst)
        replace FM := Lib.hid (FM.out.below hst)
        replace I19 := Lib.hid (I19.out.below hst)
        replace I25 := Lib.hid (I25.out.below hst)
        replace I22 := Lib.hid (I22.out.below hst)
        replace HBW := Lib.hid (below_chV HBW.out hst)
        clear hst
        refine hK.out _ _ (HS0.out _ HBW.out) (fun hHeld => ?_)
        clear hK K
        (try simp only [List.getElem_toArray, List.getElem_cons_succ, List.getElem_cons_zero, Act.put, List.setIfInBounds_toArray, List.set_cons_zero, List.set_cons_succ, bne_self_eq_false])
        refine wpAnyH_take (i := 27) (v := ?v66) rfl (by kernel_rfl) (by kernel_rfl) (by kernel_rfl) (fun _ _ _ h => h) (Or.inl ⟨by rfl, ?hy66⟩) (by assumption) ?rest66
        case hy66 => intro w hSw; (try dsimp only at hSw); go_simp; try with_reducible rfl
        (try simp only [List.getElem_toArray, List.getElem_cons_succ, List.getElem_cons_zero, Act.put, List.setIfInBounds_toArray, List.set_cons_zero, List.set_cons_succ, bne_self_eq_false])
        refine wpAnyH_take (i := 28) (v := ?v67) rfl (by kernel_rfl) (by kernel_rfl) (by kernel_rfl) (fun _ _ _ h => h) (Or.inl ⟨by rfl, ?hy67⟩) (by assumption) ?rest67
        case hy67 => intro w hSw; (try dsimp only at hSw); go_simp; try with_reducible rfl
        (try simp only [List.getElem_toArray, List.getElem_cons_succ, List.getElem_cons_zero, Act.put, List.setIfInBounds_toArray, List.set_cons_zero, List.set_cons_succ, bne_self_eq_false])
        refine wpAnyH_take (i := 29) (v := ?v68) rfl (by kernel_rfl) (by kernel_rfl) (by kernel_rfl) (fun _ _ _ h => h) (Or.inl ⟨by rfl, ?hy68⟩) (by assumption) ?rest68
        case hy68 => intro w hSw; (try dsimp only at hSw); go_simp; try with_reducible rfl
        (try simp only [List.getElem_toArray, List.getElem_cons_succ, List.getElem_cons_zero, Act.put, List.setIfInBounds_toArray, List.set_cons_zero, List.set_cons_succ, bne_self_eq_false])
        refine wpAnyH_take (i := 30) (v := ?v69) rfl (by kernel_rfl) (by kernel_rfl) (by kernel_rfl) (fun _ _ _ h => h) (Or.inl ⟨by rfl, ?hy69⟩) (by assumption) ?rest69
        case hy69 => intro w hSw; (try dsimp only at hSw); go_simp; try with_reducible rfl
        (try simp only [List.getElem_toArray, List.getElem_cons_succ, List.getElem_cons_zero, Act.put, List.setIfInBounds_toArray, List.set_cons_zero, List.set_cons_succ, bne_self_eq_false])
        refine wpAnyH_done (by kernel_rfl) ?_ _
        go_wp2_with fail
        exact HQ.out _ _ _ _ _ _ _ _ _ _ _ _ _ HBW.out
  · skip
    go_simp
    have I22 := Lib.hid (ints35 w1)
    replace FA := Lib.hid (FA.out.below ((Below.refl _ _).alloc (Nat.le_refl _) (.cells #[.int .i64 3, .int .i64 5] 3)))
    replace FB := Lib.hid (FB.out.below ((Below.refl _ _).alloc (Nat.le_refl _) (.cells #[.int .i64 3, .int .i64 5] 3)))
    replace FM := Lib.hid (FM.out.below ((Below.refl _ _).alloc (Nat.le_refl _) (.cells #[.int .i64 3, .int .i64 5] 3)))
    replace HBW := Lib.hid (HBW.out.alloc HBW.out.size (.cells #[.int .i64 3, .int .i64 5] 3))
    refine hK.out _ _ (HS0.out _ HBW.out) (fun hHeld => ?_)
    clear hK K
    (try simp only [List.getElem_toArray, List.getElem_cons_succ, List.getElem_cons_zero, Act.put, List.setIfInBounds_toArray, List.set_cons_zero, List.set_cons_succ, bne_self_eq_false])
    generalize hwn70 : (w1.alloc (.cells #[.int .i64 3, .int .i64 5] 3)) = w70 at *
    clear hwn70
    refine wpAnyH_ready (rs := [19, 25]) (by kernel_rfl) (by simp) ?_
    refine (AllReadyH.cons rfl (fun K hK => ?_) (AllReadyH.cons rfl (fun K hK => ?_) AllReadyH.nil))
    · skip
      go_simp
      have I19 := Lib.hid (ints35 w70)
      replace FA := Lib.hid (FA.out.below ((Below.refl _ _).alloc (Nat.le_refl _) (.cells #[.int .i64 3, .int .i64 5] 3)))
      replace FB := Lib.hid (FB.out.below ((Below.refl _ _).alloc (Nat.le_refl _) (.cells #[.int .i64 3, .int .i64 5] 3)))
      replace FM := Lib.hid (FM.out.below ((Below.refl _ _).alloc (Nat.le_refl _) (.cells #[.int .i64 3, .int .i64 5] 3)))
      replace I22 := Lib.hid (I22.out.below ((Below.refl _ _).alloc (Nat.le_refl _) (.cells #[.int .i64 3, .int .i64 5] 3)))
      replace HBW := Lib.hid (HBW.out.alloc HBW.out.size (.cells #[.int .i64 3, .int .i64 5] 3))
      refine hK.out _ _ (HS0.out _ HBW.out) (fun hHeld => ?_)
      clear hK K
      (try simp only [List.getElem_toArray, List.getElem_cons_succ, List.getElem_cons_zero, Act.put, List.setIfInBounds_toArray, List.set_cons_zero, List.set_cons_succ, bne_self_eq_false])
      generalize hwn71 : (w70.alloc (.cells #[.int .i64 3, .int .i64 5] 3)) = w71 at *
      clear hwn71
      refine wpAnyH_ready (rs := [20, 25]) (by kernel_rfl) (by simp) ?_
      refine (AllReadyH.cons rfl (fun K hK => ?_) (AllReadyH.cons rfl (fun K hK => ?_) AllReadyH.nil))
      · skip
        go_simp
        refine (CVM.out _ _ FM.out I19.out).mono ?_
        rintro e w72 ⟨rfl, hst⟩
        replace FA := Lib.hid (FA.out.below hst)
        replace FB := Lib.hid (FB.out.below hst)
        replace FM := Lib.hid (FM.out.below hst)
        replace I22 := Lib.hid (I22.out.below hst)
        replace I19 := Lib.hid (I19.out.below hst)
        replace HBW := Lib.hid (below_chV HBW.out hst)
        clear hst
        refine hK.out _ _ (HS0.out _ HBW.out) (fun hHeld => ?_)
        clear hK K
        (try simp only [List.getElem_toArray, List.getElem_cons_succ, List.getElem_cons_zero, Act.put, List.setIfInBounds_toArray, List.set_cons_zero, List.set_cons_succ, bne_self_eq_false])
        refine wpAnyH_ready (rs := [23, 25]) (by kernel_rfl) (by simp) ?_
        refine (AllReadyH.cons rfl (fun K hK => ?_) (AllReadyH.cons rfl (fun K hK => ?_) AllReadyH.nil))
        · skip
          go_simp
          refine (CVA.out _ _ FA.out I22.out).mono ?_
          rintro e w73 ⟨rfl, hst⟩
          replace FA := Lib.hid (FA.out.below hst)
          replace FB := Lib.hid (FB.out.below hst)
          replace FM := Lib.hid (FM.out.below hst)
          replace I22 := Lib.hid (I22.out.below hst)
          replace I19 := Lib.hid (I19.out.below hst)
          replace HBW := Lib.hid (below_chV HBW.out hst)
          clear hst
          refine hK.out _ _ (HS0.out _ HBW.out) (fun hHeld => ?_)
          clear hK K
          (try simp only [List.getElem_toArray, List.getElem_cons_succ, List.getElem_cons_zero, Act.put, List.setIfInBounds_toArray, List.set_cons_zero, List.set_cons_succ, bne_self_eq_false])
          refine wpAnyH_ready (rs := [25]) (by kernel_rfl) (by simp) ?_
          refine (AllReadyH.cons rfl (fun K hK => ?_) AllReadyH.nil)
          go_simp
          have I25 := Lib.hid (ints35 w73)
          replace FA := Lib.hid (FA.out.below ((Below.refl _ _).alloc (Nat.le_refl _) (.cells #[.int .i64 3, .int .i64 5] 3)))
          replace FB := Lib.hid (FB.out.below ((Below.refl _ _).alloc (Nat.le_refl _) (.cells #[.int .i64 3, .int .i64 5] 3)))
          replace FM := Lib.hid (FM.out.below ((Below.refl _ _).alloc (Nat.le_refl _) (.cells #[.int .i64 3, .int .i64 5] 3)))
          replace I22 := Lib.hid (I22.out.below ((Below.refl _ _).alloc (Nat.le_refl _) (.cells #[.int .i64 3, .int .i64 5] 3)))
          replace I19 := Lib.hid (I19.out.below ((Below.refl _ _).alloc (Nat.le_refl _) (.cells #[.int .i64 3, .int .i64 5] 3)))
          replace HBW := Lib.hid (HBW.out.alloc HBW.out.size (.cells #[.int .i64 3, .int .i64 5] 3))
          refine hK.out _ _ (HS0.out _ HBW.out) (fun hHeld => ?_)
          clear hK K
          (try simp only [List.getElem_toArray, List.getElem_cons_succ, List.getElem_cons_zero, Act.put, List.setIfInBounds_toArray, List.set_cons_zero, List.set_cons_succ, bne_self_eq_false])
          generalize hwn74 : (w73.alloc (.cells #[.int .i64 3, .int .i64 5] 3)) = w74 at *
          clear hwn74
          refine wpAnyH_ready (rs := [26]) (by kernel_rfl) (by simp) ?_
          refine (AllReadyH.cons rfl (fun K hK => ?_) AllReadyH.nil)
          go_simp
          refine (CVB.out _ _ FB.out I25.out).mono ?_
          rintro e w75 ⟨rfl, hst⟩
          replace FA := Lib.hid (FA.out.below hst)
          replace FB := Lib.hid (FB.out.below hst)
          replace FM := Lib.hid (FM.out.below hst)
          replace I22 := Lib.hid (I22.out.below hst)
          replace I19 := Lib.hid (I19.out.below hst)
          replace I25 := Lib.hid (I25.out.below hst)
          replace HBW := Lib.hid (below_chV HBW.out hst)
          clear hst
          refine hK.out _ _ (HS0.out _ HBW.out) (fun hHeld => ?_)
          clear hK K
          (try simp only [List.getElem_toArray, List.getElem_cons_succ, List.getElem_cons_zero, Act.put, List.setIfInBounds_toArray, List.set_cons_zero, List.set_cons_succ, bne_self_eq_false])
          refine wpAnyH_take (i := 27) (v := ?v76) rfl (by kernel_rfl) (by kernel_rfl) (by kernel_rfl) (fun _ _ _ h => h) (Or.inl ⟨by rfl, ?hy76⟩) (by assumption) ?rest76
          case hy76 => intro w hSw; (try dsimp only at hSw); go_simp; try with_reducible rfl
          (try simp only [List.getElem_toArray, List.getElem_cons_succ, List.getElem_cons_zero, Act.put, List.setIfInBounds_toArray, List.set_cons_zero, List.set_cons_succ, bne_self_eq_false])
          refine wpAnyH_take (i := 28) (v := ?v77) rfl (by kernel_rfl) (by kernel_rfl) (by kernel_rfl) (fun _ _ _ h => h) (Or.inl ⟨by rfl, ?hy77⟩) (by assumption) ?rest77
          case hy77 => intro w hSw; (try dsimp only at hSw); go_simp; try with_reducible rfl
          (try simp only [List.getElem_toArray, List.getElem_cons_succ, List.getElem_cons_zero, Act.put, List.setIfInBounds_toArray, List.set_cons_zero, List.set_cons_succ, bne_self_eq_false])
          refine wpAnyH_take (i := 29) (v := ?v78) rfl (by kernel_rfl) (by kernel_rfl) (by kernel_rfl) (fun _ _ _ h => h) (Or.inl ⟨by rfl, ?hy78⟩) (by assumption) ?rest78
          case hy78 => intro w hSw; (try dsimp only at hSw); go_simp; try with_reducible rfl
          (try simp only [List.getElem_toArray, List.getElem_cons_succ, List.getElem_cons_zero, Act.put, List.setIfInBounds_toArray, List.set_cons_zero, List.set_cons_succ, bne_self_eq_false])
          refine wpAnyH_take (i := 30) (v := ?v79) rfl (by kernel_rfl) (by kernel_rfl) (by kernel_rfl) (fun _ _ _ h => h) (Or.inl ⟨by rfl, ?hy79⟩) (by assumption) ?rest79
          case hy79 => intro w hSw; (try dsimp only at hSw); go_simp; try with_reducible rfl
          (try simp only [List.getElem_toArray, List.getElem_cons_succ, List.getElem_cons_zero, Act.put, List.setIfInBounds_toArray, List.set_cons_zero, List.set_cons_succ, bne_self_eq_false])
          refine wpAnyH_done (by kernel_rfl) ?_ _
          go_wp2_with fail
          exact HQ.out _ _ _ _ _ _ _ _ _ _ _ _ _ HBW.out
        · skip
          go_simp
          have I25 := Lib.hid (ints35 w72)
          replace FA := Lib.hid (FA.out.below ((Below.refl _ _).alloc (Nat.le_refl _) (.cells #[.int .i64 3, .int .i64 5] 3)))
          replace FB := Lib.hid (FB.out.below ((Below.refl _ _).alloc (Nat.le_refl _) (.cells #[.int .i64 3, .int .i64 5] 3)))
          replace FM := Lib.hid (FM.out.below ((Below.refl _ _).alloc (Nat.le_refl _) (.cells #[.int .i64 3, .int .i64 5] 3)))
          replace I22 := Lib.hid (I22.out.below ((Below.refl _ _).alloc (Nat.le_refl _) (.cells #[.int .i64 3, .int .i64 5] 3)))
          replace I19 := Lib.hid (I19.out.below ((Below.refl _ _).alloc (Nat.le_refl _) (.cells #[.int .i64 3, .int .i64 5] 3)))
          replace HBW := Lib.hid (HBW.out.alloc HBW.out.size (.cells #[.int .i64 3, .int .i64 5] 3))
          refine hK.out _ _ (HS0.out _ HBW.out) (fun hHeld => ?_)
          clear hK K
          (try simp only [List.getElem_toArray, List.getElem_cons_succ, List.getElem_cons_zero, Act.put, List.setIfInBounds_toArray, List.set_cons_zero, List.set_cons_succ, bne_self_eq_false])
          generalize hwn80 : (w72.alloc (.cells #[.int .i64 3, .int .i64 5] 3)) = w80 at *
          clear hwn80
          refine wpAnyH_ready (rs := [23]) (by kernel_rfl) (by simp) ?_
          refine (AllReadyH.cons rfl (fun K hK => ?_) AllReadyH.nil)
          go_simp
          refine (CVA.out _ _ FA.out I22.out).mono ?_
          rintro e w81 ⟨rfl, hst⟩
          replace FA := Lib.hid (FA.out.below hst)
          replace FB := Lib.hid (FB.out.below hst)
          replace FM := Lib.hid (FM.out.below hst)
          replace I22 := Lib.hid (I22.out.below hst)
          replace I19 := Lib.hid (I19.out.below hst)
          replace I25 := Lib.hid (I25.out.below hst)
          replace HBW := Lib.hid (below_chV HBW.out hst)
          clear hst
          refine hK.out _ _ (HS0.out _ HBW.out) (fun hHeld => ?_)
          clear hK K
          (try simp only [List.getElem_toArray, List.getElem_cons_succ, List.getElem_cons_zero, Act.put, List.setIfInBounds_toArray, List.set_cons_zero, List.set_cons_succ, bne_self_eq_false])
          refine wpAnyH_ready (rs := [26]) (by kernel_rfl) (by simp) ?_
          refine (AllReadyH.cons rfl (fun K hK => ?_) AllReadyH.nil)
          go_simp
          refine (CVB.out _ _ FB.out I25.out).mono ?_
          rintro e w82 ⟨rfl, hst⟩
          replace FA := Lib.hid (FA.out.below hst)
          replace FB := Lib.hid (FB.out.below hst)
          replace FM := Lib.hid (FM.out.below hst)
          replace I22 := Lib.hid (I22.out.below hst)
          replace I19 := Lib.hid (I19.out.below hst)
          replace I25 := Lib.hid (I25.out.below hst)
          replace HBW := Lib.hid (below_chV HBW.out hst)
          clear hst
          refine hK.out _ _ (HS0.out _ HBW.out) (fun hHeld => ?_)
          clear hK K
          (try simp only [List.getElem_toArray, List.getElem_cons_succ, List.getElem_cons_zero, Act.put, List.setIfInBounds_toArray, List.set_cons_zero, List.set_cons_succ, bne_self_eq_false])
          refine wpAnyH_take (i := 27) (v := ?v83) rfl (by kernel_rfl) (by kernel_rfl) (by kernel_rfl) (fun _ _ _ h => h) (Or.inl ⟨by rfl, ?hy83⟩) (by assumption) ?rest83
          case hy83 => intro w hSw; (try dsimp only at hSw); go_simp; try with_reducible rfl
          (try simp only [List.getElem_toArray, List.getElem_cons_succ, List.getElem_cons_zero, Act.put, List.setIfInBounds_toArray, List.set_cons_zero, List.set_cons_succ, bne_self_eq_false])
          refine wpAnyH_take (i := 28) (v := ?v84) rfl (by kernel_rfl) (by kernel_rfl) (by kernel_rfl) (fun _ _ _ h => h) (Or.inl ⟨by rfl, ?hy84⟩) (by assumption) ?rest84
          case hy84 => intro w hSw; (try dsimp only at hSw); go_simp; try with_reducible rfl
          (try simp only [List.getElem_toArray, List.getElem_cons_succ, List.getElem_cons_zero, Act.put, List.setIfInBounds_toArray, List.set_cons_zero, List.set_cons_succ, bne_self_eq_false])
          refine wpAnyH_take (i := 29) (v := ?v85) rfl (by kernel_rfl) (by kernel_rfl) (by kernel_rfl) (fun _ _ _ h => h) (Or.inl ⟨by rfl, ?hy85⟩) (by assumption) ?rest85
          case hy85 => intro w hSw; (try dsimp only at hSw); go_simp; try with_reducible rfl
          (try simp only [List.getElem_toArray, List.getElem_cons_succ, List.getElem_cons_zero, Act.put, List.setIfInBounds_toArray, List.set_cons_zero, List.set_cons_succ, bne_self_eq_false])
          refine wpAnyH_take (i := 30) (v := ?v86) rfl (by kernel_rfl) (by kernel_rfl) (by kernel_rfl) (fun _ _ _ h => h) (Or.inl ⟨by rfl, ?hy86⟩) (by assumption) ?rest86
          case hy86 => intro w hSw; (try dsimp only at hSw); go_simp; try with_reducible rfl
          (try simp only [List.getElem_toArray, List.getElem_cons_succ, List.getElem_cons_zero, Act.put, List.setIfInBounds_toArray, List.set_cons_zero, List.set_cons_succ, bne_self_eq_false])
          refine wpAnyH_done (by kernel_rfl) ?_ _
          go_wp2_with fail
          exact HQ.out _ _ _ _ _ _ _ _ _ _ _ _ _ HBW.out
      · skip
        go_simp
        have I25 := Lib.hid (ints35 w71)
        replace FA := Lib.hid (FA.out.below ((Below.refl _ _).alloc (Nat.le_refl _) (.cells #[.int .i64 3, .int .i64 5] 3)))
        replace FB := Lib.hid (FB.out.below ((Below.refl _ _).alloc (Nat.le_refl _) (.cells #[.int .i64 3, .int .i64 5] 3)))
        replace FM := Lib.hid (FM.out.below ((Below.refl _ _).alloc (Nat.le_refl _) (.cells #[.int .i64 3, .int .i64 5] 3)))
        replace I22 := Lib.hid (I22.out.below ((Below.refl _ _).alloc (Nat.le_refl _) (.cells #[.int .i64 3, .int .i64 5] 3)))
        replace I19 := Lib.hid (I19.out.below ((Below.refl _ _).alloc (Nat.le_refl _) (.cells #[.int .i64 3, .int .i64 5] 3)))
        replace HBW := Lib.hid (HBW.out.alloc HBW.out.size (.cells #[.int .i64 3, .int .i64 5] 3))
        refine hK.out _ _ (HS0.out _ HBW.out) (fun hHeld => ?_)
        clear hK K
        (try simp only [List.getElem_toArray, List.getElem_cons_succ, List.getElem_cons_zero, Act.put, List.setIfInBounds_toArray, List.set_cons_zero, List.set_cons_succ, bne_self_eq_false])
        generalize hwn87 : (w71.alloc (.cells #[.int .i64 3, .int .i64 5] 3)) = w87 at *
        clear hwn87
        refine wpAnyH_ready (rs := [20]) (by kernel_rfl) (by simp) ?_
        refine (AllReadyH.cons rfl (fun K hK => ?_) AllReadyH.nil)
        go_simp
        refine (CVM.out _ _ FM.out I19.out).mono ?_
        rintro e w88 ⟨rfl, hst⟩
        replace FA := Lib.hid (FA.out.below hst)
        replace FB := Lib.hid (FB.out.below hst)
        replace FM := Lib.hid (FM.out.below hst)
        replace I22 := Lib.hid (I22.out.below hst)
        replace I19 := Lib.hid (I19.out.below hst)
        replace I25 := Lib.hid (I25.out.below hst)
        replace HBW := Lib.hid (below_chV HBW.out hst)
        clear hst
        refine hK.out _ _ (HS0.out _ HBW.out) (fun hHeld => ?_)
        clear hK K
        (try simp only [List.getElem_toArray, List.getElem_cons_succ, List.getElem_cons_zero, Act.put, List.setIfInBounds_toArray, List.set_cons_zero, List.set_cons_succ, bne_self_eq_false])
        refine wpAnyH_ready (rs := [23]) (by kernel_rfl) (by simp) ?_
        refine (AllReadyH.cons rfl (fun K hK => ?_) AllReadyH.nil)
        go_simp
        refine (CVA.out _ _ FA.out I22.out).mono ?_
        rintro e w89 ⟨rfl, hst⟩
        replace FA := Lib.hid (FA.out.below hst)
        replace FB := Lib.hid (FB.out.below hst)
        replace FM := Lib.hid (FM.out.below hst)
        replace I22 := Lib.hid (I22.out.below hst)
        replace I19 := Lib.hid (I19.out.below hst)
        replace I25 := Lib.hid (I25.out.below hst)
        replace HBW := Lib.hid (below_chV HBW.out hst)
        clear hst
        refine hK.out _ _ (HS0.out _ HBW.out) (fun hHeld => ?_)
        clear hK K
        (try simp only [List.getElem_toArray, List.getElem_cons_succ, List.getElem_cons_zero, Act.put, List.setIfInBounds_toArray, List.set_cons_zero, List.set_cons_succ, bne_self_eq_false])
        refine wpAnyH_ready (rs := [26]) (by kernel_rfl) (by simp) ?_
        refine (AllReadyH.cons rfl (fun K hK => ?_) AllReadyH.nil)
        go_simp
        refine (CVB.out _ _ FB.out I25.out).mono ?_
        rintro e w90 ⟨rfl, hst⟩
        replace FA := Lib.hid (FA.out.below hst)
        replace FB := Lib.hid (FB.out.below hst)
        replace FM := Lib.hid (FM.out.below hst)
        replace I22 := Lib.hid (I22.out.below hst)
        replace I19 := Lib.hid (I19.out.below hst)
        replace I25 := Lib.hid (I25.out.below hst)
        replace HBW := Lib.hid (below_chV HBW.out hst)
        clear hst
        refine hK.out _ _ (HS0.out _ HBW.out) (fun hHeld => ?_)
        clear hK K
        (try simp only [List.getElem_toArray, List.getElem_cons_succ, List.getElem_cons_zero, Act.put, List.setIfInBounds_toArray, List.set_cons_zero, List.set_cons_succ, bne_self_eq_false])
        refine wpAnyH_take (i := 27) (v := ?v91) rfl (by kernel_rfl) (by kernel_rfl) (by kernel_rfl) (fun _ _ _ h => h) (Or.inl ⟨by rfl, ?hy91⟩) (by assumption) ?rest91
        case hy91 => intro w hSw; (try dsimp only at hSw); go_simp; try with_reducible rfl
        (try simp only [List.getElem_toArray, List.getElem_cons_succ, List.getElem_cons_zero, Act.put, List.setIfInBounds_toArray, List.set_cons_zero, List.set_cons_succ, bne_self_eq_false])
        refine wpAnyH_take (i := 28) (v := ?v92) rfl (by kernel_rfl) (by kernel_rfl) (by kernel_rfl) (fun _ _ _ h => h) (Or.inl ⟨by rfl, ?hy92⟩) (by assumption) ?rest92
        case hy92 => intro w hSw; (try dsimp only at hSw); go_simp; try with_reducible rfl
        (try simp only [List.getElem_toArray, List.getElem_cons_succ, List.getElem_cons_zero, Act.put, List.setIfInBounds_toArray, List.set_cons_zero, List.set_cons_succ, bne_self_eq_false])
        refine wpAnyH_take (i := 29) (v := ?v93) rfl (by kernel_rfl) (by kernel_rfl) (by kernel_rfl) (fun _ _ _ h => h) (Or.inl ⟨by rfl, ?hy93⟩) (by assumption) ?rest93
        case hy93 => intro w hSw; (try dsimp only at hSw); go_simp; try with_reducible rfl
        (try simp only [List.getElem_toArray, List.getElem_cons_succ, List.getElem_cons_zero, Act.put, List.setIfInBounds_toArray, List.set_cons_zero, List.set_cons_succ, bne_self_eq_false])
        refine wpAnyH_take (i := 30) (v := ?v94) rfl (by kernel_rfl) (by kernel_rfl) (by kernel_rfl) (fun _ _ _ h => h) (Or.inl ⟨by rfl, ?hy94⟩) (by assumption) ?rest94
        case hy94 => intro w hSw; (try dsimp only at hSw); go_simp; try with_reducible rfl
        (try simp only [List.getElem_toArray, List.getElem_cons_succ, List.getElem_cons_zero, Act.put, List.setIfInBounds_toArray, List.set_cons_zero, List.set_cons_succ, bne_self_eq_false])
        refine wpAnyH_done (by kernel_rfl) ?_ _
        go_wp2_with fail
        exact HQ.out _ _ _ _ _ _ _ _ _ _ _ _ _ HBW.out
    · skip
      go_simp
      have I25 := Lib.hid (ints35 w70)
      replace FA := Lib.hid (FA.out.below ((Below.refl _ _).alloc (Nat.le_refl _) (.cells #[.int .i64 3, .int .i64 5] 3)))
      replace FB := Lib.hid (FB.out.below ((Below.refl _ _).alloc (Nat.le_refl _) (.cells #[.int .i64 3, .int .i64 5] 3)))
      replace FM := Lib.hid (FM.out.below ((Below.refl _ _).alloc (Nat.le_refl _) (.cells #[.int .i64 3, .int .i64 5] 3)))
      replace I22 := Lib.hid (I22.out.below ((Below.refl _ _).alloc (Nat.le_refl _) (.cells #[.int .i64 3, .int .i64 5] 3)))
      replace HBW := Lib.hid (HBW.out.alloc HBW.out.size (.cells #[.int .i64 3, .int .i64 5] 3))
      refine hK.out _ _ (HS0.out _ HBW.out) (fun hHeld => ?_)
      clear hK K
      (try simp only [List.getElem_toArray, List.getElem_cons_succ, List.getElem_cons_zero, Act.put, List.setIfInBounds_toArray, List.set_cons_zero, List.set_cons_succ, bne_self_eq_false])
      generalize hwn95 : (w70.alloc (.cells #[.int .i64 3, .int .i64 5] 3)) = w95 at *
      clear hwn95
      refine wpAnyH_ready (rs := [19]) (by kernel_rfl) (by simp) ?_
      refine (AllReadyH.cons rfl (fun K hK => ?_) AllReadyH.nil)
      go_simp
      have I19 := Lib.hid (ints35 w95)
      replace FA := Lib.hid (FA.out.below ((Below.refl _ _).alloc (Nat.le_refl _) (.cells #[.int .i64 3, .int .i64 5] 3)))
      replace FB := Lib.hid (FB.out.below ((Below.refl _ _).alloc (Nat.le_refl _) (.cells #[.int .i64 3, .int .i64 5] 3)))
      replace FM := Lib.hid (FM.out.below ((Below.refl _ _).alloc (Nat.le_refl _) (.cells #[.int .i64 3, .int .i64 5] 3)))
      replace I22 := Lib.hid (I22.out.below ((Below.refl _ _).alloc (Nat.le_refl _) (.cells #[.int .i64 3, .int .i64 5] 3)))
      replace I25 := Lib.hid (I25.out.below ((Below.refl _ _).alloc (Nat.le_refl _) (.cells #[.int .i64 3, .int .i64 5] 3)))
      replace HBW := Lib.hid (HBW.out.alloc HBW.out.size (.cells #[.int .i64 3, .int .i64 5] 3))
      refine hK.out _ _ (HS0.out _ HBW.out) (fun hHeld => ?_)
      clear hK K
      (try simp only [List.getElem_toArray, List.getElem_cons_succ, List.getElem_cons_zero, Act.put, List.setIfInBounds_toArray, List.set_cons_zero, List.set_cons_succ, bne_self_eq_false])
      generalize hwn96 : (w95.alloc (.cells #[.int .i64 3, .int .i64 5] 3)) = w96 at *
      clear hwn96
      refine wpAnyH_ready (rs := [20]) (by kernel_rfl) (by simp) ?_
      refine (AllReadyH.cons rfl (fun K hK => ?_) AllReadyH.nil)
      go_simp
      refine (CVM.out _ _ FM.out I19.out).mono ?_
      rintro e w97 ⟨rfl, hst⟩
      replace FA := Lib.hid (FA.out.below hst)
      replace FB := Lib.hid (FB.out.below hst)
      replace FM := Lib.hid (FM.out.below hst)
      replace I22 := Lib.hid (I22.out.below hst)
      replace I25 := Lib.hid (I25.out.below hst)
      replace I19 := Lib.hid (I19.out.below hst)
      replace HBW := Lib.hid (below_chV HBW.out hst)
      clear hst
      refine hK.out _ _ (HS0.out _ HBW.out) (fun hHeld => ?_)
      clear hK K
      (try simp only [List.getElem_toArray, List.getElem_cons_succ, List.getElem_cons_zero, Act.put, List.setIfInBounds_toArray, List.set_cons_zero, List.set_cons_succ, bne_self_eq_false])
      refine wpAnyH_ready (rs := [23]) (by kernel_rfl) (by simp) ?_
      refine (AllReadyH.cons rfl (fun K hK => ?_) AllReadyH.nil)
      go_simp
      refine (CVA.out _ _ FA.out I22.out).mono ?_
      rintro e w98 ⟨rfl, hst⟩
      replace FA := Lib.hid (FA.out.below hst)
      replace FB := Lib.hid (FB.out.below hst)
      replace FM := Lib.hid (FM.out.below hst)
      replace I22 := Lib.hid (I22.out.below hst)
      replace I25 := Lib.hid (I25.out.below hst)
      replace I19 := Lib.hid (I19.out.below hst)
      replace HBW := Lib.hid (below_chV HBW.out hst)
      clear hst
      refine hK.out _ _ (HS0.out _ HBW.out) (fun hHeld => ?_)
      clear hK K
      (try simp only [List.getElem_toArray, List.getElem_cons_succ, List.getElem_cons_zero, Act.put, List.setIfInBounds_toArray, List.set_cons_zero, List.set_cons_succ, bne_self_eq_false])
      refine wpAnyH_ready (rs := [26]) (by kernel_rfl) (by simp) ?_
      refine (AllReadyH.cons rfl (fun K hK => ?_) AllReadyH.nil)
      go_simp
      refine (CVB.out _ _ FB.out I25.out).mono ?_
      rintro e w99 ⟨rfl, hst⟩
      replace FA := Lib.hid (FA.out.below hst)
      replace FB := Lib.hid (FB.out.below hst)
      replace FM := Lib.hid (FM.out.below hst)
      replace I22 := Lib.hid (I22.out.below hst)
      replace I25 := Lib.hid (I25.out.below hst)
      replace I19 := Lib.hid (I19.out.below hst)
      replace HBW := Lib.hid (below_chV HBW.out hst)
      clear hst
      refine hK.out _ _ (HS0.out _ HBW.out) (fun hHeld => ?_)
      clear hK K
      (try simp only [List.getElem_toArray, List.getElem_cons_succ, List.getElem_cons_zero, Act.put, List.setIfInBounds_toArray, List.set_cons_zero, List.set_cons_succ, bne_self_eq_false])
      refine wpAnyH_take (i := 27) (v := ?v100) rfl (by kernel_rfl) (by kernel_rfl) (by kernel_rfl) (fun _ _ _ h => h) (Or.inl ⟨by rfl, ?hy100⟩) (by assumption) ?rest100
      case hy100 => intro w hSw; (try dsimp only at hSw); go_simp; try with_reducible rfl
      (try simp only [List.getElem_toArray, List.getElem_cons_succ, List.getElem_cons_zero, Act.put, List.setIfInBounds_toArray, List.set_cons_zero, List.set_cons_succ, bne_self_eq_false])
      refine wpAnyH_take (i := 28) (v := ?v101) rfl (by kernel_rfl) (by kernel_rfl) (by kernel_rfl) (fun _ _ _ h => h) (Or.inl ⟨by rfl, ?hy101⟩) (by assumption) ?rest101
      case hy101 => intro w hSw; (try dsimp only at hSw); go_simp; try with_reducible rfl
      (try simp only [List.getElem_toArray, List.getElem_cons_succ, List.getElem_cons_zero, Act.put, List.setIfInBounds_toArray, List.set_cons_zero, List.set_cons_succ, bne_self_eq_false])
      refine wpAnyH_take (i := 29) (v := ?v102) rfl (by kernel_rfl) (by kernel_rfl) (by kernel_rfl) (fun _ _ _ h => h) (Or.inl ⟨by rfl, ?hy102⟩) (by assumption) ?rest102
      case hy102 => intro w hSw; (try dsimp only at hSw); go_simp; try with_reducible rfl
      (try simp only [List.getElem_toArray, List.getElem_cons_succ, List.getElem_cons_zero, Act.put, List.setIfInBounds_toArray, List.set_cons_zero, List.set_cons_succ, bne_self_eq_false])
      refine wpAnyH_take (i := 30) (v := ?v103) rfl (by kernel_rfl) (by kernel_rfl) (by kernel_rfl) (fun _ _ _ h => h) (Or.inl ⟨by rfl, ?hy103⟩) (by assumption) ?rest103
      case hy103 => intro w hSw; (try dsimp only at hSw); go_simp; try with_reducible rfl
      (try simp only [List.getElem_toArray, List.getElem_cons_succ, List.getElem_cons_zero, Act.put, List.setIfInBounds_toArray, List.set_cons_zero, List.set_cons_succ, bne_self_eq_false])
      refine wpAnyH_done (by kernel_rfl) ?_ _
      go_wp2_with fail
      exact HQ.out _ _ _ _ _ _ _ _ _ _ _ _ _ HBW.out
  · skip
    go_simp
    have I25 := Lib.hid (ints35 w1)
    replace FA := Lib.hid (FA.out.below ((Below.refl _ _).alloc (Nat.le_refl _) (.cells #[.int .i64 3, .int .i64 5] 3)))
    replace FB := Lib.hid (FB.out.below ((Below.refl _ _).alloc (Nat.le_refl _) (.cells #[.int .i64 3, .int .i64 5] 3)))
    replace FM := Lib.hid (FM.out.below ((Below.refl _ _).alloc (Nat.le_refl _) (.cells #[.int .i64 3, .int .i64 5] 3)))
    replace HBW := Lib.hid (HBW.out.alloc HBW.out.size (.cells #[.int .i64 3, .int .i64 5] 3))
    refine hK.out _ _ (HS0.out _ HBW.out) (fun hHeld => ?_)
    clear hK K
    (try simp only [List.getElem_toArray, List.getElem_cons_succ, List.getElem_cons_zero, Act.put, List.setIfInBounds_toArray, List.set_cons_zero, List.set_cons_succ, bne_self_eq_false])
    generalize hwn104 : (w1.alloc (.cells #[.int .i64 3, .int .i64 5] 3)) = w104 at *
    clear hwn104
    refine wpAnyH_ready (rs := [19, 22]) (by kernel_rfl) (by simp) ?_
    refine (AllReadyH.cons rfl (fun K hK => ?_) (AllReadyH.cons rfl (fun K hK => ?_) AllReadyH.nil))
    · skip
      go_simp
      have I19 := Lib.hid (ints35 w104)
      replace FA := Lib.hid (FA.out.below ((Below.refl _ _).alloc (Nat.le_refl _) (.cells #[.int .i64 3, .int .i64 5] 3)))
      replace FB := Lib.hid (FB.out.below ((Below.refl _ _).alloc (Nat.le_refl _) (.cells #[.int .i64 3, .int .i64 5] 3)))
      replace FM := Lib.hid (FM.out.below ((Below.refl _ _).alloc (Nat.le_refl _) (.cells #[.int .i64 3, .int .i64 5] 3)))
      replace I25 := Lib.hid (I25.out.below ((Below.refl _ _).alloc (Nat.le_refl _) (.cells #[.int .i64 3, .int .i64 5] 3)))
      replace HBW := Lib.hid (HBW.out.alloc HBW.out.size (.cells #[.int .i64 3, .int .i64 5] 3))
      refine hK.out _ _ (HS0.out _ HBW.out) (fun hHeld => ?_)
      clear hK K
      (try simp only [List.getElem_toArray, List.getElem_cons_succ, List.getElem_cons_zero, Act.put, List.setIfInBounds_toArray, List.set_cons_zero, List.set_cons_succ, bne_self_eq_false])
      generalize hwn105 : (w104.alloc (.cells #[.int .i64 3, .int .i64 5] 3)) = w105 at *
      clear hwn105
      refine wpAnyH_ready (rs := [20, 22]) (by kernel_rfl) (by simp) ?_
      refine (AllReadyH.cons rfl (fun K hK => ?_) (AllReadyH.cons rfl (fun K hK => ?_) AllReadyH.nil))
      · skip
        go_simp
        refine (CVM.out _ _ FM.out I19.out).mono ?_
        rintro e w106 ⟨rfl, hst⟩
        replace FA := Lib.hid (FA.out.below hst)
        replace FB := Lib.hid (FB.out.below hst)
        replace FM := Lib.hid (FM.out.below hst)
        replace I25 := Lib.hid (I25.out.below hst)
        replace I19 := Lib.hid (I19.out.below hst)
        replace HBW := Lib.hid (below_chV HBW.out hst)
        clear hst
        refine hK.out _ _ (HS0.out _ HBW.out) (fun hHeld => ?_)
        clear hK K
        (try simp only [List.getElem_toArray, List.getElem_cons_succ, List.getElem_cons_zero, Act.put, List.setIfInBounds_toArray, List.set_cons_zero, List.set_cons_succ, bne_self_eq_false])
        refine wpAnyH_ready (rs := [22]) (by kernel_rfl) (by simp) ?_
        refine (AllReadyH.cons rfl (fun K hK => ?_) AllReadyH.nil)
        go_simp
        have I22 := Lib.hid (ints35 w106)
        replace FA := Lib.hid (FA.out.below ((Below.refl _ _).alloc (Nat.le_refl _) (.cells #[.int .i64 3, .int .i64 5] 3)))
        replace FB := Lib.hid (FB.out.below ((Below.refl _ _).alloc (Nat.le_refl _) (.cells #[.int .i64 3, .int .i64 5] 3)))
        replace FM := Lib.hid (FM.out.below ((Below.refl _ _).alloc (Nat.le_refl _) (.cells #[.int .i64 3, .int .i64 5] 3)))
        replace I25 := Lib.hid (I25.out.below ((Below.refl _ _).alloc (Nat.le_refl _) (.cells #[.int .i64 3, .int .i64 5] 3)))
        replace I19 := Lib.hid (I19.out.below ((Below.refl _ _).alloc (Nat.le_refl _) (.cells #[.int .i64 3, .int .i64 5] 3)))
        replace HBW := Lib.hid (HBW.out.alloc HBW.out.size (.cells #[.int .i64 3, .int .i64 5] 3))
        refine hK.out _ _ (HS0.out _ HBW.out) (fun hHeld => ?_)
        clear hK K
        (try simp only [List.getElem_toArray, List.getElem_cons_succ, List.getElem_cons_zero, Act.put, List.setIfInBounds_toArray, List.set_cons_zero, List.set_cons_succ, bne_self_eq_false])
        generalize hwn107 : (w106.alloc (.cells #[.int .i64 3, .int .i64 5] 3)) = w107 at *
        clear hwn107
        refine wpAnyH_ready (rs := [23]) (by kernel_rfl) (by simp) ?_
        refine (AllReadyH.cons rfl (fun K hK => ?_) AllReadyH.nil)
        go_simp
        refine (CVA.out _ _ FA.out I22.out).mono ?_
        rintro e w108 ⟨rfl, hst⟩
        replace FA := Lib.hid (FA.out.below hst)
        replace FB := Lib.hid (FB.out.below hst)
        replace FM := Lib.hid (FM.out.below hst)
        replace I25 := Lib.hid (I25.out.below hst)
        replace I19 := Lib.hid (I19.out.below hst)
        replace I22 := Lib.hid (I22.out.below hst)
        replace HBW := Lib.hid (below_chV HBW.out hst)
        clear hst
        refine hK.out _ _ (HS0.out _ HBW.out) (fun hHeld => ?_)
        clear hK K
        (try simp only [List.getElem_toArray, List.getElem_cons_succ, List.getElem_cons_zero, Act.put, List.setIfInBounds_toArray, List.set_cons_zero, List.set_cons_succ, bne_self_eq_false])
        refine wpAnyH_ready (rs := [26]) (by kernel_rfl) (by simp) ?_
        refine (AllReadyH.cons rfl (fun K hK => ?_) AllReadyH.nil)
        go_simp
        refine (CVB.out _ _ FB.out I25.out).mono ?_
        rintro e w109 ⟨rfl, hst⟩
        replace FA := Lib.hid (FA.out.below hst)
        replace FB := Lib.hid (FB.out.below hst)
        replace FM := Lib.hid (FM.out.below hst)
        replace I25 := Lib.hid (I25.out.below hst)
        replace I19 := Lib.hid (I19.out.below hst)
        replace I22 := Lib.hid (I22.out.below hst)
        replace HBW := Lib.hid (below_chV HBW.out hst)
        clear hst
        refine hK.out _ _ (HS0.out _ HBW.out) (fun hHeld => ?_)
        clear hK K
        (try simp only [List.getElem_toArray, List.getElem_cons_succ, List.getElem_cons_zero, Act.put, List.setIfInBounds_toArray, List.set_cons_zero, List.set_cons_succ, bne_self_eq_false])
        refine wpAnyH_take (i := 27) (v := ?v110) rfl (by kernel_rfl) (by kernel_rfl) (by kernel_rfl) (fun _ _ _ h => h) (Or.inl ⟨by rfl, ?hy110⟩) (by assumption) ?rest110
        case hy110 => intro w hSw; (try dsimp only at hSw); go_simp; try with_reducible rfl
        (try simp only [List.getElem_toArray, List.getElem_cons_succ, List.getElem_cons_zero, Act.put, List.setIfInBounds_toArray, List.set_cons_zero, List.set_cons_succ, bne_self_eq_false])
        refine wpAnyH_take (i := 28) (v := ?v111) rfl (by kernel_rfl) (by kernel_rfl) (by kernel_rfl) (fun _ _ _ h => h) (Or.inl ⟨by rfl, ?hy111⟩) (by assumption) ?rest111
        case hy111 => intro w hSw; (try dsimp only at hSw); go_simp; try with_reducible rfl
        (try simp only [List.getElem_toArray, List.getElem_cons_succ, List.getElem_cons_zero, Act.put, List.setIfInBounds_toArray, List.set_cons_zero, List.set_cons_succ, bne_self_eq_false])
        refine wpAnyH_take (i := 29) (v := ?v112) rfl (by kernel_rfl) (by kernel_rfl) (by kernel_rfl) (fun _ _ _ h => h) (Or.inl ⟨by rfl, ?hy112⟩) (by assumption) ?rest112
        case hy112 => intro w hSw; (try dsimp only at hSw); go_simp; try with_reducible rfl
        (try simp only [List.getElem_toArray, List.getElem_cons_succ, List.getElem_cons_zero, Act.put, List.setIfInBounds_toArray, List.set_cons_zero, List.set_cons_succ, bne_self_eq_false])
        refine wpAnyH_take (i := 30) (v := ?v113) rfl (by kernel_rfl) (by kernel_rfl) (by kernel_rfl) (fun _ _ _ h => h) (Or.inl ⟨by rfl, ?hy113⟩) (by assumption) ?rest113
        case hy113 => intro w hSw; (try dsimp only at hSw); go_simp; try with_reducible rfl
        (try simp only [List.getElem_toArray, List.getElem_cons_succ, List.getElem_cons_zero, Act.put, List.setIfInBounds_toArray, List.set_cons_zero, List.set_cons_succ, bne_self_eq_false])
        refine wpAnyH_done (by kernel_rfl) ?_ _
        go_wp2_with fail
        exact HQ.out _ _ _ _ _ _ _ _ _ _ _ _ _ HBW.out
      · skip
        go_simp
        have I22 := Lib.hid (ints35 w105)
        replace FA := Lib.hid (FA.out.below ((Below.refl _ _).alloc (Nat.le_refl _) (.cells #[.int .i64 3, .int .i64 5] 3)))
        replace FB := Lib.hid (FB.out.below ((Below.refl _ _).alloc (Nat.le_refl _) (.cells #[.int .i64 3, .int .i64 5] 3)))
        replace FM := Lib.hid (FM.out.below ((Below.refl _ _).alloc (Nat.le_refl _) (.cells #[.int .i64 3, .int .i64 5] 3)))
        replace I25 := Lib.hid (I25.out.below ((Below.refl _ _).alloc (Nat.le_refl _) (.cells #[.int .i64 3, .int .i64 5] 3)))
        replace I19 := Lib.hid (I19.out.below ((Below.refl _ _).alloc (Nat.le_refl _) (.cells #[.int .i64 3, .int .i64 5] 3)))
        replace HBW := Lib.hid (HBW.out.alloc HBW.out.size (.cells #[.int .i64 3, .int .i64 5] 3))
        refine hK.out _ _ (HS0.out _ HBW.out) (fun hHeld => ?_)
        clear hK K
        (try simp only [List.getElem_toArray, List.getElem_cons_succ, List.getElem_cons_zero, Act.put, List.setIfInBounds_toArray, List.set_cons_zero, List.set_cons_succ, bne_self_eq_false])
        generalize hwn114 : (w105.alloc (.cells #[.int .i64 3, .int .i64 5] 3)) = w114 at *
        clear hwn114
        refine wpAnyH_ready (rs := [20]) (by kernel_rfl) (by simp) ?_
        refine (AllReadyH.cons rfl (fun K hK => ?_) AllReadyH.nil)
        go_simp
        refine (CVM.out _ _ FM.out I19.out).mono ?_
        rintro e w115 ⟨rfl, hst⟩
        replace FA := Lib.hid (FA.out.below hst)
        replace FB := Lib.hid (FB.out.below hst)
        replace FM := Lib.hid (FM.out.below hst)
        replace I25 := Lib.hid (I25.out.below hst)
        replace I19 := Lib.hid (I19.out.below hst)
        replace I22 := Lib.hid (I22.out.below hst)
        replace HBW := Lib.hid (below_chV HBW.out hst)
        clear hst
        refine hK.out _ _ (HS0.out _ HBW.out) (fun hHeld => ?_)
        clear hK K
        (try simp only [List.getElem_toArray, List.getElem_cons_succ, List.getElem_cons_zero, Act.put, List.setIfInBounds_toArray, List.set_cons_zero, List.set_cons_succ, bne_self_eq_false])
        refine wpAnyH_ready (rs := [23]) (by kernel_rfl) (by simp) ?_
        refine (AllReadyH.cons rfl (fun K hK => ?_) AllReadyH.nil)
        go_simp
        refine (CVA.out _ _ FA.out I22.out).mono ?_
        rintro e w116 ⟨rfl, hst⟩
        replace FA := Lib.hid (FA.out.below hst)
        replace FB := Lib.hid (FB.out.below hst)
        replace FM := Lib.hid (FM.out.below hst)
        replace I25 := Lib.hid (I25.out.below hst)
        replace I19 := Lib.hid (I19.out.below hst)
        replace I22 := Lib.hid (I22.out.below hst)
        replace HBW := Lib.hid (below_chV HBW.out hst)
        clear hst
        refine hK.out _ _ (HS0.out _ HBW.out) (fun hHeld => ?_)
        clear hK K
        (try simp only [List.getElem_toArray, List.getElem_cons_succ, List.getElem_cons_zero, Act.put, List.setIfInBounds_toArray, List.set_cons_zero, List.set_cons_succ, bne_self_eq_false])
        refine wpAnyH_ready (rs := [26]) (by kernel_rfl) (by simp) ?_
        refine (AllReadyH.cons rfl (fun K hK => ?_) AllReadyH.nil)
        go_simp
        refine (CVB.out _ _ FB.out I25.out).mono ?_
        rintro e w117 ⟨rfl, hst⟩
        replace FA := Lib.hid (FA.out.below hst)
        replace FB := Lib.hid (FB.out.below hst)
        replace FM := Lib.hid (FM.out.below hst)
        replace I25 := Lib.hid (I25.out.below hst)
        replace I19 := Lib.hid (I19.out.below hst)
        replace I22 := Lib.hid (I22.out.below hst)
        replace HBW := Lib.hid (below_chV HBW.out hst)
        clear hst
        refine hK.out _ _ (HS0.out _ HBW.out) (fun hHeld => ?_)
        clear hK K
        (try simp only [List.getElem_toArray, List.getElem_cons_succ, List.getElem_cons_zero, Act.put, List.setIfInBounds_toArray, List.set_cons_zero, List.set_cons_succ, bne_self_eq_false])
        refine wpAnyH_take (i := 27) (v := ?v118) rfl (by kernel_rfl) (by kernel_rfl) (by kernel_rfl) (fun _ _ _ h => h) (Or.inl ⟨by rfl, ?hy118⟩) (by assumption) ?rest118
        case hy118 => intro w hSw; (try dsimp only at hSw); go_simp; try with_reducible rfl
        (try simp only [List.getElem_toArray, List.getElem_cons_succ, List.getElem_cons_zero, Act.put, List.setIfInBounds_toArray, List.set_cons_zero, List.set_cons_succ, bne_self_eq_false])
        refine wpAnyH_take (i := 28) (v := ?v119) rfl (by kernel_rfl) (by kernel_rfl) (by kernel_rfl) (fun _ _ _ h => h) (Or.inl ⟨by rfl, ?hy119⟩) (by assumption) ?rest119
        case hy119 => intro w hSw; (try dsimp only at hSw); go_simp; try with_reducible rfl
        (try simp only [List.getElem_toArray, List.getElem_cons_succ, List.getElem_cons_zero, Act.put, List.setIfInBounds_toArray, List.set_cons_zero, List.set_cons_succ, bne_self_eq_false])
        refine wpAnyH_take (i := 29) (v := ?v120) rfl (by kernel_rfl) (by kernel_rfl) (by kernel_rfl) (fun _ _ _ h => h) (Or.inl ⟨by rfl, ?hy120⟩) (by assumption) ?rest120
        case hy120 => intro w hSw; (try dsimp only at hSw); go_simp; try with_reducible rfl
        (try simp only [List.getElem_toArray, List.getElem_cons_succ, List.getElem_cons_zero, Act.put, List.setIfInBounds_toArray, List.set_cons_zero, List.set_cons_succ, bne_self_eq_false])
        refine wpAnyH_take (i := 30) (v := ?v121) rfl (by kernel_rfl) (by kernel_rfl) (by kernel_rfl) (fun _ _ _ h => h) (Or.inl ⟨by rfl, ?hy121⟩) (by assumption) ?rest121
        case hy121 => intro w hSw; (try dsimp only at hSw); go_simp; try with_reducible rfl
        (try simp only [List.getElem_toArray, List.getElem_cons_succ, List.getElem_cons_zero, Act.put, List.setIfInBounds_toArray, List.set_cons_zero, List.set_cons_succ, bne_self_eq_false])
        refine wpAnyH_done (by kernel_rfl) ?_ _
        go_wp2_with fail
        exact HQ.out _ _ _ _ _ _ _ _ _ _ _ _ _ HBW.out
    · skip
      go_simp
      have I22 := Lib.hid (ints35 w104)
      replace FA := Lib.hid (FA.out.below ((Below.refl _ _).alloc (Nat.le_refl _) (.cells #[.int .i64 3, .int .i64 5] 3)))
      replace FB := Lib.hid (FB.out.below ((Below.refl _ _).alloc (Nat.le_refl _) (.cells #[.int .i64 3, .int .i64 5] 3)))
      replace FM := Lib.hid (FM.out.below ((Below.refl _ _).alloc (Nat.le_refl _) (.cells #[.int .i64 3, .int .i64 5] 3)))
      replace I25 := Lib.hid (I25.out.below ((Below.refl _ _).alloc (Nat.le_refl _) (.cells #[.int .i64 3, .int .i64 5] 3)))
      replace HBW := Lib.hid (HBW.out.alloc HBW.out.size (.cells #[.int .i64 3, .int .i64 5] 3))
      refine hK.out _ _ (HS0.out _ HBW.out) (fun hHeld => ?_)
      clear hK K
      (try simp only [List.getElem_toArray, List.getElem_cons_succ, List.getElem_cons_zero, Act.put, List.setIfInBounds_toArray, List.set_cons_zero, List.set_cons_succ, bne_self_eq_false])
      generalize hwn122 : (w104.alloc (.cells #[.int .i64 3, .int .i64 5] 3)) = w122 at *
      clear hwn122
      refine wpAnyH_ready (rs := [19]) (by kernel_rfl) (by simp) ?_
      refine (AllReadyH.cons rfl (fun K hK => ?_) AllReadyH.nil)
      go_simp
      have I19 := Lib.hid (ints35 w122)
      replace FA := Lib.hid (FA.out.below ((Below.refl _ _).alloc (Nat.le_refl _) (.cells #[.int .i64 3, .int .i64 5] 3)))
      replace FB := Lib.hid (FB.out.below ((Below.refl _ _).alloc (Nat.le_refl _) (.cells #[.int .i64 3, .int .i64 5] 3)))
      replace FM := Lib.hid (FM.out.below ((Below.refl _ _).alloc (Nat.le_refl _) (.cells #[.int .i64 3, .int .i64 5] 3)))
      replace I25 := Lib.hid (I25.out.below ((Below.refl _ _).alloc (Nat.le_refl _) (.cells #[.int .i64 3, .int .i64 5] 3)))
      replace I22 := Lib.hid (I22.out.below ((Below.refl _ _).alloc (Nat.le_refl _) (.cells #[.int .i64 3, .int .i64 5] 3)))
      replace HBW := Lib.hid (HBW.out.alloc HBW.out.size (.cells #[.int .i64 3, .int .i64 5] 3))
      refine hK.out _ _ (HS0.out _ HBW.out) (fun hHeld => ?_)
      clear hK K
      (try simp only [List.getElem_toArray, List.getElem_cons_succ, List.getElem_cons_zero, Act.put, List.setIfInBounds_toArray, List.set_cons_zero, List.set_cons_succ, bne_self_eq_false])
      generalize hwn123 : (w122.alloc (.cells #[.int .i64 3, .int .i64 5] 3)) = w123 at *
      clear hwn123
      refine wpAnyH_ready (rs := [20]) (by kernel_rfl) (by simp) ?_
      refine (AllReadyH.cons rfl (fun K hK => ?_) AllReadyH.nil)
      go_simp
      refine (CVM.out _ _ FM.out I19.out).mono ?_
      rintro e w124 ⟨rfl, hst⟩
      replace FA := Lib.hid (FA.out.below hst)
      replace FB := Lib.hid (FB.out.below hst)
      replace FM := Lib.hid (FM.out.below hst)
      replace I25 := Lib.hid (I25.out.below hst)
      replace I22 := Lib.hid (I22.out.below hst)
      replace I19 := Lib.hid (I19.out.below hst)
      replace HBW := Lib.hid (below_chV HBW.out hst)
      clear hst
      refine hK.out _ _ (HS0.out _ HBW.out) (fun hHeld => ?_)
      clear hK K
      (try simp only [List.getElem_toArray, List.getElem_cons_succ, List.getElem_cons_zero, Act.put, List.setIfInBounds_toArray, List.set_cons_zero, List.set_cons_succ, bne_self_eq_false])
      refine wpAnyH_ready (rs := [23]) (by kernel_rfl) (by simp) ?_
      refine (AllReadyH.cons rfl (fun K hK => ?_) AllReadyH.nil)
      go_simp
      refine (CVA.out _ _ FA.out I22.out).mono ?_
      rintro e w125 ⟨rfl, hst⟩
      replace FA := Lib.hid (FA.out.below hst)
      replace FB := Lib.hid (FB.out.below hst)
      replace FM := Lib.hid (FM.out.below hst)
      replace I25 := Lib.hid (I25.out.below hst)
      replace I22 := Lib.hid (I22.out.below hst)
      replace I19 := Lib.hid (I19.out.below hst)
      replace HBW := Lib.hid (below_chV HBW.out hst)
      clear hst
      refine hK.out _ _ (HS0.out _ HBW.out) (fun hHeld => ?_)
      clear hK K
      (try simp only [List.getElem_toArray, List.getElem_cons_succ, List.getElem_cons_zero, Act.put, List.setIfInBounds_toArray, List.set_cons_zero, List.set_cons_succ, bne_self_eq_false])
      refine wpAnyH_ready (rs := [26]) (by kernel_rfl) (by simp) ?_
      refine (AllReadyH.cons rfl (fun K hK => ?_) AllReadyH.nil)
      go_simp
      refine (CVB.out _ _ FB.out I25.out).mono ?_
      rintro e w126 ⟨rfl, hst⟩
      replace FA := Lib.hid (FA.out.below hst)
      replace FB := Lib.hid (FB.out.below hst)
      replace FM := Lib.hid (FM.out.below hst)
      replace I25 := Lib.hid (I25.out.below hst)
      replace I22 := Lib.hid (I22.out.below hst)
      replace I19 := Lib.hid (I19.out.below hst)
      replace HBW := Lib.hid (below_chV HBW.out hst)
      clear hst
      refine hK.out _ _ (HS0.out _ HBW.out) (fun hHeld => ?_)
      clear hK K
      (try simp only [List.getElem_toArray, List.getElem_cons_succ, List.getElem_cons_zero, Act.put, List.setIfInBounds_toArray, List.set_cons_zero, List.set_cons_succ, bne_self_eq_false])
      refine wpAnyH_take (i := 27) (v := ?v127) rfl (by kernel_rfl) (by kernel_rfl) (by kernel_rfl) (fun _ _ _ h => h) (Or.inl ⟨by rfl, ?hy127⟩) (by assumption) ?rest127
      case hy127 => intro w hSw; (try dsimp only at hSw); go_simp; try with_reducible rfl
      (try simp only [List.getElem_toArray, List.getElem_cons_succ, List.getElem_cons_zero, Act.put, List.setIfInBounds_toArray, List.set_cons_zero, List.set_cons_succ, bne_self_eq_false])
      refine wpAnyH_take (i := 28) (v := ?v128) rfl (by kernel_rfl) (by kernel_rfl) (by kernel_rfl) (fun _ _ _ h => h) (Or.inl ⟨by rfl, ?hy128⟩) (by assumption) ?rest128
      case hy128 => intro w hSw; (try dsimp only at hSw); go_simp; try with_reducible rfl
      (try simp only [List.getElem_toArray, List.getElem_cons_succ, List.getElem_cons_zero, Act.put, List.setIfInBounds_toArray, List.set_cons_zero, List.set_cons_succ, bne_self_eq_false])
      refine wpAnyH_take (i := 29) (v := ?v129) rfl (by kernel_rfl) (by kernel_rfl) (by kernel_rfl) (fun _ _ _ h => h) (Or.inl ⟨by rfl, ?hy129⟩) (by assumption) ?rest129
      case hy129 => intro w hSw; (try dsimp only at hSw); go_simp; try with_reducible rfl
      (try simp only [List.getElem_toArray, List.getElem_cons_succ, List.getElem_cons_zero, Act.put, List.setIfInBounds_toArray, List.set_cons_zero, List.set_cons_succ, bne_self_eq_false])
      refine wpAnyH_take (i := 30) (v := ?v130) rfl (by kernel_rfl) (by kernel_rfl) (by kernel_rfl) (fun _ _ _ h => h) (Or.inl ⟨by rfl, ?hy130⟩) (by assumption) ?rest130
      case hy130 => intro w hSw; (try dsimp only at hSw); go_simp; try with_reducible rfl
      (try simp only [List.getElem_toArray, List.getElem_cons_succ, List.getElem_cons_zero, Act.put, List.setIfInBounds_toArray, List.set_cons_zero, List.set_cons_succ, bne_self_eq_false])
      refine wpAnyH_done (by kernel_rfl) ?_ _
      go_wp2_with fail
      exact HQ.out _ _ _ _ _ _ _ _ _ _ _ _ _ HBW.out

end Go.Proofs.Ytgegaipkfpdocaa
