/-
  TermLifts: its region 6. Printed by gen_lifts.py.
-/
import Derived.Test.YtgegaipkfpdocaaDoorLiftsA
namespace Go.Proofs.YtgegaipkfpdocaaDoor
open Go.RowKit
set_option linter.unusedSimpArgs false
set_option linter.unusedVariables false
set_option maxRecDepth 100000

set_option maxHeartbeats 64000000 in
theorem lifts6 (w : World) (N : Nat) (t u a x : Tm) (ls : List Lv) (A1 A2 A3 A4 A5 A6 A7 A8 Al : Option Addr) (n1 c1 n2 c2 n3 c3 n4 c4 n5 c5 n6 c6 n7 c7 n8 c8 nl cl : Nat) (n mm f : Int) (m : Nat) (wc : World) (u0 u1 u2 u10 u11 u12 u13 u14 u16 u17 u18 u19 u20 u21 u22 u23 u24 u25 u26 u27 u28 u29 u30 u31 u32 u33 u34 u35 u36 u37 u38 u39 u40 u41 u42 u43 u44 u45 u46 u47 u48 u49 u50 u51 u52 u53 u54 u55 u56 u57 u58 u59 u60 u61 u62 u63 u64 u65 u66 u67 u68 u69 u70 u71 u72 u73 u74 u75 u76 u77 u78 u79 u80 u81 u82 u83 u84 u85 u86 u87 u88 u89 u90 u91 u92 u93 u94 u95 u96 u97 u98 u99 u100 u101 u102 u103 u104 u105 u106 u107 u108 u109 u110 u111 u112 u113 u114 u115 u116 u117 u118 u119 u120 u121 u122 u123 u124 u125 u126 u127 u128 u129 u130 u131 u132 u133 u134 u135 u136 u137 u138 u139 u140 u141 u142 u143 u144 u145 u146 u147 u148 u149 u150 u151 u152 u153 u154 u155 u156 u157 u158 u159 u160 u161 u162 u163 : Value)
    (HN : Hid (w.heap.size = N)) (HS : Hid (LSt w N t u a ls (.slice A1 n1 c1) (.slice A2 n2 c2) (.slice A3 n3 c3) (.slice A4 n4 c4) (.slice A5 n5 c5) (.slice A6 n6 c6) (.slice Al nl cl) wc)) (HX : Hid (TmIn wc m x (.slice A7 n7 c7) (.slice A8 n8 c8))) (y : Tm) (z : Nat) (b1 b2 : Bool) (hw1 : IntKind.i64.wrap (n + mm) = n + mm) (hw2 : IntKind.i64.wrap (f + n) = f + n)
    (CX : Hid (∀ W, Kinds W → RT W x (.slice A7 n7 c7) (.slice A8 n8 c8) → Calls Tryd.prog 8 #[.agg #[.int .i64 x.kind, .int .i64 x.num, .int .i64 x.atN, (.slice A7 n7 c7), (.slice A8 n8 c8)], .int .i64 mm, .int .i64 f] W (MadeT y W)))
    (CT : Hid (∀ W, Kinds W → RT W t (.slice A1 n1 c1) (.slice A2 n2 c2) → Calls Tryd.prog 8 #[.agg #[.int .i64 t.kind, .int .i64 t.num, .int .i64 t.atN, (.slice A1 n1 c1), (.slice A2 n2 c2)], .int .i64 (n + mm), .int .i64 f] W (MadeT y W)))
    (CSM : Hid (∀ W B1 k1 d1 B2 k2 d2 B3 k3 d3 B4 k4 d4, RT W y (.slice B1 k1 d1) (.slice B2 k2 d2) → RT W y (.slice B3 k3 d3) (.slice B4 k4 d4) → Calls Tryd.prog 16 #[.agg #[.int .i64 y.kind, .int .i64 y.num, .int .i64 y.atN, .slice B1 k1 d1, .slice B2 k2 d2], .agg #[.int .i64 y.kind, .int .i64 y.num, .int .i64 y.atN, .slice B3 k3 d3, .slice B4 k4 d4]] W (fun e w' => e = .returned (.bool true) ∧ Below W.heap.size W w')))
    (CZX : Hid (∀ W, RT W x (.slice A7 n7 c7) (.slice A8 n8 c8) → Calls Tryd.prog 17 #[.agg #[.int .i64 x.kind, .int .i64 x.num, .int .i64 x.atN, (.slice A7 n7 c7), (.slice A8 n8 c8)]] W (fun e w' => e = .returned (.int .i64 z) ∧ Below W.heap.size W w')))
    (CZT : Hid (∀ W, RT W t (.slice A1 n1 c1) (.slice A2 n2 c2) → Calls Tryd.prog 17 #[.agg #[.int .i64 t.kind, .int .i64 t.num, .int .i64 t.atN, (.slice A1 n1 c1), (.slice A2 n2 c2)]] W (fun e w' => e = .returned (.int .i64 z) ∧ Below W.heap.size W w')))
    (CF1 : Hid (∀ W, Kinds W → RT W x (.slice A7 n7 c7) (.slice A8 n8 c8) → Calls Tryd.prog 18 #[.agg #[.int .i64 x.kind, .int .i64 x.num, .int .i64 x.atN, (.slice A7 n7 c7), (.slice A8 n8 c8)], .int .i64 f, .int .i64 (f + n)] W (fun e w' => e = .returned (.bool false) ∧ Below W.heap.size W w')))
    (CF2 : Hid (∀ W, Kinds W → RT W t (.slice A1 n1 c1) (.slice A2 n2 c2) → Calls Tryd.prog 18 #[.agg #[.int .i64 t.kind, .int .i64 t.num, .int .i64 t.atN, (.slice A1 n1 c1), (.slice A2 n2 c2)], .int .i64 f, .int .i64 5000] W (fun e w' => e = .returned (.bool b1) ∧ Below W.heap.size W w')))
    (CF3 : Hid (∀ W, Kinds W → RT W x (.slice A7 n7 c7) (.slice A8 n8 c8) → Calls Tryd.prog 18 #[.agg #[.int .i64 x.kind, .int .i64 x.num, .int .i64 x.atN, (.slice A7 n7 c7), (.slice A8 n8 c8)], .int .i64 (f + n), .int .i64 6000] W (fun e w' => e = .returned (.bool b1) ∧ Below W.heap.size W w')))
    (CF4 : Hid (∀ W, Kinds W → RT W t (.slice A1 n1 c1) (.slice A2 n2 c2) → Calls Tryd.prog 18 #[.agg #[.int .i64 t.kind, .int .i64 t.num, .int .i64 t.atN, (.slice A1 n1 c1), (.slice A2 n2 c2)], .int .i64 0, .int .i64 f] W (fun e w' => e = .returned (.bool b2) ∧ Below W.heap.size W w')))
    (CF5 : Hid (∀ W, Kinds W → RT W x (.slice A7 n7 c7) (.slice A8 n8 c8) → Calls Tryd.prog 18 #[.agg #[.int .i64 x.kind, .int .i64 x.num, .int .i64 x.atN, (.slice A7 n7 c7), (.slice A8 n8 c8)], .int .i64 0, .int .i64 f] W (fun e w' => e = .returned (.bool b2) ∧ Below W.heap.size W w')))
    (code : Code) (hcode : Tryd.f4.body.bind (codeAtT 6) = some code) (K : Act → World → Prop)
    (hQ : ∀ v64 v65 v66 v67 v68 v69 v70 v71 v72 v73 v74 v75 v76 v77 v78 v79 v80 v81 v82 v83 v84 v85 v86 v87 v88 v89 v90 v91 v92 v93 v94 v95 v96 v97 v98 v99 v100 v101 v102 v103 v104 v105 v106 v107 v108 v109 w', Below wc.heap.size wc w' → K { tmps := List.toArray [u0, u1, u2, .int .i64 n, .int .i64 mm, .int .i64 f, .slice Al nl cl, .pointer (some ⟨N, 0, none⟩), .pointer (some ⟨N + 1, 0, none⟩), .pointer (some ⟨N + 2, 0, none⟩), u10, u11, u12, u13, u14, .pointer (some ⟨m, 0, none⟩), u16, u17, u18, u19, u20, u21, u22, u23, u24, u25, u26, u27, u28, u29, u30, u31, u32, u33, u34, u35, u36, u37, u38, u39, u40, u41, u42, u43, u44, u45, u46, u47, u48, u49, u50, u51, u52, u53, u54, u55, u56, u57, u58, u59, u60, u61, u62, u63, v64, v65, v66, v67, v68, v69, v70, v71, v72, v73, v74, v75, v76, v77, v78, v79, v80, v81, v82, v83, v84, v85, v86, v87, v88, v89, v90, v91, v92, v93, v94, v95, v96, v97, v98, v99, v100, v101, v102, v103, v104, v105, v106, v107, v108, v109, .bool false, u111, u112, u113, u114, u115, u116, u117, u118, u119, u120, u121, u122, u123, u124, u125, u126, u127, u128, u129, u130, u131, u132, u133, u134, u135, u136, u137, u138, u139, u140, u141, u142, u143, u144, u145, u146, u147, u148, u149, u150, u151, u152, u153, u154, u155, u156, u157, u158, u159, u160, u161, u162, u163], defers := [] } w') :
    code.wp Tryd.prog (Exit.then K fun _ _ _ => False) { tmps := List.toArray [u0, u1, u2, .int .i64 n, .int .i64 mm, .int .i64 f, .slice Al nl cl, .pointer (some ⟨N, 0, none⟩), .pointer (some ⟨N + 1, 0, none⟩), .pointer (some ⟨N + 2, 0, none⟩), u10, u11, u12, u13, u14, .pointer (some ⟨m, 0, none⟩), u16, u17, u18, u19, u20, u21, u22, u23, u24, u25, u26, u27, u28, u29, u30, u31, u32, u33, u34, u35, u36, u37, u38, u39, u40, u41, u42, u43, u44, u45, u46, u47, u48, u49, u50, u51, u52, u53, u54, u55, u56, u57, u58, u59, u60, u61, u62, u63, u64, u65, u66, u67, u68, u69, u70, u71, u72, u73, u74, u75, u76, u77, u78, u79, u80, u81, u82, u83, u84, u85, u86, u87, u88, u89, u90, u91, u92, u93, u94, u95, u96, u97, u98, u99, u100, u101, u102, u103, u104, u105, u106, u107, u108, u109, u110, u111, u112, u113, u114, u115, u116, u117, u118, u119, u120, u121, u122, u123, u124, u125, u126, u127, u128, u129, u130, u131, u132, u133, u134, u135, u136, u137, u138, u139, u140, u141, u142, u143, u144, u145, u146, u147, u148, u149, u150, u151, u152, u153, u154, u155, u156, u157, u158, u159, u160, u161, u162, u163], defers := [] } wc := by
  simp only [Tryd.f4, codeAtT, Option.bind_some, Nat.reduceEqDiff, if_true, if_false, Option.some.injEq] at hcode
  subst hcode
  have HQ := Lib.hid hQ
  clear hQ
  have HS0 : Hid (∀ W', Below wc.heap.size wc W' → W'.cell? ⟨N, 0, none⟩ = some (.int .i64 t.kind) ∧ W'.cell? ⟨N, 1, none⟩ = some (.int .i64 t.num) ∧ W'.cell? ⟨N, 2, none⟩ = some (.int .i64 t.atN) ∧ W'.cell? ⟨N, 3, none⟩ = some (.slice A1 n1 c1) ∧ W'.cell? ⟨N, 4, none⟩ = some (.slice A2 n2 c2) ∧ W'.cell? ⟨m, 0, none⟩ = some (.int .i64 x.kind) ∧ W'.cell? ⟨m, 1, none⟩ = some (.int .i64 x.num) ∧ W'.cell? ⟨m, 2, none⟩ = some (.int .i64 x.atN) ∧ W'.cell? ⟨m, 3, none⟩ = some (.slice A7 n7 c7) ∧ W'.cell? ⟨m, 4, none⟩ = some (.slice A8 n8 c8)) := Lib.hid fun W' h => ⟨(HS.out.below HN.out h).bt.cell (j := 0) rfl, (HS.out.below HN.out h).bt.cell (j := 1) rfl, (HS.out.below HN.out h).bt.cell (j := 2) rfl, (HS.out.below HN.out h).bt.cell (j := 3) rfl, (HS.out.below HN.out h).bt.cell (j := 4) rfl, (HX.out.below h).b.cell (j := 0) rfl, (HX.out.below h).b.cell (j := 1) rfl, (HX.out.below h).b.cell (j := 2) rfl, (HX.out.below h).b.cell (j := 3) rfl, (HX.out.below h).b.cell (j := 4) rfl⟩
  have HBW : Hid (Below wc.heap.size wc wc.drew) := Lib.hid (below_drewT wc)
  have FK := Lib.hid (HS.out.K.below HBW.out)
  have FT := Lib.hid (HS.out.T.below HBW.out)
  have FX := Lib.hid (HX.out.P.below HBW.out)
  refine wp_region_held_drew (S := fun w' => w'.cell? ⟨N, 0, none⟩ = some (.int .i64 t.kind) ∧ w'.cell? ⟨N, 1, none⟩ = some (.int .i64 t.num) ∧ w'.cell? ⟨N, 2, none⟩ = some (.int .i64 t.atN) ∧ w'.cell? ⟨N, 3, none⟩ = some (.slice A1 n1 c1) ∧ w'.cell? ⟨N, 4, none⟩ = some (.slice A2 n2 c2) ∧ w'.cell? ⟨m, 0, none⟩ = some (.int .i64 x.kind) ∧ w'.cell? ⟨m, 1, none⟩ = some (.int .i64 x.num) ∧ w'.cell? ⟨m, 2, none⟩ = some (.int .i64 x.atN) ∧ w'.cell? ⟨m, 3, none⟩ = some (.slice A7 n7 c7) ∧ w'.cell? ⟨m, 4, none⟩ = some (.slice A8 n8 c8)) (by kernel_rfl) (HS0.out _ HBW.out) (fun hHeld => ?_)
  generalize hwd : wc.drew = wd at *
  clear hwd
  refine wpAnyH_take (i := 0) (v := ?v1) rfl (by kernel_rfl) (by kernel_rfl) (by kernel_rfl) (fun _ _ _ h => h) (Or.inl ⟨by rfl, ?hy1⟩) (by assumption) ?rest1
  case hy1 => intro w hSw; (try dsimp only at hSw); go_simp; try with_reducible rfl
  (try simp only [List.getElem_toArray, List.getElem_cons_succ, List.getElem_cons_zero, Act.put, List.setIfInBounds_toArray, List.set_cons_zero, List.set_cons_succ, bne_self_eq_false, beq_self_eq_true])
  refine wpAnyH_take (i := 1) (v := ?v2) rfl (by kernel_rfl) (by kernel_rfl) (by kernel_rfl) (fun _ _ _ h => h) (Or.inl ⟨by rfl, ?hy2⟩) (by assumption) ?rest2
  case hy2 => intro w hSw; (try dsimp only at hSw); go_simp; try with_reducible rfl
  (try simp only [List.getElem_toArray, List.getElem_cons_succ, List.getElem_cons_zero, Act.put, List.setIfInBounds_toArray, List.set_cons_zero, List.set_cons_succ, bne_self_eq_false, beq_self_eq_true])
  refine wpAnyH_take (i := 2) (v := ?v3) rfl (by kernel_rfl) (by kernel_rfl) (by kernel_rfl) (fun _ _ _ h => h) (Or.inl ⟨by rfl, ?hy3⟩) (by assumption) ?rest3
  case hy3 => intro w hSw; (try dsimp only at hSw); go_simp; try with_reducible rfl
  (try simp only [List.getElem_toArray, List.getElem_cons_succ, List.getElem_cons_zero, Act.put, List.setIfInBounds_toArray, List.set_cons_zero, List.set_cons_succ, bne_self_eq_false, beq_self_eq_true])
  refine wpAnyH_take (i := 4) (v := ?v4) rfl (by kernel_rfl) (by kernel_rfl) (by kernel_rfl) (fun _ _ _ h => h) (Or.inl ⟨by rfl, ?hy4⟩) (by assumption) ?rest4
  case hy4 => intro w hSw; (try dsimp only at hSw); go_simp; try with_reducible rfl
  (try simp only [List.getElem_toArray, List.getElem_cons_succ, List.getElem_cons_zero, Act.put, List.setIfInBounds_toArray, List.set_cons_zero, List.set_cons_succ, bne_self_eq_false, beq_self_eq_true])
  refine wpAnyH_take (i := 5) (v := ?v5) rfl (by kernel_rfl) (by kernel_rfl) (by kernel_rfl) (fun _ _ _ h => h) (Or.inl ⟨by rfl, ?hy5⟩) (by assumption) ?rest5
  case hy5 => intro w hSw; (try dsimp only at hSw); go_simp; try with_reducible rfl
  (try simp only [List.getElem_toArray, List.getElem_cons_succ, List.getElem_cons_zero, Act.put, List.setIfInBounds_toArray, List.set_cons_zero, List.set_cons_succ, bne_self_eq_false, beq_self_eq_true])
  refine wpAnyH_take (i := 6) (v := ?v6) rfl (by kernel_rfl) (by kernel_rfl) (by kernel_rfl) (fun _ _ _ h => h) (Or.inl ⟨by rfl, ?hy6⟩) (by assumption) ?rest6
  case hy6 => intro w hSw; (try dsimp only at hSw); go_simp; try with_reducible rfl
  (try simp only [List.getElem_toArray, List.getElem_cons_succ, List.getElem_cons_zero, Act.put, List.setIfInBounds_toArray, List.set_cons_zero, List.set_cons_succ, bne_self_eq_false, beq_self_eq_true])
  refine wpAnyH_take (i := 7) (v := ?v7) rfl (by kernel_rfl) (by kernel_rfl) (by kernel_rfl) (fun _ _ _ h => h) (Or.inl ⟨by rfl, ?hy7⟩) (by assumption) ?rest7
  case hy7 => intro w hSw; (try dsimp only at hSw); go_simp; try with_reducible rfl
  (try simp only [List.getElem_toArray, List.getElem_cons_succ, List.getElem_cons_zero, Act.put, List.setIfInBounds_toArray, List.set_cons_zero, List.set_cons_succ, bne_self_eq_false, beq_self_eq_true])
  refine wpAnyH_take (i := 8) (v := ?v8) rfl (by kernel_rfl) (by kernel_rfl) (by kernel_rfl) (fun _ _ _ h => h) (Or.inl ⟨by rfl, ?hy8⟩) (by assumption) ?rest8
  case hy8 => intro w hSw; (try dsimp only at hSw); go_simp; try with_reducible rfl
  (try simp only [List.getElem_toArray, List.getElem_cons_succ, List.getElem_cons_zero, Act.put, List.setIfInBounds_toArray, List.set_cons_zero, List.set_cons_succ, bne_self_eq_false, beq_self_eq_true])
  refine wpAnyH_ready (rs := [3]) (by kernel_rfl) (by simp) ?_
  refine (AllReadyH.cons rfl (fun K hK => ?_) AllReadyH.nil)
  go_simp
  refine (CX.out _ FK.out FX.out).mono ?_
  intro e w9 hmade
  obtain ⟨A9x, n9x, c9x, A9y, n9y, c9y, rfl, hru, hst⟩ := hmade.gives
  replace FK := Lib.hid (FK.out.below hst)
  replace FT := Lib.hid (FT.out.below hst)
  replace FX := Lib.hid (FX.out.below hst)
  replace HBW := Lib.hid (below_chV HBW.out hst)
  have X1 := Lib.hid hru
  clear hru hst hmade
  refine hK.out _ _ (HS0.out _ HBW.out) (fun hHeld => ?_)
  clear hK K
  (try simp only [List.getElem_toArray, List.getElem_cons_succ, List.getElem_cons_zero, Act.put, List.setIfInBounds_toArray, List.set_cons_zero, List.set_cons_succ, bne_self_eq_false, beq_self_eq_true])
  refine wpAnyH_ready (rs := [9]) (by kernel_rfl) (by simp) ?_
  refine (AllReadyH.cons rfl (fun K hK => ?_) AllReadyH.nil)
  go_simp
  refine (CT.out _ FK.out FT.out).mono ?_
  intro e w10 hmade
  obtain ⟨A10x, n10x, c10x, A10y, n10y, c10y, rfl, hru, hst⟩ := hmade.gives
  replace FK := Lib.hid (FK.out.below hst)
  replace FT := Lib.hid (FT.out.below hst)
  replace FX := Lib.hid (FX.out.below hst)
  replace X1 := Lib.hid (X1.out.below hst)
  replace HBW := Lib.hid (below_chV HBW.out hst)
  have X2 := Lib.hid hru
  clear hru hst hmade
  refine hK.out _ _ (HS0.out _ HBW.out) (fun hHeld => ?_)
  clear hK K
  (try simp only [List.getElem_toArray, List.getElem_cons_succ, List.getElem_cons_zero, Act.put, List.setIfInBounds_toArray, List.set_cons_zero, List.set_cons_succ, bne_self_eq_false, beq_self_eq_true])
  refine wpAnyH_ready (rs := [10]) (by kernel_rfl) (by simp) ?_
  refine (AllReadyH.cons rfl (fun K hK => ?_) AllReadyH.nil)
  go_simp
  refine (CSM.out _ _ _ _ _ _ _ _ _ _ _ _ _ X1.out X2.out).mono ?_
  rintro e w11 ⟨rfl, hst⟩
  replace FK := Lib.hid (FK.out.below hst)
  replace FT := Lib.hid (FT.out.below hst)
  replace FX := Lib.hid (FX.out.below hst)
  replace X1 := Lib.hid (X1.out.below hst)
  replace X2 := Lib.hid (X2.out.below hst)
  replace HBW := Lib.hid (below_chV HBW.out hst)
  clear hst
  refine hK.out _ _ (HS0.out _ HBW.out) (fun hHeld => ?_)
  clear hK K
  (try simp only [List.getElem_toArray, List.getElem_cons_succ, List.getElem_cons_zero, Act.put, List.setIfInBounds_toArray, List.set_cons_zero, List.set_cons_succ, bne_self_eq_false, beq_self_eq_true])
  refine wpAnyH_take (i := 11) (v := ?v12) rfl (by kernel_rfl) (by kernel_rfl) (by kernel_rfl) (fun _ _ _ h => h) (Or.inl ⟨by rfl, ?hy12⟩) (by assumption) ?rest12
  case hy12 => intro w hSw; (try dsimp only at hSw); go_simp; try with_reducible rfl
  (try simp only [List.getElem_toArray, List.getElem_cons_succ, List.getElem_cons_zero, Act.put, List.setIfInBounds_toArray, List.set_cons_zero, List.set_cons_succ, bne_self_eq_false, beq_self_eq_true])
  refine wpAnyH_take (i := 12) (v := ?v13) rfl (by kernel_rfl) (by kernel_rfl) (by kernel_rfl) (fun _ _ _ h => h) (Or.inl ⟨by rfl, ?hy13⟩) (by assumption) ?rest13
  case hy13 => intro w hSw; (try dsimp only at hSw); go_simp; try with_reducible rfl
  (try simp only [List.getElem_toArray, List.getElem_cons_succ, List.getElem_cons_zero, Act.put, List.setIfInBounds_toArray, List.set_cons_zero, List.set_cons_succ, bne_self_eq_false, beq_self_eq_true])
  refine wpAnyH_take (i := 13) (v := ?v14) rfl (by kernel_rfl) (by kernel_rfl) (by kernel_rfl) (fun _ _ _ h => h) (Or.inl ⟨by rfl, ?hy14⟩) (by assumption) ?rest14
  case hy14 => intro w hSw; (try dsimp only at hSw); go_simp; try with_reducible rfl
  (try simp only [List.getElem_toArray, List.getElem_cons_succ, List.getElem_cons_zero, Act.put, List.setIfInBounds_toArray, List.set_cons_zero, List.set_cons_succ, bne_self_eq_false, beq_self_eq_true])
  refine wpAnyH_take (i := 15) (v := ?v15) rfl (by kernel_rfl) (by kernel_rfl) (by kernel_rfl) (fun _ _ _ h => h) (Or.inl ⟨by rfl, ?hy15⟩) (by assumption) ?rest15
  case hy15 => intro w hSw; (try dsimp only at hSw); go_simp; try with_reducible rfl
  (try simp only [List.getElem_toArray, List.getElem_cons_succ, List.getElem_cons_zero, Act.put, List.setIfInBounds_toArray, List.set_cons_zero, List.set_cons_succ, bne_self_eq_false, beq_self_eq_true])
  refine wpAnyH_ready (rs := [14]) (by kernel_rfl) (by simp) ?_
  refine (AllReadyH.cons rfl (fun K hK => ?_) AllReadyH.nil)
  go_simp
  refine (CZX.out _ FX.out).mono ?_
  rintro e w16 ⟨rfl, hst⟩
  replace FK := Lib.hid (FK.out.below hst)
  replace FT := Lib.hid (FT.out.below hst)
  replace FX := Lib.hid (FX.out.below hst)
  replace X1 := Lib.hid (X1.out.below hst)
  replace X2 := Lib.hid (X2.out.below hst)
  replace HBW := Lib.hid (below_chV HBW.out hst)
  clear hst
  refine hK.out _ _ (HS0.out _ HBW.out) (fun hHeld => ?_)
  clear hK K
  (try simp only [List.getElem_toArray, List.getElem_cons_succ, List.getElem_cons_zero, Act.put, List.setIfInBounds_toArray, List.set_cons_zero, List.set_cons_succ, bne_self_eq_false, beq_self_eq_true])
  refine wpAnyH_ready (rs := [16]) (by kernel_rfl) (by simp) ?_
  refine (AllReadyH.cons rfl (fun K hK => ?_) AllReadyH.nil)
  go_simp
  refine (CZT.out _ FT.out).mono ?_
  rintro e w17 ⟨rfl, hst⟩
  replace FK := Lib.hid (FK.out.below hst)
  replace FT := Lib.hid (FT.out.below hst)
  replace FX := Lib.hid (FX.out.below hst)
  replace X1 := Lib.hid (X1.out.below hst)
  replace X2 := Lib.hid (X2.out.below hst)
  replace HBW := Lib.hid (below_chV HBW.out hst)
  clear hst
  refine hK.out _ _ (HS0.out _ HBW.out) (fun hHeld => ?_)
  clear hK K
  (try simp only [List.getElem_toArray, List.getElem_cons_succ, List.getElem_cons_zero, Act.put, List.setIfInBounds_toArray, List.set_cons_zero, List.set_cons_succ, bne_self_eq_false, beq_self_eq_true])
  refine wpAnyH_take (i := 17) (v := ?v18) rfl (by kernel_rfl) (by kernel_rfl) (by kernel_rfl) (fun _ _ _ h => h) (Or.inl ⟨by rfl, ?hy18⟩) (by assumption) ?rest18
  case hy18 => intro w hSw; (try dsimp only at hSw); go_simp; try with_reducible rfl
  (try simp only [List.getElem_toArray, List.getElem_cons_succ, List.getElem_cons_zero, Act.put, List.setIfInBounds_toArray, List.set_cons_zero, List.set_cons_succ, bne_self_eq_false, beq_self_eq_true])
  refine wpAnyH_take (i := 18) (v := ?v19) rfl (by kernel_rfl) (by kernel_rfl) (by kernel_rfl) (fun _ _ _ h => h) (Or.inl ⟨by rfl, ?hy19⟩) (by assumption) ?rest19
  case hy19 => intro w hSw; (try dsimp only at hSw); go_simp; try with_reducible rfl
  (try simp only [List.getElem_toArray, List.getElem_cons_succ, List.getElem_cons_zero, Act.put, List.setIfInBounds_toArray, List.set_cons_zero, List.set_cons_succ, bne_self_eq_false, beq_self_eq_true])
  refine wpAnyH_take (i := 19) (v := ?v20) rfl (by kernel_rfl) (by kernel_rfl) (by kernel_rfl) (fun _ _ _ h => h) (Or.inl ⟨by rfl, ?hy20⟩) (by assumption) ?rest20
  case hy20 => intro w hSw; (try dsimp only at hSw); go_simp; try with_reducible rfl
  (try simp only [List.getElem_toArray, List.getElem_cons_succ, List.getElem_cons_zero, Act.put, List.setIfInBounds_toArray, List.set_cons_zero, List.set_cons_succ, bne_self_eq_false, beq_self_eq_true])
  refine wpAnyH_take (i := 20) (v := ?v21) rfl (by kernel_rfl) (by kernel_rfl) (by kernel_rfl) (fun _ _ _ h => h) (Or.inl ⟨by rfl, ?hy21⟩) (by assumption) ?rest21
  case hy21 => intro w hSw; (try dsimp only at hSw); go_simp; try with_reducible rfl
  (try simp only [List.getElem_toArray, List.getElem_cons_succ, List.getElem_cons_zero, Act.put, List.setIfInBounds_toArray, List.set_cons_zero, List.set_cons_succ, bne_self_eq_false, beq_self_eq_true])
  refine wpAnyH_take (i := 21) (v := ?v22) rfl (by kernel_rfl) (by kernel_rfl) (by kernel_rfl) (fun _ _ _ h => h) (Or.inl ⟨by rfl, ?hy22⟩) (by assumption) ?rest22
  case hy22 => intro w hSw; (try dsimp only at hSw); go_simp; try with_reducible rfl
  (try simp only [List.getElem_toArray, List.getElem_cons_succ, List.getElem_cons_zero, Act.put, List.setIfInBounds_toArray, List.set_cons_zero, List.set_cons_succ, bne_self_eq_false, beq_self_eq_true])
  refine wpAnyH_take (i := 22) (v := ?v23) rfl (by kernel_rfl) (by kernel_rfl) (by kernel_rfl) (fun _ _ _ h => h) (Or.inl ⟨by rfl, ?hy23⟩) (by assumption) ?rest23
  case hy23 => intro w hSw; (try dsimp only at hSw); go_simp; try with_reducible rfl
  (try simp only [List.getElem_toArray, List.getElem_cons_succ, List.getElem_cons_zero, Act.put, List.setIfInBounds_toArray, List.set_cons_zero, List.set_cons_succ, bne_self_eq_false, beq_self_eq_true])
  refine wpAnyH_take (i := 23) (v := ?v24) rfl (by kernel_rfl) (by kernel_rfl) (by kernel_rfl) (fun _ _ _ h => h) (Or.inl ⟨by rfl, ?hy24⟩) (by assumption) ?rest24
  case hy24 => intro w hSw; (try dsimp only at hSw); go_simp; try with_reducible rfl
  (try simp only [List.getElem_toArray, List.getElem_cons_succ, List.getElem_cons_zero, Act.put, List.setIfInBounds_toArray, List.set_cons_zero, List.set_cons_succ, bne_self_eq_false, beq_self_eq_true])
  refine wpAnyH_take (i := 24) (v := ?v25) rfl (by kernel_rfl) (by kernel_rfl) (by kernel_rfl) (fun _ _ _ h => h) (Or.inl ⟨by rfl, ?hy25⟩) (by assumption) ?rest25
  case hy25 => intro w hSw; (try dsimp only at hSw); go_simp; try with_reducible rfl
  (try simp only [List.getElem_toArray, List.getElem_cons_succ, List.getElem_cons_zero, Act.put, List.setIfInBounds_toArray, List.set_cons_zero, List.set_cons_succ, bne_self_eq_false, beq_self_eq_true])
  refine wpAnyH_ready (rs := [25]) (by kernel_rfl) (by simp) ?_
  refine (AllReadyH.cons rfl (fun K hK => ?_) AllReadyH.nil)
  go_simp
  refine (CF1.out _ FK.out FX.out).mono ?_
  rintro e w26 ⟨rfl, hst⟩
  replace FK := Lib.hid (FK.out.below hst)
  replace FT := Lib.hid (FT.out.below hst)
  replace FX := Lib.hid (FX.out.below hst)
  replace X1 := Lib.hid (X1.out.below hst)
  replace X2 := Lib.hid (X2.out.below hst)
  replace HBW := Lib.hid (below_chV HBW.out hst)
  clear hst
  refine hK.out _ _ (HS0.out _ HBW.out) (fun hHeld => ?_)
  clear hK K
  (try simp only [List.getElem_toArray, List.getElem_cons_succ, List.getElem_cons_zero, Act.put, List.setIfInBounds_toArray, List.set_cons_zero, List.set_cons_succ, bne_self_eq_false, beq_self_eq_true])
  refine wpAnyH_take (i := 26) (v := ?v27) rfl (by kernel_rfl) (by kernel_rfl) (by kernel_rfl) (fun _ _ _ h => h) (Or.inl ⟨by rfl, ?hy27⟩) (by assumption) ?rest27
  case hy27 => intro w hSw; (try dsimp only at hSw); go_simp; try with_reducible rfl
  (try simp only [List.getElem_toArray, List.getElem_cons_succ, List.getElem_cons_zero, Act.put, List.setIfInBounds_toArray, List.set_cons_zero, List.set_cons_succ, bne_self_eq_false, beq_self_eq_true])
  refine wpAnyH_take (i := 27) (v := ?v28) rfl (by kernel_rfl) (by kernel_rfl) (by kernel_rfl) (fun _ _ _ h => h) (Or.inl ⟨by rfl, ?hy28⟩) (by assumption) ?rest28
  case hy28 => intro w hSw; (try dsimp only at hSw); go_simp; try with_reducible rfl
  (try simp only [List.getElem_toArray, List.getElem_cons_succ, List.getElem_cons_zero, Act.put, List.setIfInBounds_toArray, List.set_cons_zero, List.set_cons_succ, bne_self_eq_false, beq_self_eq_true])
  refine wpAnyH_take (i := 28) (v := ?v29) rfl (by kernel_rfl) (by kernel_rfl) (by kernel_rfl) (fun _ _ _ h => h) (Or.inl ⟨by rfl, ?hy29⟩) (by assumption) ?rest29
  case hy29 => intro w hSw; (try dsimp only at hSw); go_simp; try with_reducible rfl
  (try simp only [List.getElem_toArray, List.getElem_cons_succ, List.getElem_cons_zero, Act.put, List.setIfInBounds_toArray, List.set_cons_zero, List.set_cons_succ, bne_self_eq_false, beq_self_eq_true])
  refine wpAnyH_take (i := 29) (v := ?v30) rfl (by kernel_rfl) (by kernel_rfl) (by kernel_rfl) (fun _ _ _ h => h) (Or.inl ⟨by rfl, ?hy30⟩) (by assumption) ?rest30
  case hy30 => intro w hSw; (try dsimp only at hSw); go_simp; try with_reducible rfl
  (try simp only [List.getElem_toArray, List.getElem_cons_succ, List.getElem_cons_zero, Act.put, List.setIfInBounds_toArray, List.set_cons_zero, List.set_cons_succ, bne_self_eq_false, beq_self_eq_true])
  refine wpAnyH_take (i := 31) (v := ?v31) rfl (by kernel_rfl) (by kernel_rfl) (by kernel_rfl) (fun _ _ _ h => h) (Or.inl ⟨by rfl, ?hy31⟩) (by assumption) ?rest31
  case hy31 => intro w hSw; (try dsimp only at hSw); go_simp; try with_reducible rfl
  (try simp only [List.getElem_toArray, List.getElem_cons_succ, List.getElem_cons_zero, Act.put, List.setIfInBounds_toArray, List.set_cons_zero, List.set_cons_succ, bne_self_eq_false, beq_self_eq_true])
  refine wpAnyH_take (i := 32) (v := ?v32) rfl (by kernel_rfl) (by kernel_rfl) (by kernel_rfl) (fun _ _ _ h => h) (Or.inl ⟨by rfl, ?hy32⟩) (by assumption) ?rest32
  case hy32 => intro w hSw; (try dsimp only at hSw); go_simp; try with_reducible rfl
  (try simp only [List.getElem_toArray, List.getElem_cons_succ, List.getElem_cons_zero, Act.put, List.setIfInBounds_toArray, List.set_cons_zero, List.set_cons_succ, bne_self_eq_false, beq_self_eq_true])
  refine wpAnyH_take (i := 33) (v := ?v33) rfl (by kernel_rfl) (by kernel_rfl) (by kernel_rfl) (fun _ _ _ h => h) (Or.inl ⟨by rfl, ?hy33⟩) (by assumption) ?rest33
  case hy33 => intro w hSw; (try dsimp only at hSw); go_simp; try with_reducible rfl
  (try simp only [List.getElem_toArray, List.getElem_cons_succ, List.getElem_cons_zero, Act.put, List.setIfInBounds_toArray, List.set_cons_zero, List.set_cons_succ, bne_self_eq_false, beq_self_eq_true])
  refine wpAnyH_take (i := 34) (v := ?v34) rfl (by kernel_rfl) (by kernel_rfl) (by kernel_rfl) (fun _ _ _ h => h) (Or.inl ⟨by rfl, ?hy34⟩) (by assumption) ?rest34
  case hy34 => intro w hSw; (try dsimp only at hSw); go_simp; try with_reducible rfl
  (try simp only [List.getElem_toArray, List.getElem_cons_succ, List.getElem_cons_zero, Act.put, List.setIfInBounds_toArray, List.set_cons_zero, List.set_cons_succ, bne_self_eq_false, beq_self_eq_true])
  refine wpAnyH_ready (rs := [30]) (by kernel_rfl) (by simp) ?_
  refine (AllReadyH.cons rfl (fun K hK => ?_) AllReadyH.nil)
  go_simp
  refine (CF2.out _ FK.out FT.out).mono ?_
  rintro e w35 ⟨rfl, hst⟩
  replace FK := Lib.hid (FK.out.below hst)
  replace FT := Lib.hid (FT.out.below hst)
  replace FX := Lib.hid (FX.out.below hst)
  replace X1 := Lib.hid (X1.out.below hst)
  replace X2 := Lib.hid (X2.out.below hst)
  replace HBW := Lib.hid (below_chV HBW.out hst)
  clear hst
  refine hK.out _ _ (HS0.out _ HBW.out) (fun hHeld => ?_)
  clear hK K
  (try simp only [List.getElem_toArray, List.getElem_cons_succ, List.getElem_cons_zero, Act.put, List.setIfInBounds_toArray, List.set_cons_zero, List.set_cons_succ, bne_self_eq_false, beq_self_eq_true])
  refine wpAnyH_ready (rs := [35]) (by kernel_rfl) (by simp) ?_
  refine (AllReadyH.cons rfl (fun K hK => ?_) AllReadyH.nil)
  go_simp
  refine (CF3.out _ FK.out FX.out).mono ?_
  rintro e w36 ⟨rfl, hst⟩
  replace FK := Lib.hid (FK.out.below hst)
  replace FT := Lib.hid (FT.out.below hst)
  replace FX := Lib.hid (FX.out.below hst)
  replace X1 := Lib.hid (X1.out.below hst)
  replace X2 := Lib.hid (X2.out.below hst)
  replace HBW := Lib.hid (below_chV HBW.out hst)
  clear hst
  refine hK.out _ _ (HS0.out _ HBW.out) (fun hHeld => ?_)
  clear hK K
  (try simp only [List.getElem_toArray, List.getElem_cons_succ, List.getElem_cons_zero, Act.put, List.setIfInBounds_toArray, List.set_cons_zero, List.set_cons_succ, bne_self_eq_false, beq_self_eq_true])
  refine wpAnyH_take (i := 36) (v := ?v37) rfl (by kernel_rfl) (by kernel_rfl) (by kernel_rfl) (fun _ _ _ h => h) (Or.inl ⟨by rfl, ?hy37⟩) (by assumption) ?rest37
  case hy37 => intro w hSw; (try dsimp only at hSw); go_simp; try with_reducible rfl
  (try simp only [List.getElem_toArray, List.getElem_cons_succ, List.getElem_cons_zero, Act.put, List.setIfInBounds_toArray, List.set_cons_zero, List.set_cons_succ, bne_self_eq_false, beq_self_eq_true])
  refine wpAnyH_take (i := 37) (v := ?v38) rfl (by kernel_rfl) (by kernel_rfl) (by kernel_rfl) (fun _ _ _ h => h) (Or.inl ⟨by rfl, ?hy38⟩) (by assumption) ?rest38
  case hy38 => intro w hSw; (try dsimp only at hSw); go_simp; try with_reducible rfl
  (try simp only [List.getElem_toArray, List.getElem_cons_succ, List.getElem_cons_zero, Act.put, List.setIfInBounds_toArray, List.set_cons_zero, List.set_cons_succ, bne_self_eq_false, beq_self_eq_true])
  refine wpAnyH_take (i := 38) (v := ?v39) rfl (by kernel_rfl) (by kernel_rfl) (by kernel_rfl) (fun _ _ _ h => h) (Or.inl ⟨by rfl, ?hy39⟩) (by assumption) ?rest39
  case hy39 => intro w hSw; (try dsimp only at hSw); go_simp; try with_reducible rfl
  (try simp only [List.getElem_toArray, List.getElem_cons_succ, List.getElem_cons_zero, Act.put, List.setIfInBounds_toArray, List.set_cons_zero, List.set_cons_succ, bne_self_eq_false, beq_self_eq_true])
  refine wpAnyH_take (i := 39) (v := ?v40) rfl (by kernel_rfl) (by kernel_rfl) (by kernel_rfl) (fun _ _ _ h => h) (Or.inl ⟨by rfl, ?hy40⟩) (by assumption) ?rest40
  case hy40 => intro w hSw; (try dsimp only at hSw); go_simp; try with_reducible rfl
  (try simp only [List.getElem_toArray, List.getElem_cons_succ, List.getElem_cons_zero, Act.put, List.setIfInBounds_toArray, List.set_cons_zero, List.set_cons_succ, bne_self_eq_false, beq_self_eq_true])
  refine wpAnyH_take (i := 40) (v := ?v41) rfl (by kernel_rfl) (by kernel_rfl) (by kernel_rfl) (fun _ _ _ h => h) (Or.inl ⟨by rfl, ?hy41⟩) (by assumption) ?rest41
  case hy41 => intro w hSw; (try dsimp only at hSw); go_simp; try with_reducible rfl
  (try simp only [List.getElem_toArray, List.getElem_cons_succ, List.getElem_cons_zero, Act.put, List.setIfInBounds_toArray, List.set_cons_zero, List.set_cons_succ, bne_self_eq_false, beq_self_eq_true])
  refine wpAnyH_take (i := 42) (v := ?v42) rfl (by kernel_rfl) (by kernel_rfl) (by kernel_rfl) (fun _ _ _ h => h) (Or.inl ⟨by rfl, ?hy42⟩) (by assumption) ?rest42
  case hy42 => intro w hSw; (try dsimp only at hSw); go_simp; try with_reducible rfl
  (try simp only [List.getElem_toArray, List.getElem_cons_succ, List.getElem_cons_zero, Act.put, List.setIfInBounds_toArray, List.set_cons_zero, List.set_cons_succ, bne_self_eq_false, beq_self_eq_true])
  refine wpAnyH_take (i := 43) (v := ?v43) rfl (by kernel_rfl) (by kernel_rfl) (by kernel_rfl) (fun _ _ _ h => h) (Or.inl ⟨by rfl, ?hy43⟩) (by assumption) ?rest43
  case hy43 => intro w hSw; (try dsimp only at hSw); go_simp; try with_reducible rfl
  (try simp only [List.getElem_toArray, List.getElem_cons_succ, List.getElem_cons_zero, Act.put, List.setIfInBounds_toArray, List.set_cons_zero, List.set_cons_succ, bne_self_eq_false, beq_self_eq_true])
  refine wpAnyH_ready (rs := [41]) (by kernel_rfl) (by simp) ?_
  refine (AllReadyH.cons rfl (fun K hK => ?_) AllReadyH.nil)
  go_simp
  refine (CF4.out _ FK.out FT.out).mono ?_
  rintro e w44 ⟨rfl, hst⟩
  replace FK := Lib.hid (FK.out.below hst)
  replace FT := Lib.hid (FT.out.below hst)
  replace FX := Lib.hid (FX.out.below hst)
  replace X1 := Lib.hid (X1.out.below hst)
  replace X2 := Lib.hid (X2.out.below hst)
  replace HBW := Lib.hid (below_chV HBW.out hst)
  clear hst
  refine hK.out _ _ (HS0.out _ HBW.out) (fun hHeld => ?_)
  clear hK K
  (try simp only [List.getElem_toArray, List.getElem_cons_succ, List.getElem_cons_zero, Act.put, List.setIfInBounds_toArray, List.set_cons_zero, List.set_cons_succ, bne_self_eq_false, beq_self_eq_true])
  refine wpAnyH_ready (rs := [44]) (by kernel_rfl) (by simp) ?_
  refine (AllReadyH.cons rfl (fun K hK => ?_) AllReadyH.nil)
  go_simp
  refine (CF5.out _ FK.out FX.out).mono ?_
  rintro e w45 ⟨rfl, hst⟩
  replace FK := Lib.hid (FK.out.below hst)
  replace FT := Lib.hid (FT.out.below hst)
  replace FX := Lib.hid (FX.out.below hst)
  replace X1 := Lib.hid (X1.out.below hst)
  replace X2 := Lib.hid (X2.out.below hst)
  replace HBW := Lib.hid (below_chV HBW.out hst)
  clear hst
  refine hK.out _ _ (HS0.out _ HBW.out) (fun hHeld => ?_)
  clear hK K
  (try simp only [List.getElem_toArray, List.getElem_cons_succ, List.getElem_cons_zero, Act.put, List.setIfInBounds_toArray, List.set_cons_zero, List.set_cons_succ, bne_self_eq_false, beq_self_eq_true])
  refine wpAnyH_take (i := 45) (v := ?v46) rfl (by kernel_rfl) (by kernel_rfl) (by kernel_rfl) (fun _ _ _ h => h) (Or.inl ⟨by rfl, ?hy46⟩) (by assumption) ?rest46
  case hy46 => intro w hSw; (try dsimp only at hSw); go_simp; try with_reducible rfl
  (try simp only [List.getElem_toArray, List.getElem_cons_succ, List.getElem_cons_zero, Act.put, List.setIfInBounds_toArray, List.set_cons_zero, List.set_cons_succ, bne_self_eq_false, beq_self_eq_true])
  refine wpAnyH_take (i := 46) (v := ?v47) rfl (by kernel_rfl) (by kernel_rfl) (by kernel_rfl) (fun _ _ _ h => h) (Or.inl ⟨by rfl, ?hy47⟩) (by assumption) ?rest47
  case hy47 => intro w hSw; (try dsimp only at hSw); go_simp; try with_reducible rfl
  (try simp only [List.getElem_toArray, List.getElem_cons_succ, List.getElem_cons_zero, Act.put, List.setIfInBounds_toArray, List.set_cons_zero, List.set_cons_succ, bne_self_eq_false, beq_self_eq_true])
  refine wpAnyH_done (by kernel_rfl) ?_ _
  go_wp2_with fail
  exact HQ.out _ _ _ _ _ _ _ _ _ _ _ _ _ _ _ _ _ _ _ _ _ _ _ _ _ _ _ _ _ _ _ _ _ _ _ _ _ _ _ _ _ _ _ _ _ _ _ HBW.out

end Go.Proofs.YtgegaipkfpdocaaDoor
