/-
  TermLifts: its region 10. Printed by gen_lifts.py.
-/
import Derived.Test.YtgegaipkfpdocaaDoorLiftsA
namespace Go.Proofs.YtgegaipkfpdocaaDoor
open Go.RowKit
set_option linter.unusedSimpArgs false
set_option linter.unusedVariables false
set_option maxRecDepth 100000

set_option maxHeartbeats 64000000 in
theorem lifts10 (w : World) (N : Nat) (t u a x : Tm) (ls : List Lv) (A1 A2 A3 A4 A5 A6 A7 A8 Al : Option Addr) (n1 c1 n2 c2 n3 c3 n4 c4 n5 c5 n6 c6 n7 c7 n8 c8 nl cl : Nat) (n mm f : Int) (m : Nat) (wc : World) (u0 u1 u2 u10 u11 u12 u13 u14 u16 u17 u18 u19 u20 u21 u22 u23 u24 u25 u26 u27 u28 u29 u30 u31 u32 u33 u34 u35 u36 u37 u38 u39 u40 u41 u42 u43 u44 u45 u46 u47 u48 u49 u50 u51 u52 u53 u54 u55 u56 u57 u58 u59 u60 u61 u62 u63 u64 u65 u66 u67 u68 u69 u70 u71 u72 u73 u74 u75 u76 u77 u78 u79 u80 u81 u82 u83 u84 u85 u86 u87 u88 u89 u90 u91 u92 u93 u94 u95 u96 u97 u98 u99 u100 u101 u102 u103 u104 u105 u106 u107 u108 u109 u110 u111 u112 u113 u114 u115 u116 u117 u118 u119 u120 u121 u122 u123 u124 u125 u126 u127 u128 u129 u130 u131 u132 u133 u134 u135 u136 u137 u138 u139 u140 u141 u142 u143 u144 u145 u146 u147 u148 u149 u150 u151 u152 u153 u154 u155 u156 u157 u158 u159 u160 u161 u162 u163 : Value)
    (HN : Hid (w.heap.size = N)) (HS : Hid (LSt w N t u a ls (.slice A1 n1 c1) (.slice A2 n2 c2) (.slice A3 n3 c3) (.slice A4 n4 c4) (.slice A5 n5 c5) (.slice A6 n6 c6) (.slice Al nl cl) wc)) (HX : Hid (TmIn wc m x (.slice A7 n7 c7) (.slice A8 n8 c8))) (rb : Bool)
    (CS1 : Hid (∀ W B1 k1 d1 B2 k2 d2 B3 k3 d3 B4 k4 d4, RT W t (.slice B1 k1 d1) (.slice B2 k2 d2) → RT W t (.slice B3 k3 d3) (.slice B4 k4 d4) → Calls Tryd.prog 19 #[.agg #[.int .i64 t.kind, .int .i64 t.num, .int .i64 t.atN, .slice B1 k1 d1, .slice B2 k2 d2], .agg #[.int .i64 t.kind, .int .i64 t.num, .int .i64 t.atN, .slice B3 k3 d3, .slice B4 k4 d4]] W (fun e w' => e = .returned (.bool true) ∧ Below W.heap.size W w')))
    (CS2 : Hid (∀ W B1 k1 d1 B2 k2 d2 B3 k3 d3 B4 k4 d4, RT W t (.slice B1 k1 d1) (.slice B2 k2 d2) → RT W u (.slice B3 k3 d3) (.slice B4 k4 d4) → Calls Tryd.prog 16 #[.agg #[.int .i64 t.kind, .int .i64 t.num, .int .i64 t.atN, .slice B1 k1 d1, .slice B2 k2 d2], .agg #[.int .i64 u.kind, .int .i64 u.num, .int .i64 u.atN, .slice B3 k3 d3, .slice B4 k4 d4]] W (fun e w' => e = .returned (.bool false) ∧ Below W.heap.size W w')))
    (CL : Hid (∀ W, Kinds W → RT W t (.slice A1 n1 c1) (.slice A2 n2 c2) → Calls Tryd.prog 8 #[.agg #[.int .i64 t.kind, .int .i64 t.num, .int .i64 t.atN, (.slice A1 n1 c1), (.slice A2 n2 c2)], .int .i64 0, .int .i64 0] W (MadeT t W)))
    (CR : Hid (∀ W B1 k1 d1 B2 k2 d2, Kinds W → RT W t (.slice B1 k1 d1) (.slice B2 k2 d2) → Calls Tryd.prog 20 #[.agg #[.int .i64 t.kind, .int .i64 t.num, .int .i64 t.atN, .slice B1 k1 d1, .slice B2 k2 d2]] W (fun e w' => e = .returned (.bool rb) ∧ Below W.heap.size W w')))
    (code : Code) (hcode : Tryd.f4.body.bind (codeAtT 10) = some code) (K : Act → World → Prop)
    (hQ : ∀ v147 v148 v149 v150 v151 v152 v153 v154 v155 v156 v157 v158 v159 v160 v161 v162 v163 w', Below wc.heap.size wc w' → K { tmps := List.toArray [u0, u1, u2, .int .i64 n, .int .i64 mm, .int .i64 f, .slice Al nl cl, .pointer (some ⟨N, 0, none⟩), .pointer (some ⟨N + 1, 0, none⟩), .pointer (some ⟨N + 2, 0, none⟩), u10, u11, u12, u13, .bool true, .pointer (some ⟨m, 0, none⟩), u16, u17, u18, u19, u20, u21, u22, u23, u24, u25, u26, u27, u28, u29, u30, u31, u32, u33, u34, u35, u36, u37, u38, u39, u40, u41, u42, u43, u44, u45, u46, u47, u48, u49, u50, u51, u52, u53, u54, u55, u56, u57, u58, u59, u60, u61, u62, u63, u64, u65, u66, u67, u68, u69, u70, u71, u72, u73, u74, u75, u76, u77, u78, u79, u80, u81, u82, u83, u84, u85, u86, u87, u88, u89, u90, u91, u92, u93, u94, u95, u96, u97, u98, u99, u100, u101, u102, u103, u104, u105, u106, u107, u108, u109, u110, u111, u112, u113, u114, u115, u116, u117, u118, u119, u120, u121, u122, u123, u124, u125, u126, u127, u128, u129, u130, u131, u132, u133, u134, u135, u136, u137, u138, u139, u140, u141, u142, u143, u144, u145, u146, v147, v148, v149, v150, v151, v152, v153, v154, v155, v156, v157, v158, v159, v160, v161, v162, v163], defers := [] } w') :
    code.wp Tryd.prog (Exit.then K fun _ _ _ => False) { tmps := List.toArray [u0, u1, u2, .int .i64 n, .int .i64 mm, .int .i64 f, .slice Al nl cl, .pointer (some ⟨N, 0, none⟩), .pointer (some ⟨N + 1, 0, none⟩), .pointer (some ⟨N + 2, 0, none⟩), u10, u11, u12, u13, u14, .pointer (some ⟨m, 0, none⟩), u16, u17, u18, u19, u20, u21, u22, u23, u24, u25, u26, u27, u28, u29, u30, u31, u32, u33, u34, u35, u36, u37, u38, u39, u40, u41, u42, u43, u44, u45, u46, u47, u48, u49, u50, u51, u52, u53, u54, u55, u56, u57, u58, u59, u60, u61, u62, u63, u64, u65, u66, u67, u68, u69, u70, u71, u72, u73, u74, u75, u76, u77, u78, u79, u80, u81, u82, u83, u84, u85, u86, u87, u88, u89, u90, u91, u92, u93, u94, u95, u96, u97, u98, u99, u100, u101, u102, u103, u104, u105, u106, u107, u108, u109, u110, u111, u112, u113, u114, u115, u116, u117, u118, u119, u120, u121, u122, u123, u124, u125, u126, u127, u128, u129, u130, u131, u132, u133, u134, u135, u136, u137, u138, u139, u140, u141, u142, u143, u144, u145, u146, u147, u148, u149, u150, u151, u152, u153, u154, u155, u156, u157, u158, u159, u160, u161, u162, u163], defers := [] } wc := by
  simp only [Tryd.f4, codeAtT, Option.bind_some, Nat.reduceEqDiff, if_true, if_false, Option.some.injEq] at hcode
  subst hcode
  have HQ := Lib.hid hQ
  clear hQ
  have HS0 : Hid (∀ W', Below wc.heap.size wc W' → W'.cell? ⟨N, 0, none⟩ = some (.int .i64 t.kind) ∧ W'.cell? ⟨N, 1, none⟩ = some (.int .i64 t.num) ∧ W'.cell? ⟨N, 2, none⟩ = some (.int .i64 t.atN) ∧ W'.cell? ⟨N, 3, none⟩ = some (.slice A1 n1 c1) ∧ W'.cell? ⟨N, 4, none⟩ = some (.slice A2 n2 c2) ∧ W'.cell? ⟨N + 1, 0, none⟩ = some (.int .i64 u.kind) ∧ W'.cell? ⟨N + 1, 1, none⟩ = some (.int .i64 u.num) ∧ W'.cell? ⟨N + 1, 2, none⟩ = some (.int .i64 u.atN) ∧ W'.cell? ⟨N + 1, 3, none⟩ = some (.slice A3 n3 c3) ∧ W'.cell? ⟨N + 1, 4, none⟩ = some (.slice A4 n4 c4)) := Lib.hid fun W' h => ⟨(HS.out.below HN.out h).bt.cell (j := 0) rfl, (HS.out.below HN.out h).bt.cell (j := 1) rfl, (HS.out.below HN.out h).bt.cell (j := 2) rfl, (HS.out.below HN.out h).bt.cell (j := 3) rfl, (HS.out.below HN.out h).bt.cell (j := 4) rfl, (HS.out.below HN.out h).bu.cell (j := 0) rfl, (HS.out.below HN.out h).bu.cell (j := 1) rfl, (HS.out.below HN.out h).bu.cell (j := 2) rfl, (HS.out.below HN.out h).bu.cell (j := 3) rfl, (HS.out.below HN.out h).bu.cell (j := 4) rfl⟩
  have HBW : Hid (Below wc.heap.size wc wc.drew) := Lib.hid (below_drewT wc)
  have FK := Lib.hid (HS.out.K.below HBW.out)
  have FT := Lib.hid (HS.out.T.below HBW.out)
  have FU := Lib.hid (HS.out.U.below HBW.out)
  refine wp_region_held_drew (S := fun w' => w'.cell? ⟨N, 0, none⟩ = some (.int .i64 t.kind) ∧ w'.cell? ⟨N, 1, none⟩ = some (.int .i64 t.num) ∧ w'.cell? ⟨N, 2, none⟩ = some (.int .i64 t.atN) ∧ w'.cell? ⟨N, 3, none⟩ = some (.slice A1 n1 c1) ∧ w'.cell? ⟨N, 4, none⟩ = some (.slice A2 n2 c2) ∧ w'.cell? ⟨N + 1, 0, none⟩ = some (.int .i64 u.kind) ∧ w'.cell? ⟨N + 1, 1, none⟩ = some (.int .i64 u.num) ∧ w'.cell? ⟨N + 1, 2, none⟩ = some (.int .i64 u.atN) ∧ w'.cell? ⟨N + 1, 3, none⟩ = some (.slice A3 n3 c3) ∧ w'.cell? ⟨N + 1, 4, none⟩ = some (.slice A4 n4 c4)) (by kernel_rfl) (HS0.out _ HBW.out) (fun hHeld => ?_)
  generalize hwd : wc.drew = wd at *
  clear hwd
  refine wpAnyH_take (i := 0) (v := ?v127) rfl (by kernel_rfl) (by kernel_rfl) (by kernel_rfl) (fun _ _ _ h => h) (Or.inl ⟨by rfl, ?hy127⟩) (by assumption) ?rest127
  case hy127 => intro w hSw; (try dsimp only at hSw); go_simp; try with_reducible rfl
  (try simp only [List.getElem_toArray, List.getElem_cons_succ, List.getElem_cons_zero, Act.put, List.setIfInBounds_toArray, List.set_cons_zero, List.set_cons_succ, bne_self_eq_false, beq_self_eq_true])
  refine wpAnyH_take (i := 1) (v := ?v128) rfl (by kernel_rfl) (by kernel_rfl) (by kernel_rfl) (fun _ _ _ h => h) (Or.inl ⟨by rfl, ?hy128⟩) (by assumption) ?rest128
  case hy128 => intro w hSw; (try dsimp only at hSw); go_simp; try with_reducible rfl
  (try simp only [List.getElem_toArray, List.getElem_cons_succ, List.getElem_cons_zero, Act.put, List.setIfInBounds_toArray, List.set_cons_zero, List.set_cons_succ, bne_self_eq_false, beq_self_eq_true])
  refine wpAnyH_ready (rs := [2]) (by kernel_rfl) (by simp) ?_
  refine (AllReadyH.cons rfl (fun K hK => ?_) AllReadyH.nil)
  go_simp
  refine (CS1.out _ _ _ _ _ _ _ _ _ _ _ _ _ FT.out FT.out).mono ?_
  rintro e w129 ⟨rfl, hst⟩
  replace FK := Lib.hid (FK.out.below hst)
  replace FT := Lib.hid (FT.out.below hst)
  replace FU := Lib.hid (FU.out.below hst)
  replace HBW := Lib.hid (below_chV HBW.out hst)
  clear hst
  refine hK.out _ _ (HS0.out _ HBW.out) (fun hHeld => ?_)
  clear hK K
  (try simp only [List.getElem_toArray, List.getElem_cons_succ, List.getElem_cons_zero, Act.put, List.setIfInBounds_toArray, List.set_cons_zero, List.set_cons_succ, bne_self_eq_false, beq_self_eq_true])
  refine wpAnyH_take (i := 3) (v := ?v130) rfl (by kernel_rfl) (by kernel_rfl) (by kernel_rfl) (fun _ _ _ h => h) (Or.inl ⟨by rfl, ?hy130⟩) (by assumption) ?rest130
  case hy130 => intro w hSw; (try dsimp only at hSw); go_simp; try with_reducible rfl
  (try simp only [List.getElem_toArray, List.getElem_cons_succ, List.getElem_cons_zero, Act.put, List.setIfInBounds_toArray, List.set_cons_zero, List.set_cons_succ, bne_self_eq_false, beq_self_eq_true])
  refine wpAnyH_take (i := 4) (v := ?v131) rfl (by kernel_rfl) (by kernel_rfl) (by kernel_rfl) (fun _ _ _ h => h) (Or.inl ⟨by rfl, ?hy131⟩) (by assumption) ?rest131
  case hy131 => intro w hSw; (try dsimp only at hSw); go_simp; try with_reducible rfl
  (try simp only [List.getElem_toArray, List.getElem_cons_succ, List.getElem_cons_zero, Act.put, List.setIfInBounds_toArray, List.set_cons_zero, List.set_cons_succ, bne_self_eq_false, beq_self_eq_true])
  refine wpAnyH_take (i := 5) (v := ?v132) rfl (by kernel_rfl) (by kernel_rfl) (by kernel_rfl) (fun _ _ _ h => h) (Or.inl ⟨by rfl, ?hy132⟩) (by assumption) ?rest132
  case hy132 => intro w hSw; (try dsimp only at hSw); go_simp; try with_reducible rfl
  (try simp only [List.getElem_toArray, List.getElem_cons_succ, List.getElem_cons_zero, Act.put, List.setIfInBounds_toArray, List.set_cons_zero, List.set_cons_succ, bne_self_eq_false, beq_self_eq_true])
  refine wpAnyH_ready (rs := [6]) (by kernel_rfl) (by simp) ?_
  refine (AllReadyH.cons rfl (fun K hK => ?_) AllReadyH.nil)
  go_simp
  refine (CS2.out _ _ _ _ _ _ _ _ _ _ _ _ _ FT.out FU.out).mono ?_
  rintro e w133 ⟨rfl, hst⟩
  replace FK := Lib.hid (FK.out.below hst)
  replace FT := Lib.hid (FT.out.below hst)
  replace FU := Lib.hid (FU.out.below hst)
  replace HBW := Lib.hid (below_chV HBW.out hst)
  clear hst
  refine hK.out _ _ (HS0.out _ HBW.out) (fun hHeld => ?_)
  clear hK K
  (try simp only [List.getElem_toArray, List.getElem_cons_succ, List.getElem_cons_zero, Act.put, List.setIfInBounds_toArray, List.set_cons_zero, List.set_cons_succ, bne_self_eq_false, beq_self_eq_true])
  refine wpAnyH_take (i := 7) (v := ?v134) rfl (by kernel_rfl) (by kernel_rfl) (by kernel_rfl) (fun _ _ _ h => h) (Or.inl ⟨by rfl, ?hy134⟩) (by assumption) ?rest134
  case hy134 => intro w hSw; (try dsimp only at hSw); go_simp; try with_reducible rfl
  (try simp only [List.getElem_toArray, List.getElem_cons_succ, List.getElem_cons_zero, Act.put, List.setIfInBounds_toArray, List.set_cons_zero, List.set_cons_succ, bne_self_eq_false, beq_self_eq_true])
  refine wpAnyH_take (i := 8) (v := ?v135) rfl (by kernel_rfl) (by kernel_rfl) (by kernel_rfl) (fun _ _ _ h => h) (Or.inl ⟨by rfl, ?hy135⟩) (by assumption) ?rest135
  case hy135 => intro w hSw; (try dsimp only at hSw); go_simp; try with_reducible rfl
  (try simp only [List.getElem_toArray, List.getElem_cons_succ, List.getElem_cons_zero, Act.put, List.setIfInBounds_toArray, List.set_cons_zero, List.set_cons_succ, bne_self_eq_false, beq_self_eq_true])
  refine wpAnyH_take (i := 9) (v := ?v136) rfl (by kernel_rfl) (by kernel_rfl) (by kernel_rfl) (fun _ _ _ h => h) (Or.inl ⟨by rfl, ?hy136⟩) (by assumption) ?rest136
  case hy136 => intro w hSw; (try dsimp only at hSw); go_simp; try with_reducible rfl
  (try simp only [List.getElem_toArray, List.getElem_cons_succ, List.getElem_cons_zero, Act.put, List.setIfInBounds_toArray, List.set_cons_zero, List.set_cons_succ, bne_self_eq_false, beq_self_eq_true])
  refine wpAnyH_take (i := 10) (v := ?v137) rfl (by kernel_rfl) (by kernel_rfl) (by kernel_rfl) (fun _ _ _ h => h) (Or.inl ⟨by rfl, ?hy137⟩) (by assumption) ?rest137
  case hy137 => intro w hSw; (try dsimp only at hSw); go_simp; try with_reducible rfl
  (try simp only [List.getElem_toArray, List.getElem_cons_succ, List.getElem_cons_zero, Act.put, List.setIfInBounds_toArray, List.set_cons_zero, List.set_cons_succ, bne_self_eq_false, beq_self_eq_true])
  refine wpAnyH_take (i := 12) (v := ?v138) rfl (by kernel_rfl) (by kernel_rfl) (by kernel_rfl) (fun _ _ _ h => h) (Or.inl ⟨by rfl, ?hy138⟩) (by assumption) ?rest138
  case hy138 => intro w hSw; (try dsimp only at hSw); go_simp; try with_reducible rfl
  (try simp only [List.getElem_toArray, List.getElem_cons_succ, List.getElem_cons_zero, Act.put, List.setIfInBounds_toArray, List.set_cons_zero, List.set_cons_succ, bne_self_eq_false, beq_self_eq_true])
  refine wpAnyH_ready (rs := [11]) (by kernel_rfl) (by simp) ?_
  refine (AllReadyH.cons rfl (fun K hK => ?_) AllReadyH.nil)
  go_simp
  refine (CR.out _ _ _ _ _ _ _ FK.out FT.out).mono ?_
  rintro e w139 ⟨rfl, hst⟩
  replace FK := Lib.hid (FK.out.below hst)
  replace FT := Lib.hid (FT.out.below hst)
  replace FU := Lib.hid (FU.out.below hst)
  replace HBW := Lib.hid (below_chV HBW.out hst)
  clear hst
  refine hK.out _ _ (HS0.out _ HBW.out) (fun hHeld => ?_)
  clear hK K
  (try simp only [List.getElem_toArray, List.getElem_cons_succ, List.getElem_cons_zero, Act.put, List.setIfInBounds_toArray, List.set_cons_zero, List.set_cons_succ, bne_self_eq_false, beq_self_eq_true])
  refine wpAnyH_ready (rs := [13]) (by kernel_rfl) (by simp) ?_
  refine (AllReadyH.cons rfl (fun K hK => ?_) AllReadyH.nil)
  go_simp
  refine (CL.out _ FK.out FT.out).mono ?_
  intro e w140 hmade
  obtain ⟨A140x, n140x, c140x, A140y, n140y, c140y, rfl, hru, hst⟩ := hmade.gives
  replace FK := Lib.hid (FK.out.below hst)
  replace FT := Lib.hid (FT.out.below hst)
  replace FU := Lib.hid (FU.out.below hst)
  replace HBW := Lib.hid (below_chV HBW.out hst)
  have X1 := Lib.hid hru
  clear hru hst hmade
  refine hK.out _ _ (HS0.out _ HBW.out) (fun hHeld => ?_)
  clear hK K
  (try simp only [List.getElem_toArray, List.getElem_cons_succ, List.getElem_cons_zero, Act.put, List.setIfInBounds_toArray, List.set_cons_zero, List.set_cons_succ, bne_self_eq_false, beq_self_eq_true])
  refine wpAnyH_ready (rs := [14]) (by kernel_rfl) (by simp) ?_
  refine (AllReadyH.cons rfl (fun K hK => ?_) AllReadyH.nil)
  go_simp
  refine (CR.out _ _ _ _ _ _ _ FK.out X1.out).mono ?_
  rintro e w141 ⟨rfl, hst⟩
  replace FK := Lib.hid (FK.out.below hst)
  replace FT := Lib.hid (FT.out.below hst)
  replace FU := Lib.hid (FU.out.below hst)
  replace X1 := Lib.hid (X1.out.below hst)
  replace HBW := Lib.hid (below_chV HBW.out hst)
  clear hst
  refine hK.out _ _ (HS0.out _ HBW.out) (fun hHeld => ?_)
  clear hK K
  (try simp only [List.getElem_toArray, List.getElem_cons_succ, List.getElem_cons_zero, Act.put, List.setIfInBounds_toArray, List.set_cons_zero, List.set_cons_succ, bne_self_eq_false, beq_self_eq_true])
  refine wpAnyH_take (i := 15) (v := ?v142) rfl (by kernel_rfl) (by kernel_rfl) (by kernel_rfl) (fun _ _ _ h => h) (Or.inl ⟨by rfl, ?hy142⟩) (by assumption) ?rest142
  case hy142 => intro w hSw; (try dsimp only at hSw); go_simp; try with_reducible rfl
  (try simp only [List.getElem_toArray, List.getElem_cons_succ, List.getElem_cons_zero, Act.put, List.setIfInBounds_toArray, List.set_cons_zero, List.set_cons_succ, bne_self_eq_false, beq_self_eq_true])
  refine wpAnyH_take (i := 16) (v := ?v143) rfl (by kernel_rfl) (by kernel_rfl) (by kernel_rfl) (fun _ _ _ h => h) (Or.inl ⟨by rfl, ?hy143⟩) (by assumption) ?rest143
  case hy143 => intro w hSw; (try dsimp only at hSw); go_simp; try with_reducible rfl
  (try simp only [List.getElem_toArray, List.getElem_cons_succ, List.getElem_cons_zero, Act.put, List.setIfInBounds_toArray, List.set_cons_zero, List.set_cons_succ, bne_self_eq_false, beq_self_eq_true])
  refine wpAnyH_take (i := 17) (v := ?v144) rfl (by kernel_rfl) (by kernel_rfl) (by kernel_rfl) (fun _ _ _ h => h) (Or.inl ⟨by rfl, ?hy144⟩) (by assumption) ?rest144
  case hy144 => intro w hSw; (try dsimp only at hSw); go_simp; try with_reducible rfl
  (try simp only [List.getElem_toArray, List.getElem_cons_succ, List.getElem_cons_zero, Act.put, List.setIfInBounds_toArray, List.set_cons_zero, List.set_cons_succ, bne_self_eq_false, beq_self_eq_true])
  refine wpAnyH_done (by kernel_rfl) ?_ _
  go_wp2_with fail
  exact HQ.out _ _ _ _ _ _ _ _ _ _ _ _ _ _ _ _ _ _ HBW.out

end Go.Proofs.YtgegaipkfpdocaaDoor
