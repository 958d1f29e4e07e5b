/-
  TermLifts: its region 9. Printed by gen_lifts.py.
-/
import Derived.Test.YtgegaipkfpdocaaDoorLiftsA
namespace Go.Proofs.YtgegaipkfpdocaaDoor
open Go.RowKit
set_option linter.unusedSimpArgs false
set_option linter.unusedVariables false
set_option maxRecDepth 100000

set_option maxHeartbeats 64000000 in
theorem lifts9 (w : World) (N : Nat) (t u a x : Tm) (ls : List Lv) (A1 A2 A3 A4 A5 A6 A7 A8 Al : Option Addr) (n1 c1 n2 c2 n3 c3 n4 c4 n5 c5 n6 c6 n7 c7 n8 c8 nl cl : Nat) (n mm f : Int) (m : Nat) (wc : World) (u0 u1 u2 u10 u11 u12 u13 u14 u16 u17 u18 u19 u20 u21 u22 u23 u24 u25 u26 u27 u28 u29 u30 u31 u32 u33 u34 u35 u36 u37 u38 u39 u40 u41 u42 u43 u44 u45 u46 u47 u48 u49 u50 u51 u52 u53 u54 u55 u56 u57 u58 u59 u60 u61 u62 u63 u64 u65 u66 u67 u68 u69 u70 u71 u72 u73 u74 u75 u76 u77 u78 u79 u80 u81 u82 u83 u84 u85 u86 u87 u88 u89 u90 u91 u92 u93 u94 u95 u96 u97 u98 u99 u100 u101 u102 u103 u104 u105 u106 u107 u108 u109 u110 u111 u112 u113 u114 u115 u116 u117 u118 u119 u120 u121 u122 u123 u124 u125 u126 u127 u128 u129 u130 u131 u132 u133 u134 u135 u136 u137 u138 u139 u140 u141 u142 u143 u144 u145 u146 u147 u148 u149 u150 u151 u152 u153 u154 u155 u156 u157 u158 u159 u160 u161 u162 u163 : Value)
    (HN : Hid (w.heap.size = N)) (HS : Hid (LSt w N t u a ls (.slice A1 n1 c1) (.slice A2 n2 c2) (.slice A3 n3 c3) (.slice A4 n4 c4) (.slice A5 n5 c5) (.slice A6 n6 c6) (.slice Al nl cl) wc)) (HX : Hid (TmIn wc m x (.slice A7 n7 c7) (.slice A8 n8 c8))) (xu pt pu lt lu : Tm) (z : Nat)
    (CU : Hid (∀ W, Kinds W → RT W u (.slice A3 n3 c3) (.slice A4 n4 c4) → Calls Tryd.prog 8 #[.agg #[.int .i64 u.kind, .int .i64 u.num, .int .i64 u.atN, (.slice A3 n3 c3), (.slice A4 n4 c4)], .int .i64 n, .int .i64 f] W (MadeT xu W)))
    (CS1 : Hid (∀ W B1 k1 d1 B2 k2 d2 B3 k3 d3 B4 k4 d4, RT W x (.slice B1 k1 d1) (.slice B2 k2 d2) → RT W xu (.slice B3 k3 d3) (.slice B4 k4 d4) → Calls Tryd.prog 19 #[.agg #[.int .i64 x.kind, .int .i64 x.num, .int .i64 x.atN, .slice B1 k1 d1, .slice B2 k2 d2], .agg #[.int .i64 xu.kind, .int .i64 xu.num, .int .i64 xu.atN, .slice B3 k3 d3, .slice B4 k4 d4]] W (fun e w' => e = .returned (.bool true) ∧ Below W.heap.size W w')))
    (CP1 : Hid (∀ W v, Kinds W → RT W t (.slice A1 n1 c1) (.slice A2 n2 c2) → RKv W [a] v → Calls Tryd.prog 9 #[.agg #[.int .i64 t.kind, .int .i64 t.num, .int .i64 t.atN, (.slice A1 n1 c1), (.slice A2 n2 c2)], v] W (MadeT pt W)))
    (CP2 : Hid (∀ W v, Kinds W → RT W u (.slice A3 n3 c3) (.slice A4 n4 c4) → RKv W [a] v → Calls Tryd.prog 9 #[.agg #[.int .i64 u.kind, .int .i64 u.num, .int .i64 u.atN, (.slice A3 n3 c3), (.slice A4 n4 c4)], v] W (MadeT pu W)))
    (CS2 : Hid (∀ W B1 k1 d1 B2 k2 d2 B3 k3 d3 B4 k4 d4, RT W pt (.slice B1 k1 d1) (.slice B2 k2 d2) → RT W pu (.slice B3 k3 d3) (.slice B4 k4 d4) → Calls Tryd.prog 19 #[.agg #[.int .i64 pt.kind, .int .i64 pt.num, .int .i64 pt.atN, .slice B1 k1 d1, .slice B2 k2 d2], .agg #[.int .i64 pu.kind, .int .i64 pu.num, .int .i64 pu.atN, .slice B3 k3 d3, .slice B4 k4 d4]] W (fun e w' => e = .returned (.bool true) ∧ Below W.heap.size W w')))
    (CV1 : Hid (∀ W, Kinds W → RT W t (.slice A1 n1 c1) (.slice A2 n2 c2) → RLv W ls (.slice Al nl cl) → Calls Tryd.prog 12 #[.agg #[.int .i64 t.kind, .int .i64 t.num, .int .i64 t.atN, (.slice A1 n1 c1), (.slice A2 n2 c2)], .slice Al nl cl] W (MadeT lt W)))
    (CV2 : Hid (∀ W, Kinds W → RT W u (.slice A3 n3 c3) (.slice A4 n4 c4) → RLv W ls (.slice Al nl cl) → Calls Tryd.prog 12 #[.agg #[.int .i64 u.kind, .int .i64 u.num, .int .i64 u.atN, (.slice A3 n3 c3), (.slice A4 n4 c4)], .slice Al nl cl] W (MadeT lu W)))
    (CS3 : Hid (∀ W B1 k1 d1 B2 k2 d2 B3 k3 d3 B4 k4 d4, RT W lt (.slice B1 k1 d1) (.slice B2 k2 d2) → RT W lu (.slice B3 k3 d3) (.slice B4 k4 d4) → Calls Tryd.prog 19 #[.agg #[.int .i64 lt.kind, .int .i64 lt.num, .int .i64 lt.atN, .slice B1 k1 d1, .slice B2 k2 d2], .agg #[.int .i64 lu.kind, .int .i64 lu.num, .int .i64 lu.atN, .slice B3 k3 d3, .slice B4 k4 d4]] W (fun e w' => e = .returned (.bool true) ∧ Below W.heap.size W w')))
    (CZT : Hid (∀ W, RT W t (.slice A1 n1 c1) (.slice A2 n2 c2) → Calls Tryd.prog 17 #[.agg #[.int .i64 t.kind, .int .i64 t.num, .int .i64 t.atN, (.slice A1 n1 c1), (.slice A2 n2 c2)]] W (fun e w' => e = .returned (.int .i64 z) ∧ Below W.heap.size W w')))
    (CZU : Hid (∀ W, RT W u (.slice A3 n3 c3) (.slice A4 n4 c4) → Calls Tryd.prog 17 #[.agg #[.int .i64 u.kind, .int .i64 u.num, .int .i64 u.atN, (.slice A3 n3 c3), (.slice A4 n4 c4)]] W (fun e w' => e = .returned (.int .i64 z) ∧ Below W.heap.size W w')))
    (code : Code) (hcode : Tryd.f4.body.bind (codeAtT 9) = some code) (K : Act → World → Prop)
    (hQ : ∀ v114 v115 v116 v117 v118 v119 v120 v121 v122 v123 v124 v125 v126 v127 v128 v129 v130 v131 v132 v133 v134 v135 v136 v137 v138 v139 v140 v141 v142 v143 v144 v145 v146 w', Below wc.heap.size wc w' → K { tmps := List.toArray [u0, u1, u2, .int .i64 n, .int .i64 mm, .int .i64 f, .slice Al nl cl, .pointer (some ⟨N, 0, none⟩), .pointer (some ⟨N + 1, 0, none⟩), .pointer (some ⟨N + 2, 0, none⟩), u10, u11, u12, u13, .bool true, .pointer (some ⟨m, 0, none⟩), u16, u17, u18, u19, u20, u21, u22, u23, u24, u25, u26, u27, u28, u29, u30, u31, u32, u33, u34, u35, u36, u37, u38, u39, u40, u41, u42, u43, u44, u45, u46, u47, u48, u49, u50, u51, u52, u53, u54, u55, u56, u57, u58, u59, u60, u61, u62, u63, u64, u65, u66, u67, u68, u69, u70, u71, u72, u73, u74, u75, u76, u77, u78, u79, u80, u81, u82, u83, u84, u85, u86, u87, u88, u89, u90, u91, u92, u93, u94, u95, u96, u97, u98, u99, u100, u101, u102, u103, u104, u105, u106, u107, u108, u109, u110, u111, u112, u113, v114, v115, v116, v117, v118, v119, v120, v121, v122, v123, v124, v125, v126, v127, v128, v129, v130, v131, v132, v133, v134, v135, v136, v137, v138, v139, v140, v141, v142, v143, v144, v145, v146, u147, u148, u149, u150, u151, u152, u153, u154, u155, u156, u157, u158, u159, u160, u161, u162, u163], defers := [] } w') :
    code.wp Tryd.prog (Exit.then K fun _ _ _ => False) { tmps := List.toArray [u0, u1, u2, .int .i64 n, .int .i64 mm, .int .i64 f, .slice Al nl cl, .pointer (some ⟨N, 0, none⟩), .pointer (some ⟨N + 1, 0, none⟩), .pointer (some ⟨N + 2, 0, none⟩), u10, u11, u12, u13, u14, .pointer (some ⟨m, 0, none⟩), u16, u17, u18, u19, u20, u21, u22, u23, u24, u25, u26, u27, u28, u29, u30, u31, u32, u33, u34, u35, u36, u37, u38, u39, u40, u41, u42, u43, u44, u45, u46, u47, u48, u49, u50, u51, u52, u53, u54, u55, u56, u57, u58, u59, u60, u61, u62, u63, u64, u65, u66, u67, u68, u69, u70, u71, u72, u73, u74, u75, u76, u77, u78, u79, u80, u81, u82, u83, u84, u85, u86, u87, u88, u89, u90, u91, u92, u93, u94, u95, u96, u97, u98, u99, u100, u101, u102, u103, u104, u105, u106, u107, u108, u109, u110, u111, u112, u113, u114, u115, u116, u117, u118, u119, u120, u121, u122, u123, u124, u125, u126, u127, u128, u129, u130, u131, u132, u133, u134, u135, u136, u137, u138, u139, u140, u141, u142, u143, u144, u145, u146, u147, u148, u149, u150, u151, u152, u153, u154, u155, u156, u157, u158, u159, u160, u161, u162, u163], defers := [] } wc := by
  simp only [Tryd.f4, codeAtT, Option.bind_some, Nat.reduceEqDiff, if_true, if_false, Option.some.injEq] at hcode
  subst hcode
  have HQ := Lib.hid hQ
  clear hQ
  have HS0 : Hid (∀ W', Below wc.heap.size wc W' → W'.cell? ⟨N, 0, none⟩ = some (.int .i64 t.kind) ∧ W'.cell? ⟨N, 1, none⟩ = some (.int .i64 t.num) ∧ W'.cell? ⟨N, 2, none⟩ = some (.int .i64 t.atN) ∧ W'.cell? ⟨N, 3, none⟩ = some (.slice A1 n1 c1) ∧ W'.cell? ⟨N, 4, none⟩ = some (.slice A2 n2 c2) ∧ W'.cell? ⟨N + 1, 0, none⟩ = some (.int .i64 u.kind) ∧ W'.cell? ⟨N + 1, 1, none⟩ = some (.int .i64 u.num) ∧ W'.cell? ⟨N + 1, 2, none⟩ = some (.int .i64 u.atN) ∧ W'.cell? ⟨N + 1, 3, none⟩ = some (.slice A3 n3 c3) ∧ W'.cell? ⟨N + 1, 4, none⟩ = some (.slice A4 n4 c4) ∧ W'.cell? ⟨N + 2, 0, none⟩ = some (.int .i64 a.kind) ∧ W'.cell? ⟨N + 2, 1, none⟩ = some (.int .i64 a.num) ∧ W'.cell? ⟨N + 2, 2, none⟩ = some (.int .i64 a.atN) ∧ W'.cell? ⟨N + 2, 3, none⟩ = some (.slice A5 n5 c5) ∧ W'.cell? ⟨N + 2, 4, none⟩ = some (.slice A6 n6 c6) ∧ W'.cell? ⟨m, 0, none⟩ = some (.int .i64 x.kind) ∧ W'.cell? ⟨m, 1, none⟩ = some (.int .i64 x.num) ∧ W'.cell? ⟨m, 2, none⟩ = some (.int .i64 x.atN) ∧ W'.cell? ⟨m, 3, none⟩ = some (.slice A7 n7 c7) ∧ W'.cell? ⟨m, 4, none⟩ = some (.slice A8 n8 c8)) := Lib.hid fun W' h => ⟨(HS.out.below HN.out h).bt.cell (j := 0) rfl, (HS.out.below HN.out h).bt.cell (j := 1) rfl, (HS.out.below HN.out h).bt.cell (j := 2) rfl, (HS.out.below HN.out h).bt.cell (j := 3) rfl, (HS.out.below HN.out h).bt.cell (j := 4) rfl, (HS.out.below HN.out h).bu.cell (j := 0) rfl, (HS.out.below HN.out h).bu.cell (j := 1) rfl, (HS.out.below HN.out h).bu.cell (j := 2) rfl, (HS.out.below HN.out h).bu.cell (j := 3) rfl, (HS.out.below HN.out h).bu.cell (j := 4) rfl, (HS.out.below HN.out h).ba.cell (j := 0) rfl, (HS.out.below HN.out h).ba.cell (j := 1) rfl, (HS.out.below HN.out h).ba.cell (j := 2) rfl, (HS.out.below HN.out h).ba.cell (j := 3) rfl, (HS.out.below HN.out h).ba.cell (j := 4) rfl, (HX.out.below h).b.cell (j := 0) rfl, (HX.out.below h).b.cell (j := 1) rfl, (HX.out.below h).b.cell (j := 2) rfl, (HX.out.below h).b.cell (j := 3) rfl, (HX.out.below h).b.cell (j := 4) rfl⟩
  have HBW : Hid (Below wc.heap.size wc wc.drew) := Lib.hid (below_drewT wc)
  have FK := Lib.hid (HS.out.K.below HBW.out)
  have FT := Lib.hid (HS.out.T.below HBW.out)
  have FU := Lib.hid (HS.out.U.below HBW.out)
  have FA := Lib.hid (HS.out.A.below HBW.out)
  have FX := Lib.hid (HX.out.P.below HBW.out)
  have FL := Lib.hid (HS.out.L.below HBW.out)
  refine wp_region_held_drew (S := fun w' => w'.cell? ⟨N, 0, none⟩ = some (.int .i64 t.kind) ∧ w'.cell? ⟨N, 1, none⟩ = some (.int .i64 t.num) ∧ w'.cell? ⟨N, 2, none⟩ = some (.int .i64 t.atN) ∧ w'.cell? ⟨N, 3, none⟩ = some (.slice A1 n1 c1) ∧ w'.cell? ⟨N, 4, none⟩ = some (.slice A2 n2 c2) ∧ w'.cell? ⟨N + 1, 0, none⟩ = some (.int .i64 u.kind) ∧ w'.cell? ⟨N + 1, 1, none⟩ = some (.int .i64 u.num) ∧ w'.cell? ⟨N + 1, 2, none⟩ = some (.int .i64 u.atN) ∧ w'.cell? ⟨N + 1, 3, none⟩ = some (.slice A3 n3 c3) ∧ w'.cell? ⟨N + 1, 4, none⟩ = some (.slice A4 n4 c4) ∧ w'.cell? ⟨N + 2, 0, none⟩ = some (.int .i64 a.kind) ∧ w'.cell? ⟨N + 2, 1, none⟩ = some (.int .i64 a.num) ∧ w'.cell? ⟨N + 2, 2, none⟩ = some (.int .i64 a.atN) ∧ w'.cell? ⟨N + 2, 3, none⟩ = some (.slice A5 n5 c5) ∧ w'.cell? ⟨N + 2, 4, none⟩ = some (.slice A6 n6 c6) ∧ w'.cell? ⟨m, 0, none⟩ = some (.int .i64 x.kind) ∧ w'.cell? ⟨m, 1, none⟩ = some (.int .i64 x.num) ∧ w'.cell? ⟨m, 2, none⟩ = some (.int .i64 x.atN) ∧ w'.cell? ⟨m, 3, none⟩ = some (.slice A7 n7 c7) ∧ w'.cell? ⟨m, 4, none⟩ = some (.slice A8 n8 c8)) (by kernel_rfl) (HS0.out _ HBW.out) (fun hHeld => ?_)
  generalize hwd : wc.drew = wd at *
  clear hwd
  refine wpAnyH_take (i := 0) (v := ?v48) rfl (by kernel_rfl) (by kernel_rfl) (by kernel_rfl) (fun _ _ _ h => h) (Or.inl ⟨by rfl, ?hy48⟩) (by assumption) ?rest48
  case hy48 => intro w hSw; (try dsimp only at hSw); go_simp; try with_reducible rfl
  (try simp only [List.getElem_toArray, List.getElem_cons_succ, List.getElem_cons_zero, Act.put, List.setIfInBounds_toArray, List.set_cons_zero, List.set_cons_succ, bne_self_eq_false, beq_self_eq_true])
  refine wpAnyH_take (i := 1) (v := ?v49) rfl (by kernel_rfl) (by kernel_rfl) (by kernel_rfl) (fun _ _ _ h => h) (Or.inl ⟨by rfl, ?hy49⟩) (by assumption) ?rest49
  case hy49 => intro w hSw; (try dsimp only at hSw); go_simp; try with_reducible rfl
  (try simp only [List.getElem_toArray, List.getElem_cons_succ, List.getElem_cons_zero, Act.put, List.setIfInBounds_toArray, List.set_cons_zero, List.set_cons_succ, bne_self_eq_false, beq_self_eq_true])
  refine wpAnyH_take (i := 2) (v := ?v50) rfl (by kernel_rfl) (by kernel_rfl) (by kernel_rfl) (fun _ _ _ h => h) (Or.inl ⟨by rfl, ?hy50⟩) (by assumption) ?rest50
  case hy50 => intro w hSw; (try dsimp only at hSw); go_simp; try with_reducible rfl
  (try simp only [List.getElem_toArray, List.getElem_cons_succ, List.getElem_cons_zero, Act.put, List.setIfInBounds_toArray, List.set_cons_zero, List.set_cons_succ, bne_self_eq_false, beq_self_eq_true])
  refine wpAnyH_take (i := 3) (v := ?v51) rfl (by kernel_rfl) (by kernel_rfl) (by kernel_rfl) (fun _ _ _ h => h) (Or.inl ⟨by rfl, ?hy51⟩) (by assumption) ?rest51
  case hy51 => intro w hSw; (try dsimp only at hSw); go_simp; try with_reducible rfl
  (try simp only [List.getElem_toArray, List.getElem_cons_succ, List.getElem_cons_zero, Act.put, List.setIfInBounds_toArray, List.set_cons_zero, List.set_cons_succ, bne_self_eq_false, beq_self_eq_true])
  refine wpAnyH_ready (rs := [4]) (by kernel_rfl) (by simp) ?_
  refine (AllReadyH.cons rfl (fun K hK => ?_) AllReadyH.nil)
  go_simp
  refine (CU.out _ FK.out FU.out).mono ?_
  intro e w52 hmade
  obtain ⟨A52x, n52x, c52x, A52y, n52y, c52y, rfl, hru, hst⟩ := hmade.gives
  replace FK := Lib.hid (FK.out.below hst)
  replace FT := Lib.hid (FT.out.below hst)
  replace FU := Lib.hid (FU.out.below hst)
  replace FA := Lib.hid (FA.out.below hst)
  replace FX := Lib.hid (FX.out.below hst)
  replace FL := Lib.hid (FL.out.below hst)
  replace HBW := Lib.hid (below_chV HBW.out hst)
  have X1 := Lib.hid hru
  clear hru hst hmade
  refine hK.out _ _ (HS0.out _ HBW.out) (fun hHeld => ?_)
  clear hK K
  (try simp only [List.getElem_toArray, List.getElem_cons_succ, List.getElem_cons_zero, Act.put, List.setIfInBounds_toArray, List.set_cons_zero, List.set_cons_succ, bne_self_eq_false, beq_self_eq_true])
  refine wpAnyH_ready (rs := [5]) (by kernel_rfl) (by simp) ?_
  refine (AllReadyH.cons rfl (fun K hK => ?_) AllReadyH.nil)
  go_simp
  refine (CS1.out _ _ _ _ _ _ _ _ _ _ _ _ _ FX.out X1.out).mono ?_
  rintro e w53 ⟨rfl, hst⟩
  replace FK := Lib.hid (FK.out.below hst)
  replace FT := Lib.hid (FT.out.below hst)
  replace FU := Lib.hid (FU.out.below hst)
  replace FA := Lib.hid (FA.out.below hst)
  replace FX := Lib.hid (FX.out.below hst)
  replace FL := Lib.hid (FL.out.below hst)
  replace X1 := Lib.hid (X1.out.below hst)
  replace HBW := Lib.hid (below_chV HBW.out hst)
  clear hst
  refine hK.out _ _ (HS0.out _ HBW.out) (fun hHeld => ?_)
  clear hK K
  (try simp only [List.getElem_toArray, List.getElem_cons_succ, List.getElem_cons_zero, Act.put, List.setIfInBounds_toArray, List.set_cons_zero, List.set_cons_succ, bne_self_eq_false, beq_self_eq_true])
  refine wpAnyH_take (i := 6) (v := ?v54) rfl (by kernel_rfl) (by kernel_rfl) (by kernel_rfl) (fun _ _ _ h => h) (Or.inl ⟨by rfl, ?hy54⟩) (by assumption) ?rest54
  case hy54 => intro w hSw; (try dsimp only at hSw); go_simp; try with_reducible rfl
  (try simp only [List.getElem_toArray, List.getElem_cons_succ, List.getElem_cons_zero, Act.put, List.setIfInBounds_toArray, List.set_cons_zero, List.set_cons_succ, bne_self_eq_false, beq_self_eq_true])
  refine wpAnyH_take (i := 7) (v := ?v55) rfl (by kernel_rfl) (by kernel_rfl) (by kernel_rfl) (fun _ _ _ h => h) (Or.inl ⟨by rfl, ?hy55⟩) (by assumption) ?rest55
  case hy55 => intro w hSw; (try dsimp only at hSw); go_simp; try with_reducible rfl
  (try simp only [List.getElem_toArray, List.getElem_cons_succ, List.getElem_cons_zero, Act.put, List.setIfInBounds_toArray, List.set_cons_zero, List.set_cons_succ, bne_self_eq_false, beq_self_eq_true])
  refine wpAnyH_take (i := 8) (v := ?v56) rfl (by kernel_rfl) (by kernel_rfl) (by kernel_rfl) (fun _ _ _ h => h) (Or.inl ⟨by rfl, ?hy56⟩) (by assumption) ?rest56
  case hy56 => intro w hSw; (try dsimp only at hSw); go_simp; try with_reducible rfl
  (try simp only [List.getElem_toArray, List.getElem_cons_succ, List.getElem_cons_zero, Act.put, List.setIfInBounds_toArray, List.set_cons_zero, List.set_cons_succ, bne_self_eq_false, beq_self_eq_true])
  refine wpAnyH_take (i := 11) (v := ?v57) rfl (by kernel_rfl) (by kernel_rfl) (by kernel_rfl) (fun _ _ _ h => h) (Or.inl ⟨by rfl, ?hy57⟩) (by assumption) ?rest57
  case hy57 => intro w hSw; (try dsimp only at hSw); go_simp; try with_reducible rfl
  (try simp only [List.getElem_toArray, List.getElem_cons_succ, List.getElem_cons_zero, Act.put, List.setIfInBounds_toArray, List.set_cons_zero, List.set_cons_succ, bne_self_eq_false, beq_self_eq_true])
  refine wpAnyH_take (i := 12) (v := ?v58) rfl (by kernel_rfl) (by kernel_rfl) (by kernel_rfl) (fun _ _ _ h => h) (Or.inl ⟨by rfl, ?hy58⟩) (by assumption) ?rest58
  case hy58 => intro w hSw; (try dsimp only at hSw); go_simp; try with_reducible rfl
  (try simp only [List.getElem_toArray, List.getElem_cons_succ, List.getElem_cons_zero, Act.put, List.setIfInBounds_toArray, List.set_cons_zero, List.set_cons_succ, bne_self_eq_false, beq_self_eq_true])
  refine wpAnyH_ready (rs := [9, 13]) (by kernel_rfl) (by simp) ?_
  refine (AllReadyH.cons rfl (fun K hK => ?_) (AllReadyH.cons rfl (fun K hK => ?_) AllReadyH.nil))
  · skip
    go_simp
    have I9 := Lib.hid (one_term w53 FA.out)
    replace FK := Lib.hid (FK.out.below ((Below.refl _ _).alloc (Nat.le_refl _) (.cells #[.int .i64 a.kind, .int .i64 a.num, .int .i64 a.atN, (.slice A5 n5 c5), (.slice A6 n6 c6)] 27)))
    replace FT := Lib.hid (FT.out.below ((Below.refl _ _).alloc (Nat.le_refl _) (.cells #[.int .i64 a.kind, .int .i64 a.num, .int .i64 a.atN, (.slice A5 n5 c5), (.slice A6 n6 c6)] 27)))
    replace FU := Lib.hid (FU.out.below ((Below.refl _ _).alloc (Nat.le_refl _) (.cells #[.int .i64 a.kind, .int .i64 a.num, .int .i64 a.atN, (.slice A5 n5 c5), (.slice A6 n6 c6)] 27)))
    replace FA := Lib.hid (FA.out.below ((Below.refl _ _).alloc (Nat.le_refl _) (.cells #[.int .i64 a.kind, .int .i64 a.num, .int .i64 a.atN, (.slice A5 n5 c5), (.slice A6 n6 c6)] 27)))
    replace FX := Lib.hid (FX.out.below ((Below.refl _ _).alloc (Nat.le_refl _) (.cells #[.int .i64 a.kind, .int .i64 a.num, .int .i64 a.atN, (.slice A5 n5 c5), (.slice A6 n6 c6)] 27)))
    replace FL := Lib.hid (FL.out.below ((Below.refl _ _).alloc (Nat.le_refl _) (.cells #[.int .i64 a.kind, .int .i64 a.num, .int .i64 a.atN, (.slice A5 n5 c5), (.slice A6 n6 c6)] 27)))
    replace X1 := Lib.hid (X1.out.below ((Below.refl _ _).alloc (Nat.le_refl _) (.cells #[.int .i64 a.kind, .int .i64 a.num, .int .i64 a.atN, (.slice A5 n5 c5), (.slice A6 n6 c6)] 27)))
    replace HBW := Lib.hid (HBW.out.alloc HBW.out.size (.cells #[.int .i64 a.kind, .int .i64 a.num, .int .i64 a.atN, (.slice A5 n5 c5), (.slice A6 n6 c6)] 27))
    refine hK.out _ _ (HS0.out _ HBW.out) (fun hHeld => ?_)
    clear hK K
    (try simp only [List.getElem_toArray, List.getElem_cons_succ, List.getElem_cons_zero, Act.put, List.setIfInBounds_toArray, List.set_cons_zero, List.set_cons_succ, bne_self_eq_false, beq_self_eq_true])
    generalize hwn59 : (w53.alloc (.cells #[.int .i64 a.kind, .int .i64 a.num, .int .i64 a.atN, (.slice A5 n5 c5), (.slice A6 n6 c6)] 27)) = w59 at *
    clear hwn59
    refine wpAnyH_ready (rs := [10, 13]) (by kernel_rfl) (by simp) ?_
    refine (AllReadyH.cons rfl (fun K hK => ?_) (AllReadyH.cons rfl (fun K hK => ?_) AllReadyH.nil))
    · skip
      go_simp
      refine (CP1.out _ _ FK.out FT.out I9.out).mono ?_
      intro e w60 hmade
      obtain ⟨A60x, n60x, c60x, A60y, n60y, c60y, rfl, hru, hst⟩ := hmade.gives
      replace FK := Lib.hid (FK.out.below hst)
      replace FT := Lib.hid (FT.out.below hst)
      replace FU := Lib.hid (FU.out.below hst)
      replace FA := Lib.hid (FA.out.below hst)
      replace FX := Lib.hid (FX.out.below hst)
      replace FL := Lib.hid (FL.out.below hst)
      replace X1 := Lib.hid (X1.out.below hst)
      replace I9 := Lib.hid (I9.out.below hst)
      replace HBW := Lib.hid (below_chV HBW.out hst)
      have P1 := Lib.hid hru
      clear hru hst hmade
      refine hK.out _ _ (HS0.out _ HBW.out) (fun hHeld => ?_)
      clear hK K
      (try simp only [List.getElem_toArray, List.getElem_cons_succ, List.getElem_cons_zero, Act.put, List.setIfInBounds_toArray, List.set_cons_zero, List.set_cons_succ, bne_self_eq_false, beq_self_eq_true])
      refine wpAnyH_ready (rs := [13]) (by kernel_rfl) (by simp) ?_
      refine (AllReadyH.cons rfl (fun K hK => ?_) AllReadyH.nil)
      go_simp
      have I13 := Lib.hid (one_term w60 FA.out)
      replace FK := Lib.hid (FK.out.below ((Below.refl _ _).alloc (Nat.le_refl _) (.cells #[.int .i64 a.kind, .int .i64 a.num, .int .i64 a.atN, (.slice A5 n5 c5), (.slice A6 n6 c6)] 27)))
      replace FT := Lib.hid (FT.out.below ((Below.refl _ _).alloc (Nat.le_refl _) (.cells #[.int .i64 a.kind, .int .i64 a.num, .int .i64 a.atN, (.slice A5 n5 c5), (.slice A6 n6 c6)] 27)))
      replace FU := Lib.hid (FU.out.below ((Below.refl _ _).alloc (Nat.le_refl _) (.cells #[.int .i64 a.kind, .int .i64 a.num, .int .i64 a.atN, (.slice A5 n5 c5), (.slice A6 n6 c6)] 27)))
      replace FA := Lib.hid (FA.out.below ((Below.refl _ _).alloc (Nat.le_refl _) (.cells #[.int .i64 a.kind, .int .i64 a.num, .int .i64 a.atN, (.slice A5 n5 c5), (.slice A6 n6 c6)] 27)))
      replace FX := Lib.hid (FX.out.below ((Below.refl _ _).alloc (Nat.le_refl _) (.cells #[.int .i64 a.kind, .int .i64 a.num, .int .i64 a.atN, (.slice A5 n5 c5), (.slice A6 n6 c6)] 27)))
      replace FL := Lib.hid (FL.out.below ((Below.refl _ _).alloc (Nat.le_refl _) (.cells #[.int .i64 a.kind, .int .i64 a.num, .int .i64 a.atN, (.slice A5 n5 c5), (.slice A6 n6 c6)] 27)))
      replace X1 := Lib.hid (X1.out.below ((Below.refl _ _).alloc (Nat.le_refl _) (.cells #[.int .i64 a.kind, .int .i64 a.num, .int .i64 a.atN, (.slice A5 n5 c5), (.slice A6 n6 c6)] 27)))
      replace I9 := Lib.hid (I9.out.below ((Below.refl _ _).alloc (Nat.le_refl _) (.cells #[.int .i64 a.kind, .int .i64 a.num, .int .i64 a.atN, (.slice A5 n5 c5), (.slice A6 n6 c6)] 27)))
      replace P1 := Lib.hid (P1.out.below ((Below.refl _ _).alloc (Nat.le_refl _) (.cells #[.int .i64 a.kind, .int .i64 a.num, .int .i64 a.atN, (.slice A5 n5 c5), (.slice A6 n6 c6)] 27)))
      replace HBW := Lib.hid (HBW.out.alloc HBW.out.size (.cells #[.int .i64 a.kind, .int .i64 a.num, .int .i64 a.atN, (.slice A5 n5 c5), (.slice A6 n6 c6)] 27))
      refine hK.out _ _ (HS0.out _ HBW.out) (fun hHeld => ?_)
      clear hK K
      (try simp only [List.getElem_toArray, List.getElem_cons_succ, List.getElem_cons_zero, Act.put, List.setIfInBounds_toArray, List.set_cons_zero, List.set_cons_succ, bne_self_eq_false, beq_self_eq_true])
      generalize hwn61 : (w60.alloc (.cells #[.int .i64 a.kind, .int .i64 a.num, .int .i64 a.atN, (.slice A5 n5 c5), (.slice A6 n6 c6)] 27)) = w61 at *
      clear hwn61
      refine wpAnyH_ready (rs := [14]) (by kernel_rfl) (by simp) ?_
      refine (AllReadyH.cons rfl (fun K hK => ?_) AllReadyH.nil)
      go_simp
      refine (CP2.out _ _ FK.out FU.out I13.out).mono ?_
      intro e w62 hmade
      obtain ⟨A62x, n62x, c62x, A62y, n62y, c62y, rfl, hru, hst⟩ := hmade.gives
      replace FK := Lib.hid (FK.out.below hst)
      replace FT := Lib.hid (FT.out.below hst)
      replace FU := Lib.hid (FU.out.below hst)
      replace FA := Lib.hid (FA.out.below hst)
      replace FX := Lib.hid (FX.out.below hst)
      replace FL := Lib.hid (FL.out.below hst)
      replace X1 := Lib.hid (X1.out.below hst)
      replace I9 := Lib.hid (I9.out.below hst)
      replace P1 := Lib.hid (P1.out.below hst)
      replace I13 := Lib.hid (I13.out.below hst)
      replace HBW := Lib.hid (below_chV HBW.out hst)
      have P2 := Lib.hid hru
      clear hru hst hmade
      refine hK.out _ _ (HS0.out _ HBW.out) (fun hHeld => ?_)
      clear hK K
      (try simp only [List.getElem_toArray, List.getElem_cons_succ, List.getElem_cons_zero, Act.put, List.setIfInBounds_toArray, List.set_cons_zero, List.set_cons_succ, bne_self_eq_false, beq_self_eq_true])
      refine wpAnyH_ready (rs := [15]) (by kernel_rfl) (by simp) ?_
      refine (AllReadyH.cons rfl (fun K hK => ?_) AllReadyH.nil)
      go_simp
      refine (CS2.out _ _ _ _ _ _ _ _ _ _ _ _ _ P1.out P2.out).mono ?_
      rintro e w63 ⟨rfl, hst⟩
      replace FK := Lib.hid (FK.out.below hst)
      replace FT := Lib.hid (FT.out.below hst)
      replace FU := Lib.hid (FU.out.below hst)
      replace FA := Lib.hid (FA.out.below hst)
      replace FX := Lib.hid (FX.out.below hst)
      replace FL := Lib.hid (FL.out.below hst)
      replace X1 := Lib.hid (X1.out.below hst)
      replace I9 := Lib.hid (I9.out.below hst)
      replace P1 := Lib.hid (P1.out.below hst)
      replace I13 := Lib.hid (I13.out.below hst)
      replace P2 := Lib.hid (P2.out.below hst)
      replace HBW := Lib.hid (below_chV HBW.out hst)
      clear hst
      refine hK.out _ _ (HS0.out _ HBW.out) (fun hHeld => ?_)
      clear hK K
      (try simp only [List.getElem_toArray, List.getElem_cons_succ, List.getElem_cons_zero, Act.put, List.setIfInBounds_toArray, List.set_cons_zero, List.set_cons_succ, bne_self_eq_false, beq_self_eq_true])
      refine wpAnyH_take (i := 16) (v := ?v64) rfl (by kernel_rfl) (by kernel_rfl) (by kernel_rfl) (fun _ _ _ h => h) (Or.inl ⟨by rfl, ?hy64⟩) (by assumption) ?rest64
      case hy64 => intro w hSw; (try dsimp only at hSw); go_simp; try with_reducible rfl
      (try simp only [List.getElem_toArray, List.getElem_cons_succ, List.getElem_cons_zero, Act.put, List.setIfInBounds_toArray, List.set_cons_zero, List.set_cons_succ, bne_self_eq_false, beq_self_eq_true])
      refine wpAnyH_take (i := 17) (v := ?v65) rfl (by kernel_rfl) (by kernel_rfl) (by kernel_rfl) (fun _ _ _ h => h) (Or.inl ⟨by rfl, ?hy65⟩) (by assumption) ?rest65
      case hy65 => intro w hSw; (try dsimp only at hSw); go_simp; try with_reducible rfl
      (try simp only [List.getElem_toArray, List.getElem_cons_succ, List.getElem_cons_zero, Act.put, List.setIfInBounds_toArray, List.set_cons_zero, List.set_cons_succ, bne_self_eq_false, beq_self_eq_true])
      refine wpAnyH_take (i := 18) (v := ?v66) rfl (by kernel_rfl) (by kernel_rfl) (by kernel_rfl) (fun _ _ _ h => h) (Or.inl ⟨by rfl, ?hy66⟩) (by assumption) ?rest66
      case hy66 => intro w hSw; (try dsimp only at hSw); go_simp; try with_reducible rfl
      (try simp only [List.getElem_toArray, List.getElem_cons_succ, List.getElem_cons_zero, Act.put, List.setIfInBounds_toArray, List.set_cons_zero, List.set_cons_succ, bne_self_eq_false, beq_self_eq_true])
      refine wpAnyH_take (i := 19) (v := ?v67) rfl (by kernel_rfl) (by kernel_rfl) (by kernel_rfl) (fun _ _ _ h => h) (Or.inl ⟨by rfl, ?hy67⟩) (by assumption) ?rest67
      case hy67 => intro w hSw; (try dsimp only at hSw); go_simp; try with_reducible rfl
      (try simp only [List.getElem_toArray, List.getElem_cons_succ, List.getElem_cons_zero, Act.put, List.setIfInBounds_toArray, List.set_cons_zero, List.set_cons_succ, bne_self_eq_false, beq_self_eq_true])
      refine wpAnyH_take (i := 21) (v := ?v68) rfl (by kernel_rfl) (by kernel_rfl) (by kernel_rfl) (fun _ _ _ h => h) (Or.inl ⟨by rfl, ?hy68⟩) (by assumption) ?rest68
      case hy68 => intro w hSw; (try dsimp only at hSw); go_simp; try with_reducible rfl
      (try simp only [List.getElem_toArray, List.getElem_cons_succ, List.getElem_cons_zero, Act.put, List.setIfInBounds_toArray, List.set_cons_zero, List.set_cons_succ, bne_self_eq_false, beq_self_eq_true])
      refine wpAnyH_take (i := 22) (v := ?v69) rfl (by kernel_rfl) (by kernel_rfl) (by kernel_rfl) (fun _ _ _ h => h) (Or.inl ⟨by rfl, ?hy69⟩) (by assumption) ?rest69
      case hy69 => intro w hSw; (try dsimp only at hSw); go_simp; try with_reducible rfl
      (try simp only [List.getElem_toArray, List.getElem_cons_succ, List.getElem_cons_zero, Act.put, List.setIfInBounds_toArray, List.set_cons_zero, List.set_cons_succ, bne_self_eq_false, beq_self_eq_true])
      refine wpAnyH_ready (rs := [20]) (by kernel_rfl) (by simp) ?_
      refine (AllReadyH.cons rfl (fun K hK => ?_) AllReadyH.nil)
      go_simp
      refine (CV1.out _ FK.out FT.out FL.out).mono ?_
      intro e w70 hmade
      obtain ⟨A70x, n70x, c70x, A70y, n70y, c70y, rfl, hru, hst⟩ := hmade.gives
      replace FK := Lib.hid (FK.out.below hst)
      replace FT := Lib.hid (FT.out.below hst)
      replace FU := Lib.hid (FU.out.below hst)
      replace FA := Lib.hid (FA.out.below hst)
      replace FX := Lib.hid (FX.out.below hst)
      replace FL := Lib.hid (FL.out.below hst)
      replace X1 := Lib.hid (X1.out.below hst)
      replace I9 := Lib.hid (I9.out.below hst)
      replace P1 := Lib.hid (P1.out.below hst)
      replace I13 := Lib.hid (I13.out.below hst)
      replace P2 := Lib.hid (P2.out.below hst)
      replace HBW := Lib.hid (below_chV HBW.out hst)
      have L1 := Lib.hid hru
      clear hru hst hmade
      refine hK.out _ _ (HS0.out _ HBW.out) (fun hHeld => ?_)
      clear hK K
      (try simp only [List.getElem_toArray, List.getElem_cons_succ, List.getElem_cons_zero, Act.put, List.setIfInBounds_toArray, List.set_cons_zero, List.set_cons_succ, bne_self_eq_false, beq_self_eq_true])
      refine wpAnyH_ready (rs := [23]) (by kernel_rfl) (by simp) ?_
      refine (AllReadyH.cons rfl (fun K hK => ?_) AllReadyH.nil)
      go_simp
      refine (CV2.out _ FK.out FU.out FL.out).mono ?_
      intro e w71 hmade
      obtain ⟨A71x, n71x, c71x, A71y, n71y, c71y, rfl, hru, hst⟩ := hmade.gives
      replace FK := Lib.hid (FK.out.below hst)
      replace FT := Lib.hid (FT.out.below hst)
      replace FU := Lib.hid (FU.out.below hst)
      replace FA := Lib.hid (FA.out.below hst)
      replace FX := Lib.hid (FX.out.below hst)
      replace FL := Lib.hid (FL.out.below hst)
      replace X1 := Lib.hid (X1.out.below hst)
      replace I9 := Lib.hid (I9.out.below hst)
      replace P1 := Lib.hid (P1.out.below hst)
      replace I13 := Lib.hid (I13.out.below hst)
      replace P2 := Lib.hid (P2.out.below hst)
      replace L1 := Lib.hid (L1.out.below hst)
      replace HBW := Lib.hid (below_chV HBW.out hst)
      have L2 := Lib.hid hru
      clear hru hst hmade
      refine hK.out _ _ (HS0.out _ HBW.out) (fun hHeld => ?_)
      clear hK K
      (try simp only [List.getElem_toArray, List.getElem_cons_succ, List.getElem_cons_zero, Act.put, List.setIfInBounds_toArray, List.set_cons_zero, List.set_cons_succ, bne_self_eq_false, beq_self_eq_true])
      refine wpAnyH_ready (rs := [24]) (by kernel_rfl) (by simp) ?_
      refine (AllReadyH.cons rfl (fun K hK => ?_) AllReadyH.nil)
      go_simp
      refine (CS3.out _ _ _ _ _ _ _ _ _ _ _ _ _ L1.out L2.out).mono ?_
      rintro e w72 ⟨rfl, hst⟩
      replace FK := Lib.hid (FK.out.below hst)
      replace FT := Lib.hid (FT.out.below hst)
      replace FU := Lib.hid (FU.out.below hst)
      replace FA := Lib.hid (FA.out.below hst)
      replace FX := Lib.hid (FX.out.below hst)
      replace FL := Lib.hid (FL.out.below hst)
      replace X1 := Lib.hid (X1.out.below hst)
      replace I9 := Lib.hid (I9.out.below hst)
      replace P1 := Lib.hid (P1.out.below hst)
      replace I13 := Lib.hid (I13.out.below hst)
      replace P2 := Lib.hid (P2.out.below hst)
      replace L1 := Lib.hid (L1.out.below hst)
      replace L2 := Lib.hid (L2.out.below hst)
      replace HBW := Lib.hid (below_chV HBW.out hst)
      clear hst
      refine hK.out _ _ (HS0.out _ HBW.out) (fun hHeld => ?_)
      clear hK K
      (try simp only [List.getElem_toArray, List.getElem_cons_succ, List.getElem_cons_zero, Act.put, List.setIfInBounds_toArray, List.set_cons_zero, List.set_cons_succ, bne_self_eq_false, beq_self_eq_true])
      refine wpAnyH_take (i := 25) (v := ?v73) rfl (by kernel_rfl) (by kernel_rfl) (by kernel_rfl) (fun _ _ _ h => h) (Or.inl ⟨by rfl, ?hy73⟩) (by assumption) ?rest73
      case hy73 => intro w hSw; (try dsimp only at hSw); go_simp; try with_reducible rfl
      (try simp only [List.getElem_toArray, List.getElem_cons_succ, List.getElem_cons_zero, Act.put, List.setIfInBounds_toArray, List.set_cons_zero, List.set_cons_succ, bne_self_eq_false, beq_self_eq_true])
      refine wpAnyH_take (i := 26) (v := ?v74) rfl (by kernel_rfl) (by kernel_rfl) (by kernel_rfl) (fun _ _ _ h => h) (Or.inl ⟨by rfl, ?hy74⟩) (by assumption) ?rest74
      case hy74 => intro w hSw; (try dsimp only at hSw); go_simp; try with_reducible rfl
      (try simp only [List.getElem_toArray, List.getElem_cons_succ, List.getElem_cons_zero, Act.put, List.setIfInBounds_toArray, List.set_cons_zero, List.set_cons_succ, bne_self_eq_false, beq_self_eq_true])
      refine wpAnyH_take (i := 27) (v := ?v75) rfl (by kernel_rfl) (by kernel_rfl) (by kernel_rfl) (fun _ _ _ h => h) (Or.inl ⟨by rfl, ?hy75⟩) (by assumption) ?rest75
      case hy75 => intro w hSw; (try dsimp only at hSw); go_simp; try with_reducible rfl
      (try simp only [List.getElem_toArray, List.getElem_cons_succ, List.getElem_cons_zero, Act.put, List.setIfInBounds_toArray, List.set_cons_zero, List.set_cons_succ, bne_self_eq_false, beq_self_eq_true])
      refine wpAnyH_take (i := 29) (v := ?v76) rfl (by kernel_rfl) (by kernel_rfl) (by kernel_rfl) (fun _ _ _ h => h) (Or.inl ⟨by rfl, ?hy76⟩) (by assumption) ?rest76
      case hy76 => intro w hSw; (try dsimp only at hSw); go_simp; try with_reducible rfl
      (try simp only [List.getElem_toArray, List.getElem_cons_succ, List.getElem_cons_zero, Act.put, List.setIfInBounds_toArray, List.set_cons_zero, List.set_cons_succ, bne_self_eq_false, beq_self_eq_true])
      refine wpAnyH_ready (rs := [28]) (by kernel_rfl) (by simp) ?_
      refine (AllReadyH.cons rfl (fun K hK => ?_) AllReadyH.nil)
      go_simp
      refine (CZT.out _ FT.out).mono ?_
      rintro e w77 ⟨rfl, hst⟩
      replace FK := Lib.hid (FK.out.below hst)
      replace FT := Lib.hid (FT.out.below hst)
      replace FU := Lib.hid (FU.out.below hst)
      replace FA := Lib.hid (FA.out.below hst)
      replace FX := Lib.hid (FX.out.below hst)
      replace FL := Lib.hid (FL.out.below hst)
      replace X1 := Lib.hid (X1.out.below hst)
      replace I9 := Lib.hid (I9.out.below hst)
      replace P1 := Lib.hid (P1.out.below hst)
      replace I13 := Lib.hid (I13.out.below hst)
      replace P2 := Lib.hid (P2.out.below hst)
      replace L1 := Lib.hid (L1.out.below hst)
      replace L2 := Lib.hid (L2.out.below hst)
      replace HBW := Lib.hid (below_chV HBW.out hst)
      clear hst
      refine hK.out _ _ (HS0.out _ HBW.out) (fun hHeld => ?_)
      clear hK K
      (try simp only [List.getElem_toArray, List.getElem_cons_succ, List.getElem_cons_zero, Act.put, List.setIfInBounds_toArray, List.set_cons_zero, List.set_cons_succ, bne_self_eq_false, beq_self_eq_true])
      refine wpAnyH_ready (rs := [30]) (by kernel_rfl) (by simp) ?_
      refine (AllReadyH.cons rfl (fun K hK => ?_) AllReadyH.nil)
      go_simp
      refine (CZU.out _ FU.out).mono ?_
      rintro e w78 ⟨rfl, hst⟩
      replace FK := Lib.hid (FK.out.below hst)
      replace FT := Lib.hid (FT.out.below hst)
      replace FU := Lib.hid (FU.out.below hst)
      replace FA := Lib.hid (FA.out.below hst)
      replace FX := Lib.hid (FX.out.below hst)
      replace FL := Lib.hid (FL.out.below hst)
      replace X1 := Lib.hid (X1.out.below hst)
      replace I9 := Lib.hid (I9.out.below hst)
      replace P1 := Lib.hid (P1.out.below hst)
      replace I13 := Lib.hid (I13.out.below hst)
      replace P2 := Lib.hid (P2.out.below hst)
      replace L1 := Lib.hid (L1.out.below hst)
      replace L2 := Lib.hid (L2.out.below hst)
      replace HBW := Lib.hid (below_chV HBW.out hst)
      clear hst
      refine hK.out _ _ (HS0.out _ HBW.out) (fun hHeld => ?_)
      clear hK K
      (try simp only [List.getElem_toArray, List.getElem_cons_succ, List.getElem_cons_zero, Act.put, List.setIfInBounds_toArray, List.set_cons_zero, List.set_cons_succ, bne_self_eq_false, beq_self_eq_true])
      refine wpAnyH_take (i := 31) (v := ?v79) rfl (by kernel_rfl) (by kernel_rfl) (by kernel_rfl) (fun _ _ _ h => h) (Or.inl ⟨by rfl, ?hy79⟩) (by assumption) ?rest79
      case hy79 => intro w hSw; (try dsimp only at hSw); go_simp; try with_reducible rfl
      (try simp only [List.getElem_toArray, List.getElem_cons_succ, List.getElem_cons_zero, Act.put, List.setIfInBounds_toArray, List.set_cons_zero, List.set_cons_succ, bne_self_eq_false, beq_self_eq_true])
      refine wpAnyH_take (i := 32) (v := ?v80) rfl (by kernel_rfl) (by kernel_rfl) (by kernel_rfl) (fun _ _ _ h => h) (Or.inl ⟨by rfl, ?hy80⟩) (by assumption) ?rest80
      case hy80 => intro w hSw; (try dsimp only at hSw); go_simp; try with_reducible rfl
      (try simp only [List.getElem_toArray, List.getElem_cons_succ, List.getElem_cons_zero, Act.put, List.setIfInBounds_toArray, List.set_cons_zero, List.set_cons_succ, bne_self_eq_false, beq_self_eq_true])
      refine wpAnyH_take (i := 33) (v := ?v81) rfl (by kernel_rfl) (by kernel_rfl) (by kernel_rfl) (fun _ _ _ h => h) (Or.inl ⟨by rfl, ?hy81⟩) (by assumption) ?rest81
      case hy81 => intro w hSw; (try dsimp only at hSw); go_simp; try with_reducible rfl
      (try simp only [List.getElem_toArray, List.getElem_cons_succ, List.getElem_cons_zero, Act.put, List.setIfInBounds_toArray, List.set_cons_zero, List.set_cons_succ, bne_self_eq_false, beq_self_eq_true])
      refine wpAnyH_done (by kernel_rfl) ?_ _
      go_wp2_with fail
      exact HQ.out _ _ _ _ _ _ _ _ _ _ _ _ _ _ _ _ _ _ _ _ _ _ _ _ _ _ _ _ _ _ _ _ _ _ HBW.out
    · skip
      go_simp
      have I13 := Lib.hid (one_term w59 FA.out)
      replace FK := Lib.hid (FK.out.below ((Below.refl _ _).alloc (Nat.le_refl _) (.cells #[.int .i64 a.kind, .int .i64 a.num, .int .i64 a.atN, (.slice A5 n5 c5), (.slice A6 n6 c6)] 27)))
      replace FT := Lib.hid (FT.out.below ((Below.refl _ _).alloc (Nat.le_refl _) (.cells #[.int .i64 a.kind, .int .i64 a.num, .int .i64 a.atN, (.slice A5 n5 c5), (.slice A6 n6 c6)] 27)))
      replace FU := Lib.hid (FU.out.below ((Below.refl _ _).alloc (Nat.le_refl _) (.cells #[.int .i64 a.kind, .int .i64 a.num, .int .i64 a.atN, (.slice A5 n5 c5), (.slice A6 n6 c6)] 27)))
      replace FA := Lib.hid (FA.out.below ((Below.refl _ _).alloc (Nat.le_refl _) (.cells #[.int .i64 a.kind, .int .i64 a.num, .int .i64 a.atN, (.slice A5 n5 c5), (.slice A6 n6 c6)] 27)))
      replace FX := Lib.hid (FX.out.below ((Below.refl _ _).alloc (Nat.le_refl _) (.cells #[.int .i64 a.kind, .int .i64 a.num, .int .i64 a.atN, (.slice A5 n5 c5), (.slice A6 n6 c6)] 27)))
      replace FL := Lib.hid (FL.out.below ((Below.refl _ _).alloc (Nat.le_refl _) (.cells #[.int .i64 a.kind, .int .i64 a.num, .int .i64 a.atN, (.slice A5 n5 c5), (.slice A6 n6 c6)] 27)))
      replace X1 := Lib.hid (X1.out.below ((Below.refl _ _).alloc (Nat.le_refl _) (.cells #[.int .i64 a.kind, .int .i64 a.num, .int .i64 a.atN, (.slice A5 n5 c5), (.slice A6 n6 c6)] 27)))
      replace I9 := Lib.hid (I9.out.below ((Below.refl _ _).alloc (Nat.le_refl _) (.cells #[.int .i64 a.kind, .int .i64 a.num, .int .i64 a.atN, (.slice A5 n5 c5), (.slice A6 n6 c6)] 27)))
      replace HBW := Lib.hid (HBW.out.alloc HBW.out.size (.cells #[.int .i64 a.kind, .int .i64 a.num, .int .i64 a.atN, (.slice A5 n5 c5), (.slice A6 n6 c6)] 27))
      refine hK.out _ _ (HS0.out _ HBW.out) (fun hHeld => ?_)
      clear hK K
      (try simp only [List.getElem_toArray, List.getElem_cons_succ, List.getElem_cons_zero, Act.put, List.setIfInBounds_toArray, List.set_cons_zero, List.set_cons_succ, bne_self_eq_false, beq_self_eq_true])
      generalize hwn82 : (w59.alloc (.cells #[.int .i64 a.kind, .int .i64 a.num, .int .i64 a.atN, (.slice A5 n5 c5), (.slice A6 n6 c6)] 27)) = w82 at *
      clear hwn82
      refine wpAnyH_ready (rs := [10]) (by kernel_rfl) (by simp) ?_
      refine (AllReadyH.cons rfl (fun K hK => ?_) AllReadyH.nil)
      go_simp
      refine (CP1.out _ _ FK.out FT.out I9.out).mono ?_
      intro e w83 hmade
      obtain ⟨A83x, n83x, c83x, A83y, n83y, c83y, rfl, hru, hst⟩ := hmade.gives
      replace FK := Lib.hid (FK.out.below hst)
      replace FT := Lib.hid (FT.out.below hst)
      replace FU := Lib.hid (FU.out.below hst)
      replace FA := Lib.hid (FA.out.below hst)
      replace FX := Lib.hid (FX.out.below hst)
      replace FL := Lib.hid (FL.out.below hst)
      replace X1 := Lib.hid (X1.out.below hst)
      replace I9 := Lib.hid (I9.out.below hst)
      replace I13 := Lib.hid (I13.out.below hst)
      replace HBW := Lib.hid (below_chV HBW.out hst)
      have P1 := Lib.hid hru
      clear hru hst hmade
      refine hK.out _ _ (HS0.out _ HBW.out) (fun hHeld => ?_)
      clear hK K
      (try simp only [List.getElem_toArray, List.getElem_cons_succ, List.getElem_cons_zero, Act.put, List.setIfInBounds_toArray, List.set_cons_zero, List.set_cons_succ, bne_self_eq_false, beq_self_eq_true])
      refine wpAnyH_ready (rs := [14]) (by kernel_rfl) (by simp) ?_
      refine (AllReadyH.cons rfl (fun K hK => ?_) AllReadyH.nil)
      go_simp
      refine (CP2.out _ _ FK.out FU.out I13.out).mono ?_
      intro e w84 hmade
      obtain ⟨A84x, n84x, c84x, A84y, n84y, c84y, rfl, hru, hst⟩ := hmade.gives
      replace FK := Lib.hid (FK.out.below hst)
      replace FT := Lib.hid (FT.out.below hst)
      replace FU := Lib.hid (FU.out.below hst)
      replace FA := Lib.hid (FA.out.below hst)
      replace FX := Lib.hid (FX.out.below hst)
      replace FL := Lib.hid (FL.out.below hst)
      replace X1 := Lib.hid (X1.out.below hst)
      replace I9 := Lib.hid (I9.out.below hst)
      replace I13 := Lib.hid (I13.out.below hst)
      replace P1 := Lib.hid (P1.out.below hst)
      replace HBW := Lib.hid (below_chV HBW.out hst)
      have P2 := Lib.hid hru
      clear hru hst hmade
      refine hK.out _ _ (HS0.out _ HBW.out) (fun hHeld => ?_)
      clear hK K
      (try simp only [List.getElem_toArray, List.getElem_cons_succ, List.getElem_cons_zero, Act.put, List.setIfInBounds_toArray, List.set_cons_zero, List.set_cons_succ, bne_self_eq_false, beq_self_eq_true])
      refine wpAnyH_ready (rs := [15]) (by kernel_rfl) (by simp) ?_
      refine (AllReadyH.cons rfl (fun K hK => ?_) AllReadyH.nil)
      go_simp
      refine (CS2.out _ _ _ _ _ _ _ _ _ _ _ _ _ P1.out P2.out).mono ?_
      rintro e w85 ⟨rfl, hst⟩
      replace FK := Lib.hid (FK.out.below hst)
      replace FT := Lib.hid (FT.out.below hst)
      replace FU := Lib.hid (FU.out.below hst)
      replace FA := Lib.hid (FA.out.below hst)
      replace FX := Lib.hid (FX.out.below hst)
      replace FL := Lib.hid (FL.out.below hst)
      replace X1 := Lib.hid (X1.out.below hst)
      replace I9 := Lib.hid (I9.out.below hst)
      replace I13 := Lib.hid (I13.out.below hst)
      replace P1 := Lib.hid (P1.out.below hst)
      replace P2 := Lib.hid (P2.out.below hst)
      replace HBW := Lib.hid (below_chV HBW.out hst)
      clear hst
      refine hK.out _ _ (HS0.out _ HBW.out) (fun hHeld => ?_)
      clear hK K
      (try simp only [List.getElem_toArray, List.getElem_cons_succ, List.getElem_cons_zero, Act.put, List.setIfInBounds_toArray, List.set_cons_zero, List.set_cons_succ, bne_self_eq_false, beq_self_eq_true])
      refine wpAnyH_take (i := 16) (v := ?v86) rfl (by kernel_rfl) (by kernel_rfl) (by kernel_rfl) (fun _ _ _ h => h) (Or.inl ⟨by rfl, ?hy86⟩) (by assumption) ?rest86
      case hy86 => intro w hSw; (try dsimp only at hSw); go_simp; try with_reducible rfl
      (try simp only [List.getElem_toArray, List.getElem_cons_succ, List.getElem_cons_zero, Act.put, List.setIfInBounds_toArray, List.set_cons_zero, List.set_cons_succ, bne_self_eq_false, beq_self_eq_true])
      refine wpAnyH_take (i := 17) (v := ?v87) rfl (by kernel_rfl) (by kernel_rfl) (by kernel_rfl) (fun _ _ _ h => h) (Or.inl ⟨by rfl, ?hy87⟩) (by assumption) ?rest87
      case hy87 => intro w hSw; (try dsimp only at hSw); go_simp; try with_reducible rfl
      (try simp only [List.getElem_toArray, List.getElem_cons_succ, List.getElem_cons_zero, Act.put, List.setIfInBounds_toArray, List.set_cons_zero, List.set_cons_succ, bne_self_eq_false, beq_self_eq_true])
      refine wpAnyH_take (i := 18) (v := ?v88) rfl (by kernel_rfl) (by kernel_rfl) (by kernel_rfl) (fun _ _ _ h => h) (Or.inl ⟨by rfl, ?hy88⟩) (by assumption) ?rest88
      case hy88 => intro w hSw; (try dsimp only at hSw); go_simp; try with_reducible rfl
      (try simp only [List.getElem_toArray, List.getElem_cons_succ, List.getElem_cons_zero, Act.put, List.setIfInBounds_toArray, List.set_cons_zero, List.set_cons_succ, bne_self_eq_false, beq_self_eq_true])
      refine wpAnyH_take (i := 19) (v := ?v89) rfl (by kernel_rfl) (by kernel_rfl) (by kernel_rfl) (fun _ _ _ h => h) (Or.inl ⟨by rfl, ?hy89⟩) (by assumption) ?rest89
      case hy89 => intro w hSw; (try dsimp only at hSw); go_simp; try with_reducible rfl
      (try simp only [List.getElem_toArray, List.getElem_cons_succ, List.getElem_cons_zero, Act.put, List.setIfInBounds_toArray, List.set_cons_zero, List.set_cons_succ, bne_self_eq_false, beq_self_eq_true])
      refine wpAnyH_take (i := 21) (v := ?v90) rfl (by kernel_rfl) (by kernel_rfl) (by kernel_rfl) (fun _ _ _ h => h) (Or.inl ⟨by rfl, ?hy90⟩) (by assumption) ?rest90
      case hy90 => intro w hSw; (try dsimp only at hSw); go_simp; try with_reducible rfl
      (try simp only [List.getElem_toArray, List.getElem_cons_succ, List.getElem_cons_zero, Act.put, List.setIfInBounds_toArray, List.set_cons_zero, List.set_cons_succ, bne_self_eq_false, beq_self_eq_true])
      refine wpAnyH_take (i := 22) (v := ?v91) rfl (by kernel_rfl) (by kernel_rfl) (by kernel_rfl) (fun _ _ _ h => h) (Or.inl ⟨by rfl, ?hy91⟩) (by assumption) ?rest91
      case hy91 => intro w hSw; (try dsimp only at hSw); go_simp; try with_reducible rfl
      (try simp only [List.getElem_toArray, List.getElem_cons_succ, List.getElem_cons_zero, Act.put, List.setIfInBounds_toArray, List.set_cons_zero, List.set_cons_succ, bne_self_eq_false, beq_self_eq_true])
      refine wpAnyH_ready (rs := [20]) (by kernel_rfl) (by simp) ?_
      refine (AllReadyH.cons rfl (fun K hK => ?_) AllReadyH.nil)
      go_simp
      refine (CV1.out _ FK.out FT.out FL.out).mono ?_
      intro e w92 hmade
      obtain ⟨A92x, n92x, c92x, A92y, n92y, c92y, rfl, hru, hst⟩ := hmade.gives
      replace FK := Lib.hid (FK.out.below hst)
      replace FT := Lib.hid (FT.out.below hst)
      replace FU := Lib.hid (FU.out.below hst)
      replace FA := Lib.hid (FA.out.below hst)
      replace FX := Lib.hid (FX.out.below hst)
      replace FL := Lib.hid (FL.out.below hst)
      replace X1 := Lib.hid (X1.out.below hst)
      replace I9 := Lib.hid (I9.out.below hst)
      replace I13 := Lib.hid (I13.out.below hst)
      replace P1 := Lib.hid (P1.out.below hst)
      replace P2 := Lib.hid (P2.out.below hst)
      replace HBW := Lib.hid (below_chV HBW.out hst)
      have L1 := Lib.hid hru
      clear hru hst hmade
      refine hK.out _ _ (HS0.out _ HBW.out) (fun hHeld => ?_)
      clear hK K
      (try simp only [List.getElem_toArray, List.getElem_cons_succ, List.getElem_cons_zero, Act.put, List.setIfInBounds_toArray, List.set_cons_zero, List.set_cons_succ, bne_self_eq_false, beq_self_eq_true])
      refine wpAnyH_ready (rs := [23]) (by kernel_rfl) (by simp) ?_
      refine (AllReadyH.cons rfl (fun K hK => ?_) AllReadyH.nil)
      go_simp
      refine (CV2.out _ FK.out FU.out FL.out).mono ?_
      intro e w93 hmade
      obtain ⟨A93x, n93x, c93x, A93y, n93y, c93y, rfl, hru, hst⟩ := hmade.gives
      replace FK := Lib.hid (FK.out.below hst)
      replace FT := Lib.hid (FT.out.below hst)
      replace FU := Lib.hid (FU.out.below hst)
      replace FA := Lib.hid (FA.out.below hst)
      replace FX := Lib.hid (FX.out.below hst)
      replace FL := Lib.hid (FL.out.below hst)
      replace X1 := Lib.hid (X1.out.below hst)
      replace I9 := Lib.hid (I9.out.below hst)
      replace I13 := Lib.hid (I13.out.below hst)
      replace P1 := Lib.hid (P1.out.below hst)
      replace P2 := Lib.hid (P2.out.below hst)
      replace L1 := Lib.hid (L1.out.below hst)
      replace HBW := Lib.hid (below_chV HBW.out hst)
      have L2 := Lib.hid hru
      clear hru hst hmade
      refine hK.out _ _ (HS0.out _ HBW.out) (fun hHeld => ?_)
      clear hK K
      (try simp only [List.getElem_toArray, List.getElem_cons_succ, List.getElem_cons_zero, Act.put, List.setIfInBounds_toArray, List.set_cons_zero, List.set_cons_succ, bne_self_eq_false, beq_self_eq_true])
      refine wpAnyH_ready (rs := [24]) (by kernel_rfl) (by simp) ?_
      refine (AllReadyH.cons rfl (fun K hK => ?_) AllReadyH.nil)
      go_simp
      refine (CS3.out _ _ _ _ _ _ _ _ _ _ _ _ _ L1.out L2.out).mono ?_
      rintro e w94 ⟨rfl, hst⟩
      replace FK := Lib.hid (FK.out.below hst)
      replace FT := Lib.hid (FT.out.below hst)
      replace FU := Lib.hid (FU.out.below hst)
      replace FA := Lib.hid (FA.out.below hst)
      replace FX := Lib.hid (FX.out.below hst)
      replace FL := Lib.hid (FL.out.below hst)
      replace X1 := Lib.hid (X1.out.below hst)
      replace I9 := Lib.hid (I9.out.below hst)
      replace I13 := Lib.hid (I13.out.below hst)
      replace P1 := Lib.hid (P1.out.below hst)
      replace P2 := Lib.hid (P2.out.below hst)
      replace L1 := Lib.hid (L1.out.below hst)
      replace L2 := Lib.hid (L2.out.below hst)
      replace HBW := Lib.hid (below_chV HBW.out hst)
      clear hst
      refine hK.out _ _ (HS0.out _ HBW.out) (fun hHeld => ?_)
      clear hK K
      (try simp only [List.getElem_toArray, List.getElem_cons_succ, List.getElem_cons_zero, Act.put, List.setIfInBounds_toArray, List.set_cons_zero, List.set_cons_succ, bne_self_eq_false, beq_self_eq_true])
      refine wpAnyH_take (i := 25) (v := ?v95) rfl (by kernel_rfl) (by kernel_rfl) (by kernel_rfl) (fun _ _ _ h => h) (Or.inl ⟨by rfl, ?hy95⟩) (by assumption) ?rest95
      case hy95 => intro w hSw; (try dsimp only at hSw); go_simp; try with_reducible rfl
      (try simp only [List.getElem_toArray, List.getElem_cons_succ, List.getElem_cons_zero, Act.put, List.setIfInBounds_toArray, List.set_cons_zero, List.set_cons_succ, bne_self_eq_false, beq_self_eq_true])
      refine wpAnyH_take (i := 26) (v := ?v96) rfl (by kernel_rfl) (by kernel_rfl) (by kernel_rfl) (fun _ _ _ h => h) (Or.inl ⟨by rfl, ?hy96⟩) (by assumption) ?rest96
      case hy96 => intro w hSw; (try dsimp only at hSw); go_simp; try with_reducible rfl
      (try simp only [List.getElem_toArray, List.getElem_cons_succ, List.getElem_cons_zero, Act.put, List.setIfInBounds_toArray, List.set_cons_zero, List.set_cons_succ, bne_self_eq_false, beq_self_eq_true])
      refine wpAnyH_take (i := 27) (v := ?v97) rfl (by kernel_rfl) (by kernel_rfl) (by kernel_rfl) (fun _ _ _ h => h) (Or.inl ⟨by rfl, ?hy97⟩) (by assumption) ?rest97
      case hy97 => intro w hSw; (try dsimp only at hSw); go_simp; try with_reducible rfl
      (try simp only [List.getElem_toArray, List.getElem_cons_succ, List.getElem_cons_zero, Act.put, List.setIfInBounds_toArray, List.set_cons_zero, List.set_cons_succ, bne_self_eq_false, beq_self_eq_true])
      refine wpAnyH_take (i := 29) (v := ?v98) rfl (by kernel_rfl) (by kernel_rfl) (by kernel_rfl) (fun _ _ _ h => h) (Or.inl ⟨by rfl, ?hy98⟩) (by assumption) ?rest98
      case hy98 => intro w hSw; (try dsimp only at hSw); go_simp; try with_reducible rfl
      (try simp only [List.getElem_toArray, List.getElem_cons_succ, List.getElem_cons_zero, Act.put, List.setIfInBounds_toArray, List.set_cons_zero, List.set_cons_succ, bne_self_eq_false, beq_self_eq_true])
      refine wpAnyH_ready (rs := [28]) (by kernel_rfl) (by simp) ?_
      refine (AllReadyH.cons rfl (fun K hK => ?_) AllReadyH.nil)
      go_simp
      refine (CZT.out _ FT.out).mono ?_
      rintro e w99 ⟨rfl, hst⟩
      replace FK := Lib.hid (FK.out.below hst)
      replace FT := Lib.hid (FT.out.below hst)
      replace FU := Lib.hid (FU.out.below hst)
      replace FA := Lib.hid (FA.out.below hst)
      replace FX := Lib.hid (FX.out.below hst)
      replace FL := Lib.hid (FL.out.below hst)
      replace X1 := Lib.hid (X1.out.below hst)
      replace I9 := Lib.hid (I9.out.below hst)
      replace I13 := Lib.hid (I13.out.below hst)
      replace P1 := Lib.hid (P1.out.below hst)
      replace P2 := Lib.hid (P2.out.below hst)
      replace L1 := Lib.hid (L1.out.below hst)
      replace L2 := Lib.hid (L2.out.below hst)
      replace HBW := Lib.hid (below_chV HBW.out hst)
      clear hst
      refine hK.out _ _ (HS0.out _ HBW.out) (fun hHeld => ?_)
      clear hK K
      (try simp only [List.getElem_toArray, List.getElem_cons_succ, List.getElem_cons_zero, Act.put, List.setIfInBounds_toArray, List.set_cons_zero, List.set_cons_succ, bne_self_eq_false, beq_self_eq_true])
      refine wpAnyH_ready (rs := [30]) (by kernel_rfl) (by simp) ?_
      refine (AllReadyH.cons rfl (fun K hK => ?_) AllReadyH.nil)
      go_simp
      refine (CZU.out _ FU.out).mono ?_
      rintro e w100 ⟨rfl, hst⟩
      replace FK := Lib.hid (FK.out.below hst)
      replace FT := Lib.hid (FT.out.below hst)
      replace FU := Lib.hid (FU.out.below hst)
      replace FA := Lib.hid (FA.out.below hst)
      replace FX := Lib.hid (FX.out.below hst)
      replace FL := Lib.hid (FL.out.below hst)
      replace X1 := Lib.hid (X1.out.below hst)
      replace I9 := Lib.hid (I9.out.below hst)
      replace I13 := Lib.hid (I13.out.below hst)
      replace P1 := Lib.hid (P1.out.below hst)
      replace P2 := Lib.hid (P2.out.below hst)
      replace L1 := Lib.hid (L1.out.below hst)
      replace L2 := Lib.hid (L2.out.below hst)
      replace HBW := Lib.hid (below_chV HBW.out hst)
      clear hst
      refine hK.out _ _ (HS0.out _ HBW.out) (fun hHeld => ?_)
      clear hK K
      (try simp only [List.getElem_toArray, List.getElem_cons_succ, List.getElem_cons_zero, Act.put, List.setIfInBounds_toArray, List.set_cons_zero, List.set_cons_succ, bne_self_eq_false, beq_self_eq_true])
      refine wpAnyH_take (i := 31) (v := ?v101) rfl (by kernel_rfl) (by kernel_rfl) (by kernel_rfl) (fun _ _ _ h => h) (Or.inl ⟨by rfl, ?hy101⟩) (by assumption) ?rest101
      case hy101 => intro w hSw; (try dsimp only at hSw); go_simp; try with_reducible rfl
      (try simp only [List.getElem_toArray, List.getElem_cons_succ, List.getElem_cons_zero, Act.put, List.setIfInBounds_toArray, List.set_cons_zero, List.set_cons_succ, bne_self_eq_false, beq_self_eq_true])
      refine wpAnyH_take (i := 32) (v := ?v102) rfl (by kernel_rfl) (by kernel_rfl) (by kernel_rfl) (fun _ _ _ h => h) (Or.inl ⟨by rfl, ?hy102⟩) (by assumption) ?rest102
      case hy102 => intro w hSw; (try dsimp only at hSw); go_simp; try with_reducible rfl
      (try simp only [List.getElem_toArray, List.getElem_cons_succ, List.getElem_cons_zero, Act.put, List.setIfInBounds_toArray, List.set_cons_zero, List.set_cons_succ, bne_self_eq_false, beq_self_eq_true])
      refine wpAnyH_take (i := 33) (v := ?v103) rfl (by kernel_rfl) (by kernel_rfl) (by kernel_rfl) (fun _ _ _ h => h) (Or.inl ⟨by rfl, ?hy103⟩) (by assumption) ?rest103
      case hy103 => intro w hSw; (try dsimp only at hSw); go_simp; try with_reducible rfl
      (try simp only [List.getElem_toArray, List.getElem_cons_succ, List.getElem_cons_zero, Act.put, List.setIfInBounds_toArray, List.set_cons_zero, List.set_cons_succ, bne_self_eq_false, beq_self_eq_true])
      refine wpAnyH_done (by kernel_rfl) ?_ _
      go_wp2_with fail
      exact HQ.out _ _ _ _ _ _ _ _ _ _ _ _ _ _ _ _ _ _ _ _ _ _ _ _ _ _ _ _ _ _ _ _ _ _ HBW.out
  · skip
    go_simp
    have I13 := Lib.hid (one_term w53 FA.out)
    replace FK := Lib.hid (FK.out.below ((Below.refl _ _).alloc (Nat.le_refl _) (.cells #[.int .i64 a.kind, .int .i64 a.num, .int .i64 a.atN, (.slice A5 n5 c5), (.slice A6 n6 c6)] 27)))
    replace FT := Lib.hid (FT.out.below ((Below.refl _ _).alloc (Nat.le_refl _) (.cells #[.int .i64 a.kind, .int .i64 a.num, .int .i64 a.atN, (.slice A5 n5 c5), (.slice A6 n6 c6)] 27)))
    replace FU := Lib.hid (FU.out.below ((Below.refl _ _).alloc (Nat.le_refl _) (.cells #[.int .i64 a.kind, .int .i64 a.num, .int .i64 a.atN, (.slice A5 n5 c5), (.slice A6 n6 c6)] 27)))
    replace FA := Lib.hid (FA.out.below ((Below.refl _ _).alloc (Nat.le_refl _) (.cells #[.int .i64 a.kind, .int .i64 a.num, .int .i64 a.atN, (.slice A5 n5 c5), (.slice A6 n6 c6)] 27)))
    replace FX := Lib.hid (FX.out.below ((Below.refl _ _).alloc (Nat.le_refl _) (.cells #[.int .i64 a.kind, .int .i64 a.num, .int .i64 a.atN, (.slice A5 n5 c5), (.slice A6 n6 c6)] 27)))
    replace FL := Lib.hid (FL.out.below ((Below.refl _ _).alloc (Nat.le_refl _) (.cells #[.int .i64 a.kind, .int .i64 a.num, .int .i64 a.atN, (.slice A5 n5 c5), (.slice A6 n6 c6)] 27)))
    replace X1 := Lib.hid (X1.out.below ((Below.refl _ _).alloc (Nat.le_refl _) (.cells #[.int .i64 a.kind, .int .i64 a.num, .int .i64 a.atN, (.slice A5 n5 c5), (.slice A6 n6 c6)] 27)))
    replace HBW := Lib.hid (HBW.out.alloc HBW.out.size (.cells #[.int .i64 a.kind, .int .i64 a.num, .int .i64 a.atN, (.slice A5 n5 c5), (.slice A6 n6 c6)] 27))
    refine hK.out _ _ (HS0.out _ HBW.out) (fun hHeld => ?_)
    clear hK K
    (try simp only [List.getElem_toArray, List.getElem_cons_succ, List.getElem_cons_zero, Act.put, List.setIfInBounds_toArray, List.set_cons_zero, List.set_cons_succ, bne_self_eq_false, beq_self_eq_true])
    generalize hwn104 : (w53.alloc (.cells #[.int .i64 a.kind, .int .i64 a.num, .int .i64 a.atN, (.slice A5 n5 c5), (.slice A6 n6 c6)] 27)) = w104 at *
    clear hwn104
    refine wpAnyH_ready (rs := [9]) (by kernel_rfl) (by simp) ?_
    refine (AllReadyH.cons rfl (fun K hK => ?_) AllReadyH.nil)
    go_simp
    have I9 := Lib.hid (one_term w104 FA.out)
    replace FK := Lib.hid (FK.out.below ((Below.refl _ _).alloc (Nat.le_refl _) (.cells #[.int .i64 a.kind, .int .i64 a.num, .int .i64 a.atN, (.slice A5 n5 c5), (.slice A6 n6 c6)] 27)))
    replace FT := Lib.hid (FT.out.below ((Below.refl _ _).alloc (Nat.le_refl _) (.cells #[.int .i64 a.kind, .int .i64 a.num, .int .i64 a.atN, (.slice A5 n5 c5), (.slice A6 n6 c6)] 27)))
    replace FU := Lib.hid (FU.out.below ((Below.refl _ _).alloc (Nat.le_refl _) (.cells #[.int .i64 a.kind, .int .i64 a.num, .int .i64 a.atN, (.slice A5 n5 c5), (.slice A6 n6 c6)] 27)))
    replace FA := Lib.hid (FA.out.below ((Below.refl _ _).alloc (Nat.le_refl _) (.cells #[.int .i64 a.kind, .int .i64 a.num, .int .i64 a.atN, (.slice A5 n5 c5), (.slice A6 n6 c6)] 27)))
    replace FX := Lib.hid (FX.out.below ((Below.refl _ _).alloc (Nat.le_refl _) (.cells #[.int .i64 a.kind, .int .i64 a.num, .int .i64 a.atN, (.slice A5 n5 c5), (.slice A6 n6 c6)] 27)))
    replace FL := Lib.hid (FL.out.below ((Below.refl _ _).alloc (Nat.le_refl _) (.cells #[.int .i64 a.kind, .int .i64 a.num, .int .i64 a.atN, (.slice A5 n5 c5), (.slice A6 n6 c6)] 27)))
    replace X1 := Lib.hid (X1.out.below ((Below.refl _ _).alloc (Nat.le_refl _) (.cells #[.int .i64 a.kind, .int .i64 a.num, .int .i64 a.atN, (.slice A5 n5 c5), (.slice A6 n6 c6)] 27)))
    replace I13 := Lib.hid (I13.out.below ((Below.refl _ _).alloc (Nat.le_refl _) (.cells #[.int .i64 a.kind, .int .i64 a.num, .int .i64 a.atN, (.slice A5 n5 c5), (.slice A6 n6 c6)] 27)))
    replace HBW := Lib.hid (HBW.out.alloc HBW.out.size (.cells #[.int .i64 a.kind, .int .i64 a.num, .int .i64 a.atN, (.slice A5 n5 c5), (.slice A6 n6 c6)] 27))
    refine hK.out _ _ (HS0.out _ HBW.out) (fun hHeld => ?_)
    clear hK K
    (try simp only [List.getElem_toArray, List.getElem_cons_succ, List.getElem_cons_zero, Act.put, List.setIfInBounds_toArray, List.set_cons_zero, List.set_cons_succ, bne_self_eq_false, beq_self_eq_true])
    generalize hwn105 : (w104.alloc (.cells #[.int .i64 a.kind, .int .i64 a.num, .int .i64 a.atN, (.slice A5 n5 c5), (.slice A6 n6 c6)] 27)) = w105 at *
    clear hwn105
    refine wpAnyH_ready (rs := [10]) (by kernel_rfl) (by simp) ?_
    refine (AllReadyH.cons rfl (fun K hK => ?_) AllReadyH.nil)
    go_simp
    refine (CP1.out _ _ FK.out FT.out I9.out).mono ?_
    intro e w106 hmade
    obtain ⟨A106x, n106x, c106x, A106y, n106y, c106y, rfl, hru, hst⟩ := hmade.gives
    replace FK := Lib.hid (FK.out.below hst)
    replace FT := Lib.hid (FT.out.below hst)
    replace FU := Lib.hid (FU.out.below hst)
    replace FA := Lib.hid (FA.out.below hst)
    replace FX := Lib.hid (FX.out.below hst)
    replace FL := Lib.hid (FL.out.below hst)
    replace X1 := Lib.hid (X1.out.below hst)
    replace I13 := Lib.hid (I13.out.below hst)
    replace I9 := Lib.hid (I9.out.below hst)
    replace HBW := Lib.hid (below_chV HBW.out hst)
    have P1 := Lib.hid hru
    clear hru hst hmade
    refine hK.out _ _ (HS0.out _ HBW.out) (fun hHeld => ?_)
    clear hK K
    (try simp only [List.getElem_toArray, List.getElem_cons_succ, List.getElem_cons_zero, Act.put, List.setIfInBounds_toArray, List.set_cons_zero, List.set_cons_succ, bne_self_eq_false, beq_self_eq_true])
    refine wpAnyH_ready (rs := [14]) (by kernel_rfl) (by simp) ?_
    refine (AllReadyH.cons rfl (fun K hK => ?_) AllReadyH.nil)
    go_simp
    refine (CP2.out _ _ FK.out FU.out I13.out).mono ?_
    intro e w107 hmade
    obtain ⟨A107x, n107x, c107x, A107y, n107y, c107y, rfl, hru, hst⟩ := hmade.gives
    replace FK := Lib.hid (FK.out.below hst)
    replace FT := Lib.hid (FT.out.below hst)
    replace FU := Lib.hid (FU.out.below hst)
    replace FA := Lib.hid (FA.out.below hst)
    replace FX := Lib.hid (FX.out.below hst)
    replace FL := Lib.hid (FL.out.below hst)
    replace X1 := Lib.hid (X1.out.below hst)
    replace I13 := Lib.hid (I13.out.below hst)
    replace I9 := Lib.hid (I9.out.below hst)
    replace P1 := Lib.hid (P1.out.below hst)
    replace HBW := Lib.hid (below_chV HBW.out hst)
    have P2 := Lib.hid hru
    clear hru hst hmade
    refine hK.out _ _ (HS0.out _ HBW.out) (fun hHeld => ?_)
    clear hK K
    (try simp only [List.getElem_toArray, List.getElem_cons_succ, List.getElem_cons_zero, Act.put, List.setIfInBounds_toArray, List.set_cons_zero, List.set_cons_succ, bne_self_eq_false, beq_self_eq_true])
    refine wpAnyH_ready (rs := [15]) (by kernel_rfl) (by simp) ?_
    refine (AllReadyH.cons rfl (fun K hK => ?_) AllReadyH.nil)
    go_simp
    refine (CS2.out _ _ _ _ _ _ _ _ _ _ _ _ _ P1.out P2.out).mono ?_
    rintro e w108 ⟨rfl, hst⟩
    replace FK := Lib.hid (FK.out.below hst)
    replace FT := Lib.hid (FT.out.below hst)
    replace FU := Lib.hid (FU.out.below hst)
    replace FA := Lib.hid (FA.out.below hst)
    replace FX := Lib.hid (FX.out.below hst)
    replace FL := Lib.hid (FL.out.below hst)
    replace X1 := Lib.hid (X1.out.below hst)
    replace I13 := Lib.hid (I13.out.below hst)
    replace I9 := Lib.hid (I9.out.below hst)
    replace P1 := Lib.hid (P1.out.below hst)
    replace P2 := Lib.hid (P2.out.below hst)
    replace HBW := Lib.hid (below_chV HBW.out hst)
    clear hst
    refine hK.out _ _ (HS0.out _ HBW.out) (fun hHeld => ?_)
    clear hK K
    (try simp only [List.getElem_toArray, List.getElem_cons_succ, List.getElem_cons_zero, Act.put, List.setIfInBounds_toArray, List.set_cons_zero, List.set_cons_succ, bne_self_eq_false, beq_self_eq_true])
    refine wpAnyH_take (i := 16) (v := ?v109) rfl (by kernel_rfl) (by kernel_rfl) (by kernel_rfl) (fun _ _ _ h => h) (Or.inl ⟨by rfl, ?hy109⟩) (by assumption) ?rest109
    case hy109 => intro w hSw; (try dsimp only at hSw); go_simp; try with_reducible rfl
    (try simp only [List.getElem_toArray, List.getElem_cons_succ, List.getElem_cons_zero, Act.put, List.setIfInBounds_toArray, List.set_cons_zero, List.set_cons_succ, bne_self_eq_false, beq_self_eq_true])
    refine wpAnyH_take (i := 17) (v := ?v110) rfl (by kernel_rfl) (by kernel_rfl) (by kernel_rfl) (fun _ _ _ h => h) (Or.inl ⟨by rfl, ?hy110⟩) (by assumption) ?rest110
    case hy110 => intro w hSw; (try dsimp only at hSw); go_simp; try with_reducible rfl
    (try simp only [List.getElem_toArray, List.getElem_cons_succ, List.getElem_cons_zero, Act.put, List.setIfInBounds_toArray, List.set_cons_zero, List.set_cons_succ, bne_self_eq_false, beq_self_eq_true])
    refine wpAnyH_take (i := 18) (v := ?v111) rfl (by kernel_rfl) (by kernel_rfl) (by kernel_rfl) (fun _ _ _ h => h) (Or.inl ⟨by rfl, ?hy111⟩) (by assumption) ?rest111
    case hy111 => intro w hSw; (try dsimp only at hSw); go_simp; try with_reducible rfl
    (try simp only [List.getElem_toArray, List.getElem_cons_succ, List.getElem_cons_zero, Act.put, List.setIfInBounds_toArray, List.set_cons_zero, List.set_cons_succ, bne_self_eq_false, beq_self_eq_true])
    refine wpAnyH_take (i := 19) (v := ?v112) rfl (by kernel_rfl) (by kernel_rfl) (by kernel_rfl) (fun _ _ _ h => h) (Or.inl ⟨by rfl, ?hy112⟩) (by assumption) ?rest112
    case hy112 => intro w hSw; (try dsimp only at hSw); go_simp; try with_reducible rfl
    (try simp only [List.getElem_toArray, List.getElem_cons_succ, List.getElem_cons_zero, Act.put, List.setIfInBounds_toArray, List.set_cons_zero, List.set_cons_succ, bne_self_eq_false, beq_self_eq_true])
    refine wpAnyH_take (i := 21) (v := ?v113) rfl (by kernel_rfl) (by kernel_rfl) (by kernel_rfl) (fun _ _ _ h => h) (Or.inl ⟨by rfl, ?hy113⟩) (by assumption) ?rest113
    case hy113 => intro w hSw; (try dsimp only at hSw); go_simp; try with_reducible rfl
    (try simp only [List.getElem_toArray, List.getElem_cons_succ, List.getElem_cons_zero, Act.put, List.setIfInBounds_toArray, List.set_cons_zero, List.set_cons_succ, bne_self_eq_false, beq_self_eq_true])
    refine wpAnyH_take (i := 22) (v := ?v114) rfl (by kernel_rfl) (by kernel_rfl) (by kernel_rfl) (fun _ _ _ h => h) (Or.inl ⟨by rfl, ?hy114⟩) (by assumption) ?rest114
    case hy114 => intro w hSw; (try dsimp only at hSw); go_simp; try with_reducible rfl
    (try simp only [List.getElem_toArray, List.getElem_cons_succ, List.getElem_cons_zero, Act.put, List.setIfInBounds_toArray, List.set_cons_zero, List.set_cons_succ, bne_self_eq_false, beq_self_eq_true])
    refine wpAnyH_ready (rs := [20]) (by kernel_rfl) (by simp) ?_
    refine (AllReadyH.cons rfl (fun K hK => ?_) AllReadyH.nil)
    go_simp
    refine (CV1.out _ FK.out FT.out FL.out).mono ?_
    intro e w115 hmade
    obtain ⟨A115x, n115x, c115x, A115y, n115y, c115y, rfl, hru, hst⟩ := hmade.gives
    replace FK := Lib.hid (FK.out.below hst)
    replace FT := Lib.hid (FT.out.below hst)
    replace FU := Lib.hid (FU.out.below hst)
    replace FA := Lib.hid (FA.out.below hst)
    replace FX := Lib.hid (FX.out.below hst)
    replace FL := Lib.hid (FL.out.below hst)
    replace X1 := Lib.hid (X1.out.below hst)
    replace I13 := Lib.hid (I13.out.below hst)
    replace I9 := Lib.hid (I9.out.below hst)
    replace P1 := Lib.hid (P1.out.below hst)
    replace P2 := Lib.hid (P2.out.below hst)
    replace HBW := Lib.hid (below_chV HBW.out hst)
    have L1 := Lib.hid hru
    clear hru hst hmade
    refine hK.out _ _ (HS0.out _ HBW.out) (fun hHeld => ?_)
    clear hK K
    (try simp only [List.getElem_toArray, List.getElem_cons_succ, List.getElem_cons_zero, Act.put, List.setIfInBounds_toArray, List.set_cons_zero, List.set_cons_succ, bne_self_eq_false, beq_self_eq_true])
    refine wpAnyH_ready (rs := [23]) (by kernel_rfl) (by simp) ?_
    refine (AllReadyH.cons rfl (fun K hK => ?_) AllReadyH.nil)
    go_simp
    refine (CV2.out _ FK.out FU.out FL.out).mono ?_
    intro e w116 hmade
    obtain ⟨A116x, n116x, c116x, A116y, n116y, c116y, rfl, hru, hst⟩ := hmade.gives
    replace FK := Lib.hid (FK.out.below hst)
    replace FT := Lib.hid (FT.out.below hst)
    replace FU := Lib.hid (FU.out.below hst)
    replace FA := Lib.hid (FA.out.below hst)
    replace FX := Lib.hid (FX.out.below hst)
    replace FL := Lib.hid (FL.out.below hst)
    replace X1 := Lib.hid (X1.out.below hst)
    replace I13 := Lib.hid (I13.out.below hst)
    replace I9 := Lib.hid (I9.out.below hst)
    replace P1 := Lib.hid (P1.out.below hst)
    replace P2 := Lib.hid (P2.out.below hst)
    replace L1 := Lib.hid (L1.out.below hst)
    replace HBW := Lib.hid (below_chV HBW.out hst)
    have L2 := Lib.hid hru
    clear hru hst hmade
    refine hK.out _ _ (HS0.out _ HBW.out) (fun hHeld => ?_)
    clear hK K
    (try simp only [List.getElem_toArray, List.getElem_cons_succ, List.getElem_cons_zero, Act.put, List.setIfInBounds_toArray, List.set_cons_zero, List.set_cons_succ, bne_self_eq_false, beq_self_eq_true])
    refine wpAnyH_ready (rs := [24]) (by kernel_rfl) (by simp) ?_
    refine (AllReadyH.cons rfl (fun K hK => ?_) AllReadyH.nil)
    go_simp
    refine (CS3.out _ _ _ _ _ _ _ _ _ _ _ _ _ L1.out L2.out).mono ?_
    rintro e w117 ⟨rfl, hst⟩
    replace FK := Lib.hid (FK.out.below hst)
    replace FT := Lib.hid (FT.out.below hst)
    replace FU := Lib.hid (FU.out.below hst)
    replace FA := Lib.hid (FA.out.below hst)
    replace FX := Lib.hid (FX.out.below hst)
    replace FL := Lib.hid (FL.out.below hst)
    replace X1 := Lib.hid (X1.out.below hst)
    replace I13 := Lib.hid (I13.out.below hst)
    replace I9 := Lib.hid (I9.out.below hst)
    replace P1 := Lib.hid (P1.out.below hst)
    replace P2 := Lib.hid (P2.out.below hst)
    replace L1 := Lib.hid (L1.out.below hst)
    replace L2 := Lib.hid (L2.out.below hst)
    replace HBW := Lib.hid (below_chV HBW.out hst)
    clear hst
    refine hK.out _ _ (HS0.out _ HBW.out) (fun hHeld => ?_)
    clear hK K
    (try simp only [List.getElem_toArray, List.getElem_cons_succ, List.getElem_cons_zero, Act.put, List.setIfInBounds_toArray, List.set_cons_zero, List.set_cons_succ, bne_self_eq_false, beq_self_eq_true])
    refine wpAnyH_take (i := 25) (v := ?v118) rfl (by kernel_rfl) (by kernel_rfl) (by kernel_rfl) (fun _ _ _ h => h) (Or.inl ⟨by rfl, ?hy118⟩) (by assumption) ?rest118
    case hy118 => intro w hSw; (try dsimp only at hSw); go_simp; try with_reducible rfl
    (try simp only [List.getElem_toArray, List.getElem_cons_succ, List.getElem_cons_zero, Act.put, List.setIfInBounds_toArray, List.set_cons_zero, List.set_cons_succ, bne_self_eq_false, beq_self_eq_true])
    refine wpAnyH_take (i := 26) (v := ?v119) rfl (by kernel_rfl) (by kernel_rfl) (by kernel_rfl) (fun _ _ _ h => h) (Or.inl ⟨by rfl, ?hy119⟩) (by assumption) ?rest119
    case hy119 => intro w hSw; (try dsimp only at hSw); go_simp; try with_reducible rfl
    (try simp only [List.getElem_toArray, List.getElem_cons_succ, List.getElem_cons_zero, Act.put, List.setIfInBounds_toArray, List.set_cons_zero, List.set_cons_succ, bne_self_eq_false, beq_self_eq_true])
    refine wpAnyH_take (i := 27) (v := ?v120) rfl (by kernel_rfl) (by kernel_rfl) (by kernel_rfl) (fun _ _ _ h => h) (Or.inl ⟨by rfl, ?hy120⟩) (by assumption) ?rest120
    case hy120 => intro w hSw; (try dsimp only at hSw); go_simp; try with_reducible rfl
    (try simp only [List.getElem_toArray, List.getElem_cons_succ, List.getElem_cons_zero, Act.put, List.setIfInBounds_toArray, List.set_cons_zero, List.set_cons_succ, bne_self_eq_false, beq_self_eq_true])
    refine wpAnyH_take (i := 29) (v := ?v121) rfl (by kernel_rfl) (by kernel_rfl) (by kernel_rfl) (fun _ _ _ h => h) (Or.inl ⟨by rfl, ?hy121⟩) (by assumption) ?rest121
    case hy121 => intro w hSw; (try dsimp only at hSw); go_simp; try with_reducible rfl
    (try simp only [List.getElem_toArray, List.getElem_cons_succ, List.getElem_cons_zero, Act.put, List.setIfInBounds_toArray, List.set_cons_zero, List.set_cons_succ, bne_self_eq_false, beq_self_eq_true])
    refine wpAnyH_ready (rs := [28]) (by kernel_rfl) (by simp) ?_
    refine (AllReadyH.cons rfl (fun K hK => ?_) AllReadyH.nil)
    go_simp
    refine (CZT.out _ FT.out).mono ?_
    rintro e w122 ⟨rfl, hst⟩
    replace FK := Lib.hid (FK.out.below hst)
    replace FT := Lib.hid (FT.out.below hst)
    replace FU := Lib.hid (FU.out.below hst)
    replace FA := Lib.hid (FA.out.below hst)
    replace FX := Lib.hid (FX.out.below hst)
    replace FL := Lib.hid (FL.out.below hst)
    replace X1 := Lib.hid (X1.out.below hst)
    replace I13 := Lib.hid (I13.out.below hst)
    replace I9 := Lib.hid (I9.out.below hst)
    replace P1 := Lib.hid (P1.out.below hst)
    replace P2 := Lib.hid (P2.out.below hst)
    replace L1 := Lib.hid (L1.out.below hst)
    replace L2 := Lib.hid (L2.out.below hst)
    replace HBW := Lib.hid (below_chV HBW.out hst)
    clear hst
    refine hK.out _ _ (HS0.out _ HBW.out) (fun hHeld => ?_)
    clear hK K
    (try simp only [List.getElem_toArray, List.getElem_cons_succ, List.getElem_cons_zero, Act.put, List.setIfInBounds_toArray, List.set_cons_zero, List.set_cons_succ, bne_self_eq_false, beq_self_eq_true])
    refine wpAnyH_ready (rs := [30]) (by kernel_rfl) (by simp) ?_
    refine (AllReadyH.cons rfl (fun K hK => ?_) AllReadyH.nil)
    go_simp
    refine (CZU.out _ FU.out).mono ?_
    rintro e w123 ⟨rfl, hst⟩
    replace FK := Lib.hid (FK.out.below hst)
    replace FT := Lib.hid (FT.out.below hst)
    replace FU := Lib.hid (FU.out.below hst)
    replace FA := Lib.hid (FA.out.below hst)
    replace FX := Lib.hid (FX.out.below hst)
    replace FL := Lib.hid (FL.out.below hst)
    replace X1 := Lib.hid (X1.out.below hst)
    replace I13 := Lib.hid (I13.out.below hst)
    replace I9 := Lib.hid (I9.out.below hst)
    replace P1 := Lib.hid (P1.out.below hst)
    replace P2 := Lib.hid (P2.out.below hst)
    replace L1 := Lib.hid (L1.out.below hst)
    replace L2 := Lib.hid (L2.out.below hst)
    replace HBW := Lib.hid (below_chV HBW.out hst)
    clear hst
    refine hK.out _ _ (HS0.out _ HBW.out) (fun hHeld => ?_)
    clear hK K
    (try simp only [List.getElem_toArray, List.getElem_cons_succ, List.getElem_cons_zero, Act.put, List.setIfInBounds_toArray, List.set_cons_zero, List.set_cons_succ, bne_self_eq_false, beq_self_eq_true])
    refine wpAnyH_take (i := 31) (v := ?v124) rfl (by kernel_rfl) (by kernel_rfl) (by kernel_rfl) (fun _ _ _ h => h) (Or.inl ⟨by rfl, ?hy124⟩) (by assumption) ?rest124
    case hy124 => intro w hSw; (try dsimp only at hSw); go_simp; try with_reducible rfl
    (try simp only [List.getElem_toArray, List.getElem_cons_succ, List.getElem_cons_zero, Act.put, List.setIfInBounds_toArray, List.set_cons_zero, List.set_cons_succ, bne_self_eq_false, beq_self_eq_true])
    refine wpAnyH_take (i := 32) (v := ?v125) rfl (by kernel_rfl) (by kernel_rfl) (by kernel_rfl) (fun _ _ _ h => h) (Or.inl ⟨by rfl, ?hy125⟩) (by assumption) ?rest125
    case hy125 => intro w hSw; (try dsimp only at hSw); go_simp; try with_reducible rfl
    (try simp only [List.getElem_toArray, List.getElem_cons_succ, List.getElem_cons_zero, Act.put, List.setIfInBounds_toArray, List.set_cons_zero, List.set_cons_succ, bne_self_eq_false, beq_self_eq_true])
    refine wpAnyH_take (i := 33) (v := ?v126) rfl (by kernel_rfl) (by kernel_rfl) (by kernel_rfl) (fun _ _ _ h => h) (Or.inl ⟨by rfl, ?hy126⟩) (by assumption) ?rest126
    case hy126 => intro w hSw; (try dsimp only at hSw); go_simp; try with_reducible rfl
    (try simp only [List.getElem_toArray, List.getElem_cons_succ, List.getElem_cons_zero, Act.put, List.setIfInBounds_toArray, List.set_cons_zero, List.set_cons_succ, bne_self_eq_false, beq_self_eq_true])
    refine wpAnyH_done (by kernel_rfl) ?_ _
    go_wp2_with fail
    exact HQ.out _ _ _ _ _ _ _ _ _ _ _ _ _ _ _ _ _ _ _ _ _ _ _ _ _ _ _ _ _ _ _ _ _ _ HBW.out

end Go.Proofs.YtgegaipkfpdocaaDoor
