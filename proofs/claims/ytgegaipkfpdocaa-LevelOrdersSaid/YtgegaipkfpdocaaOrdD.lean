/-
  LevelOrders: its region 17. Printed by gen_ord.py.
-/
import Derived.Test.YtgegaipkfpdocaaOrdE
namespace Go.Proofs.Ytgegaipkfpdocaa
open Go.RowKit Go.Maps
set_option linter.unusedSimpArgs false
set_option linter.unusedVariables false
set_option maxRecDepth 100000

set_option maxHeartbeats 64000000 in
theorem ord17 (w : World) (N : Nat) (a b c : Lv) (bs : List Lv) (A1 A2 A3 A4 : Option Addr) (n1 c1 n2 c2 n3 c3 nl c4 : Nat) (wc : World) (u0 u1 u2 u7 u8 u9 u11 u15 u16 u17 u18 u19 u20 u21 u22 u23 u24 u25 u26 u27 u28 u29 u30 u31 u32 u33 u34 u35 u36 u37 u38 u39 u40 u41 u42 u43 u44 u45 u46 u47 u48 u49 u50 u51 u52 u53 u54 u55 u56 u57 u58 u59 u60 u61 u62 u63 u64 u65 u66 u67 u68 u69 u70 u71 u72 u73 u74 u75 u76 u77 u78 u79 u80 u81 u82 u83 u84 u85 u86 u87 u88 u89 u90 u91 u92 u93 u94 u95 u96 u97 u98 u99 u100 u101 u102 u103 u104 u105 u106 u107 u108 u109 u110 u111 u112 u113 u114 u115 u116 u117 u118 u119 u120 u121 u122 u123 u124 u125 u126 u127 u128 u129 u130 u131 u132 u133 u134 u135 u136 u137 u138 u139 u140 u141 u142 u143 u144 u145 u146 u147 u148 u149 u150 u151 u152 u153 u154 u155 u156 u157 u158 u159 u160 u161 u162 u163 u164 u165 u166 u167 u168 u169 u170 u171 u172 u173 u174 u175 u176 u177 u178 u179 u180 u181 u182 u183 : Value) (HMA : Hid (SmP a)) (HMB : Hid (SmP b)) (m : Nat) (Am : Option Addr) (nm cm : Nat) (HM : Hid (LvIn wc m (nfP (a ++ b)) (.slice Am nm cm))) (p q : Nat) (Ap Aq : Option Addr) (np cp nq cq : Nat) (HP : Hid (LvIn wc p (putLv a bs) (.slice Ap np cp))) (HQQ : Hid (LvIn wc q (putLv b bs) (.slice Aq nq cq))) (HMS : Hid (∀ l ∈ bs, SmP l))
    (HN : Hid (w.heap.size = N)) (HS : Hid (OSt w N a b c bs (.slice A1 n1 c1) (.slice A2 n2 c2) (.slice A3 n3 c3) (.slice A4 nl c4) wc)) (code : Code) (hcode : Try.f4.body.bind (codeAtO 17) = some code) (K : Act → World → Prop)
    (hQ : ∀ v154 v155 v156 v157 v158 v159 v160 v161 v162 v163 v164 v165 v166 v167 v168 v169 v170 v171 v172 v173 v174 v175 v176 v177 v178 v179 v180 v181 v182 v183 w', Below wc.heap.size wc w' → K { tmps := List.toArray [u0, u1, u2, .slice A4 nl c4, .pointer (some ⟨N, 0, none⟩), .pointer (some ⟨N + 1, 0, none⟩), .pointer (some ⟨N + 2, 0, none⟩), u7, .bool true, u9, .bool (leqL a b), u11, .pointer (some ⟨m, 0, none⟩), .pointer (some ⟨p, 0, none⟩), .pointer (some ⟨q, 0, none⟩), u15, u16, u17, u18, u19, u20, u21, u22, u23, u24, u25, u26, u27, u28, u29, u30, u31, u32, u33, u34, u35, u36, u37, u38, u39, u40, u41, u42, u43, u44, u45, u46, u47, u48, u49, u50, u51, u52, u53, u54, u55, u56, u57, u58, u59, u60, u61, u62, u63, u64, u65, u66, u67, u68, u69, u70, u71, u72, u73, u74, u75, u76, u77, u78, u79, u80, u81, u82, u83, u84, u85, u86, u87, u88, u89, u90, u91, u92, u93, u94, u95, u96, u97, u98, u99, u100, u101, u102, u103, u104, u105, u106, u107, u108, u109, u110, u111, u112, u113, u114, u115, u116, u117, u118, u119, u120, u121, u122, u123, u124, u125, u126, u127, u128, u129, u130, u131, u132, u133, u134, u135, u136, u137, u138, u139, u140, u141, u142, u143, u144, u145, u146, u147, u148, u149, u150, u151, u152, u153, v154, v155, v156, v157, v158, v159, v160, v161, v162, v163, v164, v165, v166, v167, v168, v169, v170, v171, v172, v173, v174, v175, v176, v177, v178, v179, v180, v181, v182, v183], defers := [] } w') :
    code.wp Try.prog (Exit.then K fun _ _ _ => False) { tmps := List.toArray [u0, u1, u2, .slice A4 nl c4, .pointer (some ⟨N, 0, none⟩), .pointer (some ⟨N + 1, 0, none⟩), .pointer (some ⟨N + 2, 0, none⟩), u7, u8, u9, .bool (leqL a b), u11, .pointer (some ⟨m, 0, none⟩), .pointer (some ⟨p, 0, none⟩), .pointer (some ⟨q, 0, none⟩), u15, u16, u17, u18, u19, u20, u21, u22, u23, u24, u25, u26, u27, u28, u29, u30, u31, u32, u33, u34, u35, u36, u37, u38, u39, u40, u41, u42, u43, u44, u45, u46, u47, u48, u49, u50, u51, u52, u53, u54, u55, u56, u57, u58, u59, u60, u61, u62, u63, u64, u65, u66, u67, u68, u69, u70, u71, u72, u73, u74, u75, u76, u77, u78, u79, u80, u81, u82, u83, u84, u85, u86, u87, u88, u89, u90, u91, u92, u93, u94, u95, u96, u97, u98, u99, u100, u101, u102, u103, u104, u105, u106, u107, u108, u109, u110, u111, u112, u113, u114, u115, u116, u117, u118, u119, u120, u121, u122, u123, u124, u125, u126, u127, u128, u129, u130, u131, u132, u133, u134, u135, u136, u137, u138, u139, u140, u141, u142, u143, u144, u145, u146, u147, u148, u149, u150, u151, u152, u153, u154, u155, u156, u157, u158, u159, u160, u161, u162, u163, u164, u165, u166, u167, u168, u169, u170, u171, u172, u173, u174, u175, u176, u177, u178, u179, u180, u181, u182, u183], defers := [] } wc := by
  simp only [Try.f4, codeAtO, Option.bind_some, Nat.reduceEqDiff, if_true, if_false, Option.some.injEq] at hcode
  subst hcode
  have HQ := Lib.hid hQ
  clear hQ
  have HS0 : Hid (∀ W', Below wc.heap.size wc W' → W'.cell? ⟨N, 0, none⟩ = some (.slice A1 n1 c1) ∧ W'.cell? ⟨N + 1, 0, none⟩ = some (.slice A2 n2 c2) ∧ W'.cell? ⟨m, 0, none⟩ = some (.slice Am nm cm) ∧ W'.cell? ⟨p, 0, none⟩ = some (.slice Ap np cp) ∧ W'.cell? ⟨q, 0, none⟩ = some (.slice Aq nq cq)) := Lib.hid fun W' h => ⟨(HS.out.below HN.out h).q0, (HS.out.below HN.out h).q1, (HM.out.below h).q, (HP.out.below h).q, (HQQ.out.below h).q⟩
  have HBW : Hid (Below wc.heap.size wc wc.drew) := Lib.hid (below_drewO wc)
  have FA := Lib.hid (HS.out.A.below HBW.out)
  have FB := Lib.hid (HS.out.B.below HBW.out)
  have FM := Lib.hid (HM.out.P.below HBW.out)
  have FP := Lib.hid (HP.out.P.below HBW.out)
  have FQ := Lib.hid (HQQ.out.P.below HBW.out)
  have FY := Lib.hid (HS.out.Y.below HBW.out)
  have HPT : Hid (leqL a b = true → leqL (putLv a bs) (putLv b bs) = true) := Lib.hid fun h => ord_put HMA.out HMB.out HMS.out h
  have CSM : Hid (∀ W v1 v2, RPv W (putLv (nfP (a ++ b)) bs) v1 → RPv W (nfP [putLv a bs, putLv b bs].flatten) v2 → Calls Try.prog 10 #[.agg #[v1], .agg #[v2]] W (fun e w' => e = .returned (.bool true) ∧ Below W.heap.size W w')) := Lib.hid fun W v1 v2 h1 h2 => by have h := lsame_any _ _ _ _ W h1 h2; rwa [show [putLv a bs, putLv b bs].flatten = putLv a bs ++ putLv b bs by simp, decide_eq_true (ord_put_max HMA.out HMB.out HMS.out)] at h
  have CVM : Hid (∀ W v, RPv W (nfP (a ++ b)) (.slice Am nm cm) → RIv W [3, 5] v → Calls Try.prog 9 #[.agg #[(.slice Am nm cm)], v] W (fun e w' => e = .returned (.int .i64 (max (valL a [3, 5]) (valL b [3, 5]))) ∧ Below W.heap.size W w')) := Lib.hid fun W v h1 h2 => by have h := value_any (nfP (a ++ b)) [3, 5] _ _ W h1 h2; rwa [val_max HMA.out HMB.out] at h
  have CVA : Hid (∀ W v, RPv W a (.slice A1 n1 c1) → RIv W [3, 5] v → Calls Try.prog 9 #[.agg #[(.slice A1 n1 c1)], v] W (fun e w' => e = .returned (.int .i64 (valL a [3, 5])) ∧ Below W.heap.size W w')) := Lib.hid fun W v h1 h2 => by have h := value_any a [3, 5] _ _ W h1 h2; exact h
  have CVB : Hid (∀ W v, RPv W b (.slice A2 n2 c2) → RIv W [3, 5] v → Calls Try.prog 9 #[.agg #[(.slice A2 n2 c2)], v] W (fun e w' => e = .returned (.int .i64 (valL b [3, 5])) ∧ Below W.heap.size W w')) := Lib.hid fun W v h1 h2 => by have h := value_any b [3, 5] _ _ W h1 h2; exact h
  generalize hup : leqL a b = up at *
  generalize valL a [3, 5] = x at *
  generalize valL b [3, 5] = y at *
  cases up
  case false =>
    clear HPT hup
    refine wp_region_held_drew (S := fun w' => w'.cell? ⟨N, 0, none⟩ = some (.slice A1 n1 c1) ∧ w'.cell? ⟨N + 1, 0, none⟩ = some (.slice A2 n2 c2) ∧ w'.cell? ⟨m, 0, none⟩ = some (.slice Am nm cm) ∧ w'.cell? ⟨p, 0, none⟩ = some (.slice Ap np cp) ∧ w'.cell? ⟨q, 0, none⟩ = some (.slice Aq nq cq)) (by kernel_rfl) (HS0.out _ HBW.out) (fun hHeld => ?_)
    generalize hwd : wc.drew = wd at *
    clear hwd
    refine wpAnyH_take (i := 0) (v := ?v131) rfl (by kernel_rfl) (by kernel_rfl) (by kernel_rfl) (fun _ _ _ h => h) (Or.inl ⟨by rfl, ?hy131⟩) (by assumption) ?rest131
    case hy131 => intro w hSw; (try dsimp only at hSw); go_simp; try with_reducible rfl
    (try simp only [List.getElem_toArray, List.getElem_cons_succ, List.getElem_cons_zero, Act.put, List.setIfInBounds_toArray, List.set_cons_zero, List.set_cons_succ, bne_self_eq_false])
    refine wpAnyH_take (i := 1) (v := ?v132) rfl (by kernel_rfl) (by kernel_rfl) (by kernel_rfl) (fun _ _ _ h => h) (Or.inl ⟨by rfl, ?hy132⟩) (by assumption) ?rest132
    case hy132 => intro w hSw; (try dsimp only at hSw); go_simp; try with_reducible rfl
    (try simp only [List.getElem_toArray, List.getElem_cons_succ, List.getElem_cons_zero, Act.put, List.setIfInBounds_toArray, List.set_cons_zero, List.set_cons_succ, bne_self_eq_false])
    refine wpAnyH_take (i := 2) (v := ?v133) rfl (by kernel_rfl) (by kernel_rfl) (by kernel_rfl) (fun _ _ _ h => h) (Or.inl ⟨by rfl, ?hy133⟩) (by assumption) ?rest133
    case hy133 => intro w hSw; (try dsimp only at hSw); go_simp; try with_reducible rfl
    (try simp only [List.getElem_toArray, List.getElem_cons_succ, List.getElem_cons_zero, Act.put, List.setIfInBounds_toArray, List.set_cons_zero, List.set_cons_succ, bne_self_eq_false])
    refine wpAnyH_take (i := 3) (v := undef) rfl (by kernel_rfl) (by kernel_rfl) (by kernel_rfl) (fun _ _ _ h => h) (Or.inr ⟨by rfl, rfl⟩) (by assumption) ?_
    (try simp only [List.getElem_toArray, List.getElem_cons_succ, List.getElem_cons_zero, Act.put, List.setIfInBounds_toArray, List.set_cons_zero, List.set_cons_succ, bne_self_eq_false])
    refine wpAnyH_take (i := 4) (v := undef) rfl (by kernel_rfl) (by kernel_rfl) (by kernel_rfl) (fun _ _ _ h => h) (Or.inr ⟨by rfl, rfl⟩) (by assumption) ?_
    (try simp only [List.getElem_toArray, List.getElem_cons_succ, List.getElem_cons_zero, Act.put, List.setIfInBounds_toArray, List.set_cons_zero, List.set_cons_succ, bne_self_eq_false])
    refine wpAnyH_take (i := 5) (v := undef) rfl (by kernel_rfl) (by kernel_rfl) (by kernel_rfl) (fun _ _ _ h => h) (Or.inr ⟨by rfl, rfl⟩) (by assumption) ?_
    (try simp only [List.getElem_toArray, List.getElem_cons_succ, List.getElem_cons_zero, Act.put, List.setIfInBounds_toArray, List.set_cons_zero, List.set_cons_succ, bne_self_eq_false])
    refine wpAnyH_take (i := 6) (v := ?v134) rfl (by kernel_rfl) (by kernel_rfl) (by kernel_rfl) (fun _ _ _ h => h) (Or.inl ⟨by rfl, ?hy134⟩) (by assumption) ?rest134
    case hy134 => intro w hSw; (try dsimp only at hSw); go_simp; try with_reducible rfl
    (try simp only [List.getElem_toArray, List.getElem_cons_succ, List.getElem_cons_zero, Act.put, List.setIfInBounds_toArray, List.set_cons_zero, List.set_cons_succ, bne_self_eq_false])
    refine wpAnyH_take (i := 7) (v := ?v135) rfl (by kernel_rfl) (by kernel_rfl) (by kernel_rfl) (fun _ _ _ h => h) (Or.inl ⟨by rfl, ?hy135⟩) (by assumption) ?rest135
    case hy135 => intro w hSw; (try dsimp only at hSw); go_simp; try with_reducible rfl
    (try simp only [List.getElem_toArray, List.getElem_cons_succ, List.getElem_cons_zero, Act.put, List.setIfInBounds_toArray, List.set_cons_zero, List.set_cons_succ, bne_self_eq_false])
    refine wpAnyH_take (i := 8) (v := ?v136) rfl (by kernel_rfl) (by kernel_rfl) (by kernel_rfl) (fun _ _ _ h => h) (Or.inl ⟨by rfl, ?hy136⟩) (by assumption) ?rest136
    case hy136 => intro w hSw; (try dsimp only at hSw); go_simp; try with_reducible rfl
    (try simp only [List.getElem_toArray, List.getElem_cons_succ, List.getElem_cons_zero, Act.put, List.setIfInBounds_toArray, List.set_cons_zero, List.set_cons_succ, bne_self_eq_false])
    refine wpAnyH_take (i := 9) (v := ?v137) rfl (by kernel_rfl) (by kernel_rfl) (by kernel_rfl) (fun _ _ _ h => h) (Or.inl ⟨by rfl, ?hy137⟩) (by assumption) ?rest137
    case hy137 => intro w hSw; (try dsimp only at hSw); go_simp; try with_reducible rfl
    (try simp only [List.getElem_toArray, List.getElem_cons_succ, List.getElem_cons_zero, Act.put, List.setIfInBounds_toArray, List.set_cons_zero, List.set_cons_succ, bne_self_eq_false])
    refine wpAnyH_take (i := 11) (v := ?v138) rfl (by kernel_rfl) (by kernel_rfl) (by kernel_rfl) (fun _ _ _ h => h) (Or.inl ⟨by rfl, ?hy138⟩) (by assumption) ?rest138
    case hy138 => intro w hSw; (try dsimp only at hSw); go_simp; try with_reducible rfl
    (try simp only [List.getElem_toArray, List.getElem_cons_succ, List.getElem_cons_zero, Act.put, List.setIfInBounds_toArray, List.set_cons_zero, List.set_cons_succ, bne_self_eq_false])
    refine wpAnyH_take (i := 12) (v := ?v139) rfl (by kernel_rfl) (by kernel_rfl) (by kernel_rfl) (fun _ _ _ h => h) (Or.inl ⟨by rfl, ?hy139⟩) (by assumption) ?rest139
    case hy139 => intro w hSw; (try dsimp only at hSw); go_simp; try with_reducible rfl
    (try simp only [List.getElem_toArray, List.getElem_cons_succ, List.getElem_cons_zero, Act.put, List.setIfInBounds_toArray, List.set_cons_zero, List.set_cons_succ, bne_self_eq_false])
    refine wpAnyH_ready (rs := [10, 13]) (by kernel_rfl) (by simp) ?_
    refine (AllReadyH.cons rfl (fun K hK => ?_) (AllReadyH.cons rfl (fun K hK => ?_) AllReadyH.nil))
    · skip
      go_simp
      refine (lput_any (nfP (a ++ b)) bs _ _ _ FM.out FY.out).mono ?_
      rintro e w140 ⟨v140, bs140, rfl, ho, hst⟩
      replace FA := Lib.hid (FA.out.below hst)
      replace FB := Lib.hid (FB.out.below hst)
      replace FM := Lib.hid (FM.out.below hst)
      replace FP := Lib.hid (FP.out.below hst)
      replace FQ := Lib.hid (FQ.out.below hst)
      replace FY := Lib.hid (FY.out.below hst)
      replace HBW := Lib.hid (below_chV HBW.out hst)
      obtain ⟨A140x, n140x, c140x, rfl⟩ := ho.reads.form
      have X1 := Lib.hid ho.reads
      clear ho hst
      refine hK.out _ _ (HS0.out _ HBW.out) (fun hHeld => ?_)
      clear hK K
      (try simp only [List.getElem_toArray, List.getElem_cons_succ, List.getElem_cons_zero, Act.put, List.setIfInBounds_toArray, List.set_cons_zero, List.set_cons_succ, bne_self_eq_false])
      refine wpAnyH_ready (rs := [13]) (by kernel_rfl) (by simp) ?_
      refine (AllReadyH.cons rfl (fun K hK => ?_) AllReadyH.nil)
      go_simp
      have L13 := Lib.hid (levels_two w140 FP.out FQ.out 24)
      replace FA := Lib.hid (FA.out.below ((Below.refl _ _).alloc (Nat.le_refl _) (.cells #[(.slice Ap np cp), (.slice Aq nq cq)] 24)))
      replace FB := Lib.hid (FB.out.below ((Below.refl _ _).alloc (Nat.le_refl _) (.cells #[(.slice Ap np cp), (.slice Aq nq cq)] 24)))
      replace FM := Lib.hid (FM.out.below ((Below.refl _ _).alloc (Nat.le_refl _) (.cells #[(.slice Ap np cp), (.slice Aq nq cq)] 24)))
      replace FP := Lib.hid (FP.out.below ((Below.refl _ _).alloc (Nat.le_refl _) (.cells #[(.slice Ap np cp), (.slice Aq nq cq)] 24)))
      replace FQ := Lib.hid (FQ.out.below ((Below.refl _ _).alloc (Nat.le_refl _) (.cells #[(.slice Ap np cp), (.slice Aq nq cq)] 24)))
      replace FY := Lib.hid (FY.out.below ((Below.refl _ _).alloc (Nat.le_refl _) (.cells #[(.slice Ap np cp), (.slice Aq nq cq)] 24)))
      replace X1 := Lib.hid (X1.out.below ((Below.refl _ _).alloc (Nat.le_refl _) (.cells #[(.slice Ap np cp), (.slice Aq nq cq)] 24)))
      replace HBW := Lib.hid (HBW.out.alloc HBW.out.size (.cells #[(.slice Ap np cp), (.slice Aq nq cq)] 24))
      refine hK.out _ _ (HS0.out _ HBW.out) (fun hHeld => ?_)
      clear hK K
      (try simp only [List.getElem_toArray, List.getElem_cons_succ, List.getElem_cons_zero, Act.put, List.setIfInBounds_toArray, List.set_cons_zero, List.set_cons_succ, bne_self_eq_false])
      generalize hwn141 : (w140.alloc (.cells #[(.slice Ap np cp), (.slice Aq nq cq)] 24)) = w141 at *
      clear hwn141
      refine wpAnyH_ready (rs := [14]) (by kernel_rfl) (by simp) ?_
      refine (AllReadyH.cons rfl (fun K hK => ?_) AllReadyH.nil)
      go_simp
      refine (lmax_any _ _ _ L13.out).mono ?_
      rintro e w142 ⟨v142, bs142, rfl, ho, hst⟩
      replace FA := Lib.hid (FA.out.below hst)
      replace FB := Lib.hid (FB.out.below hst)
      replace FM := Lib.hid (FM.out.below hst)
      replace FP := Lib.hid (FP.out.below hst)
      replace FQ := Lib.hid (FQ.out.below hst)
      replace FY := Lib.hid (FY.out.below hst)
      replace X1 := Lib.hid (X1.out.below hst)
      replace L13 := Lib.hid (L13.out.below hst)
      replace HBW := Lib.hid (below_chV HBW.out hst)
      obtain ⟨A142x, n142x, c142x, rfl⟩ := ho.reads.form
      have X2 := Lib.hid ho.reads
      clear ho hst
      refine hK.out _ _ (HS0.out _ HBW.out) (fun hHeld => ?_)
      clear hK K
      (try simp only [List.getElem_toArray, List.getElem_cons_succ, List.getElem_cons_zero, Act.put, List.setIfInBounds_toArray, List.set_cons_zero, List.set_cons_succ, bne_self_eq_false])
      refine wpAnyH_ready (rs := [15]) (by kernel_rfl) (by simp) ?_
      refine (AllReadyH.cons rfl (fun K hK => ?_) AllReadyH.nil)
      go_simp
      refine (CSM.out _ _ _ X1.out X2.out).mono ?_
      rintro e w143 ⟨rfl, hst⟩
      replace FA := Lib.hid (FA.out.below hst)
      replace FB := Lib.hid (FB.out.below hst)
      replace FM := Lib.hid (FM.out.below hst)
      replace FP := Lib.hid (FP.out.below hst)
      replace FQ := Lib.hid (FQ.out.below hst)
      replace FY := Lib.hid (FY.out.below hst)
      replace X1 := Lib.hid (X1.out.below hst)
      replace L13 := Lib.hid (L13.out.below hst)
      replace X2 := Lib.hid (X2.out.below hst)
      replace HBW := Lib.hid (below_chV HBW.out hst)
      clear hst
      refine hK.out _ _ (HS0.out _ HBW.out) (fun hHeld => ?_)
      clear hK K
      (try simp only [List.getElem_toArray, List.getElem_cons_succ, List.getElem_cons_zero, Act.put, List.setIfInBounds_toArray, List.set_cons_zero, List.set_cons_succ, bne_self_eq_false])
      refine wpAnyH_take (i := 16) (v := ?v144) rfl (by kernel_rfl) (by kernel_rfl) (by kernel_rfl) (fun _ _ _ h => h) (Or.inl ⟨by rfl, ?hy144⟩) (by assumption) ?rest144
      case hy144 => intro w hSw; (try dsimp only at hSw); go_simp; try with_reducible rfl
      (try simp only [List.getElem_toArray, List.getElem_cons_succ, List.getElem_cons_zero, Act.put, List.setIfInBounds_toArray, List.set_cons_zero, List.set_cons_succ, bne_self_eq_false])
      refine wpAnyH_take (i := 17) (v := ?v145) rfl (by kernel_rfl) (by kernel_rfl) (by kernel_rfl) (fun _ _ _ h => h) (Or.inl ⟨by rfl, ?hy145⟩) (by assumption) ?rest145
      case hy145 => intro w hSw; (try dsimp only at hSw); go_simp; try with_reducible rfl
      (try simp only [List.getElem_toArray, List.getElem_cons_succ, List.getElem_cons_zero, Act.put, List.setIfInBounds_toArray, List.set_cons_zero, List.set_cons_succ, bne_self_eq_false])
      exact ord17b N a b A1 A2 A4 n1 c1 n2 c2 nl c4 m p q Am Ap Aq nm cm np cp nq cq x y wc _ _ _ _ _ _ _ _ _ _ _ _ _ _ _ _ _ _ _ _ _ _ _ _ _ _ _ _ _ _ _ _ _ _ _ _ _ _ _ _ _ _ _ _ _ _ _ _ _ _ _ _ _ _ _ _ _ _ _ _ _ _ _ _ _ _ _ _ _ _ _ _ _ _ _ _ _ _ _ _ _ _ _ _ _ _ _ _ _ _ _ _ _ _ _ _ _ _ _ _ _ _ _ _ _ _ _ _ _ _ _ _ _ _ _ _ _ _ _ _ _ _ _ _ _ _ _ _ _ _ _ _ _ _ _ _ _ _ _ _ _ _ _ _ _ _ _ _ _ _ _ _ _ _ _ _ _ _ _ _ _ _ _ _ _ _ _ _ _ _ _ _ _ _ _ _ _ HS0 HBW FA FB FM CVM CVA CVB _ (by kernel_rfl) _ (by kernel_rfl) _ (Lib.hid fun v172 v173 v174 v175 v176 v177 v178 v179 v180 v181 v182 v183 w' h => HQ.out _ _ _ _ _ _ _ _ _ _ _ _ _ _ _ _ _ _ v172 v173 v174 v175 v176 v177 v178 v179 v180 v181 v182 v183 w' h)
    · skip
      go_simp
      have L13 := Lib.hid (levels_two wd FP.out FQ.out 24)
      replace FA := Lib.hid (FA.out.below ((Below.refl _ _).alloc (Nat.le_refl _) (.cells #[(.slice Ap np cp), (.slice Aq nq cq)] 24)))
      replace FB := Lib.hid (FB.out.below ((Below.refl _ _).alloc (Nat.le_refl _) (.cells #[(.slice Ap np cp), (.slice Aq nq cq)] 24)))
      replace FM := Lib.hid (FM.out.below ((Below.refl _ _).alloc (Nat.le_refl _) (.cells #[(.slice Ap np cp), (.slice Aq nq cq)] 24)))
      replace FP := Lib.hid (FP.out.below ((Below.refl _ _).alloc (Nat.le_refl _) (.cells #[(.slice Ap np cp), (.slice Aq nq cq)] 24)))
      replace FQ := Lib.hid (FQ.out.below ((Below.refl _ _).alloc (Nat.le_refl _) (.cells #[(.slice Ap np cp), (.slice Aq nq cq)] 24)))
      replace FY := Lib.hid (FY.out.below ((Below.refl _ _).alloc (Nat.le_refl _) (.cells #[(.slice Ap np cp), (.slice Aq nq cq)] 24)))
      replace HBW := Lib.hid (HBW.out.alloc HBW.out.size (.cells #[(.slice Ap np cp), (.slice Aq nq cq)] 24))
      refine hK.out _ _ (HS0.out _ HBW.out) (fun hHeld => ?_)
      clear hK K
      (try simp only [List.getElem_toArray, List.getElem_cons_succ, List.getElem_cons_zero, Act.put, List.setIfInBounds_toArray, List.set_cons_zero, List.set_cons_succ, bne_self_eq_false])
      generalize hwn146 : (wd.alloc (.cells #[(.slice Ap np cp), (.slice Aq nq cq)] 24)) = w146 at *
      clear hwn146
      refine wpAnyH_ready (rs := [10]) (by kernel_rfl) (by simp) ?_
      refine (AllReadyH.cons rfl (fun K hK => ?_) AllReadyH.nil)
      go_simp
      refine (lput_any (nfP (a ++ b)) bs _ _ _ FM.out FY.out).mono ?_
      rintro e w147 ⟨v147, bs147, rfl, ho, hst⟩
      replace FA := Lib.hid (FA.out.below hst)
      replace FB := Lib.hid (FB.out.below hst)
      replace FM := Lib.hid (FM.out.below hst)
      replace FP := Lib.hid (FP.out.below hst)
      replace FQ := Lib.hid (FQ.out.below hst)
      replace FY := Lib.hid (FY.out.below hst)
      replace L13 := Lib.hid (L13.out.below hst)
      replace HBW := Lib.hid (below_chV HBW.out hst)
      obtain ⟨A147x, n147x, c147x, rfl⟩ := ho.reads.form
      have X1 := Lib.hid ho.reads
      clear ho hst
      refine hK.out _ _ (HS0.out _ HBW.out) (fun hHeld => ?_)
      clear hK K
      (try simp only [List.getElem_toArray, List.getElem_cons_succ, List.getElem_cons_zero, Act.put, List.setIfInBounds_toArray, List.set_cons_zero, List.set_cons_succ, bne_self_eq_false])
      refine wpAnyH_ready (rs := [14]) (by kernel_rfl) (by simp) ?_
      refine (AllReadyH.cons rfl (fun K hK => ?_) AllReadyH.nil)
      go_simp
      refine (lmax_any _ _ _ L13.out).mono ?_
      rintro e w148 ⟨v148, bs148, rfl, ho, hst⟩
      replace FA := Lib.hid (FA.out.below hst)
      replace FB := Lib.hid (FB.out.below hst)
      replace FM := Lib.hid (FM.out.below hst)
      replace FP := Lib.hid (FP.out.below hst)
      replace FQ := Lib.hid (FQ.out.below hst)
      replace FY := Lib.hid (FY.out.below hst)
      replace L13 := Lib.hid (L13.out.below hst)
      replace X1 := Lib.hid (X1.out.below hst)
      replace HBW := Lib.hid (below_chV HBW.out hst)
      obtain ⟨A148x, n148x, c148x, rfl⟩ := ho.reads.form
      have X2 := Lib.hid ho.reads
      clear ho hst
      refine hK.out _ _ (HS0.out _ HBW.out) (fun hHeld => ?_)
      clear hK K
      (try simp only [List.getElem_toArray, List.getElem_cons_succ, List.getElem_cons_zero, Act.put, List.setIfInBounds_toArray, List.set_cons_zero, List.set_cons_succ, bne_self_eq_false])
      refine wpAnyH_ready (rs := [15]) (by kernel_rfl) (by simp) ?_
      refine (AllReadyH.cons rfl (fun K hK => ?_) AllReadyH.nil)
      go_simp
      refine (CSM.out _ _ _ X1.out X2.out).mono ?_
      rintro e w149 ⟨rfl, hst⟩
      replace FA := Lib.hid (FA.out.below hst)
      replace FB := Lib.hid (FB.out.below hst)
      replace FM := Lib.hid (FM.out.below hst)
      replace FP := Lib.hid (FP.out.below hst)
      replace FQ := Lib.hid (FQ.out.below hst)
      replace FY := Lib.hid (FY.out.below hst)
      replace L13 := Lib.hid (L13.out.below hst)
      replace X1 := Lib.hid (X1.out.below hst)
      replace X2 := Lib.hid (X2.out.below hst)
      replace HBW := Lib.hid (below_chV HBW.out hst)
      clear hst
      refine hK.out _ _ (HS0.out _ HBW.out) (fun hHeld => ?_)
      clear hK K
      (try simp only [List.getElem_toArray, List.getElem_cons_succ, List.getElem_cons_zero, Act.put, List.setIfInBounds_toArray, List.set_cons_zero, List.set_cons_succ, bne_self_eq_false])
      refine wpAnyH_take (i := 16) (v := ?v150) rfl (by kernel_rfl) (by kernel_rfl) (by kernel_rfl) (fun _ _ _ h => h) (Or.inl ⟨by rfl, ?hy150⟩) (by assumption) ?rest150
      case hy150 => intro w hSw; (try dsimp only at hSw); go_simp; try with_reducible rfl
      (try simp only [List.getElem_toArray, List.getElem_cons_succ, List.getElem_cons_zero, Act.put, List.setIfInBounds_toArray, List.set_cons_zero, List.set_cons_succ, bne_self_eq_false])
      refine wpAnyH_take (i := 17) (v := ?v151) rfl (by kernel_rfl) (by kernel_rfl) (by kernel_rfl) (fun _ _ _ h => h) (Or.inl ⟨by rfl, ?hy151⟩) (by assumption) ?rest151
      case hy151 => intro w hSw; (try dsimp only at hSw); go_simp; try with_reducible rfl
      (try simp only [List.getElem_toArray, List.getElem_cons_succ, List.getElem_cons_zero, Act.put, List.setIfInBounds_toArray, List.set_cons_zero, List.set_cons_succ, bne_self_eq_false])
      exact ord17b N a b A1 A2 A4 n1 c1 n2 c2 nl c4 m p q Am Ap Aq nm cm np cp nq cq x y wc _ _ _ _ _ _ _ _ _ _ _ _ _ _ _ _ _ _ _ _ _ _ _ _ _ _ _ _ _ _ _ _ _ _ _ _ _ _ _ _ _ _ _ _ _ _ _ _ _ _ _ _ _ _ _ _ _ _ _ _ _ _ _ _ _ _ _ _ _ _ _ _ _ _ _ _ _ _ _ _ _ _ _ _ _ _ _ _ _ _ _ _ _ _ _ _ _ _ _ _ _ _ _ _ _ _ _ _ _ _ _ _ _ _ _ _ _ _ _ _ _ _ _ _ _ _ _ _ _ _ _ _ _ _ _ _ _ _ _ _ _ _ _ _ _ _ _ _ _ _ _ _ _ _ _ _ _ _ _ _ _ _ _ _ _ _ _ _ _ _ _ _ _ _ _ _ _ HS0 HBW FA FB FM CVM CVA CVB _ (by kernel_rfl) _ (by kernel_rfl) _ (Lib.hid fun v172 v173 v174 v175 v176 v177 v178 v179 v180 v181 v182 v183 w' h => HQ.out _ _ _ _ _ _ _ _ _ _ _ _ _ _ _ _ _ _ v172 v173 v174 v175 v176 v177 v178 v179 v180 v181 v182 v183 w' h)
  case true =>
    have CPQ : Hid (∀ W, RPv W (putLv a bs) (.slice Ap np cp) → RPv W (putLv b bs) (.slice Aq nq cq) → Calls Try.prog 8 #[.agg #[(.slice Ap np cp)], .agg #[(.slice Aq nq cq)]] W (fun e w' => e = .returned (.bool true) ∧ Below W.heap.size W w')) := Lib.hid fun W h1 h2 => by have h := leq_any _ _ _ _ W h1 h2; rwa [HPT.out rfl] at h
    clear HPT hup
    refine wp_region_held_drew (S := fun w' => w'.cell? ⟨N, 0, none⟩ = some (.slice A1 n1 c1) ∧ w'.cell? ⟨N + 1, 0, none⟩ = some (.slice A2 n2 c2) ∧ w'.cell? ⟨m, 0, none⟩ = some (.slice Am nm cm) ∧ w'.cell? ⟨p, 0, none⟩ = some (.slice Ap np cp) ∧ w'.cell? ⟨q, 0, none⟩ = some (.slice Aq nq cq)) (by kernel_rfl) (HS0.out _ HBW.out) (fun hHeld => ?_)
    generalize hwd : wc.drew = wd at *
    clear hwd
    refine wpAnyH_take (i := 0) (v := ?v152) rfl (by kernel_rfl) (by kernel_rfl) (by kernel_rfl) (fun _ _ _ h => h) (Or.inl ⟨by rfl, ?hy152⟩) (by assumption) ?rest152
    case hy152 => intro w hSw; (try dsimp only at hSw); go_simp; try with_reducible rfl
    (try simp only [List.getElem_toArray, List.getElem_cons_succ, List.getElem_cons_zero, Act.put, List.setIfInBounds_toArray, List.set_cons_zero, List.set_cons_succ, bne_self_eq_false])
    refine wpAnyH_take (i := 1) (v := ?v153) rfl (by kernel_rfl) (by kernel_rfl) (by kernel_rfl) (fun _ _ _ h => h) (Or.inl ⟨by rfl, ?hy153⟩) (by assumption) ?rest153
    case hy153 => intro w hSw; (try dsimp only at hSw); go_simp; try with_reducible rfl
    (try simp only [List.getElem_toArray, List.getElem_cons_succ, List.getElem_cons_zero, Act.put, List.setIfInBounds_toArray, List.set_cons_zero, List.set_cons_succ, bne_self_eq_false])
    refine wpAnyH_take (i := 2) (v := ?v154) rfl (by kernel_rfl) (by kernel_rfl) (by kernel_rfl) (fun _ _ _ h => h) (Or.inl ⟨by rfl, ?hy154⟩) (by assumption) ?rest154
    case hy154 => intro w hSw; (try dsimp only at hSw); go_simp; try with_reducible rfl
    (try simp only [List.getElem_toArray, List.getElem_cons_succ, List.getElem_cons_zero, Act.put, List.setIfInBounds_toArray, List.set_cons_zero, List.set_cons_succ, bne_self_eq_false])
    refine wpAnyH_take (i := 3) (v := ?v155) rfl (by kernel_rfl) (by kernel_rfl) (by kernel_rfl) (fun _ _ _ h => h) (Or.inl ⟨by rfl, ?hy155⟩) (by assumption) ?rest155
    case hy155 => intro w hSw; (try dsimp only at hSw); go_simp; try with_reducible rfl
    (try simp only [List.getElem_toArray, List.getElem_cons_succ, List.getElem_cons_zero, Act.put, List.setIfInBounds_toArray, List.set_cons_zero, List.set_cons_succ, bne_self_eq_false])
    refine wpAnyH_take (i := 4) (v := ?v156) rfl (by kernel_rfl) (by kernel_rfl) (by kernel_rfl) (fun _ _ _ h => h) (Or.inl ⟨by rfl, ?hy156⟩) (by assumption) ?rest156
    case hy156 => intro w hSw; (try dsimp only at hSw); go_simp; try with_reducible rfl
    (try simp only [List.getElem_toArray, List.getElem_cons_succ, List.getElem_cons_zero, Act.put, List.setIfInBounds_toArray, List.set_cons_zero, List.set_cons_succ, bne_self_eq_false])
    refine wpAnyH_ready (rs := [5]) (by kernel_rfl) (by simp) ?_
    refine (AllReadyH.cons rfl (fun K hK => ?_) AllReadyH.nil)
    go_simp
    refine (CPQ.out _ FP.out FQ.out).mono ?_
    rintro e w157 ⟨rfl, hst⟩
    replace FA := Lib.hid (FA.out.below hst)
    replace FB := Lib.hid (FB.out.below hst)
    replace FM := Lib.hid (FM.out.below hst)
    replace FP := Lib.hid (FP.out.below hst)
    replace FQ := Lib.hid (FQ.out.below hst)
    replace FY := Lib.hid (FY.out.below hst)
    replace HBW := Lib.hid (below_chV HBW.out hst)
    clear hst
    refine hK.out _ _ (HS0.out _ HBW.out) (fun hHeld => ?_)
    clear hK K
    (try simp only [List.getElem_toArray, List.getElem_cons_succ, List.getElem_cons_zero, Act.put, List.setIfInBounds_toArray, List.set_cons_zero, List.set_cons_succ, bne_self_eq_false])
    refine wpAnyH_take (i := 6) (v := ?v158) rfl (by kernel_rfl) (by kernel_rfl) (by kernel_rfl) (fun _ _ _ h => h) (Or.inl ⟨by rfl, ?hy158⟩) (by assumption) ?rest158
    case hy158 => intro w hSw; (try dsimp only at hSw); go_simp; try with_reducible rfl
    (try simp only [List.getElem_toArray, List.getElem_cons_succ, List.getElem_cons_zero, Act.put, List.setIfInBounds_toArray, List.set_cons_zero, List.set_cons_succ, bne_self_eq_false])
    refine wpAnyH_take (i := 7) (v := ?v159) rfl (by kernel_rfl) (by kernel_rfl) (by kernel_rfl) (fun _ _ _ h => h) (Or.inl ⟨by rfl, ?hy159⟩) (by assumption) ?rest159
    case hy159 => intro w hSw; (try dsimp only at hSw); go_simp; try with_reducible rfl
    (try simp only [List.getElem_toArray, List.getElem_cons_succ, List.getElem_cons_zero, Act.put, List.setIfInBounds_toArray, List.set_cons_zero, List.set_cons_succ, bne_self_eq_false])
    refine wpAnyH_take (i := 8) (v := ?v160) rfl (by kernel_rfl) (by kernel_rfl) (by kernel_rfl) (fun _ _ _ h => h) (Or.inl ⟨by rfl, ?hy160⟩) (by assumption) ?rest160
    case hy160 => intro w hSw; (try dsimp only at hSw); go_simp; try with_reducible rfl
    (try simp only [List.getElem_toArray, List.getElem_cons_succ, List.getElem_cons_zero, Act.put, List.setIfInBounds_toArray, List.set_cons_zero, List.set_cons_succ, bne_self_eq_false])
    refine wpAnyH_take (i := 9) (v := ?v161) rfl (by kernel_rfl) (by kernel_rfl) (by kernel_rfl) (fun _ _ _ h => h) (Or.inl ⟨by rfl, ?hy161⟩) (by assumption) ?rest161
    case hy161 => intro w hSw; (try dsimp only at hSw); go_simp; try with_reducible rfl
    (try simp only [List.getElem_toArray, List.getElem_cons_succ, List.getElem_cons_zero, Act.put, List.setIfInBounds_toArray, List.set_cons_zero, List.set_cons_succ, bne_self_eq_false])
    refine wpAnyH_take (i := 11) (v := ?v162) rfl (by kernel_rfl) (by kernel_rfl) (by kernel_rfl) (fun _ _ _ h => h) (Or.inl ⟨by rfl, ?hy162⟩) (by assumption) ?rest162
    case hy162 => intro w hSw; (try dsimp only at hSw); go_simp; try with_reducible rfl
    (try simp only [List.getElem_toArray, List.getElem_cons_succ, List.getElem_cons_zero, Act.put, List.setIfInBounds_toArray, List.set_cons_zero, List.set_cons_succ, bne_self_eq_false])
    refine wpAnyH_take (i := 12) (v := ?v163) rfl (by kernel_rfl) (by kernel_rfl) (by kernel_rfl) (fun _ _ _ h => h) (Or.inl ⟨by rfl, ?hy163⟩) (by assumption) ?rest163
    case hy163 => intro w hSw; (try dsimp only at hSw); go_simp; try with_reducible rfl
    (try simp only [List.getElem_toArray, List.getElem_cons_succ, List.getElem_cons_zero, Act.put, List.setIfInBounds_toArray, List.set_cons_zero, List.set_cons_succ, bne_self_eq_false])
    refine wpAnyH_ready (rs := [10, 13]) (by kernel_rfl) (by simp) ?_
    refine (AllReadyH.cons rfl (fun K hK => ?_) (AllReadyH.cons rfl (fun K hK => ?_) AllReadyH.nil))
    · skip
      go_simp
      refine (lput_any (nfP (a ++ b)) bs _ _ _ FM.out FY.out).mono ?_
      rintro e w164 ⟨v164, bs164, rfl, ho, hst⟩
      replace FA := Lib.hid (FA.out.below hst)
      replace FB := Lib.hid (FB.out.below hst)
      replace FM := Lib.hid (FM.out.below hst)
      replace FP := Lib.hid (FP.out.below hst)
      replace FQ := Lib.hid (FQ.out.below hst)
      replace FY := Lib.hid (FY.out.below hst)
      replace HBW := Lib.hid (below_chV HBW.out hst)
      obtain ⟨A164x, n164x, c164x, rfl⟩ := ho.reads.form
      have X1 := Lib.hid ho.reads
      clear ho hst
      refine hK.out _ _ (HS0.out _ HBW.out) (fun hHeld => ?_)
      clear hK K
      (try simp only [List.getElem_toArray, List.getElem_cons_succ, List.getElem_cons_zero, Act.put, List.setIfInBounds_toArray, List.set_cons_zero, List.set_cons_succ, bne_self_eq_false])
      refine wpAnyH_ready (rs := [13]) (by kernel_rfl) (by simp) ?_
      refine (AllReadyH.cons rfl (fun K hK => ?_) AllReadyH.nil)
      go_simp
      have L13 := Lib.hid (levels_two w164 FP.out FQ.out 24)
      replace FA := Lib.hid (FA.out.below ((Below.refl _ _).alloc (Nat.le_refl _) (.cells #[(.slice Ap np cp), (.slice Aq nq cq)] 24)))
      replace FB := Lib.hid (FB.out.below ((Below.refl _ _).alloc (Nat.le_refl _) (.cells #[(.slice Ap np cp), (.slice Aq nq cq)] 24)))
      replace FM := Lib.hid (FM.out.below ((Below.refl _ _).alloc (Nat.le_refl _) (.cells #[(.slice Ap np cp), (.slice Aq nq cq)] 24)))
      replace FP := Lib.hid (FP.out.below ((Below.refl _ _).alloc (Nat.le_refl _) (.cells #[(.slice Ap np cp), (.slice Aq nq cq)] 24)))
      replace FQ := Lib.hid (FQ.out.below ((Below.refl _ _).alloc (Nat.le_refl _) (.cells #[(.slice Ap np cp), (.slice Aq nq cq)] 24)))
      replace FY := Lib.hid (FY.out.below ((Below.refl _ _).alloc (Nat.le_refl _) (.cells #[(.slice Ap np cp), (.slice Aq nq cq)] 24)))
      replace X1 := Lib.hid (X1.out.below ((Below.refl _ _).alloc (Nat.le_refl _) (.cells #[(.slice Ap np cp), (.slice Aq nq cq)] 24)))
      replace HBW := Lib.hid (HBW.out.alloc HBW.out.size (.cells #[(.slice Ap np cp), (.slice Aq nq cq)] 24))
      refine hK.out _ _ (HS0.out _ HBW.out) (fun hHeld => ?_)
      clear hK K
      (try simp only [List.getElem_toArray, List.getElem_cons_succ, List.getElem_cons_zero, Act.put, List.setIfInBounds_toArray, List.set_cons_zero, List.set_cons_succ, bne_self_eq_false])
      generalize hwn165 : (w164.alloc (.cells #[(.slice Ap np cp), (.slice Aq nq cq)] 24)) = w165 at *
      clear hwn165
      refine wpAnyH_ready (rs := [14]) (by kernel_rfl) (by simp) ?_
      refine (AllReadyH.cons rfl (fun K hK => ?_) AllReadyH.nil)
      go_simp
      refine (lmax_any _ _ _ L13.out).mono ?_
      rintro e w166 ⟨v166, bs166, rfl, ho, hst⟩
      replace FA := Lib.hid (FA.out.below hst)
      replace FB := Lib.hid (FB.out.below hst)
      replace FM := Lib.hid (FM.out.below hst)
      replace FP := Lib.hid (FP.out.below hst)
      replace FQ := Lib.hid (FQ.out.below hst)
      replace FY := Lib.hid (FY.out.below hst)
      replace X1 := Lib.hid (X1.out.below hst)
      replace L13 := Lib.hid (L13.out.below hst)
      replace HBW := Lib.hid (below_chV HBW.out hst)
      obtain ⟨A166x, n166x, c166x, rfl⟩ := ho.reads.form
      have X2 := Lib.hid ho.reads
      clear ho hst
      refine hK.out _ _ (HS0.out _ HBW.out) (fun hHeld => ?_)
      clear hK K
      (try simp only [List.getElem_toArray, List.getElem_cons_succ, List.getElem_cons_zero, Act.put, List.setIfInBounds_toArray, List.set_cons_zero, List.set_cons_succ, bne_self_eq_false])
      refine wpAnyH_ready (rs := [15]) (by kernel_rfl) (by simp) ?_
      refine (AllReadyH.cons rfl (fun K hK => ?_) AllReadyH.nil)
      go_simp
      refine (CSM.out _ _ _ X1.out X2.out).mono ?_
      rintro e w167 ⟨rfl, hst⟩
      replace FA := Lib.hid (FA.out.below hst)
      replace FB := Lib.hid (FB.out.below hst)
      replace FM := Lib.hid (FM.out.below hst)
      replace FP := Lib.hid (FP.out.below hst)
      replace FQ := Lib.hid (FQ.out.below hst)
      replace FY := Lib.hid (FY.out.below hst)
      replace X1 := Lib.hid (X1.out.below hst)
      replace L13 := Lib.hid (L13.out.below hst)
      replace X2 := Lib.hid (X2.out.below hst)
      replace HBW := Lib.hid (below_chV HBW.out hst)
      clear hst
      refine hK.out _ _ (HS0.out _ HBW.out) (fun hHeld => ?_)
      clear hK K
      (try simp only [List.getElem_toArray, List.getElem_cons_succ, List.getElem_cons_zero, Act.put, List.setIfInBounds_toArray, List.set_cons_zero, List.set_cons_succ, bne_self_eq_false])
      refine wpAnyH_take (i := 16) (v := ?v168) rfl (by kernel_rfl) (by kernel_rfl) (by kernel_rfl) (fun _ _ _ h => h) (Or.inl ⟨by rfl, ?hy168⟩) (by assumption) ?rest168
      case hy168 => intro w hSw; (try dsimp only at hSw); go_simp; try with_reducible rfl
      (try simp only [List.getElem_toArray, List.getElem_cons_succ, List.getElem_cons_zero, Act.put, List.setIfInBounds_toArray, List.set_cons_zero, List.set_cons_succ, bne_self_eq_false])
      refine wpAnyH_take (i := 17) (v := ?v169) rfl (by kernel_rfl) (by kernel_rfl) (by kernel_rfl) (fun _ _ _ h => h) (Or.inl ⟨by rfl, ?hy169⟩) (by assumption) ?rest169
      case hy169 => intro w hSw; (try dsimp only at hSw); go_simp; try with_reducible rfl
      (try simp only [List.getElem_toArray, List.getElem_cons_succ, List.getElem_cons_zero, Act.put, List.setIfInBounds_toArray, List.set_cons_zero, List.set_cons_succ, bne_self_eq_false])
      exact ord17b N a b A1 A2 A4 n1 c1 n2 c2 nl c4 m p q Am Ap Aq nm cm np cp nq cq x y wc _ _ _ _ _ _ _ _ _ _ _ _ _ _ _ _ _ _ _ _ _ _ _ _ _ _ _ _ _ _ _ _ _ _ _ _ _ _ _ _ _ _ _ _ _ _ _ _ _ _ _ _ _ _ _ _ _ _ _ _ _ _ _ _ _ _ _ _ _ _ _ _ _ _ _ _ _ _ _ _ _ _ _ _ _ _ _ _ _ _ _ _ _ _ _ _ _ _ _ _ _ _ _ _ _ _ _ _ _ _ _ _ _ _ _ _ _ _ _ _ _ _ _ _ _ _ _ _ _ _ _ _ _ _ _ _ _ _ _ _ _ _ _ _ _ _ _ _ _ _ _ _ _ _ _ _ _ _ _ _ _ _ _ _ _ _ _ _ _ _ _ _ _ _ _ _ _ HS0 HBW FA FB FM CVM CVA CVB _ (by kernel_rfl) _ (by kernel_rfl) _ (Lib.hid fun v172 v173 v174 v175 v176 v177 v178 v179 v180 v181 v182 v183 w' h => HQ.out _ _ _ _ _ _ _ _ _ _ _ _ _ _ _ _ _ _ v172 v173 v174 v175 v176 v177 v178 v179 v180 v181 v182 v183 w' h)
    · skip
      go_simp
      have L13 := Lib.hid (levels_two w157 FP.out FQ.out 24)
      replace FA := Lib.hid (FA.out.below ((Below.refl _ _).alloc (Nat.le_refl _) (.cells #[(.slice Ap np cp), (.slice Aq nq cq)] 24)))
      replace FB := Lib.hid (FB.out.below ((Below.refl _ _).alloc (Nat.le_refl _) (.cells #[(.slice Ap np cp), (.slice Aq nq cq)] 24)))
      replace FM := Lib.hid (FM.out.below ((Below.refl _ _).alloc (Nat.le_refl _) (.cells #[(.slice Ap np cp), (.slice Aq nq cq)] 24)))
      replace FP := Lib.hid (FP.out.below ((Below.refl _ _).alloc (Nat.le_refl _) (.cells #[(.slice Ap np cp), (.slice Aq nq cq)] 24)))
      replace FQ := Lib.hid (FQ.out.below ((Below.refl _ _).alloc (Nat.le_refl _) (.cells #[(.slice Ap np cp), (.slice Aq nq cq)] 24)))
      replace FY := Lib.hid (FY.out.below ((Below.refl _ _).alloc (Nat.le_refl _) (.cells #[(.slice Ap np cp), (.slice Aq nq cq)] 24)))
      replace HBW := Lib.hid (HBW.out.alloc HBW.out.size (.cells #[(.slice Ap np cp), (.slice Aq nq cq)] 24))
      refine hK.out _ _ (HS0.out _ HBW.out) (fun hHeld => ?_)
      clear hK K
      (try simp only [List.getElem_toArray, List.getElem_cons_succ, List.getElem_cons_zero, Act.put, List.setIfInBounds_toArray, List.set_cons_zero, List.set_cons_succ, bne_self_eq_false])
      generalize hwn170 : (w157.alloc (.cells #[(.slice Ap np cp), (.slice Aq nq cq)] 24)) = w170 at *
      clear hwn170
      refine wpAnyH_ready (rs := [10]) (by kernel_rfl) (by simp) ?_
      refine (AllReadyH.cons rfl (fun K hK => ?_) AllReadyH.nil)
      go_simp
      refine (lput_any (nfP (a ++ b)) bs _ _ _ FM.out FY.out).mono ?_
      rintro e w171 ⟨v171, bs171, rfl, ho, hst⟩
      replace FA := Lib.hid (FA.out.below hst)
      replace FB := Lib.hid (FB.out.below hst)
      replace FM := Lib.hid (FM.out.below hst)
      replace FP := Lib.hid (FP.out.below hst)
      replace FQ := Lib.hid (FQ.out.below hst)
      replace FY := Lib.hid (FY.out.below hst)
      replace L13 := Lib.hid (L13.out.below hst)
      replace HBW := Lib.hid (below_chV HBW.out hst)
      obtain ⟨A171x, n171x, c171x, rfl⟩ := ho.reads.form
      have X1 := Lib.hid ho.reads
      clear ho hst
      refine hK.out _ _ (HS0.out _ HBW.out) (fun hHeld => ?_)
      clear hK K
      (try simp only [List.getElem_toArray, List.getElem_cons_succ, List.getElem_cons_zero, Act.put, List.setIfInBounds_toArray, List.set_cons_zero, List.set_cons_succ, bne_self_eq_false])
      refine wpAnyH_ready (rs := [14]) (by kernel_rfl) (by simp) ?_
      refine (AllReadyH.cons rfl (fun K hK => ?_) AllReadyH.nil)
      go_simp
      refine (lmax_any _ _ _ L13.out).mono ?_
      rintro e w172 ⟨v172, bs172, rfl, ho, hst⟩
      replace FA := Lib.hid (FA.out.below hst)
      replace FB := Lib.hid (FB.out.below hst)
      replace FM := Lib.hid (FM.out.below hst)
      replace FP := Lib.hid (FP.out.below hst)
      replace FQ := Lib.hid (FQ.out.below hst)
      replace FY := Lib.hid (FY.out.below hst)
      replace L13 := Lib.hid (L13.out.below hst)
      replace X1 := Lib.hid (X1.out.below hst)
      replace HBW := Lib.hid (below_chV HBW.out hst)
      obtain ⟨A172x, n172x, c172x, rfl⟩ := ho.reads.form
      have X2 := Lib.hid ho.reads
      clear ho hst
      refine hK.out _ _ (HS0.out _ HBW.out) (fun hHeld => ?_)
      clear hK K
      (try simp only [List.getElem_toArray, List.getElem_cons_succ, List.getElem_cons_zero, Act.put, List.setIfInBounds_toArray, List.set_cons_zero, List.set_cons_succ, bne_self_eq_false])
      refine wpAnyH_ready (rs := [15]) (by kernel_rfl) (by simp) ?_
      refine (AllReadyH.cons rfl (fun K hK => ?_) AllReadyH.nil)
      go_simp
      refine (CSM.out _ _ _ X1.out X2.out).mono ?_
      rintro e w173 ⟨rfl, hst⟩
      replace FA := Lib.hid (FA.out.below hst)
      replace FB := Lib.hid (FB.out.below hst)
      replace FM := Lib.hid (FM.out.below hst)
      replace FP := Lib.hid (FP.out.below hst)
      replace FQ := Lib.hid (FQ.out.below hst)
      replace FY := Lib.hid (FY.out.below hst)
      replace L13 := Lib.hid (L13.out.below hst)
      replace X1 := Lib.hid (X1.out.below hst)
      replace X2 := Lib.hid (X2.out.below hst)
      replace HBW := Lib.hid (below_chV HBW.out hst)
      clear hst
      refine hK.out _ _ (HS0.out _ HBW.out) (fun hHeld => ?_)
      clear hK K
      (try simp only [List.getElem_toArray, List.getElem_cons_succ, List.getElem_cons_zero, Act.put, List.setIfInBounds_toArray, List.set_cons_zero, List.set_cons_succ, bne_self_eq_false])
      refine wpAnyH_take (i := 16) (v := ?v174) rfl (by kernel_rfl) (by kernel_rfl) (by kernel_rfl) (fun _ _ _ h => h) (Or.inl ⟨by rfl, ?hy174⟩) (by assumption) ?rest174
      case hy174 => intro w hSw; (try dsimp only at hSw); go_simp; try with_reducible rfl
      (try simp only [List.getElem_toArray, List.getElem_cons_succ, List.getElem_cons_zero, Act.put, List.setIfInBounds_toArray, List.set_cons_zero, List.set_cons_succ, bne_self_eq_false])
      refine wpAnyH_take (i := 17) (v := ?v175) rfl (by kernel_rfl) (by kernel_rfl) (by kernel_rfl) (fun _ _ _ h => h) (Or.inl ⟨by rfl, ?hy175⟩) (by assumption) ?rest175
      case hy175 => intro w hSw; (try dsimp only at hSw); go_simp; try with_reducible rfl
      (try simp only [List.getElem_toArray, List.getElem_cons_succ, List.getElem_cons_zero, Act.put, List.setIfInBounds_toArray, List.set_cons_zero, List.set_cons_succ, bne_self_eq_false])
      exact ord17b N a b A1 A2 A4 n1 c1 n2 c2 nl c4 m p q Am Ap Aq nm cm np cp nq cq x y wc _ _ _ _ _ _ _ _ _ _ _ _ _ _ _ _ _ _ _ _ _ _ _ _ _ _ _ _ _ _ _ _ _ _ _ _ _ _ _ _ _ _ _ _ _ _ _ _ _ _ _ _ _ _ _ _ _ _ _ _ _ _ _ _ _ _ _ _ _ _ _ _ _ _ _ _ _ _ _ _ _ _ _ _ _ _ _ _ _ _ _ _ _ _ _ _ _ _ _ _ _ _ _ _ _ _ _ _ _ _ _ _ _ _ _ _ _ _ _ _ _ _ _ _ _ _ _ _ _ _ _ _ _ _ _ _ _ _ _ _ _ _ _ _ _ _ _ _ _ _ _ _ _ _ _ _ _ _ _ _ _ _ _ _ _ _ _ _ _ _ _ _ _ _ _ _ _ HS0 HBW FA FB FM CVM CVA CVB _ (by kernel_rfl) _ (by kernel_rfl) _ (Lib.hid fun v172 v173 v174 v175 v176 v177 v178 v179 v180 v181 v182 v183 w' h => HQ.out _ _ _ _ _ _ _ _ _ _ _ _ _ _ _ _ _ _ v172 v173 v174 v175 v176 v177 v178 v179 v180 v181 v182 v183 w' h)

end Go.Proofs.Ytgegaipkfpdocaa
