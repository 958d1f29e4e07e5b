/-
  LevelOrders: its region 16. Printed by gen_ord.py.
-/
import Derived.Test.YtgegaipkfpdocaaOrdP
namespace Go.Proofs.Ytgegaipkfpdocaa
open Go.RowKit Go.Maps
set_option linter.unusedSimpArgs false
set_option linter.unusedVariables false
set_option maxRecDepth 100000


/-- A store into a box of a slice is nothing to a level. -/
theorem RP.store {w : World} {p : Nat} {A : Option Addr} {n c : Nat} (hB : Box w p [.slice A n c]) (u : Value) {b : Nat} : ∀ {o : Nat} {ps : Lv}, RP w b o ps → RP (w.setCell ⟨p, 0, none⟩ u) b o ps
  | _, [], _ => trivial
  | o, q :: ps, h => by
    have hc : ∀ o' x, w.cell? ⟨b, o', none⟩ = some (.int .i64 x) → (w.setCell ⟨p, 0, none⟩ u).cell? ⟨b, o', none⟩ = some (.int .i64 x) := fun o' x hx => by
      by_cases hne : b = p
      · subst hne
        obtain ⟨t, hh⟩ := hB
        cases o' with
        | zero => simp [World.cell?, hh] at hx
        | succ o' => simp [World.cell?, hh] at hx
      · exact (World.cell?_of_block (a := ⟨b, o', none⟩) (Below.heap_setCell w ⟨p, 0, none⟩ u b hne)).trans hx
    exact ⟨⟨hc _ _ h.1.1, hc _ _ h.1.2⟩, RP.store hB u h.2⟩
theorem RPv.store {w : World} {p : Nat} {A : Option Addr} {n c : Nat} {l : Lv} {v : Value} (h : RPv w l v) (hB : Box w p [.slice A n c]) (u : Value) : RPv (w.setCell ⟨p, 0, none⟩ u) l v := by
  obtain ⟨A', c', e, h1, h2, h3⟩ := h
  exact ⟨A', c', e, h1, h2, fun hp => by obtain ⟨b, o, e', h'⟩ := h3 hp; exact ⟨b, o, e', h'.store hB u⟩⟩
set_option maxHeartbeats 64000000 in
theorem ord16 (w : World) (N : Nat) (a b c : Lv) (bs : List Lv) (A1 A2 A3 A4 : Option Addr) (n1 c1 n2 c2 n3 c3 nl c4 : Nat) (wc : World) (u0 u1 u2 u7 u8 u9 u10 u11 u12 u13 u14 u15 u16 u17 u18 u19 u20 u21 u22 u23 u24 u25 u26 u27 u28 u29 u30 u31 u32 u33 u34 u35 u36 u37 u38 u39 u40 u41 u42 u43 u44 u45 u46 u47 u48 u49 u50 u51 u52 u53 u54 u55 u56 u57 u58 u59 u60 u61 u62 u63 u64 u65 u66 u67 u68 u69 u70 u71 u72 u73 u74 u75 u76 u77 u78 u79 u80 u81 u82 u83 u84 u85 u86 u87 u88 u89 u90 u91 u92 u93 u94 u95 u96 u97 u98 u99 u100 u101 u102 u103 u104 u105 u106 u107 u108 u109 u110 u111 u112 u113 u114 u115 u116 u117 u118 u119 u120 u121 u122 u123 u124 u125 u126 u127 u128 u129 u130 u131 u132 u133 u134 u135 u136 u137 u138 u139 u140 u141 u142 u143 u144 u145 u146 u147 u148 u149 u150 u151 u152 u153 u154 u155 u156 u157 u158 u159 u160 u161 u162 u163 u164 u165 u166 u167 u168 u169 u170 u171 u172 u173 u174 u175 u176 u177 u178 u179 u180 u181 u182 u183 : Value) 
    (HN : Hid (w.heap.size = N)) (HS : Hid (OSt w N a b c bs (.slice A1 n1 c1) (.slice A2 n2 c2) (.slice A3 n3 c3) (.slice A4 nl c4) wc)) (code : Code) (hcode : Try.f4.body.bind (codeAtO 16) = some code) (K : Act → World → Prop)
    (hQ : ∀ v148 v149 v150 v151 v152 v153 (p q : Nat) (Ap : Option Addr) (np cp : Nat) (Aq : Option Addr) (nq cq : Nat) w', LvIn w' p (putLv a bs) (.slice Ap np cp) → LvIn w' q (putLv b bs) (.slice Aq nq cq) → Below wc.heap.size wc w' → K { tmps := List.toArray [u0, u1, u2, .slice A4 nl c4, .pointer (some ⟨N, 0, none⟩), .pointer (some ⟨N + 1, 0, none⟩), .pointer (some ⟨N + 2, 0, none⟩), u7, u8, u9, u10, u11, u12, .pointer (some ⟨p, 0, none⟩), .pointer (some ⟨q, 0, none⟩), u15, u16, u17, u18, u19, u20, u21, u22, u23, u24, u25, u26, u27, u28, u29, u30, u31, u32, u33, u34, u35, u36, u37, u38, u39, u40, u41, u42, u43, u44, u45, u46, u47, u48, u49, u50, u51, u52, u53, u54, u55, u56, u57, u58, u59, u60, u61, u62, u63, u64, u65, u66, u67, u68, u69, u70, u71, u72, u73, u74, u75, u76, u77, u78, u79, u80, u81, u82, u83, u84, u85, u86, u87, u88, u89, u90, u91, u92, u93, u94, u95, u96, u97, u98, u99, u100, u101, u102, u103, u104, u105, u106, u107, u108, u109, u110, u111, u112, u113, u114, u115, u116, u117, u118, u119, u120, u121, u122, u123, u124, u125, u126, u127, u128, u129, u130, u131, u132, u133, u134, u135, u136, u137, u138, u139, u140, u141, u142, u143, u144, u145, u146, u147, v148, v149, v150, v151, v152, v153, u154, u155, u156, u157, u158, u159, u160, u161, u162, u163, u164, u165, u166, u167, u168, u169, u170, u171, u172, u173, u174, u175, u176, u177, u178, u179, u180, u181, u182, u183], defers := [] } w') :
    code.wp Try.prog (Exit.then K fun _ _ _ => False) { tmps := List.toArray [u0, u1, u2, .slice A4 nl c4, .pointer (some ⟨N, 0, none⟩), .pointer (some ⟨N + 1, 0, none⟩), .pointer (some ⟨N + 2, 0, none⟩), u7, u8, u9, u10, u11, u12, u13, u14, u15, u16, u17, u18, u19, u20, u21, u22, u23, u24, u25, u26, u27, u28, u29, u30, u31, u32, u33, u34, u35, u36, u37, u38, u39, u40, u41, u42, u43, u44, u45, u46, u47, u48, u49, u50, u51, u52, u53, u54, u55, u56, u57, u58, u59, u60, u61, u62, u63, u64, u65, u66, u67, u68, u69, u70, u71, u72, u73, u74, u75, u76, u77, u78, u79, u80, u81, u82, u83, u84, u85, u86, u87, u88, u89, u90, u91, u92, u93, u94, u95, u96, u97, u98, u99, u100, u101, u102, u103, u104, u105, u106, u107, u108, u109, u110, u111, u112, u113, u114, u115, u116, u117, u118, u119, u120, u121, u122, u123, u124, u125, u126, u127, u128, u129, u130, u131, u132, u133, u134, u135, u136, u137, u138, u139, u140, u141, u142, u143, u144, u145, u146, u147, u148, u149, u150, u151, u152, u153, u154, u155, u156, u157, u158, u159, u160, u161, u162, u163, u164, u165, u166, u167, u168, u169, u170, u171, u172, u173, u174, u175, u176, u177, u178, u179, u180, u181, u182, u183], defers := [] } wc := by
  simp only [Try.f4, codeAtO, Option.bind_some, Nat.reduceEqDiff, if_true, if_false, Option.some.injEq] at hcode
  subst hcode
  have HQ := Lib.hid hQ
  clear hQ
  have HS0 : Hid (∀ W', Below wc.heap.size wc W' → W'.cell? ⟨N, 0, none⟩ = some (.slice A1 n1 c1) ∧ W'.cell? ⟨N + 1, 0, none⟩ = some (.slice A2 n2 c2)) := Lib.hid fun W' h => ⟨(HS.out.below HN.out h).q0, (HS.out.below HN.out h).q1⟩
  have HBW : Hid (Below wc.heap.size wc wc.drew) := Lib.hid (below_drewO wc)
  have FA := Lib.hid (HS.out.A.below HBW.out)
  have FB := Lib.hid (HS.out.B.below HBW.out)
  have FY := Lib.hid (HS.out.Y.below HBW.out)
  refine wp_region_held_drew (S := fun w' => w'.cell? ⟨N, 0, none⟩ = some (.slice A1 n1 c1) ∧ w'.cell? ⟨N + 1, 0, none⟩ = some (.slice A2 n2 c2)) (by kernel_rfl) (HS0.out _ HBW.out) (fun hHeld => ?_)
  generalize hwd : wc.drew = wd at *
  clear hwd
  refine wpAnyH_take (i := 0) (v := ?v1) rfl (by kernel_rfl) (by kernel_rfl) (by kernel_rfl) (fun _ _ _ h => h) (Or.inl ⟨by rfl, ?hy1⟩) (by assumption) ?rest1
  case hy1 => intro w hSw; (try dsimp only at hSw); go_simp; try with_reducible rfl
  (try simp only [List.getElem_toArray, List.getElem_cons_succ, List.getElem_cons_zero, Act.put, List.setIfInBounds_toArray, List.set_cons_zero, List.set_cons_succ, bne_self_eq_false])
  refine wpAnyH_take (i := 1) (v := ?v2) rfl (by kernel_rfl) (by kernel_rfl) (by kernel_rfl) (fun _ _ _ h => h) (Or.inl ⟨by rfl, ?hy2⟩) (by assumption) ?rest2
  case hy2 => intro w hSw; (try dsimp only at hSw); go_simp; try with_reducible rfl
  (try simp only [List.getElem_toArray, List.getElem_cons_succ, List.getElem_cons_zero, Act.put, List.setIfInBounds_toArray, List.set_cons_zero, List.set_cons_succ, bne_self_eq_false])
  refine wpAnyH_take (i := 3) (v := ?v3) rfl (by kernel_rfl) (by kernel_rfl) (by kernel_rfl) (fun _ _ _ h => h) (Or.inl ⟨by rfl, ?hy3⟩) (by assumption) ?rest3
  case hy3 => intro w hSw; (try dsimp only at hSw); go_simp; try with_reducible rfl
  (try simp only [List.getElem_toArray, List.getElem_cons_succ, List.getElem_cons_zero, Act.put, List.setIfInBounds_toArray, List.set_cons_zero, List.set_cons_succ, bne_self_eq_false])
  refine wpAnyH_take (i := 4) (v := ?v4) rfl (by kernel_rfl) (by kernel_rfl) (by kernel_rfl) (fun _ _ _ h => h) (Or.inl ⟨by rfl, ?hy4⟩) (by assumption) ?rest4
  case hy4 => intro w hSw; (try dsimp only at hSw); go_simp; try with_reducible rfl
  (try simp only [List.getElem_toArray, List.getElem_cons_succ, List.getElem_cons_zero, Act.put, List.setIfInBounds_toArray, List.set_cons_zero, List.set_cons_succ, bne_self_eq_false])
  refine wpAnyH_ready (rs := [2, 6, 7]) (by kernel_rfl) (by simp) ?_
  refine (AllReadyH.cons rfl (fun K hK => ?_) (AllReadyH.cons rfl (fun K hK => ?_) (AllReadyH.cons rfl (fun K hK => ?_) AllReadyH.nil)))
  · skip
    go_simp
    refine (lput_any a bs _ _ _ FA.out FY.out).mono ?_
    rintro e w5 ⟨v5, bs5, rfl, ho, hst⟩
    replace FA := Lib.hid (FA.out.below hst)
    replace FB := Lib.hid (FB.out.below hst)
    replace FY := Lib.hid (FY.out.below hst)
    replace HBW := Lib.hid (below_chV HBW.out hst)
    obtain ⟨A5x, n5x, c5x, rfl⟩ := ho.reads.form
    have P1 := Lib.hid ho.reads
    clear ho hst
    refine hK.out _ _ (HS0.out _ HBW.out) (fun hHeld => ?_)
    clear hK K
    (try simp only [List.getElem_toArray, List.getElem_cons_succ, List.getElem_cons_zero, Act.put, List.setIfInBounds_toArray, List.set_cons_zero, List.set_cons_succ, bne_self_eq_false])
    refine wpAnyH_ready (rs := [5, 6, 7]) (by kernel_rfl) (by simp) ?_
    refine (AllReadyH.cons rfl (fun K hK => ?_) (AllReadyH.cons rfl (fun K hK => ?_) (AllReadyH.cons rfl (fun K hK => ?_) AllReadyH.nil)))
    · skip
      go_simp
      refine (lput_any b bs _ _ _ FB.out FY.out).mono ?_
      rintro e w6 ⟨v6, bs6, rfl, ho, hst⟩
      replace FA := Lib.hid (FA.out.below hst)
      replace FB := Lib.hid (FB.out.below hst)
      replace FY := Lib.hid (FY.out.below hst)
      replace P1 := Lib.hid (P1.out.below hst)
      replace HBW := Lib.hid (below_chV HBW.out hst)
      obtain ⟨A6x, n6x, c6x, rfl⟩ := ho.reads.form
      have P2 := Lib.hid ho.reads
      clear ho hst
      refine hK.out _ _ (HS0.out _ HBW.out) (fun hHeld => ?_)
      clear hK K
      (try simp only [List.getElem_toArray, List.getElem_cons_succ, List.getElem_cons_zero, Act.put, List.setIfInBounds_toArray, List.set_cons_zero, List.set_cons_succ, bne_self_eq_false])
      refine wpAnyH_ready (rs := [6, 7]) (by kernel_rfl) (by simp) ?_
      refine (AllReadyH.cons rfl (fun K hK => ?_) (AllReadyH.cons rfl (fun K hK => ?_) AllReadyH.nil))
      · skip
        go_simp
        have BP := Lib.hid (Box.new w6 [.slice none 0 0] 24)
        have GP := Lib.hid HBW.out.size
        replace FA := Lib.hid (FA.out.below ((Below.refl _ _).alloc (Nat.le_refl _) (.cells #[.slice none 0 0] 24)))
        replace FB := Lib.hid (FB.out.below ((Below.refl _ _).alloc (Nat.le_refl _) (.cells #[.slice none 0 0] 24)))
        replace FY := Lib.hid (FY.out.below ((Below.refl _ _).alloc (Nat.le_refl _) (.cells #[.slice none 0 0] 24)))
        replace P1 := Lib.hid (P1.out.below ((Below.refl _ _).alloc (Nat.le_refl _) (.cells #[.slice none 0 0] 24)))
        replace P2 := Lib.hid (P2.out.below ((Below.refl _ _).alloc (Nat.le_refl _) (.cells #[.slice none 0 0] 24)))
        replace HBW := Lib.hid (HBW.out.alloc HBW.out.size (.cells #[.slice none 0 0] 24))
        refine hK.out _ _ (HS0.out _ HBW.out) (fun hHeld => ?_)
        clear hK K
        (try simp only [List.getElem_toArray, List.getElem_cons_succ, List.getElem_cons_zero, Act.put, List.setIfInBounds_toArray, List.set_cons_zero, List.set_cons_succ, bne_self_eq_false])
        generalize hwn7 : (w6.alloc (.cells #[.slice none 0 0] 24)) = w7 at *
        clear hwn7
        refine wpAnyH_ready (rs := [7]) (by kernel_rfl) (by simp) ?_
        refine (AllReadyH.cons rfl (fun K hK => ?_) AllReadyH.nil)
        have HPQ := Lib.hid BP.out.lt
        go_simp
        have BQ := Lib.hid (Box.new w7 [.slice none 0 0] 24)
        have GQ := Lib.hid HBW.out.size
        replace FA := Lib.hid (FA.out.below ((Below.refl _ _).alloc (Nat.le_refl _) (.cells #[.slice none 0 0] 24)))
        replace FB := Lib.hid (FB.out.below ((Below.refl _ _).alloc (Nat.le_refl _) (.cells #[.slice none 0 0] 24)))
        replace FY := Lib.hid (FY.out.below ((Below.refl _ _).alloc (Nat.le_refl _) (.cells #[.slice none 0 0] 24)))
        replace P1 := Lib.hid (P1.out.below ((Below.refl _ _).alloc (Nat.le_refl _) (.cells #[.slice none 0 0] 24)))
        replace P2 := Lib.hid (P2.out.below ((Below.refl _ _).alloc (Nat.le_refl _) (.cells #[.slice none 0 0] 24)))
        replace BP := Lib.hid (BP.out.below ((Below.refl _ _).alloc (Nat.le_refl _) (.cells #[.slice none 0 0] 24)))
        replace HBW := Lib.hid (HBW.out.alloc HBW.out.size (.cells #[.slice none 0 0] 24))
        refine hK.out _ _ (HS0.out _ HBW.out) (fun hHeld => ?_)
        clear hK K
        (try simp only [List.getElem_toArray, List.getElem_cons_succ, List.getElem_cons_zero, Act.put, List.setIfInBounds_toArray, List.set_cons_zero, List.set_cons_succ, bne_self_eq_false])
        generalize hwn8 : (w7.alloc (.cells #[.slice none 0 0] 24)) = w8 at *
        clear hwn8
        refine wpAnyH_ready (rs := [8]) (by kernel_rfl) (by simp) ?_
        refine (AllReadyH.cons rfl (fun K hK => ?_) AllReadyH.nil)
        have z0 := BP.out.cell (j := 0) rfl
        have z1 := BP.out.frozen 0
        go_simp
        have HN1 : w7.heap.size ≠ w6.heap.size := by have := HPQ.out; omega
        have E1 := Lib.hid (BP.out.set 0 (.slice A5x n5x c5x))
        have E2 := Lib.hid (BQ.out.other (a := ⟨w6.heap.size, 0, none⟩) HN1 (.slice A5x n5x c5x))
        have D1 := Lib.hid (P1.out.store BP.out (.slice A5x n5x c5x))
        have D2 := Lib.hid (P2.out.store BP.out (.slice A5x n5x c5x))
        have HB8 := Lib.hid (HBW.out.setCell (p := ⟨w6.heap.size, 0, none⟩) (by exact GP.out) (.slice A5x n5x c5x))
        refine hK.out _ _ (HS0.out _ HB8.out) (fun hHeld => ?_)
        clear hK K z0 z1
        (try simp only [List.getElem_toArray, List.getElem_cons_succ, List.getElem_cons_zero, Act.put, List.setIfInBounds_toArray, List.set_cons_zero, List.set_cons_succ, bne_self_eq_false])
        refine wpAnyH_ready (rs := [9]) (by kernel_rfl) (by simp) ?_
        refine (AllReadyH.cons rfl (fun K hK => ?_) AllReadyH.nil)
        have z0 := E2.out.cell (j := 0) rfl
        have z1 := E2.out.frozen 0
        go_simp
        have E3 := Lib.hid (E1.out.other (a := ⟨w7.heap.size, 0, none⟩) (Ne.symm HN1) (.slice A6x n6x c6x))
        have E4 := Lib.hid (E2.out.set 0 (.slice A6x n6x c6x))
        have D3 := Lib.hid (D1.out.store E2.out (.slice A6x n6x c6x))
        have D4 := Lib.hid (D2.out.store E2.out (.slice A6x n6x c6x))
        have HB9 := Lib.hid (HB8.out.setCell (p := ⟨w7.heap.size, 0, none⟩) (by exact GQ.out) (.slice A6x n6x c6x))
        refine hK.out _ _ (HS0.out _ HB9.out) (fun hHeld => ?_)
        clear hK K z0 z1
        (try simp only [List.getElem_toArray, List.getElem_cons_succ, List.getElem_cons_zero, Act.put, List.setIfInBounds_toArray, List.set_cons_zero, List.set_cons_succ, bne_self_eq_false])
        refine wpAnyH_done (by kernel_rfl) ?_ _
        go_wp2_with fail
        exact HQ.out _ _ _ _ _ _ _ _ _ _ _ _ _ _ _ ⟨E3.out.cell (j := 0) rfl, D3.out⟩ ⟨E4.out.cell (j := 0) rfl, D4.out⟩ HB9.out
      · skip
        go_simp
        have BQ := Lib.hid (Box.new w6 [.slice none 0 0] 24)
        have GQ := Lib.hid HBW.out.size
        replace FA := Lib.hid (FA.out.below ((Below.refl _ _).alloc (Nat.le_refl _) (.cells #[.slice none 0 0] 24)))
        replace FB := Lib.hid (FB.out.below ((Below.refl _ _).alloc (Nat.le_refl _) (.cells #[.slice none 0 0] 24)))
        replace FY := Lib.hid (FY.out.below ((Below.refl _ _).alloc (Nat.le_refl _) (.cells #[.slice none 0 0] 24)))
        replace P1 := Lib.hid (P1.out.below ((Below.refl _ _).alloc (Nat.le_refl _) (.cells #[.slice none 0 0] 24)))
        replace P2 := Lib.hid (P2.out.below ((Below.refl _ _).alloc (Nat.le_refl _) (.cells #[.slice none 0 0] 24)))
        replace HBW := Lib.hid (HBW.out.alloc HBW.out.size (.cells #[.slice none 0 0] 24))
        refine hK.out _ _ (HS0.out _ HBW.out) (fun hHeld => ?_)
        clear hK K
        (try simp only [List.getElem_toArray, List.getElem_cons_succ, List.getElem_cons_zero, Act.put, List.setIfInBounds_toArray, List.set_cons_zero, List.set_cons_succ, bne_self_eq_false])
        generalize hwn9 : (w6.alloc (.cells #[.slice none 0 0] 24)) = w9 at *
        clear hwn9
        refine wpAnyH_ready (rs := [6]) (by kernel_rfl) (by simp) ?_
        refine (AllReadyH.cons rfl (fun K hK => ?_) AllReadyH.nil)
        have HPQ := Lib.hid BQ.out.lt
        go_simp
        have BP := Lib.hid (Box.new w9 [.slice none 0 0] 24)
        have GP := Lib.hid HBW.out.size
        replace FA := Lib.hid (FA.out.below ((Below.refl _ _).alloc (Nat.le_refl _) (.cells #[.slice none 0 0] 24)))
        replace FB := Lib.hid (FB.out.below ((Below.refl _ _).alloc (Nat.le_refl _) (.cells #[.slice none 0 0] 24)))
        replace FY := Lib.hid (FY.out.below ((Below.refl _ _).alloc (Nat.le_refl _) (.cells #[.slice none 0 0] 24)))
        replace P1 := Lib.hid (P1.out.below ((Below.refl _ _).alloc (Nat.le_refl _) (.cells #[.slice none 0 0] 24)))
        replace P2 := Lib.hid (P2.out.below ((Below.refl _ _).alloc (Nat.le_refl _) (.cells #[.slice none 0 0] 24)))
        replace BQ := Lib.hid (BQ.out.below ((Below.refl _ _).alloc (Nat.le_refl _) (.cells #[.slice none 0 0] 24)))
        replace HBW := Lib.hid (HBW.out.alloc HBW.out.size (.cells #[.slice none 0 0] 24))
        refine hK.out _ _ (HS0.out _ HBW.out) (fun hHeld => ?_)
        clear hK K
        (try simp only [List.getElem_toArray, List.getElem_cons_succ, List.getElem_cons_zero, Act.put, List.setIfInBounds_toArray, List.set_cons_zero, List.set_cons_succ, bne_self_eq_false])
        generalize hwn10 : (w9.alloc (.cells #[.slice none 0 0] 24)) = w10 at *
        clear hwn10
        refine wpAnyH_ready (rs := [8]) (by kernel_rfl) (by simp) ?_
        refine (AllReadyH.cons rfl (fun K hK => ?_) AllReadyH.nil)
        have z0 := BP.out.cell (j := 0) rfl
        have z1 := BP.out.frozen 0
        go_simp
        have HN1 : w6.heap.size ≠ w9.heap.size := by have := HPQ.out; omega
        have E1 := Lib.hid (BP.out.set 0 (.slice A5x n5x c5x))
        have E2 := Lib.hid (BQ.out.other (a := ⟨w9.heap.size, 0, none⟩) HN1 (.slice A5x n5x c5x))
        have D1 := Lib.hid (P1.out.store BP.out (.slice A5x n5x c5x))
        have D2 := Lib.hid (P2.out.store BP.out (.slice A5x n5x c5x))
        have HB8 := Lib.hid (HBW.out.setCell (p := ⟨w9.heap.size, 0, none⟩) (by exact GP.out) (.slice A5x n5x c5x))
        refine hK.out _ _ (HS0.out _ HB8.out) (fun hHeld => ?_)
        clear hK K z0 z1
        (try simp only [List.getElem_toArray, List.getElem_cons_succ, List.getElem_cons_zero, Act.put, List.setIfInBounds_toArray, List.set_cons_zero, List.set_cons_succ, bne_self_eq_false])
        refine wpAnyH_ready (rs := [9]) (by kernel_rfl) (by simp) ?_
        refine (AllReadyH.cons rfl (fun K hK => ?_) AllReadyH.nil)
        have z0 := E2.out.cell (j := 0) rfl
        have z1 := E2.out.frozen 0
        go_simp
        have E3 := Lib.hid (E1.out.other (a := ⟨w6.heap.size, 0, none⟩) (Ne.symm HN1) (.slice A6x n6x c6x))
        have E4 := Lib.hid (E2.out.set 0 (.slice A6x n6x c6x))
        have D3 := Lib.hid (D1.out.store E2.out (.slice A6x n6x c6x))
        have D4 := Lib.hid (D2.out.store E2.out (.slice A6x n6x c6x))
        have HB9 := Lib.hid (HB8.out.setCell (p := ⟨w6.heap.size, 0, none⟩) (by exact GQ.out) (.slice A6x n6x c6x))
        refine hK.out _ _ (HS0.out _ HB9.out) (fun hHeld => ?_)
        clear hK K z0 z1
        (try simp only [List.getElem_toArray, List.getElem_cons_succ, List.getElem_cons_zero, Act.put, List.setIfInBounds_toArray, List.set_cons_zero, List.set_cons_succ, bne_self_eq_false])
        refine wpAnyH_done (by kernel_rfl) ?_ _
        go_wp2_with fail
        exact HQ.out _ _ _ _ _ _ _ _ _ _ _ _ _ _ _ ⟨E3.out.cell (j := 0) rfl, D3.out⟩ ⟨E4.out.cell (j := 0) rfl, D4.out⟩ HB9.out
    · skip
      go_simp
      have BP := Lib.hid (Box.new w5 [.slice none 0 0] 24)
      have GP := Lib.hid HBW.out.size
      replace FA := Lib.hid (FA.out.below ((Below.refl _ _).alloc (Nat.le_refl _) (.cells #[.slice none 0 0] 24)))
      replace FB := Lib.hid (FB.out.below ((Below.refl _ _).alloc (Nat.le_refl _) (.cells #[.slice none 0 0] 24)))
      replace FY := Lib.hid (FY.out.below ((Below.refl _ _).alloc (Nat.le_refl _) (.cells #[.slice none 0 0] 24)))
      replace P1 := Lib.hid (P1.out.below ((Below.refl _ _).alloc (Nat.le_refl _) (.cells #[.slice none 0 0] 24)))
      replace HBW := Lib.hid (HBW.out.alloc HBW.out.size (.cells #[.slice none 0 0] 24))
      refine hK.out _ _ (HS0.out _ HBW.out) (fun hHeld => ?_)
      clear hK K
      (try simp only [List.getElem_toArray, List.getElem_cons_succ, List.getElem_cons_zero, Act.put, List.setIfInBounds_toArray, List.set_cons_zero, List.set_cons_succ, bne_self_eq_false])
      generalize hwn11 : (w5.alloc (.cells #[.slice none 0 0] 24)) = w11 at *
      clear hwn11
      refine wpAnyH_ready (rs := [5, 7]) (by kernel_rfl) (by simp) ?_
      refine (AllReadyH.cons rfl (fun K hK => ?_) (AllReadyH.cons rfl (fun K hK => ?_) AllReadyH.nil))
      · skip
        go_simp
        refine (lput_any b bs _ _ _ FB.out FY.out).mono ?_
        rintro e w12 ⟨v12, bs12, rfl, ho, hst⟩
        replace FA := Lib.hid (FA.out.below hst)
        replace FB := Lib.hid (FB.out.below hst)
        replace FY := Lib.hid (FY.out.below hst)
        replace P1 := Lib.hid (P1.out.below hst)
        replace BP := Lib.hid (BP.out.below hst)
        replace HBW := Lib.hid (below_chV HBW.out hst)
        obtain ⟨A12x, n12x, c12x, rfl⟩ := ho.reads.form
        have P2 := Lib.hid ho.reads
        clear ho hst
        refine hK.out _ _ (HS0.out _ HBW.out) (fun hHeld => ?_)
        clear hK K
        (try simp only [List.getElem_toArray, List.getElem_cons_succ, List.getElem_cons_zero, Act.put, List.setIfInBounds_toArray, List.set_cons_zero, List.set_cons_succ, bne_self_eq_false])
        refine wpAnyH_ready (rs := [7]) (by kernel_rfl) (by simp) ?_
        refine (AllReadyH.cons rfl (fun K hK => ?_) AllReadyH.nil)
        have HPQ := Lib.hid BP.out.lt
        go_simp
        have BQ := Lib.hid (Box.new w12 [.slice none 0 0] 24)
        have GQ := Lib.hid HBW.out.size
        replace FA := Lib.hid (FA.out.below ((Below.refl _ _).alloc (Nat.le_refl _) (.cells #[.slice none 0 0] 24)))
        replace FB := Lib.hid (FB.out.below ((Below.refl _ _).alloc (Nat.le_refl _) (.cells #[.slice none 0 0] 24)))
        replace FY := Lib.hid (FY.out.below ((Below.refl _ _).alloc (Nat.le_refl _) (.cells #[.slice none 0 0] 24)))
        replace P1 := Lib.hid (P1.out.below ((Below.refl _ _).alloc (Nat.le_refl _) (.cells #[.slice none 0 0] 24)))
        replace BP := Lib.hid (BP.out.below ((Below.refl _ _).alloc (Nat.le_refl _) (.cells #[.slice none 0 0] 24)))
        replace P2 := Lib.hid (P2.out.below ((Below.refl _ _).alloc (Nat.le_refl _) (.cells #[.slice none 0 0] 24)))
        replace HBW := Lib.hid (HBW.out.alloc HBW.out.size (.cells #[.slice none 0 0] 24))
        refine hK.out _ _ (HS0.out _ HBW.out) (fun hHeld => ?_)
        clear hK K
        (try simp only [List.getElem_toArray, List.getElem_cons_succ, List.getElem_cons_zero, Act.put, List.setIfInBounds_toArray, List.set_cons_zero, List.set_cons_succ, bne_self_eq_false])
        generalize hwn13 : (w12.alloc (.cells #[.slice none 0 0] 24)) = w13 at *
        clear hwn13
        refine wpAnyH_ready (rs := [8]) (by kernel_rfl) (by simp) ?_
        refine (AllReadyH.cons rfl (fun K hK => ?_) AllReadyH.nil)
        have z0 := BP.out.cell (j := 0) rfl
        have z1 := BP.out.frozen 0
        go_simp
        have HN1 : w12.heap.size ≠ w5.heap.size := by have := HPQ.out; omega
        have E1 := Lib.hid (BP.out.set 0 (.slice A5x n5x c5x))
        have E2 := Lib.hid (BQ.out.other (a := ⟨w5.heap.size, 0, none⟩) HN1 (.slice A5x n5x c5x))
        have D1 := Lib.hid (P1.out.store BP.out (.slice A5x n5x c5x))
        have D2 := Lib.hid (P2.out.store BP.out (.slice A5x n5x c5x))
        have HB8 := Lib.hid (HBW.out.setCell (p := ⟨w5.heap.size, 0, none⟩) (by exact GP.out) (.slice A5x n5x c5x))
        refine hK.out _ _ (HS0.out _ HB8.out) (fun hHeld => ?_)
        clear hK K z0 z1
        (try simp only [List.getElem_toArray, List.getElem_cons_succ, List.getElem_cons_zero, Act.put, List.setIfInBounds_toArray, List.set_cons_zero, List.set_cons_succ, bne_self_eq_false])
        refine wpAnyH_ready (rs := [9]) (by kernel_rfl) (by simp) ?_
        refine (AllReadyH.cons rfl (fun K hK => ?_) AllReadyH.nil)
        have z0 := E2.out.cell (j := 0) rfl
        have z1 := E2.out.frozen 0
        go_simp
        have E3 := Lib.hid (E1.out.other (a := ⟨w12.heap.size, 0, none⟩) (Ne.symm HN1) (.slice A12x n12x c12x))
        have E4 := Lib.hid (E2.out.set 0 (.slice A12x n12x c12x))
        have D3 := Lib.hid (D1.out.store E2.out (.slice A12x n12x c12x))
        have D4 := Lib.hid (D2.out.store E2.out (.slice A12x n12x c12x))
        have HB9 := Lib.hid (HB8.out.setCell (p := ⟨w12.heap.size, 0, none⟩) (by exact GQ.out) (.slice A12x n12x c12x))
        refine hK.out _ _ (HS0.out _ HB9.out) (fun hHeld => ?_)
        clear hK K z0 z1
        (try simp only [List.getElem_toArray, List.getElem_cons_succ, List.getElem_cons_zero, Act.put, List.setIfInBounds_toArray, List.set_cons_zero, List.set_cons_succ, bne_self_eq_false])
        refine wpAnyH_done (by kernel_rfl) ?_ _
        go_wp2_with fail
        exact HQ.out _ _ _ _ _ _ _ _ _ _ _ _ _ _ _ ⟨E3.out.cell (j := 0) rfl, D3.out⟩ ⟨E4.out.cell (j := 0) rfl, D4.out⟩ HB9.out
      · skip
        have HPQ := Lib.hid BP.out.lt
        go_simp
        have BQ := Lib.hid (Box.new w11 [.slice none 0 0] 24)
        have GQ := Lib.hid HBW.out.size
        replace FA := Lib.hid (FA.out.below ((Below.refl _ _).alloc (Nat.le_refl _) (.cells #[.slice none 0 0] 24)))
        replace FB := Lib.hid (FB.out.below ((Below.refl _ _).alloc (Nat.le_refl _) (.cells #[.slice none 0 0] 24)))
        replace FY := Lib.hid (FY.out.below ((Below.refl _ _).alloc (Nat.le_refl _) (.cells #[.slice none 0 0] 24)))
        replace P1 := Lib.hid (P1.out.below ((Below.refl _ _).alloc (Nat.le_refl _) (.cells #[.slice none 0 0] 24)))
        replace BP := Lib.hid (BP.out.below ((Below.refl _ _).alloc (Nat.le_refl _) (.cells #[.slice none 0 0] 24)))
        replace HBW := Lib.hid (HBW.out.alloc HBW.out.size (.cells #[.slice none 0 0] 24))
        refine hK.out _ _ (HS0.out _ HBW.out) (fun hHeld => ?_)
        clear hK K
        (try simp only [List.getElem_toArray, List.getElem_cons_succ, List.getElem_cons_zero, Act.put, List.setIfInBounds_toArray, List.set_cons_zero, List.set_cons_succ, bne_self_eq_false])
        generalize hwn14 : (w11.alloc (.cells #[.slice none 0 0] 24)) = w14 at *
        clear hwn14
        refine wpAnyH_ready (rs := [5]) (by kernel_rfl) (by simp) ?_
        refine (AllReadyH.cons rfl (fun K hK => ?_) AllReadyH.nil)
        go_simp
        refine (lput_any b bs _ _ _ FB.out FY.out).mono ?_
        rintro e w15 ⟨v15, bs15, rfl, ho, hst⟩
        replace FA := Lib.hid (FA.out.below hst)
        replace FB := Lib.hid (FB.out.below hst)
        replace FY := Lib.hid (FY.out.below hst)
        replace P1 := Lib.hid (P1.out.below hst)
        replace BP := Lib.hid (BP.out.below hst)
        replace BQ := Lib.hid (BQ.out.below hst)
        replace HBW := Lib.hid (below_chV HBW.out hst)
        obtain ⟨A15x, n15x, c15x, rfl⟩ := ho.reads.form
        have P2 := Lib.hid ho.reads
        clear ho hst
        refine hK.out _ _ (HS0.out _ HBW.out) (fun hHeld => ?_)
        clear hK K
        (try simp only [List.getElem_toArray, List.getElem_cons_succ, List.getElem_cons_zero, Act.put, List.setIfInBounds_toArray, List.set_cons_zero, List.set_cons_succ, bne_self_eq_false])
        refine wpAnyH_ready (rs := [8]) (by kernel_rfl) (by simp) ?_
        refine (AllReadyH.cons rfl (fun K hK => ?_) AllReadyH.nil)
        have z0 := BP.out.cell (j := 0) rfl
        have z1 := BP.out.frozen 0
        go_simp
        have HN1 : w11.heap.size ≠ w5.heap.size := by have := HPQ.out; omega
        have E1 := Lib.hid (BP.out.set 0 (.slice A5x n5x c5x))
        have E2 := Lib.hid (BQ.out.other (a := ⟨w5.heap.size, 0, none⟩) HN1 (.slice A5x n5x c5x))
        have D1 := Lib.hid (P1.out.store BP.out (.slice A5x n5x c5x))
        have D2 := Lib.hid (P2.out.store BP.out (.slice A5x n5x c5x))
        have HB8 := Lib.hid (HBW.out.setCell (p := ⟨w5.heap.size, 0, none⟩) (by exact GP.out) (.slice A5x n5x c5x))
        refine hK.out _ _ (HS0.out _ HB8.out) (fun hHeld => ?_)
        clear hK K z0 z1
        (try simp only [List.getElem_toArray, List.getElem_cons_succ, List.getElem_cons_zero, Act.put, List.setIfInBounds_toArray, List.set_cons_zero, List.set_cons_succ, bne_self_eq_false])
        refine wpAnyH_ready (rs := [9]) (by kernel_rfl) (by simp) ?_
        refine (AllReadyH.cons rfl (fun K hK => ?_) AllReadyH.nil)
        have z0 := E2.out.cell (j := 0) rfl
        have z1 := E2.out.frozen 0
        go_simp
        have E3 := Lib.hid (E1.out.other (a := ⟨w11.heap.size, 0, none⟩) (Ne.symm HN1) (.slice A15x n15x c15x))
        have E4 := Lib.hid (E2.out.set 0 (.slice A15x n15x c15x))
        have D3 := Lib.hid (D1.out.store E2.out (.slice A15x n15x c15x))
        have D4 := Lib.hid (D2.out.store E2.out (.slice A15x n15x c15x))
        have HB9 := Lib.hid (HB8.out.setCell (p := ⟨w11.heap.size, 0, none⟩) (by exact GQ.out) (.slice A15x n15x c15x))
        refine hK.out _ _ (HS0.out _ HB9.out) (fun hHeld => ?_)
        clear hK K z0 z1
        (try simp only [List.getElem_toArray, List.getElem_cons_succ, List.getElem_cons_zero, Act.put, List.setIfInBounds_toArray, List.set_cons_zero, List.set_cons_succ, bne_self_eq_false])
        refine wpAnyH_done (by kernel_rfl) ?_ _
        go_wp2_with fail
        exact HQ.out _ _ _ _ _ _ _ _ _ _ _ _ _ _ _ ⟨E3.out.cell (j := 0) rfl, D3.out⟩ ⟨E4.out.cell (j := 0) rfl, D4.out⟩ HB9.out
    · skip
      go_simp
      have BQ := Lib.hid (Box.new w5 [.slice none 0 0] 24)
      have GQ := Lib.hid HBW.out.size
      replace FA := Lib.hid (FA.out.below ((Below.refl _ _).alloc (Nat.le_refl _) (.cells #[.slice none 0 0] 24)))
      replace FB := Lib.hid (FB.out.below ((Below.refl _ _).alloc (Nat.le_refl _) (.cells #[.slice none 0 0] 24)))
      replace FY := Lib.hid (FY.out.below ((Below.refl _ _).alloc (Nat.le_refl _) (.cells #[.slice none 0 0] 24)))
      replace P1 := Lib.hid (P1.out.below ((Below.refl _ _).alloc (Nat.le_refl _) (.cells #[.slice none 0 0] 24)))
      replace HBW := Lib.hid (HBW.out.alloc HBW.out.size (.cells #[.slice none 0 0] 24))
      refine hK.out _ _ (HS0.out _ HBW.out) (fun hHeld => ?_)
      clear hK K
      (try simp only [List.getElem_toArray, List.getElem_cons_succ, List.getElem_cons_zero, Act.put, List.setIfInBounds_toArray, List.set_cons_zero, List.set_cons_succ, bne_self_eq_false])
      generalize hwn16 : (w5.alloc (.cells #[.slice none 0 0] 24)) = w16 at *
      clear hwn16
      refine wpAnyH_ready (rs := [5, 6]) (by kernel_rfl) (by simp) ?_
      refine (AllReadyH.cons rfl (fun K hK => ?_) (AllReadyH.cons rfl (fun K hK => ?_) AllReadyH.nil))
      · skip
        go_simp
        refine (lput_any b bs _ _ _ FB.out FY.out).mono ?_
        rintro e w17 ⟨v17, bs17, rfl, ho, hst⟩
        replace FA := Lib.hid (FA.out.below hst)
        replace FB := Lib.hid (FB.out.below hst)
        replace FY := Lib.hid (FY.out.below hst)
        replace P1 := Lib.hid (P1.out.below hst)
        replace BQ := Lib.hid (BQ.out.below hst)
        replace HBW := Lib.hid (below_chV HBW.out hst)
        obtain ⟨A17x, n17x, c17x, rfl⟩ := ho.reads.form
        have P2 := Lib.hid ho.reads
        clear ho hst
        refine hK.out _ _ (HS0.out _ HBW.out) (fun hHeld => ?_)
        clear hK K
        (try simp only [List.getElem_toArray, List.getElem_cons_succ, List.getElem_cons_zero, Act.put, List.setIfInBounds_toArray, List.set_cons_zero, List.set_cons_succ, bne_self_eq_false])
        refine wpAnyH_ready (rs := [6]) (by kernel_rfl) (by simp) ?_
        refine (AllReadyH.cons rfl (fun K hK => ?_) AllReadyH.nil)
        have HPQ := Lib.hid BQ.out.lt
        go_simp
        have BP := Lib.hid (Box.new w17 [.slice none 0 0] 24)
        have GP := Lib.hid HBW.out.size
        replace FA := Lib.hid (FA.out.below ((Below.refl _ _).alloc (Nat.le_refl _) (.cells #[.slice none 0 0] 24)))
        replace FB := Lib.hid (FB.out.below ((Below.refl _ _).alloc (Nat.le_refl _) (.cells #[.slice none 0 0] 24)))
        replace FY := Lib.hid (FY.out.below ((Below.refl _ _).alloc (Nat.le_refl _) (.cells #[.slice none 0 0] 24)))
        replace P1 := Lib.hid (P1.out.below ((Below.refl _ _).alloc (Nat.le_refl _) (.cells #[.slice none 0 0] 24)))
        replace BQ := Lib.hid (BQ.out.below ((Below.refl _ _).alloc (Nat.le_refl _) (.cells #[.slice none 0 0] 24)))
        replace P2 := Lib.hid (P2.out.below ((Below.refl _ _).alloc (Nat.le_refl _) (.cells #[.slice none 0 0] 24)))
        replace HBW := Lib.hid (HBW.out.alloc HBW.out.size (.cells #[.slice none 0 0] 24))
        refine hK.out _ _ (HS0.out _ HBW.out) (fun hHeld => ?_)
        clear hK K
        (try simp only [List.getElem_toArray, List.getElem_cons_succ, List.getElem_cons_zero, Act.put, List.setIfInBounds_toArray, List.set_cons_zero, List.set_cons_succ, bne_self_eq_false])
        generalize hwn18 : (w17.alloc (.cells #[.slice none 0 0] 24)) = w18 at *
        clear hwn18
        refine wpAnyH_ready (rs := [8]) (by kernel_rfl) (by simp) ?_
        refine (AllReadyH.cons rfl (fun K hK => ?_) AllReadyH.nil)
        have z0 := BP.out.cell (j := 0) rfl
        have z1 := BP.out.frozen 0
        go_simp
        have HN1 : w5.heap.size ≠ w17.heap.size := by have := HPQ.out; omega
        have E1 := Lib.hid (BP.out.set 0 (.slice A5x n5x c5x))
        have E2 := Lib.hid (BQ.out.other (a := ⟨w17.heap.size, 0, none⟩) HN1 (.slice A5x n5x c5x))
        have D1 := Lib.hid (P1.out.store BP.out (.slice A5x n5x c5x))
        have D2 := Lib.hid (P2.out.store BP.out (.slice A5x n5x c5x))
        have HB8 := Lib.hid (HBW.out.setCell (p := ⟨w17.heap.size, 0, none⟩) (by exact GP.out) (.slice A5x n5x c5x))
        refine hK.out _ _ (HS0.out _ HB8.out) (fun hHeld => ?_)
        clear hK K z0 z1
        (try simp only [List.getElem_toArray, List.getElem_cons_succ, List.getElem_cons_zero, Act.put, List.setIfInBounds_toArray, List.set_cons_zero, List.set_cons_succ, bne_self_eq_false])
        refine wpAnyH_ready (rs := [9]) (by kernel_rfl) (by simp) ?_
        refine (AllReadyH.cons rfl (fun K hK => ?_) AllReadyH.nil)
        have z0 := E2.out.cell (j := 0) rfl
        have z1 := E2.out.frozen 0
        go_simp
        have E3 := Lib.hid (E1.out.other (a := ⟨w5.heap.size, 0, none⟩) (Ne.symm HN1) (.slice A17x n17x c17x))
        have E4 := Lib.hid (E2.out.set 0 (.slice A17x n17x c17x))
        have D3 := Lib.hid (D1.out.store E2.out (.slice A17x n17x c17x))
        have D4 := Lib.hid (D2.out.store E2.out (.slice A17x n17x c17x))
        have HB9 := Lib.hid (HB8.out.setCell (p := ⟨w5.heap.size, 0, none⟩) (by exact GQ.out) (.slice A17x n17x c17x))
        refine hK.out _ _ (HS0.out _ HB9.out) (fun hHeld => ?_)
        clear hK K z0 z1
        (try simp only [List.getElem_toArray, List.getElem_cons_succ, List.getElem_cons_zero, Act.put, List.setIfInBounds_toArray, List.set_cons_zero, List.set_cons_succ, bne_self_eq_false])
        refine wpAnyH_done (by kernel_rfl) ?_ _
        go_wp2_with fail
        exact HQ.out _ _ _ _ _ _ _ _ _ _ _ _ _ _ _ ⟨E3.out.cell (j := 0) rfl, D3.out⟩ ⟨E4.out.cell (j := 0) rfl, D4.out⟩ HB9.out
      · skip
        have HPQ := Lib.hid BQ.out.lt
        go_simp
        have BP := Lib.hid (Box.new w16 [.slice none 0 0] 24)
        have GP := Lib.hid HBW.out.size
        replace FA := Lib.hid (FA.out.below ((Below.refl _ _).alloc (Nat.le_refl _) (.cells #[.slice none 0 0] 24)))
        replace FB := Lib.hid (FB.out.below ((Below.refl _ _).alloc (Nat.le_refl _) (.cells #[.slice none 0 0] 24)))
        replace FY := Lib.hid (FY.out.below ((Below.refl _ _).alloc (Nat.le_refl _) (.cells #[.slice none 0 0] 24)))
        replace P1 := Lib.hid (P1.out.below ((Below.refl _ _).alloc (Nat.le_refl _) (.cells #[.slice none 0 0] 24)))
        replace BQ := Lib.hid (BQ.out.below ((Below.refl _ _).alloc (Nat.le_refl _) (.cells #[.slice none 0 0] 24)))
        replace HBW := Lib.hid (HBW.out.alloc HBW.out.size (.cells #[.slice none 0 0] 24))
        refine hK.out _ _ (HS0.out _ HBW.out) (fun hHeld => ?_)
        clear hK K
        (try simp only [List.getElem_toArray, List.getElem_cons_succ, List.getElem_cons_zero, Act.put, List.setIfInBounds_toArray, List.set_cons_zero, List.set_cons_succ, bne_self_eq_false])
        generalize hwn19 : (w16.alloc (.cells #[.slice none 0 0] 24)) = w19 at *
        clear hwn19
        refine wpAnyH_ready (rs := [5]) (by kernel_rfl) (by simp) ?_
        refine (AllReadyH.cons rfl (fun K hK => ?_) AllReadyH.nil)
        go_simp
        refine (lput_any b bs _ _ _ FB.out FY.out).mono ?_
        rintro e w20 ⟨v20, bs20, rfl, ho, hst⟩
        replace FA := Lib.hid (FA.out.below hst)
        replace FB := Lib.hid (FB.out.below hst)
        replace FY := Lib.hid (FY.out.below hst)
        replace P1 := Lib.hid (P1.out.below hst)
        replace BQ := Lib.hid (BQ.out.below hst)
        replace BP := Lib.hid (BP.out.below hst)
        replace HBW := Lib.hid (below_chV HBW.out hst)
        obtain ⟨A20x, n20x, c20x, rfl⟩ := ho.reads.form
        have P2 := Lib.hid ho.reads
        clear ho hst
        refine hK.out _ _ (HS0.out _ HBW.out) (fun hHeld => ?_)
        clear hK K
        (try simp only [List.getElem_toArray, List.getElem_cons_succ, List.getElem_cons_zero, Act.put, List.setIfInBounds_toArray, List.set_cons_zero, List.set_cons_succ, bne_self_eq_false])
        refine wpAnyH_ready (rs := [8]) (by kernel_rfl) (by simp) ?_
        refine (AllReadyH.cons rfl (fun K hK => ?_) AllReadyH.nil)
        have z0 := BP.out.cell (j := 0) rfl
        have z1 := BP.out.frozen 0
        go_simp
        have HN1 : w5.heap.size ≠ w16.heap.size := by have := HPQ.out; omega
        have E1 := Lib.hid (BP.out.set 0 (.slice A5x n5x c5x))
        have E2 := Lib.hid (BQ.out.other (a := ⟨w16.heap.size, 0, none⟩) HN1 (.slice A5x n5x c5x))
        have D1 := Lib.hid (P1.out.store BP.out (.slice A5x n5x c5x))
        have D2 := Lib.hid (P2.out.store BP.out (.slice A5x n5x c5x))
        have HB8 := Lib.hid (HBW.out.setCell (p := ⟨w16.heap.size, 0, none⟩) (by exact GP.out) (.slice A5x n5x c5x))
        refine hK.out _ _ (HS0.out _ HB8.out) (fun hHeld => ?_)
        clear hK K z0 z1
        (try simp only [List.getElem_toArray, List.getElem_cons_succ, List.getElem_cons_zero, Act.put, List.setIfInBounds_toArray, List.set_cons_zero, List.set_cons_succ, bne_self_eq_false])
        refine wpAnyH_ready (rs := [9]) (by kernel_rfl) (by simp) ?_
        refine (AllReadyH.cons rfl (fun K hK => ?_) AllReadyH.nil)
        have z0 := E2.out.cell (j := 0) rfl
        have z1 := E2.out.frozen 0
        go_simp
        have E3 := Lib.hid (E1.out.other (a := ⟨w5.heap.size, 0, none⟩) (Ne.symm HN1) (.slice A20x n20x c20x))
        have E4 := Lib.hid (E2.out.set 0 (.slice A20x n20x c20x))
        have D3 := Lib.hid (D1.out.store E2.out (.slice A20x n20x c20x))
        have D4 := Lib.hid (D2.out.store E2.out (.slice A20x n20x c20x))
        have HB9 := Lib.hid (HB8.out.setCell (p := ⟨w5.heap.size, 0, none⟩) (by exact GQ.out) (.slice A20x n20x c20x))
        refine hK.out _ _ (HS0.out _ HB9.out) (fun hHeld => ?_)
        clear hK K z0 z1
        (try simp only [List.getElem_toArray, List.getElem_cons_succ, List.getElem_cons_zero, Act.put, List.setIfInBounds_toArray, List.set_cons_zero, List.set_cons_succ, bne_self_eq_false])
        refine wpAnyH_done (by kernel_rfl) ?_ _
        go_wp2_with fail
        exact HQ.out _ _ _ _ _ _ _ _ _ _ _ _ _ _ _ ⟨E3.out.cell (j := 0) rfl, D3.out⟩ ⟨E4.out.cell (j := 0) rfl, D4.out⟩ HB9.out
  · skip
    go_simp
    have BP := Lib.hid (Box.new wd [.slice none 0 0] 24)
    have GP := Lib.hid HBW.out.size
    replace FA := Lib.hid (FA.out.below ((Below.refl _ _).alloc (Nat.le_refl _) (.cells #[.slice none 0 0] 24)))
    replace FB := Lib.hid (FB.out.below ((Below.refl _ _).alloc (Nat.le_refl _) (.cells #[.slice none 0 0] 24)))
    replace FY := Lib.hid (FY.out.below ((Below.refl _ _).alloc (Nat.le_refl _) (.cells #[.slice none 0 0] 24)))
    replace HBW := Lib.hid (HBW.out.alloc HBW.out.size (.cells #[.slice none 0 0] 24))
    refine hK.out _ _ (HS0.out _ HBW.out) (fun hHeld => ?_)
    clear hK K
    (try simp only [List.getElem_toArray, List.getElem_cons_succ, List.getElem_cons_zero, Act.put, List.setIfInBounds_toArray, List.set_cons_zero, List.set_cons_succ, bne_self_eq_false])
    generalize hwn21 : (wd.alloc (.cells #[.slice none 0 0] 24)) = w21 at *
    clear hwn21
    refine wpAnyH_ready (rs := [2, 7]) (by kernel_rfl) (by simp) ?_
    refine (AllReadyH.cons rfl (fun K hK => ?_) (AllReadyH.cons rfl (fun K hK => ?_) AllReadyH.nil))
    · skip
      go_simp
      refine (lput_any a bs _ _ _ FA.out FY.out).mono ?_
      rintro e w22 ⟨v22, bs22, rfl, ho, hst⟩
      replace FA := Lib.hid (FA.out.below hst)
      replace FB := Lib.hid (FB.out.below hst)
      replace FY := Lib.hid (FY.out.below hst)
      replace BP := Lib.hid (BP.out.below hst)
      replace HBW := Lib.hid (below_chV HBW.out hst)
      obtain ⟨A22x, n22x, c22x, rfl⟩ := ho.reads.form
      have P1 := Lib.hid ho.reads
      clear ho hst
      refine hK.out _ _ (HS0.out _ HBW.out) (fun hHeld => ?_)
      clear hK K
      (try simp only [List.getElem_toArray, List.getElem_cons_succ, List.getElem_cons_zero, Act.put, List.setIfInBounds_toArray, List.set_cons_zero, List.set_cons_succ, bne_self_eq_false])
      refine wpAnyH_ready (rs := [5, 7]) (by kernel_rfl) (by simp) ?_
      refine (AllReadyH.cons rfl (fun K hK => ?_) (AllReadyH.cons rfl (fun K hK => ?_) AllReadyH.nil))
      · skip
        go_simp
        refine (lput_any b bs _ _ _ FB.out FY.out).mono ?_
        rintro e w23 ⟨v23, bs23, rfl, ho, hst⟩
        replace FA := Lib.hid (FA.out.below hst)
        replace FB := Lib.hid (FB.out.below hst)
        replace FY := Lib.hid (FY.out.below hst)
        replace BP := Lib.hid (BP.out.below hst)
        replace P1 := Lib.hid (P1.out.below hst)
        replace HBW := Lib.hid (below_chV HBW.out hst)
        obtain ⟨A23x, n23x, c23x, rfl⟩ := ho.reads.form
        have P2 := Lib.hid ho.reads
        clear ho hst
        refine hK.out _ _ (HS0.out _ HBW.out) (fun hHeld => ?_)
        clear hK K
        (try simp only [List.getElem_toArray, List.getElem_cons_succ, List.getElem_cons_zero, Act.put, List.setIfInBounds_toArray, List.set_cons_zero, List.set_cons_succ, bne_self_eq_false])
        refine wpAnyH_ready (rs := [7]) (by kernel_rfl) (by simp) ?_
        refine (AllReadyH.cons rfl (fun K hK => ?_) AllReadyH.nil)
        have HPQ := Lib.hid BP.out.lt
        go_simp
        have BQ := Lib.hid (Box.new w23 [.slice none 0 0] 24)
        have GQ := Lib.hid HBW.out.size
        replace FA := Lib.hid (FA.out.below ((Below.refl _ _).alloc (Nat.le_refl _) (.cells #[.slice none 0 0] 24)))
        replace FB := Lib.hid (FB.out.below ((Below.refl _ _).alloc (Nat.le_refl _) (.cells #[.slice none 0 0] 24)))
        replace FY := Lib.hid (FY.out.below ((Below.refl _ _).alloc (Nat.le_refl _) (.cells #[.slice none 0 0] 24)))
        replace BP := Lib.hid (BP.out.below ((Below.refl _ _).alloc (Nat.le_refl _) (.cells #[.slice none 0 0] 24)))
        replace P1 := Lib.hid (P1.out.below ((Below.refl _ _).alloc (Nat.le_refl _) (.cells #[.slice none 0 0] 24)))
        replace P2 := Lib.hid (P2.out.below ((Below.refl _ _).alloc (Nat.le_refl _) (.cells #[.slice none 0 0] 24)))
        replace HBW := Lib.hid (HBW.out.alloc HBW.out.size (.cells #[.slice none 0 0] 24))
        refine hK.out _ _ (HS0.out _ HBW.out) (fun hHeld => ?_)
        clear hK K
        (try simp only [List.getElem_toArray, List.getElem_cons_succ, List.getElem_cons_zero, Act.put, List.setIfInBounds_toArray, List.set_cons_zero, List.set_cons_succ, bne_self_eq_false])
        generalize hwn24 : (w23.alloc (.cells #[.slice none 0 0] 24)) = w24 at *
        clear hwn24
        refine wpAnyH_ready (rs := [8]) (by kernel_rfl) (by simp) ?_
        refine (AllReadyH.cons rfl (fun K hK => ?_) AllReadyH.nil)
        have z0 := BP.out.cell (j := 0) rfl
        have z1 := BP.out.frozen 0
        go_simp
        have HN1 : w23.heap.size ≠ wd.heap.size := by have := HPQ.out; omega
        have E1 := Lib.hid (BP.out.set 0 (.slice A22x n22x c22x))
        have E2 := Lib.hid (BQ.out.other (a := ⟨wd.heap.size, 0, none⟩) HN1 (.slice A22x n22x c22x))
        have D1 := Lib.hid (P1.out.store BP.out (.slice A22x n22x c22x))
        have D2 := Lib.hid (P2.out.store BP.out (.slice A22x n22x c22x))
        have HB8 := Lib.hid (HBW.out.setCell (p := ⟨wd.heap.size, 0, none⟩) (by exact GP.out) (.slice A22x n22x c22x))
        refine hK.out _ _ (HS0.out _ HB8.out) (fun hHeld => ?_)
        clear hK K z0 z1
        (try simp only [List.getElem_toArray, List.getElem_cons_succ, List.getElem_cons_zero, Act.put, List.setIfInBounds_toArray, List.set_cons_zero, List.set_cons_succ, bne_self_eq_false])
        refine wpAnyH_ready (rs := [9]) (by kernel_rfl) (by simp) ?_
        refine (AllReadyH.cons rfl (fun K hK => ?_) AllReadyH.nil)
        have z0 := E2.out.cell (j := 0) rfl
        have z1 := E2.out.frozen 0
        go_simp
        have E3 := Lib.hid (E1.out.other (a := ⟨w23.heap.size, 0, none⟩) (Ne.symm HN1) (.slice A23x n23x c23x))
        have E4 := Lib.hid (E2.out.set 0 (.slice A23x n23x c23x))
        have D3 := Lib.hid (D1.out.store E2.out (.slice A23x n23x c23x))
        have D4 := Lib.hid (D2.out.store E2.out (.slice A23x n23x c23x))
        have HB9 := Lib.hid (HB8.out.setCell (p := ⟨w23.heap.size, 0, none⟩) (by exact GQ.out) (.slice A23x n23x c23x))
        refine hK.out _ _ (HS0.out _ HB9.out) (fun hHeld => ?_)
        clear hK K z0 z1
        (try simp only [List.getElem_toArray, List.getElem_cons_succ, List.getElem_cons_zero, Act.put, List.setIfInBounds_toArray, List.set_cons_zero, List.set_cons_succ, bne_self_eq_false])
        refine wpAnyH_done (by kernel_rfl) ?_ _
        go_wp2_with fail
        exact HQ.out _ _ _ _ _ _ _ _ _ _ _ _ _ _ _ ⟨E3.out.cell (j := 0) rfl, D3.out⟩ ⟨E4.out.cell (j := 0) rfl, D4.out⟩ HB9.out
      · skip
        have HPQ := Lib.hid BP.out.lt
        go_simp
        have BQ := Lib.hid (Box.new w22 [.slice none 0 0] 24)
        have GQ := Lib.hid HBW.out.size
        replace FA := Lib.hid (FA.out.below ((Below.refl _ _).alloc (Nat.le_refl _) (.cells #[.slice none 0 0] 24)))
        replace FB := Lib.hid (FB.out.below ((Below.refl _ _).alloc (Nat.le_refl _) (.cells #[.slice none 0 0] 24)))
        replace FY := Lib.hid (FY.out.below ((Below.refl _ _).alloc (Nat.le_refl _) (.cells #[.slice none 0 0] 24)))
        replace BP := Lib.hid (BP.out.below ((Below.refl _ _).alloc (Nat.le_refl _) (.cells #[.slice none 0 0] 24)))
        replace P1 := Lib.hid (P1.out.below ((Below.refl _ _).alloc (Nat.le_refl _) (.cells #[.slice none 0 0] 24)))
        replace HBW := Lib.hid (HBW.out.alloc HBW.out.size (.cells #[.slice none 0 0] 24))
        refine hK.out _ _ (HS0.out _ HBW.out) (fun hHeld => ?_)
        clear hK K
        (try simp only [List.getElem_toArray, List.getElem_cons_succ, List.getElem_cons_zero, Act.put, List.setIfInBounds_toArray, List.set_cons_zero, List.set_cons_succ, bne_self_eq_false])
        generalize hwn25 : (w22.alloc (.cells #[.slice none 0 0] 24)) = w25 at *
        clear hwn25
        refine wpAnyH_ready (rs := [5]) (by kernel_rfl) (by simp) ?_
        refine (AllReadyH.cons rfl (fun K hK => ?_) AllReadyH.nil)
        go_simp
        refine (lput_any b bs _ _ _ FB.out FY.out).mono ?_
        rintro e w26 ⟨v26, bs26, rfl, ho, hst⟩
        replace FA := Lib.hid (FA.out.below hst)
        replace FB := Lib.hid (FB.out.below hst)
        replace FY := Lib.hid (FY.out.below hst)
        replace BP := Lib.hid (BP.out.below hst)
        replace P1 := Lib.hid (P1.out.below hst)
        replace BQ := Lib.hid (BQ.out.below hst)
        replace HBW := Lib.hid (below_chV HBW.out hst)
        obtain ⟨A26x, n26x, c26x, rfl⟩ := ho.reads.form
        have P2 := Lib.hid ho.reads
        clear ho hst
        refine hK.out _ _ (HS0.out _ HBW.out) (fun hHeld => ?_)
        clear hK K
        (try simp only [List.getElem_toArray, List.getElem_cons_succ, List.getElem_cons_zero, Act.put, List.setIfInBounds_toArray, List.set_cons_zero, List.set_cons_succ, bne_self_eq_false])
        refine wpAnyH_ready (rs := [8]) (by kernel_rfl) (by simp) ?_
        refine (AllReadyH.cons rfl (fun K hK => ?_) AllReadyH.nil)
        have z0 := BP.out.cell (j := 0) rfl
        have z1 := BP.out.frozen 0
        go_simp
        have HN1 : w22.heap.size ≠ wd.heap.size := by have := HPQ.out; omega
        have E1 := Lib.hid (BP.out.set 0 (.slice A22x n22x c22x))
        have E2 := Lib.hid (BQ.out.other (a := ⟨wd.heap.size, 0, none⟩) HN1 (.slice A22x n22x c22x))
        have D1 := Lib.hid (P1.out.store BP.out (.slice A22x n22x c22x))
        have D2 := Lib.hid (P2.out.store BP.out (.slice A22x n22x c22x))
        have HB8 := Lib.hid (HBW.out.setCell (p := ⟨wd.heap.size, 0, none⟩) (by exact GP.out) (.slice A22x n22x c22x))
        refine hK.out _ _ (HS0.out _ HB8.out) (fun hHeld => ?_)
        clear hK K z0 z1
        (try simp only [List.getElem_toArray, List.getElem_cons_succ, List.getElem_cons_zero, Act.put, List.setIfInBounds_toArray, List.set_cons_zero, List.set_cons_succ, bne_self_eq_false])
        refine wpAnyH_ready (rs := [9]) (by kernel_rfl) (by simp) ?_
        refine (AllReadyH.cons rfl (fun K hK => ?_) AllReadyH.nil)
        have z0 := E2.out.cell (j := 0) rfl
        have z1 := E2.out.frozen 0
        go_simp
        have E3 := Lib.hid (E1.out.other (a := ⟨w22.heap.size, 0, none⟩) (Ne.symm HN1) (.slice A26x n26x c26x))
        have E4 := Lib.hid (E2.out.set 0 (.slice A26x n26x c26x))
        have D3 := Lib.hid (D1.out.store E2.out (.slice A26x n26x c26x))
        have D4 := Lib.hid (D2.out.store E2.out (.slice A26x n26x c26x))
        have HB9 := Lib.hid (HB8.out.setCell (p := ⟨w22.heap.size, 0, none⟩) (by exact GQ.out) (.slice A26x n26x c26x))
        refine hK.out _ _ (HS0.out _ HB9.out) (fun hHeld => ?_)
        clear hK K z0 z1
        (try simp only [List.getElem_toArray, List.getElem_cons_succ, List.getElem_cons_zero, Act.put, List.setIfInBounds_toArray, List.set_cons_zero, List.set_cons_succ, bne_self_eq_false])
        refine wpAnyH_done (by kernel_rfl) ?_ _
        go_wp2_with fail
        exact HQ.out _ _ _ _ _ _ _ _ _ _ _ _ _ _ _ ⟨E3.out.cell (j := 0) rfl, D3.out⟩ ⟨E4.out.cell (j := 0) rfl, D4.out⟩ HB9.out
    · skip
      have HPQ := Lib.hid BP.out.lt
      go_simp
      have BQ := Lib.hid (Box.new w21 [.slice none 0 0] 24)
      have GQ := Lib.hid HBW.out.size
      replace FA := Lib.hid (FA.out.below ((Below.refl _ _).alloc (Nat.le_refl _) (.cells #[.slice none 0 0] 24)))
      replace FB := Lib.hid (FB.out.below ((Below.refl _ _).alloc (Nat.le_refl _) (.cells #[.slice none 0 0] 24)))
      replace FY := Lib.hid (FY.out.below ((Below.refl _ _).alloc (Nat.le_refl _) (.cells #[.slice none 0 0] 24)))
      replace BP := Lib.hid (BP.out.below ((Below.refl _ _).alloc (Nat.le_refl _) (.cells #[.slice none 0 0] 24)))
      replace HBW := Lib.hid (HBW.out.alloc HBW.out.size (.cells #[.slice none 0 0] 24))
      refine hK.out _ _ (HS0.out _ HBW.out) (fun hHeld => ?_)
      clear hK K
      (try simp only [List.getElem_toArray, List.getElem_cons_succ, List.getElem_cons_zero, Act.put, List.setIfInBounds_toArray, List.set_cons_zero, List.set_cons_succ, bne_self_eq_false])
      generalize hwn27 : (w21.alloc (.cells #[.slice none 0 0] 24)) = w27 at *
      clear hwn27
      refine wpAnyH_ready (rs := [2]) (by kernel_rfl) (by simp) ?_
      refine (AllReadyH.cons rfl (fun K hK => ?_) AllReadyH.nil)
      go_simp
      refine (lput_any a bs _ _ _ FA.out FY.out).mono ?_
      rintro e w28 ⟨v28, bs28, rfl, ho, hst⟩
      replace FA := Lib.hid (FA.out.below hst)
      replace FB := Lib.hid (FB.out.below hst)
      replace FY := Lib.hid (FY.out.below hst)
      replace BP := Lib.hid (BP.out.below hst)
      replace BQ := Lib.hid (BQ.out.below hst)
      replace HBW := Lib.hid (below_chV HBW.out hst)
      obtain ⟨A28x, n28x, c28x, rfl⟩ := ho.reads.form
      have P1 := Lib.hid ho.reads
      clear ho hst
      refine hK.out _ _ (HS0.out _ HBW.out) (fun hHeld => ?_)
      clear hK K
      (try simp only [List.getElem_toArray, List.getElem_cons_succ, List.getElem_cons_zero, Act.put, List.setIfInBounds_toArray, List.set_cons_zero, List.set_cons_succ, bne_self_eq_false])
      refine wpAnyH_ready (rs := [5]) (by kernel_rfl) (by simp) ?_
      refine (AllReadyH.cons rfl (fun K hK => ?_) AllReadyH.nil)
      go_simp
      refine (lput_any b bs _ _ _ FB.out FY.out).mono ?_
      rintro e w29 ⟨v29, bs29, rfl, ho, hst⟩
      replace FA := Lib.hid (FA.out.below hst)
      replace FB := Lib.hid (FB.out.below hst)
      replace FY := Lib.hid (FY.out.below hst)
      replace BP := Lib.hid (BP.out.below hst)
      replace BQ := Lib.hid (BQ.out.below hst)
      replace P1 := Lib.hid (P1.out.below hst)
      replace HBW := Lib.hid (below_chV HBW.out hst)
      obtain ⟨A29x, n29x, c29x, rfl⟩ := ho.reads.form
      have P2 := Lib.hid ho.reads
      clear ho hst
      refine hK.out _ _ (HS0.out _ HBW.out) (fun hHeld => ?_)
      clear hK K
      (try simp only [List.getElem_toArray, List.getElem_cons_succ, List.getElem_cons_zero, Act.put, List.setIfInBounds_toArray, List.set_cons_zero, List.set_cons_succ, bne_self_eq_false])
      refine wpAnyH_ready (rs := [8]) (by kernel_rfl) (by simp) ?_
      refine (AllReadyH.cons rfl (fun K hK => ?_) AllReadyH.nil)
      have z0 := BP.out.cell (j := 0) rfl
      have z1 := BP.out.frozen 0
      go_simp
      have HN1 : w21.heap.size ≠ wd.heap.size := by have := HPQ.out; omega
      have E1 := Lib.hid (BP.out.set 0 (.slice A28x n28x c28x))
      have E2 := Lib.hid (BQ.out.other (a := ⟨wd.heap.size, 0, none⟩) HN1 (.slice A28x n28x c28x))
      have D1 := Lib.hid (P1.out.store BP.out (.slice A28x n28x c28x))
      have D2 := Lib.hid (P2.out.store BP.out (.slice A28x n28x c28x))
      have HB8 := Lib.hid (HBW.out.setCell (p := ⟨wd.heap.size, 0, none⟩) (by exact GP.out) (.slice A28x n28x c28x))
      refine hK.out _ _ (HS0.out _ HB8.out) (fun hHeld => ?_)
      clear hK K z0 z1
      (try simp only [List.getElem_toArray, List.getElem_cons_succ, List.getElem_cons_zero, Act.put, List.setIfInBounds_toArray, List.set_cons_zero, List.set_cons_succ, bne_self_eq_false])
      refine wpAnyH_ready (rs := [9]) (by kernel_rfl) (by simp) ?_
      refine (AllReadyH.cons rfl (fun K hK => ?_) AllReadyH.nil)
      have z0 := E2.out.cell (j := 0) rfl
      have z1 := E2.out.frozen 0
      go_simp
      have E3 := Lib.hid (E1.out.other (a := ⟨w21.heap.size, 0, none⟩) (Ne.symm HN1) (.slice A29x n29x c29x))
      have E4 := Lib.hid (E2.out.set 0 (.slice A29x n29x c29x))
      have D3 := Lib.hid (D1.out.store E2.out (.slice A29x n29x c29x))
      have D4 := Lib.hid (D2.out.store E2.out (.slice A29x n29x c29x))
      have HB9 := Lib.hid (HB8.out.setCell (p := ⟨w21.heap.size, 0, none⟩) (by exact GQ.out) (.slice A29x n29x c29x))
      refine hK.out _ _ (HS0.out _ HB9.out) (fun hHeld => ?_)
      clear hK K z0 z1
      (try simp only [List.getElem_toArray, List.getElem_cons_succ, List.getElem_cons_zero, Act.put, List.setIfInBounds_toArray, List.set_cons_zero, List.set_cons_succ, bne_self_eq_false])
      refine wpAnyH_done (by kernel_rfl) ?_ _
      go_wp2_with fail
      exact HQ.out _ _ _ _ _ _ _ _ _ _ _ _ _ _ _ ⟨E3.out.cell (j := 0) rfl, D3.out⟩ ⟨E4.out.cell (j := 0) rfl, D4.out⟩ HB9.out
  · skip
    go_simp
    have BQ := Lib.hid (Box.new wd [.slice none 0 0] 24)
    have GQ := Lib.hid HBW.out.size
    replace FA := Lib.hid (FA.out.below ((Below.refl _ _).alloc (Nat.le_refl _) (.cells #[.slice none 0 0] 24)))
    replace FB := Lib.hid (FB.out.below ((Below.refl _ _).alloc (Nat.le_refl _) (.cells #[.slice none 0 0] 24)))
    replace FY := Lib.hid (FY.out.below ((Below.refl _ _).alloc (Nat.le_refl _) (.cells #[.slice none 0 0] 24)))
    replace HBW := Lib.hid (HBW.out.alloc HBW.out.size (.cells #[.slice none 0 0] 24))
    refine hK.out _ _ (HS0.out _ HBW.out) (fun hHeld => ?_)
    clear hK K
    (try simp only [List.getElem_toArray, List.getElem_cons_succ, List.getElem_cons_zero, Act.put, List.setIfInBounds_toArray, List.set_cons_zero, List.set_cons_succ, bne_self_eq_false])
    generalize hwn30 : (wd.alloc (.cells #[.slice none 0 0] 24)) = w30 at *
    clear hwn30
    refine wpAnyH_ready (rs := [2, 6]) (by kernel_rfl) (by simp) ?_
    refine (AllReadyH.cons rfl (fun K hK => ?_) (AllReadyH.cons rfl (fun K hK => ?_) AllReadyH.nil))
    · skip
      go_simp
      refine (lput_any a bs _ _ _ FA.out FY.out).mono ?_
      rintro e w31 ⟨v31, bs31, rfl, ho, hst⟩
      replace FA := Lib.hid (FA.out.below hst)
      replace FB := Lib.hid (FB.out.below hst)
      replace FY := Lib.hid (FY.out.below hst)
      replace BQ := Lib.hid (BQ.out.below hst)
      replace HBW := Lib.hid (below_chV HBW.out hst)
      obtain ⟨A31x, n31x, c31x, rfl⟩ := ho.reads.form
      have P1 := Lib.hid ho.reads
      clear ho hst
      refine hK.out _ _ (HS0.out _ HBW.out) (fun hHeld => ?_)
      clear hK K
      (try simp only [List.getElem_toArray, List.getElem_cons_succ, List.getElem_cons_zero, Act.put, List.setIfInBounds_toArray, List.set_cons_zero, List.set_cons_succ, bne_self_eq_false])
      refine wpAnyH_ready (rs := [5, 6]) (by kernel_rfl) (by simp) ?_
      refine (AllReadyH.cons rfl (fun K hK => ?_) (AllReadyH.cons rfl (fun K hK => ?_) AllReadyH.nil))
      · skip
        go_simp
        refine (lput_any b bs _ _ _ FB.out FY.out).mono ?_
        rintro e w32 ⟨v32, bs32, rfl, ho, hst⟩
        replace FA := Lib.hid (FA.out.below hst)
        replace FB := Lib.hid (FB.out.below hst)
        replace FY := Lib.hid (FY.out.below hst)
        replace BQ := Lib.hid (BQ.out.below hst)
        replace P1 := Lib.hid (P1.out.below hst)
        replace HBW := Lib.hid (below_chV HBW.out hst)
        obtain ⟨A32x, n32x, c32x, rfl⟩ := ho.reads.form
        have P2 := Lib.hid ho.reads
        clear ho hst
        refine hK.out _ _ (HS0.out _ HBW.out) (fun hHeld => ?_)
        clear hK K
        (try simp only [List.getElem_toArray, List.getElem_cons_succ, List.getElem_cons_zero, Act.put, List.setIfInBounds_toArray, List.set_cons_zero, List.set_cons_succ, bne_self_eq_false])
        refine wpAnyH_ready (rs := [6]) (by kernel_rfl) (by simp) ?_
        refine (AllReadyH.cons rfl (fun K hK => ?_) AllReadyH.nil)
        have HPQ := Lib.hid BQ.out.lt
        go_simp
        have BP := Lib.hid (Box.new w32 [.slice none 0 0] 24)
        have GP := Lib.hid HBW.out.size
        replace FA := Lib.hid (FA.out.below ((Below.refl _ _).alloc (Nat.le_refl _) (.cells #[.slice none 0 0] 24)))
        replace FB := Lib.hid (FB.out.below ((Below.refl _ _).alloc (Nat.le_refl _) (.cells #[.slice none 0 0] 24)))
        replace FY := Lib.hid (FY.out.below ((Below.refl _ _).alloc (Nat.le_refl _) (.cells #[.slice none 0 0] 24)))
        replace BQ := Lib.hid (BQ.out.below ((Below.refl _ _).alloc (Nat.le_refl _) (.cells #[.slice none 0 0] 24)))
        replace P1 := Lib.hid (P1.out.below ((Below.refl _ _).alloc (Nat.le_refl _) (.cells #[.slice none 0 0] 24)))
        replace P2 := Lib.hid (P2.out.below ((Below.refl _ _).alloc (Nat.le_refl _) (.cells #[.slice none 0 0] 24)))
        replace HBW := Lib.hid (HBW.out.alloc HBW.out.size (.cells #[.slice none 0 0] 24))
        refine hK.out _ _ (HS0.out _ HBW.out) (fun hHeld => ?_)
        clear hK K
        (try simp only [List.getElem_toArray, List.getElem_cons_succ, List.getElem_cons_zero, Act.put, List.setIfInBounds_toArray, List.set_cons_zero, List.set_cons_succ, bne_self_eq_false])
        generalize hwn33 : (w32.alloc (.cells #[.slice none 0 0] 24)) = w33 at *
        clear hwn33
        refine wpAnyH_ready (rs := [8]) (by kernel_rfl) (by simp) ?_
        refine (AllReadyH.cons rfl (fun K hK => ?_) AllReadyH.nil)
        have z0 := BP.out.cell (j := 0) rfl
        have z1 := BP.out.frozen 0
        go_simp
        have HN1 : wd.heap.size ≠ w32.heap.size := by have := HPQ.out; omega
        have E1 := Lib.hid (BP.out.set 0 (.slice A31x n31x c31x))
        have E2 := Lib.hid (BQ.out.other (a := ⟨w32.heap.size, 0, none⟩) HN1 (.slice A31x n31x c31x))
        have D1 := Lib.hid (P1.out.store BP.out (.slice A31x n31x c31x))
        have D2 := Lib.hid (P2.out.store BP.out (.slice A31x n31x c31x))
        have HB8 := Lib.hid (HBW.out.setCell (p := ⟨w32.heap.size, 0, none⟩) (by exact GP.out) (.slice A31x n31x c31x))
        refine hK.out _ _ (HS0.out _ HB8.out) (fun hHeld => ?_)
        clear hK K z0 z1
        (try simp only [List.getElem_toArray, List.getElem_cons_succ, List.getElem_cons_zero, Act.put, List.setIfInBounds_toArray, List.set_cons_zero, List.set_cons_succ, bne_self_eq_false])
        refine wpAnyH_ready (rs := [9]) (by kernel_rfl) (by simp) ?_
        refine (AllReadyH.cons rfl (fun K hK => ?_) AllReadyH.nil)
        have z0 := E2.out.cell (j := 0) rfl
        have z1 := E2.out.frozen 0
        go_simp
        have E3 := Lib.hid (E1.out.other (a := ⟨wd.heap.size, 0, none⟩) (Ne.symm HN1) (.slice A32x n32x c32x))
        have E4 := Lib.hid (E2.out.set 0 (.slice A32x n32x c32x))
        have D3 := Lib.hid (D1.out.store E2.out (.slice A32x n32x c32x))
        have D4 := Lib.hid (D2.out.store E2.out (.slice A32x n32x c32x))
        have HB9 := Lib.hid (HB8.out.setCell (p := ⟨wd.heap.size, 0, none⟩) (by exact GQ.out) (.slice A32x n32x c32x))
        refine hK.out _ _ (HS0.out _ HB9.out) (fun hHeld => ?_)
        clear hK K z0 z1
        (try simp only [List.getElem_toArray, List.getElem_cons_succ, List.getElem_cons_zero, Act.put, List.setIfInBounds_toArray, List.set_cons_zero, List.set_cons_succ, bne_self_eq_false])
        refine wpAnyH_done (by kernel_rfl) ?_ _
        go_wp2_with fail
        exact HQ.out _ _ _ _ _ _ _ _ _ _ _ _ _ _ _ ⟨E3.out.cell (j := 0) rfl, D3.out⟩ ⟨E4.out.cell (j := 0) rfl, D4.out⟩ HB9.out
      · skip
        have HPQ := Lib.hid BQ.out.lt
        go_simp
        have BP := Lib.hid (Box.new w31 [.slice none 0 0] 24)
        have GP := Lib.hid HBW.out.size
        replace FA := Lib.hid (FA.out.below ((Below.refl _ _).alloc (Nat.le_refl _) (.cells #[.slice none 0 0] 24)))
        replace FB := Lib.hid (FB.out.below ((Below.refl _ _).alloc (Nat.le_refl _) (.cells #[.slice none 0 0] 24)))
        replace FY := Lib.hid (FY.out.below ((Below.refl _ _).alloc (Nat.le_refl _) (.cells #[.slice none 0 0] 24)))
        replace BQ := Lib.hid (BQ.out.below ((Below.refl _ _).alloc (Nat.le_refl _) (.cells #[.slice none 0 0] 24)))
        replace P1 := Lib.hid (P1.out.below ((Below.refl _ _).alloc (Nat.le_refl _) (.cells #[.slice none 0 0] 24)))
        replace HBW := Lib.hid (HBW.out.alloc HBW.out.size (.cells #[.slice none 0 0] 24))
        refine hK.out _ _ (HS0.out _ HBW.out) (fun hHeld => ?_)
        clear hK K
        (try simp only [List.getElem_toArray, List.getElem_cons_succ, List.getElem_cons_zero, Act.put, List.setIfInBounds_toArray, List.set_cons_zero, List.set_cons_succ, bne_self_eq_false])
        generalize hwn34 : (w31.alloc (.cells #[.slice none 0 0] 24)) = w34 at *
        clear hwn34
        refine wpAnyH_ready (rs := [5]) (by kernel_rfl) (by simp) ?_
        refine (AllReadyH.cons rfl (fun K hK => ?_) AllReadyH.nil)
        go_simp
        refine (lput_any b bs _ _ _ FB.out FY.out).mono ?_
        rintro e w35 ⟨v35, bs35, rfl, ho, hst⟩
        replace FA := Lib.hid (FA.out.below hst)
        replace FB := Lib.hid (FB.out.below hst)
        replace FY := Lib.hid (FY.out.below hst)
        replace BQ := Lib.hid (BQ.out.below hst)
        replace P1 := Lib.hid (P1.out.below hst)
        replace BP := Lib.hid (BP.out.below hst)
        replace HBW := Lib.hid (below_chV HBW.out hst)
        obtain ⟨A35x, n35x, c35x, rfl⟩ := ho.reads.form
        have P2 := Lib.hid ho.reads
        clear ho hst
        refine hK.out _ _ (HS0.out _ HBW.out) (fun hHeld => ?_)
        clear hK K
        (try simp only [List.getElem_toArray, List.getElem_cons_succ, List.getElem_cons_zero, Act.put, List.setIfInBounds_toArray, List.set_cons_zero, List.set_cons_succ, bne_self_eq_false])
        refine wpAnyH_ready (rs := [8]) (by kernel_rfl) (by simp) ?_
        refine (AllReadyH.cons rfl (fun K hK => ?_) AllReadyH.nil)
        have z0 := BP.out.cell (j := 0) rfl
        have z1 := BP.out.frozen 0
        go_simp
        have HN1 : wd.heap.size ≠ w31.heap.size := by have := HPQ.out; omega
        have E1 := Lib.hid (BP.out.set 0 (.slice A31x n31x c31x))
        have E2 := Lib.hid (BQ.out.other (a := ⟨w31.heap.size, 0, none⟩) HN1 (.slice A31x n31x c31x))
        have D1 := Lib.hid (P1.out.store BP.out (.slice A31x n31x c31x))
        have D2 := Lib.hid (P2.out.store BP.out (.slice A31x n31x c31x))
        have HB8 := Lib.hid (HBW.out.setCell (p := ⟨w31.heap.size, 0, none⟩) (by exact GP.out) (.slice A31x n31x c31x))
        refine hK.out _ _ (HS0.out _ HB8.out) (fun hHeld => ?_)
        clear hK K z0 z1
        (try simp only [List.getElem_toArray, List.getElem_cons_succ, List.getElem_cons_zero, Act.put, List.setIfInBounds_toArray, List.set_cons_zero, List.set_cons_succ, bne_self_eq_false])
        refine wpAnyH_ready (rs := [9]) (by kernel_rfl) (by simp) ?_
        refine (AllReadyH.cons rfl (fun K hK => ?_) AllReadyH.nil)
        have z0 := E2.out.cell (j := 0) rfl
        have z1 := E2.out.frozen 0
        go_simp
        have E3 := Lib.hid (E1.out.other (a := ⟨wd.heap.size, 0, none⟩) (Ne.symm HN1) (.slice A35x n35x c35x))
        have E4 := Lib.hid (E2.out.set 0 (.slice A35x n35x c35x))
        have D3 := Lib.hid (D1.out.store E2.out (.slice A35x n35x c35x))
        have D4 := Lib.hid (D2.out.store E2.out (.slice A35x n35x c35x))
        have HB9 := Lib.hid (HB8.out.setCell (p := ⟨wd.heap.size, 0, none⟩) (by exact GQ.out) (.slice A35x n35x c35x))
        refine hK.out _ _ (HS0.out _ HB9.out) (fun hHeld => ?_)
        clear hK K z0 z1
        (try simp only [List.getElem_toArray, List.getElem_cons_succ, List.getElem_cons_zero, Act.put, List.setIfInBounds_toArray, List.set_cons_zero, List.set_cons_succ, bne_self_eq_false])
        refine wpAnyH_done (by kernel_rfl) ?_ _
        go_wp2_with fail
        exact HQ.out _ _ _ _ _ _ _ _ _ _ _ _ _ _ _ ⟨E3.out.cell (j := 0) rfl, D3.out⟩ ⟨E4.out.cell (j := 0) rfl, D4.out⟩ HB9.out
    · skip
      have HPQ := Lib.hid BQ.out.lt
      go_simp
      have BP := Lib.hid (Box.new w30 [.slice none 0 0] 24)
      have GP := Lib.hid HBW.out.size
      replace FA := Lib.hid (FA.out.below ((Below.refl _ _).alloc (Nat.le_refl _) (.cells #[.slice none 0 0] 24)))
      replace FB := Lib.hid (FB.out.below ((Below.refl _ _).alloc (Nat.le_refl _) (.cells #[.slice none 0 0] 24)))
      replace FY := Lib.hid (FY.out.below ((Below.refl _ _).alloc (Nat.le_refl _) (.cells #[.slice none 0 0] 24)))
      replace BQ := Lib.hid (BQ.out.below ((Below.refl _ _).alloc (Nat.le_refl _) (.cells #[.slice none 0 0] 24)))
      replace HBW := Lib.hid (HBW.out.alloc HBW.out.size (.cells #[.slice none 0 0] 24))
      refine hK.out _ _ (HS0.out _ HBW.out) (fun hHeld => ?_)
      clear hK K
      (try simp only [List.getElem_toArray, List.getElem_cons_succ, List.getElem_cons_zero, Act.put, List.setIfInBounds_toArray, List.set_cons_zero, List.set_cons_succ, bne_self_eq_false])
      generalize hwn36 : (w30.alloc (.cells #[.slice none 0 0] 24)) = w36 at *
      clear hwn36
      refine wpAnyH_ready (rs := [2]) (by kernel_rfl) (by simp) ?_
      refine (AllReadyH.cons rfl (fun K hK => ?_) AllReadyH.nil)
      go_simp
      refine (lput_any a bs _ _ _ FA.out FY.out).mono ?_
      rintro e w37 ⟨v37, bs37, rfl, ho, hst⟩
      replace FA := Lib.hid (FA.out.below hst)
      replace FB := Lib.hid (FB.out.below hst)
      replace FY := Lib.hid (FY.out.below hst)
      replace BQ := Lib.hid (BQ.out.below hst)
      replace BP := Lib.hid (BP.out.below hst)
      replace HBW := Lib.hid (below_chV HBW.out hst)
      obtain ⟨A37x, n37x, c37x, rfl⟩ := ho.reads.form
      have P1 := Lib.hid ho.reads
      clear ho hst
      refine hK.out _ _ (HS0.out _ HBW.out) (fun hHeld => ?_)
      clear hK K
      (try simp only [List.getElem_toArray, List.getElem_cons_succ, List.getElem_cons_zero, Act.put, List.setIfInBounds_toArray, List.set_cons_zero, List.set_cons_succ, bne_self_eq_false])
      refine wpAnyH_ready (rs := [5]) (by kernel_rfl) (by simp) ?_
      refine (AllReadyH.cons rfl (fun K hK => ?_) AllReadyH.nil)
      go_simp
      refine (lput_any b bs _ _ _ FB.out FY.out).mono ?_
      rintro e w38 ⟨v38, bs38, rfl, ho, hst⟩
      replace FA := Lib.hid (FA.out.below hst)
      replace FB := Lib.hid (FB.out.below hst)
      replace FY := Lib.hid (FY.out.below hst)
      replace BQ := Lib.hid (BQ.out.below hst)
      replace BP := Lib.hid (BP.out.below hst)
      replace P1 := Lib.hid (P1.out.below hst)
      replace HBW := Lib.hid (below_chV HBW.out hst)
      obtain ⟨A38x, n38x, c38x, rfl⟩ := ho.reads.form
      have P2 := Lib.hid ho.reads
      clear ho hst
      refine hK.out _ _ (HS0.out _ HBW.out) (fun hHeld => ?_)
      clear hK K
      (try simp only [List.getElem_toArray, List.getElem_cons_succ, List.getElem_cons_zero, Act.put, List.setIfInBounds_toArray, List.set_cons_zero, List.set_cons_succ, bne_self_eq_false])
      refine wpAnyH_ready (rs := [8]) (by kernel_rfl) (by simp) ?_
      refine (AllReadyH.cons rfl (fun K hK => ?_) AllReadyH.nil)
      have z0 := BP.out.cell (j := 0) rfl
      have z1 := BP.out.frozen 0
      go_simp
      have HN1 : wd.heap.size ≠ w30.heap.size := by have := HPQ.out; omega
      have E1 := Lib.hid (BP.out.set 0 (.slice A37x n37x c37x))
      have E2 := Lib.hid (BQ.out.other (a := ⟨w30.heap.size, 0, none⟩) HN1 (.slice A37x n37x c37x))
      have D1 := Lib.hid (P1.out.store BP.out (.slice A37x n37x c37x))
      have D2 := Lib.hid (P2.out.store BP.out (.slice A37x n37x c37x))
      have HB8 := Lib.hid (HBW.out.setCell (p := ⟨w30.heap.size, 0, none⟩) (by exact GP.out) (.slice A37x n37x c37x))
      refine hK.out _ _ (HS0.out _ HB8.out) (fun hHeld => ?_)
      clear hK K z0 z1
      (try simp only [List.getElem_toArray, List.getElem_cons_succ, List.getElem_cons_zero, Act.put, List.setIfInBounds_toArray, List.set_cons_zero, List.set_cons_succ, bne_self_eq_false])
      refine wpAnyH_ready (rs := [9]) (by kernel_rfl) (by simp) ?_
      refine (AllReadyH.cons rfl (fun K hK => ?_) AllReadyH.nil)
      have z0 := E2.out.cell (j := 0) rfl
      have z1 := E2.out.frozen 0
      go_simp
      have E3 := Lib.hid (E1.out.other (a := ⟨wd.heap.size, 0, none⟩) (Ne.symm HN1) (.slice A38x n38x c38x))
      have E4 := Lib.hid (E2.out.set 0 (.slice A38x n38x c38x))
      have D3 := Lib.hid (D1.out.store E2.out (.slice A38x n38x c38x))
      have D4 := Lib.hid (D2.out.store E2.out (.slice A38x n38x c38x))
      have HB9 := Lib.hid (HB8.out.setCell (p := ⟨wd.heap.size, 0, none⟩) (by exact GQ.out) (.slice A38x n38x c38x))
      refine hK.out _ _ (HS0.out _ HB9.out) (fun hHeld => ?_)
      clear hK K z0 z1
      (try simp only [List.getElem_toArray, List.getElem_cons_succ, List.getElem_cons_zero, Act.put, List.setIfInBounds_toArray, List.set_cons_zero, List.set_cons_succ, bne_self_eq_false])
      refine wpAnyH_done (by kernel_rfl) ?_ _
      go_wp2_with fail
      exact HQ.out _ _ _ _ _ _ _ _ _ _ _ _ _ _ _ ⟨E3.out.cell (j := 0) rfl, D3.out⟩ ⟨E4.out.cell (j := 0) rfl, D4.out⟩ HB9.out

end Go.Proofs.Ytgegaipkfpdocaa
