/-
  THE WALK OF TermMeets: its last region but two.
-/
import Derived.Test.YtajpkhkfffdclaaDoorMeets8
namespace Go.Proofs.YtajpkhkfffdclaaDoor
open Go.RowKit

set_option maxRecDepth 100000 in
set_option maxHeartbeats 16000000 in
theorem meets7 (t a b q p1 : Tm) (A1 A2 A3 A4 A5 A6 : Option Addr) (n1 c1 n2 c2 n3 c3 n4 c4 n5 c5 n6 c6 N : Nat) (w1 : World) (u0 u1 u2 u3 u7 u8 u9 u10 u11 u12 u13 u14 u15 u16 u17 u18 u19 u20 u21 u22 u23 u24 u25 u26 u27 u28 u29 u30 u31 u32 u33 u34 u35 u36 u37 u38 u39 u40 u41 u42 u43 u44 u45 u46 u47 u48 u49 u50 u51 u52 u53 u54 u55 u56 u57 u58 u59 u60 u61 u62 u63 u64 u65 u66 u67 : Value)
    (HX : Hid (w1.cell? ⟨N, 0, none⟩ = some (.int .i64 t.kind) ∧ w1.cell? ⟨N, 1, none⟩ = some (.int .i64 t.num) ∧ w1.cell? ⟨N, 2, none⟩ = some (.int .i64 t.atN) ∧ w1.cell? ⟨N, 3, none⟩ = some (.slice A1 n1 c1) ∧ w1.cell? ⟨N, 4, none⟩ = some (.slice A2 n2 c2) ∧ w1.cell? ⟨(N + 1), 0, none⟩ = some (.int .i64 a.kind) ∧ w1.cell? ⟨(N + 1), 1, none⟩ = some (.int .i64 a.num) ∧ w1.cell? ⟨(N + 1), 2, none⟩ = some (.int .i64 a.atN) ∧ w1.cell? ⟨(N + 1), 3, none⟩ = some (.slice A3 n3 c3) ∧ w1.cell? ⟨(N + 1), 4, none⟩ = some (.slice A4 n4 c4) ∧ w1.cell? ⟨(N + 2), 0, none⟩ = some (.int .i64 b.kind) ∧ w1.cell? ⟨(N + 2), 1, none⟩ = some (.int .i64 b.num) ∧ w1.cell? ⟨(N + 2), 2, none⟩ = some (.int .i64 b.atN) ∧ w1.cell? ⟨(N + 2), 3, none⟩ = some (.slice A5 n5 c5) ∧ w1.cell? ⟨(N + 2), 4, none⟩ = some (.slice A6 n6 c6) ∧ Below w1.heap.size w1 w1)) (hK0 : Kinds w1) (ht : RT w1 t (.slice A1 n1 c1) (.slice A2 n2 c2)) (ha : RT w1 a (.slice A3 n3 c3) (.slice A4 n4 c4)) (hb : RT w1 b (.slice A5 n5 c5) (.slice A6 n6 c6))
    (HPA : Hid (∀ vb W, Kinds W → RT W t (.slice A1 n1 c1) (.slice A2 n2 c2) → RKv W [a] vb → Calls Tryd.prog 13 #[.agg #[.int .i64 t.kind, .int .i64 t.num, .int .i64 t.atN, .slice A1 n1 c1, .slice A2 n2 c2], vb] W (GivesT p1 W)))
    (HPB : Hid (∀ vl vk vb W, Kinds W → RT W p1 vl vk → RKv W [b] vb → Calls Tryd.prog 13 #[.agg #[.int .i64 p1.kind, .int .i64 p1.num, .int .i64 p1.atN, vl, vk], vb] W (MadeT q W)))
    (code : Code) (hc : Tryd.f3.body.bind (regionAt 7) = some code) (K : Act → World → Prop)
    (hQ : ∀ v50 v51 v52 v53 v54 v55 v56 (bz : Nat) (A : Option Addr) (n c : Nat) (A' : Option Addr) (n' c' : Nat) wc, Box wc bz [.int .i64 q.kind, .int .i64 q.num, .int .i64 q.atN, .slice A n c, .slice A' n' c'] → RT wc q (.slice A n c) (.slice A' n' c') → Below w1.heap.size w1 wc →
      K { tmps := List.toArray (u0 :: u1 :: u2 :: u3 :: .pointer (some ⟨N, 0, none⟩) :: .pointer (some ⟨N + 1, 0, none⟩) :: .pointer (some ⟨N + 1 + 1, 0, none⟩) :: u7 :: u8 :: .pointer (some ⟨bz, 0, none⟩) :: u10 :: u11 :: u12 :: u13 :: u14 :: u15 :: u16 :: u17 :: u18 :: u19 :: u20 :: u21 :: u22 :: u23 :: u24 :: u25 :: u26 :: u27 :: u28 :: u29 :: u30 :: u31 :: u32 :: u33 :: u34 :: u35 :: u36 :: u37 :: u38 :: u39 :: u40 :: u41 :: u42 :: u43 :: u44 :: u45 :: u46 :: u47 :: u48 :: u49 :: v50 :: v51 :: v52 :: v53 :: v54 :: v55 :: v56 :: u57 :: u58 :: u59 :: u60 :: u61 :: u62 :: u63 :: u64 :: u65 :: u66 :: u67 :: []), defers := [] } wc) :
    code.wp Tryd.prog (Exit.then K fun _ _ _ => False) { tmps := List.toArray (u0 :: u1 :: u2 :: u3 :: .pointer (some ⟨N, 0, none⟩) :: .pointer (some ⟨N + 1, 0, none⟩) :: .pointer (some ⟨N + 1 + 1, 0, none⟩) :: u7 :: u8 :: u9 :: u10 :: u11 :: u12 :: u13 :: u14 :: u15 :: u16 :: u17 :: u18 :: u19 :: u20 :: u21 :: u22 :: u23 :: u24 :: u25 :: u26 :: u27 :: u28 :: u29 :: u30 :: u31 :: u32 :: u33 :: u34 :: u35 :: u36 :: u37 :: u38 :: u39 :: u40 :: u41 :: u42 :: u43 :: u44 :: u45 :: u46 :: u47 :: u48 :: u49 :: u50 :: u51 :: u52 :: u53 :: u54 :: u55 :: u56 :: u57 :: u58 :: u59 :: u60 :: u61 :: u62 :: u63 :: u64 :: u65 :: u66 :: u67 :: []), defers := [] } w1 := by
  simp only [Tryd.f3, regionAt, Option.bind_some, Nat.reduceEqDiff, if_true, if_false, reduceIte, Option.some.injEq] at hc
  subst hc
  have HQ := Lib.hid hQ
  clear hQ
  have hS0 : w1.drew.cell? ⟨N, 0, none⟩ = some (.int .i64 t.kind) ∧ w1.drew.cell? ⟨N, 1, none⟩ = some (.int .i64 t.num) ∧ w1.drew.cell? ⟨N, 2, none⟩ = some (.int .i64 t.atN) ∧ w1.drew.cell? ⟨N, 3, none⟩ = some (.slice A1 n1 c1) ∧ w1.drew.cell? ⟨N, 4, none⟩ = some (.slice A2 n2 c2) ∧ w1.drew.cell? ⟨(N + 1), 0, none⟩ = some (.int .i64 a.kind) ∧ w1.drew.cell? ⟨(N + 1), 1, none⟩ = some (.int .i64 a.num) ∧ w1.drew.cell? ⟨(N + 1), 2, none⟩ = some (.int .i64 a.atN) ∧ w1.drew.cell? ⟨(N + 1), 3, none⟩ = some (.slice A3 n3 c3) ∧ w1.drew.cell? ⟨(N + 1), 4, none⟩ = some (.slice A4 n4 c4) ∧ w1.drew.cell? ⟨(N + 2), 0, none⟩ = some (.int .i64 b.kind) ∧ w1.drew.cell? ⟨(N + 2), 1, none⟩ = some (.int .i64 b.num) ∧ w1.drew.cell? ⟨(N + 2), 2, none⟩ = some (.int .i64 b.atN) ∧ w1.drew.cell? ⟨(N + 2), 3, none⟩ = some (.slice A5 n5 c5) ∧ w1.drew.cell? ⟨(N + 2), 4, none⟩ = some (.slice A6 n6 c6) ∧ Below w1.heap.size w1 w1.drew := sMake ((Below.refl _ _).drew) HX.out
  refine wp_region_held_drew (S := (fun w' => w'.cell? ⟨N, 0, none⟩ = some (.int .i64 t.kind) ∧ w'.cell? ⟨N, 1, none⟩ = some (.int .i64 t.num) ∧ w'.cell? ⟨N, 2, none⟩ = some (.int .i64 t.atN) ∧ w'.cell? ⟨N, 3, none⟩ = some (.slice A1 n1 c1) ∧ w'.cell? ⟨N, 4, none⟩ = some (.slice A2 n2 c2) ∧ w'.cell? ⟨(N + 1), 0, none⟩ = some (.int .i64 a.kind) ∧ w'.cell? ⟨(N + 1), 1, none⟩ = some (.int .i64 a.num) ∧ w'.cell? ⟨(N + 1), 2, none⟩ = some (.int .i64 a.atN) ∧ w'.cell? ⟨(N + 1), 3, none⟩ = some (.slice A3 n3 c3) ∧ w'.cell? ⟨(N + 1), 4, none⟩ = some (.slice A4 n4 c4) ∧ w'.cell? ⟨(N + 2), 0, none⟩ = some (.int .i64 b.kind) ∧ w'.cell? ⟨(N + 2), 1, none⟩ = some (.int .i64 b.num) ∧ w'.cell? ⟨(N + 2), 2, none⟩ = some (.int .i64 b.atN) ∧ w'.cell? ⟨(N + 2), 3, none⟩ = some (.slice A5 n5 c5) ∧ w'.cell? ⟨(N + 2), 4, none⟩ = some (.slice A6 n6 c6) ∧ Below w1.heap.size w1 w')) (by kernel_rfl) hS0 (fun hHeld => ?_)
  refine wpAnyH_take (i := 0) (v := ?v0) rfl (by kernel_rfl) (by kernel_rfl) (by kernel_rfl) (fun _ _ _ h => h) (Or.inl ⟨by rfl, ?hy0⟩) (by assumption) ?rest0
  case hy0 => intro w hSw; (try dsimp only at hSw); go_simp; try with_reducible rfl
  (try simp only [List.getElem_toArray, List.getElem_cons_succ, List.getElem_cons_zero, Act.put, List.setIfInBounds_toArray, List.set_cons_zero, List.set_cons_succ])
  refine wpAnyH_take (i := 1) (v := ?v1) rfl (by kernel_rfl) (by kernel_rfl) (by kernel_rfl) (fun _ _ _ h => h) (Or.inl ⟨by rfl, ?hy1⟩) (by assumption) ?rest1
  case hy1 => intro w hSw; (try dsimp only at hSw); go_simp; try with_reducible rfl
  (try simp only [List.getElem_toArray, List.getElem_cons_succ, List.getElem_cons_zero, Act.put, List.setIfInBounds_toArray, List.set_cons_zero, List.set_cons_succ])
  refine wpAnyH_take (i := 4) (v := ?v4) rfl (by kernel_rfl) (by kernel_rfl) (by kernel_rfl) (fun _ _ _ h => h) (Or.inl ⟨by rfl, ?hy4⟩) (by assumption) ?rest4
  case hy4 => intro w hSw; (try dsimp only at hSw); go_simp; try with_reducible rfl
  (try simp only [List.getElem_toArray, List.getElem_cons_succ, List.getElem_cons_zero, Act.put, List.setIfInBounds_toArray, List.set_cons_zero, List.set_cons_succ])
  clear hS0 hHeld
  refine wpAnyH_ready (rs := [2, 5, 7]) (by kernel_rfl) (by simp) ?_
  refine (AllReadyH.cons rfl (fun K hK => ?_) (AllReadyH.cons rfl (fun K hK => ?_) (AllReadyH.cons rfl (fun K hK => ?_) AllReadyH.nil)))
  · go_simp
    refine hK.out _ _ ?_ (fun hHeld => ?_)
    · exact sMake (below_chain (below_chain (Below.refl _ _) ((Below.refl _ _).alloc (Nat.le_refl _) _)) ((Below.refl _ _).drew)) HX.out
    clear hK K hHeld
    (try simp only [List.getElem_toArray, List.getElem_cons_succ, List.getElem_cons_zero, Act.put, List.setIfInBounds_toArray, List.set_cons_zero, List.set_cons_succ])
    refine wpAnyH_ready (rs := [3, 5, 7]) (by kernel_rfl) (by simp) ?_
    refine (AllReadyH.cons rfl (fun K hK => ?_) (AllReadyH.cons rfl (fun K hK => ?_) (AllReadyH.cons rfl (fun K hK => ?_) AllReadyH.nil)))
    · go_simp
      refine (HPA.out _ _ (Kinds.below (below_chain (below_chain (Below.refl _ _) ((Below.refl _ _).alloc (Nat.le_refl _) _)) ((Below.refl _ _).drew)) hK0) (RT.below (below_chain (below_chain (Below.refl _ _) ((Below.refl _ _).alloc (Nat.le_refl _) _)) ((Below.refl _ _).drew)) ht) (RKv_one (Box.drew (Box.new _ [_, _, _, _, _] _)) (RT.below (below_chain (below_chain (Below.refl _ _) ((Below.refl _ _).alloc (Nat.le_refl _) _)) ((Below.refl _ _).drew)) ha) 1 (Nat.le_refl _))).mono ?_
      rintro e wx1 ⟨B2, m2, d2, B3, m3, d3, rfl, gx1, hbx1⟩
      have hB1 := below_chain (below_chain (below_chain (Below.refl _ _) ((Below.refl _ _).alloc (Nat.le_refl _) _)) ((Below.refl _ _).drew)) hbx1
      refine hK.out _ _ ?_ (fun hHeld => ?_)
      · exact sMake hB1 HX.out
      clear hK K hHeld
      (try simp only [List.getElem_toArray, List.getElem_cons_succ, List.getElem_cons_zero, Act.put, List.setIfInBounds_toArray, List.set_cons_zero, List.set_cons_succ])
      refine wpAnyH_ready (rs := [5, 7]) (by kernel_rfl) (by simp) ?_
      refine (AllReadyH.cons rfl (fun K hK => ?_) (AllReadyH.cons rfl (fun K hK => ?_) AllReadyH.nil))
      · go_simp
        refine hK.out _ _ ?_ (fun hHeld => ?_)
        · exact sMake (below_chain hB1 ((Below.refl _ _).alloc (Nat.le_refl _) _)) HX.out
        clear hK K hHeld
        (try simp only [List.getElem_toArray, List.getElem_cons_succ, List.getElem_cons_zero, Act.put, List.setIfInBounds_toArray, List.set_cons_zero, List.set_cons_succ])
        refine wpAnyH_ready (rs := [6, 7]) (by kernel_rfl) (by simp) ?_
        refine (AllReadyH.cons rfl (fun K hK => ?_) (AllReadyH.cons rfl (fun K hK => ?_) AllReadyH.nil))
        · go_simp
          refine (HPB.out _ _ _ _ (Kinds.below (below_chain hB1 ((Below.refl _ _).alloc (Nat.le_refl _) _)) hK0) (RT.below ((Below.refl _ _).alloc (Nat.le_refl _) _) gx1) (RKv_one (Box.new _ [_, _, _, _, _] _) (RT.below (below_chain hB1 ((Below.refl _ _).alloc (Nat.le_refl _) _)) hb) 1 (Nat.le_refl _))).mono ?_
          rintro e wx2 ⟨vl, vk, bs, rfl, ho2, hnd, hbx2⟩
          obtain ⟨B4, m4, d4, B5, m5, d5, rfl, rfl⟩ := ho2.forms
          have gx2 := ho2.reads
          have hB2 := below_chain (below_chain hB1 ((Below.refl _ _).alloc (Nat.le_refl _) _)) hbx2
          refine hK.out _ _ ?_ (fun hHeld => ?_)
          · exact sMake hB2 HX.out
          clear hK K hHeld
          (try simp only [List.getElem_toArray, List.getElem_cons_succ, List.getElem_cons_zero, Act.put, List.setIfInBounds_toArray, List.set_cons_zero, List.set_cons_succ])
          refine wpAnyH_ready (rs := [7]) (by kernel_rfl) (by simp) ?_
          refine (AllReadyH.cons rfl (fun K hK => ?_) AllReadyH.nil)
          · go_simp
            refine hK.out _ _ ?_ (fun hHeld => ?_)
            · exact sMake (below_chain hB2 ((Below.refl _ _).alloc (Nat.le_refl _) _)) HX.out
            clear hK K hHeld
            (try simp only [List.getElem_toArray, List.getElem_cons_succ, List.getElem_cons_zero, Act.put, List.setIfInBounds_toArray, List.set_cons_zero, List.set_cons_succ])
            refine wpAnyH_ready (rs := [8]) (by kernel_rfl) (by simp) ?_
            refine (AllReadyH.cons rfl (fun K hK => ?_) AllReadyH.nil)
            · go_simp
              refine hK.out _ _ ?_ (fun hHeld => ?_)
              · exact sMake (below_chain hB2 ((Below.refl _ _).alloc (Nat.le_refl _) _)) HX.out
              clear hK K hHeld
              (try simp only [List.getElem_toArray, List.getElem_cons_succ, List.getElem_cons_zero, Act.put, List.setIfInBounds_toArray, List.set_cons_zero, List.set_cons_succ])
              refine wpAnyH_done (by kernel_rfl) ?_ _
              exact HQ.out _ _ _ _ _ _ _ _ _ _ _ _ _ _ _ (Box.new _ [_, _, _, _, _] _) (RT.below ((Below.refl _ _).alloc (Nat.le_refl _) _) gx2) (below_chain hB2 ((Below.refl _ _).alloc (Nat.le_refl _) _))
        · go_simp
          refine hK.out _ _ ?_ (fun hHeld => ?_)
          · exact sMake (below_chain (below_chain hB1 ((Below.refl _ _).alloc (Nat.le_refl _) _)) ((Below.refl _ _).alloc (Nat.le_refl _) _)) HX.out
          clear hK K hHeld
          (try simp only [List.getElem_toArray, List.getElem_cons_succ, List.getElem_cons_zero, Act.put, List.setIfInBounds_toArray, List.set_cons_zero, List.set_cons_succ])
          refine wpAnyH_ready (rs := [6]) (by kernel_rfl) (by simp) ?_
          refine (AllReadyH.cons rfl (fun K hK => ?_) AllReadyH.nil)
          · go_simp
            refine (HPB.out _ _ _ _ (Kinds.below (below_chain (below_chain hB1 ((Below.refl _ _).alloc (Nat.le_refl _) _)) ((Below.refl _ _).alloc (Nat.le_refl _) _)) hK0) (RT.below ((Below.refl _ _).alloc (Nat.le_refl _) _) (RT.below ((Below.refl _ _).alloc (Nat.le_refl _) _) gx1)) (RKv_one (Box.alloc (Box.new _ [_, _, _, _, _] _) _) (RT.below (below_chain (below_chain hB1 ((Below.refl _ _).alloc (Nat.le_refl _) _)) ((Below.refl _ _).alloc (Nat.le_refl _) _)) hb) 1 (Nat.le_refl _))).mono ?_
            rintro e wx2 ⟨vl, vk, bs, rfl, ho2, hnd, hbx2⟩
            obtain ⟨B4, m4, d4, B5, m5, d5, rfl, rfl⟩ := ho2.forms
            have gx2 := ho2.reads
            have hB2 := below_chain (below_chain (below_chain hB1 ((Below.refl _ _).alloc (Nat.le_refl _) _)) ((Below.refl _ _).alloc (Nat.le_refl _) _)) hbx2
            have zb : Box wx2 (wx1.heap.size + 1) [.int .i64 0, .int .i64 0, .int .i64 0, .slice none 0 0, .slice none 0 0] ∧ (∀ k ∈ bs, k ≠ wx1.heap.size + 1) ∧ w1.heap.size ≤ wx1.heap.size + 1 := zlem hbx2 (Box.new' _ [_, _, _, _, _] _ (by simp)) (by have := hB1.size; omega) ho2
            refine hK.out _ _ ?_ (fun hHeld => ?_)
            · exact sMake hB2 HX.out
            clear hK K hHeld
            (try simp only [List.getElem_toArray, List.getElem_cons_succ, List.getElem_cons_zero, Act.put, List.setIfInBounds_toArray, List.set_cons_zero, List.set_cons_succ])
            refine wpAnyH_ready (rs := [8]) (by kernel_rfl) (by simp) ?_
            refine (AllReadyH.cons rfl (fun K hK => ?_) AllReadyH.nil)
            · obtain ⟨e0, e1, e2, e3, e4⟩ := zb.1.five
              obtain ⟨f0, f1, f2, f3, f4⟩ := zb.1.thaw
              go_simp
              refine hK.out _ _ ?_ (fun hHeld => ?_)
              · exact sMake (below_put5 hB2 zb.2.2 _ _ _ _ _) HX.out
              clear hK K hHeld
              (try simp only [List.getElem_toArray, List.getElem_cons_succ, List.getElem_cons_zero, Act.put, List.setIfInBounds_toArray, List.set_cons_zero, List.set_cons_succ])
              refine wpAnyH_done (by kernel_rfl) ?_ _
              obtain ⟨wf, ewf, F, hmv, hbf⟩ := put5 zb.1 (.int .i64 q.kind) (.int .i64 q.num) (.int .i64 q.atN) (.slice B4 m4 d4) (.slice B5 m5 d5)
              rw [ewf]
              exact HQ.out _ _ _ _ _ _ _ _ _ _ _ _ _ _ _ F (ho2.move fun k hk => hmv k (zb.2.1 k hk)).reads (hB2.trans (hbf.mono zb.2.2))
      · go_simp
        refine hK.out _ _ ?_ (fun hHeld => ?_)
        · exact sMake (below_chain hB1 ((Below.refl _ _).alloc (Nat.le_refl _) _)) HX.out
        clear hK K hHeld
        (try simp only [List.getElem_toArray, List.getElem_cons_succ, List.getElem_cons_zero, Act.put, List.setIfInBounds_toArray, List.set_cons_zero, List.set_cons_succ])
        refine wpAnyH_ready (rs := [5]) (by kernel_rfl) (by simp) ?_
        refine (AllReadyH.cons rfl (fun K hK => ?_) AllReadyH.nil)
        · go_simp
          refine hK.out _ _ ?_ (fun hHeld => ?_)
          · exact sMake (below_chain (below_chain hB1 ((Below.refl _ _).alloc (Nat.le_refl _) _)) ((Below.refl _ _).alloc (Nat.le_refl _) _)) HX.out
          clear hK K hHeld
          (try simp only [List.getElem_toArray, List.getElem_cons_succ, List.getElem_cons_zero, Act.put, List.setIfInBounds_toArray, List.set_cons_zero, List.set_cons_succ])
          refine wpAnyH_ready (rs := [6]) (by kernel_rfl) (by simp) ?_
          refine (AllReadyH.cons rfl (fun K hK => ?_) AllReadyH.nil)
          · go_simp
            refine (HPB.out _ _ _ _ (Kinds.below (below_chain (below_chain hB1 ((Below.refl _ _).alloc (Nat.le_refl _) _)) ((Below.refl _ _).alloc (Nat.le_refl _) _)) hK0) (RT.below ((Below.refl _ _).alloc (Nat.le_refl _) _) (RT.below ((Below.refl _ _).alloc (Nat.le_refl _) _) gx1)) (RKv_one (Box.new' _ [_, _, _, _, _] _ (by simp)) (RT.below (below_chain (below_chain hB1 ((Below.refl _ _).alloc (Nat.le_refl _) _)) ((Below.refl _ _).alloc (Nat.le_refl _) _)) hb) 1 (Nat.le_refl _))).mono ?_
            rintro e wx2 ⟨vl, vk, bs, rfl, ho2, hnd, hbx2⟩
            obtain ⟨B4, m4, d4, B5, m5, d5, rfl, rfl⟩ := ho2.forms
            have gx2 := ho2.reads
            have hB2 := below_chain (below_chain (below_chain hB1 ((Below.refl _ _).alloc (Nat.le_refl _) _)) ((Below.refl _ _).alloc (Nat.le_refl _) _)) hbx2
            have zb : Box wx2 (wx1.heap.size) [.int .i64 0, .int .i64 0, .int .i64 0, .slice none 0 0, .slice none 0 0] ∧ (∀ k ∈ bs, k ≠ wx1.heap.size) ∧ w1.heap.size ≤ wx1.heap.size := zlem hbx2 (Box.alloc (Box.new _ [_, _, _, _, _] _) _) (by have := hB1.size; omega) ho2
            refine hK.out _ _ ?_ (fun hHeld => ?_)
            · exact sMake hB2 HX.out
            clear hK K hHeld
            (try simp only [List.getElem_toArray, List.getElem_cons_succ, List.getElem_cons_zero, Act.put, List.setIfInBounds_toArray, List.set_cons_zero, List.set_cons_succ])
            refine wpAnyH_ready (rs := [8]) (by kernel_rfl) (by simp) ?_
            refine (AllReadyH.cons rfl (fun K hK => ?_) AllReadyH.nil)
            · obtain ⟨e0, e1, e2, e3, e4⟩ := zb.1.five
              obtain ⟨f0, f1, f2, f3, f4⟩ := zb.1.thaw
              go_simp
              refine hK.out _ _ ?_ (fun hHeld => ?_)
              · exact sMake (below_put5 hB2 zb.2.2 _ _ _ _ _) HX.out
              clear hK K hHeld
              (try simp only [List.getElem_toArray, List.getElem_cons_succ, List.getElem_cons_zero, Act.put, List.setIfInBounds_toArray, List.set_cons_zero, List.set_cons_succ])
              refine wpAnyH_done (by kernel_rfl) ?_ _
              obtain ⟨wf, ewf, F, hmv, hbf⟩ := put5 zb.1 (.int .i64 q.kind) (.int .i64 q.num) (.int .i64 q.atN) (.slice B4 m4 d4) (.slice B5 m5 d5)
              rw [ewf]
              exact HQ.out _ _ _ _ _ _ _ _ _ _ _ _ _ _ _ F (ho2.move fun k hk => hmv k (zb.2.1 k hk)).reads (hB2.trans (hbf.mono zb.2.2))
    · go_simp
      refine hK.out _ _ ?_ (fun hHeld => ?_)
      · exact sMake (below_chain (below_chain (below_chain (Below.refl _ _) ((Below.refl _ _).alloc (Nat.le_refl _) _)) ((Below.refl _ _).alloc (Nat.le_refl _) _)) ((Below.refl _ _).drew)) HX.out
      clear hK K hHeld
      (try simp only [List.getElem_toArray, List.getElem_cons_succ, List.getElem_cons_zero, Act.put, List.setIfInBounds_toArray, List.set_cons_zero, List.set_cons_succ])
      refine wpAnyH_ready (rs := [3, 7]) (by kernel_rfl) (by simp) ?_
      refine (AllReadyH.cons rfl (fun K hK => ?_) (AllReadyH.cons rfl (fun K hK => ?_) AllReadyH.nil))
      · go_simp
        refine (HPA.out _ _ (Kinds.below (below_chain (below_chain (below_chain (Below.refl _ _) ((Below.refl _ _).alloc (Nat.le_refl _) _)) ((Below.refl _ _).alloc (Nat.le_refl _) _)) ((Below.refl _ _).drew)) hK0) (RT.below (below_chain (below_chain (below_chain (Below.refl _ _) ((Below.refl _ _).alloc (Nat.le_refl _) _)) ((Below.refl _ _).alloc (Nat.le_refl _) _)) ((Below.refl _ _).drew)) ht) (RKv_one (Box.drew (Box.alloc (Box.new _ [_, _, _, _, _] _) _)) (RT.below (below_chain (below_chain (below_chain (Below.refl _ _) ((Below.refl _ _).alloc (Nat.le_refl _) _)) ((Below.refl _ _).alloc (Nat.le_refl _) _)) ((Below.refl _ _).drew)) ha) 1 (Nat.le_refl _))).mono ?_
        rintro e wx1 ⟨B2, m2, d2, B3, m3, d3, rfl, gx1, hbx1⟩
        have hB1 := below_chain (below_chain (below_chain (below_chain (Below.refl _ _) ((Below.refl _ _).alloc (Nat.le_refl _) _)) ((Below.refl _ _).alloc (Nat.le_refl _) _)) ((Below.refl _ _).drew)) hbx1
        have hrk5 : RKv wx1 [b] (.slice (some ⟨w1.heap.size + 1, 0, none⟩) 1 1) := RKv.below hbx1 (RKv_one (Box.drew (Box.new' _ [_, _, _, _, _] _ (by simp))) (RT.below (below_chain (below_chain (below_chain (Below.refl _ _) ((Below.refl _ _).alloc (Nat.le_refl _) _)) ((Below.refl _ _).alloc (Nat.le_refl _) _)) ((Below.refl _ _).drew)) hb) 1 (Nat.le_refl _))
        refine hK.out _ _ ?_ (fun hHeld => ?_)
        · exact sMake hB1 HX.out
        clear hK K hHeld
        (try simp only [List.getElem_toArray, List.getElem_cons_succ, List.getElem_cons_zero, Act.put, List.setIfInBounds_toArray, List.set_cons_zero, List.set_cons_succ])
        refine wpAnyH_ready (rs := [6, 7]) (by kernel_rfl) (by simp) ?_
        refine (AllReadyH.cons rfl (fun K hK => ?_) (AllReadyH.cons rfl (fun K hK => ?_) AllReadyH.nil))
        · go_simp
          refine (HPB.out _ _ _ _ (Kinds.below hB1 hK0) gx1 hrk5).mono ?_
          rintro e wx2 ⟨vl, vk, bs, rfl, ho2, hnd, hbx2⟩
          obtain ⟨B4, m4, d4, B5, m5, d5, rfl, rfl⟩ := ho2.forms
          have gx2 := ho2.reads
          have hB2 := below_chain hB1 hbx2
          refine hK.out _ _ ?_ (fun hHeld => ?_)
          · exact sMake hB2 HX.out
          clear hK K hHeld
          (try simp only [List.getElem_toArray, List.getElem_cons_succ, List.getElem_cons_zero, Act.put, List.setIfInBounds_toArray, List.set_cons_zero, List.set_cons_succ])
          refine wpAnyH_ready (rs := [7]) (by kernel_rfl) (by simp) ?_
          refine (AllReadyH.cons rfl (fun K hK => ?_) AllReadyH.nil)
          · go_simp
            refine hK.out _ _ ?_ (fun hHeld => ?_)
            · exact sMake (below_chain hB2 ((Below.refl _ _).alloc (Nat.le_refl _) _)) HX.out
            clear hK K hHeld
            (try simp only [List.getElem_toArray, List.getElem_cons_succ, List.getElem_cons_zero, Act.put, List.setIfInBounds_toArray, List.set_cons_zero, List.set_cons_succ])
            refine wpAnyH_ready (rs := [8]) (by kernel_rfl) (by simp) ?_
            refine (AllReadyH.cons rfl (fun K hK => ?_) AllReadyH.nil)
            · go_simp
              refine hK.out _ _ ?_ (fun hHeld => ?_)
              · exact sMake (below_chain hB2 ((Below.refl _ _).alloc (Nat.le_refl _) _)) HX.out
              clear hK K hHeld
              (try simp only [List.getElem_toArray, List.getElem_cons_succ, List.getElem_cons_zero, Act.put, List.setIfInBounds_toArray, List.set_cons_zero, List.set_cons_succ])
              refine wpAnyH_done (by kernel_rfl) ?_ _
              exact HQ.out _ _ _ _ _ _ _ _ _ _ _ _ _ _ _ (Box.new _ [_, _, _, _, _] _) (RT.below ((Below.refl _ _).alloc (Nat.le_refl _) _) gx2) (below_chain hB2 ((Below.refl _ _).alloc (Nat.le_refl _) _))
        · go_simp
          refine hK.out _ _ ?_ (fun hHeld => ?_)
          · exact sMake (below_chain hB1 ((Below.refl _ _).alloc (Nat.le_refl _) _)) HX.out
          clear hK K hHeld
          (try simp only [List.getElem_toArray, List.getElem_cons_succ, List.getElem_cons_zero, Act.put, List.setIfInBounds_toArray, List.set_cons_zero, List.set_cons_succ])
          refine wpAnyH_ready (rs := [6]) (by kernel_rfl) (by simp) ?_
          refine (AllReadyH.cons rfl (fun K hK => ?_) AllReadyH.nil)
          · go_simp
            refine (HPB.out _ _ _ _ (Kinds.below (below_chain hB1 ((Below.refl _ _).alloc (Nat.le_refl _) _)) hK0) (RT.below ((Below.refl _ _).alloc (Nat.le_refl _) _) gx1) (RKv.below ((Below.refl _ _).alloc (Nat.le_refl _) _) hrk5)).mono ?_
            rintro e wx2 ⟨vl, vk, bs, rfl, ho2, hnd, hbx2⟩
            obtain ⟨B4, m4, d4, B5, m5, d5, rfl, rfl⟩ := ho2.forms
            have gx2 := ho2.reads
            have hB2 := below_chain (below_chain hB1 ((Below.refl _ _).alloc (Nat.le_refl _) _)) hbx2
            have zb : Box wx2 (wx1.heap.size) [.int .i64 0, .int .i64 0, .int .i64 0, .slice none 0 0, .slice none 0 0] ∧ (∀ k ∈ bs, k ≠ wx1.heap.size) ∧ w1.heap.size ≤ wx1.heap.size := zlem hbx2 (Box.new _ [_, _, _, _, _] _) (by have := hB1.size; omega) ho2
            refine hK.out _ _ ?_ (fun hHeld => ?_)
            · exact sMake hB2 HX.out
            clear hK K hHeld
            (try simp only [List.getElem_toArray, List.getElem_cons_succ, List.getElem_cons_zero, Act.put, List.setIfInBounds_toArray, List.set_cons_zero, List.set_cons_succ])
            refine wpAnyH_ready (rs := [8]) (by kernel_rfl) (by simp) ?_
            refine (AllReadyH.cons rfl (fun K hK => ?_) AllReadyH.nil)
            · obtain ⟨e0, e1, e2, e3, e4⟩ := zb.1.five
              obtain ⟨f0, f1, f2, f3, f4⟩ := zb.1.thaw
              go_simp
              refine hK.out _ _ ?_ (fun hHeld => ?_)
              · exact sMake (below_put5 hB2 zb.2.2 _ _ _ _ _) HX.out
              clear hK K hHeld
              (try simp only [List.getElem_toArray, List.getElem_cons_succ, List.getElem_cons_zero, Act.put, List.setIfInBounds_toArray, List.set_cons_zero, List.set_cons_succ])
              refine wpAnyH_done (by kernel_rfl) ?_ _
              obtain ⟨wf, ewf, F, hmv, hbf⟩ := put5 zb.1 (.int .i64 q.kind) (.int .i64 q.num) (.int .i64 q.atN) (.slice B4 m4 d4) (.slice B5 m5 d5)
              rw [ewf]
              exact HQ.out _ _ _ _ _ _ _ _ _ _ _ _ _ _ _ F (ho2.move fun k hk => hmv k (zb.2.1 k hk)).reads (hB2.trans (hbf.mono zb.2.2))
      · go_simp
        refine hK.out _ _ ?_ (fun hHeld => ?_)
        · exact sMake (below_chain (below_chain (below_chain (below_chain (Below.refl _ _) ((Below.refl _ _).alloc (Nat.le_refl _) _)) ((Below.refl _ _).alloc (Nat.le_refl _) _)) ((Below.refl _ _).alloc (Nat.le_refl _) _)) ((Below.refl _ _).drew)) HX.out
        clear hK K hHeld
        (try simp only [List.getElem_toArray, List.getElem_cons_succ, List.getElem_cons_zero, Act.put, List.setIfInBounds_toArray, List.set_cons_zero, List.set_cons_succ])
        refine wpAnyH_ready (rs := [3]) (by kernel_rfl) (by simp) ?_
        refine (AllReadyH.cons rfl (fun K hK => ?_) AllReadyH.nil)
        · go_simp
          refine (HPA.out _ _ (Kinds.below (below_chain (below_chain (below_chain (below_chain (Below.refl _ _) ((Below.refl _ _).alloc (Nat.le_refl _) _)) ((Below.refl _ _).alloc (Nat.le_refl _) _)) ((Below.refl _ _).alloc (Nat.le_refl _) _)) ((Below.refl _ _).drew)) hK0) (RT.below (below_chain (below_chain (below_chain (below_chain (Below.refl _ _) ((Below.refl _ _).alloc (Nat.le_refl _) _)) ((Below.refl _ _).alloc (Nat.le_refl _) _)) ((Below.refl _ _).alloc (Nat.le_refl _) _)) ((Below.refl _ _).drew)) ht) (RKv_one (Box.drew (Box.alloc (Box.alloc (Box.new _ [_, _, _, _, _] _) _) _)) (RT.below (below_chain (below_chain (below_chain (below_chain (Below.refl _ _) ((Below.refl _ _).alloc (Nat.le_refl _) _)) ((Below.refl _ _).alloc (Nat.le_refl _) _)) ((Below.refl _ _).alloc (Nat.le_refl _) _)) ((Below.refl _ _).drew)) ha) 1 (Nat.le_refl _))).mono ?_
          rintro e wx1 ⟨B2, m2, d2, B3, m3, d3, rfl, gx1, hbx1⟩
          have hB1 := below_chain (below_chain (below_chain (below_chain (below_chain (Below.refl _ _) ((Below.refl _ _).alloc (Nat.le_refl _) _)) ((Below.refl _ _).alloc (Nat.le_refl _) _)) ((Below.refl _ _).alloc (Nat.le_refl _) _)) ((Below.refl _ _).drew)) hbx1
          have hrk5 : RKv wx1 [b] (.slice (some ⟨w1.heap.size + 1, 0, none⟩) 1 1) := RKv.below hbx1 (RKv_one (Box.drew (Box.alloc (Box.new' _ [_, _, _, _, _] _ (by simp)) _)) (RT.below (below_chain (below_chain (below_chain (below_chain (Below.refl _ _) ((Below.refl _ _).alloc (Nat.le_refl _) _)) ((Below.refl _ _).alloc (Nat.le_refl _) _)) ((Below.refl _ _).alloc (Nat.le_refl _) _)) ((Below.refl _ _).drew)) hb) 1 (Nat.le_refl _))
          have zb0 : Box wx1 (w1.heap.size + 1 + 1) [.int .i64 0, .int .i64 0, .int .i64 0, .slice none 0 0, .slice none 0 0] ∧ w1.heap.size ≤ w1.heap.size + 1 + 1 := zlem0 hbx1 (Box.drew (Box.new' _ [_, _, _, _, _] _ (by simp))) (by omega)
          refine hK.out _ _ ?_ (fun hHeld => ?_)
          · exact sMake hB1 HX.out
          clear hK K hHeld
          (try simp only [List.getElem_toArray, List.getElem_cons_succ, List.getElem_cons_zero, Act.put, List.setIfInBounds_toArray, List.set_cons_zero, List.set_cons_succ])
          refine wpAnyH_ready (rs := [6]) (by kernel_rfl) (by simp) ?_
          refine (AllReadyH.cons rfl (fun K hK => ?_) AllReadyH.nil)
          · go_simp
            refine (HPB.out _ _ _ _ (Kinds.below hB1 hK0) gx1 hrk5).mono ?_
            rintro e wx2 ⟨vl, vk, bs, rfl, ho2, hnd, hbx2⟩
            obtain ⟨B4, m4, d4, B5, m5, d5, rfl, rfl⟩ := ho2.forms
            have gx2 := ho2.reads
            have hB2 := below_chain hB1 hbx2
            have zb := zlem (w1 := w1) hbx2 zb0.1 zb0.2 ho2
            refine hK.out _ _ ?_ (fun hHeld => ?_)
            · exact sMake hB2 HX.out
            clear hK K hHeld
            (try simp only [List.getElem_toArray, List.getElem_cons_succ, List.getElem_cons_zero, Act.put, List.setIfInBounds_toArray, List.set_cons_zero, List.set_cons_succ])
            refine wpAnyH_ready (rs := [8]) (by kernel_rfl) (by simp) ?_
            refine (AllReadyH.cons rfl (fun K hK => ?_) AllReadyH.nil)
            · obtain ⟨e0, e1, e2, e3, e4⟩ := zb.1.five
              obtain ⟨f0, f1, f2, f3, f4⟩ := zb.1.thaw
              go_simp
              refine hK.out _ _ ?_ (fun hHeld => ?_)
              · exact sMake (below_put5 hB2 zb.2.2 _ _ _ _ _) HX.out
              clear hK K hHeld
              (try simp only [List.getElem_toArray, List.getElem_cons_succ, List.getElem_cons_zero, Act.put, List.setIfInBounds_toArray, List.set_cons_zero, List.set_cons_succ])
              refine wpAnyH_done (by kernel_rfl) ?_ _
              obtain ⟨wf, ewf, F, hmv, hbf⟩ := put5 zb.1 (.int .i64 q.kind) (.int .i64 q.num) (.int .i64 q.atN) (.slice B4 m4 d4) (.slice B5 m5 d5)
              rw [ewf]
              exact HQ.out _ _ _ _ _ _ _ _ _ _ _ _ _ _ _ F (ho2.move fun k hk => hmv k (zb.2.1 k hk)).reads (hB2.trans (hbf.mono zb.2.2))
    · go_simp
      refine hK.out _ _ ?_ (fun hHeld => ?_)
      · exact sMake (below_chain (below_chain (below_chain (Below.refl _ _) ((Below.refl _ _).alloc (Nat.le_refl _) _)) ((Below.refl _ _).alloc (Nat.le_refl _) _)) ((Below.refl _ _).drew)) HX.out
      clear hK K hHeld
      (try simp only [List.getElem_toArray, List.getElem_cons_succ, List.getElem_cons_zero, Act.put, List.setIfInBounds_toArray, List.set_cons_zero, List.set_cons_succ])
      refine wpAnyH_ready (rs := [3, 5]) (by kernel_rfl) (by simp) ?_
      refine (AllReadyH.cons rfl (fun K hK => ?_) (AllReadyH.cons rfl (fun K hK => ?_) AllReadyH.nil))
      · go_simp
        refine (HPA.out _ _ (Kinds.below (below_chain (below_chain (below_chain (Below.refl _ _) ((Below.refl _ _).alloc (Nat.le_refl _) _)) ((Below.refl _ _).alloc (Nat.le_refl _) _)) ((Below.refl _ _).drew)) hK0) (RT.below (below_chain (below_chain (below_chain (Below.refl _ _) ((Below.refl _ _).alloc (Nat.le_refl _) _)) ((Below.refl _ _).alloc (Nat.le_refl _) _)) ((Below.refl _ _).drew)) ht) (RKv_one (Box.drew (Box.alloc (Box.new _ [_, _, _, _, _] _) _)) (RT.below (below_chain (below_chain (below_chain (Below.refl _ _) ((Below.refl _ _).alloc (Nat.le_refl _) _)) ((Below.refl _ _).alloc (Nat.le_refl _) _)) ((Below.refl _ _).drew)) ha) 1 (Nat.le_refl _))).mono ?_
        rintro e wx1 ⟨B2, m2, d2, B3, m3, d3, rfl, gx1, hbx1⟩
        have hB1 := below_chain (below_chain (below_chain (below_chain (Below.refl _ _) ((Below.refl _ _).alloc (Nat.le_refl _) _)) ((Below.refl _ _).alloc (Nat.le_refl _) _)) ((Below.refl _ _).drew)) hbx1
        have zb0 : Box wx1 (w1.heap.size + 1) [.int .i64 0, .int .i64 0, .int .i64 0, .slice none 0 0, .slice none 0 0] ∧ w1.heap.size ≤ w1.heap.size + 1 := zlem0 hbx1 (Box.drew (Box.new' _ [_, _, _, _, _] _ (by simp))) (by omega)
        refine hK.out _ _ ?_ (fun hHeld => ?_)
        · exact sMake hB1 HX.out
        clear hK K hHeld
        (try simp only [List.getElem_toArray, List.getElem_cons_succ, List.getElem_cons_zero, Act.put, List.setIfInBounds_toArray, List.set_cons_zero, List.set_cons_succ])
        refine wpAnyH_ready (rs := [5]) (by kernel_rfl) (by simp) ?_
        refine (AllReadyH.cons rfl (fun K hK => ?_) AllReadyH.nil)
        · go_simp
          refine hK.out _ _ ?_ (fun hHeld => ?_)
          · exact sMake (below_chain hB1 ((Below.refl _ _).alloc (Nat.le_refl _) _)) HX.out
          clear hK K hHeld
          (try simp only [List.getElem_toArray, List.getElem_cons_succ, List.getElem_cons_zero, Act.put, List.setIfInBounds_toArray, List.set_cons_zero, List.set_cons_succ])
          refine wpAnyH_ready (rs := [6]) (by kernel_rfl) (by simp) ?_
          refine (AllReadyH.cons rfl (fun K hK => ?_) AllReadyH.nil)
          · go_simp
            refine (HPB.out _ _ _ _ (Kinds.below (below_chain hB1 ((Below.refl _ _).alloc (Nat.le_refl _) _)) hK0) (RT.below ((Below.refl _ _).alloc (Nat.le_refl _) _) gx1) (RKv_one (Box.new _ [_, _, _, _, _] _) (RT.below (below_chain hB1 ((Below.refl _ _).alloc (Nat.le_refl _) _)) hb) 1 (Nat.le_refl _))).mono ?_
            rintro e wx2 ⟨vl, vk, bs, rfl, ho2, hnd, hbx2⟩
            obtain ⟨B4, m4, d4, B5, m5, d5, rfl, rfl⟩ := ho2.forms
            have gx2 := ho2.reads
            have hB2 := below_chain (below_chain hB1 ((Below.refl _ _).alloc (Nat.le_refl _) _)) hbx2
            have zb := zlem (w1 := w1) hbx2 (Box.alloc zb0.1 _) zb0.2 ho2
            refine hK.out _ _ ?_ (fun hHeld => ?_)
            · exact sMake hB2 HX.out
            clear hK K hHeld
            (try simp only [List.getElem_toArray, List.getElem_cons_succ, List.getElem_cons_zero, Act.put, List.setIfInBounds_toArray, List.set_cons_zero, List.set_cons_succ])
            refine wpAnyH_ready (rs := [8]) (by kernel_rfl) (by simp) ?_
            refine (AllReadyH.cons rfl (fun K hK => ?_) AllReadyH.nil)
            · obtain ⟨e0, e1, e2, e3, e4⟩ := zb.1.five
              obtain ⟨f0, f1, f2, f3, f4⟩ := zb.1.thaw
              go_simp
              refine hK.out _ _ ?_ (fun hHeld => ?_)
              · exact sMake (below_put5 hB2 zb.2.2 _ _ _ _ _) HX.out
              clear hK K hHeld
              (try simp only [List.getElem_toArray, List.getElem_cons_succ, List.getElem_cons_zero, Act.put, List.setIfInBounds_toArray, List.set_cons_zero, List.set_cons_succ])
              refine wpAnyH_done (by kernel_rfl) ?_ _
              obtain ⟨wf, ewf, F, hmv, hbf⟩ := put5 zb.1 (.int .i64 q.kind) (.int .i64 q.num) (.int .i64 q.atN) (.slice B4 m4 d4) (.slice B5 m5 d5)
              rw [ewf]
              exact HQ.out _ _ _ _ _ _ _ _ _ _ _ _ _ _ _ F (ho2.move fun k hk => hmv k (zb.2.1 k hk)).reads (hB2.trans (hbf.mono zb.2.2))
      · go_simp
        refine hK.out _ _ ?_ (fun hHeld => ?_)
        · exact sMake (below_chain (below_chain (below_chain (below_chain (Below.refl _ _) ((Below.refl _ _).alloc (Nat.le_refl _) _)) ((Below.refl _ _).alloc (Nat.le_refl _) _)) ((Below.refl _ _).alloc (Nat.le_refl _) _)) ((Below.refl _ _).drew)) HX.out
        clear hK K hHeld
        (try simp only [List.getElem_toArray, List.getElem_cons_succ, List.getElem_cons_zero, Act.put, List.setIfInBounds_toArray, List.set_cons_zero, List.set_cons_succ])
        refine wpAnyH_ready (rs := [3]) (by kernel_rfl) (by simp) ?_
        refine (AllReadyH.cons rfl (fun K hK => ?_) AllReadyH.nil)
        · go_simp
          refine (HPA.out _ _ (Kinds.below (below_chain (below_chain (below_chain (below_chain (Below.refl _ _) ((Below.refl _ _).alloc (Nat.le_refl _) _)) ((Below.refl _ _).alloc (Nat.le_refl _) _)) ((Below.refl _ _).alloc (Nat.le_refl _) _)) ((Below.refl _ _).drew)) hK0) (RT.below (below_chain (below_chain (below_chain (below_chain (Below.refl _ _) ((Below.refl _ _).alloc (Nat.le_refl _) _)) ((Below.refl _ _).alloc (Nat.le_refl _) _)) ((Below.refl _ _).alloc (Nat.le_refl _) _)) ((Below.refl _ _).drew)) ht) (RKv_one (Box.drew (Box.alloc (Box.alloc (Box.new _ [_, _, _, _, _] _) _) _)) (RT.below (below_chain (below_chain (below_chain (below_chain (Below.refl _ _) ((Below.refl _ _).alloc (Nat.le_refl _) _)) ((Below.refl _ _).alloc (Nat.le_refl _) _)) ((Below.refl _ _).alloc (Nat.le_refl _) _)) ((Below.refl _ _).drew)) ha) 1 (Nat.le_refl _))).mono ?_
          rintro e wx1 ⟨B2, m2, d2, B3, m3, d3, rfl, gx1, hbx1⟩
          have hB1 := below_chain (below_chain (below_chain (below_chain (below_chain (Below.refl _ _) ((Below.refl _ _).alloc (Nat.le_refl _) _)) ((Below.refl _ _).alloc (Nat.le_refl _) _)) ((Below.refl _ _).alloc (Nat.le_refl _) _)) ((Below.refl _ _).drew)) hbx1
          have hrk5 : RKv wx1 [b] (.slice (some ⟨w1.heap.size + 1 + 1, 0, none⟩) 1 1) := RKv.below hbx1 (RKv_one (Box.drew (Box.new' _ [_, _, _, _, _] _ (by simp))) (RT.below (below_chain (below_chain (below_chain (below_chain (Below.refl _ _) ((Below.refl _ _).alloc (Nat.le_refl _) _)) ((Below.refl _ _).alloc (Nat.le_refl _) _)) ((Below.refl _ _).alloc (Nat.le_refl _) _)) ((Below.refl _ _).drew)) hb) 1 (Nat.le_refl _))
          have zb0 : Box wx1 (w1.heap.size + 1) [.int .i64 0, .int .i64 0, .int .i64 0, .slice none 0 0, .slice none 0 0] ∧ w1.heap.size ≤ w1.heap.size + 1 := zlem0 hbx1 (Box.drew (Box.alloc (Box.new' _ [_, _, _, _, _] _ (by simp)) _)) (by omega)
          refine hK.out _ _ ?_ (fun hHeld => ?_)
          · exact sMake hB1 HX.out
          clear hK K hHeld
          (try simp only [List.getElem_toArray, List.getElem_cons_succ, List.getElem_cons_zero, Act.put, List.setIfInBounds_toArray, List.set_cons_zero, List.set_cons_succ])
          refine wpAnyH_ready (rs := [6]) (by kernel_rfl) (by simp) ?_
          refine (AllReadyH.cons rfl (fun K hK => ?_) AllReadyH.nil)
          · go_simp
            refine (HPB.out _ _ _ _ (Kinds.below hB1 hK0) gx1 hrk5).mono ?_
            rintro e wx2 ⟨vl, vk, bs, rfl, ho2, hnd, hbx2⟩
            obtain ⟨B4, m4, d4, B5, m5, d5, rfl, rfl⟩ := ho2.forms
            have gx2 := ho2.reads
            have hB2 := below_chain hB1 hbx2
            have zb := zlem (w1 := w1) hbx2 zb0.1 zb0.2 ho2
            refine hK.out _ _ ?_ (fun hHeld => ?_)
            · exact sMake hB2 HX.out
            clear hK K hHeld
            (try simp only [List.getElem_toArray, List.getElem_cons_succ, List.getElem_cons_zero, Act.put, List.setIfInBounds_toArray, List.set_cons_zero, List.set_cons_succ])
            refine wpAnyH_ready (rs := [8]) (by kernel_rfl) (by simp) ?_
            refine (AllReadyH.cons rfl (fun K hK => ?_) AllReadyH.nil)
            · obtain ⟨e0, e1, e2, e3, e4⟩ := zb.1.five
              obtain ⟨f0, f1, f2, f3, f4⟩ := zb.1.thaw
              go_simp
              refine hK.out _ _ ?_ (fun hHeld => ?_)
              · exact sMake (below_put5 hB2 zb.2.2 _ _ _ _ _) HX.out
              clear hK K hHeld
              (try simp only [List.getElem_toArray, List.getElem_cons_succ, List.getElem_cons_zero, Act.put, List.setIfInBounds_toArray, List.set_cons_zero, List.set_cons_succ])
              refine wpAnyH_done (by kernel_rfl) ?_ _
              obtain ⟨wf, ewf, F, hmv, hbf⟩ := put5 zb.1 (.int .i64 q.kind) (.int .i64 q.num) (.int .i64 q.atN) (.slice B4 m4 d4) (.slice B5 m5 d5)
              rw [ewf]
              exact HQ.out _ _ _ _ _ _ _ _ _ _ _ _ _ _ _ F (ho2.move fun k hk => hmv k (zb.2.1 k hk)).reads (hB2.trans (hbf.mono zb.2.2))
  · go_simp
    refine hK.out _ _ ?_ (fun hHeld => ?_)
    · exact sMake (below_chain (below_chain (Below.refl _ _) ((Below.refl _ _).alloc (Nat.le_refl _) _)) ((Below.refl _ _).drew)) HX.out
    clear hK K hHeld
    (try simp only [List.getElem_toArray, List.getElem_cons_succ, List.getElem_cons_zero, Act.put, List.setIfInBounds_toArray, List.set_cons_zero, List.set_cons_succ])
    refine wpAnyH_ready (rs := [2, 7]) (by kernel_rfl) (by simp) ?_
    refine (AllReadyH.cons rfl (fun K hK => ?_) (AllReadyH.cons rfl (fun K hK => ?_) AllReadyH.nil))
    · go_simp
      refine hK.out _ _ ?_ (fun hHeld => ?_)
      · exact sMake (below_chain (below_chain (below_chain (Below.refl _ _) ((Below.refl _ _).alloc (Nat.le_refl _) _)) ((Below.refl _ _).alloc (Nat.le_refl _) _)) ((Below.refl _ _).drew)) HX.out
      clear hK K hHeld
      (try simp only [List.getElem_toArray, List.getElem_cons_succ, List.getElem_cons_zero, Act.put, List.setIfInBounds_toArray, List.set_cons_zero, List.set_cons_succ])
      refine wpAnyH_ready (rs := [3, 7]) (by kernel_rfl) (by simp) ?_
      refine (AllReadyH.cons rfl (fun K hK => ?_) (AllReadyH.cons rfl (fun K hK => ?_) AllReadyH.nil))
      · go_simp
        refine (HPA.out _ _ (Kinds.below (below_chain (below_chain (below_chain (Below.refl _ _) ((Below.refl _ _).alloc (Nat.le_refl _) _)) ((Below.refl _ _).alloc (Nat.le_refl _) _)) ((Below.refl _ _).drew)) hK0) (RT.below (below_chain (below_chain (below_chain (Below.refl _ _) ((Below.refl _ _).alloc (Nat.le_refl _) _)) ((Below.refl _ _).alloc (Nat.le_refl _) _)) ((Below.refl _ _).drew)) ht) (RKv_one (Box.drew (Box.new' _ [_, _, _, _, _] _ (by simp))) (RT.below (below_chain (below_chain (below_chain (Below.refl _ _) ((Below.refl _ _).alloc (Nat.le_refl _) _)) ((Below.refl _ _).alloc (Nat.le_refl _) _)) ((Below.refl _ _).drew)) ha) 1 (Nat.le_refl _))).mono ?_
        rintro e wx1 ⟨B2, m2, d2, B3, m3, d3, rfl, gx1, hbx1⟩
        have hB1 := below_chain (below_chain (below_chain (below_chain (Below.refl _ _) ((Below.refl _ _).alloc (Nat.le_refl _) _)) ((Below.refl _ _).alloc (Nat.le_refl _) _)) ((Below.refl _ _).drew)) hbx1
        have hrk5 : RKv wx1 [b] (.slice (some ⟨w1.heap.size, 0, none⟩) 1 1) := RKv.below hbx1 (RKv_one (Box.drew (Box.alloc (Box.new _ [_, _, _, _, _] _) _)) (RT.below (below_chain (below_chain (below_chain (Below.refl _ _) ((Below.refl _ _).alloc (Nat.le_refl _) _)) ((Below.refl _ _).alloc (Nat.le_refl _) _)) ((Below.refl _ _).drew)) hb) 1 (Nat.le_refl _))
        refine hK.out _ _ ?_ (fun hHeld => ?_)
        · exact sMake hB1 HX.out
        clear hK K hHeld
        (try simp only [List.getElem_toArray, List.getElem_cons_succ, List.getElem_cons_zero, Act.put, List.setIfInBounds_toArray, List.set_cons_zero, List.set_cons_succ])
        refine wpAnyH_ready (rs := [6, 7]) (by kernel_rfl) (by simp) ?_
        refine (AllReadyH.cons rfl (fun K hK => ?_) (AllReadyH.cons rfl (fun K hK => ?_) AllReadyH.nil))
        · go_simp
          refine (HPB.out _ _ _ _ (Kinds.below hB1 hK0) gx1 hrk5).mono ?_
          rintro e wx2 ⟨vl, vk, bs, rfl, ho2, hnd, hbx2⟩
          obtain ⟨B4, m4, d4, B5, m5, d5, rfl, rfl⟩ := ho2.forms
          have gx2 := ho2.reads
          have hB2 := below_chain hB1 hbx2
          refine hK.out _ _ ?_ (fun hHeld => ?_)
          · exact sMake hB2 HX.out
          clear hK K hHeld
          (try simp only [List.getElem_toArray, List.getElem_cons_succ, List.getElem_cons_zero, Act.put, List.setIfInBounds_toArray, List.set_cons_zero, List.set_cons_succ])
          refine wpAnyH_ready (rs := [7]) (by kernel_rfl) (by simp) ?_
          refine (AllReadyH.cons rfl (fun K hK => ?_) AllReadyH.nil)
          · go_simp
            refine hK.out _ _ ?_ (fun hHeld => ?_)
            · exact sMake (below_chain hB2 ((Below.refl _ _).alloc (Nat.le_refl _) _)) HX.out
            clear hK K hHeld
            (try simp only [List.getElem_toArray, List.getElem_cons_succ, List.getElem_cons_zero, Act.put, List.setIfInBounds_toArray, List.set_cons_zero, List.set_cons_succ])
            refine wpAnyH_ready (rs := [8]) (by kernel_rfl) (by simp) ?_
            refine (AllReadyH.cons rfl (fun K hK => ?_) AllReadyH.nil)
            · go_simp
              refine hK.out _ _ ?_ (fun hHeld => ?_)
              · exact sMake (below_chain hB2 ((Below.refl _ _).alloc (Nat.le_refl _) _)) HX.out
              clear hK K hHeld
              (try simp only [List.getElem_toArray, List.getElem_cons_succ, List.getElem_cons_zero, Act.put, List.setIfInBounds_toArray, List.set_cons_zero, List.set_cons_succ])
              refine wpAnyH_done (by kernel_rfl) ?_ _
              exact HQ.out _ _ _ _ _ _ _ _ _ _ _ _ _ _ _ (Box.new _ [_, _, _, _, _] _) (RT.below ((Below.refl _ _).alloc (Nat.le_refl _) _) gx2) (below_chain hB2 ((Below.refl _ _).alloc (Nat.le_refl _) _))
        · go_simp
          refine hK.out _ _ ?_ (fun hHeld => ?_)
          · exact sMake (below_chain hB1 ((Below.refl _ _).alloc (Nat.le_refl _) _)) HX.out
          clear hK K hHeld
          (try simp only [List.getElem_toArray, List.getElem_cons_succ, List.getElem_cons_zero, Act.put, List.setIfInBounds_toArray, List.set_cons_zero, List.set_cons_succ])
          refine wpAnyH_ready (rs := [6]) (by kernel_rfl) (by simp) ?_
          refine (AllReadyH.cons rfl (fun K hK => ?_) AllReadyH.nil)
          · go_simp
            refine (HPB.out _ _ _ _ (Kinds.below (below_chain hB1 ((Below.refl _ _).alloc (Nat.le_refl _) _)) hK0) (RT.below ((Below.refl _ _).alloc (Nat.le_refl _) _) gx1) (RKv.below ((Below.refl _ _).alloc (Nat.le_refl _) _) hrk5)).mono ?_
            rintro e wx2 ⟨vl, vk, bs, rfl, ho2, hnd, hbx2⟩
            obtain ⟨B4, m4, d4, B5, m5, d5, rfl, rfl⟩ := ho2.forms
            have gx2 := ho2.reads
            have hB2 := below_chain (below_chain hB1 ((Below.refl _ _).alloc (Nat.le_refl _) _)) hbx2
            have zb : Box wx2 (wx1.heap.size) [.int .i64 0, .int .i64 0, .int .i64 0, .slice none 0 0, .slice none 0 0] ∧ (∀ k ∈ bs, k ≠ wx1.heap.size) ∧ w1.heap.size ≤ wx1.heap.size := zlem hbx2 (Box.new _ [_, _, _, _, _] _) (by have := hB1.size; omega) ho2
            refine hK.out _ _ ?_ (fun hHeld => ?_)
            · exact sMake hB2 HX.out
            clear hK K hHeld
            (try simp only [List.getElem_toArray, List.getElem_cons_succ, List.getElem_cons_zero, Act.put, List.setIfInBounds_toArray, List.set_cons_zero, List.set_cons_succ])
            refine wpAnyH_ready (rs := [8]) (by kernel_rfl) (by simp) ?_
            refine (AllReadyH.cons rfl (fun K hK => ?_) AllReadyH.nil)
            · obtain ⟨e0, e1, e2, e3, e4⟩ := zb.1.five
              obtain ⟨f0, f1, f2, f3, f4⟩ := zb.1.thaw
              go_simp
              refine hK.out _ _ ?_ (fun hHeld => ?_)
              · exact sMake (below_put5 hB2 zb.2.2 _ _ _ _ _) HX.out
              clear hK K hHeld
              (try simp only [List.getElem_toArray, List.getElem_cons_succ, List.getElem_cons_zero, Act.put, List.setIfInBounds_toArray, List.set_cons_zero, List.set_cons_succ])
              refine wpAnyH_done (by kernel_rfl) ?_ _
              obtain ⟨wf, ewf, F, hmv, hbf⟩ := put5 zb.1 (.int .i64 q.kind) (.int .i64 q.num) (.int .i64 q.atN) (.slice B4 m4 d4) (.slice B5 m5 d5)
              rw [ewf]
              exact HQ.out _ _ _ _ _ _ _ _ _ _ _ _ _ _ _ F (ho2.move fun k hk => hmv k (zb.2.1 k hk)).reads (hB2.trans (hbf.mono zb.2.2))
      · go_simp
        refine hK.out _ _ ?_ (fun hHeld => ?_)
        · exact sMake (below_chain (below_chain (below_chain (below_chain (Below.refl _ _) ((Below.refl _ _).alloc (Nat.le_refl _) _)) ((Below.refl _ _).alloc (Nat.le_refl _) _)) ((Below.refl _ _).alloc (Nat.le_refl _) _)) ((Below.refl _ _).drew)) HX.out
        clear hK K hHeld
        (try simp only [List.getElem_toArray, List.getElem_cons_succ, List.getElem_cons_zero, Act.put, List.setIfInBounds_toArray, List.set_cons_zero, List.set_cons_succ])
        refine wpAnyH_ready (rs := [3]) (by kernel_rfl) (by simp) ?_
        refine (AllReadyH.cons rfl (fun K hK => ?_) AllReadyH.nil)
        · go_simp
          refine (HPA.out _ _ (Kinds.below (below_chain (below_chain (below_chain (below_chain (Below.refl _ _) ((Below.refl _ _).alloc (Nat.le_refl _) _)) ((Below.refl _ _).alloc (Nat.le_refl _) _)) ((Below.refl _ _).alloc (Nat.le_refl _) _)) ((Below.refl _ _).drew)) hK0) (RT.below (below_chain (below_chain (below_chain (below_chain (Below.refl _ _) ((Below.refl _ _).alloc (Nat.le_refl _) _)) ((Below.refl _ _).alloc (Nat.le_refl _) _)) ((Below.refl _ _).alloc (Nat.le_refl _) _)) ((Below.refl _ _).drew)) ht) (RKv_one (Box.drew (Box.alloc (Box.new' _ [_, _, _, _, _] _ (by simp)) _)) (RT.below (below_chain (below_chain (below_chain (below_chain (Below.refl _ _) ((Below.refl _ _).alloc (Nat.le_refl _) _)) ((Below.refl _ _).alloc (Nat.le_refl _) _)) ((Below.refl _ _).alloc (Nat.le_refl _) _)) ((Below.refl _ _).drew)) ha) 1 (Nat.le_refl _))).mono ?_
          rintro e wx1 ⟨B2, m2, d2, B3, m3, d3, rfl, gx1, hbx1⟩
          have hB1 := below_chain (below_chain (below_chain (below_chain (below_chain (Below.refl _ _) ((Below.refl _ _).alloc (Nat.le_refl _) _)) ((Below.refl _ _).alloc (Nat.le_refl _) _)) ((Below.refl _ _).alloc (Nat.le_refl _) _)) ((Below.refl _ _).drew)) hbx1
          have hrk5 : RKv wx1 [b] (.slice (some ⟨w1.heap.size, 0, none⟩) 1 1) := RKv.below hbx1 (RKv_one (Box.drew (Box.alloc (Box.alloc (Box.new _ [_, _, _, _, _] _) _) _)) (RT.below (below_chain (below_chain (below_chain (below_chain (Below.refl _ _) ((Below.refl _ _).alloc (Nat.le_refl _) _)) ((Below.refl _ _).alloc (Nat.le_refl _) _)) ((Below.refl _ _).alloc (Nat.le_refl _) _)) ((Below.refl _ _).drew)) hb) 1 (Nat.le_refl _))
          have zb0 : Box wx1 (w1.heap.size + 1 + 1) [.int .i64 0, .int .i64 0, .int .i64 0, .slice none 0 0, .slice none 0 0] ∧ w1.heap.size ≤ w1.heap.size + 1 + 1 := zlem0 hbx1 (Box.drew (Box.new' _ [_, _, _, _, _] _ (by simp))) (by omega)
          refine hK.out _ _ ?_ (fun hHeld => ?_)
          · exact sMake hB1 HX.out
          clear hK K hHeld
          (try simp only [List.getElem_toArray, List.getElem_cons_succ, List.getElem_cons_zero, Act.put, List.setIfInBounds_toArray, List.set_cons_zero, List.set_cons_succ])
          refine wpAnyH_ready (rs := [6]) (by kernel_rfl) (by simp) ?_
          refine (AllReadyH.cons rfl (fun K hK => ?_) AllReadyH.nil)
          · go_simp
            refine (HPB.out _ _ _ _ (Kinds.below hB1 hK0) gx1 hrk5).mono ?_
            rintro e wx2 ⟨vl, vk, bs, rfl, ho2, hnd, hbx2⟩
            obtain ⟨B4, m4, d4, B5, m5, d5, rfl, rfl⟩ := ho2.forms
            have gx2 := ho2.reads
            have hB2 := below_chain hB1 hbx2
            have zb := zlem (w1 := w1) hbx2 zb0.1 zb0.2 ho2
            refine hK.out _ _ ?_ (fun hHeld => ?_)
            · exact sMake hB2 HX.out
            clear hK K hHeld
            (try simp only [List.getElem_toArray, List.getElem_cons_succ, List.getElem_cons_zero, Act.put, List.setIfInBounds_toArray, List.set_cons_zero, List.set_cons_succ])
            refine wpAnyH_ready (rs := [8]) (by kernel_rfl) (by simp) ?_
            refine (AllReadyH.cons rfl (fun K hK => ?_) AllReadyH.nil)
            · obtain ⟨e0, e1, e2, e3, e4⟩ := zb.1.five
              obtain ⟨f0, f1, f2, f3, f4⟩ := zb.1.thaw
              go_simp
              refine hK.out _ _ ?_ (fun hHeld => ?_)
              · exact sMake (below_put5 hB2 zb.2.2 _ _ _ _ _) HX.out
              clear hK K hHeld
              (try simp only [List.getElem_toArray, List.getElem_cons_succ, List.getElem_cons_zero, Act.put, List.setIfInBounds_toArray, List.set_cons_zero, List.set_cons_succ])
              refine wpAnyH_done (by kernel_rfl) ?_ _
              obtain ⟨wf, ewf, F, hmv, hbf⟩ := put5 zb.1 (.int .i64 q.kind) (.int .i64 q.num) (.int .i64 q.atN) (.slice B4 m4 d4) (.slice B5 m5 d5)
              rw [ewf]
              exact HQ.out _ _ _ _ _ _ _ _ _ _ _ _ _ _ _ F (ho2.move fun k hk => hmv k (zb.2.1 k hk)).reads (hB2.trans (hbf.mono zb.2.2))
    · go_simp
      refine hK.out _ _ ?_ (fun hHeld => ?_)
      · exact sMake (below_chain (below_chain (below_chain (Below.refl _ _) ((Below.refl _ _).alloc (Nat.le_refl _) _)) ((Below.refl _ _).alloc (Nat.le_refl _) _)) ((Below.refl _ _).drew)) HX.out
      clear hK K hHeld
      (try simp only [List.getElem_toArray, List.getElem_cons_succ, List.getElem_cons_zero, Act.put, List.setIfInBounds_toArray, List.set_cons_zero, List.set_cons_succ])
      refine wpAnyH_ready (rs := [2]) (by kernel_rfl) (by simp) ?_
      refine (AllReadyH.cons rfl (fun K hK => ?_) AllReadyH.nil)
      · go_simp
        refine hK.out _ _ ?_ (fun hHeld => ?_)
        · exact sMake (below_chain (below_chain (below_chain (below_chain (Below.refl _ _) ((Below.refl _ _).alloc (Nat.le_refl _) _)) ((Below.refl _ _).alloc (Nat.le_refl _) _)) ((Below.refl _ _).alloc (Nat.le_refl _) _)) ((Below.refl _ _).drew)) HX.out
        clear hK K hHeld
        (try simp only [List.getElem_toArray, List.getElem_cons_succ, List.getElem_cons_zero, Act.put, List.setIfInBounds_toArray, List.set_cons_zero, List.set_cons_succ])
        refine wpAnyH_ready (rs := [3]) (by kernel_rfl) (by simp) ?_
        refine (AllReadyH.cons rfl (fun K hK => ?_) AllReadyH.nil)
        · go_simp
          refine (HPA.out _ _ (Kinds.below (below_chain (below_chain (below_chain (below_chain (Below.refl _ _) ((Below.refl _ _).alloc (Nat.le_refl _) _)) ((Below.refl _ _).alloc (Nat.le_refl _) _)) ((Below.refl _ _).alloc (Nat.le_refl _) _)) ((Below.refl _ _).drew)) hK0) (RT.below (below_chain (below_chain (below_chain (below_chain (Below.refl _ _) ((Below.refl _ _).alloc (Nat.le_refl _) _)) ((Below.refl _ _).alloc (Nat.le_refl _) _)) ((Below.refl _ _).alloc (Nat.le_refl _) _)) ((Below.refl _ _).drew)) ht) (RKv_one (Box.drew (Box.new' _ [_, _, _, _, _] _ (by simp))) (RT.below (below_chain (below_chain (below_chain (below_chain (Below.refl _ _) ((Below.refl _ _).alloc (Nat.le_refl _) _)) ((Below.refl _ _).alloc (Nat.le_refl _) _)) ((Below.refl _ _).alloc (Nat.le_refl _) _)) ((Below.refl _ _).drew)) ha) 1 (Nat.le_refl _))).mono ?_
          rintro e wx1 ⟨B2, m2, d2, B3, m3, d3, rfl, gx1, hbx1⟩
          have hB1 := below_chain (below_chain (below_chain (below_chain (below_chain (Below.refl _ _) ((Below.refl _ _).alloc (Nat.le_refl _) _)) ((Below.refl _ _).alloc (Nat.le_refl _) _)) ((Below.refl _ _).alloc (Nat.le_refl _) _)) ((Below.refl _ _).drew)) hbx1
          have hrk5 : RKv wx1 [b] (.slice (some ⟨w1.heap.size, 0, none⟩) 1 1) := RKv.below hbx1 (RKv_one (Box.drew (Box.alloc (Box.alloc (Box.new _ [_, _, _, _, _] _) _) _)) (RT.below (below_chain (below_chain (below_chain (below_chain (Below.refl _ _) ((Below.refl _ _).alloc (Nat.le_refl _) _)) ((Below.refl _ _).alloc (Nat.le_refl _) _)) ((Below.refl _ _).alloc (Nat.le_refl _) _)) ((Below.refl _ _).drew)) hb) 1 (Nat.le_refl _))
          have zb0 : Box wx1 (w1.heap.size + 1) [.int .i64 0, .int .i64 0, .int .i64 0, .slice none 0 0, .slice none 0 0] ∧ w1.heap.size ≤ w1.heap.size + 1 := zlem0 hbx1 (Box.drew (Box.alloc (Box.new' _ [_, _, _, _, _] _ (by simp)) _)) (by omega)
          refine hK.out _ _ ?_ (fun hHeld => ?_)
          · exact sMake hB1 HX.out
          clear hK K hHeld
          (try simp only [List.getElem_toArray, List.getElem_cons_succ, List.getElem_cons_zero, Act.put, List.setIfInBounds_toArray, List.set_cons_zero, List.set_cons_succ])
          refine wpAnyH_ready (rs := [6]) (by kernel_rfl) (by simp) ?_
          refine (AllReadyH.cons rfl (fun K hK => ?_) AllReadyH.nil)
          · go_simp
            refine (HPB.out _ _ _ _ (Kinds.below hB1 hK0) gx1 hrk5).mono ?_
            rintro e wx2 ⟨vl, vk, bs, rfl, ho2, hnd, hbx2⟩
            obtain ⟨B4, m4, d4, B5, m5, d5, rfl, rfl⟩ := ho2.forms
            have gx2 := ho2.reads
            have hB2 := below_chain hB1 hbx2
            have zb := zlem (w1 := w1) hbx2 zb0.1 zb0.2 ho2
            refine hK.out _ _ ?_ (fun hHeld => ?_)
            · exact sMake hB2 HX.out
            clear hK K hHeld
            (try simp only [List.getElem_toArray, List.getElem_cons_succ, List.getElem_cons_zero, Act.put, List.setIfInBounds_toArray, List.set_cons_zero, List.set_cons_succ])
            refine wpAnyH_ready (rs := [8]) (by kernel_rfl) (by simp) ?_
            refine (AllReadyH.cons rfl (fun K hK => ?_) AllReadyH.nil)
            · obtain ⟨e0, e1, e2, e3, e4⟩ := zb.1.five
              obtain ⟨f0, f1, f2, f3, f4⟩ := zb.1.thaw
              go_simp
              refine hK.out _ _ ?_ (fun hHeld => ?_)
              · exact sMake (below_put5 hB2 zb.2.2 _ _ _ _ _) HX.out
              clear hK K hHeld
              (try simp only [List.getElem_toArray, List.getElem_cons_succ, List.getElem_cons_zero, Act.put, List.setIfInBounds_toArray, List.set_cons_zero, List.set_cons_succ])
              refine wpAnyH_done (by kernel_rfl) ?_ _
              obtain ⟨wf, ewf, F, hmv, hbf⟩ := put5 zb.1 (.int .i64 q.kind) (.int .i64 q.num) (.int .i64 q.atN) (.slice B4 m4 d4) (.slice B5 m5 d5)
              rw [ewf]
              exact HQ.out _ _ _ _ _ _ _ _ _ _ _ _ _ _ _ F (ho2.move fun k hk => hmv k (zb.2.1 k hk)).reads (hB2.trans (hbf.mono zb.2.2))
  · go_simp
    refine hK.out _ _ ?_ (fun hHeld => ?_)
    · exact sMake (below_chain (below_chain (Below.refl _ _) ((Below.refl _ _).alloc (Nat.le_refl _) _)) ((Below.refl _ _).drew)) HX.out
    clear hK K hHeld
    (try simp only [List.getElem_toArray, List.getElem_cons_succ, List.getElem_cons_zero, Act.put, List.setIfInBounds_toArray, List.set_cons_zero, List.set_cons_succ])
    refine wpAnyH_ready (rs := [2, 5]) (by kernel_rfl) (by simp) ?_
    refine (AllReadyH.cons rfl (fun K hK => ?_) (AllReadyH.cons rfl (fun K hK => ?_) AllReadyH.nil))
    · go_simp
      refine hK.out _ _ ?_ (fun hHeld => ?_)
      · exact sMake (below_chain (below_chain (below_chain (Below.refl _ _) ((Below.refl _ _).alloc (Nat.le_refl _) _)) ((Below.refl _ _).alloc (Nat.le_refl _) _)) ((Below.refl _ _).drew)) HX.out
      clear hK K hHeld
      (try simp only [List.getElem_toArray, List.getElem_cons_succ, List.getElem_cons_zero, Act.put, List.setIfInBounds_toArray, List.set_cons_zero, List.set_cons_succ])
      refine wpAnyH_ready (rs := [3, 5]) (by kernel_rfl) (by simp) ?_
      refine (AllReadyH.cons rfl (fun K hK => ?_) (AllReadyH.cons rfl (fun K hK => ?_) AllReadyH.nil))
      · go_simp
        refine (HPA.out _ _ (Kinds.below (below_chain (below_chain (below_chain (Below.refl _ _) ((Below.refl _ _).alloc (Nat.le_refl _) _)) ((Below.refl _ _).alloc (Nat.le_refl _) _)) ((Below.refl _ _).drew)) hK0) (RT.below (below_chain (below_chain (below_chain (Below.refl _ _) ((Below.refl _ _).alloc (Nat.le_refl _) _)) ((Below.refl _ _).alloc (Nat.le_refl _) _)) ((Below.refl _ _).drew)) ht) (RKv_one (Box.drew (Box.new' _ [_, _, _, _, _] _ (by simp))) (RT.below (below_chain (below_chain (below_chain (Below.refl _ _) ((Below.refl _ _).alloc (Nat.le_refl _) _)) ((Below.refl _ _).alloc (Nat.le_refl _) _)) ((Below.refl _ _).drew)) ha) 1 (Nat.le_refl _))).mono ?_
        rintro e wx1 ⟨B2, m2, d2, B3, m3, d3, rfl, gx1, hbx1⟩
        have hB1 := below_chain (below_chain (below_chain (below_chain (Below.refl _ _) ((Below.refl _ _).alloc (Nat.le_refl _) _)) ((Below.refl _ _).alloc (Nat.le_refl _) _)) ((Below.refl _ _).drew)) hbx1
        have zb0 : Box wx1 (w1.heap.size) [.int .i64 0, .int .i64 0, .int .i64 0, .slice none 0 0, .slice none 0 0] ∧ w1.heap.size ≤ w1.heap.size := zlem0 hbx1 (Box.drew (Box.alloc (Box.new _ [_, _, _, _, _] _) _)) (by omega)
        refine hK.out _ _ ?_ (fun hHeld => ?_)
        · exact sMake hB1 HX.out
        clear hK K hHeld
        (try simp only [List.getElem_toArray, List.getElem_cons_succ, List.getElem_cons_zero, Act.put, List.setIfInBounds_toArray, List.set_cons_zero, List.set_cons_succ])
        refine wpAnyH_ready (rs := [5]) (by kernel_rfl) (by simp) ?_
        refine (AllReadyH.cons rfl (fun K hK => ?_) AllReadyH.nil)
        · go_simp
          refine hK.out _ _ ?_ (fun hHeld => ?_)
          · exact sMake (below_chain hB1 ((Below.refl _ _).alloc (Nat.le_refl _) _)) HX.out
          clear hK K hHeld
          (try simp only [List.getElem_toArray, List.getElem_cons_succ, List.getElem_cons_zero, Act.put, List.setIfInBounds_toArray, List.set_cons_zero, List.set_cons_succ])
          refine wpAnyH_ready (rs := [6]) (by kernel_rfl) (by simp) ?_
          refine (AllReadyH.cons rfl (fun K hK => ?_) AllReadyH.nil)
          · go_simp
            refine (HPB.out _ _ _ _ (Kinds.below (below_chain hB1 ((Below.refl _ _).alloc (Nat.le_refl _) _)) hK0) (RT.below ((Below.refl _ _).alloc (Nat.le_refl _) _) gx1) (RKv_one (Box.new _ [_, _, _, _, _] _) (RT.below (below_chain hB1 ((Below.refl _ _).alloc (Nat.le_refl _) _)) hb) 1 (Nat.le_refl _))).mono ?_
            rintro e wx2 ⟨vl, vk, bs, rfl, ho2, hnd, hbx2⟩
            obtain ⟨B4, m4, d4, B5, m5, d5, rfl, rfl⟩ := ho2.forms
            have gx2 := ho2.reads
            have hB2 := below_chain (below_chain hB1 ((Below.refl _ _).alloc (Nat.le_refl _) _)) hbx2
            have zb := zlem (w1 := w1) hbx2 (Box.alloc zb0.1 _) zb0.2 ho2
            refine hK.out _ _ ?_ (fun hHeld => ?_)
            · exact sMake hB2 HX.out
            clear hK K hHeld
            (try simp only [List.getElem_toArray, List.getElem_cons_succ, List.getElem_cons_zero, Act.put, List.setIfInBounds_toArray, List.set_cons_zero, List.set_cons_succ])
            refine wpAnyH_ready (rs := [8]) (by kernel_rfl) (by simp) ?_
            refine (AllReadyH.cons rfl (fun K hK => ?_) AllReadyH.nil)
            · obtain ⟨e0, e1, e2, e3, e4⟩ := zb.1.five
              obtain ⟨f0, f1, f2, f3, f4⟩ := zb.1.thaw
              go_simp
              refine hK.out _ _ ?_ (fun hHeld => ?_)
              · exact sMake (below_put5 hB2 zb.2.2 _ _ _ _ _) HX.out
              clear hK K hHeld
              (try simp only [List.getElem_toArray, List.getElem_cons_succ, List.getElem_cons_zero, Act.put, List.setIfInBounds_toArray, List.set_cons_zero, List.set_cons_succ])
              refine wpAnyH_done (by kernel_rfl) ?_ _
              obtain ⟨wf, ewf, F, hmv, hbf⟩ := put5 zb.1 (.int .i64 q.kind) (.int .i64 q.num) (.int .i64 q.atN) (.slice B4 m4 d4) (.slice B5 m5 d5)
              rw [ewf]
              exact HQ.out _ _ _ _ _ _ _ _ _ _ _ _ _ _ _ F (ho2.move fun k hk => hmv k (zb.2.1 k hk)).reads (hB2.trans (hbf.mono zb.2.2))
      · go_simp
        refine hK.out _ _ ?_ (fun hHeld => ?_)
        · exact sMake (below_chain (below_chain (below_chain (below_chain (Below.refl _ _) ((Below.refl _ _).alloc (Nat.le_refl _) _)) ((Below.refl _ _).alloc (Nat.le_refl _) _)) ((Below.refl _ _).alloc (Nat.le_refl _) _)) ((Below.refl _ _).drew)) HX.out
        clear hK K hHeld
        (try simp only [List.getElem_toArray, List.getElem_cons_succ, List.getElem_cons_zero, Act.put, List.setIfInBounds_toArray, List.set_cons_zero, List.set_cons_succ])
        refine wpAnyH_ready (rs := [3]) (by kernel_rfl) (by simp) ?_
        refine (AllReadyH.cons rfl (fun K hK => ?_) AllReadyH.nil)
        · go_simp
          refine (HPA.out _ _ (Kinds.below (below_chain (below_chain (below_chain (below_chain (Below.refl _ _) ((Below.refl _ _).alloc (Nat.le_refl _) _)) ((Below.refl _ _).alloc (Nat.le_refl _) _)) ((Below.refl _ _).alloc (Nat.le_refl _) _)) ((Below.refl _ _).drew)) hK0) (RT.below (below_chain (below_chain (below_chain (below_chain (Below.refl _ _) ((Below.refl _ _).alloc (Nat.le_refl _) _)) ((Below.refl _ _).alloc (Nat.le_refl _) _)) ((Below.refl _ _).alloc (Nat.le_refl _) _)) ((Below.refl _ _).drew)) ht) (RKv_one (Box.drew (Box.alloc (Box.new' _ [_, _, _, _, _] _ (by simp)) _)) (RT.below (below_chain (below_chain (below_chain (below_chain (Below.refl _ _) ((Below.refl _ _).alloc (Nat.le_refl _) _)) ((Below.refl _ _).alloc (Nat.le_refl _) _)) ((Below.refl _ _).alloc (Nat.le_refl _) _)) ((Below.refl _ _).drew)) ha) 1 (Nat.le_refl _))).mono ?_
          rintro e wx1 ⟨B2, m2, d2, B3, m3, d3, rfl, gx1, hbx1⟩
          have hB1 := below_chain (below_chain (below_chain (below_chain (below_chain (Below.refl _ _) ((Below.refl _ _).alloc (Nat.le_refl _) _)) ((Below.refl _ _).alloc (Nat.le_refl _) _)) ((Below.refl _ _).alloc (Nat.le_refl _) _)) ((Below.refl _ _).drew)) hbx1
          have hrk5 : RKv wx1 [b] (.slice (some ⟨w1.heap.size + 1 + 1, 0, none⟩) 1 1) := RKv.below hbx1 (RKv_one (Box.drew (Box.new' _ [_, _, _, _, _] _ (by simp))) (RT.below (below_chain (below_chain (below_chain (below_chain (Below.refl _ _) ((Below.refl _ _).alloc (Nat.le_refl _) _)) ((Below.refl _ _).alloc (Nat.le_refl _) _)) ((Below.refl _ _).alloc (Nat.le_refl _) _)) ((Below.refl _ _).drew)) hb) 1 (Nat.le_refl _))
          have zb0 : Box wx1 (w1.heap.size) [.int .i64 0, .int .i64 0, .int .i64 0, .slice none 0 0, .slice none 0 0] ∧ w1.heap.size ≤ w1.heap.size := zlem0 hbx1 (Box.drew (Box.alloc (Box.alloc (Box.new _ [_, _, _, _, _] _) _) _)) (by omega)
          refine hK.out _ _ ?_ (fun hHeld => ?_)
          · exact sMake hB1 HX.out
          clear hK K hHeld
          (try simp only [List.getElem_toArray, List.getElem_cons_succ, List.getElem_cons_zero, Act.put, List.setIfInBounds_toArray, List.set_cons_zero, List.set_cons_succ])
          refine wpAnyH_ready (rs := [6]) (by kernel_rfl) (by simp) ?_
          refine (AllReadyH.cons rfl (fun K hK => ?_) AllReadyH.nil)
          · go_simp
            refine (HPB.out _ _ _ _ (Kinds.below hB1 hK0) gx1 hrk5).mono ?_
            rintro e wx2 ⟨vl, vk, bs, rfl, ho2, hnd, hbx2⟩
            obtain ⟨B4, m4, d4, B5, m5, d5, rfl, rfl⟩ := ho2.forms
            have gx2 := ho2.reads
            have hB2 := below_chain hB1 hbx2
            have zb := zlem (w1 := w1) hbx2 zb0.1 zb0.2 ho2
            refine hK.out _ _ ?_ (fun hHeld => ?_)
            · exact sMake hB2 HX.out
            clear hK K hHeld
            (try simp only [List.getElem_toArray, List.getElem_cons_succ, List.getElem_cons_zero, Act.put, List.setIfInBounds_toArray, List.set_cons_zero, List.set_cons_succ])
            refine wpAnyH_ready (rs := [8]) (by kernel_rfl) (by simp) ?_
            refine (AllReadyH.cons rfl (fun K hK => ?_) AllReadyH.nil)
            · obtain ⟨e0, e1, e2, e3, e4⟩ := zb.1.five
              obtain ⟨f0, f1, f2, f3, f4⟩ := zb.1.thaw
              go_simp
              refine hK.out _ _ ?_ (fun hHeld => ?_)
              · exact sMake (below_put5 hB2 zb.2.2 _ _ _ _ _) HX.out
              clear hK K hHeld
              (try simp only [List.getElem_toArray, List.getElem_cons_succ, List.getElem_cons_zero, Act.put, List.setIfInBounds_toArray, List.set_cons_zero, List.set_cons_succ])
              refine wpAnyH_done (by kernel_rfl) ?_ _
              obtain ⟨wf, ewf, F, hmv, hbf⟩ := put5 zb.1 (.int .i64 q.kind) (.int .i64 q.num) (.int .i64 q.atN) (.slice B4 m4 d4) (.slice B5 m5 d5)
              rw [ewf]
              exact HQ.out _ _ _ _ _ _ _ _ _ _ _ _ _ _ _ F (ho2.move fun k hk => hmv k (zb.2.1 k hk)).reads (hB2.trans (hbf.mono zb.2.2))
    · go_simp
      refine hK.out _ _ ?_ (fun hHeld => ?_)
      · exact sMake (below_chain (below_chain (below_chain (Below.refl _ _) ((Below.refl _ _).alloc (Nat.le_refl _) _)) ((Below.refl _ _).alloc (Nat.le_refl _) _)) ((Below.refl _ _).drew)) HX.out
      clear hK K hHeld
      (try simp only [List.getElem_toArray, List.getElem_cons_succ, List.getElem_cons_zero, Act.put, List.setIfInBounds_toArray, List.set_cons_zero, List.set_cons_succ])
      refine wpAnyH_ready (rs := [2]) (by kernel_rfl) (by simp) ?_
      refine (AllReadyH.cons rfl (fun K hK => ?_) AllReadyH.nil)
      · go_simp
        refine hK.out _ _ ?_ (fun hHeld => ?_)
        · exact sMake (below_chain (below_chain (below_chain (below_chain (Below.refl _ _) ((Below.refl _ _).alloc (Nat.le_refl _) _)) ((Below.refl _ _).alloc (Nat.le_refl _) _)) ((Below.refl _ _).alloc (Nat.le_refl _) _)) ((Below.refl _ _).drew)) HX.out
        clear hK K hHeld
        (try simp only [List.getElem_toArray, List.getElem_cons_succ, List.getElem_cons_zero, Act.put, List.setIfInBounds_toArray, List.set_cons_zero, List.set_cons_succ])
        refine wpAnyH_ready (rs := [3]) (by kernel_rfl) (by simp) ?_
        refine (AllReadyH.cons rfl (fun K hK => ?_) AllReadyH.nil)
        · go_simp
          refine (HPA.out _ _ (Kinds.below (below_chain (below_chain (below_chain (below_chain (Below.refl _ _) ((Below.refl _ _).alloc (Nat.le_refl _) _)) ((Below.refl _ _).alloc (Nat.le_refl _) _)) ((Below.refl _ _).alloc (Nat.le_refl _) _)) ((Below.refl _ _).drew)) hK0) (RT.below (below_chain (below_chain (below_chain (below_chain (Below.refl _ _) ((Below.refl _ _).alloc (Nat.le_refl _) _)) ((Below.refl _ _).alloc (Nat.le_refl _) _)) ((Below.refl _ _).alloc (Nat.le_refl _) _)) ((Below.refl _ _).drew)) ht) (RKv_one (Box.drew (Box.new' _ [_, _, _, _, _] _ (by simp))) (RT.below (below_chain (below_chain (below_chain (below_chain (Below.refl _ _) ((Below.refl _ _).alloc (Nat.le_refl _) _)) ((Below.refl _ _).alloc (Nat.le_refl _) _)) ((Below.refl _ _).alloc (Nat.le_refl _) _)) ((Below.refl _ _).drew)) ha) 1 (Nat.le_refl _))).mono ?_
          rintro e wx1 ⟨B2, m2, d2, B3, m3, d3, rfl, gx1, hbx1⟩
          have hB1 := below_chain (below_chain (below_chain (below_chain (below_chain (Below.refl _ _) ((Below.refl _ _).alloc (Nat.le_refl _) _)) ((Below.refl _ _).alloc (Nat.le_refl _) _)) ((Below.refl _ _).alloc (Nat.le_refl _) _)) ((Below.refl _ _).drew)) hbx1
          have hrk5 : RKv wx1 [b] (.slice (some ⟨w1.heap.size + 1, 0, none⟩) 1 1) := RKv.below hbx1 (RKv_one (Box.drew (Box.alloc (Box.new' _ [_, _, _, _, _] _ (by simp)) _)) (RT.below (below_chain (below_chain (below_chain (below_chain (Below.refl _ _) ((Below.refl _ _).alloc (Nat.le_refl _) _)) ((Below.refl _ _).alloc (Nat.le_refl _) _)) ((Below.refl _ _).alloc (Nat.le_refl _) _)) ((Below.refl _ _).drew)) hb) 1 (Nat.le_refl _))
          have zb0 : Box wx1 (w1.heap.size) [.int .i64 0, .int .i64 0, .int .i64 0, .slice none 0 0, .slice none 0 0] ∧ w1.heap.size ≤ w1.heap.size := zlem0 hbx1 (Box.drew (Box.alloc (Box.alloc (Box.new _ [_, _, _, _, _] _) _) _)) (by omega)
          refine hK.out _ _ ?_ (fun hHeld => ?_)
          · exact sMake hB1 HX.out
          clear hK K hHeld
          (try simp only [List.getElem_toArray, List.getElem_cons_succ, List.getElem_cons_zero, Act.put, List.setIfInBounds_toArray, List.set_cons_zero, List.set_cons_succ])
          refine wpAnyH_ready (rs := [6]) (by kernel_rfl) (by simp) ?_
          refine (AllReadyH.cons rfl (fun K hK => ?_) AllReadyH.nil)
          · go_simp
            refine (HPB.out _ _ _ _ (Kinds.below hB1 hK0) gx1 hrk5).mono ?_
            rintro e wx2 ⟨vl, vk, bs, rfl, ho2, hnd, hbx2⟩
            obtain ⟨B4, m4, d4, B5, m5, d5, rfl, rfl⟩ := ho2.forms
            have gx2 := ho2.reads
            have hB2 := below_chain hB1 hbx2
            have zb := zlem (w1 := w1) hbx2 zb0.1 zb0.2 ho2
            refine hK.out _ _ ?_ (fun hHeld => ?_)
            · exact sMake hB2 HX.out
            clear hK K hHeld
            (try simp only [List.getElem_toArray, List.getElem_cons_succ, List.getElem_cons_zero, Act.put, List.setIfInBounds_toArray, List.set_cons_zero, List.set_cons_succ])
            refine wpAnyH_ready (rs := [8]) (by kernel_rfl) (by simp) ?_
            refine (AllReadyH.cons rfl (fun K hK => ?_) AllReadyH.nil)
            · obtain ⟨e0, e1, e2, e3, e4⟩ := zb.1.five
              obtain ⟨f0, f1, f2, f3, f4⟩ := zb.1.thaw
              go_simp
              refine hK.out _ _ ?_ (fun hHeld => ?_)
              · exact sMake (below_put5 hB2 zb.2.2 _ _ _ _ _) HX.out
              clear hK K hHeld
              (try simp only [List.getElem_toArray, List.getElem_cons_succ, List.getElem_cons_zero, Act.put, List.setIfInBounds_toArray, List.set_cons_zero, List.set_cons_succ])
              refine wpAnyH_done (by kernel_rfl) ?_ _
              obtain ⟨wf, ewf, F, hmv, hbf⟩ := put5 zb.1 (.int .i64 q.kind) (.int .i64 q.num) (.int .i64 q.atN) (.slice B4 m4 d4) (.slice B5 m5 d5)
              rw [ewf]
              exact HQ.out _ _ _ _ _ _ _ _ _ _ _ _ _ _ _ F (ho2.move fun k hk => hmv k (zb.2.1 k hk)).reads (hB2.trans (hbf.mono zb.2.2))

end Go.Proofs.YtajpkhkfffdclaaDoor
