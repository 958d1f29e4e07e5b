/-
  THE WALK OF CoreParts: two copies of the term.
-/
import Derived.Test.YtajpkhkfffdclaaDoorParts5
namespace Go.Proofs.YtajpkhkfffdclaaDoor
open Go.RowKit
set_option linter.unusedSimpArgs false
set_option linter.unusedVariables false

theorem below5 {B zz : Nat} {w1 W : World} (h : Below B w1 W) (hz : B ≤ zz) (u0 u1 u2 u3 u4 : Value) : Below B w1 (((((W.setCell ⟨zz, 0, none⟩ u0).setCell ⟨zz, 1, none⟩ u1).setCell ⟨zz, 2, none⟩ u2).setCell ⟨zz, 3, none⟩ u3).setCell ⟨zz, 4, none⟩ u4) :=
  ((((h.setCell hz _).setCell hz _).setCell hz _).setCell hz _).setCell hz _

set_option maxRecDepth 100000 in
set_option maxHeartbeats 16000000 in
theorem parts15 (t : Tm) (A1 A2 : Option Addr) (n1 c1 n2 c2 N : Nat) (w1 : World) (u0 u1 u2 u3 u4 u5 u6 u7 u9 u10 u11 u12 u13 u14 u15 u16 u17 u18 u19 u20 u21 u22 u23 u24 u25 u26 u27 u28 u29 u30 u31 u32 u33 u34 u35 u36 u37 u38 u39 u40 u41 u42 u43 u44 u45 u46 u47 u48 u49 u50 u51 u52 u53 u54 u55 u56 u57 u58 u59 u60 u61 u62 u63 u64 u65 u66 u67 u68 u69 u70 u71 u72 u73 u74 u75 u76 u77 u78 u79 u80 u81 u82 u83 u84 u85 u86 u87 u88 u89 u90 u91 u92 u93 u94 u95 u96 u97 u98 u99 u100 u101 u102 u103 u104 u105 u106 u107 u108 u109 u110 u111 u112 u113 u114 u115 u116 u117 u118 u119 u120 u121 u122 u123 u124 u125 u126 u127 u128 : Value)
    (HX : Hid (w1.cell? ⟨N, 0, none⟩ = some (.int .i64 t.kind) ∧ w1.cell? ⟨N, 1, none⟩ = some (.int .i64 t.num) ∧ w1.cell? ⟨N, 2, none⟩ = some (.int .i64 t.atN) ∧ w1.cell? ⟨N, 3, none⟩ = some (.slice A1 n1 c1) ∧ w1.cell? ⟨N, 4, none⟩ = some (.slice A2 n2 c2)))
    (code : Code) (hc : Tryd.f5.body.bind (codeAt 15) = some code) (K : Act → World → Prop)
    (hQ : ∀ v88 v89 (b13 b14 : Nat) wc, b13 ≠ b14 → w1.heap.size ≤ b13 → w1.heap.size ≤ b14 → Box wc b13 [.int .i64 t.kind, .int .i64 t.num, .int .i64 t.atN, .slice A1 n1 c1, .slice A2 n2 c2] → Box wc b14 [.int .i64 t.kind, .int .i64 t.num, .int .i64 t.atN, .slice A1 n1 c1, .slice A2 n2 c2] → Below w1.heap.size w1 wc → K { tmps := List.toArray (u0 :: u1 :: u2 :: u3 :: u4 :: u5 :: u6 :: u7 :: .pointer (some ⟨N, 0, none⟩) :: u9 :: u10 :: u11 :: u12 :: .pointer (some ⟨b13, 0, none⟩) :: .pointer (some ⟨b14, 0, none⟩) :: u15 :: u16 :: u17 :: u18 :: u19 :: u20 :: u21 :: u22 :: u23 :: u24 :: u25 :: u26 :: u27 :: u28 :: u29 :: u30 :: u31 :: u32 :: u33 :: u34 :: u35 :: u36 :: u37 :: u38 :: u39 :: u40 :: u41 :: u42 :: u43 :: u44 :: u45 :: u46 :: u47 :: u48 :: u49 :: u50 :: u51 :: u52 :: u53 :: u54 :: u55 :: u56 :: u57 :: u58 :: u59 :: u60 :: u61 :: u62 :: u63 :: u64 :: u65 :: u66 :: u67 :: u68 :: u69 :: u70 :: u71 :: u72 :: u73 :: u74 :: u75 :: u76 :: u77 :: u78 :: u79 :: u80 :: u81 :: u82 :: u83 :: u84 :: u85 :: u86 :: u87 :: v88 :: v89 :: u90 :: u91 :: u92 :: u93 :: u94 :: u95 :: u96 :: u97 :: u98 :: u99 :: u100 :: u101 :: u102 :: u103 :: u104 :: u105 :: u106 :: u107 :: u108 :: u109 :: u110 :: u111 :: u112 :: u113 :: u114 :: u115 :: u116 :: u117 :: u118 :: u119 :: u120 :: u121 :: u122 :: u123 :: u124 :: u125 :: u126 :: u127 :: u128 :: []), defers := [] } wc) :
    code.wp Tryd.prog (Exit.then K fun _ _ _ => False) { tmps := List.toArray (u0 :: u1 :: u2 :: u3 :: u4 :: u5 :: u6 :: u7 :: .pointer (some ⟨N, 0, none⟩) :: u9 :: u10 :: u11 :: u12 :: u13 :: u14 :: u15 :: u16 :: u17 :: u18 :: u19 :: u20 :: u21 :: u22 :: u23 :: u24 :: u25 :: u26 :: u27 :: u28 :: u29 :: u30 :: u31 :: u32 :: u33 :: u34 :: u35 :: u36 :: u37 :: u38 :: u39 :: u40 :: u41 :: u42 :: u43 :: u44 :: u45 :: u46 :: u47 :: u48 :: u49 :: u50 :: u51 :: u52 :: u53 :: u54 :: u55 :: u56 :: u57 :: u58 :: u59 :: u60 :: u61 :: u62 :: u63 :: u64 :: u65 :: u66 :: u67 :: u68 :: u69 :: u70 :: u71 :: u72 :: u73 :: u74 :: u75 :: u76 :: u77 :: u78 :: u79 :: u80 :: u81 :: u82 :: u83 :: u84 :: u85 :: u86 :: u87 :: u88 :: u89 :: u90 :: u91 :: u92 :: u93 :: u94 :: u95 :: u96 :: u97 :: u98 :: u99 :: u100 :: u101 :: u102 :: u103 :: u104 :: u105 :: u106 :: u107 :: u108 :: u109 :: u110 :: u111 :: u112 :: u113 :: u114 :: u115 :: u116 :: u117 :: u118 :: u119 :: u120 :: u121 :: u122 :: u123 :: u124 :: u125 :: u126 :: u127 :: u128 :: []), defers := [] } w1 := by
  simp only [Tryd.f5, codeAt, Option.bind_some, Nat.reduceEqDiff, if_true, if_false, Option.some.injEq] at hc
  subst hc
  have HQ := Lib.hid hQ
  clear hQ
  have hS0 : w1.drew.cell? ⟨N, 0, none⟩ = some (.int .i64 t.kind) ∧ w1.drew.cell? ⟨N, 1, none⟩ = some (.int .i64 t.num) ∧ w1.drew.cell? ⟨N, 2, none⟩ = some (.int .i64 t.atN) ∧ w1.drew.cell? ⟨N, 3, none⟩ = some (.slice A1 n1 c1) ∧ w1.drew.cell? ⟨N, 4, none⟩ = some (.slice A2 n2 c2) ∧ Below w1.heap.size w1 w1.drew := sFive ((Below.refl _ _).drew) HX.out
  refine wp_region_held_drew (S := fun w' => w'.cell? ⟨N, 0, none⟩ = some (.int .i64 t.kind) ∧ w'.cell? ⟨N, 1, none⟩ = some (.int .i64 t.num) ∧ w'.cell? ⟨N, 2, none⟩ = some (.int .i64 t.atN) ∧ w'.cell? ⟨N, 3, none⟩ = some (.slice A1 n1 c1) ∧ w'.cell? ⟨N, 4, none⟩ = some (.slice A2 n2 c2) ∧ Below w1.heap.size w1 w') (by kernel_rfl) hS0 (fun hHeld => ?_)
  refine wpAnyH_take (i := 0) (v := ?v0n1) rfl (by kernel_rfl) (by kernel_rfl) (by kernel_rfl) (fun _ _ _ h => h) (Or.inl ⟨by rfl, ?hy0n1⟩) (by assumption) ?rest0n1
  case hy0n1 => intro w hSw; (try dsimp only at hSw); go_simp; try with_reducible rfl
  (try simp only [List.getElem_toArray, List.getElem_cons_zero, List.getElem_cons_succ, Act.put, List.setIfInBounds_toArray, List.set_cons_zero, List.set_cons_succ])
  refine wpAnyH_take (i := 1) (v := ?v1n2) rfl (by kernel_rfl) (by kernel_rfl) (by kernel_rfl) (fun _ _ _ h => h) (Or.inl ⟨by rfl, ?hy1n2⟩) (by assumption) ?rest1n2
  case hy1n2 => intro w hSw; (try dsimp only at hSw); go_simp; try with_reducible rfl
  (try simp only [List.getElem_toArray, List.getElem_cons_zero, List.getElem_cons_succ, Act.put, List.setIfInBounds_toArray, List.set_cons_zero, List.set_cons_succ])
  clear hS0 hHeld
  refine wpAnyH_ready (rs := [2, 3]) (by kernel_rfl) (by simp) ?_
  refine (AllReadyH.cons rfl (fun K hK => ?_) (AllReadyH.cons rfl (fun K hK => ?_) AllReadyH.nil))
  · go_simp
    refine hK.out _ _ (sFive (((Below.refl _ _).alloc (Nat.le_refl _) _).drew) HX.out) (fun hHeld => ?_)
    clear hK K hHeld
    (try simp only [List.getElem_toArray, List.getElem_cons_zero, List.getElem_cons_succ, Act.put, List.setIfInBounds_toArray, List.set_cons_zero, List.set_cons_succ])
    refine wpAnyH_ready (rs := [3]) (by kernel_rfl) (by simp) ?_
    refine (AllReadyH.cons rfl (fun K hK => ?_) AllReadyH.nil)
    go_simp
    refine hK.out _ _ (sFive ((((Below.refl _ _).alloc (Nat.le_refl _) _).alloc (by simp) _).drew) HX.out) (fun hHeld => ?_)
    clear hK K hHeld
    (try simp only [List.getElem_toArray, List.getElem_cons_zero, List.getElem_cons_succ, Act.put, List.setIfInBounds_toArray, List.set_cons_zero, List.set_cons_succ])
    have bel : Below w1.heap.size w1 (((w1.alloc (.cells #[.int .i64 0, .int .i64 0, .int .i64 0, .slice none 0 0, .slice none 0 0] 26)).alloc (.cells #[.int .i64 0, .int .i64 0, .int .i64 0, .slice none 0 0, .slice none 0 0] 26)).drew) := ((((Below.refl _ _).alloc (Nat.le_refl _) _).alloc (by simp) _).drew)
    have Ba : Box (((w1.alloc (.cells #[.int .i64 0, .int .i64 0, .int .i64 0, .slice none 0 0, .slice none 0 0] 26)).alloc (.cells #[.int .i64 0, .int .i64 0, .int .i64 0, .slice none 0 0, .slice none 0 0] 26)).drew) w1.heap.size [.int .i64 0, .int .i64 0, .int .i64 0, .slice none 0 0, .slice none 0 0] := ((Box.new w1 [_, _, _, _, _] _).alloc _ : Box ((w1.alloc (.cells #[.int .i64 0, .int .i64 0, .int .i64 0, .slice none 0 0, .slice none 0 0] 26)).alloc (.cells #[.int .i64 0, .int .i64 0, .int .i64 0, .slice none 0 0, .slice none 0 0] 26)) w1.heap.size [.int .i64 0, .int .i64 0, .int .i64 0, .slice none 0 0, .slice none 0 0])
    have Bb : Box (((w1.alloc (.cells #[.int .i64 0, .int .i64 0, .int .i64 0, .slice none 0 0, .slice none 0 0] 26)).alloc (.cells #[.int .i64 0, .int .i64 0, .int .i64 0, .slice none 0 0, .slice none 0 0] 26)).drew) (w1.heap.size + 1) [.int .i64 0, .int .i64 0, .int .i64 0, .slice none 0 0, .slice none 0 0] := (Box.new' (w1.alloc (.cells #[.int .i64 0, .int .i64 0, .int .i64 0, .slice none 0 0, .slice none 0 0] 26)) [_, _, _, _, _] _ (by simp) : Box ((w1.alloc (.cells #[.int .i64 0, .int .i64 0, .int .i64 0, .slice none 0 0, .slice none 0 0] 26)).alloc (.cells #[.int .i64 0, .int .i64 0, .int .i64 0, .slice none 0 0, .slice none 0 0] 26)) (w1.heap.size + 1) [.int .i64 0, .int .i64 0, .int .i64 0, .slice none 0 0, .slice none 0 0])
    generalize (((w1.alloc (.cells #[.int .i64 0, .int .i64 0, .int .i64 0, .slice none 0 0, .slice none 0 0] 26)).alloc (.cells #[.int .i64 0, .int .i64 0, .int .i64 0, .slice none 0 0, .slice none 0 0] 26)).drew) = W at *
    have hga : w1.heap.size ≤ w1.heap.size := Nat.le_refl _
    have hgb : w1.heap.size ≤ w1.heap.size + 1 := Nat.le_succ _
    refine wpAnyH_ready (rs := [4]) (by kernel_rfl) (by simp) ?_
    refine (AllReadyH.cons rfl (fun K hK => ?_) AllReadyH.nil)
    obtain ⟨e0, e1, e2, e3, e4⟩ := Ba.five
    obtain ⟨f0, f1, f2, f3, f4⟩ := Ba.thaw
    go_simp
    refine hK.out _ _ (sFive (below5 bel hga _ _ _ _ _) HX.out) (fun hHeld => ?_)
    clear hK K hHeld
    (try simp only [List.getElem_toArray, List.getElem_cons_zero, List.getElem_cons_succ, Act.put, List.setIfInBounds_toArray, List.set_cons_zero, List.set_cons_succ])
    clear e0 e1 e2 e3 e4 f0 f1 f2 f3 f4
    obtain ⟨wfx, ewfx, Fx, hmvx, hbfx⟩ := put5 Ba (.int .i64 t.kind) (.int .i64 t.num) (.int .i64 t.atN) (.slice A1 n1 c1) (.slice A2 n2 c2)
    rw [ewfx]
    clear ewfx
    have belx : Below w1.heap.size w1 wfx := bel.trans (hbfx.mono hga)
    have B14' := Bb.move (hmvx _ (show w1.heap.size + 1 ≠ w1.heap.size by omega))
    refine wpAnyH_ready (rs := [5]) (by kernel_rfl) (by simp) ?_
    refine (AllReadyH.cons rfl (fun K hK => ?_) AllReadyH.nil)
    obtain ⟨e0, e1, e2, e3, e4⟩ := B14'.five
    obtain ⟨f0, f1, f2, f3, f4⟩ := B14'.thaw
    go_simp
    refine hK.out _ _ (sFive (below5 belx hgb _ _ _ _ _) HX.out) (fun hHeld => ?_)
    clear hK K hHeld
    (try simp only [List.getElem_toArray, List.getElem_cons_zero, List.getElem_cons_succ, Act.put, List.setIfInBounds_toArray, List.set_cons_zero, List.set_cons_succ])
    clear e0 e1 e2 e3 e4 f0 f1 f2 f3 f4
    obtain ⟨wfy, ewfy, Fy, hmvy, hbfy⟩ := put5 B14' (.int .i64 t.kind) (.int .i64 t.num) (.int .i64 t.atN) (.slice A1 n1 c1) (.slice A2 n2 c2)
    rw [ewfy]
    clear ewfy
    have bely : Below w1.heap.size w1 wfy := belx.trans (hbfy.mono hgb)
    refine wpAnyH_done (by kernel_rfl) ?_ _
    exact HQ.out _ _ _ _ _ (Ne.symm (show w1.heap.size + 1 ≠ w1.heap.size by omega)) hga hgb (Fx.move (hmvy _ (Ne.symm (show w1.heap.size + 1 ≠ w1.heap.size by omega)))) Fy bely
  · go_simp
    refine hK.out _ _ (sFive (((Below.refl _ _).alloc (Nat.le_refl _) _).drew) HX.out) (fun hHeld => ?_)
    clear hK K hHeld
    (try simp only [List.getElem_toArray, List.getElem_cons_zero, List.getElem_cons_succ, Act.put, List.setIfInBounds_toArray, List.set_cons_zero, List.set_cons_succ])
    refine wpAnyH_ready (rs := [2]) (by kernel_rfl) (by simp) ?_
    refine (AllReadyH.cons rfl (fun K hK => ?_) AllReadyH.nil)
    go_simp
    refine hK.out _ _ (sFive ((((Below.refl _ _).alloc (Nat.le_refl _) _).alloc (by simp) _).drew) HX.out) (fun hHeld => ?_)
    clear hK K hHeld
    (try simp only [List.getElem_toArray, List.getElem_cons_zero, List.getElem_cons_succ, Act.put, List.setIfInBounds_toArray, List.set_cons_zero, List.set_cons_succ])
    have bel : Below w1.heap.size w1 (((w1.alloc (.cells #[.int .i64 0, .int .i64 0, .int .i64 0, .slice none 0 0, .slice none 0 0] 26)).alloc (.cells #[.int .i64 0, .int .i64 0, .int .i64 0, .slice none 0 0, .slice none 0 0] 26)).drew) := ((((Below.refl _ _).alloc (Nat.le_refl _) _).alloc (by simp) _).drew)
    have Ba : Box (((w1.alloc (.cells #[.int .i64 0, .int .i64 0, .int .i64 0, .slice none 0 0, .slice none 0 0] 26)).alloc (.cells #[.int .i64 0, .int .i64 0, .int .i64 0, .slice none 0 0, .slice none 0 0] 26)).drew) w1.heap.size [.int .i64 0, .int .i64 0, .int .i64 0, .slice none 0 0, .slice none 0 0] := ((Box.new w1 [_, _, _, _, _] _).alloc _ : Box ((w1.alloc (.cells #[.int .i64 0, .int .i64 0, .int .i64 0, .slice none 0 0, .slice none 0 0] 26)).alloc (.cells #[.int .i64 0, .int .i64 0, .int .i64 0, .slice none 0 0, .slice none 0 0] 26)) w1.heap.size [.int .i64 0, .int .i64 0, .int .i64 0, .slice none 0 0, .slice none 0 0])
    have Bb : Box (((w1.alloc (.cells #[.int .i64 0, .int .i64 0, .int .i64 0, .slice none 0 0, .slice none 0 0] 26)).alloc (.cells #[.int .i64 0, .int .i64 0, .int .i64 0, .slice none 0 0, .slice none 0 0] 26)).drew) (w1.heap.size + 1) [.int .i64 0, .int .i64 0, .int .i64 0, .slice none 0 0, .slice none 0 0] := (Box.new' (w1.alloc (.cells #[.int .i64 0, .int .i64 0, .int .i64 0, .slice none 0 0, .slice none 0 0] 26)) [_, _, _, _, _] _ (by simp) : Box ((w1.alloc (.cells #[.int .i64 0, .int .i64 0, .int .i64 0, .slice none 0 0, .slice none 0 0] 26)).alloc (.cells #[.int .i64 0, .int .i64 0, .int .i64 0, .slice none 0 0, .slice none 0 0] 26)) (w1.heap.size + 1) [.int .i64 0, .int .i64 0, .int .i64 0, .slice none 0 0, .slice none 0 0])
    generalize (((w1.alloc (.cells #[.int .i64 0, .int .i64 0, .int .i64 0, .slice none 0 0, .slice none 0 0] 26)).alloc (.cells #[.int .i64 0, .int .i64 0, .int .i64 0, .slice none 0 0, .slice none 0 0] 26)).drew) = W at *
    have hga : w1.heap.size ≤ w1.heap.size := Nat.le_refl _
    have hgb : w1.heap.size ≤ w1.heap.size + 1 := Nat.le_succ _
    refine wpAnyH_ready (rs := [4]) (by kernel_rfl) (by simp) ?_
    refine (AllReadyH.cons rfl (fun K hK => ?_) AllReadyH.nil)
    obtain ⟨e0, e1, e2, e3, e4⟩ := Bb.five
    obtain ⟨f0, f1, f2, f3, f4⟩ := Bb.thaw
    go_simp
    refine hK.out _ _ (sFive (below5 bel hgb _ _ _ _ _) HX.out) (fun hHeld => ?_)
    clear hK K hHeld
    (try simp only [List.getElem_toArray, List.getElem_cons_zero, List.getElem_cons_succ, Act.put, List.setIfInBounds_toArray, List.set_cons_zero, List.set_cons_succ])
    clear e0 e1 e2 e3 e4 f0 f1 f2 f3 f4
    obtain ⟨wfx, ewfx, Fx, hmvx, hbfx⟩ := put5 Bb (.int .i64 t.kind) (.int .i64 t.num) (.int .i64 t.atN) (.slice A1 n1 c1) (.slice A2 n2 c2)
    rw [ewfx]
    clear ewfx
    have belx : Below w1.heap.size w1 wfx := bel.trans (hbfx.mono hgb)
    have B14' := Ba.move (hmvx _ (show w1.heap.size ≠ w1.heap.size + 1 by omega))
    refine wpAnyH_ready (rs := [5]) (by kernel_rfl) (by simp) ?_
    refine (AllReadyH.cons rfl (fun K hK => ?_) AllReadyH.nil)
    obtain ⟨e0, e1, e2, e3, e4⟩ := B14'.five
    obtain ⟨f0, f1, f2, f3, f4⟩ := B14'.thaw
    go_simp
    refine hK.out _ _ (sFive (below5 belx hga _ _ _ _ _) HX.out) (fun hHeld => ?_)
    clear hK K hHeld
    (try simp only [List.getElem_toArray, List.getElem_cons_zero, List.getElem_cons_succ, Act.put, List.setIfInBounds_toArray, List.set_cons_zero, List.set_cons_succ])
    clear e0 e1 e2 e3 e4 f0 f1 f2 f3 f4
    obtain ⟨wfy, ewfy, Fy, hmvy, hbfy⟩ := put5 B14' (.int .i64 t.kind) (.int .i64 t.num) (.int .i64 t.atN) (.slice A1 n1 c1) (.slice A2 n2 c2)
    rw [ewfy]
    clear ewfy
    have bely : Below w1.heap.size w1 wfy := belx.trans (hbfy.mono hga)
    refine wpAnyH_done (by kernel_rfl) ?_ _
    exact HQ.out _ _ _ _ _ (Ne.symm (show w1.heap.size ≠ w1.heap.size + 1 by omega)) hgb hga (Fx.move (hmvy _ (Ne.symm (show w1.heap.size ≠ w1.heap.size + 1 by omega)))) Fy bely

end Go.Proofs.YtajpkhkfffdclaaDoor
