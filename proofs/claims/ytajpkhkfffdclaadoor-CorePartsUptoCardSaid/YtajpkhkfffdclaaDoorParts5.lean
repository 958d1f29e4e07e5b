/-
  THE WALK OF CoreParts: where more constants are made.
-/
import Derived.Test.YtajpkhkfffdclaaDoorApp5
namespace Go.Proofs.YtajpkhkfffdclaaDoor
open Go.RowKit
set_option linter.unusedSimpArgs false
set_option linter.unusedVariables false

/-- The region of a number. -/
def codeAt (n : Nat) : Code → Option Code
  | .region i ops d => if i = n then some (.region i ops d) else none
  | .seq a b => match codeAt n a with | some c => some c | none => codeAt n b
  | .cond _ a b => match codeAt n a with | some c => some c | none => codeAt n b
  | .block _ a => codeAt n a
  | .loop a => codeAt n a
  | .rangeFunc _ _ _ b => codeAt n b
  | .scope a => codeAt n a
  | _ => none
theorem wp_plain {P : Program} {c : Code} {Q : Exit → Act → World → Prop} {a : Act} {w : World} (h : c.wp P (Exit.then (fun a' w' => Q .normal a' w') fun _ _ _ => False) a w) : c.wp P Q a w :=
  Code.wp_mono (fun e a w q => by cases e <;> first | exact q | exact q.elim) h
theorem sFive {w1 W : World} {b : Nat} {x0 x1 x2 x3 x4 : Value} (hb : Below w1.heap.size w1 W) (h : w1.cell? ⟨b, 0, none⟩ = some x0 ∧ w1.cell? ⟨b, 1, none⟩ = some x1 ∧ w1.cell? ⟨b, 2, none⟩ = some x2 ∧ w1.cell? ⟨b, 3, none⟩ = some x3 ∧ w1.cell? ⟨b, 4, none⟩ = some x4) :
    W.cell? ⟨b, 0, none⟩ = some x0 ∧ W.cell? ⟨b, 1, none⟩ = some x1 ∧ W.cell? ⟨b, 2, none⟩ = some x2 ∧ W.cell? ⟨b, 3, none⟩ = some x3 ∧ W.cell? ⟨b, 4, none⟩ = some x4 ∧ Below w1.heap.size w1 W :=
  ⟨cell_below hb h.1, cell_below hb h.2.1, cell_below hb h.2.2.1, cell_below hb h.2.2.2.1, cell_below hb h.2.2.2.2, hb⟩
theorem news_one {W : World} {b : Nat} {x : Int} (B : Box W b [.int .i64 x]) : (Value.slice (some ⟨b, 0, none⟩) 1 1 = .slice none 0 0 ∧ 1 = 0 ∧ [Value.int .i64 x] = []) ∨ ∃ ad c, Value.slice (some ⟨b, 0, none⟩) 1 1 = .slice (some ad) 1 c ∧ [Value.int .i64 x].length = 1 * 1 ∧ (∀ j u, [Value.int .i64 x][j]? = some u → W.cell? (ad.add j) = some u) ∧ ∀ u ∈ [Value.int .i64 x], u.oneCell' = true := by
  refine .inr ⟨⟨b, 0, none⟩, 1, rfl, rfl, fun j u hj => ?_, fun u hu => by simp at hu; subst hu; rfl⟩
  match j, hj with
  | 0, hj =>
    simp at hj
    subst hj
    rw [Addr.add_lit]
    exact B.cell rfl
  | j + 1, hj => simp at hj

set_option maxRecDepth 100000 in
set_option maxHeartbeats 16000000 in
theorem parts5 (n s more : Int) (t : Tm) (cs : List Int) (A1 A2 Ac : Option Addr) (n1 c1 n2 c2 nc cc N : Nat) (w1 : World) (u3 u5 u6 u7 u9 u10 u11 u12 u13 u14 u15 u16 u17 u18 u19 u20 u21 u22 u23 u24 u25 u26 u27 u28 u29 u30 u31 u32 u33 u34 u35 u36 u37 u38 u39 u40 u41 u42 u43 u44 u45 u46 u47 u48 u49 u50 u51 u52 u53 u54 u55 u56 u57 u58 u59 u60 u61 u62 u63 u64 u65 u66 u67 u68 u69 u70 u71 u72 u73 u74 u75 u76 u77 u78 u79 u80 u81 u82 u83 u84 u85 u86 u87 u88 u89 u90 u91 u92 u93 u94 u95 u96 u97 u98 u99 u100 u101 u102 u103 u104 u105 u106 u107 u108 u109 u110 u111 u112 u113 u114 u115 u116 u117 u118 u119 u120 u121 u122 u123 u124 u125 u126 u127 u128 : Value)
    (HX : Hid (w1.cell? ⟨N, 0, none⟩ = some (.int .i64 t.kind) ∧ w1.cell? ⟨N, 1, none⟩ = some (.int .i64 t.num) ∧ w1.cell? ⟨N, 2, none⟩ = some (.int .i64 t.atN) ∧ w1.cell? ⟨N, 3, none⟩ = some (.slice A1 n1 c1) ∧ w1.cell? ⟨N, 4, none⟩ = some (.slice A2 n2 c2))) (hcs : RIv w1 cs (.slice Ac nc cc)) (HNIL : Hid (∀ n c, Value.slice Ac nc cc = .slice none n c → c = 0)) (hlen : cs.length ≤ 1048576)
    (HR : Hid (∀ v W, Below w1.heap.size w1 W → RIv W (cs ++ [more]) v → Calls Tryd.prog 19 #[.int .i64 (n + more), .int .i64 (s + more), v, .agg #[.int .i64 t.kind, .int .i64 t.num, .int .i64 t.atN, .slice A1 n1 c1, .slice A2 n2 c2]] W fun e w' => e = .returned (.bool true) ∧ Below W.heap.size W w'))
    (hw1 : IntKind.i64.wrap (n + more) = n + more) (hw2 : IntKind.i64.wrap (s + more) = s + more)
    (code : Code) (hc : Tryd.f5.body.bind (codeAt 5) = some code) (K : Act → World → Prop)
    (hQ : ∀ v49 v50 v51 v52 v53 v54 v55 v56 v57 v58 v59 v60 v61 v62 wc, Below w1.heap.size w1 wc → K { tmps := List.toArray (.int .i64 n :: .int .i64 s :: .slice Ac nc cc :: u3 :: .int .i64 more :: u5 :: u6 :: u7 :: .pointer (some ⟨N, 0, none⟩) :: u9 :: u10 :: u11 :: u12 :: u13 :: u14 :: u15 :: u16 :: u17 :: u18 :: u19 :: u20 :: u21 :: u22 :: u23 :: u24 :: u25 :: u26 :: u27 :: u28 :: u29 :: u30 :: u31 :: u32 :: u33 :: u34 :: u35 :: u36 :: u37 :: u38 :: u39 :: u40 :: u41 :: u42 :: u43 :: u44 :: u45 :: u46 :: u47 :: u48 :: v49 :: v50 :: v51 :: v52 :: v53 :: v54 :: v55 :: v56 :: v57 :: v58 :: v59 :: v60 :: v61 :: v62 :: .bool false :: u64 :: u65 :: u66 :: u67 :: u68 :: u69 :: u70 :: u71 :: u72 :: u73 :: u74 :: u75 :: u76 :: u77 :: u78 :: u79 :: u80 :: u81 :: u82 :: u83 :: u84 :: u85 :: u86 :: u87 :: u88 :: u89 :: u90 :: u91 :: u92 :: u93 :: u94 :: u95 :: u96 :: u97 :: u98 :: u99 :: u100 :: u101 :: u102 :: u103 :: u104 :: u105 :: u106 :: u107 :: u108 :: u109 :: u110 :: u111 :: u112 :: u113 :: u114 :: u115 :: u116 :: u117 :: u118 :: u119 :: u120 :: u121 :: u122 :: u123 :: u124 :: u125 :: u126 :: u127 :: u128 :: []), defers := [] } wc) :
    code.wp Tryd.prog (Exit.then K fun _ _ _ => False) { tmps := List.toArray (.int .i64 n :: .int .i64 s :: .slice Ac nc cc :: u3 :: .int .i64 more :: u5 :: u6 :: u7 :: .pointer (some ⟨N, 0, none⟩) :: u9 :: u10 :: u11 :: u12 :: u13 :: u14 :: u15 :: u16 :: u17 :: u18 :: u19 :: u20 :: u21 :: u22 :: u23 :: u24 :: u25 :: u26 :: u27 :: u28 :: u29 :: u30 :: u31 :: u32 :: u33 :: u34 :: u35 :: u36 :: u37 :: u38 :: u39 :: u40 :: u41 :: u42 :: u43 :: u44 :: u45 :: u46 :: u47 :: u48 :: u49 :: u50 :: u51 :: u52 :: u53 :: u54 :: u55 :: u56 :: u57 :: u58 :: u59 :: u60 :: u61 :: u62 :: u63 :: u64 :: u65 :: u66 :: u67 :: u68 :: u69 :: u70 :: u71 :: u72 :: u73 :: u74 :: u75 :: u76 :: u77 :: u78 :: u79 :: u80 :: u81 :: u82 :: u83 :: u84 :: u85 :: u86 :: u87 :: u88 :: u89 :: u90 :: u91 :: u92 :: u93 :: u94 :: u95 :: u96 :: u97 :: u98 :: u99 :: u100 :: u101 :: u102 :: u103 :: u104 :: u105 :: u106 :: u107 :: u108 :: u109 :: u110 :: u111 :: u112 :: u113 :: u114 :: u115 :: u116 :: u117 :: u118 :: u119 :: u120 :: u121 :: u122 :: u123 :: u124 :: u125 :: u126 :: u127 :: u128 :: []), defers := [] } w1 := by
  simp only [Tryd.f5, codeAt, Option.bind_some, Nat.reduceEqDiff, if_true, if_false, Option.some.injEq] at hc
  subst hc
  have HQ := Lib.hid hQ
  clear hQ
  have hS0 : w1.drew.cell? ⟨N, 0, none⟩ = some (.int .i64 t.kind) ∧ w1.drew.cell? ⟨N, 1, none⟩ = some (.int .i64 t.num) ∧ w1.drew.cell? ⟨N, 2, none⟩ = some (.int .i64 t.atN) ∧ w1.drew.cell? ⟨N, 3, none⟩ = some (.slice A1 n1 c1) ∧ w1.drew.cell? ⟨N, 4, none⟩ = some (.slice A2 n2 c2) ∧ Below w1.heap.size w1 w1.drew := sFive ((Below.refl _ _).drew) HX.out
  obtain ⟨i0, hi, hz0, hz1, hz2⟩ := info_parts info_int
  refine wp_region_held_drew (S := fun w' => w'.cell? ⟨N, 0, none⟩ = some (.int .i64 t.kind) ∧ w'.cell? ⟨N, 1, none⟩ = some (.int .i64 t.num) ∧ w'.cell? ⟨N, 2, none⟩ = some (.int .i64 t.atN) ∧ w'.cell? ⟨N, 3, none⟩ = some (.slice A1 n1 c1) ∧ w'.cell? ⟨N, 4, none⟩ = some (.slice A2 n2 c2) ∧ Below w1.heap.size w1 w') (by kernel_rfl) hS0 (fun hHeld => ?_)
  refine wpAnyH_take (i := 0) (v := ?v0n1) rfl (by kernel_rfl) (by kernel_rfl) (by kernel_rfl) (fun _ _ _ h => h) (Or.inl ⟨by rfl, ?hy0n1⟩) (by assumption) ?rest0n1
  case hy0n1 => intro w hSw; (try dsimp only at hSw); go_simp; try with_reducible rfl
  (try simp only [List.getElem_toArray, List.getElem_cons_zero, List.getElem_cons_succ, Act.put, List.setIfInBounds_toArray, List.set_cons_zero, List.set_cons_succ])
  refine wpAnyH_take (i := 1) (v := ?v1n2) rfl (by kernel_rfl) (by kernel_rfl) (by kernel_rfl) (fun _ _ _ h => h) (Or.inl ⟨by rfl, ?hy1n2⟩) (by assumption) ?rest1n2
  case hy1n2 => intro w hSw; (try dsimp only at hSw); go_simp; try with_reducible rfl
  (try simp only [List.getElem_toArray, List.getElem_cons_zero, List.getElem_cons_succ, Act.put, List.setIfInBounds_toArray, List.set_cons_zero, List.set_cons_succ])
  refine wpAnyH_take (i := 2) (v := ?v2n3) rfl (by kernel_rfl) (by kernel_rfl) (by kernel_rfl) (fun _ _ _ h => h) (Or.inl ⟨by rfl, ?hy2n3⟩) (by assumption) ?rest2n3
  case hy2n3 => intro w hSw; (try dsimp only at hSw); go_simp; try with_reducible rfl
  (try simp only [List.getElem_toArray, List.getElem_cons_zero, List.getElem_cons_succ, Act.put, List.setIfInBounds_toArray, List.set_cons_zero, List.set_cons_succ])
  refine wpAnyH_take (i := 3) (v := ?v3n4) rfl (by kernel_rfl) (by kernel_rfl) (by kernel_rfl) (fun _ _ _ h => h) (Or.inl ⟨by rfl, ?hy3n4⟩) (by assumption) ?rest3n4
  case hy3n4 => intro w hSw; (try dsimp only at hSw); go_simp; try with_reducible rfl
  (try simp only [List.getElem_toArray, List.getElem_cons_zero, List.getElem_cons_succ, Act.put, List.setIfInBounds_toArray, List.set_cons_zero, List.set_cons_succ])
  refine wpAnyH_take (i := 4) (v := ?v4n5) rfl (by kernel_rfl) (by kernel_rfl) (by kernel_rfl) (fun _ _ _ h => h) (Or.inl ⟨by rfl, ?hy4n5⟩) (by assumption) ?rest4n5
  case hy4n5 => intro w hSw; (try dsimp only at hSw); go_simp; try with_reducible rfl
  (try simp only [List.getElem_toArray, List.getElem_cons_zero, List.getElem_cons_succ, Act.put, List.setIfInBounds_toArray, List.set_cons_zero, List.set_cons_succ])
  refine wpAnyH_take (i := 5) (v := ?v5n6) rfl (by kernel_rfl) (by kernel_rfl) (by kernel_rfl) (fun _ _ _ h => h) (Or.inl ⟨by rfl, ?hy5n6⟩) (by assumption) ?rest5n6
  case hy5n6 => intro w hSw; (try dsimp only at hSw); go_simp; try with_reducible rfl
  (try simp only [List.getElem_toArray, List.getElem_cons_zero, List.getElem_cons_succ, Act.put, List.setIfInBounds_toArray, List.set_cons_zero, List.set_cons_succ])
  refine wpAnyH_take (i := 7) (v := ?v7n7) rfl (by kernel_rfl) (by kernel_rfl) (by kernel_rfl) (fun _ _ _ h => h) (Or.inl ⟨by rfl, ?hy7n7⟩) (by assumption) ?rest7n7
  case hy7n7 => intro w hSw; (try dsimp only at hSw); go_simp; try with_reducible rfl
  (try simp only [List.getElem_toArray, List.getElem_cons_zero, List.getElem_cons_succ, Act.put, List.setIfInBounds_toArray, List.set_cons_zero, List.set_cons_succ])
  refine wpAnyH_take (i := 9) (v := ?v9n8) rfl (by kernel_rfl) (by kernel_rfl) (by kernel_rfl) (fun _ _ _ h => h) (Or.inl ⟨by rfl, ?hy9n8⟩) (by assumption) ?rest9n8
  case hy9n8 => intro w hSw; (try dsimp only at hSw); go_simp; try with_reducible rfl
  (try simp only [List.getElem_toArray, List.getElem_cons_zero, List.getElem_cons_succ, Act.put, List.setIfInBounds_toArray, List.set_cons_zero, List.set_cons_succ])
  refine wpAnyH_take (i := 12) (v := ?v12n9) rfl (by kernel_rfl) (by kernel_rfl) (by kernel_rfl) (fun _ _ _ h => h) (Or.inl ⟨by rfl, ?hy12n9⟩) (by assumption) ?rest12n9
  case hy12n9 => intro w hSw; (try dsimp only at hSw); go_simp; try with_reducible rfl
  (try simp only [List.getElem_toArray, List.getElem_cons_zero, List.getElem_cons_succ, Act.put, List.setIfInBounds_toArray, List.set_cons_zero, List.set_cons_succ])
  clear hS0
  refine wpAnyH_ready (rs := [6, 10]) (by kernel_rfl) (by simp) ?_
  refine (AllReadyH.cons rfl (fun K hK => ?_) (AllReadyH.cons rfl (fun K hK => ?_) AllReadyH.nil))
  · have bel6 : Below w1.heap.size w1 ((w1.alloc (.cells #[] 3)).drew) := ((Below.refl _ _).alloc (Nat.le_refl _) _).drew
    have own6 : ((w1.alloc (.cells #[] 3)).drew).ownsRow w1.heap.size 3 1 (.slice (some ⟨w1.heap.size, 0, none⟩) 0 0) 0 [] := (World.ownsRow_lit w1 #[] 0 (Nat.le_refl _) (by decide) (by rfl)).drew
    go_simp
    refine hK.out _ _ (sFive bel6 HX.out) (fun hHeld => ?_)
    clear hK K
    (try simp only [List.getElem_toArray, List.getElem_cons_zero, List.getElem_cons_succ, Act.put, List.setIfInBounds_toArray, List.set_cons_zero, List.set_cons_succ])
    refine wpAnyH_ready (rs := [8, 10]) (by kernel_rfl) (by simp) ?_
    refine (AllReadyH.cons rfl (fun K hK => ?_) (AllReadyH.cons rfl (fun K hK => ?_) AllReadyH.nil))
    · have HSZ : w1.heap.size ≤ ((w1.alloc (.cells #[] 3)).drew).heap.size := bel6.size
      refine wanted_wp ?hw1 (append_own w1.heap.size 3 34 1 8 i0 _ Tryd.underlying34 hi hz0 hz1 hz2 rfl (by omega) _ _ (by rfl) (0) (cs.length) _ _ ([]) (cs.map (Value.int .i64)) (by rfl) own6 (by rfl) ((hcs.below bel6).news HNIL.out) (by unfold maxLen; omega) (by omega) HSZ ?_)
      case hw1 => rfl
      intro v8 wa hown8 hga
      have bela : Below w1.heap.size w1 wa := Below.grown bel6 hga HSZ (fun k hk => (own_in own6 k (by rw [hk]; simp)).1)
      refine hK.out _ _ (sFive bela HX.out) (fun hHeld => ?_)
      clear hK K
      (try simp only [List.getElem_toArray, List.getElem_cons_zero, List.getElem_cons_succ, Act.put, List.setIfInBounds_toArray, List.set_cons_zero, List.set_cons_succ])
      refine wpAnyH_ready (rs := [10]) (by kernel_rfl) (by simp) ?_
      refine (AllReadyH.cons rfl (fun K hK => ?_) AllReadyH.nil)
      have bel10 : Below w1.heap.size w1 (wa.alloc (.cells #[.int .i64 more] 3)) := below_ch bela ((Below.refl _ _).alloc (Nat.le_refl _) _)
      go_simp
      refine hK.out _ _ (sFive bel10 HX.out) (fun hHeld => ?_)
      clear hK K
      (try simp only [List.getElem_toArray, List.getElem_cons_zero, List.getElem_cons_succ, Act.put, List.setIfInBounds_toArray, List.set_cons_zero, List.set_cons_succ])
      replace HSZ : w1.heap.size ≤ (wa.alloc (.cells #[.int .i64 more] 3)).heap.size := bel10.size
      have own8 := own_below hown8 ((Below.refl wa.heap.size wa).alloc (Nat.le_refl _) (.cells #[.int .i64 more] 3))
      refine wpAnyH_ready (rs := [11]) (by kernel_rfl) (by simp) ?_
      refine (AllReadyH.cons rfl (fun K hK => ?_) AllReadyH.nil)
      refine wanted_wp ?hw2 (append_own w1.heap.size 3 34 1 8 i0 _ Tryd.underlying34 hi hz0 hz1 hz2 rfl (by omega) _ _ (by rfl) (0 + cs.length) (1) _ _ ([] ++ cs.map (Value.int .i64)) ([.int .i64 more]) (by rfl) own8 (by rfl) (news_one (Box.new wa [_] _)) (by unfold maxLen; omega) (by omega) HSZ ?_)
      case hw2 => rfl
      intro v11 wb hown11 hgb
      have belb : Below w1.heap.size w1 wb := Below.grown bel10 hgb HSZ (fun k hk => (own_in own8 k (by rw [hk]; simp)).1)
      have hri : RIv wb (cs ++ [more]) v11 := RIv_own (n := 0 + cs.length + 1) (by simp) (by simpa using hown11) (by simp; omega)
      refine hK.out _ _ (sFive belb HX.out) (fun hHeld => ?_)
      clear hK K
      (try simp only [List.getElem_toArray, List.getElem_cons_zero, List.getElem_cons_succ, Act.put, List.setIfInBounds_toArray, List.set_cons_zero, List.set_cons_succ])
      refine wpAnyH_ready (rs := [13]) (by kernel_rfl) (by simp) ?_
      refine (AllReadyH.cons rfl (fun K hK => ?_) AllReadyH.nil)
      go_simp
      refine (HR.out _ _ belb hri).mono ?_
      rintro e wc ⟨rfl, hbc⟩
      have belc : Below w1.heap.size w1 wc := below_ch belb hbc
      refine hK.out _ _ (sFive belc HX.out) (fun hHeld => ?_)
      clear hK K
      (try simp only [List.getElem_toArray, List.getElem_cons_zero, List.getElem_cons_succ, Act.put, List.setIfInBounds_toArray, List.set_cons_zero, List.set_cons_succ])
      refine wpAnyH_take (i := 14) (v := ?v14n10) rfl (by kernel_rfl) (by kernel_rfl) (by kernel_rfl) (fun _ _ _ h => h) (Or.inl ⟨by rfl, ?hy14n10⟩) (by assumption) ?rest14n10
      case hy14n10 => intro w hSw; (try dsimp only at hSw); go_simp; try with_reducible rfl
      (try simp only [List.getElem_toArray, List.getElem_cons_zero, List.getElem_cons_succ, Act.put, List.setIfInBounds_toArray, List.set_cons_zero, List.set_cons_succ])
      refine wpAnyH_done (by kernel_rfl) ?_ _
      exact HQ.out _ _ _ _ _ _ _ _ _ _ _ _ _ _ _ belc
    · have bel10 : Below w1.heap.size w1 (((w1.alloc (.cells #[] 3)).alloc (.cells #[.int .i64 more] 3)).drew) := (((Below.refl _ _).alloc (Nat.le_refl _) _).alloc (by simp) _).drew
      have own10 : (((w1.alloc (.cells #[] 3)).alloc (.cells #[.int .i64 more] 3)).drew).ownsRow w1.heap.size 3 1 (.slice (some ⟨w1.heap.size, 0, none⟩) 0 0) 0 [] := (own_below (World.ownsRow_lit w1 #[] 0 (Nat.le_refl _) (by decide) (by rfl)) ((Below.refl _ _).alloc (Nat.le_refl _) _)).drew
      have B10 : Box (((w1.alloc (.cells #[] 3)).alloc (.cells #[.int .i64 more] 3)).drew) (w1.heap.size + 1) [.int .i64 more] := (Box.new' (w1.alloc (.cells #[] 3)) [_] _ (by simp) : Box ((w1.alloc (.cells #[] 3)).alloc (.cells #[.int .i64 more] 3)) (w1.heap.size + 1) [.int .i64 more])
      have HSZ : w1.heap.size ≤ (((w1.alloc (.cells #[] 3)).alloc (.cells #[.int .i64 more] 3)).drew).heap.size := bel10.size
      go_simp
      refine hK.out _ _ (sFive bel10 HX.out) (fun hHeld => ?_)
      clear hK K
      (try simp only [List.getElem_toArray, List.getElem_cons_zero, List.getElem_cons_succ, Act.put, List.setIfInBounds_toArray, List.set_cons_zero, List.set_cons_succ])
      refine wpAnyH_ready (rs := [8]) (by kernel_rfl) (by simp) ?_
      refine (AllReadyH.cons rfl (fun K hK => ?_) AllReadyH.nil)
      refine wanted_wp ?hw3 (append_own w1.heap.size 3 34 1 8 i0 _ Tryd.underlying34 hi hz0 hz1 hz2 rfl (by omega) _ _ (by rfl) (0) (cs.length) _ _ ([]) (cs.map (Value.int .i64)) (by rfl) own10 (by rfl) ((hcs.below bel10).news HNIL.out) (by unfold maxLen; omega) (by omega) HSZ ?_)
      case hw3 => rfl
      intro v8 wa hown8 hga
      have bela : Below w1.heap.size w1 wa := Below.grown bel10 hga HSZ (fun k hk => (own_in own10 k (by rw [hk]; simp)).1)
      have Ba : Box wa (w1.heap.size + 1) [.int .i64 more] := B10.move (hga.block _ B10.lt (by simp [Value.ownBlock]))
      replace HSZ : w1.heap.size ≤ wa.heap.size := bela.size
      refine hK.out _ _ (sFive bela HX.out) (fun hHeld => ?_)
      clear hK K
      (try simp only [List.getElem_toArray, List.getElem_cons_zero, List.getElem_cons_succ, Act.put, List.setIfInBounds_toArray, List.set_cons_zero, List.set_cons_succ])
      refine wpAnyH_ready (rs := [11]) (by kernel_rfl) (by simp) ?_
      refine (AllReadyH.cons rfl (fun K hK => ?_) AllReadyH.nil)
      refine wanted_wp ?hw4 (append_own w1.heap.size 3 34 1 8 i0 _ Tryd.underlying34 hi hz0 hz1 hz2 rfl (by omega) _ _ (by rfl) (0 + cs.length) (1) _ _ ([] ++ cs.map (Value.int .i64)) ([.int .i64 more]) (by rfl) hown8 (by rfl) (news_one Ba) (by unfold maxLen; omega) (by omega) HSZ ?_)
      case hw4 => rfl
      intro v11 wb hown11 hgb
      have belb : Below w1.heap.size w1 wb := Below.grown bela hgb HSZ (fun k hk => (own_in hown8 k (by rw [hk]; simp)).1)
      have hri : RIv wb (cs ++ [more]) v11 := RIv_own (n := 0 + cs.length + 1) (by simp) (by simpa using hown11) (by simp; omega)
      refine hK.out _ _ (sFive belb HX.out) (fun hHeld => ?_)
      clear hK K
      (try simp only [List.getElem_toArray, List.getElem_cons_zero, List.getElem_cons_succ, Act.put, List.setIfInBounds_toArray, List.set_cons_zero, List.set_cons_succ])
      refine wpAnyH_ready (rs := [13]) (by kernel_rfl) (by simp) ?_
      refine (AllReadyH.cons rfl (fun K hK => ?_) AllReadyH.nil)
      go_simp
      refine (HR.out _ _ belb hri).mono ?_
      rintro e wc ⟨rfl, hbc⟩
      have belc : Below w1.heap.size w1 wc := below_ch belb hbc
      refine hK.out _ _ (sFive belc HX.out) (fun hHeld => ?_)
      clear hK K
      (try simp only [List.getElem_toArray, List.getElem_cons_zero, List.getElem_cons_succ, Act.put, List.setIfInBounds_toArray, List.set_cons_zero, List.set_cons_succ])
      refine wpAnyH_take (i := 14) (v := ?v14n11) rfl (by kernel_rfl) (by kernel_rfl) (by kernel_rfl) (fun _ _ _ h => h) (Or.inl ⟨by rfl, ?hy14n11⟩) (by assumption) ?rest14n11
      case hy14n11 => intro w hSw; (try dsimp only at hSw); go_simp; try with_reducible rfl
      (try simp only [List.getElem_toArray, List.getElem_cons_zero, List.getElem_cons_succ, Act.put, List.setIfInBounds_toArray, List.set_cons_zero, List.set_cons_succ])
      refine wpAnyH_done (by kernel_rfl) ?_ _
      exact HQ.out _ _ _ _ _ _ _ _ _ _ _ _ _ _ _ belc
  · have bel10 : Below w1.heap.size w1 ((w1.alloc (.cells #[.int .i64 more] 3)).drew) := ((Below.refl _ _).alloc (Nat.le_refl _) _).drew
    go_simp
    refine hK.out _ _ (sFive bel10 HX.out) (fun hHeld => ?_)
    clear hK K
    (try simp only [List.getElem_toArray, List.getElem_cons_zero, List.getElem_cons_succ, Act.put, List.setIfInBounds_toArray, List.set_cons_zero, List.set_cons_succ])
    refine wpAnyH_ready (rs := [6]) (by kernel_rfl) (by simp) ?_
    refine (AllReadyH.cons rfl (fun K hK => ?_) AllReadyH.nil)
    have bel6 : Below w1.heap.size w1 (((w1.alloc (.cells #[.int .i64 more] 3)).alloc (.cells #[] 3)).drew) := (((Below.refl _ _).alloc (Nat.le_refl _) _).alloc (by simp) _).drew
    have own6 : (((w1.alloc (.cells #[.int .i64 more] 3)).alloc (.cells #[] 3)).drew).ownsRow w1.heap.size 3 1 (.slice (some ⟨w1.heap.size + 1, 0, none⟩) 0 0) 0 [] := by
      have h := World.ownsRow_lit (base := w1.heap.size) (e := 3) (size := 1) (w1.alloc (.cells #[.int .i64 more] 3)) #[] 0 (by simp) (by decide) (by rfl)
      have h2 : (w1.alloc (.cells #[.int .i64 more] 3)).heap.size = w1.heap.size + 1 := by simp
      rw [h2] at h
      exact h.drew
    have B6 : Box (((w1.alloc (.cells #[.int .i64 more] 3)).alloc (.cells #[] 3)).drew) w1.heap.size [.int .i64 more] := ((Box.new w1 [_] _).alloc _ : Box ((w1.alloc (.cells #[.int .i64 more] 3)).alloc (.cells #[] 3)) w1.heap.size [.int .i64 more])
    have HSZ : w1.heap.size ≤ (((w1.alloc (.cells #[.int .i64 more] 3)).alloc (.cells #[] 3)).drew).heap.size := bel6.size
    go_simp
    refine hK.out _ _ (sFive bel6 HX.out) (fun hHeld => ?_)
    clear hK K
    (try simp only [List.getElem_toArray, List.getElem_cons_zero, List.getElem_cons_succ, Act.put, List.setIfInBounds_toArray, List.set_cons_zero, List.set_cons_succ])
    refine wpAnyH_ready (rs := [8]) (by kernel_rfl) (by simp) ?_
    refine (AllReadyH.cons rfl (fun K hK => ?_) AllReadyH.nil)
    refine wanted_wp ?hw5 (append_own w1.heap.size 3 34 1 8 i0 _ Tryd.underlying34 hi hz0 hz1 hz2 rfl (by omega) _ _ (by rfl) (0) (cs.length) _ _ ([]) (cs.map (Value.int .i64)) (by rfl) own6 (by rfl) ((hcs.below bel6).news HNIL.out) (by unfold maxLen; omega) (by omega) HSZ ?_)
    case hw5 => rfl
    intro v8 wa hown8 hga
    have bela : Below w1.heap.size w1 wa := Below.grown bel6 hga HSZ (fun k hk => (own_in own6 k (by rw [hk]; simp)).1)
    have Ba : Box wa w1.heap.size [.int .i64 more] := B6.move (hga.block _ B6.lt (by simp [Value.ownBlock]))
    replace HSZ : w1.heap.size ≤ wa.heap.size := bela.size
    refine hK.out _ _ (sFive bela HX.out) (fun hHeld => ?_)
    clear hK K
    (try simp only [List.getElem_toArray, List.getElem_cons_zero, List.getElem_cons_succ, Act.put, List.setIfInBounds_toArray, List.set_cons_zero, List.set_cons_succ])
    refine wpAnyH_ready (rs := [11]) (by kernel_rfl) (by simp) ?_
    refine (AllReadyH.cons rfl (fun K hK => ?_) AllReadyH.nil)
    refine wanted_wp ?hw6 (append_own w1.heap.size 3 34 1 8 i0 _ Tryd.underlying34 hi hz0 hz1 hz2 rfl (by omega) _ _ (by rfl) (0 + cs.length) (1) _ _ ([] ++ cs.map (Value.int .i64)) ([.int .i64 more]) (by rfl) hown8 (by rfl) (news_one Ba) (by unfold maxLen; omega) (by omega) HSZ ?_)
    case hw6 => rfl
    intro v11 wb hown11 hgb
    have belb : Below w1.heap.size w1 wb := Below.grown bela hgb HSZ (fun k hk => (own_in hown8 k (by rw [hk]; simp)).1)
    have hri : RIv wb (cs ++ [more]) v11 := RIv_own (n := 0 + cs.length + 1) (by simp) (by simpa using hown11) (by simp; omega)
    refine hK.out _ _ (sFive belb HX.out) (fun hHeld => ?_)
    clear hK K
    (try simp only [List.getElem_toArray, List.getElem_cons_zero, List.getElem_cons_succ, Act.put, List.setIfInBounds_toArray, List.set_cons_zero, List.set_cons_succ])
    refine wpAnyH_ready (rs := [13]) (by kernel_rfl) (by simp) ?_
    refine (AllReadyH.cons rfl (fun K hK => ?_) AllReadyH.nil)
    go_simp
    refine (HR.out _ _ belb hri).mono ?_
    rintro e wc ⟨rfl, hbc⟩
    have belc : Below w1.heap.size w1 wc := below_ch belb hbc
    refine hK.out _ _ (sFive belc HX.out) (fun hHeld => ?_)
    clear hK K
    (try simp only [List.getElem_toArray, List.getElem_cons_zero, List.getElem_cons_succ, Act.put, List.setIfInBounds_toArray, List.set_cons_zero, List.set_cons_succ])
    refine wpAnyH_take (i := 14) (v := ?v14n12) rfl (by kernel_rfl) (by kernel_rfl) (by kernel_rfl) (fun _ _ _ h => h) (Or.inl ⟨by rfl, ?hy14n12⟩) (by assumption) ?rest14n12
    case hy14n12 => intro w hSw; (try dsimp only at hSw); go_simp; try with_reducible rfl
    (try simp only [List.getElem_toArray, List.getElem_cons_zero, List.getElem_cons_succ, Act.put, List.setIfInBounds_toArray, List.set_cons_zero, List.set_cons_succ])
    refine wpAnyH_done (by kernel_rfl) ?_ _
    exact HQ.out _ _ _ _ _ _ _ _ _ _ _ _ _ _ _ belc

end Go.Proofs.YtajpkhkfffdclaaDoor
