/-
  THE WALK OF spandrellaw01.of.
-/
import Derived.Test.YtgegaipkfpdocaaLawL
import Derived.Deep.AppendLies
import Derived.IntWalk
namespace Go.Proofs.Ytgegaipkfpdocaa
open Go.RowKit Go.Maps
set_option linter.unusedSimpArgs false
set_option linter.unusedVariables false
set_option maxRecDepth 100000

def intsP (ps : Lv) : List Int := ps.flatMap fun p => [p.1, p.2]
theorem intsP_length (ps : Lv) : (intsP ps).length = 2 * ps.length := by
  induction ps with
  | nil => rfl
  | cons p ps ih => simp only [intsP, List.flatMap_cons, List.length_append, List.length_cons, List.length_nil] at ih ⊢; omega
theorem intsP_get : ∀ {ps : Lv} {k : Nat} {p : Int × Int}, ps[k]? = some p → (intsP ps)[2 * k]? = some p.1 ∧ (intsP ps)[2 * k + 1]? = some p.2
  | [], _, _, h => by simp at h
  | q :: qs, 0, p, h => by
    simp only [List.getElem?_cons_zero, Option.some.injEq] at h
    subst h
    exact ⟨rfl, rfl⟩
  | q :: qs, k + 1, p, h => by
    have := intsP_get (ps := qs) (k := k) (by simpa using h)
    have e1 : 2 * (k + 1) = 2 * k + 1 + 1 := by omega
    have e2 : 2 * (k + 1) + 1 = (2 * k + 1) + 1 + 1 := by omega
    rw [e2, e1]
    exact this

/-- A round of of's loop: one part more. -/
theorem own_round {B k : Nat} {W w7 : World} {ps : Lv} {u t : Int} {lv v : Value} (hk : ps.take (k + 1) = ps.take k ++ [(u, t)]) (hrow : w7.ownsRow (B + 2) 41 2 v (k + 1) (cellsP (ps.take k) ++ [.int .i64 u, .int .i64 t])) (hB1 : Box w7 (B + 1) [lv]) (hB0 : Box w7 B [.slice none 0 0]) (hb : Below B W w7) :
    Hid (Box (w7.setCell ⟨B + 1, 0, none⟩ v) (B + 1) [v]) ∧ Hid (Box (w7.setCell ⟨B + 1, 0, none⟩ v) B [.slice none 0 0]) ∧ Hid ((w7.setCell ⟨B + 1, 0, none⟩ v).ownsRow (B + 2) 41 2 v (k + 1) (cellsP (ps.take (k + 1)))) ∧ Below B W (w7.setCell ⟨B + 1, 0, none⟩ v) := by
  refine ⟨hB1.set 0 v, hB0.other (show B ≠ B + 1 by omega) v, ?_, hb.setCell (show B ≤ B + 1 by omega) v⟩
  show World.ownsRow _ _ _ _ _ _ _
  rw [hk, cellsP_append]
  exact own_move hrow fun j hj => Below.heap_setCell _ _ _ _ (by have := own_in hrow j hj; show j ≠ B + 1; omega)
set_option maxHeartbeats 1000000 in
theorem lawOf_any (ps : Lv) (v : Value) (W : World) (hv : RIv W (intsP ps) v) (hn : ps.length ≤ 1000) : Calls Try.prog 18 #[v] W (MadeL ps W) := by
  obtain ⟨w0, hw0⟩ : ∃ w0, (W.alloc (.cells #[.slice none 0 0] 24)).alloc (.cells #[.slice none 0 0] 24) = w0 := ⟨_, rfl⟩
  have hs0 : w0.heap.size = W.heap.size + 2 := by rw [← hw0]; simp
  have hb0 : Below W.heap.size W w0 := by rw [← hw0]; exact ((Below.refl _ _).alloc (Nat.le_refl _) _).alloc (by simp) _
  have B0 : Box w0 W.heap.size [.slice none 0 0] := by rw [← hw0]; exact (Box.new W [_] _).alloc _
  have B1 : Box w0 (W.heap.size + 1) [.slice none 0 0] := by rw [← hw0]; exact Box.new' _ [_] _ (by simp)
  have hx := hv
  obtain ⟨A, c, rfl, hc, hl, -⟩ := hv
  have HX := Lib.hid hx
  rw [intsP_length] at *
  generalize hnn : ps.length = n at *
  have HN := Lib.hid hnn
  have HB0 := Lib.hid B0
  have HB1 := Lib.hid B1
  clear hnn hx B0 B1
  go_enter Try.func18, Try.ntmps18
  go_wp2_with fail
  clear hw0
  go_loopw [4] (fun i wr => ∃ (k : Nat) (lv : Value), k ≤ n ∧ i = .int .i64 (2 * k) ∧ Hid (Box wr (W.heap.size + 1) [lv]) ∧ Hid (Box wr W.heap.size [.slice none 0 0]) ∧ Hid (wr.ownsRow (W.heap.size + 2) 41 2 lv k (cellsP (ps.take k))) ∧ Below W.heap.size W wr ∧ W.heap.size + 2 ≤ wr.heap.size) (fun i _ => 2 * n - (RowKit.intOf i).toNat)
  case atStart => exact ⟨0, _, Nat.zero_le _, rfl, HB1, HB0, World.ownsRow_nil _ _ _ _, hb0, by omega⟩
  case round =>
    obtain ⟨k, lv, hk, rfl, hB1, hB0, hrow, hb, hsz⟩ := hrel
    obtain ⟨Al, cl, rfl, -, -, -⟩ := own_form hrow.out
    by_cases hlt : k < n
    · obtain ⟨A5, c5, e5, -, -, hcp⟩ := HX.out.below hb
      injection e5 with e5 e5a e5b
      subst e5
      clear e5a e5b
      obtain ⟨b, o, rfl, hcq⟩ := hcp (by rw [intsP_length]; have := HN.out; omega)
      clear hcp
      obtain ⟨⟨u, t⟩, hpk⟩ : ∃ p, ps[k]? = some p := ⟨_, List.getElem?_eq_getElem (by have := HN.out; omega)⟩
      obtain ⟨i1, i2⟩ := intsP_get hpk
      have p1 := hcq _ _ i1
      have p2 := hcq _ _ i2
      simp only at p1 p2
      have HTK := Lib.hid (take_snoc' hpk)
      have HPK := Lib.hid hpk
      have h1 : (2 * (k : Int) + 1) < ((2 * n : Nat) : Int) := by omega
      have h0 : (0 : Int) ≤ 2 * (k : Int) := by omega
      clear hcq hpk i1 i2
      have hbW : b < W.heap.size := by
        obtain ⟨A6, c6, e6, -, -, h6⟩ := HX.out
        obtain ⟨b6, o6, e7, h7⟩ := h6 (by rw [intsP_length]; have := HN.out; omega)
        injection e6 with e6
        rw [← e6] at e7
        injection e7 with e7
        injection e7 with e7 e8
        subst e7
        exact cell_lt (h7 _ _ (intsP_get HPK.out).1)
      have HS : Hid (∀ w' : World, (∀ q, q < W.heap.size → w'.heap[q]? = wr.heap[q]?) → w'.cell? ⟨b, o + 2 * k, none⟩ = some (.int .i64 u) ∧ w'.cell? ⟨b, o + (2 * k + 1), none⟩ = some (.int .i64 t)) :=
        Lib.hid fun w' h => ⟨(World.cell?_of_block (a := ⟨b, o + 2 * k, none⟩) (h b hbW)).trans p1, (World.cell?_of_block (a := ⟨b, o + (2 * k + 1), none⟩) (h b hbW)).trans p2⟩
      have HIN := Lib.hid (own_in hrow.out)
      have q0 := hB1.out.cell (j := 0) rfl
      obtain ⟨p1a, p2a⟩ := HS.out (wr.alloc (.cells #[.int .i64 u, .int .i64 t] 41)) (fun q hq => Below.heap_alloc _ _ _ (by omega))
      have q0a := (hB1.out.alloc (.cells #[.int .i64 u, .int .i64 t] 41)).cell (j := 0) rfl
      have HNW := Lib.hid (World.news_of_block (cs := #[.int .i64 u, .int .i64 t]) (t := 41) (fr := (0, 0)) (heap_alloc_new wr (.cells #[.int .i64 u, .int .i64 t] 41)))
      obtain ⟨i0, hi, hz0, hz1, hz2⟩ := info_parts info_partL
      go_wp2_with fail
      have hw1 : IntKind.i64.wrap (2 * (k : Int) + 1) = 2 * (k : Int) + 1 := IntWalk.i64_in _ (by omega)
      have hw2 : (2 * (k : Int) + 1).toNat = 2 * k + 1 := by omega
      have hw3 : (2 * (k : Int)).toNat = 2 * k := by omega
      have hw4 : (0 : Int) ≤ 2 * (k : Int) + 1 := by omega
      have hw5 : (2 * (k : Int)) < ((2 * n : Nat) : Int) := by omega
      refine wp_region_held_drew (S := fun w' => w'.cell? ⟨b, o + 2 * k, none⟩ = some (.int .i64 u) ∧ w'.cell? ⟨b, o + (2 * k + 1), none⟩ = some (.int .i64 t)) (by kernel_rfl) ⟨p1, p2⟩ (fun hHeld => ?_)
      refine wpAnyH_take (i := 0) (v := ?v0n1) rfl (by kernel_rfl) (by kernel_rfl) (by kernel_rfl) (fun _ _ _ h => h) (Or.inl ⟨by rfl, ?hy0n1⟩) (by assumption) ?rest0n1
      case hy0n1 => intro w hSw; (try dsimp only at hSw); go_simp; try with_reducible rfl
      (try simp only [List.getElem_toArray, List.getElem_cons_succ, List.getElem_cons_zero, Act.put, List.setIfInBounds_toArray, List.set_cons_zero, List.set_cons_succ])
      refine wpAnyH_take (i := 2) (v := ?v2n2) rfl (by kernel_rfl) (by kernel_rfl) (by kernel_rfl) (fun _ _ _ h => h) (Or.inl ⟨by rfl, ?hy2n2⟩) (by assumption) ?rest2n2
      case hy2n2 => intro w hSw; (try dsimp only at hSw); go_simp; try with_reducible rfl
      (try simp only [List.getElem_toArray, List.getElem_cons_succ, List.getElem_cons_zero, Act.put, List.setIfInBounds_toArray, List.set_cons_zero, List.set_cons_succ])
      refine wpAnyH_take (i := 3) (v := ?v3n3) rfl (by kernel_rfl) (by kernel_rfl) (by kernel_rfl) (fun _ _ _ h => h) (Or.inl ⟨by rfl, ?hy3n3⟩) (by assumption) ?rest3n3
      case hy3n3 => intro w hSw; (try dsimp only at hSw); go_simp; try with_reducible rfl
      (try simp only [List.getElem_toArray, List.getElem_cons_succ, List.getElem_cons_zero, Act.put, List.setIfInBounds_toArray, List.set_cons_zero, List.set_cons_succ])
      refine wpAnyH_take (i := 4) (v := ?v4n4) rfl (by kernel_rfl) (by kernel_rfl) (by kernel_rfl) (fun _ _ _ h => h) (Or.inl ⟨by rfl, ?hy4n4⟩) (by assumption) ?rest4n4
      case hy4n4 => intro w hSw; (try dsimp only at hSw); go_simp; try with_reducible rfl
      (try simp only [List.getElem_toArray, List.getElem_cons_succ, List.getElem_cons_zero, Act.put, List.setIfInBounds_toArray, List.set_cons_zero, List.set_cons_succ])
      refine wpAnyH_take (i := 5) (v := ?v5n5) rfl (by kernel_rfl) (by kernel_rfl) (by kernel_rfl) (fun _ _ _ h => h) (Or.inl ⟨by rfl, ?hy5n5⟩) (by assumption) ?rest5n5
      case hy5n5 => intro w hSw; (try dsimp only at hSw); go_simp; try with_reducible rfl
      (try simp only [List.getElem_toArray, List.getElem_cons_succ, List.getElem_cons_zero, Act.put, List.setIfInBounds_toArray, List.set_cons_zero, List.set_cons_succ])
      refine wpAnyH_take (i := 6) (v := ?v6n6) rfl (by kernel_rfl) (by kernel_rfl) (by kernel_rfl) (fun _ _ _ h => h) (Or.inl ⟨by rfl, ?hy6n6⟩) (by assumption) ?rest6n6
      case hy6n6 => intro w hSw; (try dsimp only at hSw); go_simp; try with_reducible rfl
      (try simp only [List.getElem_toArray, List.getElem_cons_succ, List.getElem_cons_zero, Act.put, List.setIfInBounds_toArray, List.set_cons_zero, List.set_cons_succ])
      refine wpAnyH_take (i := 7) (v := ?v7n7) rfl (by kernel_rfl) (by kernel_rfl) (by kernel_rfl) (fun _ _ _ h => h) (Or.inl ⟨by rfl, ?hy7n7⟩) (by assumption) ?rest7n7
      case hy7n7 => intro w hSw; (try dsimp only at hSw); go_simp; try with_reducible rfl
      (try simp only [List.getElem_toArray, List.getElem_cons_succ, List.getElem_cons_zero, Act.put, List.setIfInBounds_toArray, List.set_cons_zero, List.set_cons_succ])
      refine wpAnyH_take (i := 8) (v := ?v8n8) rfl (by kernel_rfl) (by kernel_rfl) (by kernel_rfl) (fun _ _ _ h => h) (Or.inl ⟨by rfl, ?hy8n8⟩) (by assumption) ?rest8n8
      case hy8n8 => intro w hSw; (try dsimp only at hSw); go_simp; try with_reducible rfl
      (try simp only [List.getElem_toArray, List.getElem_cons_succ, List.getElem_cons_zero, Act.put, List.setIfInBounds_toArray, List.set_cons_zero, List.set_cons_succ])
      refine wpAnyH_take (i := 9) (v := ?v9n9) rfl (by kernel_rfl) (by kernel_rfl) (by kernel_rfl) (fun _ _ _ h => h) (Or.inl ⟨by rfl, ?hy9n9⟩) (by assumption) ?rest9n9
      case hy9n9 => intro w hSw; (try dsimp only at hSw); go_simp; try with_reducible rfl
      (try simp only [List.getElem_toArray, List.getElem_cons_succ, List.getElem_cons_zero, Act.put, List.setIfInBounds_toArray, List.set_cons_zero, List.set_cons_succ])
      refine wpAnyH_take (i := 10) (v := ?v10n10) rfl (by kernel_rfl) (by kernel_rfl) (by kernel_rfl) (fun _ _ _ h => h) (Or.inl ⟨by rfl, ?hy10n10⟩) (by assumption) ?rest10n10
      case hy10n10 => intro w hSw; (try dsimp only at hSw); go_simp; try with_reducible rfl
      (try simp only [List.getElem_toArray, List.getElem_cons_succ, List.getElem_cons_zero, Act.put, List.setIfInBounds_toArray, List.set_cons_zero, List.set_cons_succ])
      refine wpAnyH_take (i := 11) (v := ?v11n11) rfl (by kernel_rfl) (by kernel_rfl) (by kernel_rfl) (fun _ _ _ h => h) (Or.inl ⟨by rfl, ?hy11n11⟩) (by assumption) ?rest11n11
      case hy11n11 => intro w hSw; (try dsimp only at hSw); go_simp; try with_reducible rfl
      (try simp only [List.getElem_toArray, List.getElem_cons_succ, List.getElem_cons_zero, Act.put, List.setIfInBounds_toArray, List.set_cons_zero, List.set_cons_succ])
      refine wpAnyH_ready (rs := [1, 12]) (by kernel_rfl) (by simp) ?_
      refine (AllReadyH.cons rfl (fun K hK => ?_) (AllReadyH.cons rfl (fun K hK => ?_) AllReadyH.nil))
      · go_simp
        refine hK.out _ _ ⟨p1, p2⟩ (fun hHeld => ?_)
        clear hK K
        (try simp only [List.getElem_toArray, List.getElem_cons_succ, List.getElem_cons_zero, Act.put, List.setIfInBounds_toArray, List.set_cons_zero, List.set_cons_succ])
        refine wpAnyH_ready (rs := [12]) (by kernel_rfl) (by simp) ?_
        refine (AllReadyH.cons rfl (fun K hK => ?_) AllReadyH.nil)
        go_simp
        refine hK.out _ _ ⟨p1a, p2a⟩ (fun hHeld => ?_)
        clear hK K
        (try simp only [List.getElem_toArray, List.getElem_cons_succ, List.getElem_cons_zero, Act.put, List.setIfInBounds_toArray, List.set_cons_zero, List.set_cons_succ])
        refine wpAnyH_ready (rs := [13]) (by kernel_rfl) (by simp) ?_
        refine (AllReadyH.cons rfl (fun K hK => ?_) AllReadyH.nil)
        refine step_append_lies _ (by rfl) _ _ _ (by rfl) (W.heap.size + 2) 41 i0 _ 2 16 Try.underlying22 hi hz0 hz1 hz2 rfl (by omega) (.slice Al k cl) k _ (by rfl) ((hrow.out.alloc _).drew)
          ⟨wr.heap.size, 0, none⟩ 1 1 [.int .i64 u, .int .i64 t] (by rfl) (by rfl) HNW.out (by simp [Value.oneCell']) (by omega) (by unfold maxLen; omega) (by omega) (by simp; omega) (wr.heap.size + 1) (by simp) ?_
        intro g7 cap7 w7 hrow7 hgr0 hat hlt7
        have hgrow : (wr.alloc (.cells #[.int .i64 u, .int .i64 t] 41)).grownBy w7 (Value.slice Al k cl).ownBlock := ⟨hgr0.os, hgr0.tape, hgr0.output, hgr0.size, hgr0.block⟩
        have B7 := append_box hB1.out HIN.out hgrow (by omega) (by omega)
        have B7' := append_box hB0.out HIN.out hgrow (by omega) (by omega)
        have z0 := B7.cell (j := 0) rfl
        have z1 := B7.frozen 0
        have hS7 := HS.out w7 (fun q hq => (hgrow.block q (by simp; omega) (fun e => by have := HIN.out q (by rw [← e]; simp); omega)).trans ((Below.refl wr.heap.size wr).alloc (Nat.le_refl _) _ |>.block q (by omega)))
        refine hK.out _ _ hS7 (fun hHeld => ?_)
        clear hK K
        (try simp only [List.getElem_toArray, List.getElem_cons_succ, List.getElem_cons_zero, Act.put, List.setIfInBounds_toArray, List.set_cons_zero, List.set_cons_succ])
        refine wpAnyH_take (i := 14) (v := ?v14n12) rfl (by kernel_rfl) (by kernel_rfl) (by kernel_rfl) (fun _ _ _ h => h) (Or.inl ⟨by rfl, ?hy14n12⟩) (by assumption) ?rest14n12
        case hy14n12 => intro w hSw; (try dsimp only at hSw); go_simp; try with_reducible rfl
        (try simp only [List.getElem_toArray, List.getElem_cons_succ, List.getElem_cons_zero, Act.put, List.setIfInBounds_toArray, List.set_cons_zero, List.set_cons_succ])
        refine wpAnyH_ready (rs := [15]) (by kernel_rfl) (by simp) ?_
        refine (AllReadyH.cons rfl (fun K hK => ?_) AllReadyH.nil)
        go_simp
        have hbw7 : Below W.heap.size W w7 := (hb.alloc hb.size _).grown hgrow (by simp; omega) (fun q hq => by have := HIN.out q (by rw [hq]; simp); omega)
        have HR := Lib.hid (own_round (B := W.heap.size) HTK.out hrow7 B7 B7' hbw7)
        have hsz7 := hgrow.size
        refine hK.out _ _ (HS.out (w7.setCell ⟨W.heap.size + 1, 0, none⟩ (.slice (some ⟨g7, 0, none⟩) (k + 1) cap7)) (fun q hq => (Below.heap_setCell w7 ⟨W.heap.size + 1, 0, none⟩ _ q (by show q ≠ W.heap.size + 1; omega)).trans ((hgrow.block q (by simp; omega) (fun e => by have := HIN.out q (by rw [← e]; simp); omega)).trans ((Below.refl wr.heap.size wr).alloc (Nat.le_refl _) _ |>.block q (by omega))))) (fun hHeld => ?_)
        clear hK K hHeld
        (try simp only [List.getElem_toArray, List.getElem_cons_succ, List.getElem_cons_zero, Act.put, List.setIfInBounds_toArray, List.set_cons_zero, List.set_cons_succ])
        refine wpAnyH_done (by kernel_rfl) ?_ _
        go_wp2_with fail
        go_roundw
        case rel => exact ⟨k + 1, _, by omega, by first | rfl | (congr 1; omega) | congr 1, HR.out.1, HR.out.2.1, HR.out.2.2.1, HR.out.2.2.2, by simp at hsz7 ⊢; omega⟩
        case measure => simp [RowKit.intOf]; omega
      · go_simp
        refine hK.out _ _ ⟨p1a, p2a⟩ (fun hHeld => ?_)
        clear hK K
        (try simp only [List.getElem_toArray, List.getElem_cons_succ, List.getElem_cons_zero, Act.put, List.setIfInBounds_toArray, List.set_cons_zero, List.set_cons_succ])
        refine wpAnyH_ready (rs := [1]) (by kernel_rfl) (by simp) ?_
        refine (AllReadyH.cons rfl (fun K hK => ?_) AllReadyH.nil)
        go_simp
        refine hK.out _ _ ⟨p1a, p2a⟩ (fun hHeld => ?_)
        clear hK K
        (try simp only [List.getElem_toArray, List.getElem_cons_succ, List.getElem_cons_zero, Act.put, List.setIfInBounds_toArray, List.set_cons_zero, List.set_cons_succ])
        refine wpAnyH_ready (rs := [13]) (by kernel_rfl) (by simp) ?_
        refine (AllReadyH.cons rfl (fun K hK => ?_) AllReadyH.nil)
        refine step_append_lies _ (by rfl) _ _ _ (by rfl) (W.heap.size + 2) 41 i0 _ 2 16 Try.underlying22 hi hz0 hz1 hz2 rfl (by omega) (.slice Al k cl) k _ (by rfl) ((hrow.out.alloc _).drew)
          ⟨wr.heap.size, 0, none⟩ 1 1 [.int .i64 u, .int .i64 t] (by rfl) (by rfl) HNW.out (by simp [Value.oneCell']) (by omega) (by unfold maxLen; omega) (by omega) (by simp; omega) (wr.heap.size + 1) (by simp) ?_
        intro g7 cap7 w7 hrow7 hgr0 hat hlt7
        have hgrow : (wr.alloc (.cells #[.int .i64 u, .int .i64 t] 41)).grownBy w7 (Value.slice Al k cl).ownBlock := ⟨hgr0.os, hgr0.tape, hgr0.output, hgr0.size, hgr0.block⟩
        have B7 := append_box hB1.out HIN.out hgrow (by omega) (by omega)
        have B7' := append_box hB0.out HIN.out hgrow (by omega) (by omega)
        have z0 := B7.cell (j := 0) rfl
        have z1 := B7.frozen 0
        have hS7 := HS.out w7 (fun q hq => (hgrow.block q (by simp; omega) (fun e => by have := HIN.out q (by rw [← e]; simp); omega)).trans ((Below.refl wr.heap.size wr).alloc (Nat.le_refl _) _ |>.block q (by omega)))
        refine hK.out _ _ hS7 (fun hHeld => ?_)
        clear hK K
        (try simp only [List.getElem_toArray, List.getElem_cons_succ, List.getElem_cons_zero, Act.put, List.setIfInBounds_toArray, List.set_cons_zero, List.set_cons_succ])
        refine wpAnyH_take (i := 14) (v := ?v14n13) rfl (by kernel_rfl) (by kernel_rfl) (by kernel_rfl) (fun _ _ _ h => h) (Or.inl ⟨by rfl, ?hy14n13⟩) (by assumption) ?rest14n13
        case hy14n13 => intro w hSw; (try dsimp only at hSw); go_simp; try with_reducible rfl
        (try simp only [List.getElem_toArray, List.getElem_cons_succ, List.getElem_cons_zero, Act.put, List.setIfInBounds_toArray, List.set_cons_zero, List.set_cons_succ])
        refine wpAnyH_ready (rs := [15]) (by kernel_rfl) (by simp) ?_
        refine (AllReadyH.cons rfl (fun K hK => ?_) AllReadyH.nil)
        go_simp
        have hbw7 : Below W.heap.size W w7 := (hb.alloc hb.size _).grown hgrow (by simp; omega) (fun q hq => by have := HIN.out q (by rw [hq]; simp); omega)
        have HR := Lib.hid (own_round (B := W.heap.size) HTK.out hrow7 B7 B7' hbw7)
        have hsz7 := hgrow.size
        refine hK.out _ _ (HS.out (w7.setCell ⟨W.heap.size + 1, 0, none⟩ (.slice (some ⟨g7, 0, none⟩) (k + 1) cap7)) (fun q hq => (Below.heap_setCell w7 ⟨W.heap.size + 1, 0, none⟩ _ q (by show q ≠ W.heap.size + 1; omega)).trans ((hgrow.block q (by simp; omega) (fun e => by have := HIN.out q (by rw [← e]; simp); omega)).trans ((Below.refl wr.heap.size wr).alloc (Nat.le_refl _) _ |>.block q (by omega))))) (fun hHeld => ?_)
        clear hK K hHeld
        (try simp only [List.getElem_toArray, List.getElem_cons_succ, List.getElem_cons_zero, Act.put, List.setIfInBounds_toArray, List.set_cons_zero, List.set_cons_succ])
        refine wpAnyH_done (by kernel_rfl) ?_ _
        go_wp2_with fail
        go_roundw
        case rel => exact ⟨k + 1, _, by omega, by first | rfl | (congr 1; omega) | congr 1, HR.out.1, HR.out.2.1, HR.out.2.2.1, HR.out.2.2.2, by simp at hsz7 ⊢; omega⟩
        case measure => simp [RowKit.intOf]; omega
    · obtain rfl : k = n := by omega
      have hall : ps.take k = ps := List.take_of_length_le (by have := HN.out; omega)
      rw [hall] at hrow
      have q0 := hB1.out.cell (j := 0) rfl
      have q1 := hB0.out.cell (j := 0) rfl
      have q2 := hB0.out.frozen 0
      have q3 := (hB0.out.set 0 (.slice Al k cl)).cell (j := 0) rfl
      have HIN := Lib.hid (own_in hrow.out)
      have h1 : ¬ (2 * (k : Int) + 1) < ((2 * k : Nat) : Int) := by omega
      have hO : OPv wr W.heap.size (Value.slice Al k cl).ownBlock.toList ps (.slice Al k cl) := ⟨by rw [HN.out]; exact own_lower hrow.out (by omega), rfl, by rw [HN.out]; omega⟩
      have HO := Lib.hid hO
      clear hall hO
      go_wp2_with fail
      exact bodyPost_ret (v := .agg #[.slice Al k cl]) (by simp [results, Try.results18, go_sem, q3]) rfl
        ⟨_, _, rfl, HO.out.move fun j hj => Below.heap_setCell _ _ _ _ (by have := HIN.out j hj; show j ≠ W.heap.size; omega), hb.setCell (Nat.le_refl _) _⟩

end Go.Proofs.Ytgegaipkfpdocaa
