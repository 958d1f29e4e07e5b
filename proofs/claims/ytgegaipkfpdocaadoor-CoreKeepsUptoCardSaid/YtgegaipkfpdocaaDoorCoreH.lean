/-
  THE WALK OF core.Right.
-/
import Derived.Test.YtgegaipkfpdocaaDoorCoreG
import Derived.Defers
import Derived.Recover
import Derived.Laws.Pointers
namespace Go.Proofs.YtgegaipkfpdocaaDoor
open Go.RowKit
set_option linter.unusedSimpArgs false
set_option linter.unusedVariables false
set_option maxRecDepth 100000

theorem core_all (lv : Int) (cs : List Int) : ∀ M, CoreAt lv cs M
  | 0 => fun t _ _ _ _ _ _ h => by have := size_pos t; omega
  | M + 1 => core_step lv cs M (core_all lv cs M)

theorem wrong_is (w : World) : (Instr.typeAssert (.iface 52 (.agg #[])) 20 52 true).run Tryd.prog w = .ok (.tuple #[.agg #[], .bool true]) w := by
  kernel_rfl

theorem catch_wrong (b : Nat) (x : Bool) (older : List PanicEntry) (w : World) (hB : Box w b [.bool x]) :
    CallsD Tryd.prog 25 #[.pointer (some ⟨b, 0, none⟩)] (.panicking ({ v := .iface 52 (.agg #[]), recovered := false } :: older)) w fun e u' w' =>
      e = .returned (.tuple #[]) ∧ u' = .panicking ({ v := .iface 52 (.agg #[]), recovered := true } :: older) ∧ Box w' b [.bool false] ∧ Below b w w' := by
  have hc := hB.cell (j := 0) rfl
  have hz := hB.frozen 0
  have hw := wrong_is w
  have hb0 : Below w.heap.size w (w.alloc (.cells #[] 52)) := (Below.refl _ _).alloc (Nat.le_refl _) _
  have hB1 := hB.below hb0
  have hc1 := hB1.cell (j := 0) rfl
  have hz1 := hB1.frozen 0
  have hbb : Below b w (w.alloc (.cells #[] 52)) := hb0.mono (Nat.le_of_lt hB.lt)
  refine callsD_of_wpS Tryd.func25 rfl fun c₀ cs hu => ?_
  simp only [Tryd.ntmps25, List.size_toArray, List.length_cons, List.length_nil, Nat.reduceAdd, Nat.reduceSub, Array.replicate_succ, Array.replicate_zero, List.append_toArray, List.cons_append, List.nil_append, Array.push_empty, List.push_toArray]
  apply wpS_seq
  apply wpS_region
  simp [wpOpsS, go_sem, recoverD, hu, Tryd.ntmps25, Exit.thenS]
  refine wpS_of_wp ?_
  go_wp2_with fail
  simp [bodyPostS, results, Tryd.results25, hu]
  exact ⟨hB1.set 0 _, hbb.setCell (Nat.le_refl _) _⟩

theorem catch_idle (b : Nat) (w : World) :
    CallsD Tryd.prog 25 #[.pointer (some ⟨b, 0, none⟩)] .returning w fun e u' w' => e = .returned (.tuple #[]) ∧ u' = .returning ∧ w' = w := by
  refine callsD_of_wpS Tryd.func25 rfl fun c₀ cs hu => ?_
  simp only [Tryd.ntmps25, List.size_toArray, List.length_cons, List.length_nil, Nat.reduceAdd, Nat.reduceSub, Array.replicate_succ, Array.replicate_zero, List.append_toArray, List.cons_append, List.nil_append, Array.push_empty, List.push_toArray]
  apply wpS_seq
  apply wpS_region
  simp [wpOpsS, go_sem, recoverD, hu, Tryd.ntmps25, Exit.thenS]
  refine wpS_of_wp ?_
  go_wp2_with fail
  cases c₀
  simp_all [bodyPostS, results, Tryd.results25]

/-- A region's post whose panics ask nothing of the frame but its deferred calls and where the result lies. -/
def QP (K : Act → World → Prop) (D : List Deferred) (p : Value) (R : List PanicEntry → World → Prop) : Exit → Act → World → Prop
  | .normal, a, w => K a w
  | .panic c, a, w => a.defers = D ∧ a.tmps.getD 8 undef = p ∧ R c w
  | _, _, _ => False
theorem QP.hang {K : Act → World → Prop} {D : List Deferred} {p : Value} {R : List PanicEntry → World → Prop} {c : List PanicEntry} {a : Act} {d : Nat} {v : Value} {w : World} (hd : d ≠ 8) (h : QP K D p R (.panic c) (a.put (some d) v) w) : QP K D p R (.panic c) a w := by
  obtain ⟨h1, h2, h3⟩ := h
  refine ⟨h1, ?_, h3⟩
  rw [← h2]
  simp [Act.put, Array.getD_eq_getD_getElem?, Array.getElem?_setIfInBounds, hd]
theorem wp_QP {P : Program} {c : Code} {Q : Exit → Act → World → Prop} {a : Act} {w : World} (D : List Deferred) (p : Value) (R : List PanicEntry → World → Prop) (hp : ∀ ch a' w', a'.defers = D → a'.tmps.getD 8 undef = p → R ch w' → Q (.panic ch) a' w')
    (h : c.wp P (QP (fun a' w' => Q .normal a' w') D p R) a w) : c.wp P Q a w :=
  Code.wp_mono (fun e a w q => by
    cases e with
    | normal => exact q
    | panic ch => exact hp ch a w q.1 q.2.1 q.2.2
    | _ => exact q.elim) h

theorem right_core (lv s : Int) (cs : List Int) (t : Tm) (cv vl vk : Value) (W : World) (hK : Kinds W) (ht : RT W t vl vk) (hcs : RIv W cs cv) (hs : s + size t ≤ 4611686018427387904) :
    Calls Tryd.prog 7 #[.int .i64 lv, .int .i64 s, cv, .agg #[.int .i64 t.kind, .int .i64 t.num, .int .i64 t.atN, vl, vk]] W
      fun e w' => e = .returned (.bool (decide (0 ≤ lv ∧ 0 ≤ s) && coreB lv cs s t)) ∧ Below W.heap.size W w' := by
  have hmf : ∀ (fn : Fn) (first cap : Array Value) (w : World), (Instr.makeFunc fn first cap).run Tryd.prog w = .ok (.func fn first cap) w := fun _ _ _ _ => rfl
  obtain ⟨A1, n1, c1, A2, n2, c2, rfl, rfl⟩ := ht.forms
  obtain ⟨Ac, nc, cc, rfl⟩ : ∃ A n c, cv = .slice A n c := by obtain ⟨A, c, e, _⟩ := hcs; exact ⟨A, _, c, e⟩
  by_cases h0 : 0 ≤ lv ∧ 0 ≤ s
  · rw [decide_eq_true h0, Bool.true_and]
    obtain ⟨g0, g1⟩ := h0
    have hterm := fun W' (h : Below W.heap.size W W') (mb : Nat) (hmb : W'.heap[mb]? = some (.map (kindsAt 20) 20)) => core_all lv cs (size t) t s _ _ _ mb W' (Nat.le_refl _) (ht.below h) (hcs.below h) (hK.below h) hmb g1 hs
    have HT := Lib.hid hterm
    clear hterm hs ht hcs hK
    obtain ⟨w0, hw0⟩ : ∃ w0, ((W.alloc (.cells #[.int .i64 t.kind, .int .i64 t.num, .int .i64 t.atN, .slice A1 n1 c1, .slice A2 n2 c2] 27)).alloc (.cells #[.bool false] 4)).alloc (.cells #[.bool true, .bool true] 4) = w0 := ⟨_, rfl⟩
    have B0 : Box w0 W.heap.size [.int .i64 t.kind, .int .i64 t.num, .int .i64 t.atN, .slice A1 n1 c1, .slice A2 n2 c2] := by rw [← hw0]; exact ((Box.new W [_, _, _, _, _] _).alloc _).alloc _
    have B1 : Box w0 (W.heap.size + 1) [.bool false] := by rw [← hw0]; exact (Box.new' (W.alloc _) [_] _ (by simp)).alloc _
    have B2 : Box w0 (W.heap.size + 1 + 1) [.bool true, .bool true] := by rw [← hw0]; exact Box.new' _ [_, _] _ (by simp)
    have hb0 : Below W.heap.size W w0 := by rw [← hw0]; exact (((Below.refl _ _).alloc (Nat.le_refl _) _).alloc (by simp) _).alloc (by simp; omega) _
    obtain ⟨q0, q1, q2, q3, q4⟩ := B0.five
    cases hcb : coreB lv cs s t with
    | true =>
      go_enter_defers Tryd.func7, Tryd.ntmps7
      go_wp2_with fail
      refine (must2 true true _ _ _ B2).mono ?_
      rintro e w1 ⟨rfl, rfl⟩
      simp only [mustEnd, Bool.and_self, if_pos]
      clear hw0 B2
      go_wp2_with fail
      have hbd : Below w1.heap.size w1 (w1.drew.alloc (.map (kindsAt 20) 20)) := ((Below.refl _ _).drew).alloc (Nat.le_refl _) _
      have hmap : (w1.drew.alloc (.map (kindsAt 20) 20)).heap[w1.heap.size]? = some (.map (kindsAt 20) 20) := (MapKept.heap_alloc w1.drew _).1
      have hcall := HT.out _ (below_ch hb0 hbd) _ hmap
      clear HT hmap
      refine wp_QP [{ target := Target.fn (Fn.func 25) #[.pointer (some ⟨W.heap.size + 1, 0, none⟩)], args := #[] }] (.pointer (some ⟨W.heap.size + 1, 0, none⟩)) (fun _ _ => False) ?_ ?_
      · intro _ _ _ _ _ h
        exact h.elim
      rw [hcb] at hcall
      have HTT : Calls Tryd.prog 28 #[.agg #[.int .i64 lv, .int .i64 s, .slice Ac nc cc, .map (some w1.heap.size)], .agg #[.int .i64 t.kind, .int .i64 t.num, .int .i64 t.atN, .slice A1 n1 c1, .slice A2 n2 c2]] (w1.drew.alloc (.map (kindsAt 20) 20)) fun e w' => e = .returned (.tuple #[]) ∧ Below (w1.drew.alloc (.map (kindsAt 20) 20)).heap.size (w1.drew.alloc (.map (kindsAt 20) 20)) w' := hcall
      clear hcall
      refine wp_region_held_drew (S := fun w' => w'.cell? ⟨W.heap.size, 0, none⟩ = some (.int .i64 t.kind) ∧ w'.cell? ⟨W.heap.size, 1, none⟩ = some (.int .i64 t.num) ∧ w'.cell? ⟨W.heap.size, 2, none⟩ = some (.int .i64 t.atN) ∧ w'.cell? ⟨W.heap.size, 3, none⟩ = some (.slice A1 n1 c1) ∧ w'.cell? ⟨W.heap.size, 4, none⟩ = some (.slice A2 n2 c2)) (by kernel_rfl) (show w1.drew.cell? ⟨W.heap.size, 0, none⟩ = some (.int .i64 t.kind) ∧ w1.drew.cell? ⟨W.heap.size, 1, none⟩ = some (.int .i64 t.num) ∧ w1.drew.cell? ⟨W.heap.size, 2, none⟩ = some (.int .i64 t.atN) ∧ w1.drew.cell? ⟨W.heap.size, 3, none⟩ = some (.slice A1 n1 c1) ∧ w1.drew.cell? ⟨W.heap.size, 4, none⟩ = some (.slice A2 n2 c2) from ⟨q0, q1, q2, q3, q4⟩) (fun hHeld => ?_)
      refine wpAnyH_take (i := 0) (v := ?v0n1) rfl (by kernel_rfl) (by kernel_rfl) (by kernel_rfl) (fun _ _ _ h => QP.hang (by decide) h) (Or.inl ⟨by rfl, ?hy0n1⟩) (by assumption) ?rest0n1
      case hy0n1 => intro w hSw; (try dsimp only at hSw); go_simp; try with_reducible rfl
      (try simp only [List.getElem_toArray, List.getElem_cons_succ, List.getElem_cons_zero, Act.put, List.setIfInBounds_toArray, List.set_cons_zero, List.set_cons_succ])
      refine wpAnyH_take (i := 1) (v := ?v1n2) rfl (by kernel_rfl) (by kernel_rfl) (by kernel_rfl) (fun _ _ _ h => QP.hang (by decide) h) (Or.inl ⟨by rfl, ?hy1n2⟩) (by assumption) ?rest1n2
      case hy1n2 => intro w hSw; (try dsimp only at hSw); go_simp; try with_reducible rfl
      (try simp only [List.getElem_toArray, List.getElem_cons_succ, List.getElem_cons_zero, Act.put, List.setIfInBounds_toArray, List.set_cons_zero, List.set_cons_succ])
      refine wpAnyH_take (i := 2) (v := ?v2n3) rfl (by kernel_rfl) (by kernel_rfl) (by kernel_rfl) (fun _ _ _ h => QP.hang (by decide) h) (Or.inl ⟨by rfl, ?hy2n3⟩) (by assumption) ?rest2n3
      case hy2n3 => intro w hSw; (try dsimp only at hSw); go_simp; try with_reducible rfl
      (try simp only [List.getElem_toArray, List.getElem_cons_succ, List.getElem_cons_zero, Act.put, List.setIfInBounds_toArray, List.set_cons_zero, List.set_cons_succ])
      refine wpAnyH_take (i := 3) (v := ?v3n4) rfl (by kernel_rfl) (by kernel_rfl) (by kernel_rfl) (fun _ _ _ h => QP.hang (by decide) h) (Or.inl ⟨by rfl, ?hy3n4⟩) (by assumption) ?rest3n4
      case hy3n4 => intro w hSw; (try dsimp only at hSw); go_simp; try with_reducible rfl
      (try simp only [List.getElem_toArray, List.getElem_cons_succ, List.getElem_cons_zero, Act.put, List.setIfInBounds_toArray, List.set_cons_zero, List.set_cons_succ])
      refine wpAnyH_take (i := 6) (v := ?v6n5) rfl (by kernel_rfl) (by kernel_rfl) (by kernel_rfl) (fun _ _ _ h => QP.hang (by decide) h) (Or.inl ⟨by rfl, ?hy6n5⟩) (by assumption) ?rest6n5
      case hy6n5 => intro w hSw; (try dsimp only at hSw); go_simp; try with_reducible rfl
      (try simp only [List.getElem_toArray, List.getElem_cons_succ, List.getElem_cons_zero, Act.put, List.setIfInBounds_toArray, List.set_cons_zero, List.set_cons_succ])
      refine wpAnyH_ready (rs := [4]) (by kernel_rfl) (by simp) ?_
      refine AllReadyH.cons rfl (fun K hK => ?_) AllReadyH.nil
      go_simp
      refine (kinds_any _).mono ?_
      rintro e wx ⟨rfl, rfl⟩
      refine hK.out _ _ ⟨cell_below hbd q0, cell_below hbd q1, cell_below hbd q2, cell_below hbd q3, cell_below hbd q4⟩ (fun hHeld => ?_)
      clear hK K
      (try simp only [List.getElem_toArray, List.getElem_cons_succ, List.getElem_cons_zero, Act.put, List.setIfInBounds_toArray, List.set_cons_zero, List.set_cons_succ])
      refine wpAnyH_take (i := 5) (v := ?v5n6) rfl (by kernel_rfl) (by kernel_rfl) (by kernel_rfl) (fun _ _ _ h => QP.hang (by decide) h) (Or.inl ⟨by rfl, ?hy5n6⟩) (by assumption) ?rest5n6
      case hy5n6 => intro w hSw; (try dsimp only at hSw); go_simp; try with_reducible rfl
      (try simp only [List.getElem_toArray, List.getElem_cons_succ, List.getElem_cons_zero, Act.put, List.setIfInBounds_toArray, List.set_cons_zero, List.set_cons_succ])
      refine wpAnyH_ready (rs := [7]) (by kernel_rfl) (by simp) ?_
      refine AllReadyH.cons rfl (fun K hK => ?_) AllReadyH.nil
      go_simp
      refine HTT.mono ?_
      rintro e wy ⟨rfl, hby⟩
      replace hby : Below w1.heap.size w1 wy := below_ch hbd hby
      refine hK.out _ _ ⟨cell_below hby q0, cell_below hby q1, cell_below hby q2, cell_below hby q3, cell_below hby q4⟩ (fun hHeld => ?_)
      clear hK K hHeld
      (try simp only [List.getElem_toArray, List.getElem_cons_succ, List.getElem_cons_zero, Act.put, List.setIfInBounds_toArray, List.set_cons_zero, List.set_cons_succ])
      refine wpAnyH_done (by kernel_rfl) ?_ _
      have B3 := B1.below hby
      have z0 := B3.cell (j := 0) rfl
      have z1 := B3.frozen 0
      have hbw : Below W.heap.size W wy := below_ch hb0 hby
      clear HTT hby
      simp only [QP, Exit.then]
      go_wp2_with fail
      refine leaves_cons (f := 25) (args := #[.pointer (some ⟨W.heap.size + 1, 0, none⟩)]) (by simp) (by simp [go_sem]) ?_
      refine (catch_idle (W.heap.size + 1) _).mono ?_
      rintro e u' w2 ⟨rfl, rfl, rfl⟩
      have z2 := (B3.set 0 (.bool true)).cell (j := 0) rfl
      simp [Leaves, settle, results, Tryd.results7, go_sem, z2]
      exact hbw.setCell (show W.heap.size ≤ W.heap.size + 1 by omega) _
    | false =>
      go_enter_defers Tryd.func7, Tryd.ntmps7
      go_wp2_with fail
      refine (must2 true true _ _ _ B2).mono ?_
      rintro e w1 ⟨rfl, rfl⟩
      simp only [mustEnd, Bool.and_self, if_pos]
      clear hw0 B2
      go_wp2_with fail
      have hbd : Below w1.heap.size w1 (w1.drew.alloc (.map (kindsAt 20) 20)) := ((Below.refl _ _).drew).alloc (Nat.le_refl _) _
      have hmap : (w1.drew.alloc (.map (kindsAt 20) 20)).heap[w1.heap.size]? = some (.map (kindsAt 20) 20) := (MapKept.heap_alloc w1.drew _).1
      have hcall := HT.out _ (below_ch hb0 hbd) _ hmap
      clear HT hmap
      refine wp_QP [{ target := Target.fn (Fn.func 25) #[.pointer (some ⟨W.heap.size + 1, 0, none⟩)], args := #[] }] (.pointer (some ⟨W.heap.size + 1, 0, none⟩)) (fun ch w' => ch = [{ v := .iface 52 (.agg #[]), recovered := false }] ∧ Box w' (W.heap.size + 1) [.bool false] ∧ Below W.heap.size W w') ?_ ?_
      · rintro ch a' w' hd ht ⟨rfl, hB, hb⟩
        obtain ⟨tm, df⟩ := a'
        simp only at hd ht
        subst hd
        have htm : tm[8]?.getD undef = .pointer (some ⟨W.heap.size + 1, 0, none⟩) := by rw [← ht]; simp [Array.getD_eq_getD_getElem?]
        show Exit.then _ _ (Exit.panic _) _ _
        go_wp2_with fail
        refine leaves_cons (f := 25) (args := #[.pointer (some ⟨W.heap.size + 1, 0, none⟩)]) (by simp) (by simp [go_sem]) ?_
        refine (catch_wrong (W.heap.size + 1) false [] _ hB).mono ?_
        rintro e u' w2 ⟨rfl, rfl, hB2, hb2⟩
        have z0 := hB2.cell (j := 0) rfl
        simp [Leaves, settle, results, Tryd.results7, go_sem, htm, z0]
        exact hb.trans (hb2.mono (by omega))
      rw [hcb] at hcall
      have HTT : Calls Tryd.prog 28 #[.agg #[.int .i64 lv, .int .i64 s, .slice Ac nc cc, .map (some w1.heap.size)], .agg #[.int .i64 t.kind, .int .i64 t.num, .int .i64 t.atN, .slice A1 n1 c1, .slice A2 n2 c2]] (w1.drew.alloc (.map (kindsAt 20) 20)) fun e w' => e = .panicked [{ v := .iface 52 (.agg #[]), recovered := false }] ∧ Below (w1.drew.alloc (.map (kindsAt 20) 20)).heap.size (w1.drew.alloc (.map (kindsAt 20) 20)) w' := hcall
      clear hcall
      refine wp_region_held_drew (S := fun w' => w'.cell? ⟨W.heap.size, 0, none⟩ = some (.int .i64 t.kind) ∧ w'.cell? ⟨W.heap.size, 1, none⟩ = some (.int .i64 t.num) ∧ w'.cell? ⟨W.heap.size, 2, none⟩ = some (.int .i64 t.atN) ∧ w'.cell? ⟨W.heap.size, 3, none⟩ = some (.slice A1 n1 c1) ∧ w'.cell? ⟨W.heap.size, 4, none⟩ = some (.slice A2 n2 c2)) (by kernel_rfl) (show w1.drew.cell? ⟨W.heap.size, 0, none⟩ = some (.int .i64 t.kind) ∧ w1.drew.cell? ⟨W.heap.size, 1, none⟩ = some (.int .i64 t.num) ∧ w1.drew.cell? ⟨W.heap.size, 2, none⟩ = some (.int .i64 t.atN) ∧ w1.drew.cell? ⟨W.heap.size, 3, none⟩ = some (.slice A1 n1 c1) ∧ w1.drew.cell? ⟨W.heap.size, 4, none⟩ = some (.slice A2 n2 c2) from ⟨q0, q1, q2, q3, q4⟩) (fun hHeld => ?_)
      refine wpAnyH_take (i := 0) (v := ?v0n7) rfl (by kernel_rfl) (by kernel_rfl) (by kernel_rfl) (fun _ _ _ h => QP.hang (by decide) h) (Or.inl ⟨by rfl, ?hy0n7⟩) (by assumption) ?rest0n7
      case hy0n7 => intro w hSw; (try dsimp only at hSw); go_simp; try with_reducible rfl
      (try simp only [List.getElem_toArray, List.getElem_cons_succ, List.getElem_cons_zero, Act.put, List.setIfInBounds_toArray, List.set_cons_zero, List.set_cons_succ])
      refine wpAnyH_take (i := 1) (v := ?v1n8) rfl (by kernel_rfl) (by kernel_rfl) (by kernel_rfl) (fun _ _ _ h => QP.hang (by decide) h) (Or.inl ⟨by rfl, ?hy1n8⟩) (by assumption) ?rest1n8
      case hy1n8 => intro w hSw; (try dsimp only at hSw); go_simp; try with_reducible rfl
      (try simp only [List.getElem_toArray, List.getElem_cons_succ, List.getElem_cons_zero, Act.put, List.setIfInBounds_toArray, List.set_cons_zero, List.set_cons_succ])
      refine wpAnyH_take (i := 2) (v := ?v2n9) rfl (by kernel_rfl) (by kernel_rfl) (by kernel_rfl) (fun _ _ _ h => QP.hang (by decide) h) (Or.inl ⟨by rfl, ?hy2n9⟩) (by assumption) ?rest2n9
      case hy2n9 => intro w hSw; (try dsimp only at hSw); go_simp; try with_reducible rfl
      (try simp only [List.getElem_toArray, List.getElem_cons_succ, List.getElem_cons_zero, Act.put, List.setIfInBounds_toArray, List.set_cons_zero, List.set_cons_succ])
      refine wpAnyH_take (i := 3) (v := ?v3n10) rfl (by kernel_rfl) (by kernel_rfl) (by kernel_rfl) (fun _ _ _ h => QP.hang (by decide) h) (Or.inl ⟨by rfl, ?hy3n10⟩) (by assumption) ?rest3n10
      case hy3n10 => intro w hSw; (try dsimp only at hSw); go_simp; try with_reducible rfl
      (try simp only [List.getElem_toArray, List.getElem_cons_succ, List.getElem_cons_zero, Act.put, List.setIfInBounds_toArray, List.set_cons_zero, List.set_cons_succ])
      refine wpAnyH_take (i := 6) (v := ?v6n11) rfl (by kernel_rfl) (by kernel_rfl) (by kernel_rfl) (fun _ _ _ h => QP.hang (by decide) h) (Or.inl ⟨by rfl, ?hy6n11⟩) (by assumption) ?rest6n11
      case hy6n11 => intro w hSw; (try dsimp only at hSw); go_simp; try with_reducible rfl
      (try simp only [List.getElem_toArray, List.getElem_cons_succ, List.getElem_cons_zero, Act.put, List.setIfInBounds_toArray, List.set_cons_zero, List.set_cons_succ])
      refine wpAnyH_ready (rs := [4]) (by kernel_rfl) (by simp) ?_
      refine AllReadyH.cons rfl (fun K hK => ?_) AllReadyH.nil
      go_simp
      refine (kinds_any _).mono ?_
      rintro e wx ⟨rfl, rfl⟩
      refine hK.out _ _ ⟨cell_below hbd q0, cell_below hbd q1, cell_below hbd q2, cell_below hbd q3, cell_below hbd q4⟩ (fun hHeld => ?_)
      clear hK K
      (try simp only [List.getElem_toArray, List.getElem_cons_succ, List.getElem_cons_zero, Act.put, List.setIfInBounds_toArray, List.set_cons_zero, List.set_cons_succ])
      refine wpAnyH_take (i := 5) (v := ?v5n12) rfl (by kernel_rfl) (by kernel_rfl) (by kernel_rfl) (fun _ _ _ h => QP.hang (by decide) h) (Or.inl ⟨by rfl, ?hy5n12⟩) (by assumption) ?rest5n12
      case hy5n12 => intro w hSw; (try dsimp only at hSw); go_simp; try with_reducible rfl
      (try simp only [List.getElem_toArray, List.getElem_cons_succ, List.getElem_cons_zero, Act.put, List.setIfInBounds_toArray, List.set_cons_zero, List.set_cons_succ])
      refine wpAnyH_ready (rs := [7]) (by kernel_rfl) (by simp) ?_
      refine AllReadyH.cons rfl (fun K hK => ?_) AllReadyH.nil
      go_simp
      refine HTT.mono ?_
      rintro e wy ⟨rfl, hby⟩
      replace hby : Below w1.heap.size w1 wy := below_ch hbd hby
      exact ⟨rfl, rfl, rfl, B1.below hby, below_ch hb0 hby⟩
  · have hz : (decide (0 ≤ lv ∧ 0 ≤ s) && coreB lv cs s t) = false := by rw [decide_eq_false h0]; rfl
    rw [hz]
    have hmust : (decide (0 ≤ lv) && decide (0 ≤ s)) = false := by rw [Bool.eq_false_iff]; simp; omega
    clear hz ht hcs hK
    have HM : Hid (∀ b c w, Box w b [.bool (decide (0 ≤ lv)), .bool (decide (0 ≤ s))] → Calls Tryd.prog 26 #[.slice (some ⟨b, 0, none⟩) 2 c] w fun e w' => e = .panicked [{ v := .iface 52 (.agg #[]), recovered := false }] ∧ w' = w) := Lib.hid fun b c w hB => by
      have h := must2 _ _ b c w hB
      rw [hmust] at h
      exact h
    clear hmust h0
    go_enter_defers Tryd.func7, Tryd.ntmps7
    go_wp2_with fail
    refine (HM.out _ _ _ (Box.new' _ [_, _] _ (by simp))).mono ?_
    rintro e w1 ⟨rfl, rfl⟩
    go_wp2_with fail
    refine leaves_cons (f := 25) (args := #[.pointer (some ⟨W.heap.size + 1, 0, none⟩)]) (by simp) (by simp [go_sem]) ?_
    refine (catch_wrong (W.heap.size + 1) false [] _ ?_).mono ?_
    · exact (Box.new' (W.alloc _) [_] _ (by simp)).alloc _
    rintro e u' w2 ⟨rfl, rfl, hB, hb⟩
    have z0 := hB.cell (j := 0) rfl
    simp [Leaves, settle, results, Tryd.results7, go_sem, z0]
    exact ((((Below.refl _ _).alloc (Nat.le_refl _) _).alloc (by simp) _).alloc (by simp; omega) _).trans (hb.mono (by omega))

end Go.Proofs.YtgegaipkfpdocaaDoor
