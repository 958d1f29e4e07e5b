/-
  THE WALK OF core.term.
-/
import Derived.Test.YtgegaipkfpdocaaDoorCoreF
import Derived.Deep.RegionHeld3
namespace Go.Proofs.YtgegaipkfpdocaaDoor
open Go.RowKit
set_option linter.unusedSimpArgs false
set_option linter.unusedVariables false
set_option maxRecDepth 100000

theorem below_scope (lv s d : Int) (w : World) (h : IntKind.i64.wrap (s + d) = s + d) : Calls Tryd.prog 66 #[.agg #[.int .i64 lv, .int .i64 s], .int .i64 d] w fun e w' => e = .returned (.agg #[.int .i64 lv, .int .i64 (s + d)]) ∧ Below w.heap.size w w' := by
  go_enter Tryd.func66, Tryd.ntmps66
  go_wp2_with fail
  generalize hwf : (w.alloc (.cells #[.int .i64 lv, .int .i64 s] 56)).alloc (.cells #[.int .i64 lv, .int .i64 (s + d)] 56) = wf
  have B : Box wf (w.heap.size + 1) [.int .i64 lv, .int .i64 (s + d)] := by rw [← hwf]; exact Box.new' _ [_, _] _ (by simp)
  have z0 := B.cell (j := 0) rfl
  have z1 := B.cell (j := 1) rfl
  refine bodyPost_ret (v := .agg #[.int .i64 lv, .int .i64 (s + d)]) (by simp [results, Tryd.results66, go_sem, z0, z1]) rfl ?_
  exact ⟨rfl, by rw [← hwf]; exact ((Below.refl _ _).alloc (Nat.le_refl _) _).alloc (by simp) _⟩

/-- What the walk carries: nine cells, and that what lay lies as it did. -/
theorem sCore {W w w' : World} {b0 b1 : Nat} {x0 x1 x2 x3 x4 x5 x6 x7 x8 : Value} (hb : Below w.heap.size w w') (h : w.cell? ⟨b0, 0, none⟩ = some x0 ∧ w.cell? ⟨b0, 1, none⟩ = some x1 ∧ w.cell? ⟨b0, 2, none⟩ = some x2 ∧ w.cell? ⟨b0, 3, none⟩ = some x3 ∧ w.cell? ⟨b1, 0, none⟩ = some x4 ∧ w.cell? ⟨b1, 1, none⟩ = some x5 ∧ w.cell? ⟨b1, 2, none⟩ = some x6 ∧ w.cell? ⟨b1, 3, none⟩ = some x7 ∧ w.cell? ⟨b1, 4, none⟩ = some x8 ∧ Below W.heap.size W w) : w'.cell? ⟨b0, 0, none⟩ = some x0 ∧ w'.cell? ⟨b0, 1, none⟩ = some x1 ∧ w'.cell? ⟨b0, 2, none⟩ = some x2 ∧ w'.cell? ⟨b0, 3, none⟩ = some x3 ∧ w'.cell? ⟨b1, 0, none⟩ = some x4 ∧ w'.cell? ⟨b1, 1, none⟩ = some x5 ∧ w'.cell? ⟨b1, 2, none⟩ = some x6 ∧ w'.cell? ⟨b1, 3, none⟩ = some x7 ∧ w'.cell? ⟨b1, 4, none⟩ = some x8 ∧ Below W.heap.size W w' :=
  ⟨cell_below hb h.1, cell_below hb h.2.1, cell_below hb h.2.2.1, cell_below hb h.2.2.2.1, cell_below hb h.2.2.2.2.1, cell_below hb h.2.2.2.2.2.1, cell_below hb h.2.2.2.2.2.2.1, cell_below hb h.2.2.2.2.2.2.2.1, cell_below hb h.2.2.2.2.2.2.2.2.1, below_ch h.2.2.2.2.2.2.2.2.2 hb⟩

/-- How a walk ends. -/
def CoreEnd (ok : Bool) (w : World) (e : Ending) (w' : World) : Prop := e = mustEnd ok ∧ Below w.heap.size w w'

/-- What the walk of terms of at most M nodes does. -/
def CoreAt (lv : Int) (cs : List Int) (M : Nat) : Prop :=
  ∀ (t : Tm) (s : Int) (cv vl vk : Value) (mb : Nat) (W : World), size t ≤ M → RT W t vl vk → RIv W cs cv → Kinds W → W.heap[mb]? = some (.map (kindsAt 20) 20) → 0 ≤ s → s + size t ≤ 4611686018427387904 →
    Calls Tryd.prog 28 #[.agg #[.int .i64 lv, .int .i64 s, cv, .map (some mb)], .agg #[.int .i64 t.kind, .int .i64 t.num, .int .i64 t.atN, vl, vk]] W (CoreEnd (coreB lv cs s t) W)

set_option maxHeartbeats 4000000 in
theorem core_step (lv : Int) (cs : List Int) (M : Nat) (IH : CoreAt lv cs M) : CoreAt lv cs (M + 1) := by
  intro t s cv vl vk mb W hM ht hcs hK hmb hs0 hs1
  obtain ⟨k, m, a, ls, ks⟩ := t
  rw [RT_iff] at ht
  obtain ⟨hls, hks⟩ := ht
  obtain ⟨A2, c2, rfl, hk1, hk2, hk3⟩ := hks
  simp only [Tm.kind, Tm.num, Tm.atN, size] at hM hs1 ⊢
  have hrun := fun W' (h : Below W.heap.size W W') => run_ask W' mb k ((h.block mb (Array.getElem?_eq_some_iff.1 hmb).1).trans hmb)
  have HRUN := Lib.hid hrun
  clear hrun
  by_cases hhas : askHas k = true
  · obtain ⟨f, hval, ef, hok⟩ := ask_any lv s cs k hhas
    rw [hhas, hval] at HRUN
    have hask := fun W' (h : Below W.heap.size W W') => hok m a ls cv (.map (some mb)) vl A2 ks.length c2 W' (hls.below h) (hcs.below h)
    have HASK := Lib.hid hask
    clear hask hok hval hhas
    obtain ⟨A1, n1, c1, rfl⟩ : ∃ A n c, vl = .slice A n c := by obtain ⟨A, c, e, _⟩ := hls; exact ⟨A, _, c, e⟩
    obtain ⟨Ac, nc, cc, rfl⟩ : ∃ A n c, cv = .slice A n c := by obtain ⟨A, c, e, _⟩ := hcs; exact ⟨A, _, c, e⟩
    obtain ⟨w0, hw0⟩ : ∃ w0, ((W.alloc (.cells #[.int .i64 lv, .int .i64 s, .slice Ac nc cc, .map (some mb)] 60)).alloc (.cells #[.int .i64 k, .int .i64 m, .int .i64 a, .slice A1 n1 c1, .slice A2 ks.length c2] 27)) = w0 := ⟨_, rfl⟩
    have B0 : Box w0 W.heap.size [.int .i64 lv, .int .i64 s, .slice Ac nc cc, .map (some mb)] := by rw [← hw0]; exact (Box.new W [_, _, _, _] _).alloc _
    have B1 : Box w0 (W.heap.size + 1) [.int .i64 k, .int .i64 m, .int .i64 a, .slice A1 n1 c1, .slice A2 ks.length c2] := by rw [← hw0]; exact Box.new' (W.alloc _) [_, _, _, _, _] _ (by simp)
    have hb0 : Below W.heap.size W w0 := by rw [← hw0]; exact ((Below.refl _ _).alloc (Nat.le_refl _) _).alloc (by simp) _
    have hrun := HRUN.out w0 hb0
    clear HRUN
    have p0 := B0.cell (j := 0) rfl
    have p1 := B0.cell (j := 1) rfl
    have p2 := B0.cell (j := 2) rfl
    have p3 := B0.cell (j := 3) rfl
    obtain ⟨q0, q1, q2, q3, q4⟩ := B1.five
    have hk3' : Hid (0 < ks.length → ∃ b o, A2 = some ⟨b, o, none⟩ ∧ RK W b o ks) := Lib.hid hk3
    clear hk3
    generalize hln : ks.length = n2 at *
    have HLN := Lib.hid hln
    clear hln
    go_enter Tryd.func28, Tryd.ntmps28
    go_wp2_with fail
    refine (mustT _ _ _ (Box.new _ [_] _)).mono ?_
    rintro e w1 ⟨rfl, rfl⟩
    clear hrun hw0
    have hb1 : Below W.heap.size W (w0.alloc (.cells #[.bool true] 4)) := below_ch hb0 ((Below.refl _ _).alloc (Nat.le_refl _) _)
    replace p0 := cell_below ((Below.refl w0.heap.size w0).alloc (Nat.le_refl _) (.cells #[.bool true] 4)) p0
    replace p1 := cell_below ((Below.refl w0.heap.size w0).alloc (Nat.le_refl _) (.cells #[.bool true] 4)) p1
    replace p2 := cell_below ((Below.refl w0.heap.size w0).alloc (Nat.le_refl _) (.cells #[.bool true] 4)) p2
    replace p3 := cell_below ((Below.refl w0.heap.size w0).alloc (Nat.le_refl _) (.cells #[.bool true] 4)) p3
    replace q0 := cell_below ((Below.refl w0.heap.size w0).alloc (Nat.le_refl _) (.cells #[.bool true] 4)) q0
    replace q1 := cell_below ((Below.refl w0.heap.size w0).alloc (Nat.le_refl _) (.cells #[.bool true] 4)) q1
    replace q2 := cell_below ((Below.refl w0.heap.size w0).alloc (Nat.le_refl _) (.cells #[.bool true] 4)) q2
    replace q3 := cell_below ((Below.refl w0.heap.size w0).alloc (Nat.le_refl _) (.cells #[.bool true] 4)) q3
    replace q4 := cell_below ((Below.refl w0.heap.size w0).alloc (Nat.le_refl _) (.cells #[.bool true] 4)) q4
    clear B0 B1 hb0
    generalize w0.alloc (.cells #[.bool true] 4) = w1 at *
    go_wp2_with fail
    have hunf : coreB lv cs s (.node k m a ls ks) = (decide (askB lv s cs k m a ls = some (n2 : Int)) && coreBL lv cs s k 0 ks) := by simp only [coreB, HLN.out]
    have HU := Lib.hid hunf
    rw [hunf]
    clear hunf
    generalize askB lv s cs k m a ls = o at *
    have HASK1 := HASK.out _ hb1.drew
    cases o with
    | none =>
      have hz : (decide ((none : Option Int) = some (n2 : Int)) && coreBL lv cs s k 0 ks) = false := by simp
      rw [hz]
      have HCALL : Calls Tryd.prog f #[.agg #[.int .i64 lv, .int .i64 s, .slice Ac nc cc, .map (some mb)], .agg #[.int .i64 k, .int .i64 m, .int .i64 a, .slice A1 n1 c1, .slice A2 n2 c2]] w1.drew fun e w' => e = .panicked [{ v := .iface 52 (.agg #[]), recovered := false }] ∧ Below w1.drew.heap.size w1.drew w' := HASK1
      clear HASK HASK1 hz IH
      have hS0 : w1.drew.cell? ⟨W.heap.size, 0, none⟩ = some (.int .i64 lv) ∧ w1.drew.cell? ⟨W.heap.size, 1, none⟩ = some (.int .i64 s) ∧ w1.drew.cell? ⟨W.heap.size, 2, none⟩ = some (.slice Ac nc cc) ∧ w1.drew.cell? ⟨W.heap.size, 3, none⟩ = some (.map (some mb)) ∧ w1.drew.cell? ⟨W.heap.size + 1, 0, none⟩ = some (.int .i64 k) ∧ w1.drew.cell? ⟨W.heap.size + 1, 1, none⟩ = some (.int .i64 m) ∧ w1.drew.cell? ⟨W.heap.size + 1, 2, none⟩ = some (.int .i64 a) ∧ w1.drew.cell? ⟨W.heap.size + 1, 3, none⟩ = some (.slice A1 n1 c1) ∧ w1.drew.cell? ⟨W.heap.size + 1, 4, none⟩ = some (.slice A2 n2 c2) ∧ Below W.heap.size W w1.drew := ⟨p0, p1, p2, p3, q0, q1, q2, q3, q4, hb1.drew⟩
      refine wp_region_held_drew (S := fun w' => w'.cell? ⟨W.heap.size, 0, none⟩ = some (.int .i64 lv) ∧ w'.cell? ⟨W.heap.size, 1, none⟩ = some (.int .i64 s) ∧ w'.cell? ⟨W.heap.size, 2, none⟩ = some (.slice Ac nc cc) ∧ w'.cell? ⟨W.heap.size, 3, none⟩ = some (.map (some mb)) ∧ w'.cell? ⟨W.heap.size + 1, 0, none⟩ = some (.int .i64 k) ∧ w'.cell? ⟨W.heap.size + 1, 1, none⟩ = some (.int .i64 m) ∧ w'.cell? ⟨W.heap.size + 1, 2, none⟩ = some (.int .i64 a) ∧ w'.cell? ⟨W.heap.size + 1, 3, none⟩ = some (.slice A1 n1 c1) ∧ w'.cell? ⟨W.heap.size + 1, 4, none⟩ = some (.slice A2 n2 c2) ∧ Below W.heap.size W w') (by kernel_rfl) hS0 (fun hHeld => ?_)
      refine wpAnyH_take (i := 0) (v := ?v0n1) rfl (by kernel_rfl) (by kernel_rfl) (by kernel_rfl) (fun _ _ _ h => h) (Or.inl ⟨by rfl, ?hy0n1⟩) (by assumption) ?rest0n1
      case hy0n1 => intro w hSw; (try dsimp only at hSw); go_simp; try with_reducible rfl
      (try simp only [List.getElem_toArray, List.getElem_cons_succ, List.getElem_cons_zero, Act.put, List.setIfInBounds_toArray, List.set_cons_zero, List.set_cons_succ])
      refine wpAnyH_take (i := 1) (v := ?v1n2) rfl (by kernel_rfl) (by kernel_rfl) (by kernel_rfl) (fun _ _ _ h => h) (Or.inl ⟨by rfl, ?hy1n2⟩) (by assumption) ?rest1n2
      case hy1n2 => intro w hSw; (try dsimp only at hSw); go_simp; try with_reducible rfl
      (try simp only [List.getElem_toArray, List.getElem_cons_succ, List.getElem_cons_zero, Act.put, List.setIfInBounds_toArray, List.set_cons_zero, List.set_cons_succ])
      refine wpAnyH_take (i := 2) (v := ?v2n3) rfl (by kernel_rfl) (by kernel_rfl) (by kernel_rfl) (fun _ _ _ h => h) (Or.inl ⟨by rfl, ?hy2n3⟩) (by assumption) ?rest2n3
      case hy2n3 => intro w hSw; (try dsimp only at hSw); go_simp; try with_reducible rfl
      (try simp only [List.getElem_toArray, List.getElem_cons_succ, List.getElem_cons_zero, Act.put, List.setIfInBounds_toArray, List.set_cons_zero, List.set_cons_succ])
      refine wpAnyH_take (i := 3) (v := ?v3n4) rfl (by kernel_rfl) (by kernel_rfl) (by kernel_rfl) (fun _ _ _ h => h) (Or.inl ⟨by rfl, ?hy3n4⟩) (by assumption) ?rest3n4
      case hy3n4 => intro w hSw; (try dsimp only at hSw); go_simp; try with_reducible rfl
      (try simp only [List.getElem_toArray, List.getElem_cons_succ, List.getElem_cons_zero, Act.put, List.setIfInBounds_toArray, List.set_cons_zero, List.set_cons_succ])
      refine wpAnyH_take (i := 4) (v := ?v4n5) rfl (by kernel_rfl) (by kernel_rfl) (by kernel_rfl) (fun _ _ _ h => h) (Or.inl ⟨by rfl, ?hy4n5⟩) (by assumption) ?rest4n5
      case hy4n5 => intro w hSw; (try dsimp only at hSw); go_simp; try with_reducible rfl
      (try simp only [List.getElem_toArray, List.getElem_cons_succ, List.getElem_cons_zero, Act.put, List.setIfInBounds_toArray, List.set_cons_zero, List.set_cons_succ])
      refine wpAnyH_take (i := 5) (v := ?v5n6) rfl (by kernel_rfl) (by kernel_rfl) (by kernel_rfl) (fun _ _ _ h => h) (Or.inl ⟨by rfl, ?hy5n6⟩) (by assumption) ?rest5n6
      case hy5n6 => intro w hSw; (try dsimp only at hSw); go_simp; try with_reducible rfl
      (try simp only [List.getElem_toArray, List.getElem_cons_succ, List.getElem_cons_zero, Act.put, List.setIfInBounds_toArray, List.set_cons_zero, List.set_cons_succ])
      clear hS0 hHeld
      refine wpAnyH_ready (rs := [6]) (by kernel_rfl) (by simp) ?_
      refine AllReadyH.cons rfl (fun K hK => ?_) AllReadyH.nil
      go_simp
      refine HCALL.mono ?_
      rintro e wx ⟨rfl, hbx⟩
      replace hbx : Below w1.heap.size w1 wx := below_ch ((Below.refl _ _).drew) hbx
      exact ⟨rfl, rfl, below_ch hb1 hbx⟩
    | some c =>
      have HCALL : Calls Tryd.prog f #[.agg #[.int .i64 lv, .int .i64 s, .slice Ac nc cc, .map (some mb)], .agg #[.int .i64 k, .int .i64 m, .int .i64 a, .slice A1 n1 c1, .slice A2 n2 c2]] w1.drew fun e w' => e = .returned (.int .i64 c) ∧ Below w1.drew.heap.size w1.drew w' := HASK1
      clear HASK HASK1
      by_cases hnc : (n2 : Int) = c
      · have hnb : ((n2 : Int) == c) = true := by simp [hnc]
        have hz : (decide (some c = some (n2 : Int)) && coreBL lv cs s k 0 ks) = coreBL lv cs s k 0 ks := by simp [hnc]
        have HE : Hid (coreB lv cs s (.node k m a ls ks) = coreBL lv cs s k 0 ks) := Lib.hid (HU.out.trans hz)
        rw [hz]
        clear hz hnc HU
        have hS0 : w1.drew.cell? ⟨W.heap.size, 0, none⟩ = some (.int .i64 lv) ∧ w1.drew.cell? ⟨W.heap.size, 1, none⟩ = some (.int .i64 s) ∧ w1.drew.cell? ⟨W.heap.size, 2, none⟩ = some (.slice Ac nc cc) ∧ w1.drew.cell? ⟨W.heap.size, 3, none⟩ = some (.map (some mb)) ∧ w1.drew.cell? ⟨W.heap.size + 1, 0, none⟩ = some (.int .i64 k) ∧ w1.drew.cell? ⟨W.heap.size + 1, 1, none⟩ = some (.int .i64 m) ∧ w1.drew.cell? ⟨W.heap.size + 1, 2, none⟩ = some (.int .i64 a) ∧ w1.drew.cell? ⟨W.heap.size + 1, 3, none⟩ = some (.slice A1 n1 c1) ∧ w1.drew.cell? ⟨W.heap.size + 1, 4, none⟩ = some (.slice A2 n2 c2) ∧ Below W.heap.size W w1.drew := ⟨p0, p1, p2, p3, q0, q1, q2, q3, q4, hb1.drew⟩
        refine wp_region_held_drew (S := fun w' => w'.cell? ⟨W.heap.size, 0, none⟩ = some (.int .i64 lv) ∧ w'.cell? ⟨W.heap.size, 1, none⟩ = some (.int .i64 s) ∧ w'.cell? ⟨W.heap.size, 2, none⟩ = some (.slice Ac nc cc) ∧ w'.cell? ⟨W.heap.size, 3, none⟩ = some (.map (some mb)) ∧ w'.cell? ⟨W.heap.size + 1, 0, none⟩ = some (.int .i64 k) ∧ w'.cell? ⟨W.heap.size + 1, 1, none⟩ = some (.int .i64 m) ∧ w'.cell? ⟨W.heap.size + 1, 2, none⟩ = some (.int .i64 a) ∧ w'.cell? ⟨W.heap.size + 1, 3, none⟩ = some (.slice A1 n1 c1) ∧ w'.cell? ⟨W.heap.size + 1, 4, none⟩ = some (.slice A2 n2 c2) ∧ Below W.heap.size W w') (by kernel_rfl) hS0 (fun hHeld => ?_)
        refine wpAnyH_take (i := 0) (v := ?v0n7) rfl (by kernel_rfl) (by kernel_rfl) (by kernel_rfl) (fun _ _ _ h => h) (Or.inl ⟨by rfl, ?hy0n7⟩) (by assumption) ?rest0n7
        case hy0n7 => intro w hSw; (try dsimp only at hSw); go_simp; try with_reducible rfl
        (try simp only [List.getElem_toArray, List.getElem_cons_succ, List.getElem_cons_zero, Act.put, List.setIfInBounds_toArray, List.set_cons_zero, List.set_cons_succ])
        refine wpAnyH_take (i := 1) (v := ?v1n8) rfl (by kernel_rfl) (by kernel_rfl) (by kernel_rfl) (fun _ _ _ h => h) (Or.inl ⟨by rfl, ?hy1n8⟩) (by assumption) ?rest1n8
        case hy1n8 => intro w hSw; (try dsimp only at hSw); go_simp; try with_reducible rfl
        (try simp only [List.getElem_toArray, List.getElem_cons_succ, List.getElem_cons_zero, Act.put, List.setIfInBounds_toArray, List.set_cons_zero, List.set_cons_succ])
        refine wpAnyH_take (i := 2) (v := ?v2n9) rfl (by kernel_rfl) (by kernel_rfl) (by kernel_rfl) (fun _ _ _ h => h) (Or.inl ⟨by rfl, ?hy2n9⟩) (by assumption) ?rest2n9
        case hy2n9 => intro w hSw; (try dsimp only at hSw); go_simp; try with_reducible rfl
        (try simp only [List.getElem_toArray, List.getElem_cons_succ, List.getElem_cons_zero, Act.put, List.setIfInBounds_toArray, List.set_cons_zero, List.set_cons_succ])
        refine wpAnyH_take (i := 3) (v := ?v3n10) rfl (by kernel_rfl) (by kernel_rfl) (by kernel_rfl) (fun _ _ _ h => h) (Or.inl ⟨by rfl, ?hy3n10⟩) (by assumption) ?rest3n10
        case hy3n10 => intro w hSw; (try dsimp only at hSw); go_simp; try with_reducible rfl
        (try simp only [List.getElem_toArray, List.getElem_cons_succ, List.getElem_cons_zero, Act.put, List.setIfInBounds_toArray, List.set_cons_zero, List.set_cons_succ])
        refine wpAnyH_take (i := 4) (v := ?v4n11) rfl (by kernel_rfl) (by kernel_rfl) (by kernel_rfl) (fun _ _ _ h => h) (Or.inl ⟨by rfl, ?hy4n11⟩) (by assumption) ?rest4n11
        case hy4n11 => intro w hSw; (try dsimp only at hSw); go_simp; try with_reducible rfl
        (try simp only [List.getElem_toArray, List.getElem_cons_succ, List.getElem_cons_zero, Act.put, List.setIfInBounds_toArray, List.set_cons_zero, List.set_cons_succ])
        refine wpAnyH_take (i := 5) (v := ?v5n12) rfl (by kernel_rfl) (by kernel_rfl) (by kernel_rfl) (fun _ _ _ h => h) (Or.inl ⟨by rfl, ?hy5n12⟩) (by assumption) ?rest5n12
        case hy5n12 => intro w hSw; (try dsimp only at hSw); go_simp; try with_reducible rfl
        (try simp only [List.getElem_toArray, List.getElem_cons_succ, List.getElem_cons_zero, Act.put, List.setIfInBounds_toArray, List.set_cons_zero, List.set_cons_succ])
        clear hS0 hHeld
        refine wpAnyH_ready (rs := [6]) (by kernel_rfl) (by simp) ?_
        refine AllReadyH.cons rfl (fun K hK => ?_) AllReadyH.nil
        go_simp
        refine HCALL.mono ?_
        rintro e wx ⟨rfl, hbx⟩
        replace hbx : Below w1.heap.size w1 wx := below_ch ((Below.refl _ _).drew) hbx
        have hb2 : Below W.heap.size W wx := below_ch hb1 hbx
        refine hK.out _ _ ⟨cell_below hbx p0, cell_below hbx p1, cell_below hbx p2, cell_below hbx p3, cell_below hbx q0, cell_below hbx q1, cell_below hbx q2, cell_below hbx q3, cell_below hbx q4, hb2⟩ (fun hHeld => ?_)
        clear hK K
        (try simp only [List.getElem_toArray, List.getElem_cons_succ, List.getElem_cons_zero, Act.put, List.setIfInBounds_toArray, List.set_cons_zero, List.set_cons_succ])
        refine wpAnyH_take (i := 7) (v := ?v7n13) rfl (by kernel_rfl) (by kernel_rfl) (by kernel_rfl) (fun _ _ _ h => h) (Or.inl ⟨by rfl, ?hy7n13⟩) (by assumption) ?rest7n13
        case hy7n13 => intro w hSw; (try dsimp only at hSw); go_simp; try with_reducible rfl
        (try simp only [List.getElem_toArray, List.getElem_cons_succ, List.getElem_cons_zero, Act.put, List.setIfInBounds_toArray, List.set_cons_zero, List.set_cons_succ])
        clear hHeld
        refine wpAnyH_ready (rs := [8]) (by kernel_rfl) (by simp) ?_
        refine AllReadyH.cons rfl (fun K hK => ?_) AllReadyH.nil
        go_simp
        refine hK.out _ _ (sCore ((Below.refl _ _).alloc (Nat.le_refl _) _) ⟨cell_below hbx p0, cell_below hbx p1, cell_below hbx p2, cell_below hbx p3, cell_below hbx q0, cell_below hbx q1, cell_below hbx q2, cell_below hbx q3, cell_below hbx q4, hb2⟩) (fun hHeld => ?_)
        clear hK K hHeld
        (try simp only [List.getElem_toArray, List.getElem_cons_succ, List.getElem_cons_zero, Act.put, List.setIfInBounds_toArray, List.set_cons_zero, List.set_cons_succ])
        refine wpAnyH_ready (rs := [9]) (by kernel_rfl) (by simp) ?_
        refine AllReadyH.cons rfl (fun K hK => ?_) AllReadyH.nil
        go_simp
        refine (mustT _ _ _ (Box.new _ [_] _)).mono ?_
        rintro e w2 ⟨rfl, rfl⟩
        refine hK.out _ _ (sCore ((Below.refl _ _).alloc (Nat.le_refl _) _) ⟨cell_below hbx p0, cell_below hbx p1, cell_below hbx p2, cell_below hbx p3, cell_below hbx q0, cell_below hbx q1, cell_below hbx q2, cell_below hbx q3, cell_below hbx q4, hb2⟩) (fun hHeld => ?_)
        clear hK K
        (try simp only [List.getElem_toArray, List.getElem_cons_succ, List.getElem_cons_zero, Act.put, List.setIfInBounds_toArray, List.set_cons_zero, List.set_cons_succ])
        refine wpAnyH_done (by kernel_rfl) ?_ _
        obtain ⟨p0', p1', p2', p3', q0', q1', q2', q3', q4', hbY⟩ := hHeld
        clear p0 p1 p2 p3 q0 q1 q2 q3 q4 hbx hb2 hb1 HCALL hnb
        generalize wx.alloc (.cells #[.bool true] 4) = wy at *
        go_wp2_with fail
        go_loopw [6, 7, 8, 33] (fun _ _ _ i wr => ∃ (j : Nat), j ≤ n2 ∧ i = .int .i64 j ∧ Hid (coreBL lv cs s k 0 ks = coreBL lv cs s k j (ks.drop j)) ∧ Below wy.heap.size wy wr) (fun _ _ _ i _ => n2 - (intOf i).toNat)
        case atStart => exact ⟨0, Nat.zero_le _, rfl, rfl, Below.refl _ _⟩
        case round =>
          obtain ⟨j, hj, rfl, hp, hb⟩ := hrel
          have hbr : Below W.heap.size W wr := below_ch hbY hb
          by_cases hlt : j < n2
          · obtain ⟨b, o, rfl, hkk⟩ := hk3'.out (by omega)
            obtain ⟨x, hxj⟩ : ∃ x, ks[j]? = some x := ⟨_, List.getElem?_eq_getElem (by have := HLN.out; omega)⟩
            obtain ⟨xl, xk, x0, x1, x2, x3, x4, hRx⟩ := (hkk.below hbr).get hxj
            obtain ⟨A5, n5, c5, A6, n6, c6, rfl, rfl⟩ := hRx.forms
            have hd : coreBL lv cs s k j (ks.drop j) = (coreB lv cs (inner k j s) x && coreBL lv cs s k (j + 1) (ks.drop (j + 1))) := by
              obtain ⟨hlt', hx'⟩ := List.getElem?_eq_some_iff.1 hxj
              rw [List.drop_eq_getElem_cons hlt', hx', coreBL]
            have HD := Lib.hid (hp.out.trans hd)
            have hsz := size_at hxj
            have hlt2 : (j : Int) < (n2 : Int) := by omega
            have hj0 : (0 : Int) ≤ (j : Int) := by omega
            have p0 := cell_below hb p0'
            have p1 := cell_below hb p1'
            have p2 := cell_below hb p2'
            have p3 := cell_below hb p3'
            have q0 := cell_below hb q0'
            have hcsr := hcs.below hbr
            have hKr := hK.below hbr
            have hmr : wr.heap[mb]? = some (.map (kindsAt 20) 20) := (hbr.block mb (Array.getElem?_eq_some_iff.1 hmb).1).trans hmb
            obtain ⟨w3, hw3⟩ : ∃ w3, wr.alloc (.cells #[.int .i64 x.kind, .int .i64 x.num, .int .i64 x.atN, .slice A5 n5 c5, .slice A6 n6 c6] 27) = w3 := ⟨_, rfl⟩
            have BX : Box w3 wr.heap.size [.int .i64 x.kind, .int .i64 x.num, .int .i64 x.atN, .slice A5 n5 c5, .slice A6 n6 c6] := by rw [← hw3]; exact Box.new wr [_, _, _, _, _] _
            have hb3 : Below wr.heap.size wr w3 := by rw [← hw3]; exact (Below.refl _ _).alloc (Nat.le_refl _) _
            replace p0 := cell_below hb3 p0
            replace p1 := cell_below hb3 p1
            replace p2 := cell_below hb3 p2
            replace p3 := cell_below hb3 p3
            replace q0 := cell_below hb3 q0
            have hs3 : w3.heap.size = wr.heap.size + 1 := by rw [← hw3]; simp
            obtain ⟨w4, hw4⟩ : ∃ w4, w3.alloc (.cells #[.int .i64 lv, .int .i64 s, .slice Ac nc cc, .map (some mb)] 60) = w4 := ⟨_, rfl⟩
            have BV : Box w4 w3.heap.size [.int .i64 lv, .int .i64 s, .slice Ac nc cc, .map (some mb)] := by rw [← hw4]; exact Box.new w3 [_, _, _, _] _
            have hb4 : Below w3.heap.size w3 w4 := by rw [← hw4]; exact (Below.refl _ _).alloc (Nat.le_refl _) _
            have BX4 := BX.below hb4
            have hbr4 : Below wr.heap.size wr w4 := below_ch hb3 hb4
            have hb04 : Below W.heap.size W w4 := below_ch hbr hbr4
            have hby4 : Below wy.heap.size wy w4 := below_ch hb hbr4
            have r0 := cell_below hb4 p0
            have r1 := cell_below hb4 p1
            have s0 := cell_below hb4 q0
            have hbind := binds_any k (j : Int) w4 (hKr.below hbr4)
            have HCS := Lib.hid hcsr
            have HRX := Lib.hid hRx
            have HMR := Lib.hid hmr
            have HKR := Lib.hid hKr
            have HS3 := Lib.hid hs3
            have HSZ := Lib.hid hsz
            clear hcsr hRx hmr hKr hs3 hkk hd hxj hp hsz hk3' p0' p1' p2' p3' q0' q1' q2' q3' q4' hcs hK hmb hls
            by_cases hin : (j : Int) = bnd k
            · rw [bindsB_true ⟨hin.symm, by omega⟩] at hbind
              have hinn : inner k j s = s + 1 := if_pos hin
              rw [hinn] at HD
              clear hin hinn
              have hwr : IntKind.i64.wrap (s + 1) = s + 1 := IntWalk.i64_in _ (by omega)
              have hbs := below_scope lv s 1 w4 hwr
              clear hwr
              go_wp2_with fail
              refine hbind.mono ?_
              rintro e w5 ⟨rfl, rfl⟩
              clear hbind hw3 hw4
              go_wp2_with fail
              refine hbs.mono ?_
              rintro e w5 ⟨rfl, hb5⟩
              clear hbs r0 r1 s0
              have BX5 := BX4.below hb5
              have BV5 := BV.below hb5
              have hbr5 : Below wr.heap.size wr w5 := below_ch hbr4 hb5
              have hb05 : Below W.heap.size W w5 := below_ch hbr hbr5
              have hby5 : Below wy.heap.size wy w5 := below_ch hb hbr5
              have v0 := BV5.cell (j := 0) rfl
              have v1 := BV5.cell (j := 1) rfl
              have g0 := BV5.frozen 0
              have g1 := BV5.frozen 1
              have hge : wr.heap.size ≤ w3.heap.size := hb3.size
              obtain ⟨w7, hw7⟩ : ∃ w7, (w5.setCell ⟨w3.heap.size, 0, none⟩ (.int .i64 lv)).setCell ⟨w3.heap.size, 1, none⟩ (.int .i64 (s + 1)) = w7 := ⟨_, rfl⟩
              have BV7 : Box w7 w3.heap.size [.int .i64 lv, .int .i64 (s + 1), .slice Ac nc cc, .map (some mb)] := by rw [← hw7]; exact (BV5.set 0 _).set 1 _
              have hne : wr.heap.size ≠ w3.heap.size := by have := HS3.out; omega
              have BX7 : Box w7 wr.heap.size [.int .i64 x.kind, .int .i64 x.num, .int .i64 x.atN, .slice A5 n5 c5, .slice A6 n6 c6] := by rw [← hw7]; exact (BX5.other hne _).other hne _
              have hbr7 : Below wr.heap.size wr w7 := by rw [← hw7]; exact (hbr5.setCell hge _).setCell hge _
              have hb07 : Below W.heap.size W w7 := below_ch hbr hbr7
              have hby7 : Below wy.heap.size wy w7 := below_ch hb hbr7
              obtain ⟨y0, y1, y2, y3, y4⟩ := BX7.five
              have z0 := BV7.cell (j := 0) rfl
              have z1 := BV7.cell (j := 1) rfl
              have z2 := BV7.cell (j := 2) rfl
              have z3 := BV7.cell (j := 3) rfl
              clear BX BX4 BX5 BV BV5 BX7 BV7
              go_wp2_with fail
              have hih := IH x (s + 1) _ _ _ mb w7 (by have := HSZ.out; omega) (HRX.out.below hbr7) (HCS.out.below hbr7) (HKR.out.below hbr7) ((hbr7.block mb (Array.getElem?_eq_some_iff.1 HMR.out).1).trans HMR.out) (by omega) (by have := HSZ.out; omega)
              cases hcb : coreB lv cs (s + 1) x with
              | true =>
                rw [hcb] at hih HD
                have HC : Calls Tryd.prog 28 #[.agg #[.int .i64 lv, .int .i64 (s + 1), .slice Ac nc cc, .map (some mb)], .agg #[.int .i64 x.kind, .int .i64 x.num, .int .i64 x.atN, .slice A5 n5 c5, .slice A6 n6 c6]] w7 fun e w' => e = .returned (.tuple #[]) ∧ Below w7.heap.size w7 w' := hih
                clear hih hcb
                refine HC.mono ?_
                rintro e w6 ⟨rfl, hb6⟩
                have HB6 : Hid (Below wy.heap.size wy w6) := below_ch hby7 hb6
                clear hb6 HC
                go_wp2_with fail
                go_roundw
                case rel => exact ⟨j + 1, by omega, by go_num, by have := HD.out; rwa [Bool.true_and] at this, HB6.out⟩
                case measure => simp [intOf]; omega
              | false =>
                rw [hcb] at hih HD
                have HC : Calls Tryd.prog 28 #[.agg #[.int .i64 lv, .int .i64 (s + 1), .slice Ac nc cc, .map (some mb)], .agg #[.int .i64 x.kind, .int .i64 x.num, .int .i64 x.atN, .slice A5 n5 c5, .slice A6 n6 c6]] w7 fun e w' => e = .panicked [{ v := .iface 52 (.agg #[]), recovered := false }] ∧ Below w7.heap.size w7 w' := hih
                clear hih hcb
                refine HC.mono ?_
                rintro e w6 ⟨rfl, hb6⟩
                have HB6 : Hid (Below W.heap.size W w6) := below_ch hb07 hb6
                clear hb6 HC
                go_wp2_with fail
                refine ⟨rfl, ?_, HB6.out⟩
                rw [HE.out, HD.out]
                rfl
            · rw [bindsB_false (fun h => hin h.1.symm)] at hbind
              have hinn : inner k j s = s := if_neg hin
              rw [hinn] at HD
              clear hin hinn
              go_wp2_with fail
              refine hbind.mono ?_
              rintro e w5 ⟨rfl, rfl⟩
              clear hbind hw3 hw4
              obtain ⟨y0, y1, y2, y3, y4⟩ := BX4.five
              have z0 := BV.cell (j := 0) rfl
              have z1 := BV.cell (j := 1) rfl
              have z2 := BV.cell (j := 2) rfl
              have z3 := BV.cell (j := 3) rfl
              go_wp2_with fail
              have hih := IH x s _ _ _ mb w4 (by have := HSZ.out; omega) (HRX.out.below hbr4) (HCS.out.below hbr4) (HKR.out.below hbr4) ((hbr4.block mb (Array.getElem?_eq_some_iff.1 HMR.out).1).trans HMR.out) hs0 (by have := HSZ.out; omega)
              cases hcb : coreB lv cs s x with
              | true =>
                rw [hcb] at hih HD
                have HC : Calls Tryd.prog 28 #[.agg #[.int .i64 lv, .int .i64 s, .slice Ac nc cc, .map (some mb)], .agg #[.int .i64 x.kind, .int .i64 x.num, .int .i64 x.atN, .slice A5 n5 c5, .slice A6 n6 c6]] w4 fun e w' => e = .returned (.tuple #[]) ∧ Below w4.heap.size w4 w' := hih
                clear hih hcb
                refine HC.mono ?_
                rintro e w6 ⟨rfl, hb6⟩
                have HB6 : Hid (Below wy.heap.size wy w6) := below_ch hby4 hb6
                clear hb6 HC
                go_wp2_with fail
                go_roundw
                case rel => exact ⟨j + 1, by omega, by go_num, by have := HD.out; rwa [Bool.true_and] at this, HB6.out⟩
                case measure => simp [intOf]; omega
              | false =>
                rw [hcb] at hih HD
                have HC : Calls Tryd.prog 28 #[.agg #[.int .i64 lv, .int .i64 s, .slice Ac nc cc, .map (some mb)], .agg #[.int .i64 x.kind, .int .i64 x.num, .int .i64 x.atN, .slice A5 n5 c5, .slice A6 n6 c6]] w4 fun e w' => e = .panicked [{ v := .iface 52 (.agg #[]), recovered := false }] ∧ Below w4.heap.size w4 w' := hih
                clear hih hcb
                refine HC.mono ?_
                rintro e w6 ⟨rfl, hb6⟩
                have HB6 : Hid (Below W.heap.size W w6) := below_ch hb04 hb6
                clear hb6 HC
                go_wp2_with fail
                refine ⟨rfl, ?_, HB6.out⟩
                rw [HE.out, HD.out]
                rfl
          · obtain rfl : j = n2 := by omega
            have hd : coreBL lv cs s k 0 ks = true := by rw [hp.out, List.drop_of_length_le (by have := HLN.out; omega)]; simp only [coreBL]
            have HD := Lib.hid hd
            clear hd hk3'
            go_wp2_with fail
            go_end0
            exact ⟨by rw [HE.out, HD.out]; rfl, hbr⟩
      · have hnb : ((n2 : Int) == c) = false := by simp [hnc]
        have hz : (decide (some c = some (n2 : Int)) && coreBL lv cs s k 0 ks) = false := by
          have : ¬ (some c = some (n2 : Int)) := fun h => hnc (by injection h with h; exact h.symm)
          simp [this]
        rw [hz]
        clear hz hnc IH
        have hS0 : w1.drew.cell? ⟨W.heap.size, 0, none⟩ = some (.int .i64 lv) ∧ w1.drew.cell? ⟨W.heap.size, 1, none⟩ = some (.int .i64 s) ∧ w1.drew.cell? ⟨W.heap.size, 2, none⟩ = some (.slice Ac nc cc) ∧ w1.drew.cell? ⟨W.heap.size, 3, none⟩ = some (.map (some mb)) ∧ w1.drew.cell? ⟨W.heap.size + 1, 0, none⟩ = some (.int .i64 k) ∧ w1.drew.cell? ⟨W.heap.size + 1, 1, none⟩ = some (.int .i64 m) ∧ w1.drew.cell? ⟨W.heap.size + 1, 2, none⟩ = some (.int .i64 a) ∧ w1.drew.cell? ⟨W.heap.size + 1, 3, none⟩ = some (.slice A1 n1 c1) ∧ w1.drew.cell? ⟨W.heap.size + 1, 4, none⟩ = some (.slice A2 n2 c2) ∧ Below W.heap.size W w1.drew := ⟨p0, p1, p2, p3, q0, q1, q2, q3, q4, hb1.drew⟩
        refine wp_region_held_drew (S := fun w' => w'.cell? ⟨W.heap.size, 0, none⟩ = some (.int .i64 lv) ∧ w'.cell? ⟨W.heap.size, 1, none⟩ = some (.int .i64 s) ∧ w'.cell? ⟨W.heap.size, 2, none⟩ = some (.slice Ac nc cc) ∧ w'.cell? ⟨W.heap.size, 3, none⟩ = some (.map (some mb)) ∧ w'.cell? ⟨W.heap.size + 1, 0, none⟩ = some (.int .i64 k) ∧ w'.cell? ⟨W.heap.size + 1, 1, none⟩ = some (.int .i64 m) ∧ w'.cell? ⟨W.heap.size + 1, 2, none⟩ = some (.int .i64 a) ∧ w'.cell? ⟨W.heap.size + 1, 3, none⟩ = some (.slice A1 n1 c1) ∧ w'.cell? ⟨W.heap.size + 1, 4, none⟩ = some (.slice A2 n2 c2) ∧ Below W.heap.size W w') (by kernel_rfl) hS0 (fun hHeld => ?_)
        refine wpAnyH_take (i := 0) (v := ?v0n14) rfl (by kernel_rfl) (by kernel_rfl) (by kernel_rfl) (fun _ _ _ h => h) (Or.inl ⟨by rfl, ?hy0n14⟩) (by assumption) ?rest0n14
        case hy0n14 => intro w hSw; (try dsimp only at hSw); go_simp; try with_reducible rfl
        (try simp only [List.getElem_toArray, List.getElem_cons_succ, List.getElem_cons_zero, Act.put, List.setIfInBounds_toArray, List.set_cons_zero, List.set_cons_succ])
        refine wpAnyH_take (i := 1) (v := ?v1n15) rfl (by kernel_rfl) (by kernel_rfl) (by kernel_rfl) (fun _ _ _ h => h) (Or.inl ⟨by rfl, ?hy1n15⟩) (by assumption) ?rest1n15
        case hy1n15 => intro w hSw; (try dsimp only at hSw); go_simp; try with_reducible rfl
        (try simp only [List.getElem_toArray, List.getElem_cons_succ, List.getElem_cons_zero, Act.put, List.setIfInBounds_toArray, List.set_cons_zero, List.set_cons_succ])
        refine wpAnyH_take (i := 2) (v := ?v2n16) rfl (by kernel_rfl) (by kernel_rfl) (by kernel_rfl) (fun _ _ _ h => h) (Or.inl ⟨by rfl, ?hy2n16⟩) (by assumption) ?rest2n16
        case hy2n16 => intro w hSw; (try dsimp only at hSw); go_simp; try with_reducible rfl
        (try simp only [List.getElem_toArray, List.getElem_cons_succ, List.getElem_cons_zero, Act.put, List.setIfInBounds_toArray, List.set_cons_zero, List.set_cons_succ])
        refine wpAnyH_take (i := 3) (v := ?v3n17) rfl (by kernel_rfl) (by kernel_rfl) (by kernel_rfl) (fun _ _ _ h => h) (Or.inl ⟨by rfl, ?hy3n17⟩) (by assumption) ?rest3n17
        case hy3n17 => intro w hSw; (try dsimp only at hSw); go_simp; try with_reducible rfl
        (try simp only [List.getElem_toArray, List.getElem_cons_succ, List.getElem_cons_zero, Act.put, List.setIfInBounds_toArray, List.set_cons_zero, List.set_cons_succ])
        refine wpAnyH_take (i := 4) (v := ?v4n18) rfl (by kernel_rfl) (by kernel_rfl) (by kernel_rfl) (fun _ _ _ h => h) (Or.inl ⟨by rfl, ?hy4n18⟩) (by assumption) ?rest4n18
        case hy4n18 => intro w hSw; (try dsimp only at hSw); go_simp; try with_reducible rfl
        (try simp only [List.getElem_toArray, List.getElem_cons_succ, List.getElem_cons_zero, Act.put, List.setIfInBounds_toArray, List.set_cons_zero, List.set_cons_succ])
        refine wpAnyH_take (i := 5) (v := ?v5n19) rfl (by kernel_rfl) (by kernel_rfl) (by kernel_rfl) (fun _ _ _ h => h) (Or.inl ⟨by rfl, ?hy5n19⟩) (by assumption) ?rest5n19
        case hy5n19 => intro w hSw; (try dsimp only at hSw); go_simp; try with_reducible rfl
        (try simp only [List.getElem_toArray, List.getElem_cons_succ, List.getElem_cons_zero, Act.put, List.setIfInBounds_toArray, List.set_cons_zero, List.set_cons_succ])
        clear hS0 hHeld
        refine wpAnyH_ready (rs := [6]) (by kernel_rfl) (by simp) ?_
        refine AllReadyH.cons rfl (fun K hK => ?_) AllReadyH.nil
        go_simp
        refine HCALL.mono ?_
        rintro e wx ⟨rfl, hbx⟩
        replace hbx : Below w1.heap.size w1 wx := below_ch ((Below.refl _ _).drew) hbx
        have hb2 : Below W.heap.size W wx := below_ch hb1 hbx
        refine hK.out _ _ ⟨cell_below hbx p0, cell_below hbx p1, cell_below hbx p2, cell_below hbx p3, cell_below hbx q0, cell_below hbx q1, cell_below hbx q2, cell_below hbx q3, cell_below hbx q4, hb2⟩ (fun hHeld => ?_)
        clear hK K
        (try simp only [List.getElem_toArray, List.getElem_cons_succ, List.getElem_cons_zero, Act.put, List.setIfInBounds_toArray, List.set_cons_zero, List.set_cons_succ])
        refine wpAnyH_take (i := 7) (v := ?v7n20) rfl (by kernel_rfl) (by kernel_rfl) (by kernel_rfl) (fun _ _ _ h => h) (Or.inl ⟨by rfl, ?hy7n20⟩) (by assumption) ?rest7n20
        case hy7n20 => intro w hSw; (try dsimp only at hSw); go_simp; try with_reducible rfl
        (try simp only [List.getElem_toArray, List.getElem_cons_succ, List.getElem_cons_zero, Act.put, List.setIfInBounds_toArray, List.set_cons_zero, List.set_cons_succ])
        clear hHeld
        refine wpAnyH_ready (rs := [8]) (by kernel_rfl) (by simp) ?_
        refine AllReadyH.cons rfl (fun K hK => ?_) AllReadyH.nil
        go_simp
        refine hK.out _ _ (sCore ((Below.refl _ _).alloc (Nat.le_refl _) _) ⟨cell_below hbx p0, cell_below hbx p1, cell_below hbx p2, cell_below hbx p3, cell_below hbx q0, cell_below hbx q1, cell_below hbx q2, cell_below hbx q3, cell_below hbx q4, hb2⟩) (fun hHeld => ?_)
        clear hK K hHeld
        (try simp only [List.getElem_toArray, List.getElem_cons_succ, List.getElem_cons_zero, Act.put, List.setIfInBounds_toArray, List.set_cons_zero, List.set_cons_succ])
        refine wpAnyH_ready (rs := [9]) (by kernel_rfl) (by simp) ?_
        refine AllReadyH.cons rfl (fun K hK => ?_) AllReadyH.nil
        go_simp
        refine (mustF _ _ _ (Box.new _ [_] _)).mono ?_
        rintro e w2 ⟨rfl, rfl⟩
        exact ⟨rfl, rfl, below_ch hb2 ((Below.refl _ _).alloc (Nat.le_refl _) _)⟩
  · have hc : coreB lv cs s (.node k m a ls ks) = false := by
      simp only [coreB, ask_none lv s cs k m a ls (by simpa using hhas)]
      simp
    rw [hc]
    have hh : askHas k = false := by simpa using hhas
    rw [hh] at HRUN
    clear hhas hc hh IH
    obtain ⟨A1, n1, c1, rfl⟩ : ∃ A n c, vl = .slice A n c := by obtain ⟨A, c, e, _⟩ := hls; exact ⟨A, _, c, e⟩
    obtain ⟨Ac, nc, cc, rfl⟩ : ∃ A n c, cv = .slice A n c := by obtain ⟨A, c, e, _⟩ := hcs; exact ⟨A, _, c, e⟩
    have hrun := HRUN.out ((W.alloc (.cells #[.int .i64 lv, .int .i64 s, .slice Ac nc cc, .map (some mb)] 60)).alloc (.cells #[.int .i64 k, .int .i64 m, .int .i64 a, .slice A1 n1 c1, .slice A2 ks.length c2] 27)) (((Below.refl _ _).alloc (Nat.le_refl _) _).alloc (by simp) _)
    clear HRUN hk3 hls hcs hmb
    go_enter Tryd.func28, Tryd.ntmps28
    go_wp2_with fail
    refine (mustF _ _ _ (Box.new' _ [_] _ (by simp))).mono ?_
    rintro e w1 ⟨rfl, rfl⟩
    go_wp2_with fail
    exact ⟨rfl, rfl, ((Below.refl _ _).alloc (Nat.le_refl _) _).alloc (by simp) _ |>.alloc (by simp; omega) _⟩

end Go.Proofs.YtgegaipkfpdocaaDoor
