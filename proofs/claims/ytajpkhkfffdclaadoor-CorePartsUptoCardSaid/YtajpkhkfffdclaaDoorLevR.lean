/-
  THE WALK OF level.Right.
-/
import Derived.Test.YtajpkhkfffdclaaDoorMust
import Derived.Deep.DeepCutAuto
import Derived.Deep.Light
namespace Go.Proofs.YtajpkhkfffdclaaDoor
open Go.RowKit
set_option linter.unusedSimpArgs false
set_option linter.unusedVariables false

theorem notnan_any (x : Int) (w : World) : Calls Tryd.prog 95 #[.int .i64 x] w fun e w' => e = .returned (.bool false) ∧ w' = w := by
  go_enter Tryd.func95, Tryd.ntmps95
  go_wp2_with fail
  go_ret
  exact ⟨rfl, rfl⟩

set_option maxRecDepth 100000
/-- cmp.Compare of two ints. -/
def cmpI (x y : Int) : Int := if x < y then -1 else if y < x then 1 else 0
theorem compare_any (x y : Int) (w : World) : Calls Tryd.prog 59 #[.int .i64 x, .int .i64 y] w fun e w' => e = .returned (.int .i64 (cmpI x y)) ∧ Below w.heap.size w w' := by
  unfold cmpI
  by_cases h1 : x < y
  · rw [if_pos h1]
    go_enter Tryd.func59, Tryd.ntmps59
    go_wp2_with fail
    refine (notnan_any _ _).mono ?_
    rintro e wx ⟨rfl, rfl⟩
    go_wp2_with fail
    refine (notnan_any _ _).mono ?_
    rintro e wx ⟨rfl, rfl⟩
    go_wp2_with fail
    go_ret
    exact ⟨rfl, Below.refl _ _⟩
  · rw [if_neg h1]
    by_cases h2 : y < x
    · rw [if_pos h2]
      go_enter Tryd.func59, Tryd.ntmps59
      go_wp2_with fail
      refine (notnan_any _ _).mono ?_
      rintro e wx ⟨rfl, rfl⟩
      go_wp2_with fail
      refine (notnan_any _ _).mono ?_
      rintro e wx ⟨rfl, rfl⟩
      go_wp2_with fail
      go_ret
      exact ⟨rfl, Below.refl _ _⟩
    · rw [if_neg h2]
      go_enter Tryd.func59, Tryd.ntmps59
      go_wp2_with fail
      refine (notnan_any _ _).mono ?_
      rintro e wx ⟨rfl, rfl⟩
      go_wp2_with fail
      refine (notnan_any _ _).mono ?_
      rintro e wx ⟨rfl, rfl⟩
      go_wp2_with fail
      go_ret
      exact ⟨rfl, Below.refl _ _⟩

theorem or2_any (x : Int) (b c : Nat) (w : World) (h0 : w.cell? ⟨b, 0, none⟩ = some (.int .i64 x)) (h1 : w.cell? ⟨b, 1, none⟩ = some (.int .i64 (-1))) :
    Calls Tryd.prog 58 #[.slice (some ⟨b, 0, none⟩) 2 c] w fun e w' => e = .returned (.int .i64 (if x = 0 then -1 else x)) ∧ Below w.heap.size w w' := by
  by_cases hx : x = 0
  · subst hx
    rw [if_pos rfl]
    go_enter Tryd.func58, Tryd.ntmps58
    go_wp2_with fail
    go_loopw [5, 8] (fun _ i wr => ∃ (j : Nat), j ≤ 1 ∧ i = .int .i64 j ∧ wr = w) (fun _ i _ => 2 - (intOf i).toNat)
    case atStart => exact ⟨0, by omega, rfl, rfl⟩
    case round =>
      obtain ⟨j, hj, rfl, rfl⟩ := hrel
      match j, hj with
      | 0, _ =>
        go_wp2_with fail
        go_roundw
        case rel => exact ⟨1, by omega, by go_num, by simp⟩
        case measure => simp [intOf]
      | 1, _ =>
        go_wp2_with fail
        go_ret
        exact ⟨rfl, Below.refl _ _⟩
  · rw [if_neg hx]
    go_enter Tryd.func58, Tryd.ntmps58
    go_wp2_with fail
    go_loopw [5, 8] (fun _ i wr => i = .int .i64 0 ∧ wr = w) (fun _ i _ => 0)
    case atStart => exact ⟨rfl, rfl⟩
    case round =>
      obtain ⟨rfl, rfl⟩ := hrel
      go_wp2_with fail
      go_ret
      exact ⟨rfl, Below.refl _ _⟩

/-- How level.Right asks two neighbours. -/
theorem pair_any (p q : Int × Int) (w : World) : Calls Tryd.prog 57 #[.agg #[.int .i64 p.1, .int .i64 p.2], .agg #[.int .i64 q.1, .int .i64 q.2]] w
    fun e w' => e = .returned (.int .i64 (if q.1 < p.1 then 1 else -1)) ∧ Below w.heap.size w w' := by
  have hc : (if cmpI p.1 q.1 = 0 then -1 else cmpI p.1 q.1) = (if q.1 < p.1 then (1 : Int) else -1) := by
    unfold cmpI
    by_cases h1 : p.1 < q.1
    · simp [h1]; omega
    · by_cases h2 : q.1 < p.1 <;> simp [h1, h2]
  generalize (if q.1 < p.1 then (1 : Int) else -1) = r at *
  obtain ⟨a, b⟩ := p
  obtain ⟨c, d⟩ := q
  simp only at hc ⊢
  have hcmp := fun W => compare_any a c W
  generalize cmpI a c = z at *
  have hor : ∀ b k W, W.cell? ⟨b, 0, none⟩ = some (.int .i64 z) → W.cell? ⟨b, 1, none⟩ = some (.int .i64 (-1)) → Calls Tryd.prog 58 #[.slice (some ⟨b, 0, none⟩) 2 k] W fun e w' => e = .returned (.int .i64 r) ∧ Below W.heap.size W w' := fun b k W h0 h1 => by
    have h := or2_any z b k W h0 h1
    rwa [hc] at h
  have HOR := Lib.hid hor
  clear hor hc
  go_enter Tryd.func57, Tryd.ntmps57
  go_wp2_with fail
  refine (hcmp _).mono ?_
  rintro e w1 ⟨rfl, hb1⟩
  have hw : Below w.heap.size w w1 := below_ch (((Below.refl _ _).alloc (Nat.le_refl _) _).alloc (by simp) _) hb1
  clear hb1 hcmp
  go_wp2_with fail
  refine (HOR.out _ _ _ ?_ ?_).mono ?_
  · exact (Box.new w1 [_, _] _).cell rfl
  · exact (Box.new w1 [_, _] _).cell rfl
  rintro e w2 ⟨rfl, hb2⟩
  go_wp2_with fail
  go_ret
  exact ⟨rfl, below_ch (below_ch hw ((Below.refl _ _).alloc (Nat.le_refl _) _)) hb2⟩

theorem risesB_iff : ∀ {l : Lv}, risesB l = true ↔ ∀ (k : Nat) (p q : Int × Int), l[k]? = some p → l[k + 1]? = some q → p.1 < q.1
  | [] => by simp [risesB]
  | [x] => by simp [risesB]
  | x :: y :: r => by
    simp only [risesB, Bool.and_eq_true, decide_eq_true_eq, risesB_iff (l := y :: r)]
    constructor
    · rintro ⟨h1, h2⟩ k p q hp hq
      cases k with
      | zero =>
        simp at hp hq
        subst hp hq
        exact h1
      | succ k => exact h2 k p q (by simpa using hp) (by simpa using hq)
    · intro h
      exact ⟨h 0 x y rfl rfl, fun k p q hp hq => h (k + 1) p q (by simpa using hp) (by simpa using hq)⟩

set_option maxRecDepth 100000 in
theorem sorted_any (l : Lv) (v : Value) (w : World) (hv : RPv w l v) : Calls Tryd.prog 56 #[v, .func (.func 57) #[] #[]] w
    fun e w' => e = .returned (.bool (risesB l)) ∧ Below w.heap.size w w' := by
  obtain ⟨A, c, rfl, hc, hm, hx⟩ := hv
  generalize hnn : l.length = n at *
  have HN := Lib.hid hnn
  have HX := Lib.hid hx
  clear hnn hx
  have hsub : IntKind.i64.wrap ((n : Int) + -1) = (n : Int) - 1 := IntWalk.i64_in _ (by omega)
  have hsub' : IntKind.i64.wrap ((n : Int) - 1) = (n : Int) - 1 := IntWalk.i64_in _ (by omega)
  go_enter Tryd.func56, Tryd.ntmps56
  go_wp2_with fail
  clear hsub hsub'
  go_loopw [5] (fun i wr => ∃ j : Int, -1 ≤ j ∧ j < n ∧ i = .int .i64 j ∧ Hid (∀ (k : Nat) p q, j ≤ (k : Int) → l[k]? = some p → l[k + 1]? = some q → p.1 < q.1) ∧ Below w.heap.size w wr) (fun i _ => (intOf i).toNat)
  case atStart =>
    refine ⟨(n : Int) - 1, by omega, by omega, by go_num, fun k p q hk hp hq => ?_, Below.refl _ _⟩
    have := (List.getElem?_eq_some_iff.1 hq).1
    have := HN.out
    omega
  case round =>
    obtain ⟨j, hj0, hj, rfl, hp, hb⟩ := hrel
    by_cases hlt : 0 < j
    · obtain ⟨m, rfl⟩ : ∃ m : Nat, j = ((m + 1 : Nat) : Int) := ⟨(j - 1).toNat, by omega⟩
      obtain ⟨b, o, rfl, hc⟩ := HX.out (by omega)
      obtain ⟨p, hpm⟩ : ∃ p, l[m + 1]? = some p := ⟨_, List.getElem?_eq_getElem (by have := HN.out; omega)⟩
      obtain ⟨q, hqm⟩ : ∃ q, l[m]? = some q := ⟨_, List.getElem?_eq_getElem (by have := HN.out; omega)⟩
      obtain ⟨p1, p2⟩ := (hc.below hb).get hpm
      obtain ⟨q1, q2⟩ := (hc.below hb).get hqm
      have hcall := fun W => pair_any p q W
      have hs : IntKind.i64.wrap (((m + 1 : Nat) : Int) + -1) = (m : Int) := (IntWalk.i64_in _ (by omega)).trans (by omega)
      have hs' : IntKind.i64.wrap (((m + 1 : Nat) : Int) - 1) = (m : Int) := (IntWalk.i64_in _ (by omega)).trans (by omega)
      have hm0 : (0 : Int) ≤ (m : Int) := by omega
      have hm1 : (m : Int) < (n : Int) := by omega
      have hm2 : (0 : Int) ≤ ((m + 1 : Nat) : Int) := by omega
      have HP := Lib.hid hpm
      have HQ := Lib.hid hqm
      obtain ⟨pv, pp⟩ := p
      obtain ⟨qv, qp⟩ := q
      simp only at p1 p2 q1 q2 hcall
      clear hpm hqm HX hc
      generalize hcast : ((m + 1 : Nat) : Int) = M at *
      have hM : M.toNat = m + 1 := by omega
      have HCA := Lib.hid hcast
      clear hcast
      by_cases hqp : qv < pv
      · simp only [if_pos hqp] at hcall
        have HC := Lib.hid hcall
        have HQP := Lib.hid hqp
        clear hcall hqp
        go_upto_region 4 with fail
        go_region_held3 (fun w' => w'.cell? ⟨b, o + (m + 1) * 2, none⟩ = some (.int .i64 pv) ∧ w'.cell? ⟨b, o + (m + 1) * 2 + 1, none⟩ = some (.int .i64 pp) ∧ w'.cell? ⟨b, o + m * 2, none⟩ = some (.int .i64 qv) ∧ w'.cell? ⟨b, o + m * 2 + 1, none⟩ = some (.int .i64 qp))
          (first
            | assumption
            | exact ⟨p1, p2, q1, q2⟩
            | exact ⟨cell_below hbx p1, cell_below hbx p2, cell_below hbx q1, cell_below hbx q2⟩)
          (first
            | (go_at_call 57
               refine (HC.out _).mono ?_
               rintro e wx ⟨rfl, hbx⟩))
        have HB : Hid (Below w.heap.size w wx) := below_ch (below_ch hb ((Below.refl _ _).drew)) hbx
        clear hb hbx
        go_wp2_with fail
        go_roundw
        case rel =>
          refine ⟨(m : Int), by omega, by omega, by go_num, fun k p q hk hkp hkq => ?_, HB.out⟩
          by_cases hkm : k = m
          · subst hkm
            have h1 := HP.out
            have h2 := HQ.out
            rw [hkq] at h1
            rw [hkp] at h2
            injection h1 with h1
            injection h2 with h2
            subst h1 h2
            exact HQP.out
          · exact hp.out k p q (by have := HCA.out; omega) hkp hkq
        case measure => simp [intOf]; omega
      · simp only [if_neg hqp] at hcall
        have HC := Lib.hid hcall
        have HQP := Lib.hid hqp
        clear hcall hqp
        go_upto_region 4 with fail
        go_region_held3 (fun w' => w'.cell? ⟨b, o + (m + 1) * 2, none⟩ = some (.int .i64 pv) ∧ w'.cell? ⟨b, o + (m + 1) * 2 + 1, none⟩ = some (.int .i64 pp) ∧ w'.cell? ⟨b, o + m * 2, none⟩ = some (.int .i64 qv) ∧ w'.cell? ⟨b, o + m * 2 + 1, none⟩ = some (.int .i64 qp))
          (first
            | assumption
            | exact ⟨p1, p2, q1, q2⟩
            | exact ⟨cell_below hbx p1, cell_below hbx p2, cell_below hbx q1, cell_below hbx q2⟩)
          (first
            | (go_at_call 57
               refine (HC.out _).mono ?_
               rintro e wx ⟨rfl, hbx⟩))
        have HB : Hid (Below w.heap.size w wx) := below_ch (below_ch hb ((Below.refl _ _).drew)) hbx
        clear hb hbx
        go_wp2_with fail
        go_ret
        refine ⟨ret_bool ?_, HB.out⟩
        have hne : ¬ risesB l = true := fun h => by have h1 := risesB_iff.1 h m _ _ HQ.out HP.out; have h2 := HQP.out; simp only at h1; omega
        simp only [Bool.not_eq_true] at hne
        exact hne.symm
    · have hr : risesB l = true := risesB_iff.2 fun k p q hkp hkq => hp.out k p q (by omega) hkp hkq
      have HR := Lib.hid hr
      clear hr HX
      go_wp2_with fail
      go_ret
      exact ⟨ret_bool HR.out.symm, hb⟩

end Go.Proofs.YtajpkhkfffdclaaDoor
