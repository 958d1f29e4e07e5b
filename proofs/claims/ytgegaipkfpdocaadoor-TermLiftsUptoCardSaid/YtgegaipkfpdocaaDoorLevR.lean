/-
  THE WALK OF level.Right.
  THE WALK OF level.Right, its search.
-/
import Derived.Test.YtgegaipkfpdocaaDoorMust
import Derived.Deep.DeepCutAuto
import Derived.Deep.Light
namespace Go.Proofs.YtgegaipkfpdocaaDoor
open Go.RowKit
set_option linter.unusedSimpArgs false
set_option linter.unusedVariables false

theorem notnan_any (x : Int) (w : World) : Calls Tryd.prog 70 #[.int .i64 x] w fun e w' => e = .returned (.bool false) ∧ w' = w := by
  go_enter Tryd.func70, Tryd.ntmps70
  go_wp2_with fail
  go_ret
  exact ⟨rfl, rfl⟩

set_option maxRecDepth 100000
/-- cmp.Compare of two ints. -/
def cmpI (x y : Int) : Int := if x < y then -1 else if y < x then 1 else 0
theorem compare_any (x y : Int) (w : World) : Calls Tryd.prog 37 #[.int .i64 x, .int .i64 y] w fun e w' => e = .returned (.int .i64 (cmpI x y)) ∧ Below w.heap.size w w' := by
  unfold cmpI
  by_cases h1 : x < y
  · rw [if_pos h1]
    go_enter Tryd.func37, Tryd.ntmps37
    go_wp2_with fail
    refine (notnan_any _ _).mono ?_
    rintro e wx ⟨rfl, rfl⟩
    go_wp2_with fail
    refine (notnan_any _ _).mono ?_
    rintro e wx ⟨rfl, rfl⟩
    go_wp2_with fail
    go_ret
    exact ⟨rfl, Below.refl _ _⟩
  · rw [if_neg h1]
    by_cases h2 : y < x
    · rw [if_pos h2]
      go_enter Tryd.func37, Tryd.ntmps37
      go_wp2_with fail
      refine (notnan_any _ _).mono ?_
      rintro e wx ⟨rfl, rfl⟩
      go_wp2_with fail
      refine (notnan_any _ _).mono ?_
      rintro e wx ⟨rfl, rfl⟩
      go_wp2_with fail
      go_ret
      exact ⟨rfl, Below.refl _ _⟩
    · rw [if_neg h2]
      go_enter Tryd.func37, Tryd.ntmps37
      go_wp2_with fail
      refine (notnan_any _ _).mono ?_
      rintro e wx ⟨rfl, rfl⟩
      go_wp2_with fail
      refine (notnan_any _ _).mono ?_
      rintro e wx ⟨rfl, rfl⟩
      go_wp2_with fail
      go_ret
      exact ⟨rfl, Below.refl _ _⟩

theorem or2_any (x : Int) (b c : Nat) (w : World) (h0 : w.cell? ⟨b, 0, none⟩ = some (.int .i64 x)) (h1 : w.cell? ⟨b, 1, none⟩ = some (.int .i64 (-1))) :
    Calls Tryd.prog 36 #[.slice (some ⟨b, 0, none⟩) 2 c] w fun e w' => e = .returned (.int .i64 (if x = 0 then -1 else x)) ∧ Below w.heap.size w w' := by
  by_cases hx : x = 0
  · subst hx
    rw [if_pos rfl]
    go_enter Tryd.func36, Tryd.ntmps36
    go_wp2_with fail
    go_loopw [5, 8] (fun _ i wr => ∃ (j : Nat), j ≤ 1 ∧ i = .int .i64 j ∧ wr = w) (fun _ i _ => 2 - (intOf i).toNat)
    case atStart => exact ⟨0, by omega, rfl, rfl⟩
    case round =>
      obtain ⟨j, hj, rfl, rfl⟩ := hrel
      match j, hj with
      | 0, _ =>
        go_wp2_with fail
        go_roundw
        case rel => exact ⟨1, by omega, by go_num, by simp⟩
        case measure => simp [intOf]
      | 1, _ =>
        go_wp2_with fail
        go_ret
        exact ⟨rfl, Below.refl _ _⟩
  · rw [if_neg hx]
    go_enter Tryd.func36, Tryd.ntmps36
    go_wp2_with fail
    go_loopw [5, 8] (fun _ i wr => i = .int .i64 0 ∧ wr = w) (fun _ i _ => 0)
    case atStart => exact ⟨rfl, rfl⟩
    case round =>
      obtain ⟨rfl, rfl⟩ := hrel
      go_wp2_with fail
      go_ret
      exact ⟨rfl, Below.refl _ _⟩

/-- How level.Right asks two neighbours. -/
theorem pair_any (p q : Int × Int) (w : World) : Calls Tryd.prog 35 #[.agg #[.int .i64 p.1, .int .i64 p.2], .agg #[.int .i64 q.1, .int .i64 q.2]] w
    fun e w' => e = .returned (.int .i64 (if q.1 < p.1 then 1 else -1)) ∧ Below w.heap.size w w' := by
  have hc : (if cmpI p.1 q.1 = 0 then -1 else cmpI p.1 q.1) = (if q.1 < p.1 then (1 : Int) else -1) := by
    unfold cmpI
    by_cases h1 : p.1 < q.1
    · simp [h1]; omega
    · by_cases h2 : q.1 < p.1 <;> simp [h1, h2]
  generalize (if q.1 < p.1 then (1 : Int) else -1) = r at *
  obtain ⟨a, b⟩ := p
  obtain ⟨c, d⟩ := q
  simp only at hc ⊢
  have hcmp := fun W => compare_any a c W
  generalize cmpI a c = z at *
  have hor : ∀ b k W, W.cell? ⟨b, 0, none⟩ = some (.int .i64 z) → W.cell? ⟨b, 1, none⟩ = some (.int .i64 (-1)) → Calls Tryd.prog 36 #[.slice (some ⟨b, 0, none⟩) 2 k] W fun e w' => e = .returned (.int .i64 r) ∧ Below W.heap.size W w' := fun b k W h0 h1 => by
    have h := or2_any z b k W h0 h1
    rwa [hc] at h
  have HOR := Lib.hid hor
  clear hor hc
  go_enter Tryd.func35, Tryd.ntmps35
  go_wp2_with fail
  refine (hcmp _).mono ?_
  rintro e w1 ⟨rfl, hb1⟩
  have hw : Below w.heap.size w w1 := below_ch (((Below.refl _ _).alloc (Nat.le_refl _) _).alloc (by simp) _) hb1
  clear hb1 hcmp
  go_wp2_with fail
  refine (HOR.out _ _ _ ?_ ?_).mono ?_
  · exact (Box.new w1 [_, _] _).cell rfl
  · exact (Box.new w1 [_, _] _).cell rfl
  rintro e w2 ⟨rfl, hb2⟩
  go_wp2_with fail
  go_ret
  exact ⟨rfl, below_ch (below_ch hw ((Below.refl _ _).alloc (Nat.le_refl _) _)) hb2⟩

theorem risesB_iff : ∀ {l : Lv}, risesB l = true ↔ ∀ (k : Nat) (p q : Int × Int), l[k]? = some p → l[k + 1]? = some q → p.1 < q.1
  | [] => by simp [risesB]
  | [x] => by simp [risesB]
  | x :: y :: r => by
    simp only [risesB, Bool.and_eq_true, decide_eq_true_eq, risesB_iff (l := y :: r)]
    constructor
    · rintro ⟨h1, h2⟩ k p q hp hq
      cases k with
      | zero =>
        simp at hp hq
        subst hp hq
        exact h1
      | succ k => exact h2 k p q (by simpa using hp) (by simpa using hq)
    · intro h
      exact ⟨h 0 x y rfl rfl, fun k p q hp hq => h (k + 1) p q (by simpa using hp) (by simpa using hq)⟩

set_option maxRecDepth 100000 in
theorem sorted_any (l : Lv) (v : Value) (w : World) (hv : RPv w l v) : Calls Tryd.prog 34 #[v, .func (.func 35) #[] #[]] w
    fun e w' => e = .returned (.bool (risesB l)) ∧ Below w.heap.size w w' := by
  obtain ⟨A, c, rfl, hc, hm, hx⟩ := hv
  generalize hnn : l.length = n at *
  have HN := Lib.hid hnn
  have HX := Lib.hid hx
  clear hnn hx
  have hsub : IntKind.i64.wrap ((n : Int) + -1) = (n : Int) - 1 := IntWalk.i64_in _ (by omega)
  have hsub' : IntKind.i64.wrap ((n : Int) - 1) = (n : Int) - 1 := IntWalk.i64_in _ (by omega)
  go_enter Tryd.func34, Tryd.ntmps34
  go_wp2_with fail
  clear hsub hsub'
  go_loopw [5] (fun i wr => ∃ j : Int, -1 ≤ j ∧ j < n ∧ i = .int .i64 j ∧ Hid (∀ (k : Nat) p q, j ≤ (k : Int) → l[k]? = some p → l[k + 1]? = some q → p.1 < q.1) ∧ Below w.heap.size w wr) (fun i _ => (intOf i).toNat)
  case atStart =>
    refine ⟨(n : Int) - 1, by omega, by omega, by go_num, fun k p q hk hp hq => ?_, Below.refl _ _⟩
    have := (List.getElem?_eq_some_iff.1 hq).1
    have := HN.out
    omega
  case round =>
    obtain ⟨j, hj0, hj, rfl, hp, hb⟩ := hrel
    by_cases hlt : 0 < j
    · obtain ⟨m, rfl⟩ : ∃ m : Nat, j = ((m + 1 : Nat) : Int) := ⟨(j - 1).toNat, by omega⟩
      obtain ⟨b, o, rfl, hc⟩ := HX.out (by omega)
      obtain ⟨p, hpm⟩ : ∃ p, l[m + 1]? = some p := ⟨_, List.getElem?_eq_getElem (by have := HN.out; omega)⟩
      obtain ⟨q, hqm⟩ : ∃ q, l[m]? = some q := ⟨_, List.getElem?_eq_getElem (by have := HN.out; omega)⟩
      obtain ⟨p1, p2⟩ := (hc.below hb).get hpm
      obtain ⟨q1, q2⟩ := (hc.below hb).get hqm
      have hcall := fun W => pair_any p q W
      have hs : IntKind.i64.wrap (((m + 1 : Nat) : Int) + -1) = (m : Int) := (IntWalk.i64_in _ (by omega)).trans (by omega)
      have hs' : IntKind.i64.wrap (((m + 1 : Nat) : Int) - 1) = (m : Int) := (IntWalk.i64_in _ (by omega)).trans (by omega)
      have hm0 : (0 : Int) ≤ (m : Int) := by omega
      have hm1 : (m : Int) < (n : Int) := by omega
      have hm2 : (0 : Int) ≤ ((m + 1 : Nat) : Int) := by omega
      have HP := Lib.hid hpm
      have HQ := Lib.hid hqm
      obtain ⟨pv, pp⟩ := p
      obtain ⟨qv, qp⟩ := q
      simp only at p1 p2 q1 q2 hcall
      clear hpm hqm HX hc
      generalize hcast : ((m + 1 : Nat) : Int) = M at *
      have hM : M.toNat = m + 1 := by omega
      have HCA := Lib.hid hcast
      clear hcast
      by_cases hqp : qv < pv
      · simp only [if_pos hqp] at hcall
        have HC := Lib.hid hcall
        have HQP := Lib.hid hqp
        clear hcall hqp
        go_upto_region 4 with fail
        go_region_held3 (fun w' => w'.cell? ⟨b, o + (m + 1) * 2, none⟩ = some (.int .i64 pv) ∧ w'.cell? ⟨b, o + (m + 1) * 2 + 1, none⟩ = some (.int .i64 pp) ∧ w'.cell? ⟨b, o + m * 2, none⟩ = some (.int .i64 qv) ∧ w'.cell? ⟨b, o + m * 2 + 1, none⟩ = some (.int .i64 qp))
          (first
            | assumption
            | exact ⟨p1, p2, q1, q2⟩
            | exact ⟨cell_below hbx p1, cell_below hbx p2, cell_below hbx q1, cell_below hbx q2⟩)
          (first
            | (go_at_call 35
               refine (HC.out _).mono ?_
               rintro e wx ⟨rfl, hbx⟩))
        have HB : Hid (Below w.heap.size w wx) := below_ch (below_ch hb ((Below.refl _ _).drew)) hbx
        clear hb hbx
        go_wp2_with fail
        go_roundw
        case rel =>
          refine ⟨(m : Int), by omega, by omega, by go_num, fun k p q hk hkp hkq => ?_, HB.out⟩
          by_cases hkm : k = m
          · subst hkm
            have h1 := HP.out
            have h2 := HQ.out
            rw [hkq] at h1
            rw [hkp] at h2
            injection h1 with h1
            injection h2 with h2
            subst h1 h2
            exact HQP.out
          · exact hp.out k p q (by have := HCA.out; omega) hkp hkq
        case measure => simp [intOf]; omega
      · simp only [if_neg hqp] at hcall
        have HC := Lib.hid hcall
        have HQP := Lib.hid hqp
        clear hcall hqp
        go_upto_region 4 with fail
        go_region_held3 (fun w' => w'.cell? ⟨b, o + (m + 1) * 2, none⟩ = some (.int .i64 pv) ∧ w'.cell? ⟨b, o + (m + 1) * 2 + 1, none⟩ = some (.int .i64 pp) ∧ w'.cell? ⟨b, o + m * 2, none⟩ = some (.int .i64 qv) ∧ w'.cell? ⟨b, o + m * 2 + 1, none⟩ = some (.int .i64 qp))
          (first
            | assumption
            | exact ⟨p1, p2, q1, q2⟩
            | exact ⟨cell_below hbx p1, cell_below hbx p2, cell_below hbx q1, cell_below hbx q2⟩)
          (first
            | (go_at_call 35
               refine (HC.out _).mono ?_
               rintro e wx ⟨rfl, hbx⟩))
        have HB : Hid (Below w.heap.size w wx) := below_ch (below_ch hb ((Below.refl _ _).drew)) hbx
        clear hb hbx
        go_wp2_with fail
        go_ret
        refine ⟨ret_bool ?_, HB.out⟩
        have hne : ¬ risesB l = true := fun h => by have h1 := risesB_iff.1 h m _ _ HQ.out HP.out; have h2 := HQP.out; simp only at h1; omega
        simp only [Bool.not_eq_true] at hne
        exact hne.symm
    · have hr : risesB l = true := risesB_iff.2 fun k p q hkp hkq => hp.out k p q (by omega) hkp hkq
      have HR := Lib.hid hr
      clear hr HX
      go_wp2_with fail
      go_ret
      exact ⟨ret_bool HR.out.symm, hb⟩

open Go.RowKit
set_option linter.unusedSimpArgs false
set_option linter.unusedVariables false

/-- A part that is out of its bounds. -/
def outP (n : Int) (p : Int × Int) : Bool := decide (p.1 < 0 ∨ n < p.1 ∨ p.2 < 0 ∨ 1000 < p.2)
theorem outP_true {n : Int} {p : Int × Int} (h : p.1 < 0 ∨ n < p.1 ∨ p.2 < 0 ∨ 1000 < p.2) : outP n p = true := decide_eq_true h
theorem outP_false {n : Int} {p : Int × Int} (h : ¬ (p.1 < 0 ∨ n < p.1 ∨ p.2 < 0 ∨ 1000 < p.2)) : outP n p = false := decide_eq_false h

set_option maxRecDepth 100000 in
theorem part_any (n x y : Int) (b : Nat) (w : World) (hn : w.cell? ⟨b, 0, none⟩ = some (.int .i64 n)) : Calls Tryd.prog 39 #[.agg #[.int .i64 x, .int .i64 y], .pointer (some ⟨b, 0, none⟩)] w fun e w' => e = .returned (.bool (outP n (x, y))) ∧ Below w.heap.size w w' := by
  obtain ⟨r, hr⟩ : ∃ r, outP n (x, y) = r := ⟨_, rfl⟩
  rw [hr]
  have hlt := cell_lt hn
  have hn1 : ∀ o, (w.alloc o).cell? ⟨b, 0, none⟩ = some (.int .i64 n) := fun o => cell_below ((Below.refl _ _).alloc (Nat.le_refl _) o) hn
  by_cases h1 : x < 0
  · obtain rfl : r = true := hr.symm.trans (outP_true (.inl h1))
    clear hr
    go_enter Tryd.func39, Tryd.ntmps39
    go_wp2_with fail
    go_ret
    exact ⟨rfl, (Below.refl _ _).alloc (Nat.le_refl _) _⟩
  by_cases h2 : n < x
  · obtain rfl : r = true := hr.symm.trans (outP_true (.inr (.inl h2)))
    clear hr
    go_enter Tryd.func39, Tryd.ntmps39
    go_wp2_with fail
    go_ret
    exact ⟨rfl, (Below.refl _ _).alloc (Nat.le_refl _) _⟩
  by_cases h3 : y < 0
  · obtain rfl : r = true := hr.symm.trans (outP_true (.inr (.inr (.inl h3))))
    clear hr
    go_enter Tryd.func39, Tryd.ntmps39
    go_wp2_with fail
    go_ret
    exact ⟨rfl, (Below.refl _ _).alloc (Nat.le_refl _) _⟩
  by_cases h4 : 1000 < y
  · obtain rfl : r = true := hr.symm.trans (outP_true (.inr (.inr (.inr h4))))
    clear hr
    go_enter Tryd.func39, Tryd.ntmps39
    go_wp2_with fail
    go_ret
    exact ⟨rfl, (Below.refl _ _).alloc (Nat.le_refl _) _⟩
  · obtain rfl : r = false := hr.symm.trans (outP_false (fun h => by simp only at h; omega))
    clear hr
    go_enter Tryd.func39, Tryd.ntmps39
    go_wp2_with fail
    go_ret
    exact ⟨rfl, (Below.refl _ _).alloc (Nat.le_refl _) _⟩

/-- A search's answer. -/
def FoundP (p : Bool) (w : World) (e : Ending) (w' : World) : Prop := ∃ r : Int, e = .returned (.int .i64 r) ∧ (if p then 0 ≤ r else r = -1) ∧ Below w.heap.size w w'

set_option maxRecDepth 100000 in
theorem indexP_any (l : Lv) (m : Int) (nb : Nat) (v : Value) (w : World) (hv : RPv w l v) (hnb : w.cell? ⟨nb, 0, none⟩ = some (.int .i64 m)) :
    Calls Tryd.prog 71 #[v, .func (.func 39) #[] #[.pointer (some ⟨nb, 0, none⟩)]] w (FoundP (l.any (outP m)) w) := by
  obtain ⟨A, c, rfl, hc, hm, hx⟩ := hv
  generalize hnn : l.length = n at *
  have HN := Lib.hid hnn
  have HX := Lib.hid hx
  have HL : Hid (∀ (x : Int × Int) W, Below w.heap.size w W → Calls Tryd.prog 39 #[.agg #[.int .i64 x.1, .int .i64 x.2], .pointer (some ⟨nb, 0, none⟩)] W fun e w' => e = .returned (.bool (outP m x)) ∧ Below W.heap.size W w') :=
    Lib.hid fun x W hW => part_any m x.1 x.2 nb W (cell_below hW hnb)
  clear hnn hx hnb
  go_enter Tryd.func71, Tryd.ntmps71
  go_wp2_with fail
  go_loopw [5, 8] (fun _ i wr => ∃ (j : Nat), j ≤ n ∧ i = .int .i64 j ∧ Hid (l.any (outP m) = (l.drop j).any (outP m)) ∧ Below w.heap.size w wr) (fun _ i _ => n - (intOf i).toNat)
  case atStart => exact ⟨0, Nat.zero_le _, rfl, rfl, Below.refl _ _⟩
  case round =>
    obtain ⟨j, hj, rfl, hp, hb⟩ := hrel
    by_cases hlt : j < n
    · obtain ⟨b, o, rfl, hc⟩ := HX.out (by omega)
      obtain ⟨x, hxj⟩ : ∃ x, l[j]? = some x := ⟨_, List.getElem?_eq_getElem (by have := HN.out; omega)⟩
      obtain ⟨c1, c2⟩ := (hc.below hb).get hxj
      have hcall := HL.out x wr hb
      have hlt' : (j : Int) < (n : Int) := by omega
      have hj0 : (0 : Int) ≤ (j : Int) := by omega
      have hd := any_dropB (f := outP m) hxj
      have HD := Lib.hid (hp.out.trans hd)
      clear hc hd hxj HX HL
      obtain ⟨xv, xp⟩ := x
      simp only at c1 c2 hcall
      generalize hbx : outP m (xv, xp) = bx at *
      clear hbx
      cases bx with
      | true =>
        go_wp2_with fail
        refine hcall.mono ?_
        rintro e w1 ⟨rfl, hb1⟩
        have HB := hb.trans (hb1.mono hb.size)
        clear hb1 hcall
        go_wp2_with fail
        go_ret
        exact ⟨j, rfl, by rw [HD.out, Bool.true_or, if_pos rfl]; omega, HB⟩
      | false =>
        go_wp2_with fail
        refine hcall.mono ?_
        rintro e w1 ⟨rfl, hb1⟩
        have HB := hb.trans (hb1.mono hb.size)
        clear hb1 hcall
        go_wp2_with fail
        go_roundw
        case rel => exact ⟨j + 1, by omega, by go_num, by have := HD.out; rwa [Bool.false_or] at this, HB⟩
        case measure => simp [intOf]; omega
    · obtain rfl : j = n := by omega
      have hd : l.any (outP m) = false := by rw [hp.out, List.drop_of_length_le (by have := HN.out; omega)]; rfl
      have HD := Lib.hid hd
      clear hd HX HL
      go_wp2_with fail
      go_ret
      exact ⟨-1, rfl, by rw [HD.out, if_neg (by simp)], hb⟩

theorem containsP_any (l : Lv) (m : Int) (nb : Nat) (v : Value) (w : World) (hv : RPv w l v) (hnb : w.cell? ⟨nb, 0, none⟩ = some (.int .i64 m)) :
    Calls Tryd.prog 38 #[v, .func (.func 39) #[] #[.pointer (some ⟨nb, 0, none⟩)]] w fun e w' => e = .returned (.bool (l.any (outP m))) ∧ Below w.heap.size w w' := by
  have hcall := indexP_any l m nb v w hv hnb
  generalize l.any (outP m) = p at *
  obtain ⟨A, n, c, rfl⟩ := hv.form
  clear hv hnb
  go_enter Tryd.func38, Tryd.ntmps38
  go_wp2_with fail
  refine hcall.mono ?_
  rintro e w1 ⟨r, rfl, hr, hb⟩
  have HR := Lib.hid hr
  clear hr hcall
  by_cases h0 : 0 ≤ r
  · go_wp2_with fail
    go_ret
    refine ⟨ret_bool ?_, hb⟩
    have := HR.out
    cases p <;> simp_all
    try omega
  · go_wp2_with fail
    go_ret
    refine ⟨ret_bool ?_, hb⟩
    have := HR.out
    cases p <;> simp_all
    try omega

theorem lvRight_is (n : Int) (l : Lv) : lvRight n l = (risesB l && decide ((l.length : Int) ≤ 9) && !l.any (outP n)) := by
  have h : (l.all fun p => decide (0 ≤ p.1 ∧ p.1 ≤ n ∧ 0 ≤ p.2 ∧ p.2 ≤ 1000)) = !l.any (outP n) := by
    have hp : ∀ p : Int × Int, decide (0 ≤ p.1 ∧ p.1 ≤ n ∧ 0 ≤ p.2 ∧ p.2 ≤ 1000) = !outP n p := fun p => by
      unfold outP
      by_cases h : 0 ≤ p.1 ∧ p.1 ≤ n ∧ 0 ≤ p.2 ∧ p.2 ≤ 1000
      · rw [decide_eq_true h, decide_eq_false (by omega)]; rfl
      · rw [decide_eq_false h, decide_eq_true (by omega)]; rfl
    simp only [hp]
    induction l with
    | nil => rfl
    | cons x r ih => simp [ih]
  have h9 : decide (l.length ≤ 9) = decide ((l.length : Int) ≤ 9) := decide_eq_decide.2 (by omega)
  rw [lvRight, h, h9]

set_option maxRecDepth 100000 in
theorem lright_any (n : Int) (l : Lv) (v : Value) (w : World) (hv : RPv w l v) : Calls Tryd.prog 11 #[.agg #[v], .int .i64 n] w fun e w' => e = .returned (.bool (lvRight n l)) ∧ Below w.heap.size w w' := by
  rw [lvRight_is]
  obtain ⟨A, c, rfl, h1, h2, h3⟩ := hv
  have HV : Hid (RPv w l (.slice A l.length c)) := ⟨A, c, rfl, h1, h2, h3⟩
  clear h3
  have hsort := fun W (h : RPv W l (.slice A l.length c)) => sorted_any l _ W h
  have hcont := fun m W b (h : RPv W l (.slice A l.length c)) => containsP_any l m b _ W h
  have HS := Lib.hid hsort
  have HC := Lib.hid hcont
  clear hsort hcont
  generalize hnn : l.length = N at *
  clear hnn
  generalize risesB l = r at *
  go_enter Tryd.func11, Tryd.ntmps11
  go_wp2_with fail
  refine (HS.out _ ?_).mono ?_
  · exact RPv.below ((Below.refl _ _).alloc (by simp) _) (RPv.below ((Below.refl _ _).alloc (Nat.le_refl _) _) HV.out)
  rintro e w1 ⟨rfl, hb1⟩
  have B0 : Box ((w.alloc (.cells #[.slice A N c] 37)).alloc (.cells #[.int .i64 n] 3)) w.heap.size [.slice A N c] := (Box.new w [_] _).alloc _
  have B1 : Box ((w.alloc (.cells #[.slice A N c] 37)).alloc (.cells #[.int .i64 n] 3)) (w.heap.size + 1) [.int .i64 n] := Box.new' _ [_] _ (by simp)
  have hw : Below w.heap.size w w1 := below_ch (((Below.refl _ _).alloc (Nat.le_refl _) _).alloc (by simp) _) hb1
  have c0 := (B0.below hb1).cell (j := 0) rfl
  have c1 := (B1.below hb1).cell (j := 0) rfl
  clear B0 B1 hb1
  have HV1 : Hid (RPv w1 l (.slice A N c)) := RPv.below hw HV.out
  have HW := Lib.hid hw
  clear hw
  cases r
  · go_wp2_with fail
    go_ret
    exact ⟨rfl, HW.out⟩
  by_cases h9 : (N : Int) ≤ 9
  · have hcall := HC.out n w1 _ HV1.out c1
    go_wp2_with fail
    refine hcall.mono ?_
    rintro e w2 ⟨rfl, hb2⟩
    have HB := Lib.hid (below_ch HW.out hb2)
    clear hb2 hcall
    go_wp2_with fail
    go_ret
    exact ⟨by rw [decide_eq_true h9]; rfl, HB.out⟩
  · go_wp2_with fail
    go_ret
    exact ⟨by rw [decide_eq_false (by omega : ¬ (N : Int) ≤ 9)]; rfl, HW.out⟩

end Go.Proofs.YtgegaipkfpdocaaDoor
