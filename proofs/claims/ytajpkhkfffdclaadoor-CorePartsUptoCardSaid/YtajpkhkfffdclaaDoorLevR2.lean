/-
  THE WALK OF level.Right, its search.
-/
import Derived.Test.YtajpkhkfffdclaaDoorLevR
namespace Go.Proofs.YtajpkhkfffdclaaDoor
open Go.RowKit
set_option linter.unusedSimpArgs false
set_option linter.unusedVariables false

/-- A part that is out of its bounds. -/
def outP (n : Int) (p : Int × Int) : Bool := decide (p.1 < 0 ∨ n < p.1 ∨ p.2 < 0 ∨ 1000 < p.2)
theorem outP_true {n : Int} {p : Int × Int} (h : p.1 < 0 ∨ n < p.1 ∨ p.2 < 0 ∨ 1000 < p.2) : outP n p = true := decide_eq_true h
theorem outP_false {n : Int} {p : Int × Int} (h : ¬ (p.1 < 0 ∨ n < p.1 ∨ p.2 < 0 ∨ 1000 < p.2)) : outP n p = false := decide_eq_false h

set_option maxRecDepth 100000 in
theorem part_any (n x y : Int) (b : Nat) (w : World) (hn : w.cell? ⟨b, 0, none⟩ = some (.int .i64 n)) : Calls Tryd.prog 61 #[.agg #[.int .i64 x, .int .i64 y], .pointer (some ⟨b, 0, none⟩)] w fun e w' => e = .returned (.bool (outP n (x, y))) ∧ Below w.heap.size w w' := by
  obtain ⟨r, hr⟩ : ∃ r, outP n (x, y) = r := ⟨_, rfl⟩
  rw [hr]
  have hlt := cell_lt hn
  have hn1 : ∀ o, (w.alloc o).cell? ⟨b, 0, none⟩ = some (.int .i64 n) := fun o => cell_below ((Below.refl _ _).alloc (Nat.le_refl _) o) hn
  by_cases h1 : x < 0
  · obtain rfl : r = true := hr.symm.trans (outP_true (.inl h1))
    clear hr
    go_enter Tryd.func61, Tryd.ntmps61
    go_wp2_with fail
    go_ret
    exact ⟨rfl, (Below.refl _ _).alloc (Nat.le_refl _) _⟩
  by_cases h2 : n < x
  · obtain rfl : r = true := hr.symm.trans (outP_true (.inr (.inl h2)))
    clear hr
    go_enter Tryd.func61, Tryd.ntmps61
    go_wp2_with fail
    go_ret
    exact ⟨rfl, (Below.refl _ _).alloc (Nat.le_refl _) _⟩
  by_cases h3 : y < 0
  · obtain rfl : r = true := hr.symm.trans (outP_true (.inr (.inr (.inl h3))))
    clear hr
    go_enter Tryd.func61, Tryd.ntmps61
    go_wp2_with fail
    go_ret
    exact ⟨rfl, (Below.refl _ _).alloc (Nat.le_refl _) _⟩
  by_cases h4 : 1000 < y
  · obtain rfl : r = true := hr.symm.trans (outP_true (.inr (.inr (.inr h4))))
    clear hr
    go_enter Tryd.func61, Tryd.ntmps61
    go_wp2_with fail
    go_ret
    exact ⟨rfl, (Below.refl _ _).alloc (Nat.le_refl _) _⟩
  · obtain rfl : r = false := hr.symm.trans (outP_false (fun h => by simp only at h; omega))
    clear hr
    go_enter Tryd.func61, Tryd.ntmps61
    go_wp2_with fail
    go_ret
    exact ⟨rfl, (Below.refl _ _).alloc (Nat.le_refl _) _⟩

/-- A search's answer. -/
def FoundP (p : Bool) (w : World) (e : Ending) (w' : World) : Prop := ∃ r : Int, e = .returned (.int .i64 r) ∧ (if p then 0 ≤ r else r = -1) ∧ Below w.heap.size w w'

set_option maxRecDepth 100000 in
theorem indexP_any (l : Lv) (m : Int) (nb : Nat) (v : Value) (w : World) (hv : RPv w l v) (hnb : w.cell? ⟨nb, 0, none⟩ = some (.int .i64 m)) :
    Calls Tryd.prog 96 #[v, .func (.func 61) #[] #[.pointer (some ⟨nb, 0, none⟩)]] w (FoundP (l.any (outP m)) w) := by
  obtain ⟨A, c, rfl, hc, hm, hx⟩ := hv
  generalize hnn : l.length = n at *
  have HN := Lib.hid hnn
  have HX := Lib.hid hx
  have HL : Hid (∀ (x : Int × Int) W, Below w.heap.size w W → Calls Tryd.prog 61 #[.agg #[.int .i64 x.1, .int .i64 x.2], .pointer (some ⟨nb, 0, none⟩)] W fun e w' => e = .returned (.bool (outP m x)) ∧ Below W.heap.size W w') :=
    Lib.hid fun x W hW => part_any m x.1 x.2 nb W (cell_below hW hnb)
  clear hnn hx hnb
  go_enter Tryd.func96, Tryd.ntmps96
  go_wp2_with fail
  go_loopw [5, 8] (fun _ i wr => ∃ (j : Nat), j ≤ n ∧ i = .int .i64 j ∧ Hid (l.any (outP m) = (l.drop j).any (outP m)) ∧ Below w.heap.size w wr) (fun _ i _ => n - (intOf i).toNat)
  case atStart => exact ⟨0, Nat.zero_le _, rfl, rfl, Below.refl _ _⟩
  case round =>
    obtain ⟨j, hj, rfl, hp, hb⟩ := hrel
    by_cases hlt : j < n
    · obtain ⟨b, o, rfl, hc⟩ := HX.out (by omega)
      obtain ⟨x, hxj⟩ : ∃ x, l[j]? = some x := ⟨_, List.getElem?_eq_getElem (by have := HN.out; omega)⟩
      obtain ⟨c1, c2⟩ := (hc.below hb).get hxj
      have hcall := HL.out x wr hb
      have hlt' : (j : Int) < (n : Int) := by omega
      have hj0 : (0 : Int) ≤ (j : Int) := by omega
      have hd := any_dropB (f := outP m) hxj
      have HD := Lib.hid (hp.out.trans hd)
      clear hc hd hxj HX HL
      obtain ⟨xv, xp⟩ := x
      simp only at c1 c2 hcall
      generalize hbx : outP m (xv, xp) = bx at *
      clear hbx
      cases bx with
      | true =>
        go_wp2_with fail
        refine hcall.mono ?_
        rintro e w1 ⟨rfl, hb1⟩
        have HB := hb.trans (hb1.mono hb.size)
        clear hb1 hcall
        go_wp2_with fail
        go_ret
        exact ⟨j, rfl, by rw [HD.out, Bool.true_or, if_pos rfl]; omega, HB⟩
      | false =>
        go_wp2_with fail
        refine hcall.mono ?_
        rintro e w1 ⟨rfl, hb1⟩
        have HB := hb.trans (hb1.mono hb.size)
        clear hb1 hcall
        go_wp2_with fail
        go_roundw
        case rel => exact ⟨j + 1, by omega, by go_num, by have := HD.out; rwa [Bool.false_or] at this, HB⟩
        case measure => simp [intOf]; omega
    · obtain rfl : j = n := by omega
      have hd : l.any (outP m) = false := by rw [hp.out, List.drop_of_length_le (by have := HN.out; omega)]; rfl
      have HD := Lib.hid hd
      clear hd HX HL
      go_wp2_with fail
      go_ret
      exact ⟨-1, rfl, by rw [HD.out, if_neg (by simp)], hb⟩

theorem containsP_any (l : Lv) (m : Int) (nb : Nat) (v : Value) (w : World) (hv : RPv w l v) (hnb : w.cell? ⟨nb, 0, none⟩ = some (.int .i64 m)) :
    Calls Tryd.prog 60 #[v, .func (.func 61) #[] #[.pointer (some ⟨nb, 0, none⟩)]] w fun e w' => e = .returned (.bool (l.any (outP m))) ∧ Below w.heap.size w w' := by
  have hcall := indexP_any l m nb v w hv hnb
  generalize l.any (outP m) = p at *
  obtain ⟨A, n, c, rfl⟩ := hv.form
  clear hv hnb
  go_enter Tryd.func60, Tryd.ntmps60
  go_wp2_with fail
  refine hcall.mono ?_
  rintro e w1 ⟨r, rfl, hr, hb⟩
  have HR := Lib.hid hr
  clear hr hcall
  by_cases h0 : 0 ≤ r
  · go_wp2_with fail
    go_ret
    refine ⟨ret_bool ?_, hb⟩
    have := HR.out
    cases p <;> simp_all
    try omega
  · go_wp2_with fail
    go_ret
    refine ⟨ret_bool ?_, hb⟩
    have := HR.out
    cases p <;> simp_all
    try omega

theorem lvRight_is (n : Int) (l : Lv) : lvRight n l = (risesB l && decide ((l.length : Int) ≤ 9) && !l.any (outP n)) := by
  have h : (l.all fun p => decide (0 ≤ p.1 ∧ p.1 ≤ n ∧ 0 ≤ p.2 ∧ p.2 ≤ 1000)) = !l.any (outP n) := by
    have hp : ∀ p : Int × Int, decide (0 ≤ p.1 ∧ p.1 ≤ n ∧ 0 ≤ p.2 ∧ p.2 ≤ 1000) = !outP n p := fun p => by
      unfold outP
      by_cases h : 0 ≤ p.1 ∧ p.1 ≤ n ∧ 0 ≤ p.2 ∧ p.2 ≤ 1000
      · rw [decide_eq_true h, decide_eq_false (by omega)]; rfl
      · rw [decide_eq_false h, decide_eq_true (by omega)]; rfl
    simp only [hp]
    induction l with
    | nil => rfl
    | cons x r ih => simp [ih]
  have h9 : decide (l.length ≤ 9) = decide ((l.length : Int) ≤ 9) := decide_eq_decide.2 (by omega)
  rw [lvRight, h, h9]

set_option maxRecDepth 100000 in
theorem lright_any (n : Int) (l : Lv) (v : Value) (w : World) (hv : RPv w l v) : Calls Tryd.prog 26 #[.agg #[v], .int .i64 n] w fun e w' => e = .returned (.bool (lvRight n l)) ∧ Below w.heap.size w w' := by
  rw [lvRight_is]
  obtain ⟨A, c, rfl, h1, h2, h3⟩ := hv
  have HV : Hid (RPv w l (.slice A l.length c)) := ⟨A, c, rfl, h1, h2, h3⟩
  clear h3
  have hsort := fun W (h : RPv W l (.slice A l.length c)) => sorted_any l _ W h
  have hcont := fun m W b (h : RPv W l (.slice A l.length c)) => containsP_any l m b _ W h
  have HS := Lib.hid hsort
  have HC := Lib.hid hcont
  clear hsort hcont
  generalize hnn : l.length = N at *
  clear hnn
  generalize risesB l = r at *
  go_enter Tryd.func26, Tryd.ntmps26
  go_wp2_with fail
  refine (HS.out _ ?_).mono ?_
  · exact RPv.below ((Below.refl _ _).alloc (by simp) _) (RPv.below ((Below.refl _ _).alloc (Nat.le_refl _) _) HV.out)
  rintro e w1 ⟨rfl, hb1⟩
  have B0 : Box ((w.alloc (.cells #[.slice A N c] 46)).alloc (.cells #[.int .i64 n] 3)) w.heap.size [.slice A N c] := (Box.new w [_] _).alloc _
  have B1 : Box ((w.alloc (.cells #[.slice A N c] 46)).alloc (.cells #[.int .i64 n] 3)) (w.heap.size + 1) [.int .i64 n] := Box.new' _ [_] _ (by simp)
  have hw : Below w.heap.size w w1 := below_ch (((Below.refl _ _).alloc (Nat.le_refl _) _).alloc (by simp) _) hb1
  have c0 := (B0.below hb1).cell (j := 0) rfl
  have c1 := (B1.below hb1).cell (j := 0) rfl
  clear B0 B1 hb1
  have HV1 : Hid (RPv w1 l (.slice A N c)) := RPv.below hw HV.out
  have HW := Lib.hid hw
  clear hw
  cases r
  · go_wp2_with fail
    go_ret
    exact ⟨rfl, HW.out⟩
  by_cases h9 : (N : Int) ≤ 9
  · have hcall := HC.out n w1 _ HV1.out c1
    go_wp2_with fail
    refine hcall.mono ?_
    rintro e w2 ⟨rfl, hb2⟩
    have HB := Lib.hid (below_ch HW.out hb2)
    clear hb2 hcall
    go_wp2_with fail
    go_ret
    exact ⟨by rw [decide_eq_true h9]; rfl, HB.out⟩
  · go_wp2_with fail
    go_ret
    exact ⟨by rw [decide_eq_false (by omega : ¬ (N : Int) ≤ 9)]; rfl, HW.out⟩

end Go.Proofs.YtajpkhkfffdclaaDoor
