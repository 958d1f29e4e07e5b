/-
  THE WALKS OF term.within AND OF THE SEARCHES BELOW term.Right.
-/
import Derived.Test.YtgegaipkfpdocaaDoorPut
namespace Go.Proofs.YtgegaipkfpdocaaDoor
open Go.RowKit

/-- A number that is out of its bounds. -/
def outB (x : Int) : Bool := decide (x < 0 ∨ 1048576 < x)
theorem outB_true {x : Int} (h : x < 0 ∨ 1048576 < x) : outB x = true := decide_eq_true h
theorem outB_false {x : Int} (h : ¬ (x < 0 ∨ 1048576 < x)) : outB x = false := decide_eq_false h

theorem within1_any (x : Int) (w : World) : Calls Tryd.prog 101 #[.int .i64 x] w fun e w' => e = .returned (.bool (outB x)) ∧ w' = w := by
  by_cases h1 : x < 0
  · have HV := Lib.hid (outB_true (x := x) (.inl h1))
    go_enter Tryd.func101, Tryd.ntmps101
    go_wp2_with fail
    go_ret
    exact ⟨ret_bool HV.out.symm, rfl⟩
  · by_cases h2 : 1048576 < x
    · have HV := Lib.hid (outB_true (x := x) (.inr h2))
      go_enter Tryd.func101, Tryd.ntmps101
      go_wp2_with fail
      go_ret
      exact ⟨ret_bool HV.out.symm, rfl⟩
    · have HV := Lib.hid (outB_false (x := x) (fun h => h.elim h1 h2))
      go_enter Tryd.func101, Tryd.ntmps101
      go_wp2_with fail
      go_ret
      exact ⟨ret_bool HV.out.symm, rfl⟩

/-- A search's answer. -/
def Found (p : Bool) (w : World) (e : Ending) (w' : World) : Prop := ∃ r : Int, e = .returned (.int .i64 r) ∧ (if p then 0 ≤ r else r = -1) ∧ Below w.heap.size w w'
theorem any_drop {α : Type} {f : α → Bool} {xs : List α} {j : Nat} {x : α} (h : xs[j]? = some x) : (xs.drop j).any f = (f x || (xs.drop (j + 1)).any f) := by
  obtain ⟨hj, rfl⟩ := List.getElem?_eq_some_iff.1 h
  rw [List.drop_eq_getElem_cons hj, List.any_cons]

set_option maxRecDepth 100000 in
theorem indexI_any (xs : List Int) (A : Option Addr) (c : Nat) (w : World) (hn : xs.length ≤ 1000) (hx : 0 < xs.length → ∃ b o, A = some ⟨b, o, none⟩ ∧ ∀ i x, xs[i]? = some x → w.cell? ⟨b, o + i, none⟩ = some (.int .i64 x)) :
    Calls Tryd.prog 106 #[.slice A xs.length c, .func (.func 101) #[] #[]] w (Found (xs.any outB) w) := by
  generalize hnn : xs.length = n at *
  have HN := Lib.hid hnn
  have HX := Lib.hid hx
  clear hnn hx
  go_enter Tryd.func106, Tryd.ntmps106
  go_wp2_with fail
  go_loopw [5, 8] (fun _ i wr => ∃ (j : Nat), j ≤ n ∧ i = .int .i64 j ∧ Hid (xs.any outB = (xs.drop j).any outB) ∧ wr = w) (fun _ i _ => n - (intOf i).toNat)
  case atStart => exact ⟨0, Nat.zero_le _, rfl, rfl, rfl⟩
  case round =>
    obtain ⟨j, hj, rfl, hp, rfl⟩ := hrel
    by_cases hlt : j < n
    · obtain ⟨b, o, rfl, hc⟩ := HX.out (by omega)
      obtain ⟨x, hxj⟩ : ∃ x, xs[j]? = some x := ⟨_, List.getElem?_eq_getElem (by have := HN.out; omega)⟩
      have hcj := hc j x hxj
      have hcall := fun W => within1_any x W
      have hlt' : (j : Int) < (n : Int) := by omega
      have hj0 : (0 : Int) ≤ (j : Int) := by omega
      have hd := any_drop (f := outB) hxj
      have HD := Lib.hid (hp.out.trans hd)
      clear hc hd hxj HX
      generalize hbx : outB x = bx at *
      cases bx with
      | true =>
        go_wp2_with fail
        refine (hcall _).mono ?_
        rintro e w1 ⟨rfl, rfl⟩
        go_wp2_with fail
        go_ret
        exact ⟨j, rfl, by rw [HD.out, Bool.true_or, if_pos rfl]; omega, Below.refl _ _⟩
      | false =>
        go_wp2_with fail
        refine (hcall _).mono ?_
        rintro e w1 ⟨rfl, rfl⟩
        go_wp2_with fail
        go_roundw
        case rel => exact ⟨j + 1, by omega, by go_num, by have := HD.out; rwa [Bool.false_or] at this, by simp⟩
        case measure => simp [intOf]; omega
    · obtain rfl : j = n := by omega
      have hd : xs.any outB = false := by rw [hp.out, List.drop_of_length_le (by have := HN.out; omega)]; rfl
      have HD := Lib.hid hd
      clear hd HX
      go_wp2_with fail
      go_ret
      exact ⟨-1, rfl, by rw [HD.out, if_neg (by simp)], Below.refl _ _⟩

theorem containsI_any (xs : List Int) (A : Option Addr) (c : Nat) (w : World) (hn : xs.length ≤ 1000) (hx : 0 < xs.length → ∃ b o, A = some ⟨b, o, none⟩ ∧ ∀ i x, xs[i]? = some x → w.cell? ⟨b, o + i, none⟩ = some (.int .i64 x)) :
    Calls Tryd.prog 100 #[.slice A xs.length c, .func (.func 101) #[] #[]] w fun e w' => e = .returned (.bool (xs.any outB)) ∧ Below w.heap.size w w' := by
  have hcall := indexI_any xs A c w hn hx
  generalize xs.any outB = p at *
  generalize xs.length = n at *
  clear hx
  go_enter Tryd.func100, Tryd.ntmps100
  go_wp2_with fail
  refine hcall.mono ?_
  rintro e w1 ⟨r, rfl, hr, hb⟩
  have HR := Lib.hid hr
  clear hr hcall
  by_cases h0 : 0 ≤ r
  · go_wp2_with fail
    go_ret
    refine ⟨ret_bool ?_, hb⟩
    have := HR.out
    cases p <;> simp_all
    try omega
  · go_wp2_with fail
    go_ret
    refine ⟨ret_bool ?_, hb⟩
    have := HR.out
    cases p <;> simp_all
    try omega

theorem within_any (x y : Int) (b : Nat) (c : Nat) (w : World) (hx : w.cell? ⟨b, 0, none⟩ = some (.int .i64 x)) (hy : w.cell? ⟨b, 1, none⟩ = some (.int .i64 y)) :
    Calls Tryd.prog 90 #[.slice (some ⟨b, 0, none⟩) 2 c] w fun e w' => e = .returned (.bool (!(outB x || outB y))) ∧ Below w.heap.size w w' := by
  have hcall := containsI_any [x, y] (some ⟨b, 0, none⟩) c w (by simp) (fun _ => ⟨b, 0, rfl, fun i z hi => by
    match i, hi with
    | 0, hi => simp at hi; subst hi; exact hx
    | 1, hi => simp at hi; subst hi; exact hy
    | i + 2, hi => simp at hi⟩)
  have hp : Hid ([x, y].any outB = (outB x || outB y)) := by simp [Hid]
  have hv : ([x, y].any outB) = (outB x || outB y) := by simp
  rw [hv] at hcall
  generalize (outB x || outB y) = p at *
  clear hx hy hp hv
  simp only [List.length_cons, List.length_nil] at hcall
  go_enter Tryd.func90, Tryd.ntmps90
  go_wp2_with fail
  refine hcall.mono ?_
  rintro e w1 ⟨rfl, hb⟩
  go_wp2_with fail
  go_ret
  exact ⟨rfl, hb⟩

/-- What the closure of node is asked. -/
def LevelOk (ls : List Lv) (lok : Lv → Bool) (w0 : World) : Prop := ∀ (l : Lv) (v : Value) (W : World), l ∈ ls → Below w0.heap.size w0 W → RPv W l v →
  Calls Tryd.prog 92 #[.agg #[v]] W fun e w' => e = .returned (.bool (!lok l)) ∧ Below W.heap.size W w'

set_option maxRecDepth 100000 in
theorem indexL_any (ls : List Lv) (lok : Lv → Bool) (v : Value) (w : World) (hv : RLv w ls v) (hL : LevelOk ls lok w) :
    Calls Tryd.prog 102 #[v, .func (.func 92) #[] #[]] w (Found (ls.any fun l => !lok l) w) := by
  obtain ⟨A, c, rfl, hc, hm, hx⟩ := hv
  generalize hnn : ls.length = n at *
  have HN := Lib.hid hnn
  have HX := Lib.hid hx
  have HL := Lib.hid hL
  clear hnn hx hL
  go_enter Tryd.func102, Tryd.ntmps102
  go_wp2_with fail
  go_loopw [5, 8] (fun _ i wr => ∃ (j : Nat), j ≤ n ∧ i = .int .i64 j ∧ Hid ((ls.any fun l => !lok l) = ((ls.drop j).any fun l => !lok l)) ∧ Below w.heap.size w wr) (fun _ i _ => n - (intOf i).toNat)
  case atStart => exact ⟨0, Nat.zero_le _, rfl, rfl, Below.refl _ _⟩
  case round =>
    obtain ⟨j, hj, rfl, hp, hb⟩ := hrel
    by_cases hlt : j < n
    · obtain ⟨b, o, rfl, hc⟩ := HX.out (by omega)
      obtain ⟨x, hxj⟩ : ∃ x, ls[j]? = some x := ⟨_, List.getElem?_eq_getElem (by have := HN.out; omega)⟩
      obtain ⟨vx, hcj, hrx⟩ := (hc.below hb).get hxj
      have hcall := HL.out x vx wr (List.mem_of_getElem? hxj) hb hrx
      obtain ⟨A7, n7, c7, rfl⟩ := hrx.form
      have hlt' : (j : Int) < (n : Int) := by omega
      have hj0 : (0 : Int) ≤ (j : Int) := by omega
      have hd := any_drop (f := fun l => !lok l) hxj
      have HD := Lib.hid (hp.out.trans hd)
      clear hc hd hxj HX HL hrx
      generalize hbx : (!lok x) = bx at *
      clear hbx
      cases bx with
      | true =>
        go_wp2_with fail
        refine hcall.mono ?_
        rintro e w1 ⟨rfl, hb1⟩
        have HB := hb.trans (hb1.mono hb.size)
        clear hb1 hcall
        go_wp2_with fail
        go_ret
        exact ⟨j, rfl, by rw [HD.out, Bool.true_or, if_pos rfl]; omega, HB⟩
      | false =>
        go_wp2_with fail
        refine hcall.mono ?_
        rintro e w1 ⟨rfl, hb1⟩
        have HB := hb.trans (hb1.mono hb.size)
        clear hb1 hcall
        go_wp2_with fail
        go_roundw
        case rel => exact ⟨j + 1, by omega, by go_num, by have := HD.out; rwa [Bool.false_or] at this, HB⟩
        case measure => simp [intOf]; omega
    · obtain rfl : j = n := by omega
      have hd : (ls.any fun l => !lok l) = false := by rw [hp.out, List.drop_of_length_le (by have := HN.out; omega)]; rfl
      have HD := Lib.hid hd
      clear hd HX HL
      go_wp2_with fail
      go_ret
      exact ⟨-1, rfl, by rw [HD.out, if_neg (by simp)], hb⟩

theorem containsL_any (ls : List Lv) (lok : Lv → Bool) (v : Value) (w : World) (hv : RLv w ls v) (hL : LevelOk ls lok w) :
    Calls Tryd.prog 91 #[v, .func (.func 92) #[] #[]] w fun e w' => e = .returned (.bool (ls.any fun l => !lok l)) ∧ Below w.heap.size w w' := by
  have hcall := indexL_any ls lok v w hv hL
  generalize (ls.any fun l => !lok l) = p at *
  obtain ⟨A, n, c, rfl⟩ : ∃ A n c, v = .slice A n c := by obtain ⟨A, c, e, _⟩ := hv; exact ⟨A, _, c, e⟩
  clear hv hL
  go_enter Tryd.func91, Tryd.ntmps91
  go_wp2_with fail
  refine hcall.mono ?_
  rintro e w1 ⟨r, rfl, hr, hb⟩
  have HR := Lib.hid hr
  clear hr hcall
  by_cases h0 : 0 ≤ r
  · go_wp2_with fail
    go_ret
    refine ⟨ret_bool ?_, hb⟩
    have := HR.out
    cases p <;> simp_all
    try omega
  · go_wp2_with fail
    go_ret
    refine ⟨ret_bool ?_, hb⟩
    have := HR.out
    cases p <;> simp_all
    try omega

end Go.Proofs.YtgegaipkfpdocaaDoor
