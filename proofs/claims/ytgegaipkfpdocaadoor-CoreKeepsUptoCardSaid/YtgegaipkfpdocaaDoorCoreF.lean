/-
  WHAT core.term ASKS: whatever the kind, by one contract.
-/
import Derived.Test.YtgegaipkfpdocaaDoorCoreE
namespace Go.Proofs.YtgegaipkfpdocaaDoor
open Go.RowKit
set_option linter.unusedSimpArgs false
set_option linter.unusedVariables false
set_option maxRecDepth 100000

/-- What a function is asked, and tells. -/
def AskOk (f : Nat) (lv s : Int) (cs : List Int) (k : Int) : Prop :=
  ∀ (m a : Int) (ls : List Lv) (cv mv vl : Value) (A' : Option Addr) (n' c' : Nat) (W : World), RLv W ls vl → RIv W cs cv →
    Calls Tryd.prog f #[.agg #[.int .i64 lv, .int .i64 s, cv, mv], .agg #[.int .i64 k, .int .i64 m, .int .i64 a, vl, .slice A' n' c']] W (AskEnd (askB lv s cs k m a ls) W)
theorem ask1_ok (lv s : Int) (cs : List Int) : AskOk 53 lv s cs 1 := by
  intro m a ls cv mv vl A' n' c' W hl hc
  have e : askB lv s cs 1 m a ls = (if 0 ≤ m ∧ m < s ∧ a = 0 ∧ ls.length = 0 then some 0 else none) := by rfl
  rw [e]
  obtain ⟨A, c, rfl, _⟩ := hl
  exact var_any lv s cv mv 1 m a A ls.length c A' n' c' W

theorem ask2_ok (lv s : Int) (cs : List Int) : AskOk 54 lv s cs 2 := by
  intro m a ls cv mv vl A' n' c' W hl hc
  have e : askB lv s cs 2 m a ls = (if m = 0 ∧ a = 0 ∧ ls.length = 1 ∧ ls.all (lvRight lv) = true then some 0 else none) := by rfl
  rw [e]
  exact sort_any lv s cv mv 2 m a ls vl A' n' c' W hl

theorem ask3_ok (lv s : Int) (cs : List Int) : AskOk 55 lv s cs 3 := by
  intro m a ls cv mv vl A' n' c' W hl hc
  have e : askB lv s cs 3 m a ls = (if 0 ≤ m ∧ m < cs.length ∧ a = 0 ∧ (ls.length : Int) = cs.getD m.toNat 0 ∧ ls.all (lvRight lv) = true then some 0 else none) := by rfl
  rw [e]
  exact const_any lv s cs cv mv 3 m a ls vl A' n' c' W hl hc

theorem ask4_ok (lv s : Int) (cs : List Int) : AskOk 56 lv s cs 4 := by
  intro m a ls cv mv vl A' n' c' W hl hc
  have e : askB lv s cs 4 m a ls = (if m = 0 ∧ a = 0 ∧ ls.length = 0 then some 2 else none) := by rfl
  rw [e]
  obtain ⟨A, c, rfl, _⟩ := hl
  exact two_any lv s cv mv 4 m a A ls.length c A' n' c' W

theorem ask5_ok (lv s : Int) (cs : List Int) : AskOk 56 lv s cs 5 := by
  intro m a ls cv mv vl A' n' c' W hl hc
  have e : askB lv s cs 5 m a ls = (if m = 0 ∧ a = 0 ∧ ls.length = 0 then some 2 else none) := by rfl
  rw [e]
  obtain ⟨A, c, rfl, _⟩ := hl
  exact two_any lv s cv mv 5 m a A ls.length c A' n' c' W

theorem ask6_ok (lv s : Int) (cs : List Int) : AskOk 56 lv s cs 6 := by
  intro m a ls cv mv vl A' n' c' W hl hc
  have e : askB lv s cs 6 m a ls = (if m = 0 ∧ a = 0 ∧ ls.length = 0 then some 2 else none) := by rfl
  rw [e]
  obtain ⟨A, c, rfl, _⟩ := hl
  exact two_any lv s cv mv 6 m a A ls.length c A' n' c' W

theorem ask7_ok (lv s : Int) (cs : List Int) : AskOk 57 lv s cs 7 := by
  intro m a ls cv mv vl A' n' c' W hl hc
  have e : askB lv s cs 7 m a ls = (if m = 0 ∧ a = 0 ∧ ls.length = 0 then some 3 else none) := by rfl
  rw [e]
  obtain ⟨A, c, rfl, _⟩ := hl
  exact three_any lv s cv mv 7 m a A ls.length c A' n' c' W

theorem ask12_ok (lv s : Int) (cs : List Int) : AskOk 56 lv s cs 12 := by
  intro m a ls cv mv vl A' n' c' W hl hc
  have e : askB lv s cs 12 m a ls = (if m = 0 ∧ a = 0 ∧ ls.length = 0 then some 2 else none) := by rfl
  rw [e]
  obtain ⟨A, c, rfl, _⟩ := hl
  exact two_any lv s cv mv 12 m a A ls.length c A' n' c' W

theorem ask13_ok (lv s : Int) (cs : List Int) : AskOk 56 lv s cs 13 := by
  intro m a ls cv mv vl A' n' c' W hl hc
  have e : askB lv s cs 13 m a ls = (if m = 0 ∧ a = 0 ∧ ls.length = 0 then some 2 else none) := by rfl
  rw [e]
  obtain ⟨A, c, rfl, _⟩ := hl
  exact two_any lv s cv mv 13 m a A ls.length c A' n' c' W

theorem ask14_ok (lv s : Int) (cs : List Int) : AskOk 58 lv s cs 14 := by
  intro m a ls cv mv vl A' n' c' W hl hc
  have e : askB lv s cs 14 m a ls = (if m = 0 ∧ a = 0 ∧ ls.length = 0 then some 1 else none) := by rfl
  rw [e]
  obtain ⟨A, c, rfl, _⟩ := hl
  exact one_any lv s cv mv 14 m a A ls.length c A' n' c' W

theorem ask15_ok (lv s : Int) (cs : List Int) : AskOk 58 lv s cs 15 := by
  intro m a ls cv mv vl A' n' c' W hl hc
  have e : askB lv s cs 15 m a ls = (if m = 0 ∧ a = 0 ∧ ls.length = 0 then some 1 else none) := by rfl
  rw [e]
  obtain ⟨A, c, rfl, _⟩ := hl
  exact one_any lv s cv mv 15 m a A ls.length c A' n' c' W

theorem ask16_ok (lv s : Int) (cs : List Int) : AskOk 56 lv s cs 16 := by
  intro m a ls cv mv vl A' n' c' W hl hc
  have e : askB lv s cs 16 m a ls = (if m = 0 ∧ a = 0 ∧ ls.length = 0 then some 2 else none) := by rfl
  rw [e]
  obtain ⟨A, c, rfl, _⟩ := hl
  exact two_any lv s cv mv 16 m a A ls.length c A' n' c' W

theorem ask17_ok (lv s : Int) (cs : List Int) : AskOk 56 lv s cs 17 := by
  intro m a ls cv mv vl A' n' c' W hl hc
  have e : askB lv s cs 17 m a ls = (if m = 0 ∧ a = 0 ∧ ls.length = 0 then some 2 else none) := by rfl
  rw [e]
  obtain ⟨A, c, rfl, _⟩ := hl
  exact two_any lv s cv mv 17 m a A ls.length c A' n' c' W

theorem ask18_ok (lv s : Int) (cs : List Int) : AskOk 59 lv s cs 18 := by
  intro m a ls cv mv vl A' n' c' W hl hc
  have e : askB lv s cs 18 m a ls = (if m = 0 ∧ a = 0 ∧ ls.length = 0 then some 5 else none) := by rfl
  rw [e]
  obtain ⟨A, c, rfl, _⟩ := hl
  exact five_any lv s cv mv 18 m a A ls.length c A' n' c' W

theorem ask19_ok (lv s : Int) (cs : List Int) : AskOk 57 lv s cs 19 := by
  intro m a ls cv mv vl A' n' c' W hl hc
  have e : askB lv s cs 19 m a ls = (if m = 0 ∧ a = 0 ∧ ls.length = 0 then some 3 else none) := by rfl
  rw [e]
  obtain ⟨A, c, rfl, _⟩ := hl
  exact three_any lv s cv mv 19 m a A ls.length c A' n' c' W

theorem ask20_ok (lv s : Int) (cs : List Int) : AskOk 60 lv s cs 20 := by
  intro m a ls cv mv vl A' n' c' W hl hc
  have e : askB lv s cs 20 m a ls = (if m = 0 ∧ a = 0 ∧ ls.length = 0 then some 0 else none) := by rfl
  rw [e]
  obtain ⟨A, c, rfl, _⟩ := hl
  exact leaf_any lv s cv mv 20 m a A ls.length c A' n' c' W

theorem ask21_ok (lv s : Int) (cs : List Int) : AskOk 61 lv s cs 21 := by
  intro m a ls cv mv vl A' n' c' W hl hc
  have e : askB lv s cs 21 m a ls = (if m = 0 ∧ a = 0 ∧ ls.length = 0 then some 6 else none) := by rfl
  rw [e]
  obtain ⟨A, c, rfl, _⟩ := hl
  exact six_any lv s cv mv 21 m a A ls.length c A' n' c' W

theorem ask22_ok (lv s : Int) (cs : List Int) : AskOk 62 lv s cs 22 := by
  intro m a ls cv mv vl A' n' c' W hl hc
  have e : askB lv s cs 22 m a ls = (if 0 ≤ m ∧ a = 0 ∧ ls.length = 0 then some 0 else none) := by rfl
  rw [e]
  obtain ⟨A, c, rfl, _⟩ := hl
  exact fin_any lv s cv mv 22 m a A ls.length c A' n' c' W

theorem ask23_ok (lv s : Int) (cs : List Int) : AskOk 63 lv s cs 23 := by
  intro m a ls cv mv vl A' n' c' W hl hc
  have e : askB lv s cs 23 m a ls = (if 0 ≤ m ∧ m < a ∧ ls.length = 0 then some 0 else none) := by rfl
  rw [e]
  obtain ⟨A, c, rfl, _⟩ := hl
  exact elem_any lv s cv mv 23 m a A ls.length c A' n' c' W

theorem ask24_ok (lv s : Int) (cs : List Int) : AskOk 64 lv s cs 24 := by
  intro m a ls cv mv vl A' n' c' W hl hc
  have e : askB lv s cs 24 m a ls = (if m = 0 ∧ 0 ≤ a ∧ ls.length = 0 then some (wrap64 (a + 2)) else none) := by rfl
  rw [e]
  obtain ⟨A, c, rfl, _⟩ := hl
  exact branches_any lv s cv mv 24 m a A ls.length c A' n' c' W

theorem ask_any (lv s : Int) (cs : List Int) (k : Int) (h : askHas k = true) : ∃ f, askVal k = .func (.func f) #[] #[] ∧ (∀ args w, (callFunc f args).run Tryd.prog w = .ok (.enter f args) w) ∧ AskOk f lv s cs k := by
  by_cases h1 : k = 1
  · subst h1
    exact ⟨53, by kernel_rfl, Tryd.call53, ask1_ok lv s cs⟩
  by_cases h2 : k = 2
  · subst h2
    exact ⟨54, by kernel_rfl, Tryd.call54, ask2_ok lv s cs⟩
  by_cases h3 : k = 3
  · subst h3
    exact ⟨55, by kernel_rfl, Tryd.call55, ask3_ok lv s cs⟩
  by_cases h4 : k = 4
  · subst h4
    exact ⟨56, by kernel_rfl, Tryd.call56, ask4_ok lv s cs⟩
  by_cases h5 : k = 5
  · subst h5
    exact ⟨56, by kernel_rfl, Tryd.call56, ask5_ok lv s cs⟩
  by_cases h6 : k = 6
  · subst h6
    exact ⟨56, by kernel_rfl, Tryd.call56, ask6_ok lv s cs⟩
  by_cases h7 : k = 7
  · subst h7
    exact ⟨57, by kernel_rfl, Tryd.call57, ask7_ok lv s cs⟩
  by_cases h12 : k = 12
  · subst h12
    exact ⟨56, by kernel_rfl, Tryd.call56, ask12_ok lv s cs⟩
  by_cases h13 : k = 13
  · subst h13
    exact ⟨56, by kernel_rfl, Tryd.call56, ask13_ok lv s cs⟩
  by_cases h14 : k = 14
  · subst h14
    exact ⟨58, by kernel_rfl, Tryd.call58, ask14_ok lv s cs⟩
  by_cases h15 : k = 15
  · subst h15
    exact ⟨58, by kernel_rfl, Tryd.call58, ask15_ok lv s cs⟩
  by_cases h16 : k = 16
  · subst h16
    exact ⟨56, by kernel_rfl, Tryd.call56, ask16_ok lv s cs⟩
  by_cases h17 : k = 17
  · subst h17
    exact ⟨56, by kernel_rfl, Tryd.call56, ask17_ok lv s cs⟩
  by_cases h18 : k = 18
  · subst h18
    exact ⟨59, by kernel_rfl, Tryd.call59, ask18_ok lv s cs⟩
  by_cases h19 : k = 19
  · subst h19
    exact ⟨57, by kernel_rfl, Tryd.call57, ask19_ok lv s cs⟩
  by_cases h20 : k = 20
  · subst h20
    exact ⟨60, by kernel_rfl, Tryd.call60, ask20_ok lv s cs⟩
  by_cases h21 : k = 21
  · subst h21
    exact ⟨61, by kernel_rfl, Tryd.call61, ask21_ok lv s cs⟩
  by_cases h22 : k = 22
  · subst h22
    exact ⟨62, by kernel_rfl, Tryd.call62, ask22_ok lv s cs⟩
  by_cases h23 : k = 23
  · subst h23
    exact ⟨63, by kernel_rfl, Tryd.call63, ask23_ok lv s cs⟩
  by_cases h24 : k = 24
  · subst h24
    exact ⟨64, by kernel_rfl, Tryd.call64, ask24_ok lv s cs⟩
  exfalso
  have : askFns.find? (fun x => x.1 == k) = none := List.find?_eq_none.2 fun x hx => by
    simp only [askFns, List.mem_cons, List.not_mem_nil, or_false] at hx
    rcases hx with rfl | rfl | rfl | rfl | rfl | rfl | rfl | rfl | rfl | rfl | rfl | rfl | rfl | rfl | rfl | rfl | rfl | rfl | rfl | rfl <;> simp <;> omega
  simp [askHas, this] at h
theorem ask_none (lv s : Int) (cs : List Int) (k m a : Int) (ls : List Lv) (h : askHas k = false) : askB lv s cs k m a ls = none := by
  by_cases h1 : k = 1
  · subst h1; exact absurd h (by decide +kernel)
  by_cases h2 : k = 2
  · subst h2; exact absurd h (by decide +kernel)
  by_cases h3 : k = 3
  · subst h3; exact absurd h (by decide +kernel)
  by_cases h4 : k = 4
  · subst h4; exact absurd h (by decide +kernel)
  by_cases h5 : k = 5
  · subst h5; exact absurd h (by decide +kernel)
  by_cases h6 : k = 6
  · subst h6; exact absurd h (by decide +kernel)
  by_cases h7 : k = 7
  · subst h7; exact absurd h (by decide +kernel)
  by_cases h12 : k = 12
  · subst h12; exact absurd h (by decide +kernel)
  by_cases h13 : k = 13
  · subst h13; exact absurd h (by decide +kernel)
  by_cases h14 : k = 14
  · subst h14; exact absurd h (by decide +kernel)
  by_cases h15 : k = 15
  · subst h15; exact absurd h (by decide +kernel)
  by_cases h16 : k = 16
  · subst h16; exact absurd h (by decide +kernel)
  by_cases h17 : k = 17
  · subst h17; exact absurd h (by decide +kernel)
  by_cases h18 : k = 18
  · subst h18; exact absurd h (by decide +kernel)
  by_cases h19 : k = 19
  · subst h19; exact absurd h (by decide +kernel)
  by_cases h20 : k = 20
  · subst h20; exact absurd h (by decide +kernel)
  by_cases h21 : k = 21
  · subst h21; exact absurd h (by decide +kernel)
  by_cases h22 : k = 22
  · subst h22; exact absurd h (by decide +kernel)
  by_cases h23 : k = 23
  · subst h23; exact absurd h (by decide +kernel)
  by_cases h24 : k = 24
  · subst h24; exact absurd h (by decide +kernel)
  unfold askB bareKids
  simp [h1, h2, h3, h22, h23, h24, h4, h5, h6, h12, h13, h16, h17, h7, h19, h14, h15, h18, h20, h21]

end Go.Proofs.YtgegaipkfpdocaaDoor
