/-
  THE WALKS OF what core asks of each kind.
-/
import Derived.Test.YtgegaipkfpdocaaDoorLevR
namespace Go.Proofs.YtgegaipkfpdocaaDoor
open Go.RowKit
set_option linter.unusedSimpArgs false
set_option linter.unusedVariables false
set_option maxRecDepth 100000

theorem must1 (x : Bool) (b c : Nat) (w : World) (hB : Box w b [.bool x]) : Calls Tryd.prog 26 #[.slice (some ⟨b, 0, none⟩) 1 c] w fun e w' => e = mustEnd x ∧ w' = w := by
  have h := must_any [x] b c w (by simp) (fun i y hi => by
    match i, hi with
    | 0, hi => simp at hi; subst hi; exact hB.cell rfl
    | i + 1, hi => simp at hi)
  simpa using h
theorem must2 (x y : Bool) (b c : Nat) (w : World) (hB : Box w b [.bool x, .bool y]) : Calls Tryd.prog 26 #[.slice (some ⟨b, 0, none⟩) 2 c] w fun e w' => e = mustEnd (x && y) ∧ w' = w := by
  have h := must_any [x, y] b c w (by simp) (fun i y hi => by
    match i, hi with
    | 0, hi => simp at hi; subst hi; exact hB.cell rfl
    | 1, hi => simp at hi; subst hi; exact hB.cell rfl
    | i + 2, hi => simp at hi)
  simpa using h
theorem must3 (x y z : Bool) (b c : Nat) (w : World) (hB : Box w b [.bool x, .bool y, .bool z]) : Calls Tryd.prog 26 #[.slice (some ⟨b, 0, none⟩) 3 c] w fun e w' => e = mustEnd (x && (y && z)) ∧ w' = w := by
  have h := must_any [x, y, z] b c w (by simp) (fun i y hi => by
    match i, hi with
    | 0, hi => simp at hi; subst hi; exact hB.cell rfl
    | 1, hi => simp at hi; subst hi; exact hB.cell rfl
    | 2, hi => simp at hi; subst hi; exact hB.cell rfl
    | i + 3, hi => simp at hi)
  simpa using h
theorem must4 (x y z u : Bool) (b c : Nat) (w : World) (hB : Box w b [.bool x, .bool y, .bool z, .bool u]) : Calls Tryd.prog 26 #[.slice (some ⟨b, 0, none⟩) 4 c] w fun e w' => e = mustEnd (x && (y && (z && u))) ∧ w' = w := by
  have h := must_any [x, y, z, u] b c w (by simp) (fun i y hi => by
    match i, hi with
    | 0, hi => simp at hi; subst hi; exact hB.cell rfl
    | 1, hi => simp at hi; subst hi; exact hB.cell rfl
    | 2, hi => simp at hi; subst hi; exact hB.cell rfl
    | 3, hi => simp at hi; subst hi; exact hB.cell rfl
    | i + 4, hi => simp at hi)
  simpa using h
theorem mustEnd_congr {p q : Bool} (h : p = q) : mustEnd p = mustEnd q := by rw [h]

/-- How what a kind is asked ends. -/
def askEnd (o : Option Int) : Ending := match o with | some c => .returned (.int .i64 c) | none => wrongEnd
def AskEnd (o : Option Int) (w : World) (e : Ending) (w' : World) : Prop := e = askEnd o ∧ Below w.heap.size w w'

theorem bare_eq (lv s k m a : Int) (n : Nat) : ((m == 0) && ((a == 0) && ((n : Int) == 0))) = decide (m = 0 ∧ a = 0 ∧ n = 0) := by
  rw [Bool.eq_iff_iff]
  simp
  try omega
set_option maxHeartbeats 1000000 in
theorem bare_any (k m a : Int) (A : Option Addr) (n c : Nat) (A' : Option Addr) (n' c' : Nat) (w : World) :
    Calls Tryd.prog 85 #[.agg #[.int .i64 k, .int .i64 m, .int .i64 a, .slice A n c, .slice A' n' c']] w (fun e w' => e = mustEnd (decide (m = 0 ∧ a = 0 ∧ n = 0)) ∧ Below w.heap.size w w') := by
  have heq := bare_eq 0 0 k m a n
  by_cases h : m = 0 ∧ a = 0 ∧ n = 0
  · rw [decide_eq_true h] at heq
    have hm : ∀ W b c, Box W b [.bool ((m == 0)), .bool ((a == 0)), .bool (((n : Int) == 0))] → Calls Tryd.prog 26 #[.slice (some ⟨b, 0, none⟩) 3 c] W fun e w' => e = .returned (.tuple #[]) ∧ w' = W := fun W b c hB => by
      have h := must3 ((m == 0)) ((a == 0)) (((n : Int) == 0)) b c W hB
      rw [heq] at h
      exact h
    rw [decide_eq_true h]
    have HM := Lib.hid hm
    clear hm heq h
    go_enter Tryd.func85, Tryd.ntmps85
    go_wp2_with fail
    refine (HM.out _ _ _ (Box.new' _ [_, _, _] _ (by simp))).mono ?_
    rintro e w1 ⟨rfl, rfl⟩
    go_wp2_with fail
    go_end0
    exact ⟨rfl, by (repeat (first | assumption | exact Below.refl _ _ | refine below_ch ?_ (by assumption) | refine below_ch ?_ ((Below.refl _ _).alloc (Nat.le_refl _) _)))⟩
  · rw [decide_eq_false h] at heq
    have hm : ∀ W b c, Box W b [.bool ((m == 0)), .bool ((a == 0)), .bool (((n : Int) == 0))] → Calls Tryd.prog 26 #[.slice (some ⟨b, 0, none⟩) 3 c] W fun e w' => e = .panicked [{ v := .iface 52 (.agg #[]), recovered := false }] ∧ w' = W := fun W b c hB => by
      have h := must3 ((m == 0)) ((a == 0)) (((n : Int) == 0)) b c W hB
      rw [heq] at h
      exact h
    rw [decide_eq_false h]
    have HM := Lib.hid hm
    clear hm heq h
    go_enter Tryd.func85, Tryd.ntmps85
    go_wp2_with fail
    refine (HM.out _ _ _ (Box.new' _ [_, _, _] _ (by simp))).mono ?_
    rintro e w1 ⟨rfl, rfl⟩
    go_wp2_with fail
    exact ⟨rfl, rfl, by (repeat (first | assumption | exact Below.refl _ _ | refine below_ch ?_ (by assumption) | refine below_ch ?_ ((Below.refl _ _).alloc (Nat.le_refl _) _)))⟩

theorem leaf_any (lv s : Int) (cv mv : Value) (k m a : Int) (A : Option Addr) (n c : Nat) (A' : Option Addr) (n' c' : Nat) (w : World) :
    Calls Tryd.prog 60 #[.agg #[.int .i64 lv, .int .i64 s, cv, mv], .agg #[.int .i64 k, .int .i64 m, .int .i64 a, .slice A n c, .slice A' n' c']] w (AskEnd (if m = 0 ∧ a = 0 ∧ n = 0 then some 0 else none) w) := by
  have hb := fun W => bare_any k m a A n c A' n' c' W
  by_cases h : m = 0 ∧ a = 0 ∧ n = 0
  · rw [decide_eq_true h] at hb
    have hm : ∀ W, Calls Tryd.prog 85 #[.agg #[.int .i64 k, .int .i64 m, .int .i64 a, .slice A n c, .slice A' n' c']] W fun e w' => e = .returned (.tuple #[]) ∧ Below W.heap.size W w' := hb
    simp only [if_pos h, AskEnd, askEnd]
    have HM := Lib.hid hm
    clear hm hb h
    go_enter Tryd.func60, Tryd.ntmps60
    go_wp2_with fail
    refine (HM.out _).mono ?_
    rintro e w1 ⟨rfl, hb1⟩
    go_wp2_with fail
    go_ret
    exact ⟨rfl, by (repeat (first | assumption | exact Below.refl _ _ | refine below_ch ?_ (by assumption) | refine below_ch ?_ ((Below.refl _ _).alloc (Nat.le_refl _) _)))⟩
  · rw [decide_eq_false h] at hb
    have hm : ∀ W, Calls Tryd.prog 85 #[.agg #[.int .i64 k, .int .i64 m, .int .i64 a, .slice A n c, .slice A' n' c']] W fun e w' => e = .panicked [{ v := .iface 52 (.agg #[]), recovered := false }] ∧ Below W.heap.size W w' := hb
    simp only [if_neg h, AskEnd, askEnd]
    have HM := Lib.hid hm
    clear hm hb h
    go_enter Tryd.func60, Tryd.ntmps60
    go_wp2_with fail
    refine (HM.out _).mono ?_
    rintro e w1 ⟨rfl, hb1⟩
    go_wp2_with fail
    exact ⟨rfl, rfl, by (repeat (first | assumption | exact Below.refl _ _ | refine below_ch ?_ (by assumption) | refine below_ch ?_ ((Below.refl _ _).alloc (Nat.le_refl _) _)))⟩

theorem one_any (lv s : Int) (cv mv : Value) (k m a : Int) (A : Option Addr) (n c : Nat) (A' : Option Addr) (n' c' : Nat) (w : World) :
    Calls Tryd.prog 58 #[.agg #[.int .i64 lv, .int .i64 s, cv, mv], .agg #[.int .i64 k, .int .i64 m, .int .i64 a, .slice A n c, .slice A' n' c']] w (AskEnd (if m = 0 ∧ a = 0 ∧ n = 0 then some 1 else none) w) := by
  have hb := fun W => bare_any k m a A n c A' n' c' W
  by_cases h : m = 0 ∧ a = 0 ∧ n = 0
  · rw [decide_eq_true h] at hb
    have hm : ∀ W, Calls Tryd.prog 85 #[.agg #[.int .i64 k, .int .i64 m, .int .i64 a, .slice A n c, .slice A' n' c']] W fun e w' => e = .returned (.tuple #[]) ∧ Below W.heap.size W w' := hb
    simp only [if_pos h, AskEnd, askEnd]
    have HM := Lib.hid hm
    clear hm hb h
    go_enter Tryd.func58, Tryd.ntmps58
    go_wp2_with fail
    refine (HM.out _).mono ?_
    rintro e w1 ⟨rfl, hb1⟩
    go_wp2_with fail
    go_ret
    exact ⟨rfl, by (repeat (first | assumption | exact Below.refl _ _ | refine below_ch ?_ (by assumption) | refine below_ch ?_ ((Below.refl _ _).alloc (Nat.le_refl _) _)))⟩
  · rw [decide_eq_false h] at hb
    have hm : ∀ W, Calls Tryd.prog 85 #[.agg #[.int .i64 k, .int .i64 m, .int .i64 a, .slice A n c, .slice A' n' c']] W fun e w' => e = .panicked [{ v := .iface 52 (.agg #[]), recovered := false }] ∧ Below W.heap.size W w' := hb
    simp only [if_neg h, AskEnd, askEnd]
    have HM := Lib.hid hm
    clear hm hb h
    go_enter Tryd.func58, Tryd.ntmps58
    go_wp2_with fail
    refine (HM.out _).mono ?_
    rintro e w1 ⟨rfl, hb1⟩
    go_wp2_with fail
    exact ⟨rfl, rfl, by (repeat (first | assumption | exact Below.refl _ _ | refine below_ch ?_ (by assumption) | refine below_ch ?_ ((Below.refl _ _).alloc (Nat.le_refl _) _)))⟩

theorem two_any (lv s : Int) (cv mv : Value) (k m a : Int) (A : Option Addr) (n c : Nat) (A' : Option Addr) (n' c' : Nat) (w : World) :
    Calls Tryd.prog 56 #[.agg #[.int .i64 lv, .int .i64 s, cv, mv], .agg #[.int .i64 k, .int .i64 m, .int .i64 a, .slice A n c, .slice A' n' c']] w (AskEnd (if m = 0 ∧ a = 0 ∧ n = 0 then some 2 else none) w) := by
  have hb := fun W => bare_any k m a A n c A' n' c' W
  by_cases h : m = 0 ∧ a = 0 ∧ n = 0
  · rw [decide_eq_true h] at hb
    have hm : ∀ W, Calls Tryd.prog 85 #[.agg #[.int .i64 k, .int .i64 m, .int .i64 a, .slice A n c, .slice A' n' c']] W fun e w' => e = .returned (.tuple #[]) ∧ Below W.heap.size W w' := hb
    simp only [if_pos h, AskEnd, askEnd]
    have HM := Lib.hid hm
    clear hm hb h
    go_enter Tryd.func56, Tryd.ntmps56
    go_wp2_with fail
    refine (HM.out _).mono ?_
    rintro e w1 ⟨rfl, hb1⟩
    go_wp2_with fail
    go_ret
    exact ⟨rfl, by (repeat (first | assumption | exact Below.refl _ _ | refine below_ch ?_ (by assumption) | refine below_ch ?_ ((Below.refl _ _).alloc (Nat.le_refl _) _)))⟩
  · rw [decide_eq_false h] at hb
    have hm : ∀ W, Calls Tryd.prog 85 #[.agg #[.int .i64 k, .int .i64 m, .int .i64 a, .slice A n c, .slice A' n' c']] W fun e w' => e = .panicked [{ v := .iface 52 (.agg #[]), recovered := false }] ∧ Below W.heap.size W w' := hb
    simp only [if_neg h, AskEnd, askEnd]
    have HM := Lib.hid hm
    clear hm hb h
    go_enter Tryd.func56, Tryd.ntmps56
    go_wp2_with fail
    refine (HM.out _).mono ?_
    rintro e w1 ⟨rfl, hb1⟩
    go_wp2_with fail
    exact ⟨rfl, rfl, by (repeat (first | assumption | exact Below.refl _ _ | refine below_ch ?_ (by assumption) | refine below_ch ?_ ((Below.refl _ _).alloc (Nat.le_refl _) _)))⟩

theorem three_any (lv s : Int) (cv mv : Value) (k m a : Int) (A : Option Addr) (n c : Nat) (A' : Option Addr) (n' c' : Nat) (w : World) :
    Calls Tryd.prog 57 #[.agg #[.int .i64 lv, .int .i64 s, cv, mv], .agg #[.int .i64 k, .int .i64 m, .int .i64 a, .slice A n c, .slice A' n' c']] w (AskEnd (if m = 0 ∧ a = 0 ∧ n = 0 then some 3 else none) w) := by
  have hb := fun W => bare_any k m a A n c A' n' c' W
  by_cases h : m = 0 ∧ a = 0 ∧ n = 0
  · rw [decide_eq_true h] at hb
    have hm : ∀ W, Calls Tryd.prog 85 #[.agg #[.int .i64 k, .int .i64 m, .int .i64 a, .slice A n c, .slice A' n' c']] W fun e w' => e = .returned (.tuple #[]) ∧ Below W.heap.size W w' := hb
    simp only [if_pos h, AskEnd, askEnd]
    have HM := Lib.hid hm
    clear hm hb h
    go_enter Tryd.func57, Tryd.ntmps57
    go_wp2_with fail
    refine (HM.out _).mono ?_
    rintro e w1 ⟨rfl, hb1⟩
    go_wp2_with fail
    go_ret
    exact ⟨rfl, by (repeat (first | assumption | exact Below.refl _ _ | refine below_ch ?_ (by assumption) | refine below_ch ?_ ((Below.refl _ _).alloc (Nat.le_refl _) _)))⟩
  · rw [decide_eq_false h] at hb
    have hm : ∀ W, Calls Tryd.prog 85 #[.agg #[.int .i64 k, .int .i64 m, .int .i64 a, .slice A n c, .slice A' n' c']] W fun e w' => e = .panicked [{ v := .iface 52 (.agg #[]), recovered := false }] ∧ Below W.heap.size W w' := hb
    simp only [if_neg h, AskEnd, askEnd]
    have HM := Lib.hid hm
    clear hm hb h
    go_enter Tryd.func57, Tryd.ntmps57
    go_wp2_with fail
    refine (HM.out _).mono ?_
    rintro e w1 ⟨rfl, hb1⟩
    go_wp2_with fail
    exact ⟨rfl, rfl, by (repeat (first | assumption | exact Below.refl _ _ | refine below_ch ?_ (by assumption) | refine below_ch ?_ ((Below.refl _ _).alloc (Nat.le_refl _) _)))⟩

theorem five_any (lv s : Int) (cv mv : Value) (k m a : Int) (A : Option Addr) (n c : Nat) (A' : Option Addr) (n' c' : Nat) (w : World) :
    Calls Tryd.prog 59 #[.agg #[.int .i64 lv, .int .i64 s, cv, mv], .agg #[.int .i64 k, .int .i64 m, .int .i64 a, .slice A n c, .slice A' n' c']] w (AskEnd (if m = 0 ∧ a = 0 ∧ n = 0 then some 5 else none) w) := by
  have hb := fun W => bare_any k m a A n c A' n' c' W
  by_cases h : m = 0 ∧ a = 0 ∧ n = 0
  · rw [decide_eq_true h] at hb
    have hm : ∀ W, Calls Tryd.prog 85 #[.agg #[.int .i64 k, .int .i64 m, .int .i64 a, .slice A n c, .slice A' n' c']] W fun e w' => e = .returned (.tuple #[]) ∧ Below W.heap.size W w' := hb
    simp only [if_pos h, AskEnd, askEnd]
    have HM := Lib.hid hm
    clear hm hb h
    go_enter Tryd.func59, Tryd.ntmps59
    go_wp2_with fail
    refine (HM.out _).mono ?_
    rintro e w1 ⟨rfl, hb1⟩
    go_wp2_with fail
    go_ret
    exact ⟨rfl, by (repeat (first | assumption | exact Below.refl _ _ | refine below_ch ?_ (by assumption) | refine below_ch ?_ ((Below.refl _ _).alloc (Nat.le_refl _) _)))⟩
  · rw [decide_eq_false h] at hb
    have hm : ∀ W, Calls Tryd.prog 85 #[.agg #[.int .i64 k, .int .i64 m, .int .i64 a, .slice A n c, .slice A' n' c']] W fun e w' => e = .panicked [{ v := .iface 52 (.agg #[]), recovered := false }] ∧ Below W.heap.size W w' := hb
    simp only [if_neg h, AskEnd, askEnd]
    have HM := Lib.hid hm
    clear hm hb h
    go_enter Tryd.func59, Tryd.ntmps59
    go_wp2_with fail
    refine (HM.out _).mono ?_
    rintro e w1 ⟨rfl, hb1⟩
    go_wp2_with fail
    exact ⟨rfl, rfl, by (repeat (first | assumption | exact Below.refl _ _ | refine below_ch ?_ (by assumption) | refine below_ch ?_ ((Below.refl _ _).alloc (Nat.le_refl _) _)))⟩

theorem six_any (lv s : Int) (cv mv : Value) (k m a : Int) (A : Option Addr) (n c : Nat) (A' : Option Addr) (n' c' : Nat) (w : World) :
    Calls Tryd.prog 61 #[.agg #[.int .i64 lv, .int .i64 s, cv, mv], .agg #[.int .i64 k, .int .i64 m, .int .i64 a, .slice A n c, .slice A' n' c']] w (AskEnd (if m = 0 ∧ a = 0 ∧ n = 0 then some 6 else none) w) := by
  have hb := fun W => bare_any k m a A n c A' n' c' W
  by_cases h : m = 0 ∧ a = 0 ∧ n = 0
  · rw [decide_eq_true h] at hb
    have hm : ∀ W, Calls Tryd.prog 85 #[.agg #[.int .i64 k, .int .i64 m, .int .i64 a, .slice A n c, .slice A' n' c']] W fun e w' => e = .returned (.tuple #[]) ∧ Below W.heap.size W w' := hb
    simp only [if_pos h, AskEnd, askEnd]
    have HM := Lib.hid hm
    clear hm hb h
    go_enter Tryd.func61, Tryd.ntmps61
    go_wp2_with fail
    refine (HM.out _).mono ?_
    rintro e w1 ⟨rfl, hb1⟩
    go_wp2_with fail
    go_ret
    exact ⟨rfl, by (repeat (first | assumption | exact Below.refl _ _ | refine below_ch ?_ (by assumption) | refine below_ch ?_ ((Below.refl _ _).alloc (Nat.le_refl _) _)))⟩
  · rw [decide_eq_false h] at hb
    have hm : ∀ W, Calls Tryd.prog 85 #[.agg #[.int .i64 k, .int .i64 m, .int .i64 a, .slice A n c, .slice A' n' c']] W fun e w' => e = .panicked [{ v := .iface 52 (.agg #[]), recovered := false }] ∧ Below W.heap.size W w' := hb
    simp only [if_neg h, AskEnd, askEnd]
    have HM := Lib.hid hm
    clear hm hb h
    go_enter Tryd.func61, Tryd.ntmps61
    go_wp2_with fail
    refine (HM.out _).mono ?_
    rintro e w1 ⟨rfl, hb1⟩
    go_wp2_with fail
    exact ⟨rfl, rfl, by (repeat (first | assumption | exact Below.refl _ _ | refine below_ch ?_ (by assumption) | refine below_ch ?_ ((Below.refl _ _).alloc (Nat.le_refl _) _)))⟩

theorem var_eq (lv s k m a : Int) (n : Nat) : (decide (0 ≤ m) && (decide (m < s) && ((a == 0) && ((n : Int) == 0)))) = decide (0 ≤ m ∧ m < s ∧ a = 0 ∧ n = 0) := by
  rw [Bool.eq_iff_iff]
  simp
  try omega
set_option maxHeartbeats 1000000 in
theorem var_any (lv s : Int) (cv mv : Value) (k m a : Int) (A : Option Addr) (n c : Nat) (A' : Option Addr) (n' c' : Nat) (w : World) :
    Calls Tryd.prog 53 #[.agg #[.int .i64 lv, .int .i64 s, cv, mv], .agg #[.int .i64 k, .int .i64 m, .int .i64 a, .slice A n c, .slice A' n' c']] w (AskEnd (if 0 ≤ m ∧ m < s ∧ a = 0 ∧ n = 0 then some (0) else none) w) := by
  have heq := var_eq lv s k m a n
  by_cases h : 0 ≤ m ∧ m < s ∧ a = 0 ∧ n = 0
  · rw [decide_eq_true h] at heq
    have hm : ∀ W b c, Box W b [.bool (decide (0 ≤ m)), .bool (decide (m < s)), .bool ((a == 0)), .bool (((n : Int) == 0))] → Calls Tryd.prog 26 #[.slice (some ⟨b, 0, none⟩) 4 c] W fun e w' => e = .returned (.tuple #[]) ∧ w' = W := fun W b c hB => by
      have h := must4 (decide (0 ≤ m)) (decide (m < s)) ((a == 0)) (((n : Int) == 0)) b c W hB
      rw [heq] at h
      exact h
    simp only [if_pos h, AskEnd, askEnd]
    have HM := Lib.hid hm
    clear hm heq h
    go_enter Tryd.func53, Tryd.ntmps53
    go_wp2_with fail
    refine (HM.out _ _ _ (Box.new' _ [_, _, _, _] _ (by simp))).mono ?_
    rintro e w1 ⟨rfl, rfl⟩
    go_wp2_with fail
    go_ret
    exact ⟨rfl, by (repeat (first | assumption | exact Below.refl _ _ | refine below_ch ?_ (by assumption) | refine below_ch ?_ ((Below.refl _ _).alloc (Nat.le_refl _) _)))⟩
  · rw [decide_eq_false h] at heq
    have hm : ∀ W b c, Box W b [.bool (decide (0 ≤ m)), .bool (decide (m < s)), .bool ((a == 0)), .bool (((n : Int) == 0))] → Calls Tryd.prog 26 #[.slice (some ⟨b, 0, none⟩) 4 c] W fun e w' => e = .panicked [{ v := .iface 52 (.agg #[]), recovered := false }] ∧ w' = W := fun W b c hB => by
      have h := must4 (decide (0 ≤ m)) (decide (m < s)) ((a == 0)) (((n : Int) == 0)) b c W hB
      rw [heq] at h
      exact h
    simp only [if_neg h, AskEnd, askEnd]
    have HM := Lib.hid hm
    clear hm heq h
    go_enter Tryd.func53, Tryd.ntmps53
    go_wp2_with fail
    refine (HM.out _ _ _ (Box.new' _ [_, _, _, _] _ (by simp))).mono ?_
    rintro e w1 ⟨rfl, rfl⟩
    go_wp2_with fail
    exact ⟨rfl, rfl, by (repeat (first | assumption | exact Below.refl _ _ | refine below_ch ?_ (by assumption) | refine below_ch ?_ ((Below.refl _ _).alloc (Nat.le_refl _) _)))⟩

theorem fin_eq (lv s k m a : Int) (n : Nat) : (decide (0 ≤ m) && ((a == 0) && ((n : Int) == 0))) = decide (0 ≤ m ∧ a = 0 ∧ n = 0) := by
  rw [Bool.eq_iff_iff]
  simp
  try omega
set_option maxHeartbeats 1000000 in
theorem fin_any (lv s : Int) (cv mv : Value) (k m a : Int) (A : Option Addr) (n c : Nat) (A' : Option Addr) (n' c' : Nat) (w : World) :
    Calls Tryd.prog 62 #[.agg #[.int .i64 lv, .int .i64 s, cv, mv], .agg #[.int .i64 k, .int .i64 m, .int .i64 a, .slice A n c, .slice A' n' c']] w (AskEnd (if 0 ≤ m ∧ a = 0 ∧ n = 0 then some (0) else none) w) := by
  have heq := fin_eq lv s k m a n
  by_cases h : 0 ≤ m ∧ a = 0 ∧ n = 0
  · rw [decide_eq_true h] at heq
    have hm : ∀ W b c, Box W b [.bool (decide (0 ≤ m)), .bool ((a == 0)), .bool (((n : Int) == 0))] → Calls Tryd.prog 26 #[.slice (some ⟨b, 0, none⟩) 3 c] W fun e w' => e = .returned (.tuple #[]) ∧ w' = W := fun W b c hB => by
      have h := must3 (decide (0 ≤ m)) ((a == 0)) (((n : Int) == 0)) b c W hB
      rw [heq] at h
      exact h
    simp only [if_pos h, AskEnd, askEnd]
    have HM := Lib.hid hm
    clear hm heq h
    go_enter Tryd.func62, Tryd.ntmps62
    go_wp2_with fail
    refine (HM.out _ _ _ (Box.new' _ [_, _, _] _ (by simp))).mono ?_
    rintro e w1 ⟨rfl, rfl⟩
    go_wp2_with fail
    go_ret
    exact ⟨rfl, by (repeat (first | assumption | exact Below.refl _ _ | refine below_ch ?_ (by assumption) | refine below_ch ?_ ((Below.refl _ _).alloc (Nat.le_refl _) _)))⟩
  · rw [decide_eq_false h] at heq
    have hm : ∀ W b c, Box W b [.bool (decide (0 ≤ m)), .bool ((a == 0)), .bool (((n : Int) == 0))] → Calls Tryd.prog 26 #[.slice (some ⟨b, 0, none⟩) 3 c] W fun e w' => e = .panicked [{ v := .iface 52 (.agg #[]), recovered := false }] ∧ w' = W := fun W b c hB => by
      have h := must3 (decide (0 ≤ m)) ((a == 0)) (((n : Int) == 0)) b c W hB
      rw [heq] at h
      exact h
    simp only [if_neg h, AskEnd, askEnd]
    have HM := Lib.hid hm
    clear hm heq h
    go_enter Tryd.func62, Tryd.ntmps62
    go_wp2_with fail
    refine (HM.out _ _ _ (Box.new' _ [_, _, _] _ (by simp))).mono ?_
    rintro e w1 ⟨rfl, rfl⟩
    go_wp2_with fail
    exact ⟨rfl, rfl, by (repeat (first | assumption | exact Below.refl _ _ | refine below_ch ?_ (by assumption) | refine below_ch ?_ ((Below.refl _ _).alloc (Nat.le_refl _) _)))⟩

theorem elem_eq (lv s k m a : Int) (n : Nat) : (decide (0 ≤ m) && (decide (m < a) && ((n : Int) == 0))) = decide (0 ≤ m ∧ m < a ∧ n = 0) := by
  rw [Bool.eq_iff_iff]
  simp
  try omega
set_option maxHeartbeats 1000000 in
theorem elem_any (lv s : Int) (cv mv : Value) (k m a : Int) (A : Option Addr) (n c : Nat) (A' : Option Addr) (n' c' : Nat) (w : World) :
    Calls Tryd.prog 63 #[.agg #[.int .i64 lv, .int .i64 s, cv, mv], .agg #[.int .i64 k, .int .i64 m, .int .i64 a, .slice A n c, .slice A' n' c']] w (AskEnd (if 0 ≤ m ∧ m < a ∧ n = 0 then some (0) else none) w) := by
  have heq := elem_eq lv s k m a n
  by_cases h : 0 ≤ m ∧ m < a ∧ n = 0
  · rw [decide_eq_true h] at heq
    have hm : ∀ W b c, Box W b [.bool (decide (0 ≤ m)), .bool (decide (m < a)), .bool (((n : Int) == 0))] → Calls Tryd.prog 26 #[.slice (some ⟨b, 0, none⟩) 3 c] W fun e w' => e = .returned (.tuple #[]) ∧ w' = W := fun W b c hB => by
      have h := must3 (decide (0 ≤ m)) (decide (m < a)) (((n : Int) == 0)) b c W hB
      rw [heq] at h
      exact h
    simp only [if_pos h, AskEnd, askEnd]
    have HM := Lib.hid hm
    clear hm heq h
    go_enter Tryd.func63, Tryd.ntmps63
    go_wp2_with fail
    refine (HM.out _ _ _ (Box.new' _ [_, _, _] _ (by simp))).mono ?_
    rintro e w1 ⟨rfl, rfl⟩
    go_wp2_with fail
    go_ret
    exact ⟨rfl, by (repeat (first | assumption | exact Below.refl _ _ | refine below_ch ?_ (by assumption) | refine below_ch ?_ ((Below.refl _ _).alloc (Nat.le_refl _) _)))⟩
  · rw [decide_eq_false h] at heq
    have hm : ∀ W b c, Box W b [.bool (decide (0 ≤ m)), .bool (decide (m < a)), .bool (((n : Int) == 0))] → Calls Tryd.prog 26 #[.slice (some ⟨b, 0, none⟩) 3 c] W fun e w' => e = .panicked [{ v := .iface 52 (.agg #[]), recovered := false }] ∧ w' = W := fun W b c hB => by
      have h := must3 (decide (0 ≤ m)) (decide (m < a)) (((n : Int) == 0)) b c W hB
      rw [heq] at h
      exact h
    simp only [if_neg h, AskEnd, askEnd]
    have HM := Lib.hid hm
    clear hm heq h
    go_enter Tryd.func63, Tryd.ntmps63
    go_wp2_with fail
    refine (HM.out _ _ _ (Box.new' _ [_, _, _] _ (by simp))).mono ?_
    rintro e w1 ⟨rfl, rfl⟩
    go_wp2_with fail
    exact ⟨rfl, rfl, by (repeat (first | assumption | exact Below.refl _ _ | refine below_ch ?_ (by assumption) | refine below_ch ?_ ((Below.refl _ _).alloc (Nat.le_refl _) _)))⟩

theorem branches_eq (lv s k m a : Int) (n : Nat) : ((m == 0) && (decide (0 ≤ a) && ((n : Int) == 0))) = decide (m = 0 ∧ 0 ≤ a ∧ n = 0) := by
  rw [Bool.eq_iff_iff]
  simp
  try omega
set_option maxHeartbeats 1000000 in
theorem branches_any (lv s : Int) (cv mv : Value) (k m a : Int) (A : Option Addr) (n c : Nat) (A' : Option Addr) (n' c' : Nat) (w : World) :
    Calls Tryd.prog 64 #[.agg #[.int .i64 lv, .int .i64 s, cv, mv], .agg #[.int .i64 k, .int .i64 m, .int .i64 a, .slice A n c, .slice A' n' c']] w (AskEnd (if m = 0 ∧ 0 ≤ a ∧ n = 0 then some (wrap64 (a + 2)) else none) w) := by
  have heq := branches_eq lv s k m a n
  by_cases h : m = 0 ∧ 0 ≤ a ∧ n = 0
  · rw [decide_eq_true h] at heq
    have hm : ∀ W b c, Box W b [.bool ((m == 0)), .bool (decide (0 ≤ a)), .bool (((n : Int) == 0))] → Calls Tryd.prog 26 #[.slice (some ⟨b, 0, none⟩) 3 c] W fun e w' => e = .returned (.tuple #[]) ∧ w' = W := fun W b c hB => by
      have h := must3 ((m == 0)) (decide (0 ≤ a)) (((n : Int) == 0)) b c W hB
      rw [heq] at h
      exact h
    simp only [if_pos h, AskEnd, askEnd]
    have HM := Lib.hid hm
    clear hm heq h
    go_enter Tryd.func64, Tryd.ntmps64
    go_wp2_with fail
    refine (HM.out _ _ _ (Box.new' _ [_, _, _] _ (by simp))).mono ?_
    rintro e w1 ⟨rfl, rfl⟩
    go_wp2_with fail
    go_ret
    exact ⟨rfl, by (repeat (first | assumption | exact Below.refl _ _ | refine below_ch ?_ (by assumption) | refine below_ch ?_ ((Below.refl _ _).alloc (Nat.le_refl _) _)))⟩
  · rw [decide_eq_false h] at heq
    have hm : ∀ W b c, Box W b [.bool ((m == 0)), .bool (decide (0 ≤ a)), .bool (((n : Int) == 0))] → Calls Tryd.prog 26 #[.slice (some ⟨b, 0, none⟩) 3 c] W fun e w' => e = .panicked [{ v := .iface 52 (.agg #[]), recovered := false }] ∧ w' = W := fun W b c hB => by
      have h := must3 ((m == 0)) (decide (0 ≤ a)) (((n : Int) == 0)) b c W hB
      rw [heq] at h
      exact h
    simp only [if_neg h, AskEnd, askEnd]
    have HM := Lib.hid hm
    clear hm heq h
    go_enter Tryd.func64, Tryd.ntmps64
    go_wp2_with fail
    refine (HM.out _ _ _ (Box.new' _ [_, _, _] _ (by simp))).mono ?_
    rintro e w1 ⟨rfl, rfl⟩
    go_wp2_with fail
    exact ⟨rfl, rfl, by (repeat (first | assumption | exact Below.refl _ _ | refine below_ch ?_ (by assumption) | refine below_ch ?_ ((Below.refl _ _).alloc (Nat.le_refl _) _)))⟩

end Go.Proofs.YtgegaipkfpdocaaDoor
