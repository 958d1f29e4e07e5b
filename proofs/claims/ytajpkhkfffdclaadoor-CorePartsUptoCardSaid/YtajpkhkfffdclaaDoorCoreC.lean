/-
  THE WALKS OF core: sort, constant.
-/
import Derived.Test.YtajpkhkfffdclaaDoorCoreB
namespace Go.Proofs.YtajpkhkfffdclaaDoor
open Go.RowKit
set_option linter.unusedSimpArgs false
set_option linter.unusedVariables false
set_option maxRecDepth 100000

/-- A slice of ints. -/
def RIv (w : World) (xs : List Int) (v : Value) : Prop :=
  ∃ A c, v = .slice A xs.length c ∧ xs.length ≤ c ∧ xs.length ≤ 17592186044416 ∧ (0 < xs.length → ∃ b o, A = some ⟨b, o, none⟩ ∧ ∀ (i : Nat) x, xs[i]? = some x → w.cell? ⟨b, o + i, none⟩ = some (.int .i64 x))
theorem RIv.below {w w1 : World} (hb : Below w.heap.size w w1) {xs : List Int} {v : Value} (h : RIv w xs v) : RIv w1 xs v := by
  obtain ⟨A, c, e, h1, h2, h3⟩ := h
  refine ⟨A, c, e, h1, h2, fun hp => ?_⟩
  obtain ⟨b, o, eA, h⟩ := h3 hp
  exact ⟨b, o, eA, fun i x hi => cell_below hb (h i x hi)⟩

theorem must3T {x y z : Bool} (h : (x && (y && z)) = true) (b c : Nat) (w : World) (hB : Box w b [.bool x, .bool y, .bool z]) : Calls Tryd.prog 48 #[.slice (some ⟨b, 0, none⟩) 3 c] w fun e w' => e = .returned (.tuple #[]) ∧ w' = w := by
  have h1 := must3 x y z b c w hB
  rw [h] at h1
  exact h1
theorem must3F {x y z : Bool} (h : (x && (y && z)) = false) (b c : Nat) (w : World) (hB : Box w b [.bool x, .bool y, .bool z]) : Calls Tryd.prog 48 #[.slice (some ⟨b, 0, none⟩) 3 c] w fun e w' => e = .panicked [{ v := .iface 70 (.agg #[]), recovered := false }] ∧ w' = w := by
  have h1 := must3 x y z b c w hB
  rw [h] at h1
  exact h1

theorem sort_eq (m a : Int) (n : Nat) : ((m == 0) && ((a == 0) && ((n : Int) == 1))) = decide (m = 0 ∧ a = 0 ∧ n = 1) := by
  rw [Bool.eq_iff_iff]
  simp
  try omega
set_option maxHeartbeats 1000000 in
theorem sort_any (lv s : Int) (cv mv : Value) (k m a : Int) (ls : List Lv) (vl : Value) (A' : Option Addr) (n' c' : Nat) (w : World) (hv : RLv w ls vl) :
    Calls Tryd.prog 80 #[.agg #[.int .i64 lv, .int .i64 s, cv, mv], .agg #[.int .i64 k, .int .i64 m, .int .i64 a, vl, .slice A' n' c']] w
      (AskEnd (if m = 0 ∧ a = 0 ∧ ls.length = 1 ∧ ls.all (lvRight lv) = true then some 0 else none) w) := by
  have hr := fun W (h : Below w.heap.size w W) => rightsL_any lv s ls vl W (hv.below h)
  obtain ⟨A, c, rfl, _⟩ := hv
  generalize ls.length = n at *
  have heq := sort_eq m a n
  have HR := Lib.hid hr
  clear hr
  by_cases h : m = 0 ∧ a = 0 ∧ n = 1
  · rw [decide_eq_true h] at heq
    generalize ls.all (lvRight lv) = r at *
    have hi : (if m = 0 ∧ a = 0 ∧ n = 1 ∧ r = true then some (0 : Int) else none) = if r = true then some 0 else none := by simp [h]
    rw [hi]
    have HQ := Lib.hid heq
    clear heq hi h
    cases r with
    | true =>
      go_enter Tryd.func80, Tryd.ntmps80
      go_wp2_with fail
      refine (must3T HQ.out _ _ _ (Box.new' _ [_, _, _] _ (by simp))).mono ?_
      rintro e w1 ⟨rfl, rfl⟩
      go_wp2_with fail
      refine (HR.out _ (((Below.refl _ _).alloc (Nat.le_refl _) _).alloc (by simp) _ |>.alloc (by simp; omega) _)).mono ?_
      rintro e w1 ⟨rfl, hb1⟩
      simp only [mustEnd, if_pos]
      go_wp2_with fail
      go_ret
      exact ⟨rfl, below_ch (((Below.refl _ _).alloc (Nat.le_refl _) _).alloc (by simp) _ |>.alloc (by simp; omega) _) hb1⟩
    | false =>
      have HR2 : Hid (∀ W, Below w.heap.size w W → Calls Tryd.prog 108 #[.agg #[.int .i64 lv, .int .i64 s], .slice A n c] W fun e w' => e = .panicked [{ v := .iface 70 (.agg #[]), recovered := false }] ∧ Below W.heap.size W w') := Lib.hid HR.out
      clear HR
      go_enter Tryd.func80, Tryd.ntmps80
      go_wp2_with fail
      refine (must3T HQ.out _ _ _ (Box.new' _ [_, _, _] _ (by simp))).mono ?_
      rintro e w1 ⟨rfl, rfl⟩
      go_wp2_with fail
      refine (HR2.out _ (((Below.refl _ _).alloc (Nat.le_refl _) _).alloc (by simp) _ |>.alloc (by simp; omega) _)).mono ?_
      rintro e w1 ⟨rfl, hb1⟩
      go_wp2_with fail
      exact ⟨rfl, rfl, below_ch (((Below.refl _ _).alloc (Nat.le_refl _) _).alloc (by simp) _ |>.alloc (by simp; omega) _) hb1⟩
  · rw [decide_eq_false h] at heq
    have hi : (if m = 0 ∧ a = 0 ∧ n = 1 ∧ ls.all (lvRight lv) = true then some (0 : Int) else none) = none := if_neg (fun h' => h ⟨h'.1, h'.2.1, h'.2.2.1⟩)
    rw [hi]
    have HQ := Lib.hid heq
    clear heq hi h HR
    go_enter Tryd.func80, Tryd.ntmps80
    go_wp2_with fail
    refine (must3F HQ.out _ _ _ (Box.new' _ [_, _, _] _ (by simp))).mono ?_
    rintro e w1 ⟨rfl, rfl⟩
    go_wp2_with fail
    exact ⟨rfl, rfl, ((Below.refl _ _).alloc (Nat.le_refl _) _).alloc (by simp) _ |>.alloc (by simp; omega) _⟩

end Go.Proofs.YtajpkhkfffdclaaDoor
