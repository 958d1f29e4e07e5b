/-
  THE WALKS OF core.must AND OF THE SEARCH BELOW IT.
-/
import Derived.Test.YtgegaipkfpdocaaDoorCoreP
namespace Go.Proofs.YtgegaipkfpdocaaDoor
open Go.RowKit
set_option linter.unusedSimpArgs false
set_option linter.unusedVariables false

theorem below_ch {a b c : World} (h : Below a.heap.size a b) (k : Below b.heap.size b c) : Below a.heap.size a c := h.trans (k.mono h.size)
/-- A search's answer. -/
def FoundB (p : Bool) (w : World) (e : Ending) (w' : World) : Prop := ∃ r : Int, e = .returned (.int .i64 r) ∧ (if p then 0 ≤ r else r = -1) ∧ w' = w
theorem any_dropB {α : Type} {f : α → Bool} {xs : List α} {j : Nat} {x : α} (h : xs[j]? = some x) : (xs.drop j).any f = (f x || (xs.drop (j + 1)).any f) := by
  obtain ⟨hj, rfl⟩ := List.getElem?_eq_some_iff.1 h
  rw [List.drop_eq_getElem_cons hj, List.any_cons]

set_option maxRecDepth 100000 in
theorem indexB_any (xs : List Bool) (b c : Nat) (w : World) (hn : xs.length ≤ 1000) (hx : ∀ i x, xs[i]? = some x → w.cell? ⟨b, i, none⟩ = some (.bool x)) :
    Calls Tryd.prog 83 #[.slice (some ⟨b, 0, none⟩) xs.length c, .bool false] w (FoundB (xs.any (!·)) w) := by
  generalize hnn : xs.length = n at *
  have HN := Lib.hid hnn
  have HX := Lib.hid hx
  clear hnn hx
  go_enter Tryd.func83, Tryd.ntmps83
  go_wp2_with fail
  go_loopw [5, 8] (fun _ i wr => ∃ (j : Nat), j ≤ n ∧ i = .int .i64 j ∧ Hid (xs.any (!·) = (xs.drop j).any (!·)) ∧ wr = w) (fun _ i _ => n - (intOf i).toNat)
  case atStart => exact ⟨0, Nat.zero_le _, rfl, rfl, rfl⟩
  case round =>
    obtain ⟨j, hj, rfl, hp, rfl⟩ := hrel
    by_cases hlt : j < n
    · obtain ⟨x, hxj⟩ : ∃ x, xs[j]? = some x := ⟨_, List.getElem?_eq_getElem (by have := HN.out; omega)⟩
      have hcj := HX.out j x hxj
      have hlt' : (j : Int) < (n : Int) := by omega
      have hj0 : (0 : Int) ≤ (j : Int) := by omega
      have hd := any_dropB (f := (!·)) hxj
      have HD := Lib.hid (hp.out.trans hd)
      clear hd hxj HX
      cases x with
      | false =>
        go_wp2_with fail
        go_ret
        exact ⟨j, rfl, by rw [HD.out]; simp, rfl⟩
      | true =>
        go_wp2_with fail
        go_roundw
        case rel => exact ⟨j + 1, by omega, by go_num, by have h := HD.out; simp only [Bool.not_true, Bool.false_or] at h; exact h, by simp⟩
        case measure => simp [intOf]; omega
    · obtain rfl : j = n := by omega
      have hd : xs.any (!·) = false := by rw [hp.out, List.drop_of_length_le (by have := HN.out; omega)]; rfl
      have HD := Lib.hid hd
      clear hd HX
      go_wp2_with fail
      go_ret
      exact ⟨-1, rfl, by rw [HD.out, if_neg (by simp)], rfl⟩

theorem containsB_any (xs : List Bool) (b c : Nat) (w : World) (hn : xs.length ≤ 1000) (hx : ∀ i x, xs[i]? = some x → w.cell? ⟨b, i, none⟩ = some (.bool x)) :
    Calls Tryd.prog 52 #[.slice (some ⟨b, 0, none⟩) xs.length c, .bool false] w fun e w' => e = .returned (.bool (xs.any (!·))) ∧ w' = w := by
  have hcall := indexB_any xs b c w hn hx
  generalize xs.any (!·) = p at *
  generalize xs.length = n at *
  clear hx
  go_enter Tryd.func52, Tryd.ntmps52
  go_wp2_with fail
  refine hcall.mono ?_
  rintro e w1 ⟨r, rfl, hr, rfl⟩
  have HR := Lib.hid hr
  clear hr hcall
  by_cases h0 : 0 ≤ r
  · go_wp2_with fail
    go_ret
    refine ⟨ret_bool ?_, rfl⟩
    have := HR.out
    cases p <;> simp_all
    try omega
  · go_wp2_with fail
    go_ret
    refine ⟨ret_bool ?_, rfl⟩
    have := HR.out
    cases p <;> simp_all
    try omega

/-- What is thrown. -/
def wrongEnd : Ending := .panicked [{ v := .iface 52 (.agg #[]), recovered := false }]
/-- How must ends. -/
def mustEnd (ok : Bool) : Ending := if ok then .returned (.tuple #[]) else wrongEnd

theorem must_any (xs : List Bool) (b c : Nat) (w : World) (hn : xs.length ≤ 1000) (hx : ∀ i x, xs[i]? = some x → w.cell? ⟨b, i, none⟩ = some (.bool x)) :
    Calls Tryd.prog 26 #[.slice (some ⟨b, 0, none⟩) xs.length c] w fun e w' => e = mustEnd (!xs.any (!·)) ∧ w' = w := by
  have hcall := containsB_any xs b c w hn hx
  generalize xs.any (!·) = p at *
  generalize xs.length = n at *
  clear hx
  go_enter Tryd.func26, Tryd.ntmps26
  go_wp2_with fail
  refine hcall.mono ?_
  rintro e w1 ⟨rfl, rfl⟩
  clear hcall
  cases p
  · go_wp2_with fail
    go_end0
    exact ⟨rfl, rfl⟩
  · go_wp2_with fail
    exact ⟨rfl, rfl, rfl⟩

end Go.Proofs.YtgegaipkfpdocaaDoor
