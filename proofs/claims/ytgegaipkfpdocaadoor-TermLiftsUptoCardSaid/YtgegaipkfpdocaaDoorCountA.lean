/-
  THE WALKS OF LevelOf, LevelsOf.
-/
import Derived.Test.YtgegaipkfpdocaaDoorCountP
import Derived.StillTailTactics
namespace Go.Proofs.YtgegaipkfpdocaaDoor
open Go.RowKit

theorem levelOf_any (l : Lv) (v : Value) (m : Int) (w : World) (h : RPv w l v) (h0 : 0 ≤ m) (h1 : m ≤ 1000000) :
    Calls Tryd.prog 94 #[.agg #[v], .int .i64 m] w fun e w' => e = .returned (.int .i64 (lvOf m l)) ∧ Below w.heap.size w w' := by
  obtain ⟨A, c, rfl, hc, hl, hcp⟩ := h
  clear hcp
  have hv : Hid (lvOf m l = min (1 + (l.length : Int)) (m + 1)) := rfl
  generalize l.length = n at *
  go_enter Tryd.func94, Tryd.ntmps94
  go_wp2_with fail
  all_goals
    go_ret
    exact ⟨ret_int (by have := hv.out; omega), (Below.refl _ _).alloc (Nat.le_refl _) _⟩

set_option maxHeartbeats 400000 in
theorem levelsOf_any (ls : List Lv) (v : Value) (m : Int) (w : World) (h : RLv w ls v) (h0 : 0 ≤ m) (h1 : m ≤ 1000000) :
    Calls Tryd.prog 82 #[v, .int .i64 m] w fun e w' => e = .returned (.int .i64 (lvsOf m 0 ls)) ∧ Below w.heap.size w w' := by
  obtain ⟨A, c, rfl, hc, hl, hcp⟩ := h
  generalize hnp : ls.length = n at *
  have HP := Lib.hid hnp; clear hnp
  have HCP := Lib.hid hcp; clear hcp
  go_enter Tryd.func82, Tryd.ntmps82
  go_wp2_with fail
  go_loopw [5, 6] (fun x i wr => ∃ (k : Nat) (y : Int), k ≤ n ∧ i = .int .i64 k ∧ x = .int .i64 y ∧ 0 ≤ y ∧ y ≤ 2 * m + 1 ∧ Hid (lvsOf m 0 ls = lvsOf m y (ls.drop k)) ∧ Below w.heap.size w wr) (fun _ i _ => n - (intOf i).toNat)
  case atStart => exact ⟨0, 0, Nat.zero_le _, rfl, rfl, by omega, by omega, rfl, Below.refl _ _⟩
  case round =>
    obtain ⟨k, y, hk, rfl, rfl, hy0, hy1, ht, hb⟩ := hrel
    by_cases hlt : k < n
    · obtain ⟨b, o, rfl, hcp⟩ := HCP.out (by omega)
      obtain ⟨p, hpk⟩ : ∃ p, ls[k]? = some p := ⟨_, List.getElem?_eq_getElem (by have := HP.out; omega)⟩
      obtain ⟨x, c1, hx⟩ := (hcp.below hb).get hpk
      have hd := lvsOf_take (m := m) hpk y
      have hbd := lvOf_bd m h0 p
      have hcall := levelOf_any p x m wr hx h0 h1
      clear hcp HCP hx hpk
      have hlt' : (k : Int) < (n : Int) := by omega
      have hk0 : (0 : Int) ≤ (k : Int) := by omega
      by_cases hym : y ≤ m
      · rw [if_pos hym] at hd
        have HD := Lib.hid hd; clear hd
        generalize lvOf m p = z at *
        go_wp2_with fail
        refine hcall.mono ?_
        rintro e w1 ⟨rfl, hb1⟩
        have HB := hb.trans (hb1.mono hb.size)
        clear hb1 hcall
        go_wp2_with fail
        go_roundw
        case rel => exact ⟨k + 1, y + z, by omega, by go_num, rfl, by omega, by omega, ht.out.trans HD.out, HB⟩
        case measure => simp [intOf]; omega
      · rw [if_neg hym] at hd
        have HD := Lib.hid (ht.out.trans hd); clear hd hcall
        go_wp2_with fail
        go_ret
        exact ⟨ret_int HD.out.symm, hb⟩
    · obtain rfl : k = n := by omega
      have hd : lvsOf m y (ls.drop k) = y := by rw [List.drop_of_length_le (by have := HP.out; omega)]; rfl
      have HD := Lib.hid (ht.out.trans hd); clear hd HCP
      go_wp2_with fail
      go_ret
      exact ⟨ret_int HD.out.symm, hb⟩

end Go.Proofs.YtgegaipkfpdocaaDoor
