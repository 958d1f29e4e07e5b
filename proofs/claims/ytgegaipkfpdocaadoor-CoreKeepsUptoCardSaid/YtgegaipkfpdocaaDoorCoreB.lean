/-
  THE WALKS OF core: levels, sort, constant.
  THE WALKS OF core: sort, constant.
  THE WALK OF core: constant.
-/
import Derived.Test.YtgegaipkfpdocaaDoorCoreA
import Derived.Test.YtgegaipkfpdocaaDoorInts
namespace Go.Proofs.YtgegaipkfpdocaaDoor
open Go.RowKit
set_option linter.unusedSimpArgs false
set_option linter.unusedVariables false
set_option maxRecDepth 100000

theorem mustF (b c : Nat) (w : World) (hB : Box w b [.bool false]) : Calls Tryd.prog 26 #[.slice (some ⟨b, 0, none⟩) 1 c] w fun e w' => e = .panicked [{ v := .iface 52 (.agg #[]), recovered := false }] ∧ w' = w := must1 false b c w hB
theorem mustT (b c : Nat) (w : World) (hB : Box w b [.bool true]) : Calls Tryd.prog 26 #[.slice (some ⟨b, 0, none⟩) 1 c] w fun e w' => e = .returned (.tuple #[]) ∧ w' = w := must1 true b c w hB
theorem all_drop {α : Type} {f : α → Bool} {xs : List α} {j : Nat} {x : α} (h : xs[j]? = some x) : (xs.drop j).all f = (f x && (xs.drop (j + 1)).all f) := by
  obtain ⟨hj, rfl⟩ := List.getElem?_eq_some_iff.1 h
  rw [List.drop_eq_getElem_cons hj, List.all_cons]

theorem rightsL_any (lv s : Int) (ls : List Lv) (v : Value) (w : World) (hv : RLv w ls v) :
    Calls Tryd.prog 84 #[.agg #[.int .i64 lv, .int .i64 s], v] w fun e w' => e = mustEnd (ls.all (lvRight lv)) ∧ Below w.heap.size w w' := by
  obtain ⟨A, c, rfl, hc, hm, hx⟩ := hv
  generalize hnn : ls.length = n at *
  have HN := Lib.hid hnn
  have HX := Lib.hid hx
  clear hnn hx
  go_enter Tryd.func84, Tryd.ntmps84
  go_wp2_with fail
  generalize hw0 : w.alloc (.cells #[.int .i64 lv, .int .i64 s] 56) = w0
  have B0 : Box w0 w.heap.size [.int .i64 lv, .int .i64 s] := by rw [← hw0]; exact Box.new w [_, _] _
  have hb0 : Below w.heap.size w w0 := by rw [← hw0]; exact (Below.refl _ _).alloc (Nat.le_refl _) _
  clear hw0
  go_loopw [5, 8] (fun _ i wr => ∃ (j : Nat), j ≤ n ∧ i = .int .i64 j ∧ Hid (ls.all (lvRight lv) = (ls.drop j).all (lvRight lv)) ∧ Below w0.heap.size w0 wr) (fun _ i _ => n - (intOf i).toNat)
  case atStart => exact ⟨0, Nat.zero_le _, rfl, rfl, Below.refl _ _⟩
  case round =>
    obtain ⟨j, hj, rfl, hp, hb⟩ := hrel
    have hbw := below_ch hb0 hb
    by_cases hlt : j < n
    · obtain ⟨b, o, rfl, hc⟩ := HX.out (by omega)
      obtain ⟨x, hxj⟩ : ∃ x, ls[j]? = some x := ⟨_, List.getElem?_eq_getElem (by have := HN.out; omega)⟩
      obtain ⟨vx, hcj, hrx⟩ := (hc.below hbw).get hxj
      obtain ⟨c0, c1⟩ : wr.cell? ⟨w.heap.size, 0, none⟩ = some (.int .i64 lv) ∧ wr.cell? ⟨w.heap.size, 1, none⟩ = some (.int .i64 s) := ⟨(B0.below hb).cell rfl, (B0.below hb).cell rfl⟩
      have hcall := fun W (h : Below wr.heap.size wr W) => lright_any lv x vx W (hrx.below h)
      obtain ⟨A7, n7, c7, rfl⟩ := hrx.form
      have hlt' : (j : Int) < (n : Int) := by omega
      have hj0 : (0 : Int) ≤ (j : Int) := by omega
      have hd := all_drop (f := lvRight lv) hxj
      have HD := Lib.hid (hp.out.trans hd)
      have HC := Lib.hid hcall
      clear hc hd hxj HX hrx hcall hp
      have c0' : ∀ o, (wr.alloc o).cell? ⟨w.heap.size, 0, none⟩ = some (.int .i64 lv) := fun o => cell_below ((Below.refl _ _).alloc (Nat.le_refl _) o) c0
      go_wp2_with fail
      refine (HC.out _ ((Below.refl _ _).alloc (Nat.le_refl _) _)).mono ?_
      rintro e w1 ⟨rfl, hb1⟩
      have HB : Hid (Below w.heap.size w w1) := below_ch (below_ch hbw ((Below.refl _ _).alloc (Nat.le_refl _) _)) hb1
      have HB2 : Hid (Below w0.heap.size w0 w1) := below_ch (below_ch hb ((Below.refl _ _).alloc (Nat.le_refl _) _)) hb1
      clear hb1 HC c0'
      generalize lvRight lv x = r at *
      cases r with
      | false =>
        go_wp2_with fail
        refine (mustF _ _ _ (Box.new' _ [_] _ (by simp))).mono ?_
        rintro e w2 ⟨rfl, rfl⟩
        go_wp2_with fail
        refine ⟨rfl, ?_, below_ch HB.out ((Below.refl _ _).alloc (Nat.le_refl _) _)⟩
        have := HD.out
        rw [this]
        rfl
      | true =>
        go_wp2_with fail
        refine (mustT _ _ _ (Box.new' _ [_] _ (by simp))).mono ?_
        rintro e w2 ⟨rfl, rfl⟩
        go_wp2_with fail
        go_roundw
        case rel => exact ⟨j + 1, by omega, by go_num, by have := HD.out; rwa [Bool.true_and] at this, below_ch HB2.out ((Below.refl _ _).alloc (Nat.le_refl _) _)⟩
        case measure => simp [intOf]; omega
    · obtain rfl : j = n := by omega
      have hd : ls.all (lvRight lv) = true := by rw [hp.out, List.drop_of_length_le (by have := HN.out; omega)]; rfl
      have HD := Lib.hid hd
      clear hd HX
      go_wp2_with fail
      go_end0
      exact ⟨by rw [HD.out]; rfl, hbw⟩

open Go.RowKit
set_option linter.unusedSimpArgs false
set_option linter.unusedVariables false
set_option maxRecDepth 100000

theorem must3T {x y z : Bool} (h : (x && (y && z)) = true) (b c : Nat) (w : World) (hB : Box w b [.bool x, .bool y, .bool z]) : Calls Tryd.prog 26 #[.slice (some ⟨b, 0, none⟩) 3 c] w fun e w' => e = .returned (.tuple #[]) ∧ w' = w := by
  have h1 := must3 x y z b c w hB
  rw [h] at h1
  exact h1
theorem must3F {x y z : Bool} (h : (x && (y && z)) = false) (b c : Nat) (w : World) (hB : Box w b [.bool x, .bool y, .bool z]) : Calls Tryd.prog 26 #[.slice (some ⟨b, 0, none⟩) 3 c] w fun e w' => e = .panicked [{ v := .iface 52 (.agg #[]), recovered := false }] ∧ w' = w := by
  have h1 := must3 x y z b c w hB
  rw [h] at h1
  exact h1

theorem sort_eq (m a : Int) (n : Nat) : ((m == 0) && ((a == 0) && ((n : Int) == 1))) = decide (m = 0 ∧ a = 0 ∧ n = 1) := by
  rw [Bool.eq_iff_iff]
  simp
  try omega
set_option maxHeartbeats 1000000 in
theorem sort_any (lv s : Int) (cv mv : Value) (k m a : Int) (ls : List Lv) (vl : Value) (A' : Option Addr) (n' c' : Nat) (w : World) (hv : RLv w ls vl) :
    Calls Tryd.prog 54 #[.agg #[.int .i64 lv, .int .i64 s, cv, mv], .agg #[.int .i64 k, .int .i64 m, .int .i64 a, vl, .slice A' n' c']] w
      (AskEnd (if m = 0 ∧ a = 0 ∧ ls.length = 1 ∧ ls.all (lvRight lv) = true then some 0 else none) w) := by
  have hr := fun W (h : Below w.heap.size w W) => rightsL_any lv s ls vl W (hv.below h)
  obtain ⟨A, c, rfl, _⟩ := hv
  generalize ls.length = n at *
  have heq := sort_eq m a n
  have HR := Lib.hid hr
  clear hr
  by_cases h : m = 0 ∧ a = 0 ∧ n = 1
  · rw [decide_eq_true h] at heq
    generalize ls.all (lvRight lv) = r at *
    have hi : (if m = 0 ∧ a = 0 ∧ n = 1 ∧ r = true then some (0 : Int) else none) = if r = true then some 0 else none := by simp [h]
    rw [hi]
    have HQ := Lib.hid heq
    clear heq hi h
    cases r with
    | true =>
      go_enter Tryd.func54, Tryd.ntmps54
      go_wp2_with fail
      refine (must3T HQ.out _ _ _ (Box.new' _ [_, _, _] _ (by simp))).mono ?_
      rintro e w1 ⟨rfl, rfl⟩
      go_wp2_with fail
      refine (HR.out _ (((Below.refl _ _).alloc (Nat.le_refl _) _).alloc (by simp) _ |>.alloc (by simp; omega) _)).mono ?_
      rintro e w1 ⟨rfl, hb1⟩
      simp only [mustEnd, if_pos]
      go_wp2_with fail
      go_ret
      exact ⟨rfl, below_ch (((Below.refl _ _).alloc (Nat.le_refl _) _).alloc (by simp) _ |>.alloc (by simp; omega) _) hb1⟩
    | false =>
      have HR2 : Hid (∀ W, Below w.heap.size w W → Calls Tryd.prog 84 #[.agg #[.int .i64 lv, .int .i64 s], .slice A n c] W fun e w' => e = .panicked [{ v := .iface 52 (.agg #[]), recovered := false }] ∧ Below W.heap.size W w') := Lib.hid HR.out
      clear HR
      go_enter Tryd.func54, Tryd.ntmps54
      go_wp2_with fail
      refine (must3T HQ.out _ _ _ (Box.new' _ [_, _, _] _ (by simp))).mono ?_
      rintro e w1 ⟨rfl, rfl⟩
      go_wp2_with fail
      refine (HR2.out _ (((Below.refl _ _).alloc (Nat.le_refl _) _).alloc (by simp) _ |>.alloc (by simp; omega) _)).mono ?_
      rintro e w1 ⟨rfl, hb1⟩
      go_wp2_with fail
      exact ⟨rfl, rfl, below_ch (((Below.refl _ _).alloc (Nat.le_refl _) _).alloc (by simp) _ |>.alloc (by simp; omega) _) hb1⟩
  · rw [decide_eq_false h] at heq
    have hi : (if m = 0 ∧ a = 0 ∧ n = 1 ∧ ls.all (lvRight lv) = true then some (0 : Int) else none) = none := if_neg (fun h' => h ⟨h'.1, h'.2.1, h'.2.2.1⟩)
    rw [hi]
    have HQ := Lib.hid heq
    clear heq hi h HR
    go_enter Tryd.func54, Tryd.ntmps54
    go_wp2_with fail
    refine (must3F HQ.out _ _ _ (Box.new' _ [_, _, _] _ (by simp))).mono ?_
    rintro e w1 ⟨rfl, rfl⟩
    go_wp2_with fail
    exact ⟨rfl, rfl, ((Below.refl _ _).alloc (Nat.le_refl _) _).alloc (by simp) _ |>.alloc (by simp; omega) _⟩

open Go.RowKit
set_option linter.unusedSimpArgs false
set_option linter.unusedVariables false
set_option maxRecDepth 100000

theorem const_eq (m a : Int) (n : Nat) : (decide (0 ≤ m) && (decide (m < (n : Int)) && (a == 0))) = decide (0 ≤ m ∧ m < n ∧ a = 0) := by
  rw [Bool.eq_iff_iff]
  simp
set_option maxHeartbeats 4000000 in
theorem const_any (lv s : Int) (cs : List Int) (cv mv : Value) (k m a : Int) (ls : List Lv) (vl : Value) (A' : Option Addr) (n' c' : Nat) (w : World) (hv : RLv w ls vl) (hcs : RIv w cs cv) :
    Calls Tryd.prog 55 #[.agg #[.int .i64 lv, .int .i64 s, cv, mv], .agg #[.int .i64 k, .int .i64 m, .int .i64 a, vl, .slice A' n' c']] w
      (AskEnd (if 0 ≤ m ∧ m < cs.length ∧ a = 0 ∧ (ls.length : Int) = cs.getD m.toNat 0 ∧ ls.all (lvRight lv) = true then some 0 else none) w) := by
  have hr := fun W (h : Below w.heap.size w W) => rightsL_any lv s ls vl W (hv.below h)
  obtain ⟨A, c, rfl, _⟩ := hv
  obtain ⟨Ac, cc, rfl, hcc, hcm, hcx⟩ := hcs
  generalize ls.length = n at *
  have heq := const_eq m a cs.length
  have HR := Lib.hid hr
  clear hr
  by_cases h : 0 ≤ m ∧ m < cs.length ∧ a = 0
  · rw [decide_eq_true h] at heq
    obtain ⟨bc, oc, rfl, hcell⟩ := hcx (by omega)
    obtain ⟨x, hx⟩ : ∃ x, cs[m.toNat]? = some x := ⟨_, List.getElem?_eq_getElem (by omega)⟩
    have hcy := hcell m.toNat x hx
    have hg : cs.getD m.toNat 0 = x := by simp [List.getD, hx]
    generalize ls.all (lvRight lv) = r at *
    rw [hg]
    have hi : (if 0 ≤ m ∧ m < cs.length ∧ a = 0 ∧ (n : Int) = x ∧ r = true then some (0 : Int) else none) = if (n : Int) = x ∧ r = true then some 0 else none := by simp [h]
    rw [hi]
    obtain ⟨h0, h1, rfl⟩ := h
    clear heq hi hcell hx hg hcx
    generalize cs.length = nc at *
    have hxlt := cell_lt hcy
    obtain ⟨w0, hw0⟩ : ∃ w0, ((w.alloc (.cells #[.int .i64 lv, .int .i64 s, .slice (some ⟨bc, oc, none⟩) nc cc, mv] 60)).alloc (.cells #[.int .i64 k, .int .i64 m, .int .i64 0, .slice A n c, .slice A' n' c'] 27)).alloc (.cells #[.bool true, .bool true, .bool true] 4) = w0 := ⟨_, rfl⟩
    have B0 : Box w0 w.heap.size [.int .i64 lv, .int .i64 s, .slice (some ⟨bc, oc, none⟩) nc cc, mv] := by rw [← hw0]; exact ((Box.new w [_, _, _, _] _).alloc _).alloc _
    have B1 : Box w0 (w.heap.size + 1) [.int .i64 k, .int .i64 m, .int .i64 0, .slice A n c, .slice A' n' c'] := by rw [← hw0]; exact (Box.new' (w.alloc _) [_, _, _, _, _] _ (by simp)).alloc _
    have B2 : Box w0 (w.heap.size + 1 + 1) [.bool true, .bool true, .bool true] := by rw [← hw0]; exact Box.new' _ [_, _, _] _ (by simp)
    have hb0 : Below w.heap.size w w0 := by rw [← hw0]; exact (((Below.refl _ _).alloc (Nat.le_refl _) _).alloc (by simp) _).alloc (by simp; omega) _
    have hcx' := cell_below hb0 hcy
    have q1 := B0.cell (j := 2) rfl
    have q2 := B1.cell (j := 1) rfl
    have q3 := B1.cell (j := 3) rfl
    by_cases hnx : (n : Int) = x
    · have hnb : ((n : Int) == x) = true := by simp [hnx]
      cases r with
      | true =>
        rw [if_pos ⟨hnx, rfl⟩]
        clear hnx
        go_enter Tryd.func55, Tryd.ntmps55
        go_wp2_with fail
        refine (must3T (x := true) (y := true) (z := true) rfl _ _ _ B2).mono ?_
        rintro e w1 ⟨rfl, rfl⟩
        clear hw0 B2 hcy
        go_wp2_with fail
        go_still_tail 10, (by kernel_rfl)
        change wpList _ _ _ _ _ w1.drew
        generalize hwd : w1.drew = wd at *
        go_wp2_with fail
        refine (mustT _ _ _ (Box.new _ [_] _)).mono ?_
        rintro e wx ⟨rfl, rfl⟩
        have hb2 : Below w.heap.size w ((wd.alloc (.cells #[.bool true] 4))) := below_ch (below_ch hb0 (by rw [← hwd]; exact (Below.refl _ _).drew)) ((Below.refl _ _).alloc (Nat.le_refl _) _)
        have q4 : ((wd.alloc (.cells #[.bool true] 4))).cell? ⟨w.heap.size, 0, none⟩ = some (.int .i64 lv) := cell_below ((Below.refl _ _).alloc (Nat.le_refl _) _) (by rw [← hwd]; exact (B0.cell (j := 0) rfl))
        have q5 : ((wd.alloc (.cells #[.bool true] 4))).cell? ⟨w.heap.size, 1, none⟩ = some (.int .i64 s) := cell_below ((Below.refl _ _).alloc (Nat.le_refl _) _) (by rw [← hwd]; exact (B0.cell (j := 1) rfl))
        have q6 : ((wd.alloc (.cells #[.bool true] 4))).cell? ⟨w.heap.size + 1, 3, none⟩ = some (.slice A n c) := cell_below ((Below.refl _ _).alloc (Nat.le_refl _) _) (by rw [← hwd]; exact q3)
        go_wp2_with fail
        refine (HR.out _ hb2).mono ?_
        rintro e w2 ⟨rfl, hb3⟩
        simp only [mustEnd, if_pos]
        go_wp2_with fail
        go_ret
        exact ⟨rfl, below_ch hb2 hb3⟩
      | false =>
        rw [if_neg (fun h => by cases h.2)]
        have HR2 : Hid (∀ W, Below w.heap.size w W → Calls Tryd.prog 84 #[.agg #[.int .i64 lv, .int .i64 s], .slice A n c] W fun e w' => e = .panicked [{ v := .iface 52 (.agg #[]), recovered := false }] ∧ Below W.heap.size W w') := Lib.hid HR.out
        clear HR
        clear hnx
        go_enter Tryd.func55, Tryd.ntmps55
        go_wp2_with fail
        refine (must3T (x := true) (y := true) (z := true) rfl _ _ _ B2).mono ?_
        rintro e w1 ⟨rfl, rfl⟩
        clear hw0 B2 hcy
        go_wp2_with fail
        go_still_tail 10, (by kernel_rfl)
        change wpList _ _ _ _ _ w1.drew
        generalize hwd : w1.drew = wd at *
        go_wp2_with fail
        refine (mustT _ _ _ (Box.new _ [_] _)).mono ?_
        rintro e wx ⟨rfl, rfl⟩
        have hb2 : Below w.heap.size w ((wd.alloc (.cells #[.bool true] 4))) := below_ch (below_ch hb0 (by rw [← hwd]; exact (Below.refl _ _).drew)) ((Below.refl _ _).alloc (Nat.le_refl _) _)
        have q4 : ((wd.alloc (.cells #[.bool true] 4))).cell? ⟨w.heap.size, 0, none⟩ = some (.int .i64 lv) := cell_below ((Below.refl _ _).alloc (Nat.le_refl _) _) (by rw [← hwd]; exact (B0.cell (j := 0) rfl))
        have q5 : ((wd.alloc (.cells #[.bool true] 4))).cell? ⟨w.heap.size, 1, none⟩ = some (.int .i64 s) := cell_below ((Below.refl _ _).alloc (Nat.le_refl _) _) (by rw [← hwd]; exact (B0.cell (j := 1) rfl))
        have q6 : ((wd.alloc (.cells #[.bool true] 4))).cell? ⟨w.heap.size + 1, 3, none⟩ = some (.slice A n c) := cell_below ((Below.refl _ _).alloc (Nat.le_refl _) _) (by rw [← hwd]; exact q3)
        go_wp2_with fail
        refine (HR2.out _ hb2).mono ?_
        rintro e w2 ⟨rfl, hb3⟩
        go_wp2_with fail
        exact ⟨rfl, rfl, below_ch hb2 hb3⟩
    · have hnb : ((n : Int) == x) = false := by simp [hnx]
      rw [if_neg (fun h => hnx h.1)]
      go_enter Tryd.func55, Tryd.ntmps55
      go_wp2_with fail
      refine (must3T (x := true) (y := true) (z := true) rfl _ _ _ B2).mono ?_
      rintro e w1 ⟨rfl, rfl⟩
      clear hw0 B2 hcy
      go_wp2_with fail
      go_still_tail 10, (by kernel_rfl)
      change wpList _ _ _ _ _ w1.drew
      generalize hwd : w1.drew = wd at *
      go_wp2_with fail
      refine (mustF _ _ _ (Box.new _ [_] _)).mono ?_
      rintro e wx ⟨rfl, rfl⟩
      go_wp2_with fail
      exact ⟨rfl, rfl, below_ch (below_ch hb0 (by rw [← hwd]; exact (Below.refl _ _).drew)) ((Below.refl _ _).alloc (Nat.le_refl _) _)⟩
  · rw [decide_eq_false h] at heq
    have hi : (if 0 ≤ m ∧ m < cs.length ∧ a = 0 ∧ (n : Int) = cs.getD m.toNat 0 ∧ ls.all (lvRight lv) = true then some (0 : Int) else none) = none := if_neg (fun h' => h ⟨h'.1, h'.2.1, h'.2.2.1⟩)
    rw [hi]
    have HQ := Lib.hid heq
    clear heq hi h HR hcx
    generalize cs.length = nc at *
    go_enter Tryd.func55, Tryd.ntmps55
    go_wp2_with fail
    refine (must3F HQ.out _ _ _ (Box.new' _ [_, _, _] _ (by simp))).mono ?_
    rintro e w1 ⟨rfl, rfl⟩
    go_wp2_with fail
    exact ⟨rfl, rfl, ((Below.refl _ _).alloc (Nat.le_refl _) _).alloc (by simp) _ |>.alloc (by simp; omega) _⟩

end Go.Proofs.YtgegaipkfpdocaaDoor
