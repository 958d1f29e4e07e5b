/-
  THE WALKS OF core: levels, sort, constant.
-/
import Derived.Test.YtajpkhkfffdclaaDoorCoreA
namespace Go.Proofs.YtajpkhkfffdclaaDoor
open Go.RowKit
set_option linter.unusedSimpArgs false
set_option linter.unusedVariables false
set_option maxRecDepth 100000

theorem mustF (b c : Nat) (w : World) (hB : Box w b [.bool false]) : Calls Tryd.prog 48 #[.slice (some ⟨b, 0, none⟩) 1 c] w fun e w' => e = .panicked [{ v := .iface 70 (.agg #[]), recovered := false }] ∧ w' = w := must1 false b c w hB
theorem mustT (b c : Nat) (w : World) (hB : Box w b [.bool true]) : Calls Tryd.prog 48 #[.slice (some ⟨b, 0, none⟩) 1 c] w fun e w' => e = .returned (.tuple #[]) ∧ w' = w := must1 true b c w hB
theorem all_drop {α : Type} {f : α → Bool} {xs : List α} {j : Nat} {x : α} (h : xs[j]? = some x) : (xs.drop j).all f = (f x && (xs.drop (j + 1)).all f) := by
  obtain ⟨hj, rfl⟩ := List.getElem?_eq_some_iff.1 h
  rw [List.drop_eq_getElem_cons hj, List.all_cons]

theorem rightsL_any (lv s : Int) (ls : List Lv) (v : Value) (w : World) (hv : RLv w ls v) :
    Calls Tryd.prog 108 #[.agg #[.int .i64 lv, .int .i64 s], v] w fun e w' => e = mustEnd (ls.all (lvRight lv)) ∧ Below w.heap.size w w' := by
  obtain ⟨A, c, rfl, hc, hm, hx⟩ := hv
  generalize hnn : ls.length = n at *
  have HN := Lib.hid hnn
  have HX := Lib.hid hx
  clear hnn hx
  go_enter Tryd.func108, Tryd.ntmps108
  go_wp2_with fail
  generalize hw0 : w.alloc (.cells #[.int .i64 lv, .int .i64 s] 74) = w0
  have B0 : Box w0 w.heap.size [.int .i64 lv, .int .i64 s] := by rw [← hw0]; exact Box.new w [_, _] _
  have hb0 : Below w.heap.size w w0 := by rw [← hw0]; exact (Below.refl _ _).alloc (Nat.le_refl _) _
  clear hw0
  go_loopw [5, 8] (fun _ i wr => ∃ (j : Nat), j ≤ n ∧ i = .int .i64 j ∧ Hid (ls.all (lvRight lv) = (ls.drop j).all (lvRight lv)) ∧ Below w0.heap.size w0 wr) (fun _ i _ => n - (intOf i).toNat)
  case atStart => exact ⟨0, Nat.zero_le _, rfl, rfl, Below.refl _ _⟩
  case round =>
    obtain ⟨j, hj, rfl, hp, hb⟩ := hrel
    have hbw := below_ch hb0 hb
    by_cases hlt : j < n
    · obtain ⟨b, o, rfl, hc⟩ := HX.out (by omega)
      obtain ⟨x, hxj⟩ : ∃ x, ls[j]? = some x := ⟨_, List.getElem?_eq_getElem (by have := HN.out; omega)⟩
      obtain ⟨vx, hcj, hrx⟩ := (hc.below hbw).get hxj
      obtain ⟨c0, c1⟩ : wr.cell? ⟨w.heap.size, 0, none⟩ = some (.int .i64 lv) ∧ wr.cell? ⟨w.heap.size, 1, none⟩ = some (.int .i64 s) := ⟨(B0.below hb).cell rfl, (B0.below hb).cell rfl⟩
      have hcall := fun W (h : Below wr.heap.size wr W) => lright_any lv x vx W (hrx.below h)
      obtain ⟨A7, n7, c7, rfl⟩ := hrx.form
      have hlt' : (j : Int) < (n : Int) := by omega
      have hj0 : (0 : Int) ≤ (j : Int) := by omega
      have hd := all_drop (f := lvRight lv) hxj
      have HD := Lib.hid (hp.out.trans hd)
      have HC := Lib.hid hcall
      clear hc hd hxj HX hrx hcall hp
      have c0' : ∀ o, (wr.alloc o).cell? ⟨w.heap.size, 0, none⟩ = some (.int .i64 lv) := fun o => cell_below ((Below.refl _ _).alloc (Nat.le_refl _) o) c0
      go_wp2_with fail
      refine (HC.out _ ((Below.refl _ _).alloc (Nat.le_refl _) _)).mono ?_
      rintro e w1 ⟨rfl, hb1⟩
      have HB : Hid (Below w.heap.size w w1) := below_ch (below_ch hbw ((Below.refl _ _).alloc (Nat.le_refl _) _)) hb1
      have HB2 : Hid (Below w0.heap.size w0 w1) := below_ch (below_ch hb ((Below.refl _ _).alloc (Nat.le_refl _) _)) hb1
      clear hb1 HC c0'
      generalize lvRight lv x = r at *
      cases r with
      | false =>
        go_wp2_with fail
        refine (mustF _ _ _ (Box.new' _ [_] _ (by simp))).mono ?_
        rintro e w2 ⟨rfl, rfl⟩
        go_wp2_with fail
        refine ⟨rfl, ?_, below_ch HB.out ((Below.refl _ _).alloc (Nat.le_refl _) _)⟩
        have := HD.out
        rw [this]
        rfl
      | true =>
        go_wp2_with fail
        refine (mustT _ _ _ (Box.new' _ [_] _ (by simp))).mono ?_
        rintro e w2 ⟨rfl, rfl⟩
        go_wp2_with fail
        go_roundw
        case rel => exact ⟨j + 1, by omega, by go_num, by have := HD.out; rwa [Bool.true_and] at this, below_ch HB2.out ((Below.refl _ _).alloc (Nat.le_refl _) _)⟩
        case measure => simp [intOf]; omega
    · obtain rfl : j = n := by omega
      have hd : ls.all (lvRight lv) = true := by rw [hp.out, List.drop_of_length_le (by have := HN.out; omega)]; rfl
      have HD := Lib.hid hd
      clear hd HX
      go_wp2_with fail
      go_end0
      exact ⟨by rw [HD.out]; rfl, hbw⟩

end Go.Proofs.YtajpkhkfffdclaaDoor
