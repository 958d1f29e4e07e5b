/-
  THE WALK OF spandrellaw02.awake: the chapter's examples come out.
-/
import Derived.Test.YtgegaipkfpdocaaDoorLawB
namespace Go.Proofs.YtgegaipkfpdocaaDoor
open Go.RowKit

theorem below_chain {a b c : World} (h : Below a.heap.size a b) (k : Below b.heap.size b c) : Below a.heap.size a c := h.trans (k.mono h.size)
theorem ten_below {w w' : World} {b b' : Nat} {x0 x1 x2 x3 x4 y0 y1 y2 y3 y4 : Value} (hb : Below w.heap.size w w')
    (h : w.cell? ⟨b, 0, none⟩ = some x0 ∧ w.cell? ⟨b, 1, none⟩ = some x1 ∧ w.cell? ⟨b, 2, none⟩ = some x2 ∧ w.cell? ⟨b, 3, none⟩ = some x3 ∧ w.cell? ⟨b, 4, none⟩ = some x4 ∧
      w.cell? ⟨b', 0, none⟩ = some y0 ∧ w.cell? ⟨b', 1, none⟩ = some y1 ∧ w.cell? ⟨b', 2, none⟩ = some y2 ∧ w.cell? ⟨b', 3, none⟩ = some y3 ∧ w.cell? ⟨b', 4, none⟩ = some y4) :
    w'.cell? ⟨b, 0, none⟩ = some x0 ∧ w'.cell? ⟨b, 1, none⟩ = some x1 ∧ w'.cell? ⟨b, 2, none⟩ = some x2 ∧ w'.cell? ⟨b, 3, none⟩ = some x3 ∧ w'.cell? ⟨b, 4, none⟩ = some x4 ∧
      w'.cell? ⟨b', 0, none⟩ = some y0 ∧ w'.cell? ⟨b', 1, none⟩ = some y1 ∧ w'.cell? ⟨b', 2, none⟩ = some y2 ∧ w'.cell? ⟨b', 3, none⟩ = some y3 ∧ w'.cell? ⟨b', 4, none⟩ = some y4 :=
  ⟨cell_below hb h.1, cell_below hb h.2.1, cell_below hb h.2.2.1, cell_below hb h.2.2.2.1, cell_below hb h.2.2.2.2.1, cell_below hb h.2.2.2.2.2.1, cell_below hb h.2.2.2.2.2.2.1, cell_below hb h.2.2.2.2.2.2.2.1, cell_below hb h.2.2.2.2.2.2.2.2.1, cell_below hb h.2.2.2.2.2.2.2.2.2⟩

abbrev aT : Tm := .node 22 3 0 [] []
abbrev lamX : Tm := lamT (vT 0) (appT (vT 0) (vT 1))
abbrev lamY : Tm := lamT (vT 7) (appT (vT 0) (vT 8))
theorem eq_app : put [aT] 0 (appT (vT 0) (vT 1)) = appT aT (vT 0) := by rfl
theorem eq_lam : put [vT 7] 0 lamX = lamY := by kernel_rfl
theorem right_lam : rightB (fun _ => true) lamY = true := by rfl
theorem right_app : rightB (fun _ => true) (.node 6 0 0 [] []) = false := by rfl
theorem size_lam : size lamY = 5 := by rfl

theorem put_gives (bys : List Tm) (t u : Tm) (he : put bys 0 t = u) (hg : ranged t) (h1 : size t ≤ 1000000000000) (hgb : rangedL bys) (hs : sizeL bys ≤ 1000000000000) (vb vl vk : Value) (w : World) (hK : Kinds w) (hr : RT w t vl vk) (hb : RKv w bys vb) :
    Calls Tryd.prog 9 #[.agg #[.int .i64 t.kind, .int .i64 t.num, .int .i64 t.atN, vl, vk], vb] w (GivesT u w) := by
  have h := put_any bys vb t vl vk w hK hr hg h1 hb hgb hs
  rw [he] at h
  exact h.mono fun _ _ h => h.gives

set_option maxRecDepth 100000 in
set_option maxHeartbeats 8000000 in
theorem awake_any (w : World) (hK : Kinds w) : Calls Tryd.prog 13 #[] w fun e w' => e = .returned (.bool true) ∧ Below w.heap.size w w' := by
  go_enter Tryd.func13, Tryd.ntmps13
  go_wp2_with fail
  generalize hw0 : w.alloc (.cells #[.int .i64 22, .int .i64 3, .int .i64 0, .slice none 0 0, .slice none 0 0] 27) = w0
  have B1 : Box w0 w.heap.size [.int .i64 aT.kind, .int .i64 aT.num, .int .i64 aT.atN, .slice none 0 0, .slice none 0 0] := by rw [← hw0]; exact Box.new w [_, _, _, _, _] _
  have hb0 : Below w.heap.size w w0 := by rw [← hw0]; exact (Below.refl _ _).alloc (Nat.le_refl _) _
  have g0 : RT w0 aT (.slice none 0 0) (.slice none 0 0) := RT_leaf _ _ _ _
  clear hw0
  refine (v_any 0 _).mono ?_
  rintro e w1 ⟨A, n, c, A', n', c', rfl, g1, hb1⟩
  go_wp2_with fail
  refine (v_any 0 _).mono ?_
  rintro e w2 ⟨A, n, c, A', n', c', rfl, g2, hb2⟩
  go_wp2_with fail
  refine (v_any 1 _).mono ?_
  rintro e w3 ⟨A, n, c, A', n', c', rfl, g3, hb3⟩
  go_wp2_with fail
  refine (app_any _ _ _ _ _ _ _ _ _ _ _ _ _ _ _ ?_ ?_).mono ?_
  · (repeat (first | assumption | refine RT.below (by assumption) ?_ | refine RT.below ((Below.refl _ _).alloc (Nat.le_refl _) _) ?_ | refine RT.below ((Below.refl _ _).drew) ?_))
  · (repeat (first | assumption | refine RT.below (by assumption) ?_ | refine RT.below ((Below.refl _ _).alloc (Nat.le_refl _) _) ?_ | refine RT.below ((Below.refl _ _).drew) ?_))
  rintro e w4 ⟨A, n, c, A', n', c', rfl, g4, hb4⟩
  go_wp2_with fail
  refine (lam_any _ _ _ _ _ _ _ _ _ _ _ _ _ _ _ ?_ ?_).mono ?_
  · (repeat (first | assumption | refine RT.below (by assumption) ?_ | refine RT.below ((Below.refl _ _).alloc (Nat.le_refl _) _) ?_ | refine RT.below ((Below.refl _ _).drew) ?_))
  · (repeat (first | assumption | refine RT.below (by assumption) ?_ | refine RT.below ((Below.refl _ _).alloc (Nat.le_refl _) _) ?_ | refine RT.below ((Below.refl _ _).drew) ?_))
  rintro e w5 ⟨A, n, c, A', n', c', rfl, g5, hb5⟩
  go_wp2_with fail
  refine (v_any 7 _).mono ?_
  rintro e w6 ⟨A, n, c, A', n', c', rfl, g6, hb6⟩
  go_wp2_with fail
  refine (put_gives [vT 7] lamX lamY eq_lam (by simp [ranged, rangedL, I64]) (by simp [size, sizeL]) (by simp [ranged, rangedL, I64]) (by simp [size, sizeL]) _ _ _ _ ?_ ?_ ?_).mono ?_
  · (repeat (first | assumption | refine Kinds.below (by assumption) ?_ | refine Kinds.below ((Below.refl _ _).alloc (Nat.le_refl _) _) ?_ | refine Kinds.below ((Below.refl _ _).drew) ?_))
  · (repeat (first | assumption | refine RT.below (by assumption) ?_ | refine RT.below ((Below.refl _ _).alloc (Nat.le_refl _) _) ?_ | refine RT.below ((Below.refl _ _).drew) ?_))
  · exact RKv_one (Box.new w6 [_, _, _, _, _] _) (by (repeat (first | assumption | refine RT.below (by assumption) ?_ | refine RT.below ((Below.refl _ _).alloc (Nat.le_refl _) _) ?_ | refine RT.below ((Below.refl _ _).drew) ?_))) 1 (Nat.le_refl _)
  rintro e w7 ⟨AY, nY, cY, AZ, nZ, cZ, rfl, g7, hb7⟩
  replace g0 : RT w7 aT (.slice none 0 0) (.slice none 0 0) := RT_leaf _ _ _ _
  have B1' : Box w7 w.heap.size [.int .i64 aT.kind, .int .i64 aT.num, .int .i64 aT.atN, .slice none 0 0, .slice none 0 0] := by
    (repeat (first | assumption | refine Box.below ?_ (by assumption) | refine Box.alloc ?_ _))
  have HB : Below w.heap.size w w7 := by (repeat (first | assumption | exact Below.refl _ _ | refine below_chain ?_ (by assumption) | refine below_chain ?_ ((Below.refl _ _).alloc (Nat.le_refl _) _) | refine below_chain ?_ ((Below.refl _ _).drew)))
  clear g1 g2 g3 g4 g5 g6 B1
  go_wp2_with fail
  generalize hw8 : w7.alloc (.cells #[.int .i64 lamY.kind, .int .i64 lamY.num, .int .i64 lamY.atN, .slice AY nY cY, .slice AZ nZ cZ] 27) = w8
  have B2 : Box w8 w7.heap.size [.int .i64 lamY.kind, .int .i64 lamY.num, .int .i64 lamY.atN, .slice AY nY cY, .slice AZ nZ cZ] := by rw [← hw8]; exact Box.new w7 [_, _, _, _, _] _
  have hb8 : Below w7.heap.size w7 w8 := by rw [← hw8]; exact (Below.refl _ _).alloc (Nat.le_refl _) _
  have g8 : RT w8 lamY (.slice AY nY cY) (.slice AZ nZ cZ) := RT.below hb8 g7
  have k8 : Kinds w8 := Kinds.below (below_chain HB hb8) hK
  have B1 : Box w8 w.heap.size [.int .i64 aT.kind, .int .i64 aT.num, .int .i64 aT.atN, .slice none 0 0, .slice none 0 0] := B1'.below hb8
  have HB8 : Below w.heap.size w w8 := below_chain HB hb8
  have a0 : RT w8 aT (.slice none 0 0) (.slice none 0 0) := RT_leaf _ _ _ _
  have HZ := Lib.hid HB8
  clear hb0 hb1 hb2 hb3 hb4 hb5 hb6 hb7 hb8 g0 g7 B1' HB HB8 hK hw8
  generalize hbk : w.heap.size = b1 at *
  have HBK := Lib.hid hbk
  clear hbk
  generalize hbk : w7.heap.size = b2 at *
  clear hbk
  obtain ⟨c0, c1, c2, c3, c4⟩ := B1.five
  obtain ⟨d0, d1, d2, d3, d4⟩ := B2.five
  clear B1 B2
  go_region_held3 (fun w' => w'.cell? ⟨b1, 0, none⟩ = some (.int .i64 aT.kind) ∧ w'.cell? ⟨b1, 1, none⟩ = some (.int .i64 aT.num) ∧ w'.cell? ⟨b1, 2, none⟩ = some (.int .i64 aT.atN) ∧ w'.cell? ⟨b1, 3, none⟩ = some (.slice none 0 0) ∧ w'.cell? ⟨b1, 4, none⟩ = some (.slice none 0 0) ∧
      w'.cell? ⟨b2, 0, none⟩ = some (.int .i64 lamY.kind) ∧ w'.cell? ⟨b2, 1, none⟩ = some (.int .i64 lamY.num) ∧ w'.cell? ⟨b2, 2, none⟩ = some (.int .i64 lamY.atN) ∧ w'.cell? ⟨b2, 3, none⟩ = some (.slice AY nY cY) ∧ w'.cell? ⟨b2, 4, none⟩ = some (.slice AZ nZ cZ))
    (first
      | exact ⟨c0, c1, c2, c3, c4, d0, d1, d2, d3, d4⟩
      | exact ten_below hbx (by assumption)
      | exact ten_below ((Below.refl _ _).alloc (Nat.le_refl _) _) (by assumption))
    (first
      | (go_at_call 43
         refine (v_any _ _).mono ?_
         rintro e wx ⟨A, n, c, A', n', c', rfl, gx, hbx⟩)
      | (go_at_call 44
         refine (app_any _ _ _ _ _ _ _ _ _ _ _ _ _ _ _ ?_ ?_).mono ?_
         · (repeat (first | assumption | refine RT.below (by assumption) ?_ | refine RT.below ((Below.refl _ _).alloc (Nat.le_refl _) _) ?_ | refine RT.below ((Below.refl _ _).drew) ?_))
         · (repeat (first | assumption | refine RT.below (by assumption) ?_ | refine RT.below ((Below.refl _ _).alloc (Nat.le_refl _) _) ?_ | refine RT.below ((Below.refl _ _).drew) ?_))
         rintro e wx ⟨A, n, c, A', n', c', rfl, gx, hbx⟩)
      | (go_at_call 42
         refine (lam_any _ _ _ _ _ _ _ _ _ _ _ _ _ _ _ ?_ ?_).mono ?_
         · (repeat (first | assumption | refine RT.below (by assumption) ?_ | refine RT.below ((Below.refl _ _).alloc (Nat.le_refl _) _) ?_ | refine RT.below ((Below.refl _ _).drew) ?_))
         · (repeat (first | assumption | refine RT.below (by assumption) ?_ | refine RT.below ((Below.refl _ _).alloc (Nat.le_refl _) _) ?_ | refine RT.below ((Below.refl _ _).drew) ?_))
         rintro e wx ⟨A, n, c, A', n', c', rfl, gx, hbx⟩)
      | (go_at_call 9
         refine (put_gives [aT] (appT (vT 0) (vT 1)) (appT aT (vT 0)) eq_app (by simp [ranged, rangedL, I64]) (by simp [size, sizeL]) (by simp [ranged, rangedL, I64]) (by simp [size, sizeL]) _ _ _ _ ?_ ?_ ?_).mono ?_
         · (repeat (first | assumption | refine Kinds.below (by assumption) ?_ | refine Kinds.below ((Below.refl _ _).alloc (Nat.le_refl _) _) ?_ | refine Kinds.below ((Below.refl _ _).drew) ?_))
         · (repeat (first | assumption | refine RT.below (by assumption) ?_ | refine RT.below ((Below.refl _ _).alloc (Nat.le_refl _) _) ?_ | refine RT.below ((Below.refl _ _).drew) ?_))
         · (repeat (first | exact RKv_one (Box.new _ [_, _, _, _, _] _) (RT_leaf _ _ _ _) 1 (Nat.le_refl _) | refine RKv.below (by assumption) ?_))
         rintro e wx ⟨A, n, c, A', n', c', rfl, gx, hbx⟩)
      | (go_at_call 16
         refine (same_any _ _ _ _ _ _ _ ?_ ?_).mono ?_
         · (repeat (first | assumption | refine RT.below (by assumption) ?_ | refine RT.below ((Below.refl _ _).alloc (Nat.le_refl _) _) ?_ | refine RT.below ((Below.refl _ _).drew) ?_))
         · (repeat (first | assumption | refine RT.below (by assumption) ?_ | refine RT.below ((Below.refl _ _).alloc (Nat.le_refl _) _) ?_ | refine RT.below ((Below.refl _ _).drew) ?_))
         rintro e wx ⟨r, hr, rfl, hbx⟩
         obtain rfl : r = true := hr.2 rfl
         clear hr)
      | (go_at_call_of 20 (Value.slice AY nY cY)
         refine (right_any (fun _ => true) lamY _ _ _ ?_ ?_ ?_).mono ?_
         · (repeat (first | assumption | refine Kinds.below (by assumption) ?_ | refine Kinds.below ((Below.refl _ _).alloc (Nat.le_refl _) _) ?_ | refine Kinds.below ((Below.refl _ _).drew) ?_))
         · (repeat (first | assumption | refine RT.below (by assumption) ?_ | refine RT.below ((Below.refl _ _).alloc (Nat.le_refl _) _) ?_ | refine RT.below ((Below.refl _ _).drew) ?_))
         · intro l v W hl; simp [lvAll, lvAllL] at hl
         rw [right_lam]
         rintro e wx ⟨rfl, hbx⟩)
      | (go_at_call 20
         refine (right_any (fun _ => true) (.node 6 0 0 [] []) _ _ _ ?_ (RT_leaf _ _ _ _) ?_).mono ?_
         · (repeat (first | assumption | refine Kinds.below (by assumption) ?_ | refine Kinds.below ((Below.refl _ _).alloc (Nat.le_refl _) _) ?_ | refine Kinds.below ((Below.refl _ _).drew) ?_))
         · intro l v W hl; simp [lvAll, lvAllL] at hl
         rw [right_app]
         rintro e wx ⟨rfl, hbx⟩)
      | (go_at_call 17
         refine (size_any lamY _ _ _ ?_ ?_).mono ?_
         · (repeat (first | assumption | refine RT.below (by assumption) ?_ | refine RT.below ((Below.refl _ _).alloc (Nat.le_refl _) _) ?_ | refine RT.below ((Below.refl _ _).drew) ?_))
         · simp [size, sizeL]
         rw [size_lam]
         rintro e wx ⟨rfl, hbx⟩))
  all_goals
    have hz : Below w.heap.size w w8 := by have h := HZ.out; rw [← HBK.out] at h; exact h
    go_wp2_with fail
    go_ret
    exact ⟨rfl, by (repeat (first | assumption | exact Below.refl _ _ | refine below_chain ?_ (by assumption) | refine below_chain ?_ ((Below.refl _ _).alloc (Nat.le_refl _) _) | refine below_chain ?_ ((Below.refl _ _).drew)))⟩

end Go.Proofs.YtgegaipkfpdocaaDoor
