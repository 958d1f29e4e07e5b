/-
  THE WALKS OF THE SMALL FUNCTIONS OF spandrellaw02: v, app, lam, same, great.
-/
import Derived.Test.YtgegaipkfpdocaaDoorLawH
namespace Go.Proofs.YtgegaipkfpdocaaDoor
open Go.RowKit

theorem v_any (n : Int) (w : World) : Calls Tryd.prog 43 #[.int .i64 n] w (GivesT (vT n) w) := by
  generalize hw1 : w.alloc (.cells #[.int .i64 0, .int .i64 0, .int .i64 0, .slice none 0 0, .slice none 0 0] 27) = w1
  have B : Box w1 w.heap.size [.int .i64 0, .int .i64 0, .int .i64 0, .slice none 0 0, .slice none 0 0] := by rw [← hw1]; exact Box.new w [_, _, _, _, _] _
  have b1 : Below w.heap.size w w1 := by rw [← hw1]; exact (Below.refl _ _).alloc (Nat.le_refl _) _
  obtain ⟨s0, s1, s2, s3, s4⟩ := B.five
  obtain ⟨r0, r1, r2, r3, r4⟩ := B.thaw
  have HW := Lib.hid hw1
  go_enter Tryd.func43, Tryd.ntmps43
  go_wp2_with fail
  obtain ⟨wf, ewf, F, hmv, hbf⟩ := put5 B (.int .i64 1) (.int .i64 n) (.int .i64 0) (.slice none 0 0) (.slice none 0 0)
  rw [ewf]
  obtain ⟨z0, z1, z2, z3, z4⟩ := F.five
  refine bodyPost_ret (v := .agg #[.int .i64 1, .int .i64 n, .int .i64 0, .slice none 0 0, .slice none 0 0]) (by simp [results, Tryd.results43, go_sem, z0, z1, z2, z3, z4]) rfl ?_
  exact ⟨_, _, _, _, _, _, rfl, RT_leaf _ _ _ _, b1.trans hbf⟩

set_option maxRecDepth 100000 in
theorem app_any (f a : Tm) (A1 : Option Addr) (n1 c1 : Nat) (A2 : Option Addr) (n2 c2 : Nat) (A3 : Option Addr) (n3 c3 : Nat) (A4 : Option Addr) (n4 c4 : Nat) (w : World) (hf : RT w f (.slice A1 n1 c1) (.slice A2 n2 c2)) (ha : RT w a (.slice A3 n3 c3) (.slice A4 n4 c4)) :
    Calls Tryd.prog 44 #[.agg #[.int .i64 f.kind, .int .i64 f.num, .int .i64 f.atN, .slice A1 n1 c1, .slice A2 n2 c2], .agg #[.int .i64 a.kind, .int .i64 a.num, .int .i64 a.atN, .slice A3 n3 c3, .slice A4 n4 c4]] w (GivesT (appT f a) w) := by
  generalize hw1 : (((w.alloc (.cells #[.int .i64 f.kind, .int .i64 f.num, .int .i64 f.atN, .slice A1 n1 c1, .slice A2 n2 c2] 27)).alloc (.cells #[.int .i64 a.kind, .int .i64 a.num, .int .i64 a.atN, .slice A3 n3 c3, .slice A4 n4 c4] 27)).alloc
    (.cells #[.int .i64 0, .int .i64 0, .int .i64 0, .slice none 0 0, .slice none 0 0] 27)).alloc (.cells #[.int .i64 f.kind, .int .i64 f.num, .int .i64 f.atN, .slice A1 n1 c1, .slice A2 n2 c2, .int .i64 a.kind, .int .i64 a.num, .int .i64 a.atN, .slice A3 n3 c3, .slice A4 n4 c4] 27) = w1
  have B : Box w1 (w.heap.size + 2) [.int .i64 0, .int .i64 0, .int .i64 0, .slice none 0 0, .slice none 0 0] := by rw [← hw1]; exact (Box.new' ((w.alloc _).alloc _) [_, _, _, _, _] _ (by simp)).alloc _
  have C : Box w1 (w.heap.size + 3) [.int .i64 f.kind, .int .i64 f.num, .int .i64 f.atN, .slice A1 n1 c1, .slice A2 n2 c2, .int .i64 a.kind, .int .i64 a.num, .int .i64 a.atN, .slice A3 n3 c3, .slice A4 n4 c4] := by rw [← hw1]; exact Box.new' (((w.alloc _).alloc _).alloc _) [_, _, _, _, _, _, _, _, _, _] _ (by simp)
  have b1 : Below w.heap.size w w1 := by rw [← hw1]; exact ((((Below.refl _ _).alloc (Nat.le_refl _) _).alloc (by simp) _).alloc (by simp; omega) _).alloc (by simp; omega) _
  obtain ⟨s0, s1, s2, s3, s4⟩ := B.five
  obtain ⟨r0, r1, r2, r3, r4⟩ := B.thaw
  have HW := Lib.hid hw1
  have HC := Lib.hid C
  clear C
  go_enter Tryd.func44, Tryd.ntmps44
  go_wp2_with fail
  obtain ⟨wf, ewf, F, hmv, hbf⟩ := put5 B (.int .i64 6) (.int .i64 0) (.int .i64 0) (.slice none 0 0) (.slice (some ⟨w.heap.size + 3, 0, none⟩) 2 2)
  rw [ewf]
  obtain ⟨z0, z1, z2, z3, z4⟩ := F.five
  have b2 := b1.trans (hbf.mono (by omega))
  have C2 : Box wf (w.heap.size + 3) _ := HC.out.move (hmv _ (by omega))
  refine bodyPost_ret (v := .agg #[.int .i64 6, .int .i64 0, .int .i64 0, .slice none 0 0, .slice (some ⟨w.heap.size + 3, 0, none⟩) 2 2]) (by simp [results, Tryd.results44, go_sem, z0, z1, z2, z3, z4]) rfl ?_
  exact ⟨_, _, _, _, _, _, rfl, (RT_iff _ _ _ _ _ _ _ _).2 ⟨RLv_nil _, RKv_two C2 (hf.below b2) (ha.below b2) 2 (Nat.le_refl _)⟩, b2⟩

set_option maxRecDepth 100000 in
theorem lam_any (f a : Tm) (A1 : Option Addr) (n1 c1 : Nat) (A2 : Option Addr) (n2 c2 : Nat) (A3 : Option Addr) (n3 c3 : Nat) (A4 : Option Addr) (n4 c4 : Nat) (w : World) (hf : RT w f (.slice A1 n1 c1) (.slice A2 n2 c2)) (ha : RT w a (.slice A3 n3 c3) (.slice A4 n4 c4)) :
    Calls Tryd.prog 42 #[.agg #[.int .i64 f.kind, .int .i64 f.num, .int .i64 f.atN, .slice A1 n1 c1, .slice A2 n2 c2], .agg #[.int .i64 a.kind, .int .i64 a.num, .int .i64 a.atN, .slice A3 n3 c3, .slice A4 n4 c4]] w (GivesT (lamT f a) w) := by
  generalize hw1 : (((w.alloc (.cells #[.int .i64 f.kind, .int .i64 f.num, .int .i64 f.atN, .slice A1 n1 c1, .slice A2 n2 c2] 27)).alloc (.cells #[.int .i64 a.kind, .int .i64 a.num, .int .i64 a.atN, .slice A3 n3 c3, .slice A4 n4 c4] 27)).alloc
    (.cells #[.int .i64 0, .int .i64 0, .int .i64 0, .slice none 0 0, .slice none 0 0] 27)).alloc (.cells #[.int .i64 f.kind, .int .i64 f.num, .int .i64 f.atN, .slice A1 n1 c1, .slice A2 n2 c2, .int .i64 a.kind, .int .i64 a.num, .int .i64 a.atN, .slice A3 n3 c3, .slice A4 n4 c4] 27) = w1
  have B : Box w1 (w.heap.size + 2) [.int .i64 0, .int .i64 0, .int .i64 0, .slice none 0 0, .slice none 0 0] := by rw [← hw1]; exact (Box.new' ((w.alloc _).alloc _) [_, _, _, _, _] _ (by simp)).alloc _
  have C : Box w1 (w.heap.size + 3) [.int .i64 f.kind, .int .i64 f.num, .int .i64 f.atN, .slice A1 n1 c1, .slice A2 n2 c2, .int .i64 a.kind, .int .i64 a.num, .int .i64 a.atN, .slice A3 n3 c3, .slice A4 n4 c4] := by rw [← hw1]; exact Box.new' (((w.alloc _).alloc _).alloc _) [_, _, _, _, _, _, _, _, _, _] _ (by simp)
  have b1 : Below w.heap.size w w1 := by rw [← hw1]; exact ((((Below.refl _ _).alloc (Nat.le_refl _) _).alloc (by simp) _).alloc (by simp; omega) _).alloc (by simp; omega) _
  obtain ⟨s0, s1, s2, s3, s4⟩ := B.five
  obtain ⟨r0, r1, r2, r3, r4⟩ := B.thaw
  have HW := Lib.hid hw1
  have HC := Lib.hid C
  clear C
  go_enter Tryd.func42, Tryd.ntmps42
  go_wp2_with fail
  obtain ⟨wf, ewf, F, hmv, hbf⟩ := put5 B (.int .i64 5) (.int .i64 0) (.int .i64 0) (.slice none 0 0) (.slice (some ⟨w.heap.size + 3, 0, none⟩) 2 2)
  rw [ewf]
  obtain ⟨z0, z1, z2, z3, z4⟩ := F.five
  have b2 := b1.trans (hbf.mono (by omega))
  have C2 : Box wf (w.heap.size + 3) _ := HC.out.move (hmv _ (by omega))
  refine bodyPost_ret (v := .agg #[.int .i64 5, .int .i64 0, .int .i64 0, .slice none 0 0, .slice (some ⟨w.heap.size + 3, 0, none⟩) 2 2]) (by simp [results, Tryd.results42, go_sem, z0, z1, z2, z3, z4]) rfl ?_
  exact ⟨_, _, _, _, _, _, rfl, (RT_iff _ _ _ _ _ _ _ _).2 ⟨RLv_nil _, RKv_two C2 (hf.below b2) (ha.below b2) 2 (Nat.le_refl _)⟩, b2⟩


theorem same_any (t u : Tm) (vl vk ul uk : Value) (w : World) (ht : RT w t vl vk) (hu : RT w u ul uk) :
    Calls Tryd.prog 16 #[.agg #[.int .i64 t.kind, .int .i64 t.num, .int .i64 t.atN, vl, vk], .agg #[.int .i64 u.kind, .int .i64 u.num, .int .i64 u.atN, ul, uk]] w (Tells (t = u) w) := by
  have hcall := fun W (hb : Below w.heap.size w W) => sameTerm_any t u vl vk ul uk W (ht.below hb) (hu.below hb)
  obtain ⟨A1, n1, c1, A2, n2, c2, rfl, rfl⟩ := ht.forms
  obtain ⟨A3, n3, c3, A4, n4, c4, rfl, rfl⟩ := hu.forms
  clear ht hu
  go_enter Tryd.func16, Tryd.ntmps16
  go_wp2_with fail
  refine (hcall _ ?_).mono ?_
  · exact ((Below.refl _ _).alloc (Nat.le_refl _) _).alloc (by simp) _
  rintro e w1 ⟨r, hr, rfl, hb1⟩
  have HR := Lib.hid hr
  clear hr hcall
  have hb : Below w.heap.size w w1 := (((Below.refl _ _).alloc (Nat.le_refl _) _).alloc (by simp) _).trans (hb1.mono (by simp; omega))
  clear hb1
  go_wp2_with fail
  go_ret
  exact Tells.mk HR.out hb

theorem great_any (ts : List Tm) (v : Value) (w : World) (h : RKv w ts v) (hd : depthL ts ≤ 1000000000) :
    Calls Tryd.prog 14 #[v] w fun e w' => e = .returned (.bool (decide (600 < tmsOf 600 0 ts))) ∧ Below w.heap.size w w' := by
  have hcall := termsOf_any ts v 600 w h (by omega) (by omega) hd
  obtain ⟨A, n, c, rfl⟩ : ∃ A n c, v = .slice A n c := by obtain ⟨A, c, e, _⟩ := h; exact ⟨A, _, c, e⟩
  generalize tmsOf 600 0 ts = y at *
  clear h
  go_enter Tryd.func14, Tryd.ntmps14
  go_wp2_with fail
  refine hcall.mono ?_
  rintro e w1 ⟨rfl, hb⟩
  go_wp2_with fail
  go_ret
  exact ⟨rfl, hb⟩

end Go.Proofs.YtgegaipkfpdocaaDoor
