/-
  THE WALKS OF THE SMALL FUNCTIONS OF spandrellaw02.
-/
import Derived.Test.YtajpkhkfffdclaaDoorCntC
import Derived.Test.YtajpkhkfffdclaaDoorSame
import Derived.Test.YtajpkhkfffdclaaDoorSize
namespace Go.Proofs.YtajpkhkfffdclaaDoor
open Go.RowKit

/-- A term that can be read. -/
def GivesT (u : Tm) (w : World) (e : Ending) (w' : World) : Prop :=
  ∃ A n c A' n' c', e = .returned (.agg #[.int .i64 u.kind, .int .i64 u.num, .int .i64 u.atN, .slice A n c, .slice A' n' c']) ∧ RT w' u (.slice A n c) (.slice A' n' c') ∧ Below w.heap.size w w'
theorem MadeT.gives {u : Tm} {w w' : World} {e : Ending} (h : MadeT u w e w') : GivesT u w e w' := by
  obtain ⟨vl, vk, bs, rfl, ho, _, hb⟩ := h
  obtain ⟨A, n, c, A', n', c', rfl, rfl⟩ := ho.forms
  exact ⟨_, _, _, _, _, _, rfl, ho.reads, hb⟩

theorem RLv_nil (w : World) : RLv w [] (.slice none 0 0) := ⟨none, 0, rfl, Nat.le_refl _, by simp, fun h => absurd h (by simp)⟩
theorem RKv_nil (w : World) : RKv w [] (.slice none 0 0) := ⟨none, 0, rfl, Nat.le_refl _, by simp, fun h => absurd h (by simp)⟩
theorem RT_leaf (w : World) (k n a : Int) : RT w (.node k n a [] []) (.slice none 0 0) (.slice none 0 0) := (RT_iff _ _ _ _ _ _ _ _).2 ⟨RLv_nil w, RKv_nil w⟩
/-- A slice of one term, of two, in a block of its own. -/
theorem RKv_one {w : World} {b : Nat} {t : Tm} {vl vk : Value} (B : Box w b [.int .i64 t.kind, .int .i64 t.num, .int .i64 t.atN, vl, vk]) (h : RT w t vl vk) (c : Nat) (hc : 1 ≤ c) : RKv w [t] (.slice (some ⟨b, 0, none⟩) 1 c) :=
  ⟨_, c, rfl, hc, by simp, fun _ => ⟨b, 0, rfl, by simp only [RK]; exact ⟨⟨vl, vk, B.cell rfl, B.cell rfl, B.cell rfl, B.cell rfl, B.cell rfl, h⟩, trivial⟩⟩⟩
theorem RKv_two {w : World} {b : Nat} {t u : Tm} {vl vk ul uk : Value} (B : Box w b [.int .i64 t.kind, .int .i64 t.num, .int .i64 t.atN, vl, vk, .int .i64 u.kind, .int .i64 u.num, .int .i64 u.atN, ul, uk]) (h : RT w t vl vk) (h' : RT w u ul uk) (c : Nat) (hc : 2 ≤ c) :
    RKv w [t, u] (.slice (some ⟨b, 0, none⟩) 2 c) :=
  ⟨_, c, rfl, hc, by simp, fun _ => ⟨b, 0, rfl, by simp only [RK]; exact ⟨⟨vl, vk, B.cell rfl, B.cell rfl, B.cell rfl, B.cell rfl, B.cell rfl, h⟩, ⟨ul, uk, B.cell rfl, B.cell rfl, B.cell rfl, B.cell rfl, B.cell rfl, h'⟩, trivial⟩⟩⟩

abbrev vT (n : Int) : Tm := .node 1 n 0 [] []
abbrev appT (f a : Tm) : Tm := .node 6 0 0 [] [f, a]
abbrev lamT (a b : Tm) : Tm := .node 5 0 0 [] [a, b]

theorem v_any (n : Int) (w : World) : Calls Tryd.prog 33 #[.int .i64 n] w (GivesT (vT n) w) := by
  generalize hw1 : w.alloc (.cells #[.int .i64 0, .int .i64 0, .int .i64 0, .slice none 0 0, .slice none 0 0] 26) = w1
  have B : Box w1 w.heap.size [.int .i64 0, .int .i64 0, .int .i64 0, .slice none 0 0, .slice none 0 0] := by rw [← hw1]; exact Box.new w [_, _, _, _, _] _
  have b1 : Below w.heap.size w w1 := by rw [← hw1]; exact (Below.refl _ _).alloc (Nat.le_refl _) _
  obtain ⟨s0, s1, s2, s3, s4⟩ := B.five
  obtain ⟨r0, r1, r2, r3, r4⟩ := B.thaw
  have HW := Lib.hid hw1
  go_enter Tryd.func33, Tryd.ntmps33
  go_wp2_with fail
  obtain ⟨wf, ewf, F, hmv, hbf⟩ := put5 B (.int .i64 1) (.int .i64 n) (.int .i64 0) (.slice none 0 0) (.slice none 0 0)
  rw [ewf]
  obtain ⟨z0, z1, z2, z3, z4⟩ := F.five
  refine bodyPost_ret (v := .agg #[.int .i64 1, .int .i64 n, .int .i64 0, .slice none 0 0, .slice none 0 0]) (by simp [results, Tryd.results33, go_sem, z0, z1, z2, z3, z4]) rfl ?_
  exact ⟨_, _, _, _, _, _, rfl, RT_leaf _ _ _ _, b1.trans hbf⟩

set_option maxRecDepth 100000 in
theorem app_any (f a : Tm) (A1 : Option Addr) (n1 c1 : Nat) (A2 : Option Addr) (n2 c2 : Nat) (A3 : Option Addr) (n3 c3 : Nat) (A4 : Option Addr) (n4 c4 : Nat) (w : World) (hf : RT w f (.slice A1 n1 c1) (.slice A2 n2 c2)) (ha : RT w a (.slice A3 n3 c3) (.slice A4 n4 c4)) :
    Calls Tryd.prog 34 #[.agg #[.int .i64 f.kind, .int .i64 f.num, .int .i64 f.atN, .slice A1 n1 c1, .slice A2 n2 c2], .agg #[.int .i64 a.kind, .int .i64 a.num, .int .i64 a.atN, .slice A3 n3 c3, .slice A4 n4 c4]] w (GivesT (appT f a) w) := by
  generalize hw1 : (((w.alloc (.cells #[.int .i64 f.kind, .int .i64 f.num, .int .i64 f.atN, .slice A1 n1 c1, .slice A2 n2 c2] 26)).alloc (.cells #[.int .i64 a.kind, .int .i64 a.num, .int .i64 a.atN, .slice A3 n3 c3, .slice A4 n4 c4] 26)).alloc
    (.cells #[.int .i64 0, .int .i64 0, .int .i64 0, .slice none 0 0, .slice none 0 0] 26)).alloc (.cells #[.int .i64 f.kind, .int .i64 f.num, .int .i64 f.atN, .slice A1 n1 c1, .slice A2 n2 c2, .int .i64 a.kind, .int .i64 a.num, .int .i64 a.atN, .slice A3 n3 c3, .slice A4 n4 c4] 26) = w1
  have B : Box w1 (w.heap.size + 2) [.int .i64 0, .int .i64 0, .int .i64 0, .slice none 0 0, .slice none 0 0] := by rw [← hw1]; exact (Box.new' ((w.alloc _).alloc _) [_, _, _, _, _] _ (by simp)).alloc _
  have C : Box w1 (w.heap.size + 3) [.int .i64 f.kind, .int .i64 f.num, .int .i64 f.atN, .slice A1 n1 c1, .slice A2 n2 c2, .int .i64 a.kind, .int .i64 a.num, .int .i64 a.atN, .slice A3 n3 c3, .slice A4 n4 c4] := by rw [← hw1]; exact Box.new' (((w.alloc _).alloc _).alloc _) [_, _, _, _, _, _, _, _, _, _] _ (by simp)
  have b1 : Below w.heap.size w w1 := by rw [← hw1]; exact ((((Below.refl _ _).alloc (Nat.le_refl _) _).alloc (by simp) _).alloc (by simp; omega) _).alloc (by simp; omega) _
  obtain ⟨s0, s1, s2, s3, s4⟩ := B.five
  obtain ⟨r0, r1, r2, r3, r4⟩ := B.thaw
  have HW := Lib.hid hw1
  have HC := Lib.hid C
  clear C
  go_enter Tryd.func34, Tryd.ntmps34
  go_wp2_with fail
  obtain ⟨wf, ewf, F, hmv, hbf⟩ := put5 B (.int .i64 6) (.int .i64 0) (.int .i64 0) (.slice none 0 0) (.slice (some ⟨w.heap.size + 3, 0, none⟩) 2 2)
  rw [ewf]
  obtain ⟨z0, z1, z2, z3, z4⟩ := F.five
  have b2 := b1.trans (hbf.mono (by omega))
  have C2 : Box wf (w.heap.size + 3) _ := HC.out.move (hmv _ (by omega))
  refine bodyPost_ret (v := .agg #[.int .i64 6, .int .i64 0, .int .i64 0, .slice none 0 0, .slice (some ⟨w.heap.size + 3, 0, none⟩) 2 2]) (by simp [results, Tryd.results34, go_sem, z0, z1, z2, z3, z4]) rfl ?_
  exact ⟨_, _, _, _, _, _, rfl, (RT_iff _ _ _ _ _ _ _ _).2 ⟨RLv_nil _, RKv_two C2 (hf.below b2) (ha.below b2) 2 (Nat.le_refl _)⟩, b2⟩

set_option maxRecDepth 100000 in
theorem lam_any (f a : Tm) (A1 : Option Addr) (n1 c1 : Nat) (A2 : Option Addr) (n2 c2 : Nat) (A3 : Option Addr) (n3 c3 : Nat) (A4 : Option Addr) (n4 c4 : Nat) (w : World) (hf : RT w f (.slice A1 n1 c1) (.slice A2 n2 c2)) (ha : RT w a (.slice A3 n3 c3) (.slice A4 n4 c4)) :
    Calls Tryd.prog 32 #[.agg #[.int .i64 f.kind, .int .i64 f.num, .int .i64 f.atN, .slice A1 n1 c1, .slice A2 n2 c2], .agg #[.int .i64 a.kind, .int .i64 a.num, .int .i64 a.atN, .slice A3 n3 c3, .slice A4 n4 c4]] w (GivesT (lamT f a) w) := by
  generalize hw1 : (((w.alloc (.cells #[.int .i64 f.kind, .int .i64 f.num, .int .i64 f.atN, .slice A1 n1 c1, .slice A2 n2 c2] 26)).alloc (.cells #[.int .i64 a.kind, .int .i64 a.num, .int .i64 a.atN, .slice A3 n3 c3, .slice A4 n4 c4] 26)).alloc
    (.cells #[.int .i64 0, .int .i64 0, .int .i64 0, .slice none 0 0, .slice none 0 0] 26)).alloc (.cells #[.int .i64 f.kind, .int .i64 f.num, .int .i64 f.atN, .slice A1 n1 c1, .slice A2 n2 c2, .int .i64 a.kind, .int .i64 a.num, .int .i64 a.atN, .slice A3 n3 c3, .slice A4 n4 c4] 26) = w1
  have B : Box w1 (w.heap.size + 2) [.int .i64 0, .int .i64 0, .int .i64 0, .slice none 0 0, .slice none 0 0] := by rw [← hw1]; exact (Box.new' ((w.alloc _).alloc _) [_, _, _, _, _] _ (by simp)).alloc _
  have C : Box w1 (w.heap.size + 3) [.int .i64 f.kind, .int .i64 f.num, .int .i64 f.atN, .slice A1 n1 c1, .slice A2 n2 c2, .int .i64 a.kind, .int .i64 a.num, .int .i64 a.atN, .slice A3 n3 c3, .slice A4 n4 c4] := by rw [← hw1]; exact Box.new' (((w.alloc _).alloc _).alloc _) [_, _, _, _, _, _, _, _, _, _] _ (by simp)
  have b1 : Below w.heap.size w w1 := by rw [← hw1]; exact ((((Below.refl _ _).alloc (Nat.le_refl _) _).alloc (by simp) _).alloc (by simp; omega) _).alloc (by simp; omega) _
  obtain ⟨s0, s1, s2, s3, s4⟩ := B.five
  obtain ⟨r0, r1, r2, r3, r4⟩ := B.thaw
  have HW := Lib.hid hw1
  have HC := Lib.hid C
  clear C
  go_enter Tryd.func32, Tryd.ntmps32
  go_wp2_with fail
  obtain ⟨wf, ewf, F, hmv, hbf⟩ := put5 B (.int .i64 5) (.int .i64 0) (.int .i64 0) (.slice none 0 0) (.slice (some ⟨w.heap.size + 3, 0, none⟩) 2 2)
  rw [ewf]
  obtain ⟨z0, z1, z2, z3, z4⟩ := F.five
  have b2 := b1.trans (hbf.mono (by omega))
  have C2 : Box wf (w.heap.size + 3) _ := HC.out.move (hmv _ (by omega))
  refine bodyPost_ret (v := .agg #[.int .i64 5, .int .i64 0, .int .i64 0, .slice none 0 0, .slice (some ⟨w.heap.size + 3, 0, none⟩) 2 2]) (by simp [results, Tryd.results32, go_sem, z0, z1, z2, z3, z4]) rfl ?_
  exact ⟨_, _, _, _, _, _, rfl, (RT_iff _ _ _ _ _ _ _ _).2 ⟨RLv_nil _, RKv_two C2 (hf.below b2) (ha.below b2) 2 (Nat.le_refl _)⟩, b2⟩


theorem same_any (t u : Tm) (vl vk ul uk : Value) (w : World) (ht : RT w t vl vk) (hu : RT w u ul uk) :
    Calls Tryd.prog 12 #[.agg #[.int .i64 t.kind, .int .i64 t.num, .int .i64 t.atN, vl, vk], .agg #[.int .i64 u.kind, .int .i64 u.num, .int .i64 u.atN, ul, uk]] w (Tells (t = u) w) := by
  have hcall := fun W (hb : Below w.heap.size w W) => sameTerm_any t u vl vk ul uk W (ht.below hb) (hu.below hb)
  obtain ⟨A1, n1, c1, A2, n2, c2, rfl, rfl⟩ := ht.forms
  obtain ⟨A3, n3, c3, A4, n4, c4, rfl, rfl⟩ := hu.forms
  clear ht hu
  go_enter Tryd.func12, Tryd.ntmps12
  go_wp2_with fail
  refine (hcall _ ?_).mono ?_
  · exact ((Below.refl _ _).alloc (Nat.le_refl _) _).alloc (by simp) _
  rintro e w1 ⟨r, hr, rfl, hb1⟩
  have HR := Lib.hid hr
  clear hr hcall
  have hb : Below w.heap.size w w1 := (((Below.refl _ _).alloc (Nat.le_refl _) _).alloc (by simp) _).trans (hb1.mono (by simp; omega))
  clear hb1
  go_wp2_with fail
  go_ret
  exact Tells.mk HR.out hb

theorem great_any (ts : List Tm) (v : Value) (w : World) (h : RKv w ts v) (hd : depthL ts ≤ 1000000000) :
    Calls Tryd.prog 9 #[v] w fun e w' => e = .returned (.bool (decide (600 < tmsOf 600 0 ts))) ∧ Below w.heap.size w w' := by
  have hcall := termsOf_any ts v 600 w h (by omega) (by omega) hd
  obtain ⟨A, n, c, rfl⟩ : ∃ A n c, v = .slice A n c := by obtain ⟨A, c, e, _⟩ := h; exact ⟨A, _, c, e⟩
  generalize tmsOf 600 0 ts = y at *
  clear h
  go_enter Tryd.func9, Tryd.ntmps9
  go_wp2_with fail
  refine hcall.mono ?_
  rintro e w1 ⟨rfl, hb⟩
  go_wp2_with fail
  go_ret
  exact ⟨rfl, hb⟩

def timesN (t a : Tm) : Int := min (size t : Int) 600 + min (size a : Int) 600
set_option maxRecDepth 100000 in
set_option maxHeartbeats 1600000 in
theorem times_any (t u : Tm) (vl vk ul uk : Value) (w : World) (ht : RT w t vl vk) (hu : RT w u ul uk) (hs : size t ≤ 1000000000000) (hs' : size u ≤ 1000000000000) :
    Calls Tryd.prog 11 #[.agg #[.int .i64 t.kind, .int .i64 t.num, .int .i64 t.atN, vl, vk], .agg #[.int .i64 u.kind, .int .i64 u.num, .int .i64 u.atN, ul, uk]] w fun e w' => e = .returned (.int .i64 (timesN t u)) ∧ Below w.heap.size w w' := by
  obtain ⟨A1, n1, c1, A2, n2, c2, rfl, rfl⟩ := ht.forms
  obtain ⟨A3, n3, c3, A4, n4, c4, rfl, rfl⟩ := hu.forms
  generalize hW : (w.alloc (.cells #[.int .i64 t.kind, .int .i64 t.num, .int .i64 t.atN, .slice A1 n1 c1, .slice A2 n2 c2] 26)).alloc (.cells #[.int .i64 u.kind, .int .i64 u.num, .int .i64 u.atN, .slice A3 n3 c3, .slice A4 n4 c4] 26) = W
  have T1 : Box W w.heap.size [.int .i64 t.kind, .int .i64 t.num, .int .i64 t.atN, .slice A1 n1 c1, .slice A2 n2 c2] := by rw [← hW]; exact (Box.new w [_, _, _, _, _] _).alloc _
  have T2 : Box W (w.heap.size + 1) [.int .i64 u.kind, .int .i64 u.num, .int .i64 u.atN, .slice A3 n3 c3, .slice A4 n4 c4] := by rw [← hW]; exact Box.new' (w.alloc _) [_, _, _, _, _] _ (by simp)
  have hbW : Below w.heap.size w W := by rw [← hW]; exact ((Below.refl _ _).alloc (Nat.le_refl _) _).alloc (by simp) _
  have hcA : ∀ W', Below W.heap.size W W' → Calls Tryd.prog 28 #[.agg #[.int .i64 t.kind, .int .i64 t.num, .int .i64 t.atN, .slice A1 n1 c1, .slice A2 n2 c2]] W' fun e w' => e = .returned (.int .i64 (size t)) ∧ Below W.heap.size W w' := fun W' hb =>
    (size_any t _ _ W' (ht.below (hbW.trans (hb.mono hbW.size))) hs).mono fun e w' ⟨he, hb'⟩ => ⟨he, hb.trans (hb'.mono hb.size)⟩
  have hcB : ∀ W', Below W.heap.size W W' → Calls Tryd.prog 28 #[.agg #[.int .i64 u.kind, .int .i64 u.num, .int .i64 u.atN, .slice A3 n3 c3, .slice A4 n4 c4]] W' fun e w' => e = .returned (.int .i64 (size u)) ∧ Below W.heap.size W w' := fun W' hb =>
    (size_any u _ _ W' (hu.below (hbW.trans (hb.mono hbW.size))) hs').mono fun e w' ⟨he, hb'⟩ => ⟨he, hb.trans (hb'.mono hb.size)⟩
  have hv : Hid (timesN t u = min (size t : Int) 600 + min (size u : Int) 600) := rfl
  have p0 : ∀ W', Below W.heap.size W W' → W'.cell? ⟨w.heap.size, 0, none⟩ = some (.int .i64 t.kind) := fun W' hb => cell_below hb (T1.cell rfl)
  have p1 : ∀ W', Below W.heap.size W W' → W'.cell? ⟨w.heap.size, 1, none⟩ = some (.int .i64 t.num) := fun W' hb => cell_below hb (T1.cell rfl)
  have p2 : ∀ W', Below W.heap.size W W' → W'.cell? ⟨w.heap.size, 2, none⟩ = some (.int .i64 t.atN) := fun W' hb => cell_below hb (T1.cell rfl)
  have p3 : ∀ W', Below W.heap.size W W' → W'.cell? ⟨w.heap.size, 3, none⟩ = some (.slice A1 n1 c1) := fun W' hb => cell_below hb (T1.cell rfl)
  have p4 : ∀ W', Below W.heap.size W W' → W'.cell? ⟨w.heap.size, 4, none⟩ = some (.slice A2 n2 c2) := fun W' hb => cell_below hb (T1.cell rfl)
  have q0 : ∀ W', Below W.heap.size W W' → W'.cell? ⟨w.heap.size + 1, 0, none⟩ = some (.int .i64 u.kind) := fun W' hb => cell_below hb (T2.cell rfl)
  have q1 : ∀ W', Below W.heap.size W W' → W'.cell? ⟨w.heap.size + 1, 1, none⟩ = some (.int .i64 u.num) := fun W' hb => cell_below hb (T2.cell rfl)
  have q2 : ∀ W', Below W.heap.size W W' → W'.cell? ⟨w.heap.size + 1, 2, none⟩ = some (.int .i64 u.atN) := fun W' hb => cell_below hb (T2.cell rfl)
  have q3 : ∀ W', Below W.heap.size W W' → W'.cell? ⟨w.heap.size + 1, 3, none⟩ = some (.slice A3 n3 c3) := fun W' hb => cell_below hb (T2.cell rfl)
  have q4 : ∀ W', Below W.heap.size W W' → W'.cell? ⟨w.heap.size + 1, 4, none⟩ = some (.slice A4 n4 c4) := fun W' hb => cell_below hb (T2.cell rfl)
  have HW := Lib.hid hW
  clear ht hu T1 T2
  generalize timesN t u = r at *
  generalize size t = x at *
  generalize size u = y at *
  have hx : ∃ x' : Int, (if (600 : Int) < (x : Int) then 600 else (x : Int)) = x' ∧ 0 ≤ x' ∧ x' ≤ 600 ∧ min (x : Int) 600 = x' := ⟨_, rfl, by split <;> omega, by split <;> omega, by split <;> omega⟩
  have hy : ∃ x' : Int, (if (600 : Int) < (y : Int) then 600 else (y : Int)) = x' ∧ 0 ≤ x' ∧ x' ≤ 600 ∧ min (y : Int) 600 = x' := ⟨_, rfl, by split <;> omega, by split <;> omega, by split <;> omega⟩
  obtain ⟨x', hx1, hx2, hx3, hx4⟩ := hx
  obtain ⟨y', hy1, hy2, hy3, hy4⟩ := hy
  have HV : Hid (r = x' + y') := by have := hv.out; unfold Hid; omega
  have w1 : IntKind.i64.wrap (x' + y') = x' + y' := IntWalk.i64_in _ (by omega)
  clear hx4 hy4 hv
  go_enter Tryd.func11, Tryd.ntmps11
  go_wp2_with fail
  refine wp_region_below W (by kernel_rfl) (by kernel_rfl) (Below.refl _ _) ?_
  clear hW
  repeat
    (refine wpQuiet_step (fun K hK => ?_)
     go_simp
     first
       | (refine hK _ ?_; clear hK K)
       | (apply Exists.intro
          refine ⟨fun W' hW' => ?_, hK _ ?_⟩
          (first | with_reducible exact hcA W' hW' | with_reducible exact hcB W' hW' | with_reducible rfl | (go_simp; rfl))
          clear hK K))
  refine wpQuiet_nil ?_
  intro w1 hb1
  go_wp2_with fail
  go_ret
  exact ⟨ret_int HV.out.symm, hbW.trans (hb1.mono hbW.size)⟩

end Go.Proofs.YtajpkhkfffdclaaDoor
