/-
  THE WALK OF TermMeets.
-/
import Derived.Test.YtajpkhkfffdclaaDoorMeets7
import Derived.Deep.DeepCutAuto
namespace Go.Proofs.YtajpkhkfffdclaaDoor
open Go.RowKit

theorem fifteen_below {W W' : World} {b0 b1 b2 : Nat} {x00 x01 x02 x03 x04 x10 x11 x12 x13 x14 x20 x21 x22 x23 x24 : Value} (hb : Below W.heap.size W W') (h : W.cell? ⟨b0, 0, none⟩ = some x00 ∧ W.cell? ⟨b0, 1, none⟩ = some x01 ∧ W.cell? ⟨b0, 2, none⟩ = some x02 ∧ W.cell? ⟨b0, 3, none⟩ = some x03 ∧ W.cell? ⟨b0, 4, none⟩ = some x04 ∧ W.cell? ⟨b1, 0, none⟩ = some x10 ∧ W.cell? ⟨b1, 1, none⟩ = some x11 ∧ W.cell? ⟨b1, 2, none⟩ = some x12 ∧ W.cell? ⟨b1, 3, none⟩ = some x13 ∧ W.cell? ⟨b1, 4, none⟩ = some x14 ∧ W.cell? ⟨b2, 0, none⟩ = some x20 ∧ W.cell? ⟨b2, 1, none⟩ = some x21 ∧ W.cell? ⟨b2, 2, none⟩ = some x22 ∧ W.cell? ⟨b2, 3, none⟩ = some x23 ∧ W.cell? ⟨b2, 4, none⟩ = some x24) : W'.cell? ⟨b0, 0, none⟩ = some x00 ∧ W'.cell? ⟨b0, 1, none⟩ = some x01 ∧ W'.cell? ⟨b0, 2, none⟩ = some x02 ∧ W'.cell? ⟨b0, 3, none⟩ = some x03 ∧ W'.cell? ⟨b0, 4, none⟩ = some x04 ∧ W'.cell? ⟨b1, 0, none⟩ = some x10 ∧ W'.cell? ⟨b1, 1, none⟩ = some x11 ∧ W'.cell? ⟨b1, 2, none⟩ = some x12 ∧ W'.cell? ⟨b1, 3, none⟩ = some x13 ∧ W'.cell? ⟨b1, 4, none⟩ = some x14 ∧ W'.cell? ⟨b2, 0, none⟩ = some x20 ∧ W'.cell? ⟨b2, 1, none⟩ = some x21 ∧ W'.cell? ⟨b2, 2, none⟩ = some x22 ∧ W'.cell? ⟨b2, 3, none⟩ = some x23 ∧ W'.cell? ⟨b2, 4, none⟩ = some x24 :=
  ⟨cell_below hb h.1, cell_below hb h.2.1, cell_below hb h.2.2.1, cell_below hb h.2.2.2.1, cell_below hb h.2.2.2.2.1, cell_below hb h.2.2.2.2.2.1, cell_below hb h.2.2.2.2.2.2.1, cell_below hb h.2.2.2.2.2.2.2.1, cell_below hb h.2.2.2.2.2.2.2.2.1, cell_below hb h.2.2.2.2.2.2.2.2.2.1, cell_below hb h.2.2.2.2.2.2.2.2.2.2.1, cell_below hb h.2.2.2.2.2.2.2.2.2.2.2.1, cell_below hb h.2.2.2.2.2.2.2.2.2.2.2.2.1, cell_below hb h.2.2.2.2.2.2.2.2.2.2.2.2.2.1, cell_below hb h.2.2.2.2.2.2.2.2.2.2.2.2.2.2⟩
theorem lift_gives (n f : Int) (t u : Tm) (he : lift n f 0 t = u) (hg : ranged t) (h1 : size t ≤ 1000000000000) (vl vk : Value) (w : World) (hK : Kinds w) (hr : RT w t vl vk) :
    Calls Tryd.prog 14 #[.agg #[.int .i64 t.kind, .int .i64 t.num, .int .i64 t.atN, vl, vk], .int .i64 n, .int .i64 f] w (GivesT u w) := by
  have h := lift_any n f t vl vk w hK hr hg h1
  rw [he] at h
  exact h.mono fun _ _ h => h.gives

theorem put_made (bys : List Tm) (t u : Tm) (he : put bys 0 t = u) (hg : ranged t) (h1 : size t ≤ 1000000000000) (hgb : rangedL bys) (hs : sizeL bys ≤ 1000000000000) (vb vl vk : Value) (w : World) (hK : Kinds w) (hr : RT w t vl vk) (hb : RKv w bys vb) :
    Calls Tryd.prog 13 #[.agg #[.int .i64 t.kind, .int .i64 t.num, .int .i64 t.atN, vl, vk], vb] w (MadeT u w) := by
  have h := put_any bys vb t vl vk w hK hr hg h1 hb hgb hs
  rw [he] at h
  exact h
theorem cell_put5 {w : World} {b o zz : Nat} {v u0 u1 u2 u3 u4 : Value} (h : w.cell? ⟨b, o, none⟩ = some v) (hne : b ≠ zz) :
    (((((w.setCell ⟨zz, 0, none⟩ u0).setCell ⟨zz, 1, none⟩ u1).setCell ⟨zz, 2, none⟩ u2).setCell ⟨zz, 3, none⟩ u3).setCell ⟨zz, 4, none⟩ u4).cell? ⟨b, o, none⟩ = some v :=
  cell_other (cell_other (cell_other (cell_other (cell_other h hne) hne) hne) hne) hne
theorem fifteen_put {W : World} {b0 b1 b2 zz : Nat} {u0 u1 u2 u3 u4 x00 x01 x02 x03 x04 x10 x11 x12 x13 x14 x20 x21 x22 x23 x24 : Value} (h : W.cell? ⟨b0, 0, none⟩ = some x00 ∧ W.cell? ⟨b0, 1, none⟩ = some x01 ∧ W.cell? ⟨b0, 2, none⟩ = some x02 ∧ W.cell? ⟨b0, 3, none⟩ = some x03 ∧ W.cell? ⟨b0, 4, none⟩ = some x04 ∧ W.cell? ⟨b1, 0, none⟩ = some x10 ∧ W.cell? ⟨b1, 1, none⟩ = some x11 ∧ W.cell? ⟨b1, 2, none⟩ = some x12 ∧ W.cell? ⟨b1, 3, none⟩ = some x13 ∧ W.cell? ⟨b1, 4, none⟩ = some x14 ∧ W.cell? ⟨b2, 0, none⟩ = some x20 ∧ W.cell? ⟨b2, 1, none⟩ = some x21 ∧ W.cell? ⟨b2, 2, none⟩ = some x22 ∧ W.cell? ⟨b2, 3, none⟩ = some x23 ∧ W.cell? ⟨b2, 4, none⟩ = some x24) (h0 : b0 ≠ zz) (h1 : b1 ≠ zz) (h2 : b2 ≠ zz) : (((((W.setCell ⟨zz, 0, none⟩ u0).setCell ⟨zz, 1, none⟩ u1).setCell ⟨zz, 2, none⟩ u2).setCell ⟨zz, 3, none⟩ u3).setCell ⟨zz, 4, none⟩ u4).cell? ⟨b0, 0, none⟩ = some x00 ∧ (((((W.setCell ⟨zz, 0, none⟩ u0).setCell ⟨zz, 1, none⟩ u1).setCell ⟨zz, 2, none⟩ u2).setCell ⟨zz, 3, none⟩ u3).setCell ⟨zz, 4, none⟩ u4).cell? ⟨b0, 1, none⟩ = some x01 ∧ (((((W.setCell ⟨zz, 0, none⟩ u0).setCell ⟨zz, 1, none⟩ u1).setCell ⟨zz, 2, none⟩ u2).setCell ⟨zz, 3, none⟩ u3).setCell ⟨zz, 4, none⟩ u4).cell? ⟨b0, 2, none⟩ = some x02 ∧ (((((W.setCell ⟨zz, 0, none⟩ u0).setCell ⟨zz, 1, none⟩ u1).setCell ⟨zz, 2, none⟩ u2).setCell ⟨zz, 3, none⟩ u3).setCell ⟨zz, 4, none⟩ u4).cell? ⟨b0, 3, none⟩ = some x03 ∧ (((((W.setCell ⟨zz, 0, none⟩ u0).setCell ⟨zz, 1, none⟩ u1).setCell ⟨zz, 2, none⟩ u2).setCell ⟨zz, 3, none⟩ u3).setCell ⟨zz, 4, none⟩ u4).cell? ⟨b0, 4, none⟩ = some x04 ∧ (((((W.setCell ⟨zz, 0, none⟩ u0).setCell ⟨zz, 1, none⟩ u1).setCell ⟨zz, 2, none⟩ u2).setCell ⟨zz, 3, none⟩ u3).setCell ⟨zz, 4, none⟩ u4).cell? ⟨b1, 0, none⟩ = some x10 ∧ (((((W.setCell ⟨zz, 0, none⟩ u0).setCell ⟨zz, 1, none⟩ u1).setCell ⟨zz, 2, none⟩ u2).setCell ⟨zz, 3, none⟩ u3).setCell ⟨zz, 4, none⟩ u4).cell? ⟨b1, 1, none⟩ = some x11 ∧ (((((W.setCell ⟨zz, 0, none⟩ u0).setCell ⟨zz, 1, none⟩ u1).setCell ⟨zz, 2, none⟩ u2).setCell ⟨zz, 3, none⟩ u3).setCell ⟨zz, 4, none⟩ u4).cell? ⟨b1, 2, none⟩ = some x12 ∧ (((((W.setCell ⟨zz, 0, none⟩ u0).setCell ⟨zz, 1, none⟩ u1).setCell ⟨zz, 2, none⟩ u2).setCell ⟨zz, 3, none⟩ u3).setCell ⟨zz, 4, none⟩ u4).cell? ⟨b1, 3, none⟩ = some x13 ∧ (((((W.setCell ⟨zz, 0, none⟩ u0).setCell ⟨zz, 1, none⟩ u1).setCell ⟨zz, 2, none⟩ u2).setCell ⟨zz, 3, none⟩ u3).setCell ⟨zz, 4, none⟩ u4).cell? ⟨b1, 4, none⟩ = some x14 ∧ (((((W.setCell ⟨zz, 0, none⟩ u0).setCell ⟨zz, 1, none⟩ u1).setCell ⟨zz, 2, none⟩ u2).setCell ⟨zz, 3, none⟩ u3).setCell ⟨zz, 4, none⟩ u4).cell? ⟨b2, 0, none⟩ = some x20 ∧ (((((W.setCell ⟨zz, 0, none⟩ u0).setCell ⟨zz, 1, none⟩ u1).setCell ⟨zz, 2, none⟩ u2).setCell ⟨zz, 3, none⟩ u3).setCell ⟨zz, 4, none⟩ u4).cell? ⟨b2, 1, none⟩ = some x21 ∧ (((((W.setCell ⟨zz, 0, none⟩ u0).setCell ⟨zz, 1, none⟩ u1).setCell ⟨zz, 2, none⟩ u2).setCell ⟨zz, 3, none⟩ u3).setCell ⟨zz, 4, none⟩ u4).cell? ⟨b2, 2, none⟩ = some x22 ∧ (((((W.setCell ⟨zz, 0, none⟩ u0).setCell ⟨zz, 1, none⟩ u1).setCell ⟨zz, 2, none⟩ u2).setCell ⟨zz, 3, none⟩ u3).setCell ⟨zz, 4, none⟩ u4).cell? ⟨b2, 3, none⟩ = some x23 ∧ (((((W.setCell ⟨zz, 0, none⟩ u0).setCell ⟨zz, 1, none⟩ u1).setCell ⟨zz, 2, none⟩ u2).setCell ⟨zz, 3, none⟩ u3).setCell ⟨zz, 4, none⟩ u4).cell? ⟨b2, 4, none⟩ = some x24 :=
  ⟨cell_put5 h.1 h0, cell_put5 h.2.1 h0, cell_put5 h.2.2.1 h0, cell_put5 h.2.2.2.1 h0, cell_put5 h.2.2.2.2.1 h0, cell_put5 h.2.2.2.2.2.1 h1, cell_put5 h.2.2.2.2.2.2.1 h1, cell_put5 h.2.2.2.2.2.2.2.1 h1, cell_put5 h.2.2.2.2.2.2.2.2.1 h1, cell_put5 h.2.2.2.2.2.2.2.2.2.1 h1, cell_put5 h.2.2.2.2.2.2.2.2.2.2.1 h2, cell_put5 h.2.2.2.2.2.2.2.2.2.2.2.1 h2, cell_put5 h.2.2.2.2.2.2.2.2.2.2.2.2.1 h2, cell_put5 h.2.2.2.2.2.2.2.2.2.2.2.2.2.1 h2, cell_put5 h.2.2.2.2.2.2.2.2.2.2.2.2.2.2 h2⟩

/-- What stands when TermMeets goes to its tests: how all is read, what is known. -/
structure Meets (t a b : Tm) (bys : List Tm) : Prop where
  rt : ranged t
  ra : ranged a
  rb : ranged b
  rv : rangedL bys
  st : size t ≤ 1048576
  sa : size a ≤ 1048576
  sb : size b ≤ 1048576
  sv : sizeL bys ≤ 1048576

set_option maxRecDepth 100000 in
set_option maxHeartbeats 16000000 in
theorem meets_any (t a b : Tm) (bys : List Tm) (tl tk al ak bl bk vb : Value) (w : World) (hK : Kinds w) (ht : RT w t tl tk) (ha : RT w a al ak) (hb : RT w b bl bk) (hv : RKv w bys vb) (hnil : ∀ n c, vb = .slice none n c → c = 0) (hm : Meets t a b bys) :
    Calls Tryd.prog 3 #[.agg #[.int .i64 t.kind, .int .i64 t.num, .int .i64 t.atN, tl, tk], .agg #[.int .i64 a.kind, .int .i64 a.num, .int .i64 a.atN, al, ak], .agg #[.int .i64 b.kind, .int .i64 b.num, .int .i64 b.atN, bl, bk], vb] w
      fun e w' => e = .returned (.bool true) ∧ Below w.heap.size w w' := by
  obtain ⟨A1, n1, c1, A2, n2, c2, rfl, rfl⟩ := ht.forms
  obtain ⟨A3, n3, c3, A4, n4, c4, rfl, rfl⟩ := ha.forms
  obtain ⟨A5, n5, c5, A6, n6, c6, rfl, rfl⟩ := hb.forms
  obtain ⟨A7, n7, c7, rfl⟩ : ∃ A n c, vb = .slice A n c := by obtain ⟨A, c, e, _⟩ := hv; exact ⟨A, _, c, e⟩
  obtain rfl : n7 = bys.length := by obtain ⟨A, c, e, _⟩ := hv; injection e
  obtain ⟨rt, ra, rb, rv, st, sa, sb, sv⟩ := hm
  have hlb : bys.length ≤ 1048576 := Nat.le_trans (length_sizeL bys) sv
  have hLs : sizeL ([t, a, b] ++ bys) ≤ 4194304 := by rw [sizeL_append]; simp only [sizeL]; omega
  have hgreat := fun v W (h : RKv W ([t, a, b] ++ bys) v) => great_any ([t, a, b] ++ bys) v W h (by have := depthL_size ([t, a, b] ++ bys); omega)
  have htame := fun v W (h : RKv W ([t, a, b] ++ bys) v) => tame_any ([t, a, b] ++ bys) v W h
  have htimes1 := fun W (h1 : RT W t (.slice A1 n1 c1) (.slice A2 n2 c2)) (h2 : RT W a (.slice A3 n3 c3) (.slice A4 n4 c4)) => times_any t a _ _ _ _ W h1 h2 (by omega) (by omega)
  have htimes2 := fun W (h1 : RT W b (.slice A5 n5 c5) (.slice A6 n6 c6)) (h2 : RT W a (.slice A3 n3 c3) (.slice A4 n4 c4)) => times_any b a _ _ _ _ W h1 h2 (by omega) (by omega)
  have hx : 0 ≤ timesN t a ∧ timesN t a ≤ 1200 := by unfold timesN; omega
  have hy : 0 ≤ timesN b a ∧ timesN b a ≤ 1200 := by unfold timesN; omega
  have hsmall : decide (600 < tmsOf 600 0 ([t, a, b] ++ bys)) = false → size t ≤ 600 ∧ size a ≤ 600 ∧ size b ≤ 600 ∧ sizeL bys ≤ 600 := fun h => by
    have h1 := of_decide_eq_false h
    have h2 := tmsOf_exact 600 (by omega) ([t, a, b] ++ bys) 0 (by omega) (by omega)
    have h3 := sizeL_wt ([t, a, b] ++ bys)
    rw [sizeL_append] at h3
    simp only [sizeL] at h3
    omega
  have htm : tameL ([t, a, b] ++ bys) = true → tame t = true ∧ tame a = true ∧ tame b = true := fun h => by
    simp only [List.cons_append, tameL, Bool.and_eq_true] at h
    exact ⟨h.1, h.2.1, h.2.2.1⟩
  generalize decide (600 < tmsOf 600 0 ([t, a, b] ++ bys)) = G at *
  generalize tameL ([t, a, b] ++ bys) = T at *
  generalize timesN t a = x at *
  generalize timesN b a = y at *
  have hxy : 0 ≤ x * y ∧ x * y ≤ 1200 * 1200 := ⟨Int.mul_nonneg hx.1 hy.1, Int.mul_le_mul hx.2 hy.2 hy.1 (by omega)⟩
  have hmul : IntKind.i64.wrap (x * y) = x * y := IntWalk.i64_in _ (by omega)
  obtain ⟨z, hz⟩ : ∃ z, x * y = z := ⟨_, rfl⟩
  rw [hz] at hmul hxy
  rw [← hz] at hmul
  have hmul' : IntKind.i64.wrap (x * y) = z := hmul.trans hz
  clear hmul hz hx hy
  have HNIL := Lib.hid hnil
  have HSM := Lib.hid hsmall
  have HTM := Lib.hid htm
  clear hnil hsmall htm
  go_enter Tryd.func3, Tryd.ntmps3
  go_wp2_with fail
  generalize hw0 : ((w.alloc (.cells #[.int .i64 t.kind, .int .i64 t.num, .int .i64 t.atN, .slice A1 n1 c1, .slice A2 n2 c2] 26)).alloc (.cells #[.int .i64 a.kind, .int .i64 a.num, .int .i64 a.atN, .slice A3 n3 c3, .slice A4 n4 c4] 26)).alloc (.cells #[.int .i64 b.kind, .int .i64 b.num, .int .i64 b.atN, .slice A5 n5 c5, .slice A6 n6 c6] 26) = w0
  have B0 : Box w0 w.heap.size [.int .i64 t.kind, .int .i64 t.num, .int .i64 t.atN, .slice A1 n1 c1, .slice A2 n2 c2] := by rw [← hw0]; exact ((Box.new w [_, _, _, _, _] _).alloc _).alloc _
  have B1 : Box w0 (w.heap.size + 1) [.int .i64 a.kind, .int .i64 a.num, .int .i64 a.atN, .slice A3 n3 c3, .slice A4 n4 c4] := by rw [← hw0]; exact (Box.new' (w.alloc _) [_, _, _, _, _] _ (by simp)).alloc _
  have B2 : Box w0 (w.heap.size + 2) [.int .i64 b.kind, .int .i64 b.num, .int .i64 b.atN, .slice A5 n5 c5, .slice A6 n6 c6] := by rw [← hw0]; exact Box.new' ((w.alloc _).alloc _) [_, _, _, _, _] _ (by simp)
  have hb0 : Below w.heap.size w w0 := by rw [← hw0]; exact (((Below.refl _ _).alloc (Nat.le_refl _) _).alloc (by simp) _).alloc (by simp; omega) _
  clear hw0
  refine (awake_any w0 (hK.below hb0)).mono ?_
  rintro e w1 ⟨rfl, hb1⟩
  have hbb : Below w.heap.size w w1 := below_chain hb0 hb1
  replace ht := ht.below hbb
  replace ha := ha.below hbb
  replace hb := hb.below hbb
  replace hv := hv.below hbb
  replace hK := hK.below hbb
  replace B0 := B0.below hb1
  replace B1 := B1.below hb1
  replace B2 := B2.below hb1
  have HBB := Lib.hid hbb
  clear hb0 hb1 hbb
  generalize hN : w.heap.size = N at *
  obtain ⟨x00, x01, x02, x03, x04⟩ := B0.five
  obtain ⟨x10, x11, x12, x13, x14⟩ := B1.five
  obtain ⟨x20, x21, x22, x23, x24⟩ := B2.five
  clear B0 B1 B2
  have HN := Lib.hid hN
  clear hN
  go_wp2_with fail
  cases G
  case true =>
    refine wp_region_held_drew (S := (fun w' => w'.cell? ⟨N, 0, none⟩ = some (.int .i64 t.kind) ∧ w'.cell? ⟨N, 1, none⟩ = some (.int .i64 t.num) ∧ w'.cell? ⟨N, 2, none⟩ = some (.int .i64 t.atN) ∧ w'.cell? ⟨N, 3, none⟩ = some (.slice A1 n1 c1) ∧ w'.cell? ⟨N, 4, none⟩ = some (.slice A2 n2 c2) ∧ w'.cell? ⟨(N + 1), 0, none⟩ = some (.int .i64 a.kind) ∧ w'.cell? ⟨(N + 1), 1, none⟩ = some (.int .i64 a.num) ∧ w'.cell? ⟨(N + 1), 2, none⟩ = some (.int .i64 a.atN) ∧ w'.cell? ⟨(N + 1), 3, none⟩ = some (.slice A3 n3 c3) ∧ w'.cell? ⟨(N + 1), 4, none⟩ = some (.slice A4 n4 c4) ∧ w'.cell? ⟨(N + 2), 0, none⟩ = some (.int .i64 b.kind) ∧ w'.cell? ⟨(N + 2), 1, none⟩ = some (.int .i64 b.num) ∧ w'.cell? ⟨(N + 2), 2, none⟩ = some (.int .i64 b.atN) ∧ w'.cell? ⟨(N + 2), 3, none⟩ = some (.slice A5 n5 c5) ∧ w'.cell? ⟨(N + 2), 4, none⟩ = some (.slice A6 n6 c6))) (by kernel_rfl) ?_ (fun hHeld => ?_)
    · exact ⟨x00, x01, x02, x03, x04, x10, x11, x12, x13, x14, x20, x21, x22, x23, x24⟩
    refine wpAnyH_take (i := 0) (v := ?v0a) rfl (by kernel_rfl) (by kernel_rfl) (by kernel_rfl) (fun _ _ _ h => h) (Or.inl ⟨by rfl, ?hy0a⟩) (by assumption) ?rest0a
    case hy0a => intro w hSw; (try dsimp only at hSw); go_simp; try with_reducible rfl
    try simp only [List.getElem_toArray, List.getElem_cons_succ, List.getElem_cons_zero, Act.put, List.setIfInBounds_toArray, List.set_cons_zero, List.set_cons_succ]
    refine wpAnyH_take (i := 1) (v := ?v1a) rfl (by kernel_rfl) (by kernel_rfl) (by kernel_rfl) (fun _ _ _ h => h) (Or.inl ⟨by rfl, ?hy1a⟩) (by assumption) ?rest1a
    case hy1a => intro w hSw; (try dsimp only at hSw); go_simp; try with_reducible rfl
    try simp only [List.getElem_toArray, List.getElem_cons_succ, List.getElem_cons_zero, Act.put, List.setIfInBounds_toArray, List.set_cons_zero, List.set_cons_succ]
    refine wpAnyH_take (i := 2) (v := ?v2a) rfl (by kernel_rfl) (by kernel_rfl) (by kernel_rfl) (fun _ _ _ h => h) (Or.inl ⟨by rfl, ?hy2a⟩) (by assumption) ?rest2a
    case hy2a => intro w hSw; (try dsimp only at hSw); go_simp; try with_reducible rfl
    try simp only [List.getElem_toArray, List.getElem_cons_succ, List.getElem_cons_zero, Act.put, List.setIfInBounds_toArray, List.set_cons_zero, List.set_cons_succ]
    refine wpAnyH_take (i := 4) (v := ?v4a) rfl (by kernel_rfl) (by kernel_rfl) (by kernel_rfl) (fun _ _ _ h => h) (Or.inl ⟨by rfl, ?hy4a⟩) (by assumption) ?rest4a
    case hy4a => intro w hSw; (try dsimp only at hSw); go_simp; try with_reducible rfl
    try simp only [List.getElem_toArray, List.getElem_cons_succ, List.getElem_cons_zero, Act.put, List.setIfInBounds_toArray, List.set_cons_zero, List.set_cons_succ]
    refine wpAnyH_ready (rs := [3]) (by kernel_rfl) (by simp) ?_
    refine AllReadyH.cons rfl (fun K hK => ?_) AllReadyH.nil
    go_simp
    refine hK.out _ _ ?_ (fun hHeld => ?_)
    · (first
        | assumption
        | exact ⟨x00, x01, x02, x03, x04, x10, x11, x12, x13, x14, x20, x21, x22, x23, x24⟩
        | exact fifteen_below hbx (by assumption)
        | exact fifteen_below hbx ⟨x00, x01, x02, x03, x04, x10, x11, x12, x13, x14, x20, x21, x22, x23, x24⟩
        | exact fifteen_below ((Below.refl _ _).alloc (Nat.le_refl _) _) (by assumption))
    clear hK K
    try simp only [List.getElem_toArray, List.getElem_cons_succ, List.getElem_cons_zero, Act.put, List.setIfInBounds_toArray, List.set_cons_zero, List.set_cons_succ]
    refine wpAnyH_ready (rs := [5]) (by kernel_rfl) (by simp) ?_
    refine AllReadyH.cons rfl (fun K hK => ?_) AllReadyH.nil
    refine wanted_wp ?hw (append_kids _ _ (by rfl) [t, a, b] bys _ _ [.int .i64 t.kind, .int .i64 t.num, .int .i64 t.atN, .slice A1 n1 c1, .slice A2 n2 c2, .int .i64 a.kind, .int .i64 a.num, .int .i64 a.atN, .slice A3 n3 c3, .slice A4 n4 c4, .int .i64 b.kind, .int .i64 b.num, .int .i64 b.atN, .slice A5 n5 c5, .slice A6 n6 c6] (by rfl) (World.ownsRow_lit _ _ 3 (Nat.le_refl _) (by decide) (by rfl)).drew ⟨_, _, _, rfl, ?_, _, _, _, rfl, ?_, _, _, _, rfl, ?_, rfl⟩ ((Below.refl _ _).alloc (Nat.le_refl _) _).drew (by rfl) ?_ HNIL.out (by simp only [List.length_cons, List.length_nil]; omega) ?_)
    case hw => rfl
    · (repeat (first | assumption | refine RT.below (by assumption) ?_ | refine RT.below ((Below.refl _ _).alloc (Nat.le_refl _) _) ?_ | refine RT.below ((Below.refl _ _).drew) ?_))
    · (repeat (first | assumption | refine RT.below (by assumption) ?_ | refine RT.below ((Below.refl _ _).alloc (Nat.le_refl _) _) ?_ | refine RT.below ((Below.refl _ _).drew) ?_))
    · (repeat (first | assumption | refine RT.below (by assumption) ?_ | refine RT.below ((Below.refl _ _).alloc (Nat.le_refl _) _) ?_ | refine RT.below ((Below.refl _ _).drew) ?_))
    · (repeat (first | assumption | refine RKv.below (by assumption) ?_ | refine RKv.below ((Below.refl _ _).alloc (Nat.le_refl _) _) ?_ | refine RKv.below ((Below.refl _ _).drew) ?_))
    intro A n c wx hkv hbx
    refine hK.out _ _ ?_ (fun hHeld => ?_)
    · (first
        | assumption
        | exact ⟨x00, x01, x02, x03, x04, x10, x11, x12, x13, x14, x20, x21, x22, x23, x24⟩
        | exact fifteen_below hbx (by assumption)
        | exact fifteen_below hbx ⟨x00, x01, x02, x03, x04, x10, x11, x12, x13, x14, x20, x21, x22, x23, x24⟩
        | exact fifteen_below ((Below.refl _ _).alloc (Nat.le_refl _) _) (by assumption))
    clear hK K
    try simp only [List.getElem_toArray, List.getElem_cons_succ, List.getElem_cons_zero, Act.put, List.setIfInBounds_toArray, List.set_cons_zero, List.set_cons_succ]
    refine wpAnyH_ready (rs := [6]) (by kernel_rfl) (by simp) ?_
    refine AllReadyH.cons rfl (fun K hK => ?_) AllReadyH.nil
    go_simp
    refine (hgreat _ _ (by assumption)).mono ?_
    rintro e wx ⟨rfl, hbx⟩
    have hS1 : wx.cell? ⟨N, 0, none⟩ = some (.int .i64 t.kind) ∧ wx.cell? ⟨N, 1, none⟩ = some (.int .i64 t.num) ∧ wx.cell? ⟨N, 2, none⟩ = some (.int .i64 t.atN) ∧ wx.cell? ⟨N, 3, none⟩ = some (.slice A1 n1 c1) ∧ wx.cell? ⟨N, 4, none⟩ = some (.slice A2 n2 c2) ∧ wx.cell? ⟨(N + 1), 0, none⟩ = some (.int .i64 a.kind) ∧ wx.cell? ⟨(N + 1), 1, none⟩ = some (.int .i64 a.num) ∧ wx.cell? ⟨(N + 1), 2, none⟩ = some (.int .i64 a.atN) ∧ wx.cell? ⟨(N + 1), 3, none⟩ = some (.slice A3 n3 c3) ∧ wx.cell? ⟨(N + 1), 4, none⟩ = some (.slice A4 n4 c4) ∧ wx.cell? ⟨(N + 2), 0, none⟩ = some (.int .i64 b.kind) ∧ wx.cell? ⟨(N + 2), 1, none⟩ = some (.int .i64 b.num) ∧ wx.cell? ⟨(N + 2), 2, none⟩ = some (.int .i64 b.atN) ∧ wx.cell? ⟨(N + 2), 3, none⟩ = some (.slice A5 n5 c5) ∧ wx.cell? ⟨(N + 2), 4, none⟩ = some (.slice A6 n6 c6) := fifteen_below hbx (by assumption)
    refine hK.out _ _ ?_ (fun hHeld => ?_)
    · (first
        | assumption
        | exact ⟨x00, x01, x02, x03, x04, x10, x11, x12, x13, x14, x20, x21, x22, x23, x24⟩
        | exact fifteen_below hbx (by assumption)
        | exact fifteen_below hbx ⟨x00, x01, x02, x03, x04, x10, x11, x12, x13, x14, x20, x21, x22, x23, x24⟩
        | exact fifteen_below ((Below.refl _ _).alloc (Nat.le_refl _) _) (by assumption))
    clear hK K
    try simp only [List.getElem_toArray, List.getElem_cons_succ, List.getElem_cons_zero, Act.put, List.setIfInBounds_toArray, List.set_cons_zero, List.set_cons_succ]
    refine wpAnyH_take (i := 7) (v := ?v7a) rfl (by kernel_rfl) (by kernel_rfl) (by kernel_rfl) (fun _ _ _ h => h) (Or.inl ⟨by rfl, ?hy7a⟩) (by assumption) ?rest7a
    case hy7a => intro w hSw; (try dsimp only at hSw); go_simp; try with_reducible rfl
    try simp only [List.getElem_toArray, List.getElem_cons_succ, List.getElem_cons_zero, Act.put, List.setIfInBounds_toArray, List.set_cons_zero, List.set_cons_succ]
    refine wpAnyH_take (i := 8) (v := undef) rfl (by kernel_rfl) (by kernel_rfl) (by kernel_rfl) (fun _ _ _ h => h) (Or.inr ⟨by rfl, rfl⟩) (by assumption) ?rest8a
    try simp only [List.getElem_toArray, List.getElem_cons_succ, List.getElem_cons_zero, Act.put, List.setIfInBounds_toArray, List.set_cons_zero, List.set_cons_succ]
    refine wpAnyH_take (i := 9) (v := undef) rfl (by kernel_rfl) (by kernel_rfl) (by kernel_rfl) (fun _ _ _ h => h) (Or.inr ⟨by rfl, rfl⟩) (by assumption) ?rest9a
    try simp only [List.getElem_toArray, List.getElem_cons_succ, List.getElem_cons_zero, Act.put, List.setIfInBounds_toArray, List.set_cons_zero, List.set_cons_succ]
    refine wpAnyH_take (i := 10) (v := undef) rfl (by kernel_rfl) (by kernel_rfl) (by kernel_rfl) (fun _ _ _ h => h) (Or.inr ⟨by rfl, rfl⟩) (by assumption) ?rest10a
    try simp only [List.getElem_toArray, List.getElem_cons_succ, List.getElem_cons_zero, Act.put, List.setIfInBounds_toArray, List.set_cons_zero, List.set_cons_succ]
    refine wpAnyH_take (i := 12) (v := undef) rfl (by kernel_rfl) (by kernel_rfl) (by kernel_rfl) (fun _ _ _ h => h) (Or.inr ⟨by rfl, rfl⟩) (by assumption) ?rest12a
    try simp only [List.getElem_toArray, List.getElem_cons_succ, List.getElem_cons_zero, Act.put, List.setIfInBounds_toArray, List.set_cons_zero, List.set_cons_succ]
    refine wpAnyH_take (i := 11) (v := undef) rfl (by kernel_rfl) (by kernel_rfl) (by kernel_rfl) (fun _ _ _ h => h) (Or.inr ⟨by rfl, rfl⟩) (by assumption) ?rest11a
    try simp only [List.getElem_toArray, List.getElem_cons_succ, List.getElem_cons_zero, Act.put, List.setIfInBounds_toArray, List.set_cons_zero, List.set_cons_succ]
    refine wpAnyH_take (i := 13) (v := undef) rfl (by kernel_rfl) (by kernel_rfl) (by kernel_rfl) (fun _ _ _ h => h) (Or.inr ⟨by rfl, rfl⟩) (by assumption) ?rest13a
    try simp only [List.getElem_toArray, List.getElem_cons_succ, List.getElem_cons_zero, Act.put, List.setIfInBounds_toArray, List.set_cons_zero, List.set_cons_succ]
    refine wpAnyH_take (i := 14) (v := undef) rfl (by kernel_rfl) (by kernel_rfl) (by kernel_rfl) (fun _ _ _ h => h) (Or.inr ⟨by rfl, rfl⟩) (by assumption) ?rest14a
    try simp only [List.getElem_toArray, List.getElem_cons_succ, List.getElem_cons_zero, Act.put, List.setIfInBounds_toArray, List.set_cons_zero, List.set_cons_succ]
    refine wpAnyH_take (i := 15) (v := undef) rfl (by kernel_rfl) (by kernel_rfl) (by kernel_rfl) (fun _ _ _ h => h) (Or.inr ⟨by rfl, rfl⟩) (by assumption) ?rest15a
    try simp only [List.getElem_toArray, List.getElem_cons_succ, List.getElem_cons_zero, Act.put, List.setIfInBounds_toArray, List.set_cons_zero, List.set_cons_succ]
    refine wpAnyH_take (i := 16) (v := ?v16a) rfl (by kernel_rfl) (by kernel_rfl) (by kernel_rfl) (fun _ _ _ h => h) (Or.inl ⟨by rfl, ?hy16a⟩) (by assumption) ?rest16a
    case hy16a => intro w hSw; (try dsimp only at hSw); go_simp; try with_reducible rfl
    try simp only [List.getElem_toArray, List.getElem_cons_succ, List.getElem_cons_zero, Act.put, List.setIfInBounds_toArray, List.set_cons_zero, List.set_cons_succ]
    refine wpAnyH_take (i := 17) (v := ?v17a) rfl (by kernel_rfl) (by kernel_rfl) (by kernel_rfl) (fun _ _ _ h => h) (Or.inl ⟨by rfl, ?hy17a⟩) (by assumption) ?rest17a
    case hy17a => intro w hSw; (try dsimp only at hSw); go_simp; try with_reducible rfl
    try simp only [List.getElem_toArray, List.getElem_cons_succ, List.getElem_cons_zero, Act.put, List.setIfInBounds_toArray, List.set_cons_zero, List.set_cons_succ]
    refine wpAnyH_take (i := 18) (v := undef) rfl (by kernel_rfl) (by kernel_rfl) (by kernel_rfl) (fun _ _ _ h => h) (Or.inr ⟨by rfl, rfl⟩) (by assumption) ?rest18a
    try simp only [List.getElem_toArray, List.getElem_cons_succ, List.getElem_cons_zero, Act.put, List.setIfInBounds_toArray, List.set_cons_zero, List.set_cons_succ]
    refine wpAnyH_take (i := 19) (v := undef) rfl (by kernel_rfl) (by kernel_rfl) (by kernel_rfl) (fun _ _ _ h => h) (Or.inr ⟨by rfl, rfl⟩) (by assumption) ?rest19a
    try simp only [List.getElem_toArray, List.getElem_cons_succ, List.getElem_cons_zero, Act.put, List.setIfInBounds_toArray, List.set_cons_zero, List.set_cons_succ]
    refine wpAnyH_take (i := 21) (v := undef) rfl (by kernel_rfl) (by kernel_rfl) (by kernel_rfl) (fun _ _ _ h => h) (Or.inr ⟨by rfl, rfl⟩) (by assumption) ?rest21a
    try simp only [List.getElem_toArray, List.getElem_cons_succ, List.getElem_cons_zero, Act.put, List.setIfInBounds_toArray, List.set_cons_zero, List.set_cons_succ]
    refine wpAnyH_take (i := 22) (v := undef) rfl (by kernel_rfl) (by kernel_rfl) (by kernel_rfl) (fun _ _ _ h => h) (Or.inr ⟨by rfl, rfl⟩) (by assumption) ?rest22a
    try simp only [List.getElem_toArray, List.getElem_cons_succ, List.getElem_cons_zero, Act.put, List.setIfInBounds_toArray, List.set_cons_zero, List.set_cons_succ]
    refine wpAnyH_take (i := 20) (v := undef) rfl (by kernel_rfl) (by kernel_rfl) (by kernel_rfl) (fun _ _ _ h => h) (Or.inr ⟨by rfl, rfl⟩) (by assumption) ?rest20a
    try simp only [List.getElem_toArray, List.getElem_cons_succ, List.getElem_cons_zero, Act.put, List.setIfInBounds_toArray, List.set_cons_zero, List.set_cons_succ]
    refine wpAnyH_take (i := 23) (v := undef) rfl (by kernel_rfl) (by kernel_rfl) (by kernel_rfl) (fun _ _ _ h => h) (Or.inr ⟨by rfl, rfl⟩) (by assumption) ?rest23a
    try simp only [List.getElem_toArray, List.getElem_cons_succ, List.getElem_cons_zero, Act.put, List.setIfInBounds_toArray, List.set_cons_zero, List.set_cons_succ]
    refine wpAnyH_take (i := 24) (v := undef) rfl (by kernel_rfl) (by kernel_rfl) (by kernel_rfl) (fun _ _ _ h => h) (Or.inr ⟨by rfl, rfl⟩) (by assumption) ?rest24a
    try simp only [List.getElem_toArray, List.getElem_cons_succ, List.getElem_cons_zero, Act.put, List.setIfInBounds_toArray, List.set_cons_zero, List.set_cons_succ]
    refine wpAnyH_take (i := 25) (v := undef) rfl (by kernel_rfl) (by kernel_rfl) (by kernel_rfl) (fun _ _ _ h => h) (Or.inr ⟨by rfl, rfl⟩) (by assumption) ?rest25a
    try simp only [List.getElem_toArray, List.getElem_cons_succ, List.getElem_cons_zero, Act.put, List.setIfInBounds_toArray, List.set_cons_zero, List.set_cons_succ]
    refine wpAnyH_take (i := 26) (v := ?v26a) rfl (by kernel_rfl) (by kernel_rfl) (by kernel_rfl) (fun _ _ _ h => h) (Or.inl ⟨by rfl, ?hy26a⟩) (by assumption) ?rest26a
    case hy26a => intro w hSw; (try dsimp only at hSw); go_simp; try with_reducible rfl
    try simp only [List.getElem_toArray, List.getElem_cons_succ, List.getElem_cons_zero, Act.put, List.setIfInBounds_toArray, List.set_cons_zero, List.set_cons_succ]
    refine wpAnyH_done (by kernel_rfl) ?_ _
    all_goals
      have hz : Below w.heap.size w w1 := by have h := HBB.out; rw [← HN.out] at h; exact h
      go_wp2_with fail
      go_ret
      exact ⟨rfl, by (repeat (first | assumption | exact Below.refl _ _ | refine below_chain ?_ (by assumption) | refine below_chain ?_ ((Below.refl _ _).alloc (Nat.le_refl _) _) | refine below_chain ?_ ((Below.refl _ _).drew)))⟩
  case false =>
    cases T
    case false =>
      refine wp_region_held_drew (S := (fun w' => w'.cell? ⟨N, 0, none⟩ = some (.int .i64 t.kind) ∧ w'.cell? ⟨N, 1, none⟩ = some (.int .i64 t.num) ∧ w'.cell? ⟨N, 2, none⟩ = some (.int .i64 t.atN) ∧ w'.cell? ⟨N, 3, none⟩ = some (.slice A1 n1 c1) ∧ w'.cell? ⟨N, 4, none⟩ = some (.slice A2 n2 c2) ∧ w'.cell? ⟨(N + 1), 0, none⟩ = some (.int .i64 a.kind) ∧ w'.cell? ⟨(N + 1), 1, none⟩ = some (.int .i64 a.num) ∧ w'.cell? ⟨(N + 1), 2, none⟩ = some (.int .i64 a.atN) ∧ w'.cell? ⟨(N + 1), 3, none⟩ = some (.slice A3 n3 c3) ∧ w'.cell? ⟨(N + 1), 4, none⟩ = some (.slice A4 n4 c4) ∧ w'.cell? ⟨(N + 2), 0, none⟩ = some (.int .i64 b.kind) ∧ w'.cell? ⟨(N + 2), 1, none⟩ = some (.int .i64 b.num) ∧ w'.cell? ⟨(N + 2), 2, none⟩ = some (.int .i64 b.atN) ∧ w'.cell? ⟨(N + 2), 3, none⟩ = some (.slice A5 n5 c5) ∧ w'.cell? ⟨(N + 2), 4, none⟩ = some (.slice A6 n6 c6))) (by kernel_rfl) ?_ (fun hHeld => ?_)
      · exact ⟨x00, x01, x02, x03, x04, x10, x11, x12, x13, x14, x20, x21, x22, x23, x24⟩
      refine wpAnyH_take (i := 0) (v := ?v0b) rfl (by kernel_rfl) (by kernel_rfl) (by kernel_rfl) (fun _ _ _ h => h) (Or.inl ⟨by rfl, ?hy0b⟩) (by assumption) ?rest0b
      case hy0b => intro w hSw; (try dsimp only at hSw); go_simp; try with_reducible rfl
      try simp only [List.getElem_toArray, List.getElem_cons_succ, List.getElem_cons_zero, Act.put, List.setIfInBounds_toArray, List.set_cons_zero, List.set_cons_succ]
      refine wpAnyH_take (i := 1) (v := ?v1b) rfl (by kernel_rfl) (by kernel_rfl) (by kernel_rfl) (fun _ _ _ h => h) (Or.inl ⟨by rfl, ?hy1b⟩) (by assumption) ?rest1b
      case hy1b => intro w hSw; (try dsimp only at hSw); go_simp; try with_reducible rfl
      try simp only [List.getElem_toArray, List.getElem_cons_succ, List.getElem_cons_zero, Act.put, List.setIfInBounds_toArray, List.set_cons_zero, List.set_cons_succ]
      refine wpAnyH_take (i := 2) (v := ?v2b) rfl (by kernel_rfl) (by kernel_rfl) (by kernel_rfl) (fun _ _ _ h => h) (Or.inl ⟨by rfl, ?hy2b⟩) (by assumption) ?rest2b
      case hy2b => intro w hSw; (try dsimp only at hSw); go_simp; try with_reducible rfl
      try simp only [List.getElem_toArray, List.getElem_cons_succ, List.getElem_cons_zero, Act.put, List.setIfInBounds_toArray, List.set_cons_zero, List.set_cons_succ]
      refine wpAnyH_take (i := 4) (v := ?v4b) rfl (by kernel_rfl) (by kernel_rfl) (by kernel_rfl) (fun _ _ _ h => h) (Or.inl ⟨by rfl, ?hy4b⟩) (by assumption) ?rest4b
      case hy4b => intro w hSw; (try dsimp only at hSw); go_simp; try with_reducible rfl
      try simp only [List.getElem_toArray, List.getElem_cons_succ, List.getElem_cons_zero, Act.put, List.setIfInBounds_toArray, List.set_cons_zero, List.set_cons_succ]
      refine wpAnyH_ready (rs := [3]) (by kernel_rfl) (by simp) ?_
      refine AllReadyH.cons rfl (fun K hK => ?_) AllReadyH.nil
      go_simp
      refine hK.out _ _ ?_ (fun hHeld => ?_)
      · (first
          | assumption
          | exact ⟨x00, x01, x02, x03, x04, x10, x11, x12, x13, x14, x20, x21, x22, x23, x24⟩
          | exact fifteen_below hbx (by assumption)
          | exact fifteen_below hbx ⟨x00, x01, x02, x03, x04, x10, x11, x12, x13, x14, x20, x21, x22, x23, x24⟩
          | exact fifteen_below ((Below.refl _ _).alloc (Nat.le_refl _) _) (by assumption))
      clear hK K
      try simp only [List.getElem_toArray, List.getElem_cons_succ, List.getElem_cons_zero, Act.put, List.setIfInBounds_toArray, List.set_cons_zero, List.set_cons_succ]
      refine wpAnyH_ready (rs := [5]) (by kernel_rfl) (by simp) ?_
      refine AllReadyH.cons rfl (fun K hK => ?_) AllReadyH.nil
      refine wanted_wp ?hw (append_kids _ _ (by rfl) [t, a, b] bys _ _ [.int .i64 t.kind, .int .i64 t.num, .int .i64 t.atN, .slice A1 n1 c1, .slice A2 n2 c2, .int .i64 a.kind, .int .i64 a.num, .int .i64 a.atN, .slice A3 n3 c3, .slice A4 n4 c4, .int .i64 b.kind, .int .i64 b.num, .int .i64 b.atN, .slice A5 n5 c5, .slice A6 n6 c6] (by rfl) (World.ownsRow_lit _ _ 3 (Nat.le_refl _) (by decide) (by rfl)).drew ⟨_, _, _, rfl, ?_, _, _, _, rfl, ?_, _, _, _, rfl, ?_, rfl⟩ ((Below.refl _ _).alloc (Nat.le_refl _) _).drew (by rfl) ?_ HNIL.out (by simp only [List.length_cons, List.length_nil]; omega) ?_)
      case hw => rfl
      · (repeat (first | assumption | refine RT.below (by assumption) ?_ | refine RT.below ((Below.refl _ _).alloc (Nat.le_refl _) _) ?_ | refine RT.below ((Below.refl _ _).drew) ?_))
      · (repeat (first | assumption | refine RT.below (by assumption) ?_ | refine RT.below ((Below.refl _ _).alloc (Nat.le_refl _) _) ?_ | refine RT.below ((Below.refl _ _).drew) ?_))
      · (repeat (first | assumption | refine RT.below (by assumption) ?_ | refine RT.below ((Below.refl _ _).alloc (Nat.le_refl _) _) ?_ | refine RT.below ((Below.refl _ _).drew) ?_))
      · (repeat (first | assumption | refine RKv.below (by assumption) ?_ | refine RKv.below ((Below.refl _ _).alloc (Nat.le_refl _) _) ?_ | refine RKv.below ((Below.refl _ _).drew) ?_))
      intro A n c wx hkv hbx
      refine hK.out _ _ ?_ (fun hHeld => ?_)
      · (first
          | assumption
          | exact ⟨x00, x01, x02, x03, x04, x10, x11, x12, x13, x14, x20, x21, x22, x23, x24⟩
          | exact fifteen_below hbx (by assumption)
          | exact fifteen_below hbx ⟨x00, x01, x02, x03, x04, x10, x11, x12, x13, x14, x20, x21, x22, x23, x24⟩
          | exact fifteen_below ((Below.refl _ _).alloc (Nat.le_refl _) _) (by assumption))
      clear hK K
      try simp only [List.getElem_toArray, List.getElem_cons_succ, List.getElem_cons_zero, Act.put, List.setIfInBounds_toArray, List.set_cons_zero, List.set_cons_succ]
      refine wpAnyH_ready (rs := [6]) (by kernel_rfl) (by simp) ?_
      refine AllReadyH.cons rfl (fun K hK => ?_) AllReadyH.nil
      go_simp
      refine (hgreat _ _ (by assumption)).mono ?_
      rintro e wx ⟨rfl, hbx⟩
      have hS1 : wx.cell? ⟨N, 0, none⟩ = some (.int .i64 t.kind) ∧ wx.cell? ⟨N, 1, none⟩ = some (.int .i64 t.num) ∧ wx.cell? ⟨N, 2, none⟩ = some (.int .i64 t.atN) ∧ wx.cell? ⟨N, 3, none⟩ = some (.slice A1 n1 c1) ∧ wx.cell? ⟨N, 4, none⟩ = some (.slice A2 n2 c2) ∧ wx.cell? ⟨(N + 1), 0, none⟩ = some (.int .i64 a.kind) ∧ wx.cell? ⟨(N + 1), 1, none⟩ = some (.int .i64 a.num) ∧ wx.cell? ⟨(N + 1), 2, none⟩ = some (.int .i64 a.atN) ∧ wx.cell? ⟨(N + 1), 3, none⟩ = some (.slice A3 n3 c3) ∧ wx.cell? ⟨(N + 1), 4, none⟩ = some (.slice A4 n4 c4) ∧ wx.cell? ⟨(N + 2), 0, none⟩ = some (.int .i64 b.kind) ∧ wx.cell? ⟨(N + 2), 1, none⟩ = some (.int .i64 b.num) ∧ wx.cell? ⟨(N + 2), 2, none⟩ = some (.int .i64 b.atN) ∧ wx.cell? ⟨(N + 2), 3, none⟩ = some (.slice A5 n5 c5) ∧ wx.cell? ⟨(N + 2), 4, none⟩ = some (.slice A6 n6 c6) := fifteen_below hbx (by assumption)
      refine hK.out _ _ ?_ (fun hHeld => ?_)
      · (first
          | assumption
          | exact ⟨x00, x01, x02, x03, x04, x10, x11, x12, x13, x14, x20, x21, x22, x23, x24⟩
          | exact fifteen_below hbx (by assumption)
          | exact fifteen_below hbx ⟨x00, x01, x02, x03, x04, x10, x11, x12, x13, x14, x20, x21, x22, x23, x24⟩
          | exact fifteen_below ((Below.refl _ _).alloc (Nat.le_refl _) _) (by assumption))
      clear hK K
      try simp only [List.getElem_toArray, List.getElem_cons_succ, List.getElem_cons_zero, Act.put, List.setIfInBounds_toArray, List.set_cons_zero, List.set_cons_succ]
      refine wpAnyH_take (i := 7) (v := ?v7b) rfl (by kernel_rfl) (by kernel_rfl) (by kernel_rfl) (fun _ _ _ h => h) (Or.inl ⟨by rfl, ?hy7b⟩) (by assumption) ?rest7b
      case hy7b => intro w hSw; (try dsimp only at hSw); go_simp; try with_reducible rfl
      try simp only [List.getElem_toArray, List.getElem_cons_succ, List.getElem_cons_zero, Act.put, List.setIfInBounds_toArray, List.set_cons_zero, List.set_cons_succ]
      refine wpAnyH_take (i := 8) (v := ?v8b) rfl (by kernel_rfl) (by kernel_rfl) (by kernel_rfl) (fun _ _ _ h => h) (Or.inl ⟨by rfl, ?hy8b⟩) (by assumption) ?rest8b
      case hy8b => intro w hSw; (try dsimp only at hSw); go_simp; try with_reducible rfl
      try simp only [List.getElem_toArray, List.getElem_cons_succ, List.getElem_cons_zero, Act.put, List.setIfInBounds_toArray, List.set_cons_zero, List.set_cons_succ]
      refine wpAnyH_take (i := 9) (v := ?v9b) rfl (by kernel_rfl) (by kernel_rfl) (by kernel_rfl) (fun _ _ _ h => h) (Or.inl ⟨by rfl, ?hy9b⟩) (by assumption) ?rest9b
      case hy9b => intro w hSw; (try dsimp only at hSw); go_simp; try with_reducible rfl
      try simp only [List.getElem_toArray, List.getElem_cons_succ, List.getElem_cons_zero, Act.put, List.setIfInBounds_toArray, List.set_cons_zero, List.set_cons_succ]
      refine wpAnyH_take (i := 10) (v := ?v10b) rfl (by kernel_rfl) (by kernel_rfl) (by kernel_rfl) (fun _ _ _ h => h) (Or.inl ⟨by rfl, ?hy10b⟩) (by assumption) ?rest10b
      case hy10b => intro w hSw; (try dsimp only at hSw); go_simp; try with_reducible rfl
      try simp only [List.getElem_toArray, List.getElem_cons_succ, List.getElem_cons_zero, Act.put, List.setIfInBounds_toArray, List.set_cons_zero, List.set_cons_succ]
      refine wpAnyH_take (i := 12) (v := ?v12b) rfl (by kernel_rfl) (by kernel_rfl) (by kernel_rfl) (fun _ _ _ h => h) (Or.inl ⟨by rfl, ?hy12b⟩) (by assumption) ?rest12b
      case hy12b => intro w hSw; (try dsimp only at hSw); go_simp; try with_reducible rfl
      try simp only [List.getElem_toArray, List.getElem_cons_succ, List.getElem_cons_zero, Act.put, List.setIfInBounds_toArray, List.set_cons_zero, List.set_cons_succ]
      refine wpAnyH_ready (rs := [11]) (by kernel_rfl) (by simp) ?_
      refine AllReadyH.cons rfl (fun K hK => ?_) AllReadyH.nil
      go_simp
      refine hK.out _ _ ?_ (fun hHeld => ?_)
      · (first
          | assumption
          | exact ⟨x00, x01, x02, x03, x04, x10, x11, x12, x13, x14, x20, x21, x22, x23, x24⟩
          | exact fifteen_below hbx (by assumption)
          | exact fifteen_below hbx ⟨x00, x01, x02, x03, x04, x10, x11, x12, x13, x14, x20, x21, x22, x23, x24⟩
          | exact fifteen_below ((Below.refl _ _).alloc (Nat.le_refl _) _) (by assumption))
      clear hK K
      try simp only [List.getElem_toArray, List.getElem_cons_succ, List.getElem_cons_zero, Act.put, List.setIfInBounds_toArray, List.set_cons_zero, List.set_cons_succ]
      refine wpAnyH_ready (rs := [13]) (by kernel_rfl) (by simp) ?_
      refine AllReadyH.cons rfl (fun K hK => ?_) AllReadyH.nil
      refine wanted_wp ?hw (append_kids _ _ (by rfl) [t, a, b] bys _ _ [.int .i64 t.kind, .int .i64 t.num, .int .i64 t.atN, .slice A1 n1 c1, .slice A2 n2 c2, .int .i64 a.kind, .int .i64 a.num, .int .i64 a.atN, .slice A3 n3 c3, .slice A4 n4 c4, .int .i64 b.kind, .int .i64 b.num, .int .i64 b.atN, .slice A5 n5 c5, .slice A6 n6 c6] (by rfl) (World.ownsRow_lit _ _ 3 (Nat.le_refl _) (by decide) (by rfl)) ⟨_, _, _, rfl, ?_, _, _, _, rfl, ?_, _, _, _, rfl, ?_, rfl⟩ ((Below.refl _ _).alloc (Nat.le_refl _) _) (by rfl) ?_ HNIL.out (by simp only [List.length_cons, List.length_nil]; omega) ?_)
      case hw => rfl
      · (repeat (first | assumption | refine RT.below (by assumption) ?_ | refine RT.below ((Below.refl _ _).alloc (Nat.le_refl _) _) ?_ | refine RT.below ((Below.refl _ _).drew) ?_))
      · (repeat (first | assumption | refine RT.below (by assumption) ?_ | refine RT.below ((Below.refl _ _).alloc (Nat.le_refl _) _) ?_ | refine RT.below ((Below.refl _ _).drew) ?_))
      · (repeat (first | assumption | refine RT.below (by assumption) ?_ | refine RT.below ((Below.refl _ _).alloc (Nat.le_refl _) _) ?_ | refine RT.below ((Below.refl _ _).drew) ?_))
      · (repeat (first | assumption | refine RKv.below (by assumption) ?_ | refine RKv.below ((Below.refl _ _).alloc (Nat.le_refl _) _) ?_ | refine RKv.below ((Below.refl _ _).drew) ?_))
      intro A n c wx hkv hbx
      refine hK.out _ _ ?_ (fun hHeld => ?_)
      · (first
          | assumption
          | exact ⟨x00, x01, x02, x03, x04, x10, x11, x12, x13, x14, x20, x21, x22, x23, x24⟩
          | exact fifteen_below hbx (by assumption)
          | exact fifteen_below hbx ⟨x00, x01, x02, x03, x04, x10, x11, x12, x13, x14, x20, x21, x22, x23, x24⟩
          | exact fifteen_below ((Below.refl _ _).alloc (Nat.le_refl _) _) (by assumption))
      clear hK K
      try simp only [List.getElem_toArray, List.getElem_cons_succ, List.getElem_cons_zero, Act.put, List.setIfInBounds_toArray, List.set_cons_zero, List.set_cons_succ]
      refine wpAnyH_ready (rs := [14]) (by kernel_rfl) (by simp) ?_
      refine AllReadyH.cons rfl (fun K hK => ?_) AllReadyH.nil
      go_simp
      refine (htame _ _ (by assumption)).mono ?_
      rintro e wx ⟨rfl, hbx⟩
      refine hK.out _ _ ?_ (fun hHeld => ?_)
      · (first
          | assumption
          | exact ⟨x00, x01, x02, x03, x04, x10, x11, x12, x13, x14, x20, x21, x22, x23, x24⟩
          | exact fifteen_below hbx (by assumption)
          | exact fifteen_below hbx ⟨x00, x01, x02, x03, x04, x10, x11, x12, x13, x14, x20, x21, x22, x23, x24⟩
          | exact fifteen_below ((Below.refl _ _).alloc (Nat.le_refl _) _) (by assumption))
      clear hK K
      try simp only [List.getElem_toArray, List.getElem_cons_succ, List.getElem_cons_zero, Act.put, List.setIfInBounds_toArray, List.set_cons_zero, List.set_cons_succ]
      refine wpAnyH_take (i := 15) (v := ?v15b) rfl (by kernel_rfl) (by kernel_rfl) (by kernel_rfl) (fun _ _ _ h => h) (Or.inl ⟨by rfl, ?hy15b⟩) (by assumption) ?rest15b
      case hy15b => intro w hSw; (try dsimp only at hSw); go_simp; try with_reducible rfl
      try simp only [List.getElem_toArray, List.getElem_cons_succ, List.getElem_cons_zero, Act.put, List.setIfInBounds_toArray, List.set_cons_zero, List.set_cons_succ]
      refine wpAnyH_take (i := 16) (v := ?v16b) rfl (by kernel_rfl) (by kernel_rfl) (by kernel_rfl) (fun _ _ _ h => h) (Or.inl ⟨by rfl, ?hy16b⟩) (by assumption) ?rest16b
      case hy16b => intro w hSw; (try dsimp only at hSw); go_simp; try with_reducible rfl
      try simp only [List.getElem_toArray, List.getElem_cons_succ, List.getElem_cons_zero, Act.put, List.setIfInBounds_toArray, List.set_cons_zero, List.set_cons_succ]
      refine wpAnyH_take (i := 17) (v := ?v17b) rfl (by kernel_rfl) (by kernel_rfl) (by kernel_rfl) (fun _ _ _ h => h) (Or.inl ⟨by rfl, ?hy17b⟩) (by assumption) ?rest17b
      case hy17b => intro w hSw; (try dsimp only at hSw); go_simp; try with_reducible rfl
      try simp only [List.getElem_toArray, List.getElem_cons_succ, List.getElem_cons_zero, Act.put, List.setIfInBounds_toArray, List.set_cons_zero, List.set_cons_succ]
      refine wpAnyH_take (i := 18) (v := undef) rfl (by kernel_rfl) (by kernel_rfl) (by kernel_rfl) (fun _ _ _ h => h) (Or.inr ⟨by rfl, rfl⟩) (by assumption) ?rest18b
      try simp only [List.getElem_toArray, List.getElem_cons_succ, List.getElem_cons_zero, Act.put, List.setIfInBounds_toArray, List.set_cons_zero, List.set_cons_succ]
      refine wpAnyH_take (i := 19) (v := undef) rfl (by kernel_rfl) (by kernel_rfl) (by kernel_rfl) (fun _ _ _ h => h) (Or.inr ⟨by rfl, rfl⟩) (by assumption) ?rest19b
      try simp only [List.getElem_toArray, List.getElem_cons_succ, List.getElem_cons_zero, Act.put, List.setIfInBounds_toArray, List.set_cons_zero, List.set_cons_succ]
      refine wpAnyH_take (i := 21) (v := undef) rfl (by kernel_rfl) (by kernel_rfl) (by kernel_rfl) (fun _ _ _ h => h) (Or.inr ⟨by rfl, rfl⟩) (by assumption) ?rest21b
      try simp only [List.getElem_toArray, List.getElem_cons_succ, List.getElem_cons_zero, Act.put, List.setIfInBounds_toArray, List.set_cons_zero, List.set_cons_succ]
      refine wpAnyH_take (i := 22) (v := undef) rfl (by kernel_rfl) (by kernel_rfl) (by kernel_rfl) (fun _ _ _ h => h) (Or.inr ⟨by rfl, rfl⟩) (by assumption) ?rest22b
      try simp only [List.getElem_toArray, List.getElem_cons_succ, List.getElem_cons_zero, Act.put, List.setIfInBounds_toArray, List.set_cons_zero, List.set_cons_succ]
      refine wpAnyH_take (i := 20) (v := undef) rfl (by kernel_rfl) (by kernel_rfl) (by kernel_rfl) (fun _ _ _ h => h) (Or.inr ⟨by rfl, rfl⟩) (by assumption) ?rest20b
      try simp only [List.getElem_toArray, List.getElem_cons_succ, List.getElem_cons_zero, Act.put, List.setIfInBounds_toArray, List.set_cons_zero, List.set_cons_succ]
      refine wpAnyH_take (i := 23) (v := undef) rfl (by kernel_rfl) (by kernel_rfl) (by kernel_rfl) (fun _ _ _ h => h) (Or.inr ⟨by rfl, rfl⟩) (by assumption) ?rest23b
      try simp only [List.getElem_toArray, List.getElem_cons_succ, List.getElem_cons_zero, Act.put, List.setIfInBounds_toArray, List.set_cons_zero, List.set_cons_succ]
      refine wpAnyH_take (i := 24) (v := undef) rfl (by kernel_rfl) (by kernel_rfl) (by kernel_rfl) (fun _ _ _ h => h) (Or.inr ⟨by rfl, rfl⟩) (by assumption) ?rest24b
      try simp only [List.getElem_toArray, List.getElem_cons_succ, List.getElem_cons_zero, Act.put, List.setIfInBounds_toArray, List.set_cons_zero, List.set_cons_succ]
      refine wpAnyH_take (i := 25) (v := undef) rfl (by kernel_rfl) (by kernel_rfl) (by kernel_rfl) (fun _ _ _ h => h) (Or.inr ⟨by rfl, rfl⟩) (by assumption) ?rest25b
      try simp only [List.getElem_toArray, List.getElem_cons_succ, List.getElem_cons_zero, Act.put, List.setIfInBounds_toArray, List.set_cons_zero, List.set_cons_succ]
      refine wpAnyH_take (i := 26) (v := ?v26b) rfl (by kernel_rfl) (by kernel_rfl) (by kernel_rfl) (fun _ _ _ h => h) (Or.inl ⟨by rfl, ?hy26b⟩) (by assumption) ?rest26b
      case hy26b => intro w hSw; (try dsimp only at hSw); go_simp; try with_reducible rfl
      try simp only [List.getElem_toArray, List.getElem_cons_succ, List.getElem_cons_zero, Act.put, List.setIfInBounds_toArray, List.set_cons_zero, List.set_cons_succ]
      refine wpAnyH_done (by kernel_rfl) ?_ _
      all_goals
        have hz : Below w.heap.size w w1 := by have h := HBB.out; rw [← HN.out] at h; exact h
        go_wp2_with fail
        go_ret
        exact ⟨rfl, by (repeat (first | assumption | exact Below.refl _ _ | refine below_chain ?_ (by assumption) | refine below_chain ?_ ((Below.refl _ _).alloc (Nat.le_refl _) _) | refine below_chain ?_ ((Below.refl _ _).drew)))⟩
    case true =>
      go_region_held3 (fun w' => w'.cell? ⟨N, 0, none⟩ = some (.int .i64 t.kind) ∧ w'.cell? ⟨N, 1, none⟩ = some (.int .i64 t.num) ∧ w'.cell? ⟨N, 2, none⟩ = some (.int .i64 t.atN) ∧ w'.cell? ⟨N, 3, none⟩ = some (.slice A1 n1 c1) ∧ w'.cell? ⟨N, 4, none⟩ = some (.slice A2 n2 c2) ∧ w'.cell? ⟨(N + 1), 0, none⟩ = some (.int .i64 a.kind) ∧ w'.cell? ⟨(N + 1), 1, none⟩ = some (.int .i64 a.num) ∧ w'.cell? ⟨(N + 1), 2, none⟩ = some (.int .i64 a.atN) ∧ w'.cell? ⟨(N + 1), 3, none⟩ = some (.slice A3 n3 c3) ∧ w'.cell? ⟨(N + 1), 4, none⟩ = some (.slice A4 n4 c4) ∧ w'.cell? ⟨(N + 2), 0, none⟩ = some (.int .i64 b.kind) ∧ w'.cell? ⟨(N + 2), 1, none⟩ = some (.int .i64 b.num) ∧ w'.cell? ⟨(N + 2), 2, none⟩ = some (.int .i64 b.atN) ∧ w'.cell? ⟨(N + 2), 3, none⟩ = some (.slice A5 n5 c5) ∧ w'.cell? ⟨(N + 2), 4, none⟩ = some (.slice A6 n6 c6))
        (first
          | assumption
          | exact ⟨x00, x01, x02, x03, x04, x10, x11, x12, x13, x14, x20, x21, x22, x23, x24⟩
          | exact fifteen_below hbx (by assumption)
          | exact fifteen_below hbx ⟨x00, x01, x02, x03, x04, x10, x11, x12, x13, x14, x20, x21, x22, x23, x24⟩
          | exact fifteen_below ((Below.refl _ _).alloc (Nat.le_refl _) _) (by assumption))
        (first
          | (refine wanted_wp ?hw (append_kids _ _ (by rfl) [t, a, b] bys _ _ [.int .i64 t.kind, .int .i64 t.num, .int .i64 t.atN, .slice A1 n1 c1, .slice A2 n2 c2, .int .i64 a.kind, .int .i64 a.num, .int .i64 a.atN, .slice A3 n3 c3, .slice A4 n4 c4, .int .i64 b.kind, .int .i64 b.num, .int .i64 b.atN, .slice A5 n5 c5, .slice A6 n6 c6] (by rfl) (World.ownsRow_lit _ _ 3 (Nat.le_refl _) (by decide) (by rfl)).drew ⟨_, _, _, rfl, ?_, _, _, _, rfl, ?_, _, _, _, rfl, ?_, rfl⟩ ((Below.refl _ _).alloc (Nat.le_refl _) _).drew (by rfl) ?_ HNIL.out (by simp only [List.length_cons, List.length_nil]; omega) ?_)
             case hw => rfl
             · (repeat (first | assumption | refine RT.below (by assumption) ?_ | refine RT.below ((Below.refl _ _).alloc (Nat.le_refl _) _) ?_ | refine RT.below ((Below.refl _ _).drew) ?_))
             · (repeat (first | assumption | refine RT.below (by assumption) ?_ | refine RT.below ((Below.refl _ _).alloc (Nat.le_refl _) _) ?_ | refine RT.below ((Below.refl _ _).drew) ?_))
             · (repeat (first | assumption | refine RT.below (by assumption) ?_ | refine RT.below ((Below.refl _ _).alloc (Nat.le_refl _) _) ?_ | refine RT.below ((Below.refl _ _).drew) ?_))
             · (repeat (first | assumption | refine RKv.below (by assumption) ?_ | refine RKv.below ((Below.refl _ _).alloc (Nat.le_refl _) _) ?_ | refine RKv.below ((Below.refl _ _).drew) ?_))
             intro A n c wx hkv hbx)
          | (refine wanted_wp ?hw (append_kids _ _ (by rfl) [t, a, b] bys _ _ [.int .i64 t.kind, .int .i64 t.num, .int .i64 t.atN, .slice A1 n1 c1, .slice A2 n2 c2, .int .i64 a.kind, .int .i64 a.num, .int .i64 a.atN, .slice A3 n3 c3, .slice A4 n4 c4, .int .i64 b.kind, .int .i64 b.num, .int .i64 b.atN, .slice A5 n5 c5, .slice A6 n6 c6] (by rfl) (World.ownsRow_lit _ _ 3 (Nat.le_refl _) (by decide) (by rfl)) ⟨_, _, _, rfl, ?_, _, _, _, rfl, ?_, _, _, _, rfl, ?_, rfl⟩ ((Below.refl _ _).alloc (Nat.le_refl _) _) (by rfl) ?_ HNIL.out (by simp only [List.length_cons, List.length_nil]; omega) ?_)
             case hw => rfl
             · (repeat (first | assumption | refine RT.below (by assumption) ?_ | refine RT.below ((Below.refl _ _).alloc (Nat.le_refl _) _) ?_ | refine RT.below ((Below.refl _ _).drew) ?_))
             · (repeat (first | assumption | refine RT.below (by assumption) ?_ | refine RT.below ((Below.refl _ _).alloc (Nat.le_refl _) _) ?_ | refine RT.below ((Below.refl _ _).drew) ?_))
             · (repeat (first | assumption | refine RT.below (by assumption) ?_ | refine RT.below ((Below.refl _ _).alloc (Nat.le_refl _) _) ?_ | refine RT.below ((Below.refl _ _).drew) ?_))
             · (repeat (first | assumption | refine RKv.below (by assumption) ?_ | refine RKv.below ((Below.refl _ _).alloc (Nat.le_refl _) _) ?_ | refine RKv.below ((Below.refl _ _).drew) ?_))
             intro A n c wx hkv hbx)
          | (go_at_call 9
             refine (hgreat _ _ (by assumption)).mono ?_
             rintro e wx ⟨rfl, hbx⟩
             have hS1 : wx.cell? ⟨N, 0, none⟩ = some (.int .i64 t.kind) ∧ wx.cell? ⟨N, 1, none⟩ = some (.int .i64 t.num) ∧ wx.cell? ⟨N, 2, none⟩ = some (.int .i64 t.atN) ∧ wx.cell? ⟨N, 3, none⟩ = some (.slice A1 n1 c1) ∧ wx.cell? ⟨N, 4, none⟩ = some (.slice A2 n2 c2) ∧ wx.cell? ⟨(N + 1), 0, none⟩ = some (.int .i64 a.kind) ∧ wx.cell? ⟨(N + 1), 1, none⟩ = some (.int .i64 a.num) ∧ wx.cell? ⟨(N + 1), 2, none⟩ = some (.int .i64 a.atN) ∧ wx.cell? ⟨(N + 1), 3, none⟩ = some (.slice A3 n3 c3) ∧ wx.cell? ⟨(N + 1), 4, none⟩ = some (.slice A4 n4 c4) ∧ wx.cell? ⟨(N + 2), 0, none⟩ = some (.int .i64 b.kind) ∧ wx.cell? ⟨(N + 2), 1, none⟩ = some (.int .i64 b.num) ∧ wx.cell? ⟨(N + 2), 2, none⟩ = some (.int .i64 b.atN) ∧ wx.cell? ⟨(N + 2), 3, none⟩ = some (.slice A5 n5 c5) ∧ wx.cell? ⟨(N + 2), 4, none⟩ = some (.slice A6 n6 c6) := fifteen_below hbx (by assumption))
          | (go_at_call 10
             refine (htame _ _ (by assumption)).mono ?_
             rintro e wx ⟨rfl, hbx⟩)
          | (go_at_call_of 11 (Value.slice A1 n1 c1)
             refine (htimes1 _ ?_ ?_).mono ?_
             · (repeat (first | assumption | refine RT.below (by assumption) ?_ | refine RT.below ((Below.refl _ _).alloc (Nat.le_refl _) _) ?_ | refine RT.below ((Below.refl _ _).drew) ?_))
             · (repeat (first | assumption | refine RT.below (by assumption) ?_ | refine RT.below ((Below.refl _ _).alloc (Nat.le_refl _) _) ?_ | refine RT.below ((Below.refl _ _).drew) ?_))
             rintro e wx ⟨rfl, hbx⟩)
          | (go_at_call 11
             refine (htimes2 _ ?_ ?_).mono ?_
             · (repeat (first | assumption | refine RT.below (by assumption) ?_ | refine RT.below ((Below.refl _ _).alloc (Nat.le_refl _) _) ?_ | refine RT.below ((Below.refl _ _).drew) ?_))
             · (repeat (first | assumption | refine RT.below (by assumption) ?_ | refine RT.below ((Below.refl _ _).alloc (Nat.le_refl _) _) ?_ | refine RT.below ((Below.refl _ _).drew) ?_))
             rintro e wx ⟨rfl, hbx⟩))
      clear hgreat htame htimes1 htimes2
      by_cases hz : 36000 < z
      · have hz1 : Below w.heap.size w w1 := by have h := HBB.out; rw [← HN.out] at h; exact h
        go_wp2_with fail
        go_ret
        exact ⟨rfl, by (repeat (first | assumption | exact Below.refl _ _ | refine below_chain ?_ (by assumption) | refine below_chain ?_ ((Below.refl _ _).alloc (Nat.le_refl _) _) | refine below_chain ?_ ((Below.refl _ _).drew)))⟩
      · obtain ⟨s1, s2, s3, s4⟩ := HSM.out (by simp)
        obtain ⟨tt, ta, tb⟩ := HTM.out (by simp)
        have hm1 := meets1 bys t (by have := length_sizeL bys; omega) tt
        have hm2 := meets2 t a b tt ta tb (by omega) (by omega)
        have hu1' := lift_fits bys.length 0 0 t
        obtain ⟨u1, hu1⟩ : ∃ u, lift bys.length 0 0 t = u := ⟨_, rfl⟩
        obtain ⟨u2, hu2⟩ : ∃ u, lift 0 0 0 t = u := ⟨_, rfl⟩
        rw [hu1] at hu1' hm1
        rw [hu2] at hm1
        have ru1 := hu1'.2 rt
        have su1 := hu1'.1
        have hp1 : put bys 0 u1 = u2 := hm1
        clear hu1' hm1 tt ta tb
        go_wp2_with fail
        clear hz
        go_region_held3 (fun w' => w'.cell? ⟨N, 0, none⟩ = some (.int .i64 t.kind) ∧ w'.cell? ⟨N, 1, none⟩ = some (.int .i64 t.num) ∧ w'.cell? ⟨N, 2, none⟩ = some (.int .i64 t.atN) ∧ w'.cell? ⟨N, 3, none⟩ = some (.slice A1 n1 c1) ∧ w'.cell? ⟨N, 4, none⟩ = some (.slice A2 n2 c2) ∧ w'.cell? ⟨(N + 1), 0, none⟩ = some (.int .i64 a.kind) ∧ w'.cell? ⟨(N + 1), 1, none⟩ = some (.int .i64 a.num) ∧ w'.cell? ⟨(N + 1), 2, none⟩ = some (.int .i64 a.atN) ∧ w'.cell? ⟨(N + 1), 3, none⟩ = some (.slice A3 n3 c3) ∧ w'.cell? ⟨(N + 1), 4, none⟩ = some (.slice A4 n4 c4) ∧ w'.cell? ⟨(N + 2), 0, none⟩ = some (.int .i64 b.kind) ∧ w'.cell? ⟨(N + 2), 1, none⟩ = some (.int .i64 b.num) ∧ w'.cell? ⟨(N + 2), 2, none⟩ = some (.int .i64 b.atN) ∧ w'.cell? ⟨(N + 2), 3, none⟩ = some (.slice A5 n5 c5) ∧ w'.cell? ⟨(N + 2), 4, none⟩ = some (.slice A6 n6 c6))
          (first
            | assumption
            | exact ⟨x00, x01, x02, x03, x04, x10, x11, x12, x13, x14, x20, x21, x22, x23, x24⟩
            | exact fifteen_below hbx (by assumption)
            | exact fifteen_below ((Below.refl _ _).alloc (Nat.le_refl _) _) (by assumption))
          (first
            | (go_at_call_of 14 (Value.int .i64 (bys.length : Int))
               refine (lift_gives bys.length 0 t u1 hu1 rt (by omega) _ _ _ ?_ ?_).mono ?_
               · (repeat (first | assumption | refine Kinds.below (by assumption) ?_ | refine Kinds.below ((Below.refl _ _).alloc (Nat.le_refl _) _) ?_ | refine Kinds.below ((Below.refl _ _).drew) ?_))
               · (repeat (first | assumption | refine RT.below (by assumption) ?_ | refine RT.below ((Below.refl _ _).alloc (Nat.le_refl _) _) ?_ | refine RT.below ((Below.refl _ _).drew) ?_))
               rintro e wx ⟨A, n, c, A', n', c', rfl, gx, hbx⟩)
            | (go_at_call 14
               refine (lift_gives 0 0 t u2 hu2 rt (by omega) _ _ _ ?_ ?_).mono ?_
               · (repeat (first | assumption | refine Kinds.below (by assumption) ?_ | refine Kinds.below ((Below.refl _ _).alloc (Nat.le_refl _) _) ?_ | refine Kinds.below ((Below.refl _ _).drew) ?_))
               · (repeat (first | assumption | refine RT.below (by assumption) ?_ | refine RT.below ((Below.refl _ _).alloc (Nat.le_refl _) _) ?_ | refine RT.below ((Below.refl _ _).drew) ?_))
               rintro e wx ⟨A, n, c, A', n', c', rfl, gx, hbx⟩)
            | (go_at_call 13
               refine (put_gives bys u1 u2 hp1 ru1 (by omega) rv (by omega) _ _ _ _ ?_ ?_ ?_).mono ?_
               · (repeat (first | assumption | refine Kinds.below (by assumption) ?_ | refine Kinds.below ((Below.refl _ _).alloc (Nat.le_refl _) _) ?_ | refine Kinds.below ((Below.refl _ _).drew) ?_))
               · (repeat (first | assumption | refine RT.below (by assumption) ?_ | refine RT.below ((Below.refl _ _).alloc (Nat.le_refl _) _) ?_ | refine RT.below ((Below.refl _ _).drew) ?_))
               · (repeat (first | assumption | refine RKv.below (by assumption) ?_ | refine RKv.below ((Below.refl _ _).alloc (Nat.le_refl _) _) ?_ | refine RKv.below ((Below.refl _ _).drew) ?_))
               rintro e wx ⟨A, n, c, A', n', c', rfl, gx, hbx⟩)
            | (go_at_call 12
               refine (same_any _ _ _ _ _ _ _ ?_ ?_).mono ?_
               · (repeat (first | assumption | refine RT.below (by assumption) ?_ | refine RT.below ((Below.refl _ _).alloc (Nat.le_refl _) _) ?_ | refine RT.below ((Below.refl _ _).drew) ?_))
               · (repeat (first | assumption | refine RT.below (by assumption) ?_ | refine RT.below ((Below.refl _ _).alloc (Nat.le_refl _) _) ?_ | refine RT.below ((Below.refl _ _).drew) ?_))
               rintro e wx ⟨r, hr, rfl, hbx⟩
               obtain rfl : r = true := hr.2 rfl
               clear hr))
        have HBx : Below w1.heap.size w1 wx := by (repeat (first | assumption | exact Below.refl _ _ | refine below_chain ?_ (by assumption) | refine below_chain ?_ ((Below.refl _ _).alloc (Nat.le_refl _) _) | refine below_chain ?_ ((Below.refl _ _).drew)))
        replace ht := RT.below HBx ht
        replace ha := RT.below HBx ha
        replace hb := RT.below HBx hb
        replace hv := RKv.below HBx hv
        replace hK := Kinds.below HBx hK
        have hS9 : wx.cell? ⟨N, 0, none⟩ = some (.int .i64 t.kind) ∧ wx.cell? ⟨N, 1, none⟩ = some (.int .i64 t.num) ∧ wx.cell? ⟨N, 2, none⟩ = some (.int .i64 t.atN) ∧ wx.cell? ⟨N, 3, none⟩ = some (.slice A1 n1 c1) ∧ wx.cell? ⟨N, 4, none⟩ = some (.slice A2 n2 c2) ∧ wx.cell? ⟨(N + 1), 0, none⟩ = some (.int .i64 a.kind) ∧ wx.cell? ⟨(N + 1), 1, none⟩ = some (.int .i64 a.num) ∧ wx.cell? ⟨(N + 1), 2, none⟩ = some (.int .i64 a.atN) ∧ wx.cell? ⟨(N + 1), 3, none⟩ = some (.slice A3 n3 c3) ∧ wx.cell? ⟨(N + 1), 4, none⟩ = some (.slice A4 n4 c4) ∧ wx.cell? ⟨(N + 2), 0, none⟩ = some (.int .i64 b.kind) ∧ wx.cell? ⟨(N + 2), 1, none⟩ = some (.int .i64 b.num) ∧ wx.cell? ⟨(N + 2), 2, none⟩ = some (.int .i64 b.atN) ∧ wx.cell? ⟨(N + 2), 3, none⟩ = some (.slice A5 n5 c5) ∧ wx.cell? ⟨(N + 2), 4, none⟩ = some (.slice A6 n6 c6) := by assumption
        clear x00 x01 x02 x03 x04 x10 x11 x12 x13 x14 x20 x21 x22 x23 x24
        obtain ⟨x00, x01, x02, x03, x04, x10, x11, x12, x13, x14, x20, x21, x22, x23, x24⟩ := hS9
        have HBC : Hid (Below N w wx) := by have h := HBB.out; rw [← HN.out] at h ⊢; exact below_chain h HBx
        clear HBx HBB hS1
        have HBB := HBC
        clear HBC
        generalize wx = w1 at *
        clear ru1 hp1 su1 hu1 hu2
        have fa := put_fits [a] 0 (by omega) t
        have fb := put_fits [b] 0 (by omega) a
        obtain ⟨p1, hpa⟩ : ∃ u, put [a] 0 t = u := ⟨_, rfl⟩
        obtain ⟨r1, hra⟩ : ∃ u, put [b] 0 a = u := ⟨_, rfl⟩
        obtain ⟨q, hpb⟩ : ∃ u, put [b] 0 p1 = u := ⟨_, rfl⟩
        rw [hpa, hra] at hm2
        rw [hpb] at hm2
        rw [hpa] at fa
        rw [hra] at fb
        simp only [sizeL, rangedL] at fa fb
        have rp1 := fa.2 ⟨ra, trivial⟩ rt
        have rr1 := fb.2 ⟨rb, trivial⟩ ra
        have sp1 : size p1 ≤ 600 * 601 := Nat.le_trans fa.1 (Nat.mul_le_mul s1 (by omega))
        have sr1 : size r1 ≤ 600 * 601 := Nat.le_trans fb.1 (Nat.mul_le_mul s2 (by omega))
        have hq2 : put [b, r1] 0 t = q := hm2.symm
        clear fa fb hm2
        have HPA : Hid (∀ vb W, Kinds W → RT W t (.slice A1 n1 c1) (.slice A2 n2 c2) → RKv W [a] vb → Calls Tryd.prog 13 #[.agg #[.int .i64 t.kind, .int .i64 t.num, .int .i64 t.atN, .slice A1 n1 c1, .slice A2 n2 c2], vb] W (GivesT p1 W)) := Lib.hid (fun vb W h1 h2 h3 => put_gives [a] t p1 hpa rt (by omega) (by simp only [rangedL]; exact ⟨ra, trivial⟩) (by simp only [sizeL]; omega) _ _ _ W h1 h2 h3)
        have HPB : Hid (∀ vl vk vb W, Kinds W → RT W p1 vl vk → RKv W [b] vb → Calls Tryd.prog 13 #[.agg #[.int .i64 p1.kind, .int .i64 p1.num, .int .i64 p1.atN, vl, vk], vb] W (MadeT q W)) := Lib.hid (fun vl vk vb W h1 h2 h3 => put_made [b] p1 q hpb rp1 (by omega) (by simp only [rangedL]; exact ⟨rb, trivial⟩) (by simp only [sizeL]; omega) _ _ _ W h1 h2 h3)
        have HPR : Hid (∀ vb W, Kinds W → RT W a (.slice A3 n3 c3) (.slice A4 n4 c4) → RKv W [b] vb → Calls Tryd.prog 13 #[.agg #[.int .i64 a.kind, .int .i64 a.num, .int .i64 a.atN, .slice A3 n3 c3, .slice A4 n4 c4], vb] W (GivesT r1 W)) := Lib.hid (fun vb W h1 h2 h3 => put_gives [b] a r1 hra ra (by omega) (by simp only [rangedL]; exact ⟨rb, trivial⟩) (by simp only [sizeL]; omega) _ _ _ W h1 h2 h3)
        have HPQ : Hid (∀ vb W, Kinds W → RT W t (.slice A1 n1 c1) (.slice A2 n2 c2) → RKv W [b, r1] vb → Calls Tryd.prog 13 #[.agg #[.int .i64 t.kind, .int .i64 t.num, .int .i64 t.atN, .slice A1 n1 c1, .slice A2 n2 c2], vb] W (MadeT q W)) := Lib.hid (fun vb W h1 h2 h3 => put_made [b, r1] t q hq2 rt (by omega) (by simp only [rangedL]; exact ⟨rb, rr1, trivial⟩) (by simp only [sizeL]; omega) _ _ _ W h1 h2 h3)
        have hN2 : N + 2 < w1.heap.size := cell_lt x20
        have n0 : N ≠ w1.heap.size := by omega
        clear hpa hra hpb hq2 rp1 rr1 sp1 sr1 rt ra rb rv st sa sb sv s1 s2 s3 s4 hlb hLs hxy hmul' HSM HTM HNIL hv
        have HX : Hid (w1.cell? ⟨N, 0, none⟩ = some (.int .i64 t.kind) ∧ w1.cell? ⟨N, 1, none⟩ = some (.int .i64 t.num) ∧ w1.cell? ⟨N, 2, none⟩ = some (.int .i64 t.atN) ∧ w1.cell? ⟨N, 3, none⟩ = some (.slice A1 n1 c1) ∧ w1.cell? ⟨N, 4, none⟩ = some (.slice A2 n2 c2) ∧ w1.cell? ⟨(N + 1), 0, none⟩ = some (.int .i64 a.kind) ∧ w1.cell? ⟨(N + 1), 1, none⟩ = some (.int .i64 a.num) ∧ w1.cell? ⟨(N + 1), 2, none⟩ = some (.int .i64 a.atN) ∧ w1.cell? ⟨(N + 1), 3, none⟩ = some (.slice A3 n3 c3) ∧ w1.cell? ⟨(N + 1), 4, none⟩ = some (.slice A4 n4 c4) ∧ w1.cell? ⟨(N + 2), 0, none⟩ = some (.int .i64 b.kind) ∧ w1.cell? ⟨(N + 2), 1, none⟩ = some (.int .i64 b.num) ∧ w1.cell? ⟨(N + 2), 2, none⟩ = some (.int .i64 b.atN) ∧ w1.cell? ⟨(N + 2), 3, none⟩ = some (.slice A5 n5 c5) ∧ w1.cell? ⟨(N + 2), 4, none⟩ = some (.slice A6 n6 c6) ∧ Below w1.heap.size w1 w1) := Lib.hid ⟨x00, x01, x02, x03, x04, x10, x11, x12, x13, x14, x20, x21, x22, x23, x24, Below.refl _ _⟩
        clear x00 x01 x02 x03 x04 x10 x11 x12 x13 x14 x20 x21 x22 x23 x24
        go_upto_region 7 with fail
        refine wp_normal (meets7 _ _ _ _ _ _ _ _ _ _ _ _ _ _ _ _ _ _ _ _ _ _ _ _ _ _ _ _ _ _ _ _ _ _ _ _ _ _ _ _ _ _ _ _ _ _ _ _ _ _ _ _ _ _ _ _ _ _ _ _ _ _ _ _ _ _ _ _ _ _ _ _ _ _ _ _ _ _ _ _ _ _ _ _ _ _ _ _ _ _ HX hK ht ha hb HPA HPB _ (by kernel_rfl) _ ?_)
        intro v50 v51 v52 v53 v54 v55 v56 bz B1 m1 d1 B2 m2 d2 wy hB9 hR9 hW
        have hK2 := Kinds.below hW hK
        have ht2 := RT.below hW ht
        have ha2 := RT.below hW ha
        have hb2 := RT.below hW hb
        have HX2 := Lib.hid (sRefl hW HX.out)
        have hW0 : Hid (Below N w wy) := by have h := HBB.out; rw [← HN.out] at h ⊢; exact Lib.hid (below_chain h hW)
        clear hW HX ht ha hb hK HBB HPA HPB
        go_upto_region 8 with fail
        refine wp_normal (meets8 _ _ _ _ _ _ _ _ _ _ _ _ _ _ _ _ _ _ _ _ _ _ _ _ _ _ _ _ _ _ _ _ _ _ _ _ _ _ _ _ _ _ _ _ _ _ _ _ _ _ _ _ _ _ _ _ _ _ _ _ _ _ _ _ _ _ _ _ _ _ _ _ _ _ _ _ _ _ _ _ _ _ _ _ _ _ _ _ _ _ HX2 hK2 ht2 ha2 hb2 HPR HPQ _ (by kernel_rfl) _ ?_)
        intro v57 v58 v59 v60 v61 v62 v63 v64 bq B3 m3 d3 B4 m4 d4 wz hB10 hR10 hW
        obtain ⟨e0, e1, e2, e3, e4⟩ := (hB9.below hW).five
        obtain ⟨f0, f1, f2, f3, f4⟩ := hB10.five
        have hR9' := RT.below hW hR9
        have hW1 : Hid (Below N w wz) := by have h := hW0.out; rw [← HN.out] at h ⊢; exact Lib.hid (below_chain h hW)
        clear hW HX2 ht2 ha2 hb2 hK2 hW0 hB9 hB10 hR9 HPR HPQ
        go_wp2_with fail
        refine (same_any _ _ _ _ _ _ _ hR9' hR10).mono ?_
        rintro e wr ⟨r, hr, rfl, hbr⟩
        obtain rfl : r = true := hr.2 rfl
        clear hr
        go_wp2_with fail
        go_ret
        exact ⟨rfl, by have h := hW1.out; rw [← HN.out] at h; exact below_chain h hbr⟩

end Go.Proofs.YtajpkhkfffdclaaDoor
