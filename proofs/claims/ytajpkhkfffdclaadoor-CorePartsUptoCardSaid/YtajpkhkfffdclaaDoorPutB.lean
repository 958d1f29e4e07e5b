/-
  THE WALK OF term.Put.
-/
import Derived.Test.YtajpkhkfffdclaaDoorPut
namespace Go.Proofs.YtajpkhkfffdclaaDoor
open Go.RowKit

theorem putw_any (bys : List Tm) (vb : Value) (d : Int) (t : Tm) (vl vk : Value) (bb : Nat) (w : World) (hK : Kinds w) (hr : RT w t vl vk) (hg : ranged t) (h0 : 0 ≤ d) (h1 : d + size t ≤ 4611686018427387904)
    (hc : w.cell? ⟨bb, 0, none⟩ = some vb) (hb : RKv w bys vb) (hgb : rangedL bys) (hs : sizeL bys ≤ 1000000000000) :
    Calls Tryd.prog 40 #[.agg #[.int .i64 d, .func (.func 37) #[] #[.pointer (some ⟨bb, 0, none⟩)]], .agg #[.int .i64 t.kind, .int .i64 t.num, .int .i64 t.atN, vl, vk]] w (MadeT (put bys d t) w) := by
  refine walk_all (w0 := w) (s := putStep bys) (G := fun d t => 0 ≤ d ∧ d + size t ≤ 4611686018427387904 ∧ ranged t) hK Tryd.call37 ?_ ?_ ?_ (size t) d t vl vk w (Nat.le_refl _) (Below.refl _ _) hr ⟨h0, h1, hg⟩
  · rintro d k m a ls ks vl A3 n3 c3 W hbW hr ⟨h0, h1, hg⟩
    rw [RT_iff] at hr
    simp only [ranged] at hg
    exact put1_any bys vb d k m a ls ks vl A3 n3 c3 _ _ bb W (hK.below hbW) hr.1 hg.1.2.1 h0 (cell_below hbW hc) (hb.below hbW) hgb hs
  · rintro d k m a ls ks i t ⟨h0, h1, hg⟩ hi
    simp only [ranged] at hg
    simp only [size] at h1
    have := size_at hi
    have := inner_le k i d
    exact ⟨by omega, by omega, ranged_at hg.2 hi⟩
  · rintro d t ⟨h0, h1, _⟩
    exact ⟨h0, by omega⟩

set_option maxRecDepth 100000 in
set_option maxHeartbeats 1600000 in
theorem put_any (bys : List Tm) (vb : Value) (t : Tm) (vl vk : Value) (w : World) (hK : Kinds w) (hr : RT w t vl vk) (hg : ranged t) (h1 : size t ≤ 1000000000000) (hb : RKv w bys vb) (hgb : rangedL bys) (hs : sizeL bys ≤ 1000000000000) :
    Calls Tryd.prog 13 #[.agg #[.int .i64 t.kind, .int .i64 t.num, .int .i64 t.atN, vl, vk], vb] w (MadeT (put bys 0 t) w) := by
  obtain ⟨A2, n2, c2, A3, n3, c3, rfl, rfl⟩ := hr.forms
  obtain ⟨A7, n7, c7, rfl⟩ : ∃ A n c, vb = .slice A n c := by obtain ⟨A, c, e, _⟩ := hb; exact ⟨A, _, c, e⟩
  have hcall := fun W (hbW : Below w.heap.size w W) (hc : W.cell? ⟨w.heap.size + 1, 0, none⟩ = some (.slice A7 n7 c7)) => putw_any bys _ 0 t _ _ (w.heap.size + 1) W (hK.below hbW) (hr.below hbW) hg (by omega) (by omega) hc (hb.below hbW) hgb hs
  clear hr hg hK h1 hb hgb hs
  generalize put bys 0 t = u at *
  go_enter Tryd.func13, Tryd.ntmps13
  go_wp2_with fail
  refine (hcall _ ?_ ?_).mono ?_
  · exact (((Below.refl _ _).alloc (Nat.le_refl _) _).alloc (by simp) _).alloc (by simp; omega) _
  · exact (Box.alloc (Box.new' (w.alloc _) [.slice A7 n7 c7] _ (by simp)) _).cell rfl
  rintro e w1 ⟨vl, vk, bs, rfl, ho, hnd, hb1⟩
  obtain ⟨A5, n5, c5, A6, n6, c6, rfl, rfl⟩ := ho.forms
  have b1 : Below w.heap.size w w1 := ((((Below.refl _ _).alloc (Nat.le_refl _) _).alloc (by simp) _).alloc (by simp; omega) _).trans (hb1.mono (by simp; omega))
  have B3 : Box w1 (w.heap.size + 2) [.int .i64 0, .int .i64 0, .int .i64 0, .slice none 0 0, .slice none 0 0] := Box.below (Box.new' ((w.alloc _).alloc _) [_, _, _, _, _] _ (by simp)) hb1
  have hin : ∀ q ∈ bs, w.heap.size + 2 < q := fun q hq => by have := (ho.inn q hq).1; simp at this; omega
  have hsz := hb1.size
  simp at hsz
  have HO := Lib.hid ho
  have HN := Lib.hid hnd
  have HI := Lib.hid hin
  clear ho hnd hb1 hcall hin
  obtain ⟨s0, s1, s2, s3, s4⟩ := B3.five
  obtain ⟨r0, r1, r2, r3, r4⟩ := B3.thaw
  go_wp2_with fail
  obtain ⟨wf, ewf, F, hmv, hbf⟩ := put5 B3 (.int .i64 u.kind) (.int .i64 u.num) (.int .i64 u.atN) (.slice A5 n5 c5) (.slice A6 n6 c6)
  rw [ewf]
  obtain ⟨z0, z1, z2, z3, z4⟩ := F.five
  refine bodyPost_ret (v := .agg #[.int .i64 u.kind, .int .i64 u.num, .int .i64 u.atN, .slice A5 n5 c5, .slice A6 n6 c6]) (by simp [results, Tryd.results13, go_sem, z0, z1, z2, z3, z4]) rfl ?_
  exact ⟨_, _, bs, rfl, OT.lower (by simp; omega) (HO.out.move fun q hq => hmv q (by have := HI.out q hq; omega)), HN.out, b1.trans (hbf.mono (by omega))⟩

end Go.Proofs.YtajpkhkfffdclaaDoor
