/-
  THE WALKS OF THE CLOSURE OF term.Put AND OF term.Put.
  THE WALK OF term.Put.
-/
import Derived.Test.YtgegaipkfpdocaaDoorLift
namespace Go.Proofs.YtgegaipkfpdocaaDoor
open Go.RowKit

def putStep (bys : List Tm) : Step := fun d t =>
  if t.kind = 1 ∧ d ≤ t.num then
    (if t.num - d < bys.length then .inl (lift d 0 0 ((bys[bys.length - 1 - (t.num - d).toNat]?).getD (.node 0 0 0 [] [])))
     else .inr (t.num - bys.length, t.lvs))
  else .inr (t.num, t.lvs)
/-- Terms put for the lowest variables. -/
abbrev put (bys : List Tm) (d : Int) (t : Tm) : Tm := mapT (putStep bys) d t

set_option maxRecDepth 100000 in
set_option maxHeartbeats 4000000 in
theorem put1_any (bys : List Tm) (vb : Value) (d k m a : Int) (ls : List Lv) (ks : List Tm) (vl : Value) (A3 : Option Addr) (n3 c3 : Nat) (g : FuncId) (lb : Array Value) (bb : Nat) (w : World) (hK : Kinds w)
    (h : RLv w ls vl) (hm : I64 m) (h0 : 0 ≤ d) (hc : w.cell? ⟨bb, 0, none⟩ = some vb) (hb : RKv w bys vb) (hg : rangedL bys) (hs : sizeL bys ≤ 1000000000000) :
    Calls Tryd.prog 33 #[.agg #[.int .i64 d, .func (.func g) #[] lb], .agg #[.int .i64 k, .int .i64 m, .int .i64 a, vl, .slice A3 n3 c3], .pointer (some ⟨bb, 0, none⟩)] w
      (TurnedBy k a (.slice A3 n3 c3) (putStep bys d (.node k m a ls ks)) w) := by
  obtain ⟨A4, n4, c4, rfl⟩ : ∃ A n c, vl = .slice A n c := by obtain ⟨A, c, e, _⟩ := h; exact ⟨A, _, c, e⟩
  obtain ⟨A, c, rfl, hbc, hbm, hcp⟩ := hb
  have hlow := fun m' W (hb : Below w.heap.size w W) => own_any k m' a ls _ A3 n3 c3 W (h.below hb)
  have hmeans := fun W => means_any d m W
  by_cases hc1 : k = 1 ∧ d ≤ m
  · obtain ⟨rfl, hdm⟩ := hc1
    rw [decide_eq_true hdm, wrap_sub hm h0 hdm] at hmeans
    by_cases hlt : m - d < bys.length
    · obtain ⟨j, hj⟩ : ∃ j : Nat, (bys.length : Int) - 1 - (m - d) = j := ⟨bys.length - 1 - (m - d).toNat, by omega⟩
      obtain ⟨t, ht⟩ : ∃ t, bys[j]? = some t := ⟨_, List.getElem?_eq_getElem (by omega)⟩
      have hv : putStep bys d (.node 1 m a ls ks) = .inl (lift d 0 0 t) := by
        have e : bys.length - 1 - (m - d).toNat = j := by omega
        have e' : (bys[bys.length - 1 - (m - d).toNat]?).getD (.node 0 0 0 [] []) = t := by rw [e, ht]; rfl
        exact (if_pos ⟨rfl, hdm⟩).trans ((if_pos hlt).trans (congrArg (fun x => Sum.inl (lift d 0 0 x)) e'))
      rw [hv]
      obtain ⟨b, o, rfl, hrk⟩ := hcp (by omega)
      obtain ⟨kl, kv, x1, x2, x3, x4, x5, hx⟩ := hrk.get ht
      obtain ⟨A6, n6, c6, A7, n7, c7, rfl, rfl⟩ := hx.forms
      have hsz := size_at ht
      have hcall := fun W (hb : Below w.heap.size w W) => lift_any d 0 t _ _ W (hK.below hb) (hx.below hb) (ranged_at hg ht) (by omega)
      clear hlow hv hx ht hcp hrk hg hs hK h
      generalize lift d 0 0 t = u at *
      generalize hq : m - d = q at *
      generalize bys.length = n at *
      have hq0 : 0 ≤ q := by omega
      have hw1 : IntKind.i64.wrap ((n : Int) - 1) = (n : Int) - 1 := IntWalk.i64_in _ (by omega)
      have hw2 : IntKind.i64.wrap ((n : Int) - 1 - q) = (j : Int) := by rw [hj]; exact IntWalk.i64_in _ (by omega)
      have hj1 : (j : Int) < (n : Int) := by omega
      have hj0 : (0 : Int) ≤ (j : Int) := by omega
      clear hq hdm hm
      have HJ := Lib.hid hj; clear hj
      go_enter Tryd.func33, Tryd.ntmps33
      go_wp2_with fail
      refine (hmeans _).mono ?_
      rintro e w1 ⟨rfl, hb1⟩
      clear hmeans
      have b1 : Below w.heap.size w w1 := (((((Below.refl _ _).alloc (Nat.le_refl _) _).alloc (by simp) _).alloc (by simp; omega) _)).trans (hb1.mono (by simp; omega))
      have B0 : Box w1 w.heap.size [.int .i64 d, .func (.func g) #[] lb] := Box.below ((Box.new w [_, _] _).alloc _ |>.alloc _) hb1
      have B1 : Box w1 (w.heap.size + 1) [.int .i64 1, .int .i64 m, .int .i64 a, .slice A4 n4 c4, .slice A3 n3 c3] := Box.below ((Box.new' (w.alloc _) [_, _, _, _, _] _ (by simp)).alloc _) hb1
      have B2 : Box w1 (w.heap.size + 2) [.int .i64 0, .int .i64 0, .int .i64 0, .slice none 0 0, .slice none 0 0] := Box.below (Box.new' ((w.alloc _).alloc _) [_, _, _, _, _] _ (by simp)) hb1
      have y0 := cell_below b1 hc
      have y1 := cell_below b1 x1
      have y2 := cell_below b1 x2
      have y3 := cell_below b1 x3
      have y4 := cell_below b1 x4
      have y5 := cell_below b1 x5
      obtain ⟨p0, p1, p2, p3, p4⟩ := B1.five
      have d0 := B0.cell (j := 0) rfl
      have HB2 := Lib.hid B2
      clear hc x1 x2 x3 x4 x5 B0 B1 B2 hb1
      go_wp2_with fail
      go_still_tail 11, (by kernel_rfl)
      change wpList _ _ _ _ _ w1.drew
      go_wp2_with fail
      refine (hcall _ ?_).mono ?_
      · exact b1.drew
      rintro e w2 ⟨ul, uk, bs, rfl, ho, hnd, hb2⟩
      obtain ⟨A8, n8, c8, A9, n9, c9, rfl, rfl⟩ := ho.forms
      have B3 : Box w2 (w.heap.size + 2) _ := HB2.out.below ((Below.refl _ _).drew.trans hb2)
      have hsz2 := HB2.out.lt
      have b3 := b1.drew.trans (hb2.mono b1.drew.size)
      have hin : ∀ q ∈ bs, w.heap.size + 2 < q := fun q hq => by have := (ho.inn q hq).1; simp at this; omega
      have HO := Lib.hid ho
      have HN := Lib.hid hnd
      have HI := Lib.hid hin
      clear ho hnd hb2 hin hcall
      obtain ⟨s0, s1, s2, s3, s4⟩ := B3.five
      obtain ⟨r0, r1, r2, r3, r4⟩ := B3.thaw
      go_wp2_with fail
      obtain ⟨wf, ewf, F, hmv, hbf⟩ := put5 B3 (.int .i64 u.kind) (.int .i64 u.num) (.int .i64 u.atN) (.slice A8 n8 c8) (.slice A9 n9 c9)
      rw [ewf]
      obtain ⟨z0, z1, z2, z3, z4⟩ := F.five
      refine bodyPost_ret (v := .tuple #[.agg #[.int .i64 u.kind, .int .i64 u.num, .int .i64 u.atN, .slice A8 n8 c8, .slice A9 n9 c9], .bool true]) (by simp [results, Tryd.results33, go_sem, z0, z1, z2, z3, z4]) rfl ?_
      exact ⟨_, _, bs, rfl, OT.lower b1.drew.size (HO.out.move fun q hq => hmv q (by have := HI.out q hq; omega)), HN.out, b3.trans (hbf.mono (by omega))⟩
    · have hv : putStep bys d (.node 1 m a ls ks) = .inr (m - bys.length, ls) := (if_pos ⟨rfl, hdm⟩).trans (if_neg hlt)
      rw [hv]
      clear hv hcp hg hs hK h
      generalize hq : m - d = q at *
      generalize bys.length = n at *
      have hw1 : IntKind.i64.wrap (m - (n : Int)) = m - n := IntWalk.i64_in _ (by obtain ⟨_, _⟩ := hm; omega)
      clear hq hdm hm
      go_enter Tryd.func33, Tryd.ntmps33
      go_wp2_with fail
      refine (hmeans _).mono ?_
      rintro e w1 ⟨rfl, hb1⟩
      clear hmeans
      have b1 : Below w.heap.size w w1 := (((((Below.refl _ _).alloc (Nat.le_refl _) _).alloc (by simp) _).alloc (by simp; omega) _)).trans (hb1.mono (by simp; omega))
      have B1 : Box w1 (w.heap.size + 1) [.int .i64 1, .int .i64 m, .int .i64 a, .slice A4 n4 c4, .slice A3 n3 c3] := Box.below ((Box.new' (w.alloc _) [_, _, _, _, _] _ (by simp)).alloc _) hb1
      have B2 : Box w1 (w.heap.size + 2) [.int .i64 0, .int .i64 0, .int .i64 0, .slice none 0 0, .slice none 0 0] := Box.below (Box.new' ((w.alloc _).alloc _) [_, _, _, _, _] _ (by simp)) hb1
      have y0 := cell_below b1 hc
      obtain ⟨p0, p1, p2, p3, p4⟩ := B1.five
      obtain ⟨t0, t1, t2, t3, t4⟩ := B1.thaw
      have hsz := hb1.size
      clear hb1 hc
      have B1' := B1.set 1 (.int .i64 (m - n))
      have B2' := B2.other (a := ⟨w.heap.size + 1, 1, none⟩) (by simp) (.int .i64 (m - n))
      simp only [List.set_cons_succ, List.set_cons_zero] at B1'
      have b2 : Below w.heap.size w (w1.setCell ⟨w.heap.size + 1, 1, none⟩ (.int .i64 (m - n))) := b1.setCell (by simp) _
      have hl := B2'.lt
      obtain ⟨q0, q1, q2, q3, q4⟩ := B1'.five
      have hown2 := hlow (m - n) _ b2
      generalize hw2 : w1.setCell ⟨w.heap.size + 1, 1, none⟩ (.int .i64 (m - n)) = w2 at *
      have HB2 := Lib.hid B2'
      clear B1 B1' B2 B2' hlow
      go_wp2_with fail
      refine hown2.mono ?_
      rintro e w3 ⟨vl, bs, rfl, ho, hnd, hb3⟩
      obtain ⟨A5, n5, c5, rfl⟩ : ∃ A n c, vl = .slice A n c := by obtain ⟨_, _, h, _⟩ := ho; obtain ⟨A, c, e, _⟩ := own_form h; exact ⟨A, _, c, e⟩
      have B3 := HB2.out.below hb3
      have b3 := b2.trans (hb3.mono b2.size)
      have HO := Lib.hid ho
      have HN := Lib.hid hnd
      clear ho hnd hb3 hown2
      obtain ⟨s0, s1, s2, s3, s4⟩ := B3.five
      obtain ⟨r0, r1, r2, r3, r4⟩ := B3.thaw
      go_wp2_with fail
      obtain ⟨wf, ewf, F, hmv, hbf⟩ := put5 B3 (.int .i64 1) (.int .i64 (m - n)) (.int .i64 a) (.slice A5 n5 c5) (.slice A3 n3 c3)
      rw [ewf]
      obtain ⟨z0, z1, z2, z3, z4⟩ := F.five
      refine bodyPost_ret (v := .tuple #[.agg #[.int .i64 1, .int .i64 (m - n), .int .i64 a, .slice A5 n5 c5, .slice A3 n3 c3], .bool false]) (by simp [results, Tryd.results33, go_sem, z0, z1, z2, z3, z4]) rfl ?_
      have e3 : OLv wf w2.heap.size bs ls (.slice A5 n5 c5) := HO.out.move fun q hq => hmv q (by have := (HO.out.inn q hq).1; omega)
      exact ⟨_, _, rfl, e3.lower (by omega), HN.out, b3.trans (hbf.mono (by omega))⟩
  · have hv : putStep bys d (.node k m a ls ks) = .inr (m, ls) := if_neg hc1
    rw [hv]
    clear hv hcp hg hs hK h
    generalize hq : wrap64 (m - d) = q at *
    generalize hr : decide (d ≤ m) = r at *
    have hparts : ¬ k = 1 ∨ (k = 1 ∧ r = false) := by
      by_cases h1 : k = 1
      · exact .inr ⟨h1, by rw [← hr]; exact decide_eq_false fun h => hc1 ⟨h1, h⟩⟩
      · exact .inl h1
    clear hq hr hm hc1
    go_enter Tryd.func33, Tryd.ntmps33
    go_wp2_with fail
    refine (hmeans _).mono ?_
    rintro e w1 ⟨rfl, hb1⟩
    clear hmeans
    have b2 : Below w.heap.size w w1 := (((((Below.refl _ _).alloc (Nat.le_refl _) _).alloc (by simp) _).alloc (by simp; omega) _)).trans (hb1.mono (by simp; omega))
    have B1 : Box w1 (w.heap.size + 1) [.int .i64 k, .int .i64 m, .int .i64 a, .slice A4 n4 c4, .slice A3 n3 c3] := Box.below ((Box.new' (w.alloc _) [_, _, _, _, _] _ (by simp)).alloc _) hb1
    have B2 : Box w1 (w.heap.size + 2) [.int .i64 0, .int .i64 0, .int .i64 0, .slice none 0 0, .slice none 0 0] := Box.below (Box.new' ((w.alloc _).alloc _) [_, _, _, _, _] _ (by simp)) hb1
    have y0 := cell_below b2 hc
    obtain ⟨p0, p1, p2, p3, p4⟩ := B1.five
    have hl := B2.lt
    clear hb1 hc
    have hown2 := hlow m _ b2
    have HB2 := Lib.hid B2
    clear B1 B2 hlow
    generalize hw2 : w1 = w2 at *
    clear hw2
    rcases hparts with h1 | ⟨rfl, rfl⟩
    · go_wp2_with fail
      refine hown2.mono ?_
      rintro e w3 ⟨vl, bs, rfl, ho, hnd, hb3⟩
      obtain ⟨A5, n5, c5, rfl⟩ : ∃ A n c, vl = .slice A n c := by obtain ⟨_, _, h, _⟩ := ho; obtain ⟨A, c, e, _⟩ := own_form h; exact ⟨A, _, c, e⟩
      have B3 := HB2.out.below hb3
      have b3 := b2.trans (hb3.mono b2.size)
      have HO := Lib.hid ho
      have HN := Lib.hid hnd
      clear ho hnd hb3 hown2
      obtain ⟨s0, s1, s2, s3, s4⟩ := B3.five
      obtain ⟨r0, r1, r2, r3, r4⟩ := B3.thaw
      go_wp2_with fail
      obtain ⟨wf, ewf, F, hmv, hbf⟩ := put5 B3 (.int .i64 k) (.int .i64 m) (.int .i64 a) (.slice A5 n5 c5) (.slice A3 n3 c3)
      rw [ewf]
      obtain ⟨z0, z1, z2, z3, z4⟩ := F.five
      refine bodyPost_ret (v := .tuple #[.agg #[.int .i64 k, .int .i64 m, .int .i64 a, .slice A5 n5 c5, .slice A3 n3 c3], .bool false]) (by simp [results, Tryd.results33, go_sem, z0, z1, z2, z3, z4]) rfl ?_
      have e3 : OLv wf w2.heap.size bs ls (.slice A5 n5 c5) := HO.out.move fun q hq => hmv q (by have := (HO.out.inn q hq).1; omega)
      exact ⟨_, _, rfl, e3.lower (by omega), HN.out, b3.trans (hbf.mono (by omega))⟩
    · go_wp2_with fail
      refine hown2.mono ?_
      rintro e w3 ⟨vl, bs, rfl, ho, hnd, hb3⟩
      obtain ⟨A5, n5, c5, rfl⟩ : ∃ A n c, vl = .slice A n c := by obtain ⟨_, _, h, _⟩ := ho; obtain ⟨A, c, e, _⟩ := own_form h; exact ⟨A, _, c, e⟩
      have B3 := HB2.out.below hb3
      have b3 := b2.trans (hb3.mono b2.size)
      have HO := Lib.hid ho
      have HN := Lib.hid hnd
      clear ho hnd hb3 hown2
      obtain ⟨s0, s1, s2, s3, s4⟩ := B3.five
      obtain ⟨r0, r1, r2, r3, r4⟩ := B3.thaw
      go_wp2_with fail
      obtain ⟨wf, ewf, F, hmv, hbf⟩ := put5 B3 (.int .i64 1) (.int .i64 m) (.int .i64 a) (.slice A5 n5 c5) (.slice A3 n3 c3)
      rw [ewf]
      obtain ⟨z0, z1, z2, z3, z4⟩ := F.five
      refine bodyPost_ret (v := .tuple #[.agg #[.int .i64 1, .int .i64 m, .int .i64 a, .slice A5 n5 c5, .slice A3 n3 c3], .bool false]) (by simp [results, Tryd.results33, go_sem, z0, z1, z2, z3, z4]) rfl ?_
      have e3 : OLv wf w2.heap.size bs ls (.slice A5 n5 c5) := HO.out.move fun q hq => hmv q (by have := (HO.out.inn q hq).1; omega)
      exact ⟨_, _, rfl, e3.lower (by omega), HN.out, b3.trans (hbf.mono (by omega))⟩

open Go.RowKit

theorem putw_any (bys : List Tm) (vb : Value) (d : Int) (t : Tm) (vl vk : Value) (bb : Nat) (w : World) (hK : Kinds w) (hr : RT w t vl vk) (hg : ranged t) (h0 : 0 ≤ d) (h1 : d + size t ≤ 4611686018427387904)
    (hc : w.cell? ⟨bb, 0, none⟩ = some vb) (hb : RKv w bys vb) (hgb : rangedL bys) (hs : sizeL bys ≤ 1000000000000) :
    Calls Tryd.prog 32 #[.agg #[.int .i64 d, .func (.func 33) #[] #[.pointer (some ⟨bb, 0, none⟩)]], .agg #[.int .i64 t.kind, .int .i64 t.num, .int .i64 t.atN, vl, vk]] w (MadeT (put bys d t) w) := by
  refine walk_all (w0 := w) (s := putStep bys) (G := fun d t => 0 ≤ d ∧ d + size t ≤ 4611686018427387904 ∧ ranged t) hK Tryd.call33 ?_ ?_ ?_ (size t) d t vl vk w (Nat.le_refl _) (Below.refl _ _) hr ⟨h0, h1, hg⟩
  · rintro d k m a ls ks vl A3 n3 c3 W hbW hr ⟨h0, h1, hg⟩
    rw [RT_iff] at hr
    simp only [ranged] at hg
    exact put1_any bys vb d k m a ls ks vl A3 n3 c3 _ _ bb W (hK.below hbW) hr.1 hg.1.2.1 h0 (cell_below hbW hc) (hb.below hbW) hgb hs
  · rintro d k m a ls ks i t ⟨h0, h1, hg⟩ hi
    simp only [ranged] at hg
    simp only [size] at h1
    have := size_at hi
    have := inner_le k i d
    exact ⟨by omega, by omega, ranged_at hg.2 hi⟩
  · rintro d t ⟨h0, h1, _⟩
    exact ⟨h0, by omega⟩

set_option maxRecDepth 100000 in
set_option maxHeartbeats 1600000 in
theorem put_any (bys : List Tm) (vb : Value) (t : Tm) (vl vk : Value) (w : World) (hK : Kinds w) (hr : RT w t vl vk) (hg : ranged t) (h1 : size t ≤ 1000000000000) (hb : RKv w bys vb) (hgb : rangedL bys) (hs : sizeL bys ≤ 1000000000000) :
    Calls Tryd.prog 9 #[.agg #[.int .i64 t.kind, .int .i64 t.num, .int .i64 t.atN, vl, vk], vb] w (MadeT (put bys 0 t) w) := by
  obtain ⟨A2, n2, c2, A3, n3, c3, rfl, rfl⟩ := hr.forms
  obtain ⟨A7, n7, c7, rfl⟩ : ∃ A n c, vb = .slice A n c := by obtain ⟨A, c, e, _⟩ := hb; exact ⟨A, _, c, e⟩
  have hcall := fun W (hbW : Below w.heap.size w W) (hc : W.cell? ⟨w.heap.size + 1, 0, none⟩ = some (.slice A7 n7 c7)) => putw_any bys _ 0 t _ _ (w.heap.size + 1) W (hK.below hbW) (hr.below hbW) hg (by omega) (by omega) hc (hb.below hbW) hgb hs
  clear hr hg hK h1 hb hgb hs
  generalize put bys 0 t = u at *
  go_enter Tryd.func9, Tryd.ntmps9
  go_wp2_with fail
  refine (hcall _ ?_ ?_).mono ?_
  · exact (((Below.refl _ _).alloc (Nat.le_refl _) _).alloc (by simp) _).alloc (by simp; omega) _
  · exact (Box.alloc (Box.new' (w.alloc _) [.slice A7 n7 c7] _ (by simp)) _).cell rfl
  rintro e w1 ⟨vl, vk, bs, rfl, ho, hnd, hb1⟩
  obtain ⟨A5, n5, c5, A6, n6, c6, rfl, rfl⟩ := ho.forms
  have b1 : Below w.heap.size w w1 := ((((Below.refl _ _).alloc (Nat.le_refl _) _).alloc (by simp) _).alloc (by simp; omega) _).trans (hb1.mono (by simp; omega))
  have B3 : Box w1 (w.heap.size + 2) [.int .i64 0, .int .i64 0, .int .i64 0, .slice none 0 0, .slice none 0 0] := Box.below (Box.new' ((w.alloc _).alloc _) [_, _, _, _, _] _ (by simp)) hb1
  have hin : ∀ q ∈ bs, w.heap.size + 2 < q := fun q hq => by have := (ho.inn q hq).1; simp at this; omega
  have hsz := hb1.size
  simp at hsz
  have HO := Lib.hid ho
  have HN := Lib.hid hnd
  have HI := Lib.hid hin
  clear ho hnd hb1 hcall hin
  obtain ⟨s0, s1, s2, s3, s4⟩ := B3.five
  obtain ⟨r0, r1, r2, r3, r4⟩ := B3.thaw
  go_wp2_with fail
  obtain ⟨wf, ewf, F, hmv, hbf⟩ := put5 B3 (.int .i64 u.kind) (.int .i64 u.num) (.int .i64 u.atN) (.slice A5 n5 c5) (.slice A6 n6 c6)
  rw [ewf]
  obtain ⟨z0, z1, z2, z3, z4⟩ := F.five
  refine bodyPost_ret (v := .agg #[.int .i64 u.kind, .int .i64 u.num, .int .i64 u.atN, .slice A5 n5 c5, .slice A6 n6 c6]) (by simp [results, Tryd.results9, go_sem, z0, z1, z2, z3, z4]) rfl ?_
  exact ⟨_, _, bs, rfl, OT.lower (by simp; omega) (HO.out.move fun q hq => hmv q (by have := HI.out q hq; omega)), HN.out, b1.trans (hbf.mono (by omega))⟩

end Go.Proofs.YtgegaipkfpdocaaDoor
