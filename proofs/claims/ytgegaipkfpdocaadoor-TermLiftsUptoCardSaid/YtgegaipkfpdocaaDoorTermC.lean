/-
  THE WALK OF THE CLOSURE OF term.Lift.
-/
import Derived.Test.YtgegaipkfpdocaaDoorTermB
namespace Go.Proofs.YtgegaipkfpdocaaDoor
open Go.RowKit

/-- An int's range. -/
def I64 (x : Int) : Prop := -9223372036854775808 ≤ x ∧ x ≤ 9223372036854775807
mutual
/-- All numbers of nodes are ints. -/
def ranged : Tm → Prop
  | .node k n a _ ks => (I64 k ∧ I64 n ∧ I64 a) ∧ rangedL ks
def rangedL : List Tm → Prop
  | [] => True
  | t :: ts => ranged t ∧ rangedL ts
end
theorem ranged_at {ts : List Tm} {i : Nat} {t : Tm} (h : rangedL ts) (hi : ts[i]? = some t) : ranged t := by
  induction ts generalizing i with
  | nil => simp at hi
  | cons x xs ih =>
    simp only [rangedL] at h
    cases i with
    | zero => simp only [List.getElem?_cons_zero, Option.some.injEq] at hi; subst hi; exact h.1
    | succ i => exact ih h.2 (i := i) (by simpa using hi)
theorem wrap_sub {m d : Int} (hm : I64 m) (h0 : 0 ≤ d) (h : d ≤ m) : wrap64 (m - d) = m - d := by
  obtain ⟨_, h2⟩ := hm
  unfold wrap64
  omega

/-- What a turn leaves of a node: its number turned, its levels its own, its kids as they lay. -/
def Turned (k m a : Int) (ls : List Lv) (vk : Value) (w : World) (e : Ending) (w' : World) : Prop :=
  ∃ vl bs, e = .returned (.tuple #[.agg #[.int .i64 k, .int .i64 m, .int .i64 a, vl, vk], .bool false]) ∧ OLv w' w.heap.size bs ls vl ∧ bs.Nodup ∧ Below w.heap.size w w'

def liftNum (n f d k m : Int) : Int := if k = 1 ∧ d ≤ m ∧ f ≤ m - d then wrap64 (m + n) else m

set_option maxRecDepth 100000 in
set_option maxHeartbeats 1600000 in
theorem lift1_any (n f d k m a : Int) (ls : List Lv) (vl : Value) (A3 : Option Addr) (n3 c3 : Nat) (g : FuncId) (lb : Array Value) (bf bn : Nat) (w : World)
    (h : RLv w ls vl) (hm : I64 m) (h0 : 0 ≤ d) (hf : w.cell? ⟨bf, 0, none⟩ = some (.int .i64 f)) (hn : w.cell? ⟨bn, 0, none⟩ = some (.int .i64 n)) :
    Calls Tryd.prog 29 #[.agg #[.int .i64 d, .func (.func g) #[] lb], .agg #[.int .i64 k, .int .i64 m, .int .i64 a, vl, .slice A3 n3 c3], .pointer (some ⟨bf, 0, none⟩), .pointer (some ⟨bn, 0, none⟩)] w
      (Turned k (liftNum n f d k m) a ls (.slice A3 n3 c3) w) := by
  obtain ⟨A4, n4, c4, rfl⟩ : ∃ A n c, vl = .slice A n c := by obtain ⟨A, c, e, _⟩ := h; exact ⟨A, _, c, e⟩
  have hown := fun m' W (hb : Below w.heap.size w W) => own_any k m' a ls _ A3 n3 c3 W (h.below hb)
  by_cases hc : k = 1 ∧ d ≤ m ∧ f ≤ m - d
  · have HV : Hid (liftNum n f d k m = wrap64 (m + n)) := if_pos hc
    obtain ⟨rfl, hdm, hfm⟩ := hc
    have hcall := fun W => means_any d m W
    rw [decide_eq_true hdm, wrap_sub hm h0 hdm] at hcall
    generalize hq : m - d = q at *
    have HQ := Lib.hid hq
    clear hq hm
    go_enter Tryd.func29, Tryd.ntmps29
    go_wp2_with fail
    refine (hcall _).mono ?_
    rintro e w1 ⟨rfl, hb1⟩
    clear hcall
    have b1 : Below w.heap.size w w1 := ((((Below.refl _ _).alloc (Nat.le_refl _) _).alloc (by simp) _).alloc (by simp; omega) _).trans (hb1.mono (by simp; omega))
    have B1 : Box w1 (w.heap.size + 1) [.int .i64 1, .int .i64 m, .int .i64 a, .slice A4 n4 c4, .slice A3 n3 c3] := Box.below ((Box.new' (w.alloc _) [_, _, _, _, _] _ (by simp)).alloc _) hb1
    have B2 : Box w1 (w.heap.size + 2) [.int .i64 0, .int .i64 0, .int .i64 0, .slice none 0 0, .slice none 0 0] := Box.below (Box.new' ((w.alloc _).alloc _) [_, _, _, _, _] _ (by simp)) hb1
    have hf1 := cell_below b1 hf
    have hn1 := cell_below b1 hn
    obtain ⟨p0, p1, p2, p3, p4⟩ := B1.five
    obtain ⟨t0, t1, t2, t3, t4⟩ := B1.thaw
    have hsz := hb1.size
    clear hb1 hf hn
    have B1' := B1.set 1 (.int .i64 (wrap64 (m + n)))
    have B2' := B2.other (a := ⟨w.heap.size + 1, 1, none⟩) (by simp) (.int .i64 (wrap64 (m + n)))
    simp only [List.set_cons_succ, List.set_cons_zero] at B1'
    have b2 : Below w.heap.size w (w1.setCell ⟨w.heap.size + 1, 1, none⟩ (.int .i64 (wrap64 (m + n)))) := b1.setCell (by simp) _
    have hl := B2'.lt
    obtain ⟨q0, q1, q2, q3, q4⟩ := B1'.five
    have hown2 := hown (wrap64 (m + n)) _ b2
    generalize hw2 : w1.setCell ⟨w.heap.size + 1, 1, none⟩ (.int .i64 (wrap64 (m + n))) = w2 at *
    have HB2 := Lib.hid B2'
    clear B1 B1' B2 B2' hown
    go_wp2_with fail
    refine hown2.mono ?_
    rintro e w3 ⟨vl, bs, rfl, ho, hnd, hb3⟩
    obtain ⟨A5, n5, c5, rfl⟩ : ∃ A n c, vl = .slice A n c := by obtain ⟨_, _, h, _⟩ := ho; obtain ⟨A, c, e, _⟩ := own_form h; exact ⟨A, _, c, e⟩
    have B3 := HB2.out.below hb3
    have b3 := b2.trans (hb3.mono b2.size)
    have HO := Lib.hid ho
    have HN := Lib.hid hnd
    clear ho hnd hb3 hown2
    obtain ⟨s0, s1, s2, s3, s4⟩ := B3.five
    obtain ⟨r0, r1, r2, r3, r4⟩ := B3.thaw
    go_wp2_with fail
    obtain ⟨wf, ewf, F, hmv, hbf⟩ := put5 B3 (.int .i64 1) (.int .i64 (wrap64 (m + n))) (.int .i64 a) (.slice A5 n5 c5) (.slice A3 n3 c3)
    rw [ewf]
    obtain ⟨z0, z1, z2, z3, z4⟩ := F.five
    refine bodyPost_ret (v := .tuple #[.agg #[.int .i64 1, .int .i64 (wrap64 (m + n)), .int .i64 a, .slice A5 n5 c5, .slice A3 n3 c3], .bool false]) (by simp [results, Tryd.results29, go_sem, z0, z1, z2, z3, z4]) rfl ?_
    have e3 : OLv wf w2.heap.size bs ls (.slice A5 n5 c5) := HO.out.move fun q hq => hmv q (by have := (HO.out.inn q hq).1; omega)
    exact ⟨_, _, by rw [HV.out], e3.lower (by omega), HN.out, b3.trans (hbf.mono (by omega))⟩
  · have HV : Hid (liftNum n f d k m = m) := if_neg hc
    have hcall := fun W => means_any d m W
    generalize hq : wrap64 (m - d) = q at *
    generalize hr : decide (d ≤ m) = r at *
    have hcond : Hid (¬ (k = 1 ∧ r = true ∧ f ≤ q)) := by
      rintro ⟨h1, h2, h3⟩
      subst hr
      have h4 : d ≤ m := by simpa using h2
      rw [← hq, wrap_sub hm h0 h4] at h3
      exact hc ⟨h1, h4, h3⟩
    clear hq hr hm hc
    go_enter Tryd.func29, Tryd.ntmps29
    go_wp2_with fail
    refine (hcall _).mono ?_
    rintro e w1 ⟨rfl, hb1⟩
    clear hcall
    have b2 : Below w.heap.size w w1 := ((((Below.refl _ _).alloc (Nat.le_refl _) _).alloc (by simp) _).alloc (by simp; omega) _).trans (hb1.mono (by simp; omega))
    have B1 : Box w1 (w.heap.size + 1) [.int .i64 k, .int .i64 m, .int .i64 a, .slice A4 n4 c4, .slice A3 n3 c3] := Box.below ((Box.new' (w.alloc _) [_, _, _, _, _] _ (by simp)).alloc _) hb1
    have B2 : Box w1 (w.heap.size + 2) [.int .i64 0, .int .i64 0, .int .i64 0, .slice none 0 0, .slice none 0 0] := Box.below (Box.new' ((w.alloc _).alloc _) [_, _, _, _, _] _ (by simp)) hb1
    have hf1 := cell_below b2 hf
    obtain ⟨p0, p1, p2, p3, p4⟩ := B1.five
    have hl := B2.lt
    clear hb1 hf hn
    have hown2 := hown m _ b2
    have HB2 := Lib.hid B2
    clear B1 B2 hown
    generalize hw2 : w1 = w2 at *
    clear hw2
    have hparts : (k == 1) = false ∨ (k = 1 ∧ r = false) ∨ (k = 1 ∧ r = true ∧ ¬ f ≤ q) := by
      by_cases h1 : k = 1
      · cases r with
        | false => exact .inr (.inl ⟨h1, rfl⟩)
        | true => exact .inr (.inr ⟨h1, rfl, fun h => hcond.out ⟨h1, rfl, h⟩⟩)
      · exact .inl (by simpa using h1)
    rcases hparts with h1 | ⟨rfl, rfl⟩ | ⟨rfl, rfl, h1⟩
    · go_wp2_with fail
      refine hown2.mono ?_
      rintro e w3 ⟨vl, bs, rfl, ho, hnd, hb3⟩
      obtain ⟨A5, n5, c5, rfl⟩ : ∃ A n c, vl = .slice A n c := by obtain ⟨_, _, h, _⟩ := ho; obtain ⟨A, c, e, _⟩ := own_form h; exact ⟨A, _, c, e⟩
      have B3 := HB2.out.below hb3
      have b3 := b2.trans (hb3.mono b2.size)
      have HO := Lib.hid ho
      have HN := Lib.hid hnd
      clear ho hnd hb3 hown2
      obtain ⟨s0, s1, s2, s3, s4⟩ := B3.five
      obtain ⟨r0, r1, r2, r3, r4⟩ := B3.thaw
      go_wp2_with fail
      obtain ⟨wf, ewf, F, hmv, hbf⟩ := put5 B3 (.int .i64 k) (.int .i64 m) (.int .i64 a) (.slice A5 n5 c5) (.slice A3 n3 c3)
      rw [ewf]
      obtain ⟨z0, z1, z2, z3, z4⟩ := F.five
      refine bodyPost_ret (v := .tuple #[.agg #[.int .i64 k, .int .i64 m, .int .i64 a, .slice A5 n5 c5, .slice A3 n3 c3], .bool false]) (by simp [results, Tryd.results29, go_sem, z0, z1, z2, z3, z4]) rfl ?_
      have e3 : OLv wf w2.heap.size bs ls (.slice A5 n5 c5) := HO.out.move fun q hq => hmv q (by have := (HO.out.inn q hq).1; omega)
      exact ⟨_, _, by rw [HV.out], e3.lower (by omega), HN.out, b3.trans (hbf.mono (by omega))⟩
    · go_wp2_with fail
      refine hown2.mono ?_
      rintro e w3 ⟨vl, bs, rfl, ho, hnd, hb3⟩
      obtain ⟨A5, n5, c5, rfl⟩ : ∃ A n c, vl = .slice A n c := by obtain ⟨_, _, h, _⟩ := ho; obtain ⟨A, c, e, _⟩ := own_form h; exact ⟨A, _, c, e⟩
      have B3 := HB2.out.below hb3
      have b3 := b2.trans (hb3.mono b2.size)
      have HO := Lib.hid ho
      have HN := Lib.hid hnd
      clear ho hnd hb3 hown2
      obtain ⟨s0, s1, s2, s3, s4⟩ := B3.five
      obtain ⟨r0, r1, r2, r3, r4⟩ := B3.thaw
      go_wp2_with fail
      obtain ⟨wf, ewf, F, hmv, hbf⟩ := put5 B3 (.int .i64 1) (.int .i64 m) (.int .i64 a) (.slice A5 n5 c5) (.slice A3 n3 c3)
      rw [ewf]
      obtain ⟨z0, z1, z2, z3, z4⟩ := F.five
      refine bodyPost_ret (v := .tuple #[.agg #[.int .i64 1, .int .i64 m, .int .i64 a, .slice A5 n5 c5, .slice A3 n3 c3], .bool false]) (by simp [results, Tryd.results29, go_sem, z0, z1, z2, z3, z4]) rfl ?_
      have e3 : OLv wf w2.heap.size bs ls (.slice A5 n5 c5) := HO.out.move fun q hq => hmv q (by have := (HO.out.inn q hq).1; omega)
      exact ⟨_, _, by rw [HV.out], e3.lower (by omega), HN.out, b3.trans (hbf.mono (by omega))⟩
    · have h1' : q < f := by omega
      go_wp2_with fail
      refine hown2.mono ?_
      rintro e w3 ⟨vl, bs, rfl, ho, hnd, hb3⟩
      obtain ⟨A5, n5, c5, rfl⟩ : ∃ A n c, vl = .slice A n c := by obtain ⟨_, _, h, _⟩ := ho; obtain ⟨A, c, e, _⟩ := own_form h; exact ⟨A, _, c, e⟩
      have B3 := HB2.out.below hb3
      have b3 := b2.trans (hb3.mono b2.size)
      have HO := Lib.hid ho
      have HN := Lib.hid hnd
      clear ho hnd hb3 hown2
      obtain ⟨s0, s1, s2, s3, s4⟩ := B3.five
      obtain ⟨r0, r1, r2, r3, r4⟩ := B3.thaw
      go_wp2_with fail
      obtain ⟨wf, ewf, F, hmv, hbf⟩ := put5 B3 (.int .i64 1) (.int .i64 m) (.int .i64 a) (.slice A5 n5 c5) (.slice A3 n3 c3)
      rw [ewf]
      obtain ⟨z0, z1, z2, z3, z4⟩ := F.five
      refine bodyPost_ret (v := .tuple #[.agg #[.int .i64 1, .int .i64 m, .int .i64 a, .slice A5 n5 c5, .slice A3 n3 c3], .bool false]) (by simp [results, Tryd.results29, go_sem, z0, z1, z2, z3, z4]) rfl ?_
      have e3 : OLv wf w2.heap.size bs ls (.slice A5 n5 c5) := HO.out.move fun q hq => hmv q (by have := (HO.out.inn q hq).1; omega)
      exact ⟨_, _, by rw [HV.out], e3.lower (by omega), HN.out, b3.trans (hbf.mono (by omega))⟩

end Go.Proofs.YtgegaipkfpdocaaDoor
