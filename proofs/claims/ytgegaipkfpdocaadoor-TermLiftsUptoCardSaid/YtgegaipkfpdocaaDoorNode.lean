/-
  THE WALK OF term.node.
-/
import Derived.Test.YtgegaipkfpdocaaDoorRight
namespace Go.Proofs.YtgegaipkfpdocaaDoor
open Go.RowKit

/-- What a node asks of its numbers of kids, of levels, of its own numbers, by its kind's row. -/
def fitsB (x : Bool × Bool × Int × Int × Int) (k n a lv kd : Int) : Bool :=
  decide (kd = x.2.2.2.1 + (if k = 24 then a else 0) ∧ (n = 0 ∨ x.1 = true) ∧ (a = 0 ∨ x.2.1 = true) ∧ (x.2.2.1 < 0 ∨ lv = x.2.2.1) ∧ lv ≤ (if k = 10 then 10 else 8))
def nodeB (lok : Lv → Bool) : Tm → Bool
  | .node k n a ls ks => decide (1 ≤ k ∧ k ≤ 24) && !(outB n || outB a) && fitsB ((kindTab[k.toNat]?).getD (false, false, 0, 0, 0)) k n a ls.length ks.length && !(ls.any fun l => !lok l)

theorem nodeB_far {lok : Lv → Bool} {k n a : Int} {ls : List Lv} {ks : List Tm} (h : ¬ (1 ≤ k ∧ k ≤ 24)) : nodeB lok (.node k n a ls ks) = false := by simp only [nodeB, decide_eq_false h, Bool.false_and]
theorem nodeB_out {lok : Lv → Bool} {k n a : Int} {ls : List Lv} {ks : List Tm} (h : (outB n || outB a) = true) : nodeB lok (.node k n a ls ks) = false := by simp only [nodeB, h, Bool.not_true, Bool.and_false, Bool.false_and]
theorem nodeB_bad {lok : Lv → Bool} {k n a : Int} {ls : List Lv} {ks : List Tm} (h : fitsB ((kindTab[k.toNat]?).getD (false, false, 0, 0, 0)) k n a ls.length ks.length = false) : nodeB lok (.node k n a ls ks) = false := by simp only [nodeB, h, Bool.and_false, Bool.false_and]
theorem nodeB_good {lok : Lv → Bool} {k n a : Int} {ls : List Lv} {ks : List Tm} (h1 : 1 ≤ k ∧ k ≤ 24) (h2 : (outB n || outB a) = false) (h : fitsB ((kindTab[k.toNat]?).getD (false, false, 0, 0, 0)) k n a ls.length ks.length = true) : nodeB lok (.node k n a ls ks) = !(ls.any fun l => !lok l) := by
  simp only [nodeB, h, h2, decide_eq_true h1, Bool.not_false, Bool.true_and]

theorem tab_kids : ∀ (i : Nat) x, kindTab[i]? = some x → 0 ≤ x.2.2.2.1 ∧ x.2.2.2.1 ≤ 6 := by
  have h : ∀ i : Fin 25, ∀ x, kindTab[i.val]? = some x → 0 ≤ x.2.2.2.1 ∧ x.2.2.2.1 ≤ 6 := by decide +kernel
  intro i x hx
  have hi : i < 25 := (List.getElem?_eq_some_iff.1 hx).1
  exact h ⟨i, hi⟩ x hx

set_option maxRecDepth 100000 in
set_option maxHeartbeats 4000000 in
theorem node_any (lok : Lv → Bool) (k n a : Int) (ls : List Lv) (ks : List Tm) (vl vk : Value) (w : World) (hK : Kinds w) (hr : RT w (.node k n a ls ks) vl vk) (hL : LevelOk ls lok w) :
    Calls Tryd.prog 79 #[.agg #[.int .i64 k, .int .i64 n, .int .i64 a, vl, vk]] w fun e w' => e = .returned (.bool (nodeB lok (.node k n a ls ks))) ∧ Below w.heap.size w w' := by
  rw [RT_iff] at hr
  obtain ⟨hl, hk⟩ := hr
  have hcont := fun W (hb : Below w.heap.size w W) => containsL_any ls lok vl W (hl.below hb) (fun l v W' hm hb' hp => hL l v W' hm (hb.trans (hb'.mono hb.size)) hp)
  obtain ⟨A2, c2, rfl, -, hlm, -⟩ := hl
  obtain ⟨A3, c3, rfl, -, hkm, -⟩ := hk
  clear hL
  by_cases hk : 1 ≤ k ∧ k ≤ 24
  · have hgood := nodeB_good (lok := lok) (n := n) (a := a) (ls := ls) (ks := ks) hk
    have hbad := nodeB_bad (lok := lok) (k := k) (n := n) (a := a) (ls := ls) (ks := ks)
    have hout := nodeB_out (lok := lok) (k := k) (n := n) (a := a) (ls := ls) (ks := ks)
    obtain ⟨x, hx⟩ := tab_at (i := k.toNat) (by omega)
    rw [hx, Option.getD_some] at hgood hbad
    generalize nodeB lok (.node k n a ls ks) = r at *
    generalize (ls.any fun l => !lok l) = ra at *
    generalize ls.length = l2 at *
    generalize ks.length = l3 at *
    obtain ⟨hk1, hk2⟩ := hk
    obtain ⟨i, rfl⟩ : ∃ i : Nat, k = i := ⟨k.toNat, by omega⟩
    have hcell := fun W (hb : Below w.heap.size w W) => (hK.below hb) i x hx
    have hwit := fun b c W => within_any n a b c W
    obtain ⟨xn, xa, xl, xk, xb⟩ := x
    simp only at hcell
    have hi : (i : Int) < 25 := by omega
    have hxk : 0 ≤ xk ∧ xk ≤ 6 := tab_kids i _ hx
    have ha : (outB n || outB a) = false → 0 ≤ a ∧ a ≤ 1048576 := fun h => by
      have h2 : outB a = false := by cases h3 : outB a with | false => rfl | true => rw [h3, Bool.or_true] at h; cases h
      have h3 := of_decide_eq_false h2
      omega
    have hi0 : (0 : Int) ≤ (i : Int) := by omega
    generalize hp : (outB n || outB a) = p at *
    clear hx hK hp
    cases p with
    | true =>
      have HV := Lib.hid (hout rfl)
      clear hgood hbad hout hcont hcell
      go_enter Tryd.func79, Tryd.ntmps79
      go_wp2_with fail
      refine (hwit _ _ _ ?_ ?_).mono ?_
      · exact (Box.new' (w.alloc _) [.int .i64 n, .int .i64 a] _ (by simp)).cell rfl
      · exact (Box.new' (w.alloc _) [.int .i64 n, .int .i64 a] _ (by simp)).cell rfl
      rintro e w1 ⟨rfl, hb1⟩
      have b1 : Below w.heap.size w w1 := (((Below.refl _ _).alloc (Nat.le_refl _) _).alloc (by simp) _).trans (hb1.mono (by simp; omega))
      clear hb1 hwit
      go_wp2_with fail
      go_ret
      exact ⟨ret_bool HV.out.symm, b1⟩
    | false =>
      replace hgood := hgood rfl
      obtain ⟨ha0, ha1⟩ := ha rfl
      have HG := Lib.hid hgood
      have HB := Lib.hid hbad
      clear hgood hbad hout
      go_enter Tryd.func79, Tryd.ntmps79
      go_wp2_with fail
      refine (hwit _ _ _ ?_ ?_).mono ?_
      · exact (Box.new' (w.alloc _) [.int .i64 n, .int .i64 a] _ (by simp)).cell rfl
      · exact (Box.new' (w.alloc _) [.int .i64 n, .int .i64 a] _ (by simp)).cell rfl
      rintro e w1 ⟨rfl, hb1⟩
      have b1 : Below w.heap.size w w1 := (((Below.refl _ _).alloc (Nat.le_refl _) _).alloc (by simp) _).trans (hb1.mono (by simp; omega))
      have B1 : Box w1 w.heap.size [.int .i64 i, .int .i64 n, .int .i64 a, .slice A2 l2 c2, .slice A3 l3 c3] := Box.below ((Box.new w [_, _, _, _, _] _).alloc _) hb1
      have hcell1 := hcell w1 b1
      obtain ⟨g0, g1, g2, g3, g4⟩ := hcell1
      have hcont1 := fun W (hb : Below w1.heap.size w1 W) => hcont W (b1.trans (hb.mono b1.size))
      obtain ⟨p0, p1, p2, p3, p4⟩ := B1.five
      have hw1lt := B1.lt
      generalize hw2 : w1.alloc (.cells #[.bool xn, .bool xa, .int .i64 xl, .int .i64 xk, .int .i64 xb] 112) = w2
      have B2 : Box w2 w1.heap.size [.bool xn, .bool xa, .int .i64 xl, .int .i64 xk, .int .i64 xb] := by rw [← hw2]; exact Box.new w1 [_, _, _, _, _] _
      have bb2 : Below w1.heap.size w1 w2 := by rw [← hw2]; exact (Below.refl _ _).alloc (Nat.le_refl _) _
      have b2 := b1.trans (bb2.mono b1.size)
      have B3 := B1.below bb2
      have hcont2 := hcont1 w2 bb2
      obtain ⟨q0, q1, q2, q3, q4⟩ := B3.five
      obtain ⟨t0, t1, t2, t3, t4⟩ := B2.five
      clear hb1 hwit hcell hcont B1 bb2
      by_cases h24 : i = 24
      · subst h24
        have h24' : ((24 : Nat) : Int) = 24 := rfl
        have h10' : ¬ ((24 : Nat) : Int) = 10 := by omega
        have hwr : IntKind.i64.wrap (xk + a) = xk + a := IntWalk.i64_in _ (by omega)
        have t3' := B2.frozen 3
        generalize hw3 : w2.setCell ⟨w1.heap.size, 3, none⟩ (.int .i64 (xk + a)) = w3
        have D2 : Box w3 w1.heap.size [.bool xn, .bool xa, .int .i64 xl, .int .i64 (xk + a), .int .i64 xb] := by rw [← hw3]; exact B2.set 3 _
        have bb3 : Below w1.heap.size w2 w3 := by rw [← hw3]; exact (Below.refl w1.heap.size w2).setCell (Nat.le_refl _) _
        have b3 : Below w.heap.size w w3 := b2.trans (bb3.mono b1.size)
        have D3 : Box w3 w.heap.size [.int .i64 (24 : Nat), .int .i64 n, .int .i64 a, .slice A2 l2 c2, .slice A3 l3 c3] := by rw [← hw3]; exact B3.other (by show w.heap.size ≠ w1.heap.size; omega) _
        have hcont3 := hcont1 w3 (by have := bb3.mono (Nat.le_refl _); exact (by rw [← hw2]; exact (Below.refl _ _).alloc (Nat.le_refl _) _ : Below w1.heap.size w1 w2).trans bb3)
        obtain ⟨r0, r1, r2, r3, r4⟩ := D3.five
        obtain ⟨s0, s1, s2, s3, s4⟩ := D2.five
        have HW2 := Lib.hid hw2
        have HW3 := Lib.hid hw3
        clear B2 B3 hcont1 hcont2 D2 D3 bb3 b2
        have hcont2 := hcont3
        clear hcont3
        go_wp2_with fail
        all_goals first
          | (go_ret
             refine ⟨ret_bool (HB.out (decide_eq_false ?_)).symm, b3⟩
             rintro ⟨f1, f2, f3, f4, f5⟩
             rw [if_pos h24'] at f1
             rw [if_neg h10'] at f5
             dsimp only at f1 f2 f3 f4
             rcases f2 with f2 | f2 <;> rcases f3 with f3 | f3 <;> rcases f4 with f4 | f4 <;> first | omega | contradiction)
          | (refine hcont2.mono ?_
             rintro e w5 ⟨rfl, hb5⟩
             go_wp2_with fail
             go_ret
             refine ⟨ret_bool (HG.out (decide_eq_true ⟨?_, ?_, ?_, ?_, ?_⟩)).symm, b3.trans (hb5.mono b3.size)⟩
             · rw [if_pos h24']; (try dsimp only); omega
             · first | exact .inl ‹_› | exact .inr ‹_›
             · first | exact .inl ‹_› | exact .inr ‹_›
             · (try dsimp only); omega
             · rw [if_neg h10']; (try dsimp only); omega)
      · by_cases h10 : i = 10
        · subst h10
          have h24' : ¬ ((10 : Nat) : Int) = 24 := by omega
          have h10' : ((10 : Nat) : Int) = 10 := rfl
          have HW2 := Lib.hid hw2
          clear B2 B3 hcont1
          go_wp2_with fail
          all_goals first
            | (go_ret
               refine ⟨ret_bool (HB.out (decide_eq_false ?_)).symm, b2⟩
               rintro ⟨f1, f2, f3, f4, f5⟩
               rw [if_neg h24'] at f1
               rw [if_pos h10'] at f5
               dsimp only at f1 f2 f3 f4
               rcases f2 with f2 | f2 <;> rcases f3 with f3 | f3 <;> rcases f4 with f4 | f4 <;> first | omega | contradiction)
            | (refine hcont2.mono ?_
               rintro e w5 ⟨rfl, hb5⟩
               go_wp2_with fail
               go_ret
               refine ⟨ret_bool (HG.out (decide_eq_true ⟨?_, ?_, ?_, ?_, ?_⟩)).symm, b2.trans (hb5.mono b2.size)⟩
               · rw [if_neg h24']; (try dsimp only); omega
               · first | exact .inl ‹_› | exact .inr ‹_›
               · first | exact .inl ‹_› | exact .inr ‹_›
               · (try dsimp only); omega
               · rw [if_pos h10']; (try dsimp only); omega)
        · have h24' : ¬ (i : Int) = 24 := by omega
          have h10' : ¬ (i : Int) = 10 := by omega
          have HW2 := Lib.hid hw2
          clear B2 B3 hcont1
          go_wp2_with fail
          all_goals first
            | (go_ret
               refine ⟨ret_bool (HB.out (decide_eq_false ?_)).symm, b2⟩
               rintro ⟨f1, f2, f3, f4, f5⟩
               rw [if_neg h24'] at f1
               rw [if_neg h10'] at f5
               dsimp only at f1 f2 f3 f4
               rcases f2 with f2 | f2 <;> rcases f3 with f3 | f3 <;> rcases f4 with f4 | f4 <;> first | omega | contradiction)
            | (refine hcont2.mono ?_
               rintro e w5 ⟨rfl, hb5⟩
               go_wp2_with fail
               go_ret
               refine ⟨ret_bool (HG.out (decide_eq_true ⟨?_, ?_, ?_, ?_, ?_⟩)).symm, b2.trans (hb5.mono b2.size)⟩
               · rw [if_neg h24']; (try dsimp only); omega
               · first | exact .inl ‹_› | exact .inr ‹_›
               · first | exact .inl ‹_› | exact .inr ‹_›
               · (try dsimp only); omega
               · rw [if_neg h10']; (try dsimp only); omega)
  · have HV := Lib.hid (nodeB_far (lok := lok) (n := n) (a := a) (ls := ls) (ks := ks) hk)
    generalize nodeB lok (.node k n a ls ks) = r at *
    clear hcont hK
    have hk' : k < 1 ∨ 24 < k := by omega
    rcases hk' with h1 | h1
    · go_enter Tryd.func79, Tryd.ntmps79
      go_wp2_with fail
      go_ret
      exact ⟨ret_bool HV.out.symm, (Below.refl _ _).alloc (Nat.le_refl _) _⟩
    · have h2 : ¬ k < 1 := by omega
      go_enter Tryd.func79, Tryd.ntmps79
      go_wp2_with fail
      go_ret
      exact ⟨ret_bool HV.out.symm, (Below.refl _ _).alloc (Nat.le_refl _) _⟩

end Go.Proofs.YtgegaipkfpdocaaDoor
