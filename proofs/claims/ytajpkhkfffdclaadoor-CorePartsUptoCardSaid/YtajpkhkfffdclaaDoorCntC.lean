/-
  THE WALK OF term.count AND OF term.Right.
-/
import Derived.Test.YtajpkhkfffdclaaDoorCntB
namespace Go.Proofs.YtajpkhkfffdclaaDoor
open Go.RowKit

set_option maxRecDepth 100000 in
set_option maxHeartbeats 4000000 in
theorem count_of {w0 : World} {lok : Lv → Bool} {M : Nat} (hK : Kinds w0) (HS : CountAt w0 lok M) : CountAt w0 lok (M + 1) := by
  rintro deep ⟨k, m, a, ls, ks⟩ vl vk n bn W hM hb hbn hr hL B h0 h1 hd0 hd1
  have hnode := fun W' (hb' : Below w0.heap.size w0 W') => node_any lok k m a ls ks vl vk W' (hK.below hb') (hr.below hb') (fun l v W'' hl hb'' => hL l v W'' (by simp only [lvAll, List.mem_append]; exact .inl hl) (hb'.trans (hb''.mono hb'.size)))
  have hcont : ∀ (W' : World) (bd bp : Nat), deep ≤ 400 → n + 1 ≤ 20000 → Below w0.heap.size w0 W' → Box W' bn [.int .i64 (n + 1)] → Box W' bd [.int .i64 deep] → Box W' bp [.pointer (some ⟨bn, 0, none⟩)] → bd ≠ bn → bp ≠ bn →
      Calls Tryd.prog 103 #[vk, .func (.func 104) #[] #[.pointer (some ⟨bd, 0, none⟩), .pointer (some ⟨bp, 0, none⟩)]] W' (Counted bn (!(cntL lok (deep + 1) ks (n + 1)).1, (cntL lok (deep + 1) ks (n + 1)).2) W') :=
    fun W' bd bp hd hn hb' B' hD hP hnd hnp => containsT_of HS deep ks vk (n + 1) bn bd bp W' (by simp only [size] at hM; omega) hb' hbn ((RT_iff _ _ _ _ _ _ _ _).1 hr).2 (fun l v W'' hl => hL l v W'' (by simp only [lvAll, List.mem_append]; exact .inr hl)) B' hD hP (by omega) hn hd0 hd hnd hnp
  have hv : cnt lok deep (.node k m a ls ks) n = if deep ≤ 400 ∧ n + 1 ≤ 20000 ∧ nodeB lok (.node k m a ls ks) = true then cntL lok (deep + 1) ks (n + 1) else (false, n + 1) := by simp only [cnt]
  obtain ⟨A2, n2, c2, A3, n3, c3, rfl, rfl⟩ := hr.forms
  generalize cnt lok deep (.node k m a ls ks) n = r at *
  generalize cntL lok (deep + 1) ks (n + 1) = rl at *
  generalize nodeB lok (.node k m a ls ks) = nb at *
  simp only [Tm.kind, Tm.num, Tm.atN]
  have hw : IntKind.i64.wrap (n + 1) = n + 1 := IntWalk.i64_in _ (by omega)
  have hlt := B.lt
  generalize hw3 : ((W.alloc (.cells #[.int .i64 k, .int .i64 m, .int .i64 a, .slice A2 n2 c2, .slice A3 n3 c3] 26)).alloc (.cells #[.int .i64 deep] 3)).alloc (.cells #[.pointer (some ⟨bn, 0, none⟩)] 95) = W3
  have T3 : Box W3 W.heap.size [.int .i64 k, .int .i64 m, .int .i64 a, .slice A2 n2 c2, .slice A3 n3 c3] := by rw [← hw3]; exact ((Box.new W [_, _, _, _, _] _).alloc _).alloc _
  have D3 : Box W3 (W.heap.size + 1) [.int .i64 deep] := by rw [← hw3]; exact (Box.new' (W.alloc _) [_] _ (by simp)).alloc _
  have P3 : Box W3 (W.heap.size + 2) [.pointer (some ⟨bn, 0, none⟩)] := by rw [← hw3]; exact Box.new' ((W.alloc _).alloc _) [_] _ (by simp)
  have N3 : Box W3 bn [.int .i64 n] := by rw [← hw3]; exact ((B.alloc _).alloc _).alloc _
  have G3 : W.grownBy W3 (some bn) := by rw [← hw3]; exact ((World.grownBy_alloc _ _ _).trans (World.grownBy_alloc _ _ _)).trans (World.grownBy_alloc _ _ _)
  generalize hw4 : W3.setCell ⟨bn, 0, none⟩ (.int .i64 (n + 1)) = W4
  have T4 : Box W4 W.heap.size [.int .i64 k, .int .i64 m, .int .i64 a, .slice A2 n2 c2, .slice A3 n3 c3] := by rw [← hw4]; exact T3.other (by show W.heap.size ≠ bn; omega) _
  have D4 : Box W4 (W.heap.size + 1) [.int .i64 deep] := by rw [← hw4]; exact D3.other (by show W.heap.size + 1 ≠ bn; omega) _
  have P4 : Box W4 (W.heap.size + 2) [.pointer (some ⟨bn, 0, none⟩)] := by rw [← hw4]; exact P3.other (by show W.heap.size + 2 ≠ bn; omega) _
  have N4 : Box W4 bn [.int .i64 (n + 1)] := by rw [← hw4]; exact N3.set 0 _
  have G4 : W.grownBy W4 (some bn) := by rw [← hw4]; exact G3.trans (grown_setCell W3 ⟨bn, 0, none⟩ _)
  have b4 : Below w0.heap.size w0 W4 := hb.grown G4 hb.size (fun q hq => by injection hq with hq; omega)
  obtain ⟨y0, y1, y2, y3, y4⟩ := T4.five
  have yd := D4.cell (j := 0) rfl
  have yp := P4.cell (j := 0) rfl
  have yn := N4.cell (j := 0) rfl
  have zn := N3.cell (j := 0) rfl
  have zp := P3.cell (j := 0) rfl
  have zf := N3.frozen 0
  have hnode4 := hnode W4 b4
  have HD := Lib.hid D4
  have HP := Lib.hid P4
  have HN := Lib.hid N4
  have HG := Lib.hid G4
  have HB4 := Lib.hid b4
  have HW3 := Lib.hid hw3
  have HW4 := Lib.hid hw4
  clear T3 D3 P3 N3 G3 T4 D4 P4 N4 G4 b4 hnode hr hL hK HS B
  by_cases q1 : deep ≤ 400
  · by_cases q2 : n + 1 ≤ 20000
    · cases nb with
      | false =>
        rw [if_neg (by simp)] at hv
        have HV := Lib.hid hv
        clear hv hcont
        go_enter Tryd.func68, Tryd.ntmps68
        go_wp2_with fail
        refine hnode4.mono ?_
        rintro e w5 ⟨rfl, hb5⟩
        have hg5 := HG.out.trans (grown_of_below hb5 (some bn))
        have hN5 := HN.out.below hb5
        have HG5 := Lib.hid hg5
        have HN5 := Lib.hid hN5
        clear hg5 hN5 hb5 hnode4
        go_wp2_with fail
        go_ret
        rw [HV.out]
        exact ⟨rfl, HN5.out, HG5.out⟩
      | true =>
        rw [if_pos ⟨q1, q2, rfl⟩] at hv
        have HV := Lib.hid hv
        clear hv
        go_enter Tryd.func68, Tryd.ntmps68
        go_wp2_with fail
        refine hnode4.mono ?_
        rintro e w5 ⟨rfl, hb5⟩
        have x4 := cell_below hb5 y4
        have hg5 := HG.out.trans (grown_of_below hb5 (some bn))
        have hcont5 := hcont w5 (W.heap.size + 1) (W.heap.size + 2) q1 q2 (HB4.out.trans (hb5.mono HB4.out.size)) (HN.out.below hb5) (HD.out.below hb5) (HP.out.below hb5) (by omega) (by omega)
        have HG5 := Lib.hid hg5
        clear hg5 hb5 hnode4 hcont
        go_wp2_with fail
        refine hcont5.mono ?_
        rintro e w6 ⟨rfl, hB6, hg6⟩
        have HG6 := Lib.hid (HG5.out.trans hg6)
        have HB6 := Lib.hid hB6
        clear hB6 hg6 hcont5
        obtain ⟨rb, rn⟩ := rl
        cases rb <;>
        · go_wp2_with fail
          go_ret
          rw [HV.out]
          exact ⟨rfl, HB6.out, HG6.out⟩
    · rw [if_neg (by rintro ⟨_, h, _⟩; exact q2 h)] at hv
      have HV := Lib.hid hv
      clear hv hcont hnode4
      go_enter Tryd.func68, Tryd.ntmps68
      go_wp2_with fail
      go_ret
      rw [HV.out]
      exact ⟨rfl, HN.out, HG.out⟩
  · rw [if_neg (by rintro ⟨h, _, _⟩; exact q1 h)] at hv
    have HV := Lib.hid hv
    clear hv hcont hnode4
    go_enter Tryd.func68, Tryd.ntmps68
    go_wp2_with fail
    go_ret
    rw [HV.out]
    exact ⟨rfl, HN.out, HG.out⟩

theorem count_all {w0 : World} {lok : Lv → Bool} (hK : Kinds w0) : ∀ M, CountAt w0 lok M
  | 0 => fun _ t _ _ _ _ _ h => absurd (size_pos t) (by omega)
  | M + 1 => count_of hK (count_all hK M)

set_option maxRecDepth 100000 in
theorem right_any (lok : Lv → Bool) (t : Tm) (vl vk : Value) (w : World) (hK : Kinds w) (hr : RT w t vl vk) (hL : LevelOk (lvAll t) lok w) :
    Calls Tryd.prog 31 #[.agg #[.int .i64 t.kind, .int .i64 t.num, .int .i64 t.atN, vl, vk]] w fun e w' => e = .returned (.bool (rightB lok t)) ∧ Below w.heap.size w w' := by
  obtain ⟨A2, n2, c2, A3, n3, c3, rfl, rfl⟩ := hr.forms
  have hcall := fun W (hb : Below w.heap.size w W) (B : Box W (w.heap.size + 1) [.int .i64 0]) => count_all hK (size t) (lok := lok) 1 t _ _ 0 (w.heap.size + 1) W (Nat.le_refl _) hb (by omega) hr hL B (by omega) (by omega) (by omega) (by omega)
  have hv : Hid (rightB lok t = (cnt lok 1 t 0).1) := rfl
  generalize cnt lok 1 t 0 = r at *
  generalize rightB lok t = q at *
  clear hr hL hK
  go_enter Tryd.func31, Tryd.ntmps31
  go_wp2_with fail
  refine (hcall _ ?_ ?_).mono ?_
  · exact (((Below.refl _ _).alloc (Nat.le_refl _) _).alloc (by simp) _)
  · exact Box.new' (w.alloc _) [.int .i64 0] _ (by simp)
  rintro e w1 ⟨rfl, hB, hg⟩
  have hb : Below w.heap.size w w1 := (((Below.refl w.heap.size w).alloc (Nat.le_refl _) _).alloc (by simp) _).grown hg (by simp; omega) (fun q hq => by injection hq with hq; omega)
  clear hB hg hcall
  go_wp2_with fail
  go_ret
  exact ⟨ret_bool hv.out.symm, hb⟩

end Go.Proofs.YtajpkhkfffdclaaDoor
