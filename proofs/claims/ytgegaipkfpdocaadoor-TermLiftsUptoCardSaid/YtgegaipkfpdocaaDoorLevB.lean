/-
  THE KEYS OF A LEVEL'S MAP, SORTED; THE WALK OF (level.work).hidden.
-/
import Derived.Test.YtgegaipkfpdocaaDoorLevA
import Derived.Test.YtgegaipkfpdocaaDoorKeys
namespace Go.Proofs.YtgegaipkfpdocaaDoor
open Go.RowKit Go.Maps
set_option linter.unusedSimpArgs false
set_option linter.unusedVariables false
set_option maxRecDepth 100000

theorem sortsInt (m : Nat) : AnyZI.SortsIn Tryd.prog Tryd.sortedA_ren Fence.wide m :=
  ⟨fun blk off cap ss W hH hblk hsz => callsIn_wide.2 (AnyM.slices_Sort_int Tryd.sortA blk off cap ss W hH hblk hsz),
   fun p cap W => callsIn_wide.2 (AnyM.slices_Sort_int_none Tryd.sortA p cap W)⟩
theorem keys_any (mb : Option Nat) (W : World) : Calls Tryd.prog 96 #[.map mb] W fun e w' =>
    e = .returned (.func (.func 105) #[] #[.pointer (some ⟨W.heap.size, 0, none⟩)]) ∧ w' = W.alloc (.cells #[.map mb] 96) :=
  (callsIn_wide (n := 5)).1 (AnyZI.keys_in Tryd.keysA Fence.wide 5 trivial rfl mb W)
theorem rise_sorted {r : Lv} (h : RiseP r) : (r.map (·.1)).mergeSort leI = r.map (·.1) := by
  refine List.mergeSort_of_pairwise (List.pairwise_map.2 (h.imp fun {a b} hab => ?_))
  simp only [decide_eq_true_eq]; omega

set_option maxHeartbeats 1000000 in
theorem keysS_any (mb : Nat) (r : Lv) (w : World) (hm : MapR w mb r) :
    Calls Tryd.prog 95 #[.func (.func 105) #[] #[.pointer (some ⟨w.heap.size, 0, none⟩)]] (w.alloc (.cells #[.map (some mb)] 96)) fun e w' => ∃ v, e = .returned v ∧
      w'.ownsRow (w.heap.size + 1) 3 1 v r.length ((r.map (·.1)).map encZ) ∧ Below (w.heap.size + 1) (w.alloc (.cells #[.map (some mb)] 96)) w' := by
  obtain ⟨D, n, hown, hn, hD, hR, hG⟩ := hm
  have hbl := hown.lt
  have hsz := reads_size hown hD hR
  have hlen := good_length hR hG
  have hseq : SeqGives Fence.wide 2 Tryd.prog 105 #[.pointer (some ⟨w.heap.size, 0, none⟩)] encZ (fun ss => ss.Perm (intKeys D)) (Maps.size D) (w.alloc (.cells #[.map (some mb)] 96)) :=
    AnyZI.keys_gives (ρ := Tryd.keysA_ren) { Tryd.keysA with } Fence.wide _ trivial rfl (by omega) w.heap.size mb n D _ (by simp) (by simp) (by
      obtain ⟨es, clock, hb, Ft, hs, hD⟩ := hown
      exact ⟨es, clock, (Below.heap_alloc _ _ mb hbl).trans hb, Ft, hs, hD⟩)
  have h := AnyZI.sorted_in Tryd.sortedA Fence.wide 5 trivial trivial trivial trivial rfl (by omega) (sortsInt _) (enters_of Tryd.func104 (by kernel_rfl) rfl) 105 #[.pointer (some ⟨w.heap.size, 0, none⟩)] trivial (enters_of Tryd.func105 (by kernel_rfl) rfl) _ _ (by rw [hsz]; unfold maxLen; omega) (by rw [hsz]; omega) _ hseq
  refine ((callsIn_wide (n := 5)).1 h).mono ?_
  rintro e w' ⟨v, ss, rfl, hS, hrow, _, hb⟩
  have e1 : (w.alloc (.cells #[.map (some mb)] 96)).heap.size = w.heap.size + 1 := by simp
  have e2 : ss.mergeSort (fun x y => decide (x ≤ y)) = r.map (·.1) := by
    rw [← rise_sorted hR]
    exact mergeSort_of_perm_i (hS.trans (reads_perm hown hD hR).symm)
  have e3 : ss.length = r.length := by rw [hS.length_eq, ← (reads_perm hown hD hR).length_eq, List.length_map]
  rw [e1, e2, e3] at hrow
  rw [e1] at hb
  exact ⟨v, rfl, hrow, hb⟩

/-- Is a number never above some other part? -/
def hidR (r : Lv) (n : Int) : Bool := r.any fun q => decide (0 < q.1) && decide (n ≤ q.2)
theorem ReadsR.mem {D : DataW Unit} {r : Lv} (h : ReadsR D r) {x c : Int} (hat : ∀ zd, D.atKey (.int .i64 x) zd = .lit (.int .i64 c)) : (x, c) ∈ r := by
  rcases h.look (hat _) with hm | ⟨hn, _⟩
  · exact hm
  · exfalso
    have h1 := has_true_of_atKey hat
    rw [h.2.1, List.any_eq_true] at h1
    obtain ⟨q, hq, e⟩ := h1
    exact hn q hq (by simpa using e)

theorem left_step {r : Lv} (hr : RiseP r) {left : Lit → Bool} {n x c : Int} (h : ∀ q ∈ r, left (.int .i64 q.1) = true ∨ ¬ (0 < q.1 ∧ n ≤ q.2)) (hm : (x, c) ∈ r) (hn : ¬ (0 < x ∧ n ≤ c)) :
    ∀ q ∈ r, (left (.int .i64 q.1) && !(Lit.int .i64 q.1).sameKey (.int .i64 x)) = true ∨ ¬ (0 < q.1 ∧ n ≤ q.2) := by
  intro q hq
  by_cases he : q.1 = x
  · have := hr.one hq hm he
    subst this
    exact .inr hn
  · rcases h q hq with h1 | h1
    · left
      rw [h1, Maps.sameKey_ne (lit_ne he)]
      rfl
    · exact .inr h1

set_option maxHeartbeats 1000000 in
theorem hidden_any (mb : Nat) (r : Lv) (n : Int) (w : World) (hm : MapR w mb r) :
    Calls Tryd.prog 97 #[.agg #[.map (some mb)], .int .i64 n] w fun e w' => e = .returned (.bool (hidR r n)) ∧ Below w.heap.size w w' := by
  have hmlt := hm.lt
  obtain ⟨D, m, hown, hm1, hD, hR, hG⟩ := hm.alloc (.cells #[.map (some mb)] 100)
  have HD := Lib.hid hD
  have HR := Lib.hid hR
  have hb0 : Below w.heap.size w (w.alloc (.cells #[.map (some mb)] 100)) := (Below.refl _ _).alloc (Nat.le_refl _) _
  clear hD hR hG hm
  generalize hh : hidR r n = res
  have HH := Lib.hid hh; clear hh
  go_enter Tryd.func97, Tryd.ntmps97
  go_wp2_with (first
    | (at_range; refine wpList_range_own _ rfl _ 96 rfl 3 3 klaw Tryd.underlying96 _ mb m D rfl hown ?_; intro w0 hrg0 hg0 hs0))
  go_frame
  have e0 : (w.alloc (.cells #[.map (some mb)] 100)).heap.size = w.heap.size + 1 := by simp
  rw [e0] at hrg0 ⊢
  have hb1 : Below w.heap.size w w0 := hb0.trans ((Below.refl _ _).grown hg0 (by rw [e0]; omega) (fun k e => by cases e))
  clear e0 hs0 hg0 hb0 hown
  go_loopw [5] (fun _ wr => ∃ (left : Lit → Bool) (cnt : Nat), wr.ranges Tryd.prog 3 (plainElem Tryd.prog 3) mb (w.heap.size + 1) m D left cnt ∧ Below w.heap.size w wr ∧ Hid (∀ q ∈ r, left (.int .i64 q.1) = true ∨ ¬ (0 < q.1 ∧ n ≤ q.2)))
    (fun _ wr => wr.rangeLeft mb (w.heap.size + 1))
  case atStart => exact ⟨_, _, hrg0, hb1, Lib.hid fun q hq => .inl (by rw [HD.out.2.1]; exact List.any_eq_true.2 ⟨q, hq, by simp⟩)⟩
  case round =>
    obtain ⟨left, cnt, hrg, hb, hL⟩ := hrel
    have hbs := hb.size
    go_wp2_with (first
      | (at_next; refine wpList_next_ranges_ii _ rfl _ rfl 3 3 .i64 .i64 klaw Tryd.underlying3 Tryd.underlying3 mb (w.heap.size + 1) m _ _ _ rfl hrg ?_ ?_))
    · intro _ hl0
      have hF : Hid (res = false) := by
        have h := hL.out
        rw [← HH.out]
        refine List.any_eq_false.2 fun q hq => ?_
        have h1 := h q hq
        rw [hl0] at h1
        simpa using h1
      clear hl0
      go_wp2_with fail
      go_ret
      exact ⟨ret_bool hF.out.symm, hb⟩
    · intro x c w1 cnt1 hwx hwc hlx hat hrg1 hlt hg1 hs1 hen
      have hmem := Lib.hid (HD.out.mem hat)
      have hbw : Below w.heap.size w w1 := hb.grown hg1 hb.size (fun k e => by injection e with e; omega)
      clear hat hlx hwx hwc hs1 hg1
      go_wp2_with fail
      · go_ret
        have hT : hidR r n = true := List.any_eq_true.2 ⟨(x, c), hmem.out, by simp only [Bool.and_eq_true, decide_eq_true_eq]; constructor <;> assumption⟩
        exact ⟨ret_bool (by rw [← HH.out, hT]), hbw⟩
      all_goals
        go_roundw
        case rel => exact ⟨_, cnt1, hrg1, hbw, Lib.hid (left_step HR.out hL.out hmem.out (by omega))⟩
        case measure => rw [hrg1.left_eq, hrg.left_eq]; exact hlt

end Go.Proofs.YtgegaipkfpdocaaDoor
