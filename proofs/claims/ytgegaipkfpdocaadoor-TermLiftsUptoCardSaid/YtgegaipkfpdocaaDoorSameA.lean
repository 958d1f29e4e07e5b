/-
  THE WALKS OF SameParts, SameLevel.
-/
import Derived.Test.YtgegaipkfpdocaaDoorRep
import Derived.Laws.StructEq
import Derived.StillTailTactics
namespace Go.Proofs.YtgegaipkfpdocaaDoor
open Go.RowKit

theorem fields_part : (Tryd.prog.fieldsOf 39).toList.map (fun f => (f.name == "_", f.type, f.offset)) = [(false, 3, 0), (false, 3, 1)] := by kernel_rfl
theorem ne_part (a b c d : Int) (w : World) : (binOp .neq 39 (.agg #[.int .i64 a, .int .i64 b]) (.agg #[.int .i64 c, .int .i64 d])).run Tryd.prog w = .ok (.bool (!(a == c && b == d))) w := by
  have hF := fields_part
  rw [run_neq_struct, run_equalIn_struct w 9999 _ _ _ (by kernel_rfl) (by kernel_rfl)]
  generalize (Tryd.prog.fieldsOf 39).toList = fs at hF
  obtain ⟨f0, fs, rfl⟩ : ∃ x l, fs = x :: l := by cases fs with | nil => simp at hF | cons x l => exact ⟨x, l, rfl⟩
  obtain ⟨f1, fs, rfl⟩ : ∃ x l, fs = x :: l := by cases fs with | nil => simp at hF | cons x l => exact ⟨x, l, rfl⟩
  obtain rfl : fs = [] := by cases fs with | nil => rfl | cons x l => simp at hF
  simp only [List.map_cons, List.map_nil, List.cons.injEq, Prod.mk.injEq, and_true] at hF
  obtain ⟨⟨n0, t0, o0⟩, n1, t1, o1⟩ := hF
  have n0' : f0.name ≠ "_" := by simpa using n0
  have n1' : f1.name ≠ "_" := by simpa using n1
  have hp : ∀ (xs : Array Value) (i : Nat) (x : Int), xs[i]? = some (.int .i64 x) → (part 3 xs i).run Tryd.prog w = .ok (.int .i64 x) w := by
    intro xs i x hx
    simp [part, go_sem, hx]
  have p1 := hp #[.int .i64 a, .int .i64 b] 0 a rfl
  have p2 := hp #[.int .i64 a, .int .i64 b] 1 b rfl
  have p3 := hp #[.int .i64 c, .int .i64 d] 0 c rfl
  have p4 := hp #[.int .i64 c, .int .i64 d] 1 d rfl
  have e1 := run_equalIn_int (P := Tryd.prog) w 9998 3 .i64 .i64 a c Tryd.underlying3
  have e2 := run_equalIn_int (P := Tryd.prog) w 9998 3 .i64 .i64 b d Tryd.underlying3
  simp only [Op.eqFields, if_pos n0', if_pos n1', Sem.run_bind, t0, o0, t1, o1, p1, p3, e1, Result.andThen_ok]
  cases h1 : (a == c)
  · simp
  · simp only [Bool.not_true, Bool.false_eq_true, if_false, Sem.run_bind, p2, p4, e2, Result.andThen_ok]
    cases h2 : (b == d) <;> simp

theorem take_same {α : Type} {xs ys : List α} {k : Nat} {p : α} (h : xs.take k = ys.take k) (hx : xs[k]? = some p) (hy : ys[k]? = some p) : xs.take (k + 1) = ys.take (k + 1) := by
  rw [List.take_add_one, List.take_add_one, h, hx, hy]
theorem take_all {α : Type} {xs ys : List α} {n : Nat} (h : xs.take n = ys.take n) (hx : xs.length = n) (hy : ys.length = n) : xs = ys := by
  rw [List.take_of_length_le (by omega), List.take_of_length_le (by omega)] at h
  exact h
theorem get_ne {α : Type} {xs ys : List α} {k : Nat} {p q : α} (hx : xs[k]? = some p) (hy : ys[k]? = some q) (hne : p ≠ q) : xs ≠ ys := by
  rintro rfl
  rw [hx] at hy
  exact hne (Option.some.inj hy)
theorem len_ne {α : Type} {xs ys : List α} {n m : Nat} (hx : xs.length = n) (hy : ys.length = m) (hne : ¬ n = m) : xs ≠ ys := by
  rintro rfl
  omega

set_option maxRecDepth 100000 in
set_option maxHeartbeats 400000 in
theorem sameParts_any (ps qs : Lv) (v u : Value) (w : World) (hp : RPv w ps v) (hq : RPv w qs u) :
    Calls Tryd.prog 99 #[v, u] w fun e w' => e = .returned (.bool (decide (ps = qs))) ∧ Below w.heap.size w w' := by
  obtain ⟨A, c, rfl, hc, hl, hcp⟩ := hp
  obtain ⟨A', c', rfl, hc', hl', hcq⟩ := hq
  generalize hnp : ps.length = n at *
  generalize hnq : qs.length = m at *
  have HP := Lib.hid hnp; clear hnp
  have HQ := Lib.hid hnq; clear hnq
  have hne := ne_part
  by_cases hn : n = m
  · subst hn
    have HCP := Lib.hid hcp; clear hcp
    have HCQ := Lib.hid hcq; clear hcq
    go_enter Tryd.func99, Tryd.ntmps99
    go_wp2_with fail
    go_loopw [5] (fun i wr => ∃ k : Nat, k ≤ n ∧ i = .int .i64 k ∧ Hid (ps.take k = qs.take k) ∧ Below w.heap.size w wr) (fun i _ => n - (intOf i).toNat)
    case atStart => exact ⟨0, Nat.zero_le _, rfl, rfl, Below.refl _ _⟩
    case round =>
      obtain ⟨k, hk, rfl, ht, hb⟩ := hrel
      by_cases hlt : k < n
      · obtain ⟨b, o, rfl, hcp⟩ := HCP.out (by omega)
        obtain ⟨b', o', rfl, hcq⟩ := HCQ.out (by omega)
        obtain ⟨p, hpk⟩ : ∃ p, ps[k]? = some p := ⟨_, List.getElem?_eq_getElem (by have := HP.out; omega)⟩
        obtain ⟨q, hqk⟩ : ∃ q, qs[k]? = some q := ⟨_, List.getElem?_eq_getElem (by have := HQ.out; omega)⟩
        obtain ⟨c1, c2⟩ := (hcp.below hb).get hpk
        obtain ⟨c3, c4⟩ := (hcq.below hb).get hqk
        clear hcp hcq HCP HCQ
        have HPK := Lib.hid hpk; clear hpk
        have HQK := Lib.hid hqk; clear hqk
        have h1 : (k : Int) < (n : Int) := by omega
        have h0 : (0 : Int) ≤ (k : Int) := by omega
        by_cases hpq : p = q
        · subst hpq
          go_wp2_with fail
          go_quiet (fail)
          go_wp2_with fail
          go_roundw
          case rel => exact ⟨k + 1, by omega, by go_num, take_same ht HPK.out HQK.out, below_drewN' hb _⟩
          case measure => simp [intOf]; omega
        · have hd : (p.1 == q.1 && p.2 == q.2) = false := by
            cases h : (p.1 == q.1 && p.2 == q.2)
            · rfl
            · simp only [Bool.and_eq_true, beq_iff_eq] at h
              exact absurd (Prod.ext h.1 h.2) hpq
          have HF := Lib.hid (get_ne HPK.out HQK.out hpq)
          clear hpq
          go_wp2_with fail
          go_quiet (fail)
          go_wp2_with fail
          all_goals go_ret
          all_goals exact ⟨ret_bool (decide_eq_false HF.out).symm, below_drewN' hb _⟩
      · obtain rfl : k = n := by omega
        have HF := Lib.hid (take_all ht HP.out HQ.out)
        clear HCP HCQ
        go_wp2_with fail
        go_ret
        exact ⟨ret_bool (decide_eq_true HF.out).symm, hb⟩
  · have hb : ((n : Int) != (m : Int)) = true := by simpa using (by omega : ¬ (n : Int) = m)
    have HF := Lib.hid (len_ne HP.out HQ.out hn)
    clear hcp hcq
    go_enter Tryd.func99, Tryd.ntmps99
    go_wp2_with fail
    go_ret
    exact ⟨ret_bool (decide_eq_false HF.out).symm, Below.refl _ _⟩

/-- A bool that tells whether p holds; old memory as it was. -/
def Tells (p : Prop) (w : World) (e : Ending) (w' : World) : Prop := ∃ r : Bool, (r = true ↔ p) ∧ e = .returned (.bool r) ∧ Below w.heap.size w w'
theorem Tells.mk {p : Prop} {w w' : World} {r : Bool} (h : r = true ↔ p) (hb : Below w.heap.size w w') : Tells p w (.returned (.bool r)) w' := ⟨r, h, rfl, hb⟩

theorem sameLevel_any (ps qs : Lv) (v u : Value) (w : World) (hp : RPv w ps v) (hq : RPv w qs u) :
    Calls Tryd.prog 89 #[.agg #[v], .agg #[u]] w (Tells (ps = qs) w) := by
  have H : ∀ W, Below w.heap.size w W → Calls Tryd.prog 99 #[v, u] W fun e w' => e = .returned (.bool (decide (ps = qs))) ∧ Below w.heap.size w w' := fun W hb =>
    (sameParts_any ps qs v u W (hp.below hb) (hq.below hb)).mono fun e w' ⟨h1, h2⟩ => ⟨h1, hb.trans (h2.mono hb.size)⟩
  obtain ⟨A, c, rfl, hc, hl, hcp⟩ := hp
  obtain ⟨A', c', rfl, hc', hl', hcq⟩ := hq
  generalize hr : decide (ps = qs) = r at H
  have HR := Lib.hid hr; clear hr hcp hcq
  go_enter Tryd.func89, Tryd.ntmps89
  go_wp2_with fail
  refine (H _ ?_).mono ?_
  · exact ((Below.refl _ _).alloc (Nat.le_refl _) _).alloc (by simp) _
  rintro e w1 ⟨rfl, hb1⟩
  go_wp2_with fail
  go_ret
  exact Tells.mk (by rw [← HR.out]; simp) hb1


end Go.Proofs.YtgegaipkfpdocaaDoor
