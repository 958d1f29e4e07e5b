/-
  THE WALKS OF THE LAWS' OWN HELPERS (package spandrellaw01): great, small, same.
-/
import Derived.Test.YtgegaipkfpdocaaLevL
import Derived.Test.YtgegaipkfpdocaaLevT
import Derived.Test.YtgegaipkfpdocaaLevV
import Derived.Test.YtgegaipkfpdocaaLevW
import Derived.Test.YtgegaipkfpdocaaCountA
namespace Go.Proofs.Ytgegaipkfpdocaa
open Go.RowKit Go.Maps
set_option linter.unusedSimpArgs false
set_option linter.unusedVariables false
set_option maxRecDepth 100000

theorem great_any (ls : List Lv) (v : Value) (W : World) (hv : RLv W ls v) : Calls Try.prog 6 #[v] W fun e w' => e = .returned (.bool (decide (60 < lvsOf 60 0 ls))) ∧ Below W.heap.size W w' := by
  have hcall := levelsOf_any ls v 60 W hv (by omega) (by omega)
  obtain ⟨A, c, rfl, -⟩ := hv
  generalize hr : lvsOf 60 0 ls = r at *
  have HR := Lib.hid hr
  clear hr
  go_enter Try.func6, Try.ntmps6
  go_wp2_with fail
  refine hcall.mono ?_
  rintro e w1 ⟨rfl, hb⟩
  go_wp2_with fail
  go_ret
  exact ⟨rfl, hb⟩

def smallB (l : Lv) : Bool := l.all fun p => decide (0 ≤ p.1 ∧ p.1 ≤ 200 ∧ 0 ≤ p.2 ∧ p.2 ≤ 262144)
theorem smallB_iff {l : Lv} : smallB l = true ↔ SmP l := by
  simp only [smallB, List.all_eq_true, decide_eq_true_eq, SmP]

set_option maxHeartbeats 1000000 in
theorem small_any (l : Lv) (v : Value) (W : World) (hv : RPv W l v) : Calls Try.prog 7 #[.agg #[v]] W fun e w' => e = .returned (.bool (smallB l)) ∧ Below W.heap.size W w' := by
  obtain ⟨w0, hw0⟩ : ∃ w0, W.alloc (.cells #[v] 24) = w0 := ⟨_, rfl⟩
  have hb0 : Below W.heap.size W w0 := by rw [← hw0]; exact (Below.refl _ _).alloc (Nat.le_refl _) _
  have B0 : Box w0 W.heap.size [v] := by rw [← hw0]; exact Box.new W [_] _
  have hx := hv.below hb0
  have HX := Lib.hid hx
  obtain ⟨A, c, rfl, hc, hl, -⟩ := hv
  generalize hnn : l.length = n at *
  have HN := Lib.hid hnn
  have HB := Lib.hid B0
  generalize hres : smallB l = res
  have HR := Lib.hid hres
  clear hnn hres hx B0
  go_enter Try.func7, Try.ntmps7
  go_wp2_with fail
  clear hw0
  go_loopw [3] (fun i wr => ∃ k : Nat, k ≤ n ∧ i = .int .i64 k ∧ Hid (smallB (l.take k) = true) ∧ Below w0.heap.size w0 wr) (fun i _ => n - (RowKit.intOf i).toNat)
  case atStart => exact ⟨0, Nat.zero_le _, rfl, rfl, Below.refl _ _⟩
  case round =>
    obtain ⟨k, hk, rfl, hS, hb⟩ := hrel
    have q0 := (HB.out.below hb).cell (j := 0) rfl
    by_cases hlt : k < n
    · obtain ⟨A5, c5, e5, -, -, hcp⟩ := HX.out.below hb
      injection e5 with e5 e5a e5b
      subst e5
      clear e5a e5b
      obtain ⟨b, o, rfl, hcq⟩ := hcp (by have := HN.out; omega)
      clear hcp
      obtain ⟨⟨u, t⟩, hpk⟩ : ∃ p, l[k]? = some p := ⟨_, List.getElem?_eq_getElem (by have := HN.out; omega)⟩
      obtain ⟨p1, p2⟩ := hcq.get hpk
      have HTK := Lib.hid (take_snoc' hpk)
      have HPK := Lib.hid hpk
      simp only at p1 p2
      have h1 : (k : Int) < (n : Int) := by omega
      have h0 : (0 : Int) ≤ (k : Int) := by omega
      have hb2 := Lib.hid (below_chV hb ((Below.refl _ _).alloc (Nat.le_refl _) (.cells #[.int .i64 u, .int .i64 t] 41)))
      clear hcq hpk
      go_wp2_with fail
      all_goals first
        | (go_roundw
           case rel => exact ⟨k + 1, by omega, by go_num, Lib.hid (by rw [HTK.out]; have h := hS.out; simp only [smallB, List.all_append, Bool.and_eq_true] at h ⊢; exact ⟨h, by simp; omega⟩), hb2.out⟩
           case measure => simp [RowKit.intOf]; omega)
        | (go_ret
           exact ⟨ret_bool (by
             rw [← HR.out]
             have : ¬ SmP l := fun h => by have := h _ (List.mem_of_getElem? HPK.out); simp only at this; omega
             cases h : smallB l with
             | false => rfl
             | true => exact absurd (smallB_iff.1 h) this), below_chV hb0 hb2.out⟩)
    · obtain rfl : k = n := by omega
      have hall : l.take k = l := List.take_of_length_le (by have := HN.out; omega)
      rw [hall] at hS
      have HF := Lib.hid (HR.out.symm.trans hS.out)
      clear hall hS
      go_wp2_with fail
      go_ret
      exact ⟨ret_bool HF.out.symm, below_chV hb0 hb⟩

theorem lawSame_any (a b : Lv) (va vb : Value) (W : World) (ha : RPv W a va) (hb : RPv W b vb) :
    Calls Try.prog 11 #[.agg #[va], .agg #[vb]] W fun e w' => e = .returned (.bool (decide (a = b))) ∧ Below W.heap.size W w' := by
  obtain ⟨w0, hw0⟩ : ∃ w0, (W.alloc (.cells #[va] 24)).alloc (.cells #[vb] 24) = w0 := ⟨_, rfl⟩
  have hb0 : Below W.heap.size W w0 := by rw [← hw0]; exact ((Below.refl _ _).alloc (Nat.le_refl _) _).alloc (by simp) _
  have B0 : Box w0 W.heap.size [va] := by rw [← hw0]; exact (Box.new W [_] _).alloc _
  have B1 : Box w0 (W.heap.size + 1) [vb] := by rw [← hw0]; exact Box.new' _ [_] _ (by simp)
  have hcall := sameLevel_any a b va vb w0 (ha.below hb0) (hb.below hb0)
  obtain ⟨A1, n1, c1, rfl⟩ := ha.form
  obtain ⟨A2, n2, c2, rfl⟩ := hb.form
  have q0 := B0.cell (j := 0) rfl
  have q1 := B1.cell (j := 0) rfl
  generalize hres : decide (a = b) = res
  have HR := Lib.hid hres
  clear ha hb B0 B1 hres
  go_enter Try.func11, Try.ntmps11
  go_wp2_with fail
  refine hcall.mono ?_
  rintro e w1 ⟨r, hr, rfl, hb1⟩
  have HQ := Lib.hid hr
  have hb2 := below_chV hb0 hb1
  clear hr hcall hb1
  go_wp2_with fail
  go_ret
  exact ⟨ret_bool (by rw [← HR.out, Bool.eq_iff_iff, HQ.out]; simp), hb2⟩

end Go.Proofs.Ytgegaipkfpdocaa
