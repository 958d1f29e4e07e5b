/-
  THE WALK OF spandrellaw05.low.
-/
import Derived.Test.YtgegaipkfpdocaaDoorKeepsQ
namespace Go.Proofs.YtgegaipkfpdocaaDoor
open Go.RowKit
set_option linter.unusedSimpArgs false
set_option linter.unusedVariables false
set_option maxRecDepth 100000

theorem take_one {α : Type} {xs : List α} {k : Nat} {p : α} (h : xs[k]? = some p) : xs.take (k + 1) = xs.take k ++ [p] := by rw [List.take_add_one, h]; rfl
theorem lowBL_snoc (ts : List Tm) (t : Tm) : lowBL (ts ++ [t]) = (lowBL ts && lowB t) := by
  induction ts with
  | nil => simp [lowBL]
  | cons x xs ih => simp only [List.cons_append, lowBL, ih, Bool.and_assoc]
theorem lowBL_no {ts : List Tm} {i : Nat} {t : Tm} (h : ts[i]? = some t) (ht : lowB t = false) : lowBL ts = false := by
  cases hl : lowBL ts with
  | false => rfl
  | true => rw [lowBL_at hl h] at ht; cases ht

def LowT (M : Nat) : Prop := ∀ (t : Tm) (vl vk : Value) (W : World), size t ≤ M → RT W t vl vk →
    Calls Tryd.prog 10 #[.agg #[.int .i64 t.kind, .int .i64 t.num, .int .i64 t.atN, vl, vk], .int .i64 400] W fun e w' => e = .returned (.bool (lowB t)) ∧ Below W.heap.size W w'

set_option maxHeartbeats 4000000 in
theorem low_step (M : Nat) (IH : LowT M) : LowT (M + 1) := by
  rintro ⟨k, m, a, ls, ks⟩ vl vk w hM hr
  rw [RT_iff] at hr
  simp only [Tm.kind, Tm.num, Tm.atN]
  have hks : sizeL ks ≤ M := by simp only [size] at hM; omega
  obtain ⟨w0, hw0⟩ : ∃ w0, w.alloc (.cells #[.int .i64 k, .int .i64 m, .int .i64 a, vl, vk] 27) = w0 := ⟨_, rfl⟩
  have hb0 : Below w.heap.size w w0 := by rw [← hw0]; exact (Below.refl _ _).alloc (Nat.le_refl _) _
  have B0 : Box w0 w.heap.size [.int .i64 k, .int .i64 m, .int .i64 a, vl, vk] := by rw [← hw0]; exact Box.new w [_, _, _, _, _] _
  have HL := Lib.hid (hr.1.below hb0)
  have HK := Lib.hid (hr.2.below hb0)
  obtain ⟨⟨A1, c1, rfl, k1, k2, -⟩, A2, c2, rfl, k3, k4, -⟩ := hr
  generalize hnn : ls.length = n at *
  generalize hmm : ks.length = nk at *
  have HNN := Lib.hid hnn
  have HMM := Lib.hid hmm
  generalize hres : lowB (.node k m a ls ks) = res
  have HR : Hid ((ls.all lowLv && lowBL ks) = res) := by simp only [lowB] at hres; exact hres
  have HB := Lib.hid B0
  have K1 : (n : Int) ≤ 8796093022208 := by omega
  have K2 : (nk : Int) ≤ 8796093022208 := by omega
  clear hnn hmm hres B0 hM k1 k2 k3 k4
  go_enter Tryd.func10, Tryd.ntmps10
  go_wp2_with fail
  clear hw0
  go_loopw [5, 6] (fun i _ wr => ∃ j : Nat, j ≤ n ∧ i = .int .i64 j ∧ Hid ((ls.take j).all lowLv = true) ∧ Below w0.heap.size w0 wr) (fun i _ _ => n - (RowKit.intOf i).toNat)
  case atStart => exact ⟨0, Nat.zero_le _, rfl, rfl, Below.refl _ _⟩
  case round =>
    obtain ⟨j, hj, rfl, hS, hb⟩ := hrel
    obtain ⟨wo, rfl⟩ : ∃ wo : World, wo = wr := ⟨_, rfl⟩
    have q3 := (HB.out.below hb).cell (j := 3) rfl
    by_cases hlt : j < n
    · obtain ⟨A5, c5, e5, -, -, hcp⟩ := HL.out.below hb
      injection e5 with e5 e5a e5b
      subst e5
      clear e5a e5b
      obtain ⟨b, o, rfl, hcq⟩ := hcp (by have := HNN.out; omega)
      clear hcp
      obtain ⟨l, hl⟩ : ∃ l, ls[j]? = some l := ⟨_, List.getElem?_eq_getElem (by have := HNN.out; omega)⟩
      obtain ⟨x, hcx, hpx⟩ := hcq.get hl
      have HP := Lib.hid hpx
      obtain ⟨Ax, cx, rfl, hcx1, hcx2, -⟩ := hpx
      generalize hnp : l.length = np at *
      have HNP := Lib.hid hnp
      have HT := Lib.hid hl
      have h1' : (j : Int) < (n : Int) := by omega
      have h0' : (0 : Int) ≤ (j : Int) := by omega
      clear hcq hl hnp
      go_wp2_with fail
      go_loopw [6] (fun i wr => ∃ e : Nat, e ≤ np ∧ i = .int .i64 e ∧ Hid (lowLv (l.take e) = true) ∧ wr = wo) (fun i _ => np - (RowKit.intOf i).toNat)
      case atStart => exact ⟨0, Nat.zero_le _, rfl, rfl, rfl⟩
      case round =>
        obtain ⟨e, he, rfl, hE, rfl⟩ := hrel
        by_cases hlt2 : e < np
        · obtain ⟨A6, c6, e6, -, -, hcp⟩ := HP.out
          injection e6 with e6 e6a e6b
          subst e6
          clear e6a e6b
          obtain ⟨b2, o2, rfl, hcr⟩ := hcp (by have := HNP.out; omega)
          clear hcp
          obtain ⟨⟨u, v⟩, hpk⟩ : ∃ p, l[e]? = some p := ⟨_, List.getElem?_eq_getElem (by have := HNP.out; omega)⟩
          obtain ⟨-, p2⟩ := hcr.get hpk
          simp only at p2
          have HPK := Lib.hid hpk
          have h3' : (e : Int) < (np : Int) := by omega
          have h4' : (0 : Int) ≤ (e : Int) := by omega
          clear hcr hpk
          by_cases hv : 400 < v
          · go_wp2_with fail
            go_ret
            refine ⟨ret_bool ?_, hb0.trans (hb.mono hb0.size)⟩
            have h5 : lowLv l = false := by
              cases h : lowLv l with
              | false => rfl
              | true =>
                simp only [lowLv, List.all_eq_true, decide_eq_true_eq] at h
                have := h _ (List.mem_of_getElem? HPK.out)
                simp only at this
                omega
            have h6 : ls.all lowLv = false := by
              cases h : ls.all lowLv with
              | false => rfl
              | true =>
                rw [List.all_eq_true] at h
                rw [h _ (List.mem_of_getElem? HT.out)] at h5
                cases h5
            rw [← HR.out, h6]
            rfl
          · go_wp2_with fail
            go_roundw
            case rel => exact ⟨e + 1, by omega, by go_num, Lib.hid (by
              rw [take_one HPK.out]
              have h := hE.out
              simp only [lowLv, List.all_append, Bool.and_eq_true] at h ⊢
              exact ⟨h, by simp; omega⟩), by first | rfl | trivial⟩
            case measure => simp [RowKit.intOf]; omega
        · obtain rfl : e = np := by omega
          have hall : l.take e = l := List.take_of_length_le (by have := HNP.out; omega)
          rw [hall] at hE
          clear hall
          go_wp2_with fail
          go_roundw
          case rel => exact ⟨j + 1, by omega, by go_num, Lib.hid (by rw [take_one HT.out, List.all_append, hS.out]; simp [hE.out]), hb⟩
          case measure => simp [RowKit.intOf]; omega
    · obtain rfl : j = n := by omega
      have hall : ls.take j = ls := List.take_of_length_le (by have := HNN.out; omega)
      rw [hall] at hS
      clear hall
      go_wp2_with fail
      go_loopw [7] (fun i wr => ∃ e : Nat, e ≤ nk ∧ i = .int .i64 e ∧ Hid (lowBL (ks.take e) = true) ∧ Below w0.heap.size w0 wr) (fun i _ => nk - (RowKit.intOf i).toNat)
      case atStart => exact ⟨0, Nat.zero_le _, rfl, rfl, hb⟩
      case round =>
        obtain ⟨e, he, rfl, hE, hb2⟩ := hrel
        have q4 := (HB.out.below hb2).cell (j := 4) rfl
        by_cases hlt2 : e < nk
        · obtain ⟨A6, c6, e6, -, -, hcp⟩ := HK.out.below hb2
          injection e6 with e6 e6a e6b
          subst e6
          clear e6a e6b
          obtain ⟨b2, o2, rfl, hcr⟩ := hcp (by have := HMM.out; omega)
          clear hcp
          obtain ⟨t, ht⟩ : ∃ t, ks[e]? = some t := ⟨_, List.getElem?_eq_getElem (by have := HMM.out; omega)⟩
          obtain ⟨tl, tk, x1, x2, x3, x4, x5, hx⟩ := hcr.get ht
          have hcall := IH t tl tk wr (Nat.le_trans (size_at ht) hks) hx
          obtain ⟨A7, n7, c7, A8, n8, c8, rfl, rfl⟩ := hx.forms
          have HT := Lib.hid ht
          have h3' : (e : Int) < (nk : Int) := by omega
          have h4' : (0 : Int) ≤ (e : Int) := by omega
          clear hcr ht hx
          cases hlow : lowB t with
          | true =>
            rw [hlow] at hcall
            have HLOW := Lib.hid hlow
            clear hlow
            go_wp2_with fail
            refine hcall.mono ?_
            rintro ee w1 ⟨rfl, hb3⟩
            have hb4 : Below w0.heap.size w0 w1 := hb2.trans (hb3.mono hb2.size)
            clear hcall hb3
            go_wp2_with fail
            go_roundw
            case rel => exact ⟨e + 1, by omega, by go_num, Lib.hid (by rw [take_one HT.out, lowBL_snoc, hE.out, HLOW.out]; rfl), hb4⟩
            case measure => simp [RowKit.intOf]; omega
          | false =>
            rw [hlow] at hcall
            have HLOW := Lib.hid hlow
            clear hlow
            go_wp2_with fail
            refine hcall.mono ?_
            rintro ee w1 ⟨rfl, hb3⟩
            have hb4 : Below w0.heap.size w0 w1 := hb2.trans (hb3.mono hb2.size)
            clear hcall hb3
            go_wp2_with fail
            go_ret
            exact ⟨ret_bool (by rw [← HR.out, lowBL_no HT.out HLOW.out]; simp), hb0.trans (hb4.mono hb0.size)⟩
        · obtain rfl : e = nk := by omega
          have hall : ks.take e = ks := List.take_of_length_le (by have := HMM.out; omega)
          rw [hall] at hE
          clear hall
          go_wp2_with fail
          go_ret
          exact ⟨ret_bool (by rw [← HR.out, hS.out, hE.out]; rfl), hb0.trans (hb2.mono hb0.size)⟩

theorem low_all : ∀ M, LowT M
  | 0 => fun t _ _ _ h => by have := size_pos t; omega
  | M + 1 => low_step M (low_all M)
theorem low_any (t : Tm) (vl vk : Value) (W : World) (hr : RT W t vl vk) : Calls Tryd.prog 10 #[.agg #[.int .i64 t.kind, .int .i64 t.num, .int .i64 t.atN, vl, vk], .int .i64 400] W fun e w' => e = .returned (.bool (lowB t)) ∧ Below W.heap.size W w' :=
  low_all _ t vl vk W (Nat.le_refl _) hr

end Go.Proofs.YtgegaipkfpdocaaDoor
