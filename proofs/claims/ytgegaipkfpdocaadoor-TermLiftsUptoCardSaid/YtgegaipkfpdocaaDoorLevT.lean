/-
  THE WALKS OF slices.Equal over parts, level.Same.
-/
import Derived.Test.YtgegaipkfpdocaaDoorLevF
import Derived.Test.YtgegaipkfpdocaaDoorSameA
import Derived.Deep.DeepCutAuto
namespace Go.Proofs.YtgegaipkfpdocaaDoor
open Go.RowKit Go.Maps
set_option linter.unusedSimpArgs false
set_option linter.unusedVariables false
set_option maxRecDepth 100000

set_option maxRecDepth 100000 in
set_option maxHeartbeats 400000 in
theorem equalP_any (ps qs : Lv) (v u : Value) (w : World) (hp : RPv w ps v) (hq : RPv w qs u) :
    Calls Tryd.prog 78 #[v, u] w fun e w' => e = .returned (.bool (decide (ps = qs))) ∧ Below w.heap.size w w' := by
  obtain ⟨A, c, rfl, hc, hl, hcp⟩ := hp
  obtain ⟨A', c', rfl, hc', hl', hcq⟩ := hq
  generalize hnp : ps.length = n at *
  generalize hnq : qs.length = m at *
  have HP := Lib.hid hnp; clear hnp
  have HQ := Lib.hid hnq; clear hnq
  have hne := ne_part
  by_cases hn : n = m
  · subst hn
    have HCP := Lib.hid hcp; clear hcp
    have HCQ := Lib.hid hcq; clear hcq
    go_enter Tryd.func78, Tryd.ntmps78
    go_wp2_with fail
    go_loopw [5, 13] (fun _ i wr => ∃ k : Nat, k ≤ n ∧ i = .int .i64 k ∧ Hid (ps.take k = qs.take k) ∧ Below w.heap.size w wr) (fun _ i _ => n - (RowKit.intOf i).toNat)
    case atStart => exact ⟨0, Nat.zero_le _, rfl, rfl, Below.refl _ _⟩
    case round =>
      obtain ⟨k, hk, rfl, ht, hb⟩ := hrel
      by_cases hlt : k < n
      · obtain ⟨b, o, rfl, hcp⟩ := HCP.out (by omega)
        obtain ⟨b', o', rfl, hcq⟩ := HCQ.out (by omega)
        obtain ⟨p, hpk⟩ : ∃ p, ps[k]? = some p := ⟨_, List.getElem?_eq_getElem (by have := HP.out; omega)⟩
        obtain ⟨q, hqk⟩ : ∃ q, qs[k]? = some q := ⟨_, List.getElem?_eq_getElem (by have := HQ.out; omega)⟩
        obtain ⟨c1, c2⟩ := (hcp.below hb).get hpk
        obtain ⟨c3, c4⟩ := (hcq.below hb).get hqk
        clear hcp hcq HCP HCQ
        have HPK := Lib.hid hpk; clear hpk
        have HQK := Lib.hid hqk; clear hqk
        have h1 : (k : Int) < (n : Int) := by omega
        have h0 : (0 : Int) ≤ (k : Int) := by omega
        by_cases hpq : p = q
        · subst hpq
          go_wp2_with fail
          go_quiet (fail)
          go_wp2_with fail
          go_roundw
          case rel => exact ⟨k + 1, by omega, by go_num, take_same ht HPK.out HQK.out, below_drewN' hb _⟩
          case measure => simp [RowKit.intOf]; omega
        · have hd : (p.1 == q.1 && p.2 == q.2) = false := by
            cases h : (p.1 == q.1 && p.2 == q.2)
            · rfl
            · simp only [Bool.and_eq_true, beq_iff_eq] at h
              exact absurd (Prod.ext h.1 h.2) hpq
          have HF := Lib.hid (get_ne HPK.out HQK.out hpq)
          clear hpq
          go_wp2_with fail
          go_quiet (fail)
          go_wp2_with fail
          all_goals go_ret
          all_goals exact ⟨ret_bool (decide_eq_false HF.out).symm, below_drewN' hb _⟩
      · obtain rfl : k = n := by omega
        have HF := Lib.hid (take_all ht HP.out HQ.out)
        clear HCP HCQ
        go_wp2_with fail
        go_ret
        exact ⟨ret_bool (decide_eq_true HF.out).symm, hb⟩
  · have hb : ((n : Int) != (m : Int)) = true := by simpa using (by omega : ¬ (n : Int) = m)
    have HF := Lib.hid (len_ne HP.out HQ.out hn)
    clear hcp hcq
    go_enter Tryd.func78, Tryd.ntmps78
    go_wp2_with fail
    go_ret
    exact ⟨ret_bool (decide_eq_false HF.out).symm, Below.refl _ _⟩

theorem fieldL (v : Value) (w : World) : (Instr.field 37 (.agg #[v]) 0).run Tryd.prog w = .ok v w := by kernel_rfl
theorem below_chS {W w0 w1 : World} (h0 : Below W.heap.size W w0) (h1 : Below w0.heap.size w0 w1) : Below W.heap.size W w1 := h0.trans (h1.mono h0.size)
theorem below_drewS {w w1 : World} (h : Below w.drew.heap.size w.drew w1) : Below w.heap.size w w1 := (Below.refl _ _).drew.trans h

set_option maxHeartbeats 1000000 in
theorem lsame_any (a b : Lv) (va vb : Value) (W : World) (ha : RPv W a va) (hb : RPv W b vb) :
    Calls Tryd.prog 48 #[.agg #[va], .agg #[vb]] W fun e w' => e = .returned (.bool (decide (nfP a = nfP b))) ∧ Below W.heap.size W w' := by
  have hfl := fieldL
  obtain ⟨w0, hw0⟩ : ∃ w0, (W.alloc (.cells #[va] 37)).alloc (.cells #[vb] 37) = w0 := ⟨_, rfl⟩
  have hb0 : Below W.heap.size W w0 := by rw [← hw0]; exact ((Below.refl _ _).alloc (Nat.le_refl _) _).alloc (by simp) _
  have B0 : Box w0 W.heap.size [va] := by rw [← hw0]; exact (Box.new W [_] _).alloc _
  have B1 : Box w0 (W.heap.size + 1) [vb] := by rw [← hw0]; exact Box.new' _ [_] _ (by simp)
  have hA := fun W' (h : Below w0.heap.size w0 W') => norm_any a va W' ((ha.below hb0).below h)
  have hB := fun W' (h : Below w0.heap.size w0 W') => norm_any b vb W' ((hb.below hb0).below h)
  have hE := fun (v u : Value) W' (h1 : RPv W' (nfP a) v) (h2 : RPv W' (nfP b) u) => equalP_any (nfP a) (nfP b) v u W' h1 h2
  obtain ⟨A1, n1, c1, rfl⟩ := ha.form
  obtain ⟨A2, n2, c2, rfl⟩ := hb.form
  have q0 := B0.cell (j := 0) rfl
  have q1 := B1.cell (j := 0) rfl
  have HB1 := Lib.hid B1
  have HA := Lib.hid hA
  have HB := Lib.hid hB
  generalize nfP a = x at *
  generalize nfP b = y at *
  generalize decide (x = y) = res at *
  have HE := Lib.hid hE
  clear ha hb B0 B1 hA hB hE
  go_enter Tryd.func48, Tryd.ntmps48
  go_wp2_with fail
  go_upto_region 1 with fail
  go_region_with (first
    | (go_at_call 74; (with_reducible refine (HA.out w0.drew ((Below.refl _ _).drew)).mono ?_); rintro e w1 ⟨v1, bs1, rfl, hO1, hb1⟩; obtain ⟨A3, n3, c3, rfl⟩ := hO1.reads.form; have HBW := Lib.hid (below_drewS hb1); have HO1 := Lib.hid hO1; have r1 := (HB1.out.below HBW.out).cell (j := 0) rfl; clear hO1 hb1)
    | (go_at_call 74; (with_reducible refine (HB.out w1 HBW.out).mono ?_); rintro e w2 ⟨v2, bs2, rfl, hO2, hb2⟩; obtain ⟨A4, n4, c4, rfl⟩ := hO2.reads.form; have HBV := Lib.hid (below_chS HBW.out hb2); have HO2 := Lib.hid hO2.reads; have HO3 := Lib.hid (HO1.out.below hb2).reads; clear hO2 hb2)
    | (go_at_call 78; (with_reducible refine (HE.out _ _ w2 HO3.out HO2.out).mono ?_); rintro e w3 ⟨rfl, hb3⟩; have HBU := Lib.hid (below_chS HBV.out hb3); clear hb3))
  all_goals
    go_wp2_with fail
    go_ret
    exact ⟨rfl, below_chS hb0 HBU.out⟩

end Go.Proofs.YtgegaipkfpdocaaDoor
