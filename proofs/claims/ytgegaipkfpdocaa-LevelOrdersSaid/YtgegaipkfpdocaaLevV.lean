/-
  THE WALK OF level.Value.
-/
import Derived.Test.YtgegaipkfpdocaaLevF
import Derived.Test.YtgegaipkfpdocaaLevQ
import Derived.Test.YtgegaipkfpdocaaInts
import Derived.Deep.DeepCutAuto
namespace Go.Proofs.Ytgegaipkfpdocaa
open Go.RowKit Go.Maps
set_option linter.unusedSimpArgs false
set_option linter.unusedVariables false
set_option maxRecDepth 100000

theorem fieldV (v : Value) (w : World) : (Instr.field 24 (.agg #[v]) 0).run Try.prog w = .ok v w := by kernel_rfl
theorem below_chV {W w0 w1 : World} (h0 : Below W.heap.size W w0) (h1 : Below w0.heap.size w0 w1) : Below W.heap.size W w1 := h0.trans (h1.mono h0.size)
theorem evP_take {ρ : Int → Int} {x : Lv} {k : Nat} {p : Int × Int} (h : x[k]? = some p) : evP ρ (x.take (k + 1)) = max (evP ρ (x.take k)) (vlP ρ p) := by
  rw [take_snoc' h, evP_snoc]
/-- The number at a variable. -/
theorem numR_in {ns : List Int} {u z : Int} (h0 : 0 < u) (h1 : u ≤ ns.length) (hz : ns[(u - 1).toNat]? = some z) : numR ns u = if 0 ≤ z ∧ z ≤ 1048576 then z else 0 := by
  unfold numR
  rw [List.getD_eq_getElem?_getD, hz]
  simp only [Option.getD_some]
  by_cases hc : 0 ≤ z ∧ z ≤ 1048576
  · rw [if_pos ⟨h0, h1, hc⟩, if_pos hc]
  · rw [if_neg (fun h => hc h.2.2), if_neg hc]
theorem numR_out {ns : List Int} {u : Int} (h : ¬ (0 < u ∧ u ≤ ns.length)) : numR ns u = 0 := by
  unfold numR
  rw [if_neg fun hh => h ⟨hh.1, hh.2.1⟩]

set_option maxHeartbeats 2000000 in
theorem value_any (l : Lv) (ns : List Int) (v nv : Value) (W : World) (hl : RPv W l v) (hn : RIv W ns nv) :
    Calls Try.prog 9 #[.agg #[v], nv] W fun e w' => e = .returned (.int .i64 (valL l ns)) ∧ Below W.heap.size W w' := by
  have hfl := fieldV
  obtain ⟨w0, hw0⟩ : ∃ w0, W.alloc (.cells #[v] 24) = w0 := ⟨_, rfl⟩
  have hb0 : Below W.heap.size W w0 := by rw [← hw0]; exact (Below.refl _ _).alloc (Nat.le_refl _) _
  have B0 : Box w0 W.heap.size [v] := by rw [← hw0]; exact Box.new W [_] _
  have hA := norm_any l v w0 (hl.below hb0)
  obtain ⟨A1, n1, c1, rfl⟩ := hl.form
  have q0 := B0.cell (j := 0) rfl
  have hv : valL l ns = evP (numR ns) (nfP l) := rfl
  rw [hv]
  have hg := (nfP_nf l).good
  have hr := (nfP_nf l).rise
  generalize nfP l = x at *
  have HG := Lib.hid hg
  have hxl := good_length hr hg
  have HN := Lib.hid hn
  obtain ⟨A2, c2, rfl, hc2, hl2, -⟩ := hn
  generalize hnn : ns.length = m at *
  have HM := Lib.hid hnn
  generalize hres : evP (numR ns) x = res
  have HR := Lib.hid hres
  clear hl hv hg hr B0 hnn hres
  go_enter Try.func9, Try.ntmps9
  go_wp2_with fail
  refine hA.mono ?_
  rintro e w1 ⟨v1, bs1, rfl, hO1, hb1⟩
  have hbW : Below W.heap.size W w1 := below_chV hb0 hb1
  have HX := Lib.hid hO1.reads
  obtain ⟨A3, c3, rfl, hc3, hl3, -⟩ := hO1.reads
  generalize hxx : x.length = n at *
  have HXL := Lib.hid hxx
  clear hxx hO1 hb1 hA hb0 hw0 q0
  go_wp2_with fail
  go_loopw [4, 12] (fun r i wr => ∃ (k : Nat) (z : Int), k ≤ n ∧ i = .int .i64 k ∧ r = .int .i64 z ∧ 0 ≤ z ∧ z ≤ 2097152 ∧ Hid (evP (numR ns) (x.take k) = z) ∧ Below w1.heap.size w1 wr) (fun _ i _ => n - (RowKit.intOf i).toNat)
  case atStart => exact ⟨0, 0, Nat.zero_le _, rfl, rfl, by omega, by omega, rfl, Below.refl _ _⟩
  case round =>
    obtain ⟨k, z, hk, rfl, rfl, hz0, hz1, hz, hb⟩ := hrel
    by_cases hlt : k < n
    · obtain ⟨A5, c5, e5, -, -, hcp⟩ := HX.out.below hb
      injection e5 with e5 e5a e5b
      subst e5
      clear e5a e5b
      obtain ⟨b, o, rfl, hcq⟩ := hcp (by have := HXL.out; omega)
      clear hcp
      obtain ⟨⟨u, t⟩, hpk⟩ : ∃ p, x[k]? = some p := ⟨_, List.getElem?_eq_getElem (by have := HXL.out; omega)⟩
      obtain ⟨p1, p2⟩ := hcq.get hpk
      obtain ⟨g0, g1, g2, g3⟩ := HG.out _ (List.mem_of_getElem? hpk)
      have HE := Lib.hid (evP_take (ρ := numR ns) hpk)
      have h1 : (k : Int) < (n : Int) := by omega
      have h0 : (0 : Int) ≤ (k : Int) := by omega
      have hbN : Below wr.heap.size wr (wr.alloc (.cells #[.int .i64 u, .int .i64 t] 41)) := (Below.refl _ _).alloc (Nat.le_refl _) _
      have hb2 := Lib.hid (below_chV hb hbN)
      simp only at g0 g1 g2 g3 p1 p2
      clear hcq hpk
      by_cases hu : 0 < u ∧ u ≤ m
      · obtain ⟨hu0, hu1⟩ := hu
        obtain ⟨A6, c6, e6, -, -, hnp⟩ := (HN.out.below (hbW.trans (hb.mono hbW.size))).below hbN
        injection e6 with e6 e6a e6b
        subst e6
        clear e6a e6b
        obtain ⟨b', o', rfl, hnq⟩ := hnp (by have := HM.out; omega)
        clear hnp
        have hul : (u - 1).toNat < ns.length := by have := HM.out; omega
        obtain ⟨y, hy⟩ : ∃ y, ns[(u - 1).toNat]? = some y := ⟨_, List.getElem?_eq_getElem hul⟩
        have hcy := hnq _ _ hy
        rw [show (u - 1).toNat = u.toNat - 1 by omega] at hcy
        have hnum := numR_in hu0 (by rw [HM.out]; exact hu1) hy
        have hi0 : (0 : Int) ≤ u - 1 := by omega
        have hi1 : u - 1 < (m : Int) := by omega
        clear hnq hy hul
        by_cases hyy : 0 ≤ y ∧ y ≤ 1048576
        · rw [if_pos hyy] at hnum
          obtain ⟨hy0, hy1⟩ := hyy
          have HV : Hid (vlP (numR ns) (u, t) = y + t) := Lib.hid (by simp only [vlP, if_pos hu0, hnum])
          clear hnum
          go_wp2_with fail
          all_goals
            go_roundw
            case rel => exact ⟨k + 1, _, by omega, by go_num, rfl, by omega, by omega, Lib.hid (by rw [HE.out, hz.out, HV.out]), hb2.out⟩
            case measure => simp [RowKit.intOf]; omega
        · rw [if_neg hyy] at hnum
          have HV : Hid (vlP (numR ns) (u, t) = t) := Lib.hid (by simp only [vlP, if_pos hu0, hnum]; omega)
          clear hnum
          go_wp2_with fail
          all_goals
            go_roundw
            case rel => exact ⟨k + 1, _, by omega, by go_num, rfl, by omega, by omega, Lib.hid (by rw [HE.out, hz.out, HV.out]), hb2.out⟩
            case measure => simp [RowKit.intOf]; omega
      · have HV : Hid (vlP (numR ns) (u, t) = t) := Lib.hid (by
          simp only [vlP]
          rw [numR_out (by rw [HM.out]; exact hu)]
          split <;> omega)
        go_wp2_with fail
        all_goals
          go_roundw
          case rel => exact ⟨k + 1, _, by omega, by go_num, rfl, by omega, by omega, Lib.hid (by rw [HE.out, hz.out, HV.out]), hb2.out⟩
          case measure => simp [RowKit.intOf]; omega
    · obtain rfl : k = n := by omega
      have hall : x.take k = x := List.take_of_length_le (by have := HXL.out; omega)
      rw [hall] at hz
      have HZ := Lib.hid (HR.out.symm.trans hz.out)
      clear hall hz
      go_wp2_with fail
      go_ret
      exact ⟨ret_int HZ.out.symm, below_chV hbW hb⟩

end Go.Proofs.Ytgegaipkfpdocaa
