/-
  THE WALK OF level.Put.
-/
import Derived.Test.YtgegaipkfpdocaaDoorLevE
import Derived.Test.YtgegaipkfpdocaaDoorLevF
import Derived.Deep.DeepCutAuto
namespace Go.Proofs.YtgegaipkfpdocaaDoor
open Go.RowKit Go.Maps
set_option linter.unusedSimpArgs false
set_option linter.unusedVariables false
set_option maxRecDepth 100000

theorem fieldU (v : Value) (w : World) : (Instr.field 37 (.agg #[v]) 0).run Tryd.prog w = .ok v w := by kernel_rfl
/-- What has been put behind k parts. -/
def flatP (x : Lv) (bs : List Lv) (k : Nat) : Lv := (x.take k).flatMap fun p => addP p.2 (subP bs p)
theorem flatP_snoc {x : Lv} {bs : List Lv} {k : Nat} {p : Int × Int} (h : x[k]? = some p) : flatP x bs (k + 1) = flatP x bs k ++ addP p.2 (subP bs p) := by
  unfold flatP
  rw [take_snoc' h, List.flatMap_append]
  simp
theorem subP_good (bs : List Lv) (p : Int × Int) : GoodP (subP bs p) := by
  unfold subP
  split
  · intro q hq; simp only [List.mem_singleton] at hq; subst hq; simp
  · exact (nfP_nf _).good
theorem addP_snoc {y : Lv} {j : Nat} {q : Int × Int} (t : Int) (h : y[j]? = some q) : addP t (y.take (j + 1)) = addP t (y.take j) ++ [(q.1, q.2 + t)] := by
  unfold addP
  rw [take_snoc' h, List.map_append]; rfl

theorem lvAt_at {bs : List Lv} {u : Int} {l : Lv} (h0 : 0 < u) (h : bs[(u - 1).toNat]? = some l) : lvAt bs u = l := by
  unfold lvAt
  rw [if_pos h0, List.getD_eq_getElem?_getD, h]; rfl
theorem subP_out {bs : List Lv} {u t : Int} (h : ¬ (0 < u ∧ u ≤ bs.length)) : subP bs (u, t) = [(0, 0)] := by
  have e : lvAt bs u = [] := by
    unfold lvAt
    split
    · rename_i h0
      rw [List.getD_eq_getElem?_getD, List.getElem?_eq_none (by have : ¬ u ≤ bs.length := fun h1 => h ⟨h0, h1⟩; omega)]; rfl
    · rfl
  unfold subP
  simp only [e]
  rw [if_pos nfP_nil]
set_option maxHeartbeats 4000000 in
theorem put_puts (l : Lv) (bs : List Lv) (v vb : Value) (W : World) (bl bb : Nat) (hBl : Box W bl [v]) (hBb : Box W bb [vb]) (hv : RPv W l v) (hvb : RLv W bs vb) :
    PutsOk 73 #[.pointer (some ⟨bl, 0, none⟩), .pointer (some ⟨bb, 0, none⟩)] (putsP l bs) W := by
  intro mb W' hb0 hmb hM
  have hfl := fieldU
  have hbl := hBl.lt
  have hbb := hBb.lt
  have hmlt := hM.lt
  obtain ⟨w0, hw0⟩ : ∃ w0, W'.alloc (.cells #[.map (some mb)] 100) = w0 := ⟨_, rfl⟩
  have hs0 : w0.heap.size = W'.heap.size + 1 := by rw [← hw0]; simp
  have hb1 : Below W'.heap.size W' w0 := by rw [← hw0]; exact (Below.refl _ _).alloc (Nat.le_refl _) _
  have hT0 : Turns mb W' w0 := by rw [← hw0]; exact World.grownBy_alloc _ _ _
  have hM0 : MapR w0 mb [] := hM.below hb1
  have hQ0 : Box w0 W'.heap.size [.map (some mb)] := by rw [← hw0]; exact Box.new W' [_] _
  have hL0 := (hBl.below hb0).below hb1
  have hB0 := (hBb.below hb0).below hb1
  have hn := norm_any l v w0 ((hv.below hb0).below hb1)
  have hvb0 := (hvb.below hb0).below hb1
  have hW'b : bb < W'.heap.size := by have := hb0.size; omega
  have hW'l : bl < W'.heap.size := by have := hb0.size; omega
  have q0 := hL0.cell (j := 0) rfl
  obtain ⟨A1, n1, c1, rfl⟩ := hv.form
  have hputs : putsP l bs = (nfP l).flatMap fun p => addP p.2 (subP bs p) := rfl
  rw [hputs]
  have hg := (nfP_nf l).good
  have hr := (nfP_nf l).rise
  generalize nfP l = x at *
  have HG := Lib.hid hg
  have hxl := good_length hr hg
  clear hputs hg hr hM hBl hBb hv hvb hL0
  have HQ0 := Lib.hid hQ0
  have HB0 := Lib.hid hB0
  have HV0 := Lib.hid hvb0
  have HM0 := Lib.hid hM0
  clear hQ0 hB0 hvb0 hM0
  generalize hall : (x.flatMap fun p => addP p.2 (subP bs p)) = all
  have HALL := Lib.hid hall
  clear hall
  show Calls _ _ #[.agg #[.map (some mb)], .pointer (some ⟨bl, 0, none⟩), .pointer (some ⟨bb, 0, none⟩)] W' _
  go_enter Tryd.func73, Tryd.ntmps73
  go_wp2_with fail
  refine hn.mono ?_
  rintro e w1 ⟨v1, bs1, rfl, hO1, hbw⟩
  have hs1 := hbw.size
  have HX := Lib.hid hO1.reads
  have HT1 := Lib.hid (hT0.of_below hbw)
  have HM1 := Lib.hid (HM0.out.below hbw)
  have HQ1 := Lib.hid (HQ0.out.below hbw)
  have HB1 := Lib.hid (HB0.out.below hbw)
  have HV1 := Lib.hid (HV0.out.below hbw)
  obtain ⟨A3, c3, rfl, hc3, hl3, -⟩ := hO1.reads
  generalize hxx : x.length = n at *
  have HXL := Lib.hid hxx
  clear hxx hO1 hbw hn hb0 hb1 hw0 q0 HQ0 HB0 HV0 HM0 hT0
  go_wp2_with fail
  go_loopw [13] (fun i wr => ∃ k : Nat, k ≤ n ∧ i = .int .i64 k ∧ Turns mb w1 wr ∧ Hid (MapR wr mb (putP [] (flatP x bs k))) ∧ Hid ((flatP x bs k).any badP = false)) (fun i _ => n - (RowKit.intOf i).toNat)
  case atStart => exact ⟨0, Nat.zero_le _, rfl, World.grownBy.refl _ _, HM1.out, rfl⟩
  case round =>
    obtain ⟨k, hk, rfl, hT, hM, hG⟩ := hrel
    obtain ⟨wo, rfl⟩ : ∃ wo : World, wo = wr := ⟨_, rfl⟩
    have hts := hT.size
    by_cases hlt : k < n
    · have hXr := HX.out.byCells (turn_cell HM1.out hT)
      have hVr := HV1.out.byCells (turn_cell HM1.out hT)
      have hQr := HQ1.out.turn hT (by omega)
      have hBr := HB1.out.turn hT (by omega)
      obtain ⟨A5, c5, e5, -, -, hcp⟩ := hXr
      injection e5 with e5 e5a e5b
      subst e5
      clear e5a e5b
      obtain ⟨b, o, rfl, hcq⟩ := hcp (by have := HXL.out; omega)
      clear hcp
      obtain ⟨⟨u, t⟩, hpk⟩ : ∃ p, x[k]? = some p := ⟨_, List.getElem?_eq_getElem (by have := HXL.out; omega)⟩
      obtain ⟨p1, p2⟩ := hcq.get hpk
      obtain ⟨g0, g1, g2, g3⟩ := HG.out _ (List.mem_of_getElem? hpk)
      have HFS := Lib.hid (flatP_snoc (bs := bs) hpk)
      have HPK := Lib.hid hpk
      simp only at g0 g1 g2 g3 p1 p2
      have h1 : (k : Int) < (n : Int) := by omega
      have h0 : (0 : Int) ≤ (k : Int) := by omega
      have q0 : ∀ o1 o2, ((wo.alloc o1).alloc o2).cell? ⟨W'.heap.size, 0, none⟩ = some (.map (some mb)) := fun o1 o2 => ((hQr.alloc o1).alloc o2).cell (j := 0) rfl
      have q1 : ∀ o1 o2, ((wo.alloc o1).alloc o2).cell? ⟨bb, 0, none⟩ = some vb := fun o1 o2 => ((hBr.alloc o1).alloc o2).cell (j := 0) rfl
      obtain ⟨A6, c6, rfl, -, -, hbs⟩ := hVr
      generalize hmm : bs.length = m at *
      have HMM := Lib.hid hmm
      have HBS := Lib.hid hbs
      clear hcq hpk hmm hbs
      by_cases hu : 0 < u ∧ u ≤ m
      · obtain ⟨hu0, hu1⟩ := hu
        obtain ⟨lk, hlk⟩ : ∃ lk, bs[(u - 1).toNat]? = some lk := ⟨_, List.getElem?_eq_getElem (by have := HMM.out; omega)⟩
        obtain ⟨wa, hwa⟩ : ∃ wa, (wo.alloc (.cells #[.int .i64 u, .int .i64 t] 39)).alloc (.cells #[.slice none 0 0] 37) = wa := ⟨_, rfl⟩
        have hsa : wa.heap.size = wo.heap.size + 2 := by rw [← hwa]; simp
        have hba : Below wo.heap.size wo wa := by rw [← hwa]; exact ((Below.refl _ _).alloc (Nat.le_refl _) _).alloc (by simp) _
        have Pa : Box wa wo.heap.size [.int .i64 u, .int .i64 t] := by rw [← hwa]; exact (Box.new wo [_, _] _).alloc _
        have Xa : Box wa (wo.heap.size + 1) [.slice none 0 0] := by rw [← hwa]; exact Box.new' _ [_] _ (by simp)
        obtain ⟨b', o', rfl, hrl⟩ := HBS.out (by omega)
        obtain ⟨vk, hck, hpk⟩ := (RL.below hba hrl).get hlk
        rw [show (u - 1).toNat = u.toNat - 1 by omega] at hck
        have hn := norm_any lk vk wa hpk
        obtain ⟨A7, n7, c7, rfl⟩ := hpk.form
        rw [← hwa] at hn hck
        have HWA := Lib.hid hwa
        have hi0 : (0 : Int) ≤ u - 1 := by omega
        have hi1 : u - 1 < (m : Int) := by omega
        have HSUB : Hid (subP bs (u, t) = if nfP lk = [] then [(0, 0)] else nfP lk) := Lib.hid (by unfold subP; simp only [lvAt_at hu0 hlk])
        have HYG0 := Lib.hid (nfP_nf lk).good
        have hyle := good_length (nfP_nf lk).rise (nfP_nf lk).good
        generalize nfP lk = y at *
        have HPa := Lib.hid Pa
        have HXa := Lib.hid Xa
        clear q0 hrl hlk hpk Pa Xa hwa
        by_cases hy0 : y = []
        · have HS0 : Hid (subP bs (u, t) = [(0, 0)]) := Lib.hid (by rw [HSUB.out, if_pos hy0])
          subst hy0
          clear HSUB HYG0 hyle
          go_wp2_with fail
          refine hn.mono ?_
          rintro e w2 ⟨v2, bs2, rfl, hO, hb2⟩
          rw [HWA.out] at hO hb2
          obtain ⟨A8, c8, rfl, -, -, -⟩ := hO.reads
          simp only [List.length_nil] at *
          have X2 := HXa.out.below hb2
          have x2 := X2.frozen 0
          have x3 := X2.cell (j := 0) rfl
          have hbo : Below wo.heap.size wo w2 := hba.trans (hb2.mono hba.size)
          obtain ⟨wy, hwy⟩ : ∃ wy, w2.setCell ⟨wo.heap.size + 1, 0, none⟩ (.slice A8 0 c8) = wy := ⟨_, rfl⟩
          have hby : Below wo.heap.size wo wy := by rw [← hwy]; exact hbo.setCell (Nat.le_succ _) _
          have Xy : Box wy (wo.heap.size + 1) [.slice A8 0 c8] := by rw [← hwy]; exact X2.set 0 _
          have Py : Box wy wo.heap.size [.int .i64 u, .int .i64 t] := by rw [← hwy]; exact (HPa.out.below hb2).other (show wo.heap.size ≠ wo.heap.size + 1 by omega) _
          have y0 := Xy.cell (j := 0) rfl
          obtain ⟨we, hwe⟩ : ∃ we, wy.alloc (.cells #[.int .i64 0, .int .i64 0] 39) = we := ⟨_, rfl⟩
          have hbe : Below wo.heap.size wo we := by rw [← hwe]; exact hby.alloc hby.size _
          have Xe : Box we (wo.heap.size + 1) [.slice A8 0 c8] := by rw [← hwe]; exact Xy.alloc _
          have Pe : Box we wo.heap.size [.int .i64 u, .int .i64 t] := by rw [← hwe]; exact Py.alloc _
          have Ze : Box we wy.heap.size [.int .i64 0, .int .i64 0] := by rw [← hwe]; exact Box.new wy [_, _] _
          have hzn : wo.heap.size + 1 < wy.heap.size := Xy.lt
          have e0 := Xe.cell (j := 0) rfl
          have e1 := Xe.frozen 0
          obtain ⟨wz, hwz⟩ : ∃ wz, we.setCell ⟨wo.heap.size + 1, 0, none⟩ (.slice (some ⟨wy.heap.size, 0, none⟩) 1 1) = wz := ⟨_, rfl⟩
          have hbz : Below wo.heap.size wo wz := by rw [← hwz]; exact hbe.setCell (Nat.le_succ _) _
          have hzs := hbz.size
          have xz : wz.cell? ⟨wo.heap.size + 1, 0, none⟩ = some (.slice (some ⟨wy.heap.size, 0, none⟩) 1 1) := by rw [← hwz]; exact (Xe.set 0 _).cell (j := 0) rfl
          have Bz : Box wz wy.heap.size [.int .i64 0, .int .i64 0] := by rw [← hwz]; exact Ze.other (show wy.heap.size ≠ wo.heap.size + 1 by omega) _
          have HTz : Hid (Turns mb w1 wz) := hT.of_below hbz
          have HMz : Hid (MapR wz mb (putP [] (flatP x bs k))) := hM.out.below hbz
          have HQz : Hid (Box wz W'.heap.size [.map (some mb)]) := hQr.below hbz
          have HPz : Hid (Box wz wo.heap.size [.int .i64 u, .int .i64 t]) := by rw [← hwz]; exact Pe.other (show wo.heap.size ≠ wo.heap.size + 1 by omega) _
          have hyz : RPv wz [(0, 0)] (.slice (some ⟨wy.heap.size, 0, none⟩) 1 1) := ⟨_, _, rfl, Nat.le_refl _, by simp, fun _ => ⟨_, _, rfl, ⟨Bz.cell rfl, Bz.cell rfl⟩, trivial⟩⟩
          obtain ⟨y, hy⟩ : ∃ y : Lv, y = [(0, 0)] := ⟨_, rfl⟩
          have HYL : Hid (y.length = 1) := by rw [hy]; rfl
          have HYG : Hid (GoodP y) := by rw [hy]; exact fun q hq => by simp only [List.mem_singleton] at hq; subst hq; simp
          have HS : Hid (subP bs (u, t) = y) := by rw [hy]; exact HS0
          have HYz : Hid (RPv wz y (.slice (some ⟨wy.heap.size, 0, none⟩) 1 1)) := by rw [hy]; exact hyz
          clear hyz Bz HS0 hy hO hb2 hbo hbz hby hbe Xy Py Xe Pe Ze X2 hn hba q1 hck hQr hBr hT hM
          go_wp2_with fail
          clear xz hwz hwe hwy x2 x3 y0 e0 e1
          go_loopw [8, 45] (fun _ i wr => ∃ j : Nat, j ≤ 1 ∧ i = .int .i64 j ∧ Turns mb wz wr ∧ Hid (MapR wr mb (putP [] (flatP x bs k ++ addP t (y.take j)))) ∧ Hid ((flatP x bs k ++ addP t (y.take j)).any badP = false)) (fun _ i _ => 1 - (RowKit.intOf i).toNat)
          case atStart => exact ⟨0, Nat.zero_le _, rfl, World.grownBy.refl _ _, Lib.hid (by simpa [addP] using HMz.out), Lib.hid (by simpa [addP] using hG.out)⟩
          case round =>
            obtain ⟨j, hj, rfl, hT2, hM2, hG2⟩ := hrel
            have hts2 := hT2.size
            by_cases hjl : j < 1
            · have hYr := HYz.out.byCells (turn_cell HMz.out hT2)
              have hQr2 := HQz.out.turn hT2 (by omega)
              have hPr2 := HPz.out.turn hT2 (by omega)
              obtain ⟨A7, c7, e7, -, -, hyp⟩ := hYr
              injection e7 with e7 e7a e7b
              subst e7
              clear e7a e7b
              obtain ⟨b2, o2, e8, hyq⟩ := hyp (by have := HYL.out; omega)
              clear hyp
              injection e8 with e8
              injection e8 with e8 e9
              subst e8 e9
              obtain ⟨⟨a, d⟩, hyj⟩ : ∃ q, y[j]? = some q := ⟨_, List.getElem?_eq_getElem (by have := HYL.out; omega)⟩
              obtain ⟨r1, r2⟩ := hyq.get hyj
              obtain ⟨f0, f1, f2, f3⟩ := HYG.out _ (List.mem_of_getElem? hyj)
              simp only [Nat.zero_add] at f0 f1 f2 f3 r1 r2
              have HYJ := Lib.hid hyj
              have HAS := Lib.hid (addP_snoc t hyj)
              have s0 : ∀ o1, (wr.alloc o1).cell? ⟨W'.heap.size, 0, none⟩ = some (.map (some mb)) := fun o1 => (hQr2.alloc o1).cell (j := 0) rfl
              have s1 : ∀ o1, (wr.alloc o1).cell? ⟨wo.heap.size, 1, none⟩ = some (.int .i64 t) := fun o1 => (hPr2.alloc o1).cell (j := 1) rfl
              have hwq : ((wr.alloc (.cells #[.int .i64 a, .int .i64 d] 39)).alloc (.cells #[.int .i64 a, .int .i64 (d + t)] 39)).heap.size = wr.heap.size + 2 := by simp
              have Bq : Box ((wr.alloc (.cells #[.int .i64 a, .int .i64 d] 39)).alloc (.cells #[.int .i64 a, .int .i64 (d + t)] 39)) (wr.heap.size + 1) [.int .i64 a, .int .i64 (d + t)] := Box.new' _ [_, _] _ (by simp)
              have hTq : Turns mb wr ((wr.alloc (.cells #[.int .i64 a, .int .i64 d] 39)).alloc (.cells #[.int .i64 a, .int .i64 (d + t)] 39)) := Turns.alloc (Turns.alloc (World.grownBy.refl _ _) _) _
              have hcall := rput_any mb _ [(a, d + t)] (.slice (some ⟨wr.heap.size + 1, 0, none⟩) 1 1) _ ((hM2.out.alloc (.cells #[.int .i64 a, .int .i64 d] 39)).alloc (.cells #[.int .i64 a, .int .i64 (d + t)] 39)) ⟨_, _, rfl, Nat.le_refl _, by simp, fun _ => ⟨_, _, rfl, ⟨Bq.cell rfl, Bq.cell rfl⟩, trivial⟩⟩
              have HTQ := Lib.hid hTq
              have h3 : (j : Int) < (1 : Int) := by omega
              have h4 : (0 : Int) ≤ (j : Int) := by omega
              clear hyq hyj hPr2 hQr2 Bq hTq hwq
              go_wp2_with fail
              refine hcall.mono ?_
              rintro e w3 ⟨hT3, hgd, hbd⟩
              have hT4 := hT2.trans' (HTQ.out.trans' hT3)
              clear hcall s0 s1 hT3
              cases hbp : badP (a, d + t) with
              | false =>
                obtain ⟨rfl, hM3⟩ := hgd (by simp [hbp])
                have HBP := Lib.hid hbp
                have HM3 := Lib.hid hM3
                clear hgd hbd hbp hM3
                go_wp2_with fail
                go_roundw
                case rel => exact ⟨j + 1, by omega, by go_num, hT4, Lib.hid (by rw [HAS.out, ← List.append_assoc, putP_append]; exact HM3.out), Lib.hid (by rw [HAS.out, ← List.append_assoc, List.any_append, hG2.out]; simp [HBP.out])⟩
                case measure => simp [RowKit.intOf]; omega
              | true =>
                obtain rfl := hbd (by simp [hbp])
                have HBP := Lib.hid hbp
                clear hgd hbd hbp
                go_wp2_with fail
                exact ⟨rfl, PutEnd.no (HT1.out.trans' (HTz.out.trans' hT4)) (p := (a, d + t)) (by rw [← HALL.out]; exact List.mem_flatMap.2 ⟨(u, t), List.mem_of_getElem? HPK.out, by rw [HS.out]; exact List.mem_map.2 ⟨(a, d), List.mem_of_getElem? HYJ.out, rfl⟩⟩) HBP.out⟩
            · have hj1 : j = 1 := by omega
              subst hj1
              have hally : y.take 1 = y := List.take_of_length_le (by have := HYL.out; omega)
              rw [hally] at hM2 hG2
              have hT4 := HTz.out.trans' hT2
              have HM2 := Lib.hid hM2.out
              clear hally hM2
              go_wp2_with fail
              go_roundw
              case rel => exact ⟨k + 1, by omega, by go_num, hT4, Lib.hid (by rw [HFS.out, HS.out]; exact HM2.out), Lib.hid (by rw [HFS.out, HS.out]; exact hG2.out)⟩
              case measure => simp [RowKit.intOf]; omega
        · have HS : Hid (subP bs (u, t) = y) := Lib.hid (by rw [HSUB.out, if_neg hy0])
          have hny : 0 < y.length := List.length_pos_iff.2 hy0
          clear hy0 HSUB
          go_wp2_with fail
          refine hn.mono ?_
          rintro e w2 ⟨v2, bs2, rfl, hO, hb2⟩
          rw [HWA.out] at hO hb2
          obtain ⟨A8, c8, rfl, -, -, -⟩ := hO.reads
          have X2 := HXa.out.below hb2
          have x2 := X2.frozen 0
          have x3 := X2.cell (j := 0) rfl
          have hbo : Below wo.heap.size wo w2 := hba.trans (hb2.mono hba.size)
          obtain ⟨wz, hwz⟩ : ∃ wz, w2.setCell ⟨wo.heap.size + 1, 0, none⟩ (.slice A8 y.length c8) = wz := ⟨_, rfl⟩
          have hbz : Below wo.heap.size wo wz := by rw [← hwz]; exact hbo.setCell (Nat.le_succ _) _
          have hzs := hbz.size
          have xz : wz.cell? ⟨wo.heap.size + 1, 0, none⟩ = some (.slice A8 y.length c8) := by rw [← hwz]; exact (X2.set 0 _).cell (j := 0) rfl
          have HTz : Hid (Turns mb w1 wz) := hT.of_below hbz
          have HMz : Hid (MapR wz mb (putP [] (flatP x bs k))) := hM.out.below hbz
          have HQz : Hid (Box wz W'.heap.size [.map (some mb)]) := hQr.below hbz
          have HPz : Hid (Box wz wo.heap.size [.int .i64 u, .int .i64 t]) := by rw [← hwz]; exact (HPa.out.below hb2).other (show wo.heap.size ≠ wo.heap.size + 1 by omega) _
          have HYz : Hid (RPv wz y (.slice A8 y.length c8)) := by rw [← hwz]; exact (hO.move fun j hj => Below.heap_setCell _ _ _ _ (by have := hO.inn j hj; show j ≠ wo.heap.size + 1; omega)).reads
          have HYG : Hid (GoodP y) := HYG0
          generalize hyl : y.length = ny at *
          have HYL := Lib.hid hyl
          have hne : ((ny : Int) == 0) = false := by simp only [beq_eq_false_iff_ne, ne_eq]; omega
          clear hyl hO hb2 hbo hbz X2 hn hba q1 hck hQr hBr hT hM
          go_wp2_with fail
          clear xz hwz x2 x3 hne
          go_loopw [8, 45] (fun _ i wr => ∃ j : Nat, j ≤ ny ∧ i = .int .i64 j ∧ Turns mb wz wr ∧ Hid (MapR wr mb (putP [] (flatP x bs k ++ addP t (y.take j)))) ∧ Hid ((flatP x bs k ++ addP t (y.take j)).any badP = false)) (fun _ i _ => ny - (RowKit.intOf i).toNat)
          case atStart => exact ⟨0, Nat.zero_le _, rfl, World.grownBy.refl _ _, Lib.hid (by simpa [addP] using HMz.out), Lib.hid (by simpa [addP] using hG.out)⟩
          case round =>
            obtain ⟨j, hj, rfl, hT2, hM2, hG2⟩ := hrel
            have hts2 := hT2.size
            by_cases hjl : j < ny
            · have hYr := HYz.out.byCells (turn_cell HMz.out hT2)
              have hQr2 := HQz.out.turn hT2 (by omega)
              have hPr2 := HPz.out.turn hT2 (by omega)
              obtain ⟨A7, c7, e7, -, -, hyp⟩ := hYr
              injection e7 with e7 e7a e7b
              subst e7
              clear e7a e7b
              obtain ⟨b2, o2, e8, hyq⟩ := hyp (by have := HYL.out; omega)
              clear hyp
              subst e8
              obtain ⟨⟨a, d⟩, hyj⟩ : ∃ q, y[j]? = some q := ⟨_, List.getElem?_eq_getElem (by have := HYL.out; omega)⟩
              obtain ⟨r1, r2⟩ := hyq.get hyj
              obtain ⟨f0, f1, f2, f3⟩ := HYG.out _ (List.mem_of_getElem? hyj)
              simp only [Nat.zero_add] at f0 f1 f2 f3 r1 r2
              have HYJ := Lib.hid hyj
              have HAS := Lib.hid (addP_snoc t hyj)
              have s0 : ∀ o1, (wr.alloc o1).cell? ⟨W'.heap.size, 0, none⟩ = some (.map (some mb)) := fun o1 => (hQr2.alloc o1).cell (j := 0) rfl
              have s1 : ∀ o1, (wr.alloc o1).cell? ⟨wo.heap.size, 1, none⟩ = some (.int .i64 t) := fun o1 => (hPr2.alloc o1).cell (j := 1) rfl
              have hwq : ((wr.alloc (.cells #[.int .i64 a, .int .i64 d] 39)).alloc (.cells #[.int .i64 a, .int .i64 (d + t)] 39)).heap.size = wr.heap.size + 2 := by simp
              have Bq : Box ((wr.alloc (.cells #[.int .i64 a, .int .i64 d] 39)).alloc (.cells #[.int .i64 a, .int .i64 (d + t)] 39)) (wr.heap.size + 1) [.int .i64 a, .int .i64 (d + t)] := Box.new' _ [_, _] _ (by simp)
              have hTq : Turns mb wr ((wr.alloc (.cells #[.int .i64 a, .int .i64 d] 39)).alloc (.cells #[.int .i64 a, .int .i64 (d + t)] 39)) := Turns.alloc (Turns.alloc (World.grownBy.refl _ _) _) _
              have hcall := rput_any mb _ [(a, d + t)] (.slice (some ⟨wr.heap.size + 1, 0, none⟩) 1 1) _ ((hM2.out.alloc (.cells #[.int .i64 a, .int .i64 d] 39)).alloc (.cells #[.int .i64 a, .int .i64 (d + t)] 39)) ⟨_, _, rfl, Nat.le_refl _, by simp, fun _ => ⟨_, _, rfl, ⟨Bq.cell rfl, Bq.cell rfl⟩, trivial⟩⟩
              have HTQ := Lib.hid hTq
              have h3 : (j : Int) < (ny : Int) := by omega
              have h4 : (0 : Int) ≤ (j : Int) := by omega
              clear hyq hyj hPr2 hQr2 Bq hTq hwq
              go_wp2_with fail
              refine hcall.mono ?_
              rintro e w3 ⟨hT3, hgd, hbd⟩
              have hT4 := hT2.trans' (HTQ.out.trans' hT3)
              clear hcall s0 s1 hT3
              cases hbp : badP (a, d + t) with
              | false =>
                obtain ⟨rfl, hM3⟩ := hgd (by simp [hbp])
                have HBP := Lib.hid hbp
                have HM3 := Lib.hid hM3
                clear hgd hbd hbp hM3
                go_wp2_with fail
                go_roundw
                case rel => exact ⟨j + 1, by omega, by go_num, hT4, Lib.hid (by rw [HAS.out, ← List.append_assoc, putP_append]; exact HM3.out), Lib.hid (by rw [HAS.out, ← List.append_assoc, List.any_append, hG2.out]; simp [HBP.out])⟩
                case measure => simp [RowKit.intOf]; omega
              | true =>
                obtain rfl := hbd (by simp [hbp])
                have HBP := Lib.hid hbp
                clear hgd hbd hbp
                go_wp2_with fail
                exact ⟨rfl, PutEnd.no (HT1.out.trans' (HTz.out.trans' hT4)) (p := (a, d + t)) (by rw [← HALL.out]; exact List.mem_flatMap.2 ⟨(u, t), List.mem_of_getElem? HPK.out, by rw [HS.out]; exact List.mem_map.2 ⟨(a, d), List.mem_of_getElem? HYJ.out, rfl⟩⟩) HBP.out⟩
            · obtain rfl : j = ny := by omega
              have hally : y.take j = y := List.take_of_length_le (by have := HYL.out; omega)
              rw [hally] at hM2 hG2
              have hT4 := HTz.out.trans' hT2
              have HM2 := Lib.hid hM2.out
              clear hally hM2
              go_wp2_with fail
              go_roundw
              case rel => exact ⟨k + 1, by omega, by go_num, hT4, Lib.hid (by rw [HFS.out, HS.out]; exact HM2.out), Lib.hid (by rw [HFS.out, HS.out]; exact hG2.out)⟩
              case measure => simp [RowKit.intOf]; omega
      · have HS0 : Hid (subP bs (u, t) = [(0, 0)]) := Lib.hid (subP_out (by rw [HMM.out]; exact hu))
        obtain ⟨wz, hwz⟩ : ∃ wz, ((wo.alloc (.cells #[.int .i64 u, .int .i64 t] 39)).alloc (.cells #[.slice (some ⟨wo.heap.size + 1 + 1, 0, none⟩) 1 1] 37)).alloc (.cells #[.int .i64 0, .int .i64 0] 39) = wz := ⟨_, rfl⟩
        have hzs : wo.heap.size ≤ wz.heap.size := by rw [← hwz]; simp; omega
        have HTz : Hid (Turns mb w1 wz) := by rw [← hwz]; exact ((hT.alloc _).alloc _).alloc _
        have HMz : Hid (MapR wz mb (putP [] (flatP x bs k))) := by rw [← hwz]; exact ((hM.out.alloc _).alloc _).alloc _
        have HQz : Hid (Box wz W'.heap.size [.map (some mb)]) := by rw [← hwz]; exact ((hQr.alloc _).alloc _).alloc _
        have HPz : Hid (Box wz wo.heap.size [.int .i64 u, .int .i64 t]) := by rw [← hwz]; exact ((Box.new wo [_, _] _).alloc _).alloc _
        have Bz : Box wz (wo.heap.size + 1 + 1) [.int .i64 0, .int .i64 0] := by rw [← hwz]; exact Box.new' _ [_, _] _ (by simp)
        have xz : wz.cell? ⟨wo.heap.size + 1, 0, none⟩ = some (.slice (some ⟨wo.heap.size + 1 + 1, 0, none⟩) 1 1) := by
          rw [← hwz]
          exact ((Box.new' (wo.alloc _) [_] _ (by simp)).alloc _).cell (j := 0) rfl
        have hyz : RPv wz [(0, 0)] (.slice (some ⟨wo.heap.size + 1 + 1, 0, none⟩) 1 1) := ⟨_, _, rfl, Nat.le_refl _, by simp, fun _ => ⟨_, _, rfl, ⟨Bz.cell rfl, Bz.cell rfl⟩, trivial⟩⟩
        obtain ⟨y, hy⟩ : ∃ y : Lv, y = [(0, 0)] := ⟨_, rfl⟩
        have HYL : Hid (y.length = 1) := by rw [hy]; rfl
        have HYG : Hid (GoodP y) := by rw [hy]; exact fun q hq => by simp only [List.mem_singleton] at hq; subst hq; simp
        have HS : Hid (subP bs (u, t) = y) := by rw [hy]; exact HS0
        have HYz : Hid (RPv wz y (.slice (some ⟨wo.heap.size + 1 + 1, 0, none⟩) 1 1)) := by rw [hy]; exact hyz
        clear hyz Bz HS0 hy hQr hBr hT hM
        go_wp2_with fail
        all_goals
          clear q0 q1 hwz xz
          go_loopw [8, 45] (fun _ i wr => ∃ j : Nat, j ≤ 1 ∧ i = .int .i64 j ∧ Turns mb wz wr ∧ Hid (MapR wr mb (putP [] (flatP x bs k ++ addP t (y.take j)))) ∧ Hid ((flatP x bs k ++ addP t (y.take j)).any badP = false)) (fun _ i _ => 1 - (RowKit.intOf i).toNat)
          case atStart => exact ⟨0, Nat.zero_le _, rfl, World.grownBy.refl _ _, Lib.hid (by simpa [addP] using HMz.out), Lib.hid (by simpa [addP] using hG.out)⟩
          case round =>
            obtain ⟨j, hj, rfl, hT2, hM2, hG2⟩ := hrel
            have hts2 := hT2.size
            by_cases hjl : j < 1
            · have hYr := HYz.out.byCells (turn_cell HMz.out hT2)
              have hQr2 := HQz.out.turn hT2 (by omega)
              have hPr2 := HPz.out.turn hT2 (by omega)
              obtain ⟨A7, c7, e7, -, -, hyp⟩ := hYr
              injection e7 with e7 e7a e7b
              subst e7
              clear e7a e7b
              obtain ⟨b2, o2, e8, hyq⟩ := hyp (by have := HYL.out; omega)
              clear hyp
              injection e8 with e8
              injection e8 with e8 e9
              subst e8 e9
              obtain ⟨⟨a, d⟩, hyj⟩ : ∃ q, y[j]? = some q := ⟨_, List.getElem?_eq_getElem (by have := HYL.out; omega)⟩
              obtain ⟨r1, r2⟩ := hyq.get hyj
              obtain ⟨f0, f1, f2, f3⟩ := HYG.out _ (List.mem_of_getElem? hyj)
              simp only [Nat.zero_add] at f0 f1 f2 f3 r1 r2
              have HYJ := Lib.hid hyj
              have HAS := Lib.hid (addP_snoc t hyj)
              have s0 : ∀ o1, (wr.alloc o1).cell? ⟨W'.heap.size, 0, none⟩ = some (.map (some mb)) := fun o1 => (hQr2.alloc o1).cell (j := 0) rfl
              have s1 : ∀ o1, (wr.alloc o1).cell? ⟨wo.heap.size, 1, none⟩ = some (.int .i64 t) := fun o1 => (hPr2.alloc o1).cell (j := 1) rfl
              have hwq : ((wr.alloc (.cells #[.int .i64 a, .int .i64 d] 39)).alloc (.cells #[.int .i64 a, .int .i64 (d + t)] 39)).heap.size = wr.heap.size + 2 := by simp
              have Bq : Box ((wr.alloc (.cells #[.int .i64 a, .int .i64 d] 39)).alloc (.cells #[.int .i64 a, .int .i64 (d + t)] 39)) (wr.heap.size + 1) [.int .i64 a, .int .i64 (d + t)] := Box.new' _ [_, _] _ (by simp)
              have hTq : Turns mb wr ((wr.alloc (.cells #[.int .i64 a, .int .i64 d] 39)).alloc (.cells #[.int .i64 a, .int .i64 (d + t)] 39)) := Turns.alloc (Turns.alloc (World.grownBy.refl _ _) _) _
              have hcall := rput_any mb _ [(a, d + t)] (.slice (some ⟨wr.heap.size + 1, 0, none⟩) 1 1) _ ((hM2.out.alloc (.cells #[.int .i64 a, .int .i64 d] 39)).alloc (.cells #[.int .i64 a, .int .i64 (d + t)] 39)) ⟨_, _, rfl, Nat.le_refl _, by simp, fun _ => ⟨_, _, rfl, ⟨Bq.cell rfl, Bq.cell rfl⟩, trivial⟩⟩
              have HTQ := Lib.hid hTq
              have h3 : (j : Int) < (1 : Int) := by omega
              have h4 : (0 : Int) ≤ (j : Int) := by omega
              clear hyq hyj hPr2 hQr2 Bq hTq hwq
              go_wp2_with fail
              refine hcall.mono ?_
              rintro e w3 ⟨hT3, hgd, hbd⟩
              have hT4 := hT2.trans' (HTQ.out.trans' hT3)
              clear hcall s0 s1 hT3
              cases hbp : badP (a, d + t) with
              | false =>
                obtain ⟨rfl, hM3⟩ := hgd (by simp [hbp])
                have HBP := Lib.hid hbp
                have HM3 := Lib.hid hM3
                clear hgd hbd hbp hM3
                go_wp2_with fail
                go_roundw
                case rel => exact ⟨j + 1, by omega, by go_num, hT4, Lib.hid (by rw [HAS.out, ← List.append_assoc, putP_append]; exact HM3.out), Lib.hid (by rw [HAS.out, ← List.append_assoc, List.any_append, hG2.out]; simp [HBP.out])⟩
                case measure => simp [RowKit.intOf]; omega
              | true =>
                obtain rfl := hbd (by simp [hbp])
                have HBP := Lib.hid hbp
                clear hgd hbd hbp
                go_wp2_with fail
                exact ⟨rfl, PutEnd.no (HT1.out.trans' (HTz.out.trans' hT4)) (p := (a, d + t)) (by rw [← HALL.out]; exact List.mem_flatMap.2 ⟨(u, t), List.mem_of_getElem? HPK.out, by rw [HS.out]; exact List.mem_map.2 ⟨(a, d), List.mem_of_getElem? HYJ.out, rfl⟩⟩) HBP.out⟩
            · have hj1 : j = 1 := by omega
              subst hj1
              have hally : y.take 1 = y := List.take_of_length_le (by have := HYL.out; omega)
              rw [hally] at hM2 hG2
              have hT4 := HTz.out.trans' hT2
              have HM2 := Lib.hid hM2.out
              clear hally hM2
              go_wp2_with fail
              go_roundw
              case rel => exact ⟨k + 1, by omega, by go_num, hT4, Lib.hid (by rw [HFS.out, HS.out]; exact HM2.out), Lib.hid (by rw [HFS.out, HS.out]; exact hG2.out)⟩
              case measure => simp [RowKit.intOf]; omega
    · obtain rfl : k = n := by omega
      have hallx : flatP x bs k = all := by
        unfold flatP
        rw [List.take_of_length_le (by have := HXL.out; omega)]
        exact HALL.out
      rw [hallx] at hM hG
      have hTT := HT1.out.trans' hT
      clear hallx
      go_wp2_with fail
      go_end0
      exact PutEnd.ok hTT hG.out hM.out

end Go.Proofs.YtgegaipkfpdocaaDoor
