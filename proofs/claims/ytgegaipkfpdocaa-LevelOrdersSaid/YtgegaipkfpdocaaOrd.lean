/-
  THE WALK OF LevelOrders. Printed by gen_ord.py.
-/
import Derived.Test.YtgegaipkfpdocaaOrdA
import Derived.Test.YtgegaipkfpdocaaOrdB
import Derived.Test.YtgegaipkfpdocaaOrdC
import Derived.Test.YtgegaipkfpdocaaOrdD
import Derived.Deep.CutBlock
import Derived.IntWalk
namespace Go.Proofs.Ytgegaipkfpdocaa
open Go.RowKit Go.Maps
set_option linter.unusedSimpArgs false
set_option linter.unusedVariables false
set_option maxRecDepth 100000

set_option maxHeartbeats 64000000 in
theorem orders_any (a b c : Lv) (bs : List Lv) (va vb vc vv : Value) (w : World) (ha : RPv w a va) (hb : RPv w b vb) (hc : RPv w c vc) (hY : RLv w bs vv) (hnil : ∀ n c, vv = .slice none n c → c = 0) (hlen : bs.length ≤ 5864062014634) :
    Calls Try.prog 4 #[.agg #[va], .agg #[vb], .agg #[vc], vv] w fun e w' => e = .returned (.bool true) ∧ Below w.heap.size w w' := by
  obtain ⟨w0, hw0⟩ : ∃ w0, ((w.alloc (.cells #[va] 24)).alloc (.cells #[vb] 24)).alloc (.cells #[vc] 24) = w0 := ⟨_, rfl⟩
  have hb0 : Below w.heap.size w w0 := by rw [← hw0]; exact (((Below.refl _ _).alloc (Nat.le_refl _) _).alloc (by simp) _).alloc (by simp; omega) _
  have B0 : Box w0 w.heap.size [va] := by rw [← hw0]; exact ((Box.new w [_] _).alloc _).alloc _
  have B1 : Box w0 (w.heap.size + 1) [vb] := by rw [← hw0]; exact (Box.new' _ [_] _ (by simp)).alloc _
  have B2 : Box w0 (w.heap.size + 2) [vc] := by rw [← hw0]; exact Box.new' _ [_] _ (by simp)
  have HS0 : Hid (OSt w w.heap.size a b c bs va vb vc vv w0) := Lib.hid ⟨B0.cell (j := 0) rfl, B1.cell (j := 0) rfl, B2.cell (j := 0) rfl, ha.below hb0, hb.below hb0, hc.below hb0, hY.below hb0, hb0⟩
  obtain ⟨A1, n1, c1, rfl⟩ := ha.form
  obtain ⟨A2, n2, c2, rfl⟩ := hb.form
  obtain ⟨A3, n3, c3, rfl⟩ := hc.form
  have HNIL := Lib.hid (RLv.newsL · hnil (w := w0) (ls := bs))
  obtain ⟨A4, c4, rfl, -⟩ : ∃ A c, vv = .slice A bs.length c ∧ True := by obtain ⟨A, c, e, _⟩ := hY; exact ⟨A, c, e, trivial⟩
  have HNILC : Hid (∀ n c, Value.slice A4 bs.length c4 = .slice none n c → c = 0) := Lib.hid hnil
  have hnl : (bs.length : Int) ≤ 5864062014634 := by omega
  generalize hnn : bs.length = nl at *
  have HNL := Lib.hid hnn
  have haw := lawAwake_any w0
  clear hnn ha hb hc hY B0 B1 B2 hnil HNIL
  go_enter Try.func4, Try.ntmps4
  go_wp2_with fail
  clear hw0
  refine haw.mono ?_
  rintro e w1 ⟨rfl, hb1⟩
  have HS1 := Lib.hid (HS0.out.below rfl hb1)
  clear hb0 haw HS0 hb1
  generalize hNN : w.heap.size = N at *
  have HN := Lib.hid hNN
  clear hNN
  obtain ⟨q0, q1, q2⟩ : _ ∧ _ ∧ _ := ⟨HS1.out.q0, HS1.out.q1, HS1.out.q2⟩
  obtain ⟨i0, hi, hz0, hz1, hz2⟩ := info_parts info_levL
  have hB2 : Below w1.heap.size w1 (w1.alloc (.cells #[.slice A1 n1 c1, .slice A2 n2 c2, .slice A3 n3 c3] 24)) := (Below.refl _ _).alloc (Nat.le_refl _) _
  obtain ⟨news, hnx, hnd1⟩ := HS1.out.Y.newsL HNILC.out
  rw [HNL.out] at hnd1
  have hnd := newsL_below hB2 hnd1
  have hx3 : RXL w1 ([a, b, c] ++ bs) ([.slice A1 n1 c1, .slice A2 n2 c2, .slice A3 n3 c3] ++ news) := RXL.app (ls := [a, b, c]) ⟨_, _, rfl, HS1.out.A, _, _, rfl, HS1.out.B, _, _, rfl, HS1.out.C, rfl⟩ hnx
  have own0 : (w1.alloc (.cells #[.slice A1 n1 c1, .slice A2 n2 c2, .slice A3 n3 c3] 24)).ownsRow w1.heap.size 24 1 (.slice (some ⟨w1.heap.size, 0, none⟩) 3 3) 3 [.slice A1 n1 c1, .slice A2 n2 c2, .slice A3 n3 c3] := World.ownsRow_lit w1 #[.slice A1 n1 c1, .slice A2 n2 c2, .slice A3 n3 c3] 3 (Nat.le_refl _) (by decide) (by rfl)
  have HSZ : w1.heap.size ≤ (w1.alloc (.cells #[.slice A1 n1 c1, .slice A2 n2 c2, .slice A3 n3 c3] 24)).heap.size := by simp
  have HOWN := Lib.hid own0
  have HND := Lib.hid hnd
  have HX3 := Lib.hid hx3
  clear own0 hnd hnd1 hnx hx3 hB2
  go_wp2_with (at_builtin; refine wpList_appendL rfl w1.heap.size 24 32 1 24 i0 _ Try.underlying32 hi hz0 hz1 hz2 rfl (by omega) _ _ (by rfl) 3 nl _ _ _ news (by rfl) HOWN.out (by rfl) HND.out (by unfold maxLen; omega) (by omega) HSZ ?ca)
  case ca =>
    intro v22 w6 hown6 hg6
    have bel6 : Below w1.heap.size w1 w6 := Below.grown ((Below.refl _ _).alloc (Nat.le_refl _) _) hg6 HSZ (fun k hk => (own_in HOWN.out k (by rw [hk]; simp)).1)
    have hL : RLv w6 ([a, b, c] ++ bs) v22 := RLv_row (by simp [HNL.out]; omega) hown6 (HX3.out.below bel6) (by simp [HNL.out]; omega)
    have HGR := Lib.hid (great_any _ _ w6 hL)
    have HS6 := Lib.hid (HS1.out.below HN.out bel6)
    obtain ⟨Ax, cx, rfl, -⟩ : ∃ A k, v22 = .slice A ([a, b, c] ++ bs).length k ∧ True := by obtain ⟨A, k, e, _⟩ := hL; exact ⟨A, k, e, trivial⟩
    generalize ([a, b, c] ++ bs).length = nx at *
    generalize decide (60 < lvsOf 60 0 ([a, b, c] ++ bs)) = G at *
    clear hL hown6 hg6 bel6 q0 q1 q2 HOWN HND HX3 HSZ HS1 hi hz0 hz1 hz2
    go_wp2_with fail
    refine HGR.out.mono ?_
    rintro e w7 ⟨rfl, hb7⟩
    have HS7 := Lib.hid (HS6.out.below HN.out hb7)
    clear hb7 HGR HS6
    cases G
    case true =>
      go_wp2_with fail
      go_ret
      exact ⟨rfl, by have h := HS7.out.Z; rw [← HN.out] at h; exact h⟩
    case false =>
      have hsa := small_any a _ w7 HS7.out.A
      have q0 := HS7.out.q0
      generalize hqa : smallB a = sa at *
      have HQA := Lib.hid hqa
      clear hqa
      go_wp2_with fail
      refine hsa.mono ?_
      rintro e w8 ⟨rfl, hb8⟩
      have HS8 := Lib.hid (HS7.out.below HN.out hb8)
      clear hb8 hsa q0 HS7
      cases sa
      case false =>
        go_wp2_with fail
        go_ret
        exact ⟨rfl, by have h := HS8.out.Z; rw [← HN.out] at h; exact h⟩
      case true =>
        have hsb := small_any b _ w8 HS8.out.B
        have q1 := HS8.out.q1
        generalize hqb : smallB b = sb at *
        have HQB := Lib.hid hqb
        clear hqb
        go_wp2_with fail
        refine hsb.mono ?_
        rintro e w9 ⟨rfl, hb9⟩
        have HS9 := Lib.hid (HS8.out.below HN.out hb9)
        clear hb9 hsb q1 HS8
        cases sb
        case false =>
          go_wp2_with fail
          go_ret
          exact ⟨rfl, by have h := HS9.out.Z; rw [← HN.out] at h; exact h⟩
        case true =>
          have hsc := small_any c _ w9 HS9.out.C
          have q2 := HS9.out.q2
          generalize hqc : smallB c = sc at *
          have HQC := Lib.hid hqc
          clear hqc
          go_wp2_with fail
          refine hsc.mono ?_
          rintro e wa ⟨rfl, hba⟩
          have HSA := Lib.hid (HS9.out.below HN.out hba)
          clear hba hsc q2 HS9
          cases sc
          case false =>
            go_wp2_with fail
            go_ret
            exact ⟨rfl, by have h := HSA.out.Z; rw [← HN.out] at h; exact h⟩
          case true =>
            have HMA := Lib.hid (smallB_iff.1 HQA.out)
            have HMB := Lib.hid (smallB_iff.1 HQB.out)
            clear HQA HQB HQC
            go_upto_block 0 with fail
            go_cut [] from 15 (fun wr => Hid (∀ l ∈ bs, SmP l) ∧ Hid (OSt w N a b c bs (.slice A1 n1 c1) (.slice A2 n2 c2) (.slice A3 n3 c3) (.slice A4 nl c4) wr))
            case first =>
              go_wp2_with fail
              go_loopw [9] (fun i wr => ∃ j : Nat, j ≤ nl ∧ i = .int .i64 j ∧ Hid (∀ l ∈ bs.take j, SmP l) ∧ Hid (OSt w N a b c bs (.slice A1 n1 c1) (.slice A2 n2 c2) (.slice A3 n3 c3) (.slice A4 nl c4) wr)) (fun i _ => nl - (RowKit.intOf i).toNat)
              case atStart => exact ⟨0, Nat.zero_le _, rfl, Lib.hid (fun x hx => by simp at hx), HSA⟩
              case round =>
                obtain ⟨j, hj, rfl, HB, HSR⟩ := hrel
                obtain ⟨wo, rfl⟩ : ∃ wo : World, wo = wr := ⟨_, rfl⟩
                have hj0 : (0 : Int) ≤ (j : Int) := by omega
                by_cases hlt : (j : Int) < (nl : Int)
                · obtain ⟨A5, c5, e5, -, -, hcp⟩ := HSR.out.Y
                  injection e5 with e5 e5a e5b
                  subst e5
                  clear e5a e5b
                  obtain ⟨b5, o5, rfl, hcq⟩ := hcp (by have := HNL.out; omega)
                  clear hcp
                  obtain ⟨l, hl⟩ : ∃ l, bs[j]? = some l := ⟨_, List.getElem?_eq_getElem (by have := HNL.out; omega)⟩
                  obtain ⟨x, hcx, hpx⟩ := hcq.get hl
                  have hcall := small_any l x wo hpx
                  obtain ⟨Al, nlx, clx, rfl⟩ := hpx.form
                  have HT := Lib.hid hl
                  generalize hql : smallB l = sl at *
                  have HQL := Lib.hid hql
                  clear hcq hl hql hpx
                  go_wp2_with fail
                  refine hcall.mono ?_
                  rintro e we ⟨rfl, hbe⟩
                  have HSE := Lib.hid (HSR.out.below HN.out hbe)
                  clear hcall hbe hcx
                  cases sl
                  case false =>
                    go_wp2_with fail
                    go_ret
                    exact ⟨rfl, by have h := HSE.out.Z; rw [← HN.out] at h; exact h⟩
                  case true =>
                    have HB2 := Lib.hid (small_all HB.out HT.out (smallB_iff.1 HQL.out))
                    go_wp2_with fail
                    go_roundw
                    case rel => exact ⟨j + 1, by omega, by go_num, HB2, HSE⟩
                    case measure => simp [RowKit.intOf]; omega
                · obtain rfl : j = nl := by omega
                  have hall : bs.take j = bs := List.take_of_length_le (by have := HNL.out; omega)
                  rw [hall] at HB
                  clear hall
                  go_wp2_with fail
                  go_meet
                  exact ⟨HB, HSR⟩
            case rest =>
              obtain ⟨HMS, HS⟩ := hcut
              clear HSA
              obtain ⟨wb, rfl⟩ : ∃ wb : World, wb = wc := ⟨_, rfl⟩
              go_upto_region 10 with fail
              go_cut [10, 11] from 15 (fun u d wr => u = .bool (leqL a b) ∧ d = .bool (leqL b a) ∧ Hid (OSt w N a b c bs (.slice A1 n1 c1) (.slice A2 n2 c2) (.slice A3 n3 c3) (.slice A4 nl c4) wr))
              case first =>
                have p0 : ∀ W', Below wb.heap.size wb W' → W'.cell? ⟨N, 0, none⟩ = some (.slice A1 n1 c1) := fun W' h => (HS.out.below HN.out h).q0
                have p1 : ∀ W', Below wb.heap.size wb W' → W'.cell? ⟨N + 1, 0, none⟩ = some (.slice A2 n2 c2) := fun W' h => (HS.out.below HN.out h).q1
                have hcA := FixedO.mk (WX := wb) (fun W' h => leq_any a b _ _ W' (HS.out.A.below h) (HS.out.B.below h))
                have hcB := FixedO.mk (WX := wb) (fun W' h => leq_any b a _ _ W' (HS.out.B.below h) (HS.out.A.below h))
                generalize leqL a b = up at *
                generalize leqL b a = down at *
                refine wp_region_below wb (by kernel_rfl) (by kernel_rfl) (Below.refl _ _) ?_
                repeat
                  (refine wpQuiet_step (fun K hK => ?_)
                   go_simp
                   first
                     | (refine hK _ ?_; clear hK K)
                     | (apply Exists.intro
                        refine ⟨fun W' hW' => ?_, hK _ ?_⟩
                        (first | with_reducible exact hcA W' hW' | with_reducible exact hcB W' hW' | with_reducible rfl | (go_simp; rfl))
                        clear hK K))
                refine wpQuiet_nil ?_
                intro w7 hb7
                clear p0 p1 hcA hcB
                go_wp2_with fail
                go_meet
                exact ⟨rfl, rfl, Lib.hid (HS.out.below HN.out hb7)⟩
              case rest =>
                obtain ⟨rfl, rfl, HS2⟩ := hcut
                clear HS
                have HS := HS2
                clear HS2
                clear wb
                go_upto_region 11 with fail
                go_cut [104] from 15 (fun v wr => v = .bool false ∧ Hid (OSt w N a b c bs (.slice A1 n1 c1) (.slice A2 n2 c2) (.slice A3 n3 c3) (.slice A4 nl c4) wr))
                case first =>
                  refine wp_plainO (ord11 w N a b c bs A1 A2 A3 A4 n1 c1 n2 c2 n3 c3 nl c4 wc _ _ _ _ _ _ _ _ _ _ _ _ _ _ _ _ _ _ _ _ _ _ _ _ _ _ _ _ _ _ _ _ _ _ _ _ _ _ _ _ _ _ _ _ _ _ _ _ _ _ _ _ _ _ _ _ _ _ _ _ _ _ _ _ _ _ _ _ _ _ _ _ _ _ _ _ _ _ _ _ _ _ _ _ _ _ _ _ _ _ _ _ _ _ _ _ _ _ _ _ _ _ _ _ _ _ _ _ _ _ _ _ _ _ _ _ _ _ _ _ _ _ _ _ _ _ _ _ _ _ _ _ _ _ _ _ _ _ _ _ _ _ _ _ _ _ _ _ _ _ _ _ _ _ _ _ _ _ _ _ _ _ _ _ _ _ _ _ _ _ _ _ _ _ _ _ _ _ _ HN HS _ (by kernel_rfl) _ ?_)
                  intro v57 v58 v59 v60 v61 v62 v63 v64 v65 v66 v67 v68 v69 v70 v71 v72 v73 v74 v75 v76 v77 v78 v79 v80 v81 v82 v83 v84 v85 v86 v87 v88 v89 v90 v91 v92 v93 v94 v95 v96 v97 v98 v99 v100 v101 v102 v103 w' hS
                  go_wp2_with fail
                  go_meet
                  exact ⟨rfl, hS⟩
                case rest =>
                  obtain ⟨rfl, HS2⟩ := hcut
                  clear HS
                  have HS := HS2
                  clear HS2
                  obtain ⟨wd, rfl⟩ : ∃ wd : World, wd = wc := ⟨_, rfl⟩
                  go_upto_region 13 with fail
                  go_cut [12] from 15 (fun v wr => ∃ m Am nm cm, v = .pointer (some ⟨m, 0, none⟩) ∧ Hid (LvIn wr m (nfP (a ++ b)) (.slice Am nm cm)) ∧ Hid (OSt w N a b c bs (.slice A1 n1 c1) (.slice A2 n2 c2) (.slice A3 n3 c3) (.slice A4 nl c4) wr))
                  case first =>
                    obtain ⟨q0, q1⟩ : _ ∧ _ := ⟨HS.out.q0, HS.out.q1⟩
                    have hL := levels_two wd HS.out.A HS.out.B 24
                    have hm := lmax_any _ _ _ hL
                    rw [show [a, b].flatten = a ++ b by simp] at hm
                    clear hL
                    go_wp2_with fail
                    refine hm.mono ?_
                    rintro e w5 ⟨v5, b5, rfl, ho, hb5⟩
                    obtain ⟨Am, nm, cm, rfl⟩ := ho.reads.form
                    have HX := Lib.hid ho.reads
                    have HS5 := Lib.hid (HS.out.below HN.out (below_chV ((Below.refl _ _).alloc (Nat.le_refl _) _) hb5))
                    clear ho hb5 hm q0 q1
                    go_wp2_with fail
                    go_meet
                    exact ⟨w5.heap.size, Am, nm, cm, rfl, Lib.hid ⟨(Box.new w5 [_] _).cell (j := 0) rfl, HX.out.below ((Below.refl _ _).alloc (Nat.le_refl _) _)⟩, Lib.hid (HS5.out.below HN.out ((Below.refl _ _).alloc (Nat.le_refl _) _))⟩
                  case rest =>
                    obtain ⟨m, Am, nm, cm, rfl, HM, HS2⟩ := hcut
                    clear HS
                    have HS := HS2
                    clear HS2 wd
                    obtain ⟨wd, rfl⟩ : ∃ wd : World, wd = wc := ⟨_, rfl⟩
                    go_upto_region 14 with fail
                    go_cut [147] from 15 (fun v wr => v = .bool false ∧ Hid (Below wd.heap.size wd wr))
                    case first =>
                      refine wp_plainO (ord14 w N a b c bs A1 A2 A3 A4 n1 c1 n2 c2 n3 c3 nl c4 wd _ _ _ _ _ _ _ _ _ _ _ _ _ _ _ _ _ _ _ _ _ _ _ _ _ _ _ _ _ _ _ _ _ _ _ _ _ _ _ _ _ _ _ _ _ _ _ _ _ _ _ _ _ _ _ _ _ _ _ _ _ _ _ _ _ _ _ _ _ _ _ _ _ _ _ _ _ _ _ _ _ _ _ _ _ _ _ _ _ _ _ _ _ _ _ _ _ _ _ _ _ _ _ _ _ _ _ _ _ _ _ _ _ _ _ _ _ _ _ _ _ _ _ _ _ _ _ _ _ _ _ _ _ _ _ _ _ _ _ _ _ _ _ _ _ _ _ _ _ _ _ _ _ _ _ _ _ _ _ _ _ _ _ _ _ _ _ _ _ _ _ _ _ _ _ _ _ _ _ _ HMA HMB m Am nm cm HM HN HS _ (by kernel_rfl) _ ?_)
                      intro v109 v110 v111 v112 v113 v114 v115 v116 v117 v118 v119 v120 v121 v122 v123 v124 v125 v126 v127 v128 v129 v130 v131 v132 v133 v134 v135 v136 v137 v138 v139 v140 v141 v142 v143 v144 v145 v146 w' hB
                      go_wp2_with fail
                      go_meet
                      exact ⟨rfl, Lib.hid hB⟩
                    case rest =>
                      obtain ⟨rfl, hB⟩ := hcut
                      replace HS := Lib.hid (HS.out.below HN.out hB.out)
                      replace HM := Lib.hid (HM.out.below hB.out)
                      clear hB wd
                      obtain ⟨wd, rfl⟩ : ∃ wd : World, wd = wc := ⟨_, rfl⟩
                      go_upto_region 16 with fail
                      go_cut [13, 14] from 15 (fun v v' wr => ∃ p q Ap np cp Aq nq cq, v = .pointer (some ⟨p, 0, none⟩) ∧ v' = .pointer (some ⟨q, 0, none⟩) ∧ Hid (LvIn wr p (putLv a bs) (.slice Ap np cp)) ∧ Hid (LvIn wr q (putLv b bs) (.slice Aq nq cq)) ∧ Hid (Below wd.heap.size wd wr))
                      case first =>
                        refine wp_plainO (ord16 w N a b c bs A1 A2 A3 A4 n1 c1 n2 c2 n3 c3 nl c4 wd _ _ _ _ _ _ _ _ _ _ _ _ _ _ _ _ _ _ _ _ _ _ _ _ _ _ _ _ _ _ _ _ _ _ _ _ _ _ _ _ _ _ _ _ _ _ _ _ _ _ _ _ _ _ _ _ _ _ _ _ _ _ _ _ _ _ _ _ _ _ _ _ _ _ _ _ _ _ _ _ _ _ _ _ _ _ _ _ _ _ _ _ _ _ _ _ _ _ _ _ _ _ _ _ _ _ _ _ _ _ _ _ _ _ _ _ _ _ _ _ _ _ _ _ _ _ _ _ _ _ _ _ _ _ _ _ _ _ _ _ _ _ _ _ _ _ _ _ _ _ _ _ _ _ _ _ _ _ _ _ _ _ _ _ _ _ _ _ _ _ _ _ _ _ _ _ _ _ _ _ HN HS _ (by kernel_rfl) _ ?_)
                        intro v148 v149 v150 v151 v152 v153 p q Ap np cp Aq nq cq w' hP hQ hB
                        go_wp2_with fail
                        go_meet
                        exact ⟨p, q, Ap, np, cp, Aq, nq, cq, rfl, rfl, Lib.hid hP, Lib.hid hQ, Lib.hid hB⟩
                      case rest =>
                        obtain ⟨p, q, Ap, np, cp, Aq, nq, cq, rfl, rfl, HP, HQQ, hB⟩ := hcut
                        replace HS := Lib.hid (HS.out.below HN.out hB.out)
                        replace HM := Lib.hid (HM.out.below hB.out)
                        clear hB wd
                        obtain ⟨wd, rfl⟩ : ∃ wd : World, wd = wc := ⟨_, rfl⟩
                        go_upto_region 17 with fail
                        go_cut [8] from 15 (fun v wr => v = .bool true ∧ Hid (Below wd.heap.size wd wr))
                        case first =>
                          refine wp_plainO (ord17 w N a b c bs A1 A2 A3 A4 n1 c1 n2 c2 n3 c3 nl c4 wd _ _ _ _ _ _ _ _ _ _ _ _ _ _ _ _ _ _ _ _ _ _ _ _ _ _ _ _ _ _ _ _ _ _ _ _ _ _ _ _ _ _ _ _ _ _ _ _ _ _ _ _ _ _ _ _ _ _ _ _ _ _ _ _ _ _ _ _ _ _ _ _ _ _ _ _ _ _ _ _ _ _ _ _ _ _ _ _ _ _ _ _ _ _ _ _ _ _ _ _ _ _ _ _ _ _ _ _ _ _ _ _ _ _ _ _ _ _ _ _ _ _ _ _ _ _ _ _ _ _ _ _ _ _ _ _ _ _ _ _ _ _ _ _ _ _ _ _ _ _ _ _ _ _ _ _ _ _ _ _ _ _ _ _ _ _ _ _ _ _ _ _ _ _ _ _ HMA HMB m Am nm cm HM p q Ap Aq np cp nq cq HP HQQ HMS HN HS _ (by kernel_rfl) _ ?_)
                          intro v154 v155 v156 v157 v158 v159 v160 v161 v162 v163 v164 v165 v166 v167 v168 v169 v170 v171 v172 v173 v174 v175 v176 v177 v178 v179 v180 v181 v182 v183 w' hB
                          go_wp2_with fail
                          go_meet
                          exact ⟨rfl, Lib.hid hB⟩
                        case rest =>
                          obtain ⟨rfl, hB⟩ := hcut
                          replace HS := Lib.hid (HS.out.below HN.out hB.out)
                          go_wp2_with fail
                          go_ret
                          exact ⟨rfl, by have h := HS.out.Z; rw [← HN.out] at h; exact h⟩


end Go.Proofs.Ytgegaipkfpdocaa
