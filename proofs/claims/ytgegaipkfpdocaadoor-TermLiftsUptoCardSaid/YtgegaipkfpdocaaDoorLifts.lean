/-
  THE WALK OF TermLifts. Printed by gen_lifts.py.
-/
import Derived.Test.YtgegaipkfpdocaaDoorLiftsB
import Derived.Test.YtgegaipkfpdocaaDoorLiftsC
import Derived.Test.YtgegaipkfpdocaaDoorLiftsD
import Derived.Test.YtgegaipkfpdocaaDoorLiftsE
import Derived.Deep.CutBlock
import Derived.IntWalk
namespace Go.Proofs.YtgegaipkfpdocaaDoor
open Go.RowKit
set_option linter.unusedSimpArgs false
set_option linter.unusedVariables false
set_option maxRecDepth 100000

theorem RKv_three {w : World} {b : Nat} {t u a : Tm} {vl vk ul uk al ak : Value} (B : Box w b [.int .i64 t.kind, .int .i64 t.num, .int .i64 t.atN, vl, vk, .int .i64 u.kind, .int .i64 u.num, .int .i64 u.atN, ul, uk, .int .i64 a.kind, .int .i64 a.num, .int .i64 a.atN, al, ak]) (h : RT w t vl vk) (h' : RT w u ul uk) (h'' : RT w a al ak) (c : Nat) (hc : 3 ≤ c) :
    RKv w [t, u, a] (.slice (some ⟨b, 0, none⟩) 3 c) :=
  ⟨_, c, rfl, hc, by simp, fun _ => ⟨b, 0, rfl, by simp only [RK]; exact ⟨⟨vl, vk, B.cell rfl, B.cell rfl, B.cell rfl, B.cell rfl, B.cell rfl, h⟩, ⟨ul, uk, B.cell rfl, B.cell rfl, B.cell rfl, B.cell rfl, B.cell rfl, h'⟩, ⟨al, ak, B.cell rfl, B.cell rfl, B.cell rfl, B.cell rfl, B.cell rfl, h''⟩, trivial⟩⟩⟩

set_option maxHeartbeats 64000000 in
theorem termLifts_any (t u a : Tm) (n mm f : Int) (ls : List Lv) (tl tk ul uk al ak vl : Value) (w : World) (hK : Kinds w) (ht : RT w t tl tk) (hu : RT w u ul uk) (ha : RT w a al ak) (hL : RLv w ls vl) (gt : ranged t) (gu : ranged u) (ga : ranged a) (st : size t ≤ 1048576) (su : size u ≤ 1048576) (sa : size a ≤ 1048576) :
    Calls Tryd.prog 4 #[.agg #[.int .i64 t.kind, .int .i64 t.num, .int .i64 t.atN, tl, tk], .agg #[.int .i64 u.kind, .int .i64 u.num, .int .i64 u.atN, ul, uk], .agg #[.int .i64 a.kind, .int .i64 a.num, .int .i64 a.atN, al, ak], .int .i64 n, .int .i64 mm, .int .i64 f, vl] w fun e w' => e = .returned (.bool true) ∧ Below w.heap.size w w' := by
  obtain ⟨A1, n1, c1, A2, n2, c2, rfl, rfl⟩ := ht.forms
  obtain ⟨A3, n3, c3, A4, n4, c4, rfl, rfl⟩ := hu.forms
  obtain ⟨A5, n5, c5, A6, n6, c6, rfl, rfl⟩ := ha.forms
  obtain ⟨Al, cl, rfl, -⟩ : ∃ A c, vl = .slice A ls.length c ∧ True := by obtain ⟨A, c, e, _⟩ := hL; exact ⟨A, c, e, trivial⟩
  generalize hnl : ls.length = nl at *
  have HNL := Lib.hid hnl
  clear hnl
  have hdep : depthL [t, u, a] ≤ 1000000000 := by have := depthL_size [t, u, a]; simp only [sizeL] at this; omega
  obtain ⟨w0, hw0⟩ : ∃ w0, ((w.alloc (.cells #[.int .i64 t.kind, .int .i64 t.num, .int .i64 t.atN, (.slice A1 n1 c1), (.slice A2 n2 c2)] 27)).alloc (.cells #[.int .i64 u.kind, .int .i64 u.num, .int .i64 u.atN, (.slice A3 n3 c3), (.slice A4 n4 c4)] 27)).alloc (.cells #[.int .i64 a.kind, .int .i64 a.num, .int .i64 a.atN, (.slice A5 n5 c5), (.slice A6 n6 c6)] 27) = w0 := ⟨_, rfl⟩
  have hb0 : Below w.heap.size w w0 := by rw [← hw0]; exact (((Below.refl _ _).alloc (Nat.le_refl _) _).alloc (by simp) _).alloc (by simp; omega) _
  have B0 : Box w0 w.heap.size [.int .i64 t.kind, .int .i64 t.num, .int .i64 t.atN, (.slice A1 n1 c1), (.slice A2 n2 c2)] := by rw [← hw0]; exact ((Box.new w [_, _, _, _, _] _).alloc _).alloc _
  have B1 : Box w0 (w.heap.size + 1) [.int .i64 u.kind, .int .i64 u.num, .int .i64 u.atN, (.slice A3 n3 c3), (.slice A4 n4 c4)] := by rw [← hw0]; exact (Box.new' _ [_, _, _, _, _] _ (by simp)).alloc _
  have B2 : Box w0 (w.heap.size + 2) [.int .i64 a.kind, .int .i64 a.num, .int .i64 a.atN, (.slice A5 n5 c5), (.slice A6 n6 c6)] := by rw [← hw0]; exact Box.new' _ [_, _, _, _, _] _ (by simp)
  have HS0 : Hid (LSt w w.heap.size t u a ls (.slice A1 n1 c1) (.slice A2 n2 c2) (.slice A3 n3 c3) (.slice A4 n4 c4) (.slice A5 n5 c5) (.slice A6 n6 c6) (.slice Al nl cl) w0) := Lib.hid ⟨B0, B1, B2, ht.below hb0, hu.below hb0, ha.below hb0, hL.below hb0, hK.below hb0, hb0⟩
  have HGT := Lib.hid gt
  have HGU := Lib.hid gu
  have HGA := Lib.hid ga
  clear gt gu ga
  have haw := awake_any w0 (hK.below hb0)
  clear B0 B1 B2 ht hu ha hL hK hb0
  go_enter Tryd.func4, Tryd.ntmps4
  go_wp2_with fail
  refine haw.mono ?_
  rintro e w1 ⟨rfl, hb1⟩
  have HS1 := Lib.hid (HS0.out.below rfl hb1)
  clear haw hb1 HS0 hw0
  generalize hNN : w.heap.size = N at *
  have HN := Lib.hid hNN
  clear hNN
  obtain ⟨p0, p1, p2, p3, p4⟩ := HS1.out.bt.five
  obtain ⟨q0, q1, q2, q3, q4⟩ := HS1.out.bu.five
  obtain ⟨r0, r1, r2, r3, r4⟩ := HS1.out.ba.five
  have hba : Below w1.heap.size w1 (w1.alloc (.cells #[.int .i64 t.kind, .int .i64 t.num, .int .i64 t.atN, .slice A1 n1 c1, .slice A2 n2 c2, .int .i64 u.kind, .int .i64 u.num, .int .i64 u.atN, .slice A3 n3 c3, .slice A4 n4 c4, .int .i64 a.kind, .int .i64 a.num, .int .i64 a.atN, .slice A5 n5 c5, .slice A6 n6 c6] 27)) := (Below.refl _ _).alloc (Nat.le_refl _) _
  have hkv : RKv (w1.alloc (.cells #[.int .i64 t.kind, .int .i64 t.num, .int .i64 t.atN, .slice A1 n1 c1, .slice A2 n2 c2, .int .i64 u.kind, .int .i64 u.num, .int .i64 u.atN, .slice A3 n3 c3, .slice A4 n4 c4, .int .i64 a.kind, .int .i64 a.num, .int .i64 a.atN, .slice A5 n5 c5, .slice A6 n6 c6] 27)) [t, u, a] (.slice (some ⟨w1.heap.size, 0, none⟩) 3 3) := RKv_three (Box.new w1 [_, _, _, _, _, _, _, _, _, _, _, _, _, _, _] _) (HS1.out.T.below hba) (HS1.out.U.below hba) (HS1.out.A.below hba) 3 (Nat.le_refl _)
  have hg := great_any _ _ _ hkv hdep
  have HS2 := Lib.hid (HS1.out.below HN.out hba)
  generalize decide (600 < tmsOf 600 0 [t, u, a]) = G at *
  clear hkv hba
  go_wp2_with fail
  refine hg.mono ?_
  rintro e w2 ⟨rfl, hb2⟩
  have HS3 := Lib.hid (HS2.out.below HN.out hb2)
  clear hg hb2 HS1 HS2 p0 p1 p2 p3 p4 q0 q1 q2 q3 q4 r0 r1 r2 r3 r4
  cases G
  case true =>
    go_wp2_with fail
    go_ret
    exact ⟨rfl, by have h := HS3.out.Z; rw [← HN.out] at h; exact h⟩
  case false =>
    obtain ⟨p0, p1, p2, p3, p4⟩ := HS3.out.bt.five
    obtain ⟨q0, q1, q2, q3, q4⟩ := HS3.out.bu.five
    obtain ⟨r0, r1, r2, r3, r4⟩ := HS3.out.ba.five
    have hba : Below w2.heap.size w2 (w2.alloc (.cells #[.int .i64 t.kind, .int .i64 t.num, .int .i64 t.atN, .slice A1 n1 c1, .slice A2 n2 c2, .int .i64 u.kind, .int .i64 u.num, .int .i64 u.atN, .slice A3 n3 c3, .slice A4 n4 c4, .int .i64 a.kind, .int .i64 a.num, .int .i64 a.atN, .slice A5 n5 c5, .slice A6 n6 c6] 27)) := (Below.refl _ _).alloc (Nat.le_refl _) _
    have hkv : RKv (w2.alloc (.cells #[.int .i64 t.kind, .int .i64 t.num, .int .i64 t.atN, .slice A1 n1 c1, .slice A2 n2 c2, .int .i64 u.kind, .int .i64 u.num, .int .i64 u.atN, .slice A3 n3 c3, .slice A4 n4 c4, .int .i64 a.kind, .int .i64 a.num, .int .i64 a.atN, .slice A5 n5 c5, .slice A6 n6 c6] 27)) [t, u, a] (.slice (some ⟨w2.heap.size, 0, none⟩) 3 3) := RKv_three (Box.new w2 [_, _, _, _, _, _, _, _, _, _, _, _, _, _, _] _) (HS3.out.T.below hba) (HS3.out.U.below hba) (HS3.out.A.below hba) 3 (Nat.le_refl _)
    have hg := tame_any _ _ _ hkv
    have HS2 := Lib.hid (HS3.out.below HN.out hba)
    generalize hTL : tameL [t, u, a] = TL at *
    have htame0 : Hid (TL = true → tame t = true ∧ tame u = true ∧ tame a = true) := Lib.hid fun h => by
      rw [← hTL] at h
      simp only [tameL, Bool.and_eq_true] at h
      exact ⟨h.1, h.2.1, h.2.2.1⟩
    clear hkv hba hTL
    go_wp2_with fail
    refine hg.mono ?_
    rintro e w4 ⟨rfl, hb2⟩
    have HS4 := Lib.hid (HS2.out.below HN.out hb2)
    clear hg hb2 HS2 HS3 p0 p1 p2 p3 p4 q0 q1 q2 q3 q4 r0 r1 r2 r3 r4
    cases TL
    case false =>
      go_wp2_with fail
      go_ret
      exact ⟨rfl, by have h := HS4.out.Z; rw [← HN.out] at h; exact h⟩
    case true =>
      have htame := htame0.out rfl
      clear htame0
      by_cases g0 : n < 0
      · go_wp2_with fail
        go_ret
        exact ⟨rfl, by have h := HS4.out.Z; rw [← HN.out] at h; exact h⟩
      by_cases g1 : 1000 < n
      · go_wp2_with fail
        go_ret
        exact ⟨rfl, by have h := HS4.out.Z; rw [← HN.out] at h; exact h⟩
      by_cases g2 : mm < 0
      · go_wp2_with fail
        go_ret
        exact ⟨rfl, by have h := HS4.out.Z; rw [← HN.out] at h; exact h⟩
      by_cases g3 : 1000 < mm
      · go_wp2_with fail
        go_ret
        exact ⟨rfl, by have h := HS4.out.Z; rw [← HN.out] at h; exact h⟩
      by_cases g4 : f < 0
      · go_wp2_with fail
        go_ret
        exact ⟨rfl, by have h := HS4.out.Z; rw [← HN.out] at h; exact h⟩
      by_cases g5 : 1000 < f
      · go_wp2_with fail
        go_ret
        exact ⟨rfl, by have h := HS4.out.Z; rw [← HN.out] at h; exact h⟩
      by_cases g6 : (20 : Int) < (nl : Int)
      · go_wp2_with fail
        go_ret
        exact ⟨rfl, by have h := HS4.out.Z; rw [← HN.out] at h; exact h⟩
      have HTT := Lib.hid htame
      clear htame
      have HF := Lib.hid (lift_free (n := n) (f := f) (by omega) (by omega) 0 (Int.le_refl _) t HTT.out.1)
      have HTW := Lib.hid (lift_twice (n := n) (m := mm) (f := f) (by omega) (by omega) (by omega) 0 (Int.le_refl _) t HTT.out.1)
      have HFT := Lib.hid (lift_fits n f 0 t)
      obtain ⟨x, hx⟩ : ∃ x, mapT (liftStep n f) 0 t = x := ⟨_, rfl⟩
      have HX0 := Lib.hid hx
      have HF1 : Hid (freeB f (f + n) 0 x = false) := Lib.hid (by rw [← hx]; exact HF.out.1)
      have HF2 : Hid (freeB f 5000 0 t = freeB (f + n) 6000 0 x) := Lib.hid (by rw [← hx]; exact HF.out.2.1)
      have HF3 : Hid (freeB 0 f 0 t = freeB 0 f 0 x) := Lib.hid (by rw [← hx]; exact HF.out.2.2)
      have HY : Hid (mapT (liftStep mm f) 0 x = mapT (liftStep (n + mm) f) 0 t) := Lib.hid (by rw [← hx]; exact HTW.out)
      have HZX : Hid (size x = size t) := Lib.hid (by rw [← hx]; exact HFT.out.1)
      have HGX : Hid (ranged x) := Lib.hid (by rw [← hx]; exact HFT.out.2 HGT.out)
      clear HF HTW HFT hx
      go_upto_region 5 with fail
      go_cut [15] from 16 (fun v wr => ∃ m A7 n7 c7 A8 n8 c8, v = .pointer (some ⟨m, 0, none⟩) ∧ Hid (TmIn wr m x (.slice A7 n7 c7) (.slice A8 n8 c8)) ∧ Hid (LSt w N t u a ls (.slice A1 n1 c1) (.slice A2 n2 c2) (.slice A3 n3 c3) (.slice A4 n4 c4) (.slice A5 n5 c5) (.slice A6 n6 c6) (.slice Al nl cl) wr))
      case first =>
        obtain ⟨p0, p1, p2, p3, p4⟩ := HS4.out.bt.five
        have hl := lift_any n f t _ _ w4 HS4.out.K HS4.out.T HGT.out (by omega)
        rw [show lift n f 0 t = x from HX0.out] at hl
        go_wp2_with fail
        refine hl.mono ?_
        intro e w5 hmade
        obtain ⟨A7, n7, c7, A8, n8, c8, rfl, hru, hst⟩ := hmade.gives
        have HS5 := Lib.hid (HS4.out.below HN.out hst)
        have HRX := Lib.hid hru
        clear hmade hru hst hl p0 p1 p2 p3 p4
        go_wp2_with fail
        go_meet
        exact ⟨w5.heap.size, A7, n7, c7, A8, n8, c8, rfl, Lib.hid ⟨Box.new w5 [_, _, _, _, _] _, HRX.out.below ((Below.refl _ _).alloc (Nat.le_refl _) _)⟩, Lib.hid (HS5.out.below HN.out ((Below.refl _ _).alloc (Nat.le_refl _) _))⟩
      case rest =>
        obtain ⟨m, A7, n7, c7, A8, n8, c8, rfl, HX, HS⟩ := hcut
        clear HS4
        obtain ⟨wd, rfl⟩ : ∃ wd : World, wd = wc := ⟨_, rfl⟩
        go_upto_region 6 with fail
        go_cut [110] from 16 (fun v wr => v = .bool false ∧ Hid (Below wd.heap.size wd wr))
        case first =>
          refine wp_plainT (lifts6 w N t u a x ls A1 A2 A3 A4 A5 A6 A7 A8 Al n1 c1 n2 c2 n3 c3 n4 c4 n5 c5 n6 c6 n7 c7 n8 c8 nl cl n mm f m wd _ _ _ _ _ _ _ _ _ _ _ _ _ _ _ _ _ _ _ _ _ _ _ _ _ _ _ _ _ _ _ _ _ _ _ _ _ _ _ _ _ _ _ _ _ _ _ _ _ _ _ _ _ _ _ _ _ _ _ _ _ _ _ _ _ _ _ _ _ _ _ _ _ _ _ _ _ _ _ _ _ _ _ _ _ _ _ _ _ _ _ _ _ _ _ _ _ _ _ _ _ _ _ _ _ _ _ _ _ _ _ _ _ _ _ _ _ _ _ _ _ _ _ _ _ _ _ _ _ _ _ _ _ _ _ _ _ _ _ _ _ _ _ _ _ _ _ _ _ _ _ _ _ _ _ _ HN HS HX (mapT (liftStep (n + mm) f) 0 t) (size t) (freeB f 5000 0 t) (freeB 0 f 0 t) (IntWalk.i64_in _ (by omega)) (IntWalk.i64_in _ (by omega)) (Lib.hid fun W hK h => by have q := lift_any mm f x _ _ W hK h HGX.out (by have := HZX.out; omega); rw [show lift mm f 0 x = mapT (liftStep (n + mm) f) 0 t from HY.out] at q; exact q) (Lib.hid fun W hK h => lift_any (n + mm) f t _ _ W hK h HGT.out (by omega)) (Lib.hid fun W _ _ _ _ _ _ _ _ _ _ _ _ h1 h2 => (same_any _ _ _ _ _ _ W h1 h2).mono fun e w' ⟨r, hr, he, hb⟩ => ⟨by rw [he, hr.2 (rfl)], hb⟩) (Lib.hid fun W h => by have q := size_any x _ _ W h (by have := HZX.out; omega); rw [HZX.out] at q; exact q) (Lib.hid fun W h => size_any t _ _ W h (by omega)) (Lib.hid fun W hK h => by have q := free_any f (f + n) x _ _ W hK h HGX.out (by have := HZX.out; omega); rw [HF1.out] at q; exact q) (Lib.hid fun W hK h => free_any f 5000 t _ _ W hK h HGT.out (by omega)) (Lib.hid fun W hK h => by have q := free_any (f + n) 6000 x _ _ W hK h HGX.out (by have := HZX.out; omega); rw [← HF2.out] at q; exact q) (Lib.hid fun W hK h => free_any 0 f t _ _ W hK h HGT.out (by omega)) (Lib.hid fun W hK h => by have q := free_any 0 f x _ _ W hK h HGX.out (by have := HZX.out; omega); rw [← HF3.out] at q; exact q) _ (by kernel_rfl) _ ?_)
          intro v64 v65 v66 v67 v68 v69 v70 v71 v72 v73 v74 v75 v76 v77 v78 v79 v80 v81 v82 v83 v84 v85 v86 v87 v88 v89 v90 v91 v92 v93 v94 v95 v96 v97 v98 v99 v100 v101 v102 v103 v104 v105 v106 v107 v108 v109 w' hB
          go_wp2_with fail
          go_meet
          exact ⟨rfl, Lib.hid hB⟩
        case rest =>
          obtain ⟨rfl, hB⟩ := hcut
          replace HS := Lib.hid (HS.out.below HN.out hB.out)
          replace HX := Lib.hid (HX.out.below hB.out)
          clear hB wd
          obtain ⟨we, rfl⟩ : ∃ we : World, we = wc := ⟨_, rfl⟩
          have hsm := tsame_any t u _ _ _ _ we HS.out.T HS.out.U
          obtain ⟨p0, p1, p2, p3, p4⟩ := HS.out.bt.five
          obtain ⟨q0, q1, q2, q3, q4⟩ := HS.out.bu.five
          go_wp2_with fail
          refine hsm.mono ?_
          rintro e wd ⟨r, hr, rfl, hst⟩
          replace HS := Lib.hid (HS.out.below HN.out hst)
          replace HX := Lib.hid (HX.out.below hst)
          clear hsm hst p0 p1 p2 p3 p4 q0 q1 q2 q3 q4
          cases r
          case true =>
            have hc := hr.1 rfl
            have HC1 : Hid (canT x = canT (mapT (liftStep n f) 0 u)) := Lib.hid (by rw [← HX0.out, can_lift, can_lift, hc])
            have HC2 : Hid (canT (put [a] 0 t) = canT (put [a] 0 u)) := Lib.hid (by unfold put; rw [can_put, can_put, hc])
            have HC3 : Hid (canT (lvsT ls 0 t) = canT (lvsT ls 0 u)) := Lib.hid (by rw [← can_lvs ls 0 t, ← can_lvs ls 0 u, hc])
            have HC4 : Hid (size u = size t) := Lib.hid (by rw [← can_size u, ← can_size t, hc])
            clear hc hr
            go_upto_region 9 with fail
            go_cut [14] from 16 (fun v wr => v = .bool true ∧ Hid (Below wd.heap.size wd wr))
            case first =>
              refine wp_plainT (lifts9 w N t u a x ls A1 A2 A3 A4 A5 A6 A7 A8 Al n1 c1 n2 c2 n3 c3 n4 c4 n5 c5 n6 c6 n7 c7 n8 c8 nl cl n mm f m wd _ _ _ _ _ _ _ _ _ _ _ _ _ _ _ _ _ _ _ _ _ _ _ _ _ _ _ _ _ _ _ _ _ _ _ _ _ _ _ _ _ _ _ _ _ _ _ _ _ _ _ _ _ _ _ _ _ _ _ _ _ _ _ _ _ _ _ _ _ _ _ _ _ _ _ _ _ _ _ _ _ _ _ _ _ _ _ _ _ _ _ _ _ _ _ _ _ _ _ _ _ _ _ _ _ _ _ _ _ _ _ _ _ _ _ _ _ _ _ _ _ _ _ _ _ _ _ _ _ _ _ _ _ _ _ _ _ _ _ _ _ _ _ _ _ _ _ _ _ _ _ _ _ _ _ _ HN HS HX (mapT (liftStep n f) 0 u) (put [a] 0 t) (put [a] 0 u) (lvsT ls 0 t) (lvsT ls 0 u) (size t) (Lib.hid fun W hK h => lift_any n f u _ _ W hK h HGU.out (by omega)) (Lib.hid fun W _ _ _ _ _ _ _ _ _ _ _ _ h1 h2 => (tsame_any _ _ _ _ _ _ W h1 h2).mono fun e w' ⟨r, hr, he, hb⟩ => ⟨by rw [he, hr.2 (HC1.out)], hb⟩) (Lib.hid fun W v hK h hv => put_any [a] v t _ _ W hK h HGT.out (by omega) hv ⟨HGA.out, trivial⟩ (by simp only [sizeL]; omega)) (Lib.hid fun W v hK h hv => put_any [a] v u _ _ W hK h HGU.out (by omega) hv ⟨HGA.out, trivial⟩ (by simp only [sizeL]; omega)) (Lib.hid fun W _ _ _ _ _ _ _ _ _ _ _ _ h1 h2 => (tsame_any _ _ _ _ _ _ W h1 h2).mono fun e w' ⟨r, hr, he, hb⟩ => ⟨by rw [he, hr.2 (HC2.out)], hb⟩) (Lib.hid fun W hK h hl => levels_any ls t _ _ _ W hK h hl (by omega)) (Lib.hid fun W hK h hl => levels_any ls u _ _ _ W hK h hl (by omega)) (Lib.hid fun W _ _ _ _ _ _ _ _ _ _ _ _ h1 h2 => (tsame_any _ _ _ _ _ _ W h1 h2).mono fun e w' ⟨r, hr, he, hb⟩ => ⟨by rw [he, hr.2 (HC3.out)], hb⟩) (Lib.hid fun W h => size_any t _ _ W h (by omega)) (Lib.hid fun W h => by have q := size_any u _ _ W h (by omega); rw [HC4.out] at q; exact q) _ (by kernel_rfl) _ ?_)
              intro v114 v115 v116 v117 v118 v119 v120 v121 v122 v123 v124 v125 v126 v127 v128 v129 v130 v131 v132 v133 v134 v135 v136 v137 v138 v139 v140 v141 v142 v143 v144 v145 v146 w' hB
              go_wp2_with fail
              go_meet
              exact ⟨rfl, Lib.hid hB⟩
            case rest =>
              obtain ⟨rfl, hB⟩ := hcut
              replace HS := Lib.hid (HS.out.below HN.out hB.out)
              go_wp2_with fail
              go_ret
              exact ⟨rfl, by have h := HS.out.Z; rw [← HN.out] at h; exact h⟩
          case false =>
            have HNE : Hid (¬ t = u) := Lib.hid fun h => by have := hr.2 (by rw [h]); simp at this
            clear hr
            go_upto_region 10 with fail
            go_cut [14] from 16 (fun v wr => v = .bool true ∧ Hid (Below wd.heap.size wd wr))
            case first =>
              refine wp_plainT (lifts10 w N t u a x ls A1 A2 A3 A4 A5 A6 A7 A8 Al n1 c1 n2 c2 n3 c3 n4 c4 n5 c5 n6 c6 n7 c7 n8 c8 nl cl n mm f m wd _ _ _ _ _ _ _ _ _ _ _ _ _ _ _ _ _ _ _ _ _ _ _ _ _ _ _ _ _ _ _ _ _ _ _ _ _ _ _ _ _ _ _ _ _ _ _ _ _ _ _ _ _ _ _ _ _ _ _ _ _ _ _ _ _ _ _ _ _ _ _ _ _ _ _ _ _ _ _ _ _ _ _ _ _ _ _ _ _ _ _ _ _ _ _ _ _ _ _ _ _ _ _ _ _ _ _ _ _ _ _ _ _ _ _ _ _ _ _ _ _ _ _ _ _ _ _ _ _ _ _ _ _ _ _ _ _ _ _ _ _ _ _ _ _ _ _ _ _ _ _ _ _ _ _ _ HN HS HX (rightB (lvRight 9) t) (Lib.hid fun W _ _ _ _ _ _ _ _ _ _ _ _ h1 h2 => (tsame_any _ _ _ _ _ _ W h1 h2).mono fun e w' ⟨r, hr, he, hb⟩ => ⟨by rw [he, hr.2 (rfl)], hb⟩) (Lib.hid fun W _ _ _ _ _ _ _ _ _ _ _ _ h1 h2 => (same_any _ _ _ _ _ _ W h1 h2).mono fun e w' ⟨r, hr, he, hb⟩ => ⟨by rw [he, Bool.eq_false_iff.2 (fun h => HNE.out (hr.1 h))], hb⟩) (Lib.hid fun W hK h => by have q := lift_any 0 0 t _ _ W hK h HGT.out (by omega); rw [show lift 0 0 0 t = t from lift_none 0 t HGT.out] at q; exact q) (Lib.hid fun W _ _ _ _ _ _ hK h => rightT_any t _ _ W hK h) _ (by kernel_rfl) _ ?_)
              intro v147 v148 v149 v150 v151 v152 v153 v154 v155 v156 v157 v158 v159 v160 v161 v162 v163 w' hB
              go_wp2_with fail
              go_meet
              exact ⟨rfl, Lib.hid hB⟩
            case rest =>
              obtain ⟨rfl, hB⟩ := hcut
              replace HS := Lib.hid (HS.out.below HN.out hB.out)
              go_wp2_with fail
              go_ret
              exact ⟨rfl, by have h := HS.out.Z; rw [← HN.out] at h; exact h⟩

end Go.Proofs.YtgegaipkfpdocaaDoor
