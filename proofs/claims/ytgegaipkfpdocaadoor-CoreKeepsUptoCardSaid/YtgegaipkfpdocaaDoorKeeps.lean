/-
  THE WALK OF CoreKeeps. Printed by gen_keeps.py.
-/
import Derived.Test.YtgegaipkfpdocaaDoorKeepsQ
import Derived.Test.YtgegaipkfpdocaaDoorLow
import Derived.Test.YtgegaipkfpdocaaDoorLvs
import Derived.Test.YtgegaipkfpdocaaDoorLevR
import Derived.Test.YtgegaipkfpdocaaDoorCoreI
import Derived.Deep.CutBlock
namespace Go.Proofs.YtgegaipkfpdocaaDoor
open Go.RowKit
set_option linter.unusedSimpArgs false
set_option linter.unusedVariables false
set_option maxRecDepth 100000

/-- What stands at a point of CoreKeeps. -/
structure KSt (w : World) (N : Nat) (cs : List Int) (t : Tm) (bys : List Tm) (bs : List Lv) (cv vl vk vb vv : Value) (W : World) : Prop where
  q0 : W.cell? ⟨N, 0, none⟩ = some (.int .i64 t.kind)
  q1 : W.cell? ⟨N, 1, none⟩ = some (.int .i64 t.num)
  q2 : W.cell? ⟨N, 2, none⟩ = some (.int .i64 t.atN)
  q3 : W.cell? ⟨N, 3, none⟩ = some vl
  q4 : W.cell? ⟨N, 4, none⟩ = some vk
  K : Kinds W
  T : RT W t vl vk
  C : RIv W cs cv
  B : RKv W bys vb
  L : RLv W bs vv
  Z : Below N w W
theorem KSt.below {w : World} {N : Nat} {cs : List Int} {t : Tm} {bys : List Tm} {bs : List Lv} {cv vl vk vb vv : Value} {W W' : World} (h : KSt w N cs t bys bs cv vl vk vb vv W) (hN : w.heap.size = N) (hb : Below W.heap.size W W') : KSt w N cs t bys bs cv vl vk vb vv W' :=
  ⟨cell_below hb h.q0, cell_below hb h.q1, cell_below hb h.q2, cell_below hb h.q3, cell_below hb h.q4, h.K.below hb, h.T.below hb, h.C.below hb, h.B.below hb, h.L.below hb, by have := h.Z; subst hN; exact below_ch this hb⟩
/-- What CoreKeeps asks ahead. -/
structure KeepsOk (n s l : Int) (cs : List Int) (t : Tm) (bys : List Tm) : Prop where
  l0 : 0 ≤ l
  l1 : l ≤ 1000
  n0 : 0 ≤ n
  s0 : 0 ≤ s
  s1 : s ≤ 1000
  ok : coreB n cs s t = true
  sz : size t ≤ 1048576
  sb : sizeL bys ≤ 1048576
  gt : ranged t
  gb : rangedL bys
theorem small_snoc {bs : List Lv} {l : Lv} (h : SmallBy bs) (h1 : lvRight 8 l = true) (h2 : lowLv l = true) : SmallBy (bs ++ [l]) := fun x hx => by
  rcases List.mem_append.1 hx with hx | hx
  · exact h x hx
  · obtain rfl := List.mem_singleton.1 hx
    exact ⟨h1, h2⟩
theorem KeepsOk.lifted {n s l : Int} {cs : List Int} {t : Tm} {bys : List Tm} (h : KeepsOk n s l cs t bys) (f : Int) : coreB n cs (s + l) (lift l f 0 t) = true :=
  core_lift h.l0 s 0 t (by have := h.l1; have := h.s1; have := h.sz; omega) h.ok
theorem KeepsOk.put {n s l : Int} {cs : List Int} {t : Tm} {bys : List Tm} (h : KeepsOk n s l cs t bys) (h0 : (bys.length : Int) ≤ s) (hb : ∀ u ∈ bys, coreB n cs (s - bys.length) u = true) : coreB n cs (s - bys.length) (put bys 0 t) = true := by
  have := core_put (n := n) (cs := cs) bys s 1048576 h0 (fun u hu => ⟨hb u hu, by
    obtain ⟨i, hi⟩ := List.mem_iff_getElem?.1 hu
    have := size_at hi
    have := h.sb
    omega⟩) 0 (Int.le_refl _) t (by have := h.s1; have := h.sz; omega) (by rw [Int.add_zero]; exact h.ok)
  rwa [Int.add_zero] at this

theorem KeepsOk.put_size {n s l : Int} {cs : List Int} {t : Tm} {bys : List Tm} (h : KeepsOk n s l cs t bys) : size (Go.Proofs.YtgegaipkfpdocaaDoor.put bys 0 t) ≤ 1099512676352 :=
  Nat.le_trans (put_fits bys 0 (Int.le_refl _) t).1 (Nat.le_trans (Nat.mul_le_mul h.sz (Nat.succ_le_succ h.sb)) (by decide))


set_option maxHeartbeats 32000000 in
theorem keeps_any (n s l f : Int) (t : Tm) (cs : List Int) (bys : List Tm) (bs : List Lv) (cv tl tk vb vv : Value) (w : World) (hK : Kinds w) (ht : RT w t tl tk) (hcs : RIv w cs cv) (hby : RKv w bys vb) (hbs : RLv w bs vv) (hsz : size t ≤ 1048576) (hsb : sizeL bys ≤ 1048576) (hgt : ranged t) (hgb : rangedL bys) :
    Calls Tryd.prog 3 #[.int .i64 n, .int .i64 s, cv, .agg #[.int .i64 t.kind, .int .i64 t.num, .int .i64 t.atN, tl, tk], vb, .int .i64 l, .int .i64 f, vv] w fun e w' => e = .returned (.bool true) ∧ Below w.heap.size w w' := by
  obtain ⟨A1, n1, c1, A2, n2, c2, rfl, rfl⟩ := ht.forms
  obtain ⟨Ac, cc, rfl, hc1, hc2⟩ : ∃ A c, cv = .slice A cs.length c ∧ cs.length ≤ c ∧ True := by obtain ⟨A, c, e, h, _⟩ := hcs; exact ⟨A, c, e, h, trivial⟩
  obtain ⟨A3, c3, rfl, -⟩ : ∃ A c, vb = .slice A bys.length c ∧ True := by obtain ⟨A, c, e, _⟩ := hby; exact ⟨A, c, e, trivial⟩
  obtain ⟨A4, c4, rfl, -⟩ : ∃ A c, vv = .slice A bs.length c ∧ True := by obtain ⟨A, c, e, _⟩ := hbs; exact ⟨A, c, e, trivial⟩
  have hdep : depthL [t] ≤ 1000000000 := by have := depthL_size [t]; simp only [sizeL] at this; omega
  have hdeb : depthL bys ≤ 1000000000 := by have := depthL_size bys; omega
  have hnbs : bys.length ≤ 1048576 := Nat.le_trans (length_sizeL bys) hsb
  have hnls : bs.length ≤ 9223372036854775807 := by obtain ⟨A, c, e, h1, h2, _⟩ := hbs; omega
  generalize hnb : bys.length = nb at *
  generalize hnl : bs.length = nl at *
  have HNB := Lib.hid hnb
  have HNL := Lib.hid hnl
  clear hnb hnl
  go_enter Tryd.func3, Tryd.ntmps3
  go_wp2_with fail
  generalize hw0 : w.alloc (.cells #[.int .i64 t.kind, .int .i64 t.num, .int .i64 t.atN, .slice A1 n1 c1, .slice A2 n2 c2] 27) = w0
  have B0 : Box w0 w.heap.size [.int .i64 t.kind, .int .i64 t.num, .int .i64 t.atN, .slice A1 n1 c1, .slice A2 n2 c2] := by rw [← hw0]; exact Box.new w [_, _, _, _, _] _
  have hb0 : Below w.heap.size w w0 := by rw [← hw0]; exact (Below.refl _ _).alloc (Nat.le_refl _) _
  clear hw0
  refine (awake5_any w0 (hK.below hb0)).mono ?_
  rintro e w1 ⟨rfl, hb1⟩
  have hbb : Below w.heap.size w w1 := below_ch hb0 hb1
  have B1 := B0.below hb1
  obtain ⟨q0, q1, q2, q3, q4⟩ := B1.five
  have HS1 : Hid (KSt w w.heap.size cs t bys bs (.slice Ac cs.length cc) (.slice A1 n1 c1) (.slice A2 n2 c2) (.slice A3 nb c3) (.slice A4 nl c4) w1) := Lib.hid ⟨q0, q1, q2, q3, q4, hK.below hbb, ht.below hbb, hcs.below hbb, hby.below hbb, hbs.below hbb, hbb⟩
  clear B0 hb0 hb1 B1 hK ht hcs hby hbs hbb
  generalize hNN : w.heap.size = N at *
  have HN := Lib.hid hNN
  clear hNN
  go_wp2_with fail
  have hb2 : Below w1.heap.size w1 (w1.alloc (.cells #[.int .i64 t.kind, .int .i64 t.num, .int .i64 t.atN, .slice A1 n1 c1, .slice A2 n2 c2] 27)) := (Below.refl _ _).alloc (Nat.le_refl _) _
  refine (great5_any [t] _ _ (RKv_one (Box.new _ [_, _, _, _, _] _) (RT.below hb2 HS1.out.T) 1 (Nat.le_refl _)) hdep).mono ?_
  rintro e w2 ⟨⟨G, rfl⟩, hb3⟩
  have HS2 := Lib.hid (HS1.out.below HN.out (below_ch hb2 hb3))
  clear hb2 hb3 HS1 q0 q1 q2 q3 q4
  cases G
  case true =>
    go_wp2_with fail
    go_ret
    exact ⟨rfl, by have h := HS2.out.Z; rw [← HN.out] at h; exact h⟩
  case false =>
    have hgr := great5_any bys _ w2 HS2.out.B hdeb
    go_wp2_with fail
    refine hgr.mono ?_
    rintro e w3 ⟨⟨G, rfl⟩, hb3⟩
    have HS3 := Lib.hid (HS2.out.below HN.out hb3)
    clear hb3 HS2 hgr
    cases G
    case true =>
      go_wp2_with fail
      go_ret
      exact ⟨rfl, by have h := HS3.out.Z; rw [← HN.out] at h; exact h⟩
    case false =>
      by_cases g0 : (3000 : Int) < (cs.length : Int)
      · go_wp2_with fail
        go_ret
        exact ⟨rfl, by have h := HS3.out.Z; rw [← HN.out] at h; exact h⟩
      by_cases g1 : (20 : Int) < (nl : Int)
      · go_wp2_with fail
        go_ret
        exact ⟨rfl, by have h := HS3.out.Z; rw [← HN.out] at h; exact h⟩
      by_cases g2 : 1000 < s
      · go_wp2_with fail
        go_ret
        exact ⟨rfl, by have h := HS3.out.Z; rw [← HN.out] at h; exact h⟩
      by_cases g3 : l < 0
      · go_wp2_with fail
        go_ret
        exact ⟨rfl, by have h := HS3.out.Z; rw [← HN.out] at h; exact h⟩
      by_cases g4 : 1000 < l
      · go_wp2_with fail
        go_ret
        exact ⟨rfl, by have h := HS3.out.Z; rw [← HN.out] at h; exact h⟩
      have hright := right_core n s cs t _ _ _ w3 HS3.out.K HS3.out.T HS3.out.C (by omega)
      obtain ⟨q0, q1, q2, q3, q4⟩ : _ ∧ _ ∧ _ ∧ _ ∧ _ := ⟨HS3.out.q0, HS3.out.q1, HS3.out.q2, HS3.out.q3, HS3.out.q4⟩
      generalize hR : (decide (0 ≤ n ∧ 0 ≤ s) && coreB n cs s t) = R at *
      have HR := Lib.hid hR
      clear hR
      go_wp2_with fail
      refine hright.mono ?_
      rintro e w4 ⟨rfl, hb5⟩
      have HS4 := Lib.hid (HS3.out.below HN.out hb5)
      clear hright hb5 HS3 q0 q1 q2 q3 q4
      cases R
      case false =>
        go_wp2_with fail
        go_ret
        exact ⟨rfl, by have h := HS4.out.Z; rw [← HN.out] at h; exact h⟩
      case true =>
        have hok : KeepsOk n s l cs t bys := by
          have h := HR.out
          simp only [Bool.and_eq_true, decide_eq_true_eq] at h
          exact ⟨by omega, by omega, h.1.1, h.1.2, by omega, h.2, hsz, hsb, hgt, hgb⟩
        have HOK := Lib.hid hok
        clear hok HR hgt hgb hdep hdeb
        go_upto_region 5 with fail
        go_cut [75] from 22 (fun v wr => v = .bool false ∧ Hid (KSt w N cs t bys bs (.slice Ac cs.length cc) (.slice A1 n1 c1) (.slice A2 n2 c2) (.slice A3 nb c3) (.slice A4 nl c4) wr))
        case first =>
          by_cases hf : 0 ≤ f
          · skip
            obtain ⟨q0, q1, q2, q3, q4⟩ : _ ∧ _ ∧ _ ∧ _ ∧ _ := ⟨HS4.out.q0, HS4.out.q1, HS4.out.q2, HS4.out.q3, HS4.out.q4⟩
            have hlift := lift_any l f t _ _ w4 HS4.out.K HS4.out.T HOK.out.gt (by omega)
            have hwr : IntKind.i64.wrap (s + l) = s + l := by have h := HOK.out; have := h.l0; have := h.l1; have := h.s0; have := h.s1; exact IntWalk.i64_in _ (by omega)
            go_wp2_with fail
            refine hlift.mono ?_
            intro e w5 hmade
            obtain ⟨A5, n5, c5, A6, n6, c6, rfl, hru, hbd⟩ := hmade.gives
            have HS5 := Lib.hid (HS4.out.below HN.out hbd)
            have hcall := right_core n (s + l) cs (lift l f 0 t) _ _ _ w5 HS5.out.K hru HS5.out.C (by rw [(lift_fits l f 0 t).1]; omega)
            rw [HOK.out.lifted f, decide_eq_true ⟨HOK.out.n0, by have := HOK.out.s0; have := HOK.out.l0; omega⟩] at hcall
            generalize lift l f 0 t = U at *
            clear hlift hmade hru hbd q0 q1 q2 q3 q4 HS4
            go_wp2_with fail
            refine hcall.mono ?_
            rintro e w6 ⟨rfl, hb6⟩
            have HS := Lib.hid (HS5.out.below HN.out hb6)
            clear hcall hb6 HS5
            go_wp2_with fail
            go_meet
            exact ⟨rfl, HS⟩
          · go_wp2_with fail
            go_meet
            exact ⟨rfl, HS4⟩
        case rest =>
          obtain ⟨rfl, HS⟩ := hcut
          clear HS4
          obtain ⟨wa, rfl⟩ : ∃ wa : World, wa = wc := ⟨_, rfl⟩
          go_upto_block 0 with fail
          go_cut [17] from 22 (fun v wr => ∃ b : Bool, v = .bool b ∧ Hid (b = true → (nb : Int) ≤ s ∧ ∀ u ∈ bys, coreB n cs (s - nb) u = true) ∧ Hid (KSt w N cs t bys bs (.slice Ac cs.length cc) (.slice A1 n1 c1) (.slice A2 n2 c2) (.slice A3 nb c3) (.slice A4 nl c4) wr))
          case first =>
            go_wp2_with fail
            go_loopw [17, 18] (fun ok i wr => ∃ (j : Nat) (b : Bool), j ≤ nb ∧ i = .int .i64 j ∧ ok = .bool b ∧ Hid (b = true → (nb : Int) ≤ s ∧ ∀ u ∈ bys.take j, coreB n cs (s - nb) u = true) ∧ Hid (KSt w N cs t bys bs (.slice Ac cs.length cc) (.slice A1 n1 c1) (.slice A2 n2 c2) (.slice A3 nb c3) (.slice A4 nl c4) wr)) (fun _ i _ => nb - (RowKit.intOf i).toNat)
            case atStart => exact ⟨0, decide ((nb : Int) ≤ s), Nat.zero_le _, rfl, rfl, Lib.hid fun h => ⟨of_decide_eq_true h, fun x hx => by simp at hx⟩, HS⟩
            case round =>
              obtain ⟨j, b, hj, rfl, rfl, HB, HSr⟩ := hrel
              obtain ⟨wc, rfl⟩ : ∃ wc : World, wc = wr := ⟨_, rfl⟩
              clear HS
              have HS := HSr
              clear HSr
              have hj0 : (0 : Int) ≤ (j : Int) := by omega
              by_cases hlt : (j : Int) < (nb : Int)
              · cases b
                case false =>
                  go_wp2_with fail
                  go_meet
                  exact ⟨false, rfl, Lib.hid (fun h => by cases h), HS⟩
                case true =>
                  obtain ⟨A5, c5, e5, -, -, hcp⟩ := HS.out.B
                  injection e5 with e5 e5a e5b
                  subst e5
                  clear e5a e5b
                  obtain ⟨b5, o5, rfl, hcq⟩ := hcp (by have := HNB.out; omega)
                  clear hcp
                  obtain ⟨u, hu⟩ : ∃ u, bys[j]? = some u := ⟨_, List.getElem?_eq_getElem (by have := HNB.out; omega)⟩
                  obtain ⟨ul, uk, x0, x1, x2, x3, x4, hru⟩ := hcq.get hu
                  have HT := Lib.hid hu
                  have hns : (nb : Int) ≤ s := (HB.out (by first | rfl | trivial)).1
                  have hs1 := HOK.out.s1
                  have hs0 := HOK.out.s0
                  have hcall := right_core n (s - nb) cs u _ _ _ wc HS.out.K hru HS.out.C (by have := size_at hu; have := HOK.out.sb; omega)
                  obtain ⟨A6, n6, c6, A7, n7, c7, rfl, rfl⟩ := hru.forms
                  have hwr : IntKind.i64.wrap (s - nb) = s - nb := IntWalk.i64_in _ (by omega)
                  generalize hRR : (decide (0 ≤ n ∧ 0 ≤ s - (nb : Int)) && coreB n cs (s - nb) u) = RR at *
                  have HRR := Lib.hid hRR
                  have HNEW : Hid (RR = true → (nb : Int) ≤ s ∧ ∀ u ∈ bys.take (j + 1), coreB n cs (s - nb) u = true) := Lib.hid (by
                    intro hv
                    have h := HB.out (by first | rfl | trivial)
                    have h1 := HRR.out.trans hv
                    rw [Bool.and_eq_true] at h1
                    rw [take_one HT.out]
                    refine ⟨h.1, fun y hy => ?_⟩
                    rcases List.mem_append.1 hy with hy | hy
                    · exact h.2 y hy
                    · obtain rfl := List.mem_singleton.1 hy
                      exact h1.2)
                  clear hcq hu hRR hru hns
                  go_wp2_with fail
                  refine hcall.mono ?_
                  rintro e we ⟨rfl, hbe⟩
                  have HS3 := Lib.hid (HS.out.below HN.out hbe)
                  clear hcall hbe
                  go_wp2_with fail
                  go_roundw
                  case rel => exact ⟨j + 1, RR, by omega, by go_num, rfl, HNEW, HS3⟩
                  case measure => simp [RowKit.intOf]; omega
              · obtain rfl : j = nb := by omega
                have hall : bys.take j = bys := List.take_of_length_le (by have := HNB.out; omega)
                rw [hall] at HB
                clear hall
                go_wp2_with fail
                go_meet
                exact ⟨b, rfl, HB, HS⟩
          case rest =>
            obtain ⟨b, rfl, HB, HS2⟩ := hcut
            clear HS
            have HS := HS2
            clear HS2
            go_upto_region 12 with fail
            go_cut [113] from 22 (fun v wr => v = .bool false ∧ Hid (KSt w N cs t bys bs (.slice Ac cs.length cc) (.slice A1 n1 c1) (.slice A2 n2 c2) (.slice A3 nb c3) (.slice A4 nl c4) wr))
            case first =>
              cases b
              case false =>
                go_wp2_with fail
                go_meet
                exact ⟨rfl, HS⟩
              case true =>
                have hns : (nb : Int) ≤ s := (HB.out (by first | rfl | trivial)).1
                have hs1 := HOK.out.s1
                have hs0 := HOK.out.s0
                have hwr : IntKind.i64.wrap (s - nb) = s - nb := IntWalk.i64_in _ (by omega)
                obtain ⟨q0, q1, q2, q3, q4⟩ : _ ∧ _ ∧ _ ∧ _ ∧ _ := ⟨HS.out.q0, HS.out.q1, HS.out.q2, HS.out.q3, HS.out.q4⟩
                have hput := put_any bys _ t _ _ wc HS.out.K HS.out.T HOK.out.gt (by have := HOK.out.sz; omega) HS.out.B HOK.out.gb (by have := HOK.out.sb; omega)
                have hcb : coreB n cs (s - nb) (put bys 0 t) = true := by
                  have := HOK.out.put (by rw [HNB.out]; exact hns) (by rw [HNB.out]; exact (HB.out (by first | rfl | trivial)).2)
                  rwa [HNB.out] at this
                have hps := HOK.out.put_size
                have HNS := Lib.hid hns
                clear hns
                go_wp2_with fail
                refine hput.mono ?_
                intro e wd hmade
                obtain ⟨A5, n5, c5, A6, n6, c6, rfl, hru, hbd⟩ := hmade.gives
                have HS3 := Lib.hid (HS.out.below HN.out hbd)
                have hcall := right_core n (s - nb) cs (put bys 0 t) _ _ _ wd HS3.out.K hru HS3.out.C (by omega)
                rw [hcb, decide_eq_true ⟨HOK.out.n0, by have := HNS.out; omega⟩] at hcall
                generalize put bys 0 t = U at *
                clear hput hmade hru hbd q0 q1 q2 q3 q4 HS HB hps hcb
                go_wp2_with fail
                refine hcall.mono ?_
                rintro e we ⟨rfl, hbe⟩
                have HS := Lib.hid (HS3.out.below HN.out hbe)
                clear hcall hbe HS3
                go_wp2_with fail
                go_meet
                exact ⟨rfl, HS⟩
            case rest =>
              obtain ⟨rfl, HS2⟩ := hcut
              clear HS HB
              have HS := HS2
              clear HS2
              go_upto_region 14 with fail
              go_cut [19] from 22 (fun v wr => ∃ b : Bool, v = .bool b ∧ Hid (b = true → lowB t = true) ∧ Hid (KSt w N cs t bys bs (.slice Ac cs.length cc) (.slice A1 n1 c1) (.slice A2 n2 c2) (.slice A3 nb c3) (.slice A4 nl c4) wr))
              case first =>
                by_cases hmany : n ≤ (nl : Int)
                · have hlow := low_any t _ _ wc HS.out.T
                  obtain ⟨q0, q1, q2, q3, q4⟩ : _ ∧ _ ∧ _ ∧ _ ∧ _ := ⟨HS.out.q0, HS.out.q1, HS.out.q2, HS.out.q3, HS.out.q4⟩
                  generalize hLOW : lowB t = LB at *
                  go_wp2_with fail
                  refine hlow.mono ?_
                  rintro e wd ⟨rfl, hbd⟩
                  have HS2 := Lib.hid (HS.out.below HN.out hbd)
                  go_wp2_with fail
                  go_meet
                  exact ⟨LB, rfl, Lib.hid fun h => h, HS2⟩
                · go_wp2_with fail
                  go_meet
                  exact ⟨false, rfl, Lib.hid fun h => (by cases h), HS⟩
              case rest =>
                obtain ⟨LB, rfl, HLB, HS2⟩ := hcut
                clear HS
                go_wp2_with fail
                go_loopw [19, 20, 21] (fun ok i _ wr => ∃ (j : Nat) (b : Bool), j ≤ nl ∧ i = .int .i64 j ∧ ok = .bool b ∧ Hid (b = true → LB = true ∧ SmallBy (bs.take j)) ∧ Hid (KSt w N cs t bys bs (.slice Ac cs.length cc) (.slice A1 n1 c1) (.slice A2 n2 c2) (.slice A3 nb c3) (.slice A4 nl c4) wr)) (fun _ i _ _ => nl - (RowKit.intOf i).toNat)
                case atStart => exact ⟨0, LB, Nat.zero_le _, rfl, rfl, Lib.hid fun h => ⟨h, fun x hx => by simp at hx⟩, HS2⟩
                case round =>
                  obtain ⟨j, b, hj, rfl, rfl, HB, HSr⟩ := hrel
                  obtain ⟨wo, rfl⟩ : ∃ wo : World, wo = wr := ⟨_, rfl⟩
                  have hj0 : (0 : Int) ≤ (j : Int) := by omega
                  by_cases hlt : j < nl
                  · cases b
                    case false =>
                      have hlt' : (j : Int) < (nl : Int) := by omega
                      go_wp2_with fail
                      go_ret
                      exact ⟨rfl, by have h := HSr.out.Z; rw [← HN.out] at h; exact h⟩
                    case true =>
                      have hlt' : (j : Int) < (nl : Int) := by omega
                      obtain ⟨A5, c5, e5, -, -, hcp⟩ := HSr.out.L
                      injection e5 with e5 e5a e5b
                      subst e5
                      clear e5a e5b
                      obtain ⟨b5, o5, rfl, hcq⟩ := hcp (by have := HNL.out; omega)
                      clear hcp
                      obtain ⟨lv, hl⟩ : ∃ lv, bs[j]? = some lv := ⟨_, List.getElem?_eq_getElem (by have := HNL.out; omega)⟩
                      obtain ⟨x, hcx, hpx⟩ := hcq.get hl
                      have HP := Lib.hid hpx
                      have hcall := lright_any 8 lv x wo hpx
                      obtain ⟨Ax, cx, rfl, hcx1, hcx2, -⟩ := hpx
                      generalize hnp : lv.length = np at *
                      have HNP := Lib.hid hnp
                      have HT := Lib.hid hl
                      generalize hRR : lvRight 8 lv = RR at *
                      have HRR := Lib.hid hRR
                      clear hcq hl hnp hRR
                      go_wp2_with fail
                      refine hcall.mono ?_
                      rintro e we ⟨rfl, hbe⟩
                      have HS3 := Lib.hid (HSr.out.below HN.out hbe)
                      have HP3 := Lib.hid (HP.out.below hbe)
                      have hcx3 := cell_below hbe hcx
                      clear hcall hbe hcx HP
                      go_wp2_with fail
                      go_loopw [19, 21] (fun ok i wr => ∃ (e : Nat) (b : Bool), e ≤ np ∧ i = .int .i64 e ∧ ok = .bool b ∧ Hid (b = true → RR = true ∧ lowLv (lv.take e) = true) ∧ wr = we) (fun _ i _ => np - (RowKit.intOf i).toNat)
                      case atStart => exact ⟨0, RR, Nat.zero_le _, rfl, rfl, Lib.hid fun h => ⟨h, rfl⟩, rfl⟩
                      case round =>
                        obtain ⟨e, b, he, rfl, rfl, HE, rfl⟩ := hrel
                        have he0 : (0 : Int) ≤ (e : Int) := by omega
                        by_cases hlt2 : e < np
                        · have hlt2' : (e : Int) < (np : Int) := by omega
                          cases b
                          case false =>
                            go_wp2_with fail
                            go_roundw
                            case rel => exact ⟨e + 1, false, by omega, by go_num, rfl, Lib.hid (fun h => by cases h), by first | rfl | trivial⟩
                            case measure => simp [RowKit.intOf]; omega
                          case true =>
                            obtain ⟨A6, c6, e6, -, -, hcp⟩ := HP3.out
                            injection e6 with e6 e6a e6b
                            subst e6
                            clear e6a e6b
                            obtain ⟨b2, o2, rfl, hcr⟩ := hcp (by have := HNP.out; omega)
                            clear hcp
                            obtain ⟨⟨u, v⟩, hpk⟩ : ∃ p, lv[e]? = some p := ⟨_, List.getElem?_eq_getElem (by have := HNP.out; omega)⟩
                            obtain ⟨-, p2⟩ := hcr.get hpk
                            simp only at p2
                            have HPK := Lib.hid hpk
                            clear hcr hpk
                            go_wp2_with fail
                            go_roundw
                            case rel => exact ⟨e + 1, decide (v ≤ 400), by omega, by go_num, rfl, Lib.hid (by
                              intro hv
                              have h := HE.out rfl
                              rw [take_one HPK.out]
                              refine ⟨h.1, ?_⟩
                              have h2 := h.2
                              simp only [lowLv, List.all_append, Bool.and_eq_true] at h2 ⊢
                              exact ⟨h2, by simpa using hv⟩), by first | rfl | trivial⟩
                            case measure => simp [RowKit.intOf]; omega
                        · obtain rfl : e = np := by omega
                          have hall : lv.take e = lv := List.take_of_length_le (by have := HNP.out; omega)
                          rw [hall] at HE
                          clear hall
                          go_wp2_with fail
                          go_roundw
                          case rel => exact ⟨j + 1, b, by omega, by go_num, rfl, Lib.hid (by
                            intro hv
                            have h := HE.out hv
                            have h1 := HB.out (by first | rfl | trivial)
                            rw [take_one HT.out]
                            exact ⟨h1.1, small_snoc h1.2 (HRR.out.trans h.1) h.2⟩), HS3⟩
                          case measure => simp [RowKit.intOf]; omega
                  · obtain rfl : j = nl := by omega
                    cases b
                    case false =>
                      go_wp2_with fail
                      go_ret
                      exact ⟨rfl, by have h := HSr.out.Z; rw [← HN.out] at h; exact h⟩
                    case true =>
                      have hall : bs.take j = bs := List.take_of_length_le (by have := HNL.out; omega)
                      rw [hall] at HB
                      obtain ⟨q0, q1, q2, q3, q4⟩ : _ ∧ _ ∧ _ ∧ _ ∧ _ := ⟨HSr.out.q0, HSr.out.q1, HSr.out.q2, HSr.out.q3, HSr.out.q4⟩
                      have hput := levels_any bs t _ _ _ wo HSr.out.K HSr.out.T HSr.out.L (by have := HOK.out.sz; omega)
                      clear hall
                      go_wp2_with fail
                      refine hput.mono ?_
                      intro e wd hmade
                      obtain ⟨A5, n5, c5, A6, n6, c6, rfl, hru, hbd⟩ := hmade.gives
                      have HS3 := Lib.hid (HSr.out.below HN.out hbd)
                      have hcall := right_core 8 s cs (lvsT bs 0 t) _ _ _ wd HS3.out.K hru HS3.out.C (by rw [lvs_size]; have := HOK.out.s1; have := HOK.out.sz; omega)
                      rw [core_lvs (HB.out (by first | rfl | trivial)).2 s 0 t (HLB.out (HB.out (by first | rfl | trivial)).1) HOK.out.ok, decide_eq_true ⟨by omega, HOK.out.s0⟩] at hcall
                      generalize lvsT bs 0 t = U at *
                      clear hput hmade hru hbd q0 q1 q2 q3 q4 HSr HB
                      go_wp2_with fail
                      refine hcall.mono ?_
                      rintro e we ⟨rfl, hbe⟩
                      have HS4 := Lib.hid (HS3.out.below HN.out hbe)
                      clear hcall hbe HS3
                      go_wp2_with fail
                      go_ret
                      exact ⟨rfl, by have h := HS4.out.Z; rw [← HN.out] at h; exact h⟩

end Go.Proofs.YtgegaipkfpdocaaDoor
