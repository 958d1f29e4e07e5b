/-
  THE WALK OF CoreParts: its head.
-/
import Derived.Test.YtajpkhkfffdclaaDoorParts16
namespace Go.Proofs.YtajpkhkfffdclaaDoor
open Go.RowKit
set_option linter.unusedSimpArgs false
set_option linter.unusedVariables false

/-- What stands when CoreParts goes behind its guards. -/
structure PartsOk (n s more : Int) (cs : List Int) (t : Tm) : Prop where
  m0 : 0 ≤ more
  m1 : more ≤ 1000
  n0 : 0 ≤ n
  n1 : n ≤ 1000
  s0 : 0 ≤ s
  s1 : s ≤ 1000
  ok : coreB n cs s t = true

theorem RT.kv {w : World} {t : Tm} {vl vk : Value} (h : RT w t vl vk) : RKv w t.kids vk := by
  cases t
  exact ((RT_iff _ _ _ _ _ _ _ _).1 h).2
theorem core_kid {n s : Int} {cs : List Int} {t : Tm} (h : coreB n cs s t = true) (j : Nat) (x : Tm) (hx : t.kids[j]? = some x) : coreB n cs (inner t.kind j s) x = true := by
  cases t
  exact core_kids h j x hx
theorem news_below {w w1 : World} (hb : Below w.heap.size w w1) {v : Value} {m n : Nat} {news : List Value} (h : (v = .slice none 0 0 ∧ m = 0 ∧ news = []) ∨ ∃ ad c, v = .slice (some ad) m c ∧ news.length = n ∧ (∀ j u, news[j]? = some u → w.cell? (ad.add j) = some u) ∧ ∀ u ∈ news, u.oneCell' = true) :
    (v = .slice none 0 0 ∧ m = 0 ∧ news = []) ∨ ∃ ad c, v = .slice (some ad) m c ∧ news.length = n ∧ (∀ j u, news[j]? = some u → w1.cell? (ad.add j) = some u) ∧ ∀ u ∈ news, u.oneCell' = true := by
  rcases h with h | ⟨ad, c, e, h1, h2, h3⟩
  · exact .inl h
  · exact .inr ⟨ad, c, e, h1, fun j u hj => (hb.cell (World.block_lt_of_cell? w _ (h2 j u hj))).trans (h2 j u hj), h3⟩
theorem v5_lit (n : Int) (w : World) : Calls Tryd.prog 24 #[.int .i64 n] w fun e w' => ∃ A n1 c A' n' c', e = .returned (.agg #[.int .i64 1, .int .i64 n, .int .i64 0, .slice A n1 c, .slice A' n' c']) ∧ RT w' (.node 1 n 0 [] []) (.slice A n1 c) (.slice A' n' c') ∧ Below w.heap.size w w' := v5_any n w
theorem with_kids {w0 W : World} {t : Tm} {vl vk vk' : Value} {ks : List Tm} {k m a : Int} (ht : RT w0 t vl vk) (hb : Below w0.heap.size w0 W) (hk : RKv W ks vk') : RT W (.node k m a t.lvs ks) vl vk' := by
  cases t
  exact (RT_iff _ _ _ _ _ _ _ _).2 ⟨((RT_iff _ _ _ _ _ _ _ _).1 ht).1.below hb, hk⟩
theorem leafT_any {w w' : World} {k m a : Int} {vl vk : Value} (h : RT w (.node k m a [] []) vl vk) : RT w' (.node k m a [] []) vl vk := by
  obtain ⟨⟨A, c, e, h1, h2, _⟩, A', c', e', h1', h2', _⟩ := (RT_iff _ _ _ _ _ _ _ _).1 h
  exact (RT_iff _ _ _ _ _ _ _ _).2 ⟨⟨A, c, e, h1, h2, fun h => by simp at h⟩, A', c', e', h1', h2', fun h => by simp at h⟩
theorem news_leaf {W : World} {vl vk : Value} (h : RT W (.node 1 0 0 [] []) vl vk) : RXT W [.node 1 0 0 [] []] [.int .i64 1, .int .i64 0, .int .i64 0, vl, vk] := ⟨vl, vk, [], rfl, h, rfl⟩
theorem long_reads {w0 W w7 : World} {t : Tm} (hb : Below w0.heap.size w0 W) {news : List Value} (hn : RXT w0 t.kids news) {vl vk : Value} (hv : RT w7 (.node 1 0 0 [] []) vl vk) {B n : Nat} {v : Value}
    (hown : W.ownsRow B 26 5 v n (news ++ [.int .i64 1, .int .i64 0, .int .i64 0, vl, vk])) (hnn : n = t.kids.length + 1) (hm : t.kids.length ≤ 1048576) : RKv W (t.kids ++ [.node 1 0 0 [] []]) v :=
  RKv_row (by rw [hnn]; simp) hown (RXT.app (news_leaf (leafT_any hv)) (hn.below hb)) (by simp; omega)
theorem core_longer {n s : Int} {cs : List Int} {t : Tm} (h : coreB n cs s t = true) {ks : List Tm} (hl : ks.length ≠ t.kids.length) : coreB n cs s (.node t.kind t.num t.atN t.lvs ks) = false := by
  cases t
  exact core_long h hl
theorem sizeL_takeP (ts : List Tm) (n : Nat) : sizeL (ts.take n) ≤ sizeL ts := by
  induction ts generalizing n with
  | nil => simp [sizeL]
  | cons t ts ih =>
    cases n with
    | zero => simp [sizeL]
    | succ n => simp only [List.take_succ_cons, sizeL]; have := ih n; omega
theorem size_kids (t : Tm) : size t = 1 + sizeL t.kids := by cases t; rfl

set_option maxRecDepth 100000 in
set_option maxHeartbeats 16000000 in
theorem parts_any (n s more : Int) (t : Tm) (cs : List Int) (cv tl tk : Value) (w : World) (hK : Kinds w) (ht : RT w t tl tk) (hcs : RIv w cs cv) (hnil : ∀ n c, cv = .slice none n c → c = 0) (hnilk : ∀ n c, tk = .slice none n c → c = 0) (hlen : cs.length ≤ 1048576) (hsz : size t ≤ 1048576) :
    Calls Tryd.prog 5 #[.int .i64 n, .int .i64 s, cv, .agg #[.int .i64 t.kind, .int .i64 t.num, .int .i64 t.atN, tl, tk], .int .i64 more] w fun e w' => e = .returned (.bool true) ∧ Below w.heap.size w w' := by
  obtain ⟨A1, n1, c1, A2, n2, c2, rfl, rfl⟩ := ht.forms
  obtain ⟨Ac, cc, rfl, hcc⟩ : ∃ A c, cv = .slice A cs.length c ∧ True := by obtain ⟨A, c, e, _⟩ := hcs; exact ⟨A, c, e, trivial⟩
  have HNIL : Hid (∀ n c, Value.slice Ac cs.length cc = .slice none n c → c = 0) := Lib.hid hnil
  have HNILK : Hid (∀ n c, Value.slice A2 n2 c2 = .slice none n c → c = 0) := Lib.hid hnilk
  clear hnil hnilk hcc
  have hdep : depthL [t] ≤ 1000000000 := by have := depthL_size [t]; simp only [sizeL] at this; omega
  go_enter Tryd.func5, Tryd.ntmps5
  go_wp2_with fail
  generalize hw0 : w.alloc (.cells #[.int .i64 t.kind, .int .i64 t.num, .int .i64 t.atN, .slice A1 n1 c1, .slice A2 n2 c2] 26) = w0
  have B0 : Box w0 w.heap.size [.int .i64 t.kind, .int .i64 t.num, .int .i64 t.atN, .slice A1 n1 c1, .slice A2 n2 c2] := by rw [← hw0]; exact Box.new w [_, _, _, _, _] _
  have hb0 : Below w.heap.size w w0 := by rw [← hw0]; exact (Below.refl _ _).alloc (Nat.le_refl _) _
  clear hw0
  refine (awake5_any w0 (hK.below hb0)).mono ?_
  rintro e w1 ⟨rfl, hb1⟩
  have hbb : Below w.heap.size w w1 := below_ch hb0 hb1
  have B1 := B0.below hb1
  obtain ⟨q0, q1, q2, q3, q4⟩ := B1.five
  clear B0 hb0 hb1
  generalize hNN : w.heap.size = N at *
  have HN := Lib.hid hNN
  clear hNN
  go_wp2_with fail
  have hb2 : Below w1.heap.size w1 (w1.alloc (.cells #[.int .i64 t.kind, .int .i64 t.num, .int .i64 t.atN, .slice A1 n1 c1, .slice A2 n2 c2] 26)) := (Below.refl _ _).alloc (Nat.le_refl _) _
  have hbw : Below w.heap.size w w1 := by rw [HN.out]; exact hbb
  refine (great5_any [t] _ _ (RKv_one (Box.new _ [_, _, _, _, _] _) (RT.below (below_ch hbw hb2) ht) 1 (Nat.le_refl _)) hdep).mono ?_
  rintro e w2 ⟨⟨G, rfl⟩, hb3⟩
  have hb4 : Below w1.heap.size w1 w2 := below_ch hb2 hb3
  have HB : Hid (Below N w w2) := by rw [← HN.out]; exact Lib.hid (below_ch hbw hb4)
  replace q0 := cell_below hb4 q0
  replace q1 := cell_below hb4 q1
  replace q2 := cell_below hb4 q2
  replace q3 := cell_below hb4 q3
  replace q4 := cell_below hb4 q4
  have hbw2 : Below w.heap.size w w2 := below_ch hbw hb4
  have hK2 := hK.below hbw2
  have ht2 := RT.below hbw2 ht
  have hcs2 := hcs.below hbw2
  clear hb2 hb3 hb4 hbw hbb B1 hK ht hcs hdep hbw2
  cases G
  case true =>
    go_wp2_with fail
    go_ret
    exact ⟨rfl, by have h := HB.out; rw [← HN.out] at h; exact h⟩
  case false =>
    by_cases g0 : (3000 : Int) < (cs.length : Int)
    · go_wp2_with fail
      go_ret
      exact ⟨rfl, by have h := HB.out; rw [← HN.out] at h; exact h⟩
    by_cases g1 : more < 0
    · go_wp2_with fail
      go_ret
      exact ⟨rfl, by have h := HB.out; rw [← HN.out] at h; exact h⟩
    by_cases g2 : 1000 < more
    · go_wp2_with fail
      go_ret
      exact ⟨rfl, by have h := HB.out; rw [← HN.out] at h; exact h⟩
    by_cases g3 : 1000 < n
    · go_wp2_with fail
      go_ret
      exact ⟨rfl, by have h := HB.out; rw [← HN.out] at h; exact h⟩
    by_cases g4 : 1000 < s
    · go_wp2_with fail
      go_ret
      exact ⟨rfl, by have h := HB.out; rw [← HN.out] at h; exact h⟩
    have hright := right_core n s cs t _ _ _ w2 hK2 ht2 hcs2 (by omega)
    generalize hR : (decide (0 ≤ n ∧ 0 ≤ s) && coreB n cs s t) = R at *
    have HR := Lib.hid hR
    clear hR
    go_wp2_with fail
    refine hright.mono ?_
    rintro e w3 ⟨rfl, hb5⟩
    have HB3 : Hid (Below N w w3) := by have h := HB.out; rw [← HN.out] at h ⊢; exact Lib.hid (below_ch h hb5)
    cases R
    case false =>
      go_wp2_with fail
      go_ret
      exact ⟨rfl, by have h := HB3.out; rw [← HN.out] at h; exact h⟩
    case true =>
      have hok : PartsOk n s more cs t := by
        have h := HR.out
        simp only [Bool.and_eq_true, decide_eq_true_eq] at h
        exact ⟨by omega, by omega, h.1.1, by omega, h.1.2, by omega, h.2⟩
      have HOK := Lib.hid hok
      clear hok
      replace q0 := cell_below hb5 q0
      replace q1 := cell_below hb5 q1
      replace q2 := cell_below hb5 q2
      replace q3 := cell_below hb5 q3
      replace q4 := cell_below hb5 q4
      replace hK2 := hK2.below hb5
      replace ht2 := RT.below hb5 ht2
      replace hcs2 := hcs2.below hb5
      clear hright hb5 HB
      have hw1 : IntKind.i64.wrap (n + more) = n + more := by have h := HOK.out; have := h.m0; have := h.m1; have := h.n0; have := h.n1; exact IntWalk.i64_in _ (by omega)
      have hw2 : IntKind.i64.wrap (s + more) = s + more := by have h := HOK.out; have := h.m0; have := h.m1; have := h.s0; have := h.s1; exact IntWalk.i64_in _ (by omega)
      have HMORE : Hid (∀ v W, Below w3.heap.size w3 W → RIv W (cs ++ [more]) v → Calls Tryd.prog 19 #[.int .i64 (n + more), .int .i64 (s + more), v, .agg #[.int .i64 t.kind, .int .i64 t.num, .int .i64 t.atN, .slice A1 n1 c1, .slice A2 n2 c2]] W fun e w' => e = .returned (.bool true) ∧ Below W.heap.size W w') := Lib.hid fun v W hb hv => by
        have h := HOK.out
        have hr := right_core (n + more) (s + more) (cs ++ [more]) t v _ _ W (hK2.below hb) (RT.below hb ht2) hv (by have := h.m1; have := h.s1; omega)
        rw [core_more h.m0 s t h.ok, decide_eq_true ⟨by have := h.m0; have := h.n0; omega, by have := h.m0; have := h.s0; omega⟩] at hr
        exact hr
      have HX : Hid (w3.cell? ⟨N, 0, none⟩ = some (.int .i64 t.kind) ∧ w3.cell? ⟨N, 1, none⟩ = some (.int .i64 t.num) ∧ w3.cell? ⟨N, 2, none⟩ = some (.int .i64 t.atN) ∧ w3.cell? ⟨N, 3, none⟩ = some (.slice A1 n1 c1) ∧ w3.cell? ⟨N, 4, none⟩ = some (.slice A2 n2 c2)) := Lib.hid ⟨q0, q1, q2, q3, q4⟩
      go_wp2_with fail
      go_upto_region 5 with fail
      refine wp_plain (parts5 n s more t cs A1 A2 Ac n1 c1 n2 c2 cs.length cc N w3 _ _ _ _ _ _ _ _ _ _ _ _ _ _ _ _ _ _ _ _ _ _ _ _ _ _ _ _ _ _ _ _ _ _ _ _ _ _ _ _ _ _ _ _ _ _ _ _ _ _ _ _ _ _ _ _ _ _ _ _ _ _ _ _ _ _ _ _ _ _ _ _ _ _ _ _ _ _ _ _ _ _ _ _ _ _ _ _ _ _ _ _ _ _ _ _ _ _ _ _ _ _ _ _ _ _ _ _ _ _ _ _ _ _ _ _ _ _ _ _ _ _ _ _ HX hcs2 HNIL hlen HMORE hw1 hw2 _ (by kernel_rfl) _ ?_)
      intro v49 v50 v51 v52 v53 v54 v55 v56 v57 v58 v59 v60 v61 v62 w4 hb6
      have HB4 : Hid (Below N w w4) := by have h := HB3.out; rw [← HN.out] at h ⊢; exact Lib.hid (below_ch h hb6)
      replace q0 := cell_below hb6 q0
      replace q1 := cell_below hb6 q1
      replace q2 := cell_below hb6 q2
      replace q3 := cell_below hb6 q3
      replace q4 := cell_below hb6 q4
      replace hK2 := hK2.below hb6
      replace ht2 := RT.below hb6 ht2
      replace hcs2 := hcs2.below hb6
      clear hb6 HB3 HX HMORE hw1 hw2 HR g0 g1 g2 g3 g4
      go_wp2_with fail
      have hkv := ht2.kv
      obtain ⟨A', c', e, hk1, hk2, hk3⟩ := hkv
      injection e with e1 e2 e3
      subst e1 e3
      have HKK := Lib.hid hk3
      clear hk3
      subst e2
      generalize hln : t.kids.length = n2 at *
      have HLN := Lib.hid hln
      clear hln
      go_loopw [11, 12] (fun i _ wr => ∃ (j : Nat), j ≤ n2 ∧ i = .int .i64 j ∧ Below w4.heap.size w4 wr) (fun i _ _ => n2 - (intOf i).toNat)
      case atStart => exact ⟨0, Nat.zero_le _, rfl, Below.refl _ _⟩
      case round =>
        obtain ⟨j, hj, rfl, hb⟩ := hrel
        replace q0 := cell_below hb q0
        replace q1 := cell_below hb q1
        replace q2 := cell_below hb q2
        replace q3 := cell_below hb q3
        replace q4 := cell_below hb q4
        by_cases hlt : j < n2
        · obtain ⟨b, o, rfl, hkk⟩ := HKK.out (by omega)
          obtain ⟨x, hxj⟩ : ∃ x, t.kids[j]? = some x := ⟨_, List.getElem?_eq_getElem (by have := HLN.out; omega)⟩
          obtain ⟨xl, xk, x0, x1, x2, x3, x4, hRx⟩ := (hkk.below hb).get hxj
          have hlt2 : (j : Int) < (n2 : Int) := by omega
          have hj0 : (0 : Int) ≤ (j : Int) := by omega
          have hcb := core_kid HOK.out.ok j x hxj
          have hsx := size_at hxj
          have hst := size_kids t
          have hbind := binds_any t.kind (j : Int) wr (hK2.below hb)
          have hrg := fun (s' : Int) (hs' : s' + size x ≤ 4611686018427387904) => right_core n s' cs x _ _ _ wr (hK2.below hb) hRx (hcs2.below hb) hs'
          obtain ⟨A5, n5, c5, A6, n6, c6, rfl, rfl⟩ := hRx.forms
          have hn0 := HOK.out.n0
          have hs0 := HOK.out.s0
          have hs1 := HOK.out.s1
          clear hkk hxj hRx HKK
          by_cases hin : (j : Int) = bnd t.kind
          · rw [bindsB_true ⟨hin.symm, by omega⟩] at hbind
            have hinn : inner t.kind j s = s + 1 := if_pos hin
            rw [hinn] at hcb
            have hr := hrg (s + 1) (by omega)
            rw [hcb, decide_eq_true ⟨hn0, by omega⟩] at hr
            have hwr : IntKind.i64.wrap (s + 1) = s + 1 := IntWalk.i64_in _ (by omega)
            have HR := Lib.hid hr
            clear hr hrg hcb hin hinn hsx hst
            go_wp2_with fail
            refine hbind.mono ?_
            rintro e w5 ⟨rfl, rfl⟩
            clear hbind
            go_wp2_with fail
            refine HR.out.mono ?_
            rintro e w5 ⟨rfl, hb5⟩
            have HB5 := Lib.hid (below_ch hb hb5)
            clear hb5 HR
            go_wp2_with fail
            go_roundw
            case rel => exact ⟨j + 1, by omega, by go_num, HB5.out⟩
            case measure => simp [intOf]; omega
          · rw [bindsB_false (fun h => hin h.1.symm)] at hbind
            have hinn : inner t.kind j s = s := if_neg hin
            rw [hinn] at hcb
            have hr := hrg s (by omega)
            rw [hcb, decide_eq_true ⟨hn0, hs0⟩] at hr
            have HR := Lib.hid hr
            clear hr hrg hcb hin hinn hsx hst
            go_wp2_with fail
            refine hbind.mono ?_
            rintro e w5 ⟨rfl, rfl⟩
            clear hbind
            go_wp2_with fail
            refine HR.out.mono ?_
            rintro e w5 ⟨rfl, hb5⟩
            have HB5 := Lib.hid (below_ch hb hb5)
            clear hb5 HR
            go_wp2_with fail
            go_roundw
            case rel => exact ⟨j + 1, by omega, by go_num, HB5.out⟩
            case measure => simp [intOf]; omega
        · obtain rfl : j = n2 := by omega
          replace hK2 := hK2.below hb
          replace ht2 := RT.below hb ht2
          replace hcs2 := hcs2.below hb
          have HB5 : Hid (Below N w wr) := by have h := HB4.out; rw [← HN.out] at h ⊢; exact Lib.hid (below_ch h hb)
          clear hb HB4 HKK hlt
          have HX : Hid (wr.cell? ⟨N, 0, none⟩ = some (.int .i64 t.kind) ∧ wr.cell? ⟨N, 1, none⟩ = some (.int .i64 t.num) ∧ wr.cell? ⟨N, 2, none⟩ = some (.int .i64 t.atN) ∧ wr.cell? ⟨N, 3, none⟩ = some (.slice A1 n1 c1) ∧ wr.cell? ⟨N, 4, none⟩ = some (.slice A2 j c2)) := Lib.hid ⟨q0, q1, q2, q3, q4⟩
          go_wp2_with fail
          go_upto_region 15 with fail
          have HKR := Lib.hid hK2
          have HCR := Lib.hid hcs2
          have HBR := HB5
          have HQ4 := Lib.hid q4
          have HTR : Hid (RT wr t (.slice A1 n1 c1) (.slice A2 j c2)) := Lib.hid ht2
          refine wp_plain (parts15 t A1 A2 n1 c1 j c2 N wr _ _ _ _ _ _ _ _ _ _ _ _ _ _ _ _ _ _ _ _ _ _ _ _ _ _ _ _ _ _ _ _ _ _ _ _ _ _ _ _ _ _ _ _ _ _ _ _ _ _ _ _ _ _ _ _ _ _ _ _ _ _ _ _ _ _ _ _ _ _ _ _ _ _ _ _ _ _ _ _ _ _ _ _ _ _ _ _ _ _ _ _ _ _ _ _ _ _ _ _ _ _ _ _ _ _ _ _ _ _ _ _ _ _ _ _ _ _ _ _ _ _ _ _ _ _ _ _ HX _ (by kernel_rfl) _ ?_)
          intro v88 v89 b13 b14 w5 hne hg13 hg14 hB13 hB14 hb5
          replace q0 := cell_below hb5 q0
          replace q3 := cell_below hb5 q3
          replace q4 := cell_below hb5 q4
          replace hK2 := hK2.below hb5
          replace ht2 := RT.below hb5 ht2
          replace hcs2 := hcs2.below hb5
          have HR5 : Hid (Below wr.heap.size wr w5) := Lib.hid hb5
          have HB6 : Hid (Below N w w5) := by have h := HB5.out; rw [← HN.out] at h ⊢; exact Lib.hid (below_ch h hb5)
          clear hb5 HB5 HX q1 q2
          have hkv := ht2.kv
          obtain ⟨news, hnx0, hnd0⟩ := HTR.out.kv.news HNILK.out
          have hwa : Below wr.heap.size wr (w5.alloc (.cells #[] 26)) := below_ch HR5.out ((Below.refl _ _).alloc (Nat.le_refl _) _)
          have hnd := news_below hwa hnd0
          have hnx := hnx0
          clear hwa hnx0 hnd0
          have hks : size t = 1 + sizeL t.kids := size_kids t
          have hkl := length_sizeL t.kids
          rw [HLN.out] at hnd
          obtain ⟨i0, hi, hz0, hz1, hz2⟩ := info_parts info_term
          have own0 : (w5.alloc (.cells #[] 26)).ownsRow w5.heap.size 26 5 (.slice (some ⟨w5.heap.size, 0, none⟩) 0 0) 0 [] := World.ownsRow_lit w5 #[] 0 (Nat.le_refl _) (by decide) (by rfl)
          have hjl : j ≤ 1048576 := by have := HLN.out; omega
          have HSZ : w5.heap.size ≤ (w5.alloc (.cells #[] 26)).heap.size := by simp
          have q4' := cell_below ((Below.refl w5.heap.size w5).alloc (Nat.le_refl _) (.cells #[] 26)) q4
          have HOWN := Lib.hid own0
          have HND := Lib.hid hnd
          have HNX := Lib.hid hnx
          clear own0 hnd hnx hkv
          go_wp2_with (at_builtin; refine wpList_append_gen rfl w5.heap.size 26 24 5 72 i0 _ Tryd.underlying24 hi hz0 hz1 hz2 rfl (by omega) _ _ (by rfl) 0 j _ _ [] news (by rfl) HOWN.out (by rfl) HND.out (by unfold maxLen; omega) (by omega) HSZ ?ca)
          case ca =>
            intro v93 w6 hown6 hg6
            have bel6 : Below w5.heap.size w5 w6 := Below.grown ((Below.refl _ _).alloc (Nat.le_refl _) _) hg6 HSZ (fun k hk => (own_in HOWN.out k (by rw [hk]; simp)).1)
            clear hg6 HOWN HND q4'
            go_wp2_with fail
            refine (v5_lit 0 w6).mono ?_
            rintro e w7 ⟨A3, n3, c3, A4, n4, c4, rfl, g7, hb7⟩
            have bel7 : Below w5.heap.size w5 (w7.alloc (.cells #[.int .i64 1, .int .i64 0, .int .i64 0, .slice A3 n3 c3, .slice A4 n4 c4] 26)) := below_ch (below_ch bel6 hb7) ((Below.refl _ _).alloc (Nat.le_refl _) _)
            have own7 := own_below (own_below hown6 hb7) ((Below.refl w7.heap.size w7).alloc (Nat.le_refl _) (.cells #[.int .i64 1, .int .i64 0, .int .i64 0, .slice A3 n3 c3, .slice A4 n4 c4] 26))
            have nt := news_term (t := .node 1 0 0 [] []) (Box.new w7 [.int .i64 1, .int .i64 0, .int .i64 0, .slice A3 n3 c3, .slice A4 n4 c4] 26) (RT.below ((Below.refl _ _).alloc (Nat.le_refl _) _) g7)
            replace HSZ := bel7.size
            have HO7 := Lib.hid own7
            have HNT := Lib.hid nt
            have HG7 := Lib.hid g7
            have HBL7 := Lib.hid bel7
            clear own7 nt g7 bel7 hb7 bel6 hown6
            go_wp2_with (at_builtin; go_must (refine wpList_append_gen rfl w5.heap.size 26 24 5 72 i0 _ Tryd.underlying24 hi hz0 hz1 hz2 rfl (by omega) _ _ (by rfl) j 1 _ _ news [.int .i64 1, .int .i64 0, .int .i64 0, .slice A3 n3 c3, .slice A4 n4 c4] (by rfl) HO7.out (by rfl) HNT.out.2 (by unfold maxLen; omega) (by omega) HSZ ?cb))
            case cb =>
              intro v96 w8 hown8 hg8
              have bel8 : Below w5.heap.size w5 w8 := Below.grown HBL7.out hg8 HSZ (fun k hk => (own_in HO7.out k (by rw [hk]; simp)).1)
              have hr58 : Below wr.heap.size wr w8 := below_ch HR5.out bel8
              obtain ⟨A9, c9, e9, hc9, _, hg9⟩ := own_form hown8
              obtain ⟨g9, eA9, _⟩ := hg9 (by omega)
              subst eA9
              subst e9
              have C13 := hB13.below bel8
              have C14 := hB14.below bel8
              have l13 := hB13.lt
              have l14 := hB14.lt
              have z4 := C13.cell (j := 4) rfl
              have y4 := C13.frozen 4
              obtain ⟨w9, hw9⟩ : ∃ w9, w8.setCell ⟨b13, 4, none⟩ (.slice (some ⟨g9, 0, none⟩) (j + 1) c9) = w9 := ⟨_, rfl⟩
              have D13 : Box w9 b13 [.int .i64 t.kind, .int .i64 t.num, .int .i64 t.atN, .slice A1 n1 c1, .slice (some ⟨g9, 0, none⟩) (j + 1) c9] := by rw [← hw9]; exact C13.set 4 _
              have D14 : Box w9 b14 [.int .i64 t.kind, .int .i64 t.num, .int .i64 t.atN, .slice A1 n1 c1, .slice A2 j c2] := by rw [← hw9]; exact C14.other (Ne.symm hne) _
              have u1 := D14.cell (j := 1) rfl
              have x1 := D14.frozen 1
              obtain ⟨w10, hw10⟩ : ∃ w10, w9.setCell ⟨b14, 1, none⟩ (.int .i64 (-1)) = w10 := ⟨_, rfl⟩
              have E13 : Box w10 b13 [.int .i64 t.kind, .int .i64 t.num, .int .i64 t.atN, .slice A1 n1 c1, .slice (some ⟨g9, 0, none⟩) (j + 1) c9] := by rw [← hw10]; exact D13.other hne _
              have E14 : Box w10 b14 [.int .i64 t.kind, .int .i64 (-1), .int .i64 t.atN, .slice A1 n1 c1, .slice A2 j c2] := by rw [← hw10]; exact D14.set 1 _
              have hr10 : Below wr.heap.size wr w10 := by rw [← hw10, ← hw9]; exact (hr58.setCell hg13 _).setCell hg14 _
              have own10 := own_move (w1 := w10) hown8 (fun k hk => by
                have hk2 := (own_in hown8 k hk).1
                rw [← hw10, ← hw9, Below.heap_setCell _ _ _ _ (show k ≠ b14 by omega), Below.heap_setCell _ _ _ _ (show k ≠ b13 by omega)])
              have hk10 := long_reads (t := t) hr10 HNX.out HG7.out own10 (by rw [HLN.out]) (by omega)
              have hlong : RT w10 (.node t.kind t.num t.atN t.lvs (t.kids ++ [.node 1 0 0 [] []])) (.slice A1 n1 c1) (.slice (some ⟨g9, 0, none⟩) (j + 1) c9) := with_kids HTR.out hr10 hk10
              have hl1 := right_core n s cs _ _ _ _ w10 (HKR.out.below hr10) hlong (HCR.out.below hr10) (by have := HOK.out.s1; simp only [size, sizeL_append, sizeL]; omega)
              rw [core_longer HOK.out.ok (by simp), Bool.and_false] at hl1
              have hl1' : Calls Tryd.prog 19 #[.int .i64 n, .int .i64 s, .slice Ac cs.length cc, .agg #[.int .i64 t.kind, .int .i64 t.num, .int .i64 t.atN, .slice A1 n1 c1, .slice (some ⟨g9, 0, none⟩) (j + 1) c9]] w10 fun e w' => e = .returned (.bool false) ∧ Below w10.heap.size w10 w' := hl1
              have hodd := fun W (hb : Below w10.heap.size w10 W) => right_core n s cs (.node t.kind (-1) t.atN t.lvs t.kids) _ _ _ W (HKR.out.below (below_ch hr10 hb)) (with_kids HTR.out (below_ch hr10 hb) (HTR.out.kv.below (below_ch hr10 hb))) (HCR.out.below (below_ch hr10 hb)) (by have := HOK.out.s1; simp only [size]; omega)
              simp only [core_odd, Bool.and_false] at hodd
              have hodd' : ∀ W, Below w10.heap.size w10 W → Calls Tryd.prog 19 #[.int .i64 n, .int .i64 s, .slice Ac cs.length cc, .agg #[.int .i64 t.kind, .int .i64 (-1), .int .i64 t.atN, .slice A1 n1 c1, .slice A2 j c2]] W fun e w' => e = .returned (.bool false) ∧ Below W.heap.size W w' := hodd
              have HL1 := Lib.hid hl1'
              have HOD := Lib.hid hodd'
              have HK10 := Lib.hid hk10
              have HO10 := Lib.hid own10
              obtain ⟨a0, a1, a2, a3, a4⟩ := E13.five
              clear hl1 hl1' hodd hodd' hk10 own10 hlong hown8 hg8 bel8 hr58 hB13 hB14 C13 C14 D13 D14 HO7 HNT HBL7 HSZ
              go_wp2_with fail
              refine HL1.out.mono ?_
              rintro e w11 ⟨rfl, hb11⟩
              obtain ⟨d0, d1, d2, d3, d4⟩ := (E14.below hb11).five
              have hod := HOD.out w11 hb11
              have HOD2 := Lib.hid hod
              have F13 := E13.below hb11
              have HO11 := Lib.hid (own_below HO10.out hb11)
              have hr11 := below_ch hr10 hb11
              clear hod HOD HL1 hb11 E13 E14 a0 a1 a2 a3 a4 hw9 hw10 z4 y4 u1 x1
              go_wp2_with fail
              refine HOD2.out.mono ?_
              rintro e w12 ⟨rfl, hb12⟩
              have G13 := F13.below hb12
              have HO12 := Lib.hid (own_below HO11.out hb12)
              have hr12 := below_ch hr11 hb12
              have q4 := cell_below hr12 HQ4.out
              clear hb12 HOD2 F13 hr11 d0 d1 d2 d3 d4
              by_cases hj0 : j = 0
              · subst hj0
                go_wp2_with fail
                go_ret
                exact ⟨rfl, by have h := HBR.out; rw [← HN.out] at h; exact below_ch h hr12⟩
              · obtain ⟨i, hij⟩ : ∃ i, j = i + 1 := ⟨j - 1, by omega⟩
                subst hij
                have p4 := G13.cell (j := 4) rfl
                have y4 := G13.frozen 4
                have hs1 : IntKind.i64.wrap (((i + 1 : Nat) : Int) - 1) = (i : Int) := (IntWalk.i64_in _ (by omega)).trans (by omega)
                have hs2 : IntKind.i64.wrap (((i + 1 : Nat) : Int) + -1) = (i : Int) := (IntWalk.i64_in _ (by omega)).trans (by omega)
                have hi0 : (0 : Int) ≤ (i : Int) := by omega
                have hi1 : (i : Int) ≤ (c9 : Int) := by omega
                have hi2 : i ≤ c9 := by omega
                have hpos : (0 : Int) < ((i + 1 : Nat) : Int) := by omega
                obtain ⟨w13, hw13⟩ : ∃ w13, w12.setCell ⟨b13, 4, none⟩ (.slice (some ⟨g9, 0, none⟩) i c9) = w13 := ⟨_, rfl⟩
                have H13 : Box w13 b13 [.int .i64 t.kind, .int .i64 t.num, .int .i64 t.atN, .slice A1 n1 c1, .slice (some ⟨g9, 0, none⟩) i c9] := by rw [← hw13]; exact G13.set 4 _
                have hr13 : Below wr.heap.size wr w13 := by rw [← hw13]; exact hr12.setCell hg13 _
                have own13 := own_move (w1 := w13) HO12.out (fun k hk => by
                  have hk2 := (own_in HO12.out k hk).1
                  rw [← hw13, Below.heap_setCell _ _ _ _ (show k ≠ b13 by omega)])
                have hk13 := RKv_take (m := i) (long_reads (t := t) hr13 HNX.out HG7.out own13 (by rw [HLN.out]) (by omega)) (by omega)
                have hl2 := right_core n s cs (.node t.kind t.num t.atN t.lvs ((t.kids ++ [Tm.node 1 0 0 [] []]).take i)) _ _ _ w13 (HKR.out.below hr13) (with_kids HTR.out hr13 hk13) (HCR.out.below hr13) (by have := HOK.out.s1; have := sizeL_takeP (t.kids ++ [Tm.node 1 0 0 [] []]) i; simp only [sizeL_append, sizeL] at this; simp only [size, sizeL] at this ⊢; omega)
                rw [core_longer HOK.out.ok (by have := HLN.out; rw [List.length_take, List.length_append]; simp only [List.length_cons, List.length_nil]; omega), Bool.and_false] at hl2
                have hl2' : Calls Tryd.prog 19 #[.int .i64 n, .int .i64 s, .slice Ac cs.length cc, .agg #[.int .i64 t.kind, .int .i64 t.num, .int .i64 t.atN, .slice A1 n1 c1, .slice (some ⟨g9, 0, none⟩) i c9]] w13 fun e w' => e = .returned (.bool false) ∧ Below w13.heap.size w13 w' := hl2
                have HL2 := Lib.hid hl2'
                obtain ⟨s0, s1, s2, s3, s4⟩ := H13.five
                clear own13 hk13 hl2 hl2' H13
                generalize hcast : ((i + 1 : Nat) : Int) = M at *
                have HCA := Lib.hid hcast
                clear hcast hj0
                go_wp2_with fail
                refine HL2.out.mono ?_
                rintro e w14 ⟨rfl, hb14⟩
                have hr14 := below_ch hr13 hb14
                clear hb14 HL2 hw13
                go_wp2_with fail
                go_ret
                exact ⟨rfl, by have h := HBR.out; rw [← HN.out] at h; exact below_ch h hr14⟩

end Go.Proofs.YtajpkhkfffdclaaDoor
