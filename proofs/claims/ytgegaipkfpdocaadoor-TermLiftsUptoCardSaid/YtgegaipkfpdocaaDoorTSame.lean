/-
  THE WALK OF term.Same.
-/
import Derived.Test.YtgegaipkfpdocaaDoorSame
import Derived.Test.YtgegaipkfpdocaaDoorLevT
namespace Go.Proofs.YtgegaipkfpdocaaDoor
open Go.RowKit
set_option linter.unusedSimpArgs false
set_option linter.unusedVariables false
set_option maxRecDepth 100000

theorem map_at {α β : Type} (f : α → β) {xs : List α} {k : Nat} {p : α} (h : xs[k]? = some p) : (xs.map f)[k]? = some (f p) := by rw [List.getElem?_map, h]; rfl
set_option maxHeartbeats 2000000 in
theorem equalLv_any (ls ms : List Lv) (v u : Value) (w : World) (hp : RLv w ls v) (hq : RLv w ms u) :
    Calls Tryd.prog 47 #[v, u, .func (.func 48) #[] #[]] w (Tells (ls.map nfP = ms.map nfP) w) := by
  have ef := Tryd.call48
  obtain ⟨A, c, rfl, hc, hl, hcp⟩ := hp
  obtain ⟨A', c', rfl, hc', hl', hcq⟩ := hq
  generalize hnp : ls.length = n at *
  generalize hnq : ms.length = m at *
  have HP : Hid ((ls.map nfP).length = n) := Lib.hid (by rw [List.length_map, hnp])
  have HP' := Lib.hid hnp; clear hnp
  have HQ : Hid ((ms.map nfP).length = m) := Lib.hid (by rw [List.length_map, hnq])
  have HQ' := Lib.hid hnq; clear hnq
  by_cases hn : n = m
  · subst hn
    have HCP := Lib.hid hcp; clear hcp
    have HCQ := Lib.hid hcq; clear hcq
    go_enter Tryd.func47, Tryd.ntmps47
    go_wp2_with fail
    go_loopw [17] (fun i wr => ∃ k : Nat, k ≤ n ∧ i = .int .i64 k ∧ Hid ((ls.map nfP).take k = (ms.map nfP).take k) ∧ Below w.heap.size w wr) (fun i _ => n - (RowKit.intOf i).toNat)
    case atStart => exact ⟨0, Nat.zero_le _, rfl, rfl, Below.refl _ _⟩
    case round =>
      obtain ⟨k, hk, rfl, ht, hb⟩ := hrel
      by_cases hlt : (k : Int) < (n : Int)
      · obtain ⟨b, o, rfl, hcp⟩ := HCP.out (by omega)
        obtain ⟨b', o', rfl, hcq⟩ := HCQ.out (by omega)
        obtain ⟨p, hpk⟩ : ∃ p, ls[k]? = some p := ⟨_, List.getElem?_eq_getElem (by have := HP'.out; omega)⟩
        obtain ⟨q, hqk⟩ : ∃ q, ms[k]? = some q := ⟨_, List.getElem?_eq_getElem (by have := HQ'.out; omega)⟩
        obtain ⟨x, c1, hx⟩ := (hcp.below hb).get hpk
        obtain ⟨y, c2, hy⟩ := (hcq.below hb).get hqk
        have HPK := Lib.hid (map_at nfP hpk); clear hpk
        have HQK := Lib.hid (map_at nfP hqk); clear hqk
        clear hcp hcq HCP HCQ
        have h0 : (0 : Int) ≤ (k : Int) := by omega
        have hcall := fun W (h : Below wr.heap.size wr W) => lsame_any p q x y W (hx.below h) (hy.below h)
        have hb2 : ∀ o o', Below wr.heap.size wr ((wr.alloc o).alloc o') := fun o o' => ((Below.refl _ _).alloc (Nat.le_refl _) o).alloc (by simp) o'
        obtain ⟨A5, n5, c5, rfl⟩ := hx.form
        obtain ⟨A6, n6, c6, rfl⟩ := hy.form
        have c3 := cell_below ((Below.refl wr.heap.size wr).alloc (Nat.le_refl _) (.cells #[.slice A5 n5 c5] 37)) c2
        clear hx hy
        go_wp2_with fail
        show Calls Tryd.prog 48 #[.agg #[.slice A5 n5 c5], .agg #[.slice A6 n6 c6]] _ _
        refine (hcall _ (hb2 _ _)).mono ?_
        rintro e w1 ⟨rfl, hb1⟩
        have HB : Below w.heap.size w w1 := hb.trans (((hb2 _ _).trans (hb1.mono (hb2 _ _).size)).mono hb.size)
        clear hb1 hcall hb2
        by_cases hpq : nfP p = nfP q
        · have HPQ := Lib.hid (take_same ht.out (HPK.out.trans (by rw [hpq])) HQK.out)
          rw [decide_eq_true hpq]
          clear hpq
          go_wp2_with fail
          go_roundw
          case rel => exact ⟨k + 1, by omega, by go_num, HPQ, HB⟩
          case measure => simp [RowKit.intOf]; omega
        · have HF := Lib.hid (get_ne HPK.out HQK.out hpq)
          rw [decide_eq_false hpq]
          clear hpq
          go_wp2_with fail
          go_ret
          exact Tells.mk ⟨fun h => by simp at h, fun h => absurd h HF.out⟩ HB
      · obtain rfl : k = n := by omega
        have HF := Lib.hid (take_all ht HP.out HQ.out)
        clear HCP HCQ
        go_wp2_with fail
        go_ret
        exact Tells.mk ⟨fun _ => HF.out, fun _ => rfl⟩ hb
  · have hb : ((n : Int) != (m : Int)) = true := by simpa using (by omega : ¬ (n : Int) = m)
    have HF := Lib.hid (len_ne HP.out HQ.out hn)
    clear hcp hcq
    go_enter Tryd.func47, Tryd.ntmps47
    go_wp2_with fail
    go_ret
    exact Tells.mk ⟨fun h => by simp at h, fun h => absurd h HF.out⟩ (Below.refl _ _)

mutual
/-- A term, its levels in normal form. -/
def canT : Tm → Tm
  | .node k m a ls ks => .node k m a (ls.map nfP) (canL ks)
def canL : List Tm → List Tm
  | [] => []
  | t :: ts => canT t :: canL ts
end
theorem canL_map : ∀ ts : List Tm, canL ts = ts.map canT
  | [] => rfl
  | t :: ts => by simp only [canL, List.map_cons, canL_map ts]

def TSame (M : Nat) : Prop := ∀ (t u : Tm) (vl vk ul uk : Value) (W : World), size t ≤ M → RT W t vl vk → RT W u ul uk →
    Calls Tryd.prog 19 #[.agg #[.int .i64 t.kind, .int .i64 t.num, .int .i64 t.atN, vl, vk], .agg #[.int .i64 u.kind, .int .i64 u.num, .int .i64 u.atN, ul, uk]] W (Tells (canT t = canT u) W)
def TSames (M : Nat) : Prop := ∀ (ls ms : List Tm) (v u : Value) (w : World), sizeL ls ≤ M → RKv w ls v → RKv w ms u →
    Calls Tryd.prog 49 #[v, u, .func (.func 19) #[] #[]] w (Tells (ls.map canT = ms.map canT) w)

set_option maxHeartbeats 4000000 in
theorem tsames_of {M : Nat} (HS : TSame M) : TSames M := by
  intro ls ms v u w hM hp hq
  have ef := Tryd.call19
  obtain ⟨A, c, rfl, hc, hl, hcp⟩ := hp
  obtain ⟨A', c', rfl, hc', hl', hcq⟩ := hq
  generalize hnp : ls.length = n at *
  generalize hnq : ms.length = m at *
  have HP : Hid ((ls.map canT).length = n) := Lib.hid (by rw [List.length_map, hnp])
  have HP' := Lib.hid hnp; clear hnp
  have HQ : Hid ((ms.map canT).length = m) := Lib.hid (by rw [List.length_map, hnq])
  have HQ' := Lib.hid hnq; clear hnq
  by_cases hn : n = m
  · subst hn
    have HCP := Lib.hid hcp; clear hcp
    have HCQ := Lib.hid hcq; clear hcq
    go_enter Tryd.func49, Tryd.ntmps49
    go_wp2_with fail
    go_loopw [17] (fun i wr => ∃ k : Nat, k ≤ n ∧ i = .int .i64 k ∧ Hid ((ls.map canT).take k = (ms.map canT).take k) ∧ Below w.heap.size w wr) (fun i _ => n - (RowKit.intOf i).toNat)
    case atStart => exact ⟨0, Nat.zero_le _, rfl, rfl, Below.refl _ _⟩
    case round =>
      obtain ⟨k, hk, rfl, ht, hb⟩ := hrel
      by_cases hlt : (k : Int) < (n : Int)
      · obtain ⟨b, o, rfl, hcp⟩ := HCP.out (by omega)
        obtain ⟨b', o', rfl, hcq⟩ := HCQ.out (by omega)
        obtain ⟨p, hpk⟩ : ∃ p, ls[k]? = some p := ⟨_, List.getElem?_eq_getElem (by have := HP'.out; omega)⟩
        obtain ⟨q, hqk⟩ : ∃ q, ms[k]? = some q := ⟨_, List.getElem?_eq_getElem (by have := HQ'.out; omega)⟩
        obtain ⟨x, x', c1, c2, c3, c4, c5, hx⟩ := (hcp.below hb).get hpk
        obtain ⟨y, y', d1, d2, d3, d4, d5, hy⟩ := (hcq.below hb).get hqk
        have hcall := fun W (h : Below wr.heap.size wr W) => HS p q x x' y y' W (Nat.le_trans (size_at hpk) hM) (hx.below h) (hy.below h)
        have HPK := Lib.hid (map_at canT hpk); clear hpk
        have HQK := Lib.hid (map_at canT hqk); clear hqk
        clear hcp hcq HCP HCQ
        have h0 : (0 : Int) ≤ (k : Int) := by omega
        have hb2 : ∀ o o', Below wr.heap.size wr ((wr.alloc o).alloc o') := fun o o' => ((Below.refl _ _).alloc (Nat.le_refl _) o).alloc (by simp) o'
        obtain ⟨A5, n5, c5', A6, n6, c6, rfl, rfl⟩ := hx.forms
        obtain ⟨A7, n7, c7, A8, n8, c8, rfl, rfl⟩ := hy.forms
        have hba := (Below.refl wr.heap.size wr).alloc (Nat.le_refl _) (.cells #[.int .i64 p.kind, .int .i64 p.num, .int .i64 p.atN, .slice A5 n5 c5', .slice A6 n6 c6] 27)
        have e1 := cell_below hba d1
        have e2 := cell_below hba d2
        have e3 := cell_below hba d3
        have e4 := cell_below hba d4
        have e5 := cell_below hba d5
        clear hx hy hba
        go_wp2_with fail
        show Calls Tryd.prog 19 #[.agg #[.int .i64 p.kind, .int .i64 p.num, .int .i64 p.atN, .slice A5 n5 c5', .slice A6 n6 c6], .agg #[.int .i64 q.kind, .int .i64 q.num, .int .i64 q.atN, .slice A7 n7 c7, .slice A8 n8 c8]] _ _
        refine (hcall _ (hb2 _ _)).mono ?_
        rintro e w1 ⟨r, hr, rfl, hb1⟩
        have HB : Below w.heap.size w w1 := hb.trans (((hb2 _ _).trans (hb1.mono (hb2 _ _).size)).mono hb.size)
        clear hb1 hcall hb2
        cases r with
        | true =>
          have HPQ := Lib.hid (take_same ht.out (HPK.out.trans (by rw [hr.1 rfl])) HQK.out)
          clear hr
          go_wp2_with fail
          go_roundw
          case rel => exact ⟨k + 1, by omega, by go_num, HPQ, HB⟩
          case measure => simp [RowKit.intOf]; omega
        | false =>
          have HF := Lib.hid (get_ne HPK.out HQK.out (fun hh => by have := hr.2 hh; simp at this))
          clear hr
          go_wp2_with fail
          go_ret
          exact Tells.mk ⟨fun h => by simp at h, fun h => absurd h HF.out⟩ HB
      · obtain rfl : k = n := by omega
        have HF := Lib.hid (take_all ht HP.out HQ.out)
        clear HCP HCQ
        go_wp2_with fail
        go_ret
        exact Tells.mk ⟨fun _ => HF.out, fun _ => rfl⟩ hb
  · have hb : ((n : Int) != (m : Int)) = true := by simpa using (by omega : ¬ (n : Int) = m)
    have HF := Lib.hid (len_ne HP.out HQ.out hn)
    clear hcp hcq
    go_enter Tryd.func49, Tryd.ntmps49
    go_wp2_with fail
    go_ret
    exact Tells.mk ⟨fun h => by simp at h, fun h => absurd h HF.out⟩ (Below.refl _ _)

set_option maxHeartbeats 4000000 in
theorem tsame_of {M : Nat} (HS : TSames M) : TSame (M + 1) := by
  rintro ⟨k, n, a, ls, ks⟩ ⟨k', n', a', ms, js⟩ vl vk ul uk w hM hp hq
  rw [RT_iff] at hp hq
  simp only [size] at hM
  obtain ⟨hp1, hp2⟩ := hp
  obtain ⟨hq1, hq2⟩ := hq
  simp only [Tm.kind, Tm.num, Tm.atN]
  have hcall := equalLv_any ls ms vl ul ((w.alloc (.cells #[.int .i64 k, .int .i64 n, .int .i64 a, vl, vk] 27)).alloc (.cells #[.int .i64 k', .int .i64 n', .int .i64 a', ul, uk] 27))
    (hp1.below (((Below.refl _ _).alloc (Nat.le_refl _) _).alloc (by simp) _)) (hq1.below (((Below.refl _ _).alloc (Nat.le_refl _) _).alloc (by simp) _))
  have hcall2 := fun W (hb : Below w.heap.size w W) => HS ks js vk uk W (by omega) (hp2.below hb) (hq2.below hb)
  have hcan : canT (.node k n a ls ks) = canT (.node k' n' a' ms js) ↔ k = k' ∧ n = n' ∧ a = a' ∧ ls.map nfP = ms.map nfP ∧ ks.map canT = js.map canT := by
    simp only [canT, canL_map, Tm.node.injEq]
  rw [show Tells (canT (.node k n a ls ks) = canT (.node k' n' a' ms js)) w = Tells (k = k' ∧ n = n' ∧ a = a' ∧ ls.map nfP = ms.map nfP ∧ ks.map canT = js.map canT) w by rw [propext hcan]]
  clear hp1 hp2 hq1 hq2 HS hcan
  by_cases h1 : k = k'
  · by_cases h2 : n = n'
    · by_cases h3 : a = a'
      · subst h1 h2 h3
        go_enter Tryd.func19, Tryd.ntmps19
        go_wp2_with fail
        refine hcall.mono ?_
        rintro e w1 ⟨r, hr, rfl, hb1⟩
        obtain ⟨hc, hf⟩ := bcell hb1
        have HB : Below w.heap.size w w1 := (((Below.refl _ _).alloc (Nat.le_refl _) _).alloc (by simp) _).trans (hb1.mono (by simp; omega))
        have hcall3 := hcall2 w1 HB
        clear hcall hb1 hcall2
        cases r with
        | true =>
          have HL := Lib.hid (hr.1 rfl)
          clear hr
          go_wp2_with fail
          refine hcall3.mono ?_
          rintro e w2 ⟨r, hr, rfl, hb2⟩
          have HB2 := HB.trans (hb2.mono HB.size)
          have HR := Lib.hid hr
          clear hr hcall3 hb2 hc hf HB
          go_wp2_with fail
          go_ret
          exact Tells.mk (by rw [HR.out]; exact ⟨fun h => ⟨by first | rfl | trivial, by first | rfl | trivial, by first | rfl | trivial, HL.out, h⟩, fun h => h.2.2.2.2⟩) HB2
        | false =>
          have HF : Hid (¬ ls.map nfP = ms.map nfP) := fun hh => by have := hr.2 hh; simp at this
          clear hr hcall3
          go_wp2_with fail
          go_ret
          exact Tells.mk ⟨fun h => by simp at h, fun h => absurd h.2.2.2.1 HF.out⟩ HB
      · have e3 : (a == a') = false := by simpa using h3
        have HF : Hid (¬ a = a') := h3
        subst h1 h2
        clear h3 hcall hcall2
        go_enter Tryd.func19, Tryd.ntmps19
        go_wp2_with fail
        go_ret
        exact Tells.mk ⟨fun h => by simp at h, fun h => absurd h.2.2.1 HF.out⟩ (((Below.refl _ _).alloc (Nat.le_refl _) _).alloc (by simp) _)
    · have e2 : (n == n') = false := by simpa using h2
      have HF : Hid (¬ n = n') := h2
      subst h1
      clear h2 hcall hcall2
      go_enter Tryd.func19, Tryd.ntmps19
      go_wp2_with fail
      go_ret
      exact Tells.mk ⟨fun h => by simp at h, fun h => absurd h.2.1 HF.out⟩ (((Below.refl _ _).alloc (Nat.le_refl _) _).alloc (by simp) _)
  · have e1 : (k == k') = false := by simpa using h1
    have HF : Hid (¬ k = k') := h1
    clear h1 hcall hcall2
    go_enter Tryd.func19, Tryd.ntmps19
    go_wp2_with fail
    go_ret
    exact Tells.mk ⟨fun h => by simp at h, fun h => absurd h.1 HF.out⟩ (((Below.refl _ _).alloc (Nat.le_refl _) _).alloc (by simp) _)

theorem tsame_all : ∀ M, TSame M
  | 0 => fun t _ _ _ _ _ _ h => absurd (size_pos t) (by omega)
  | M + 1 => tsame_of (tsames_of (tsame_all M))
theorem tsame_any (t u : Tm) (vl vk ul uk : Value) (W : World) (ht : RT W t vl vk) (hu : RT W u ul uk) :
    Calls Tryd.prog 19 #[.agg #[.int .i64 t.kind, .int .i64 t.num, .int .i64 t.atN, vl, vk], .agg #[.int .i64 u.kind, .int .i64 u.num, .int .i64 u.atN, ul, uk]] W (Tells (canT t = canT u) W) :=
  tsame_all _ t u vl vk ul uk W (Nat.le_refl _) ht hu

end Go.Proofs.YtgegaipkfpdocaaDoor
