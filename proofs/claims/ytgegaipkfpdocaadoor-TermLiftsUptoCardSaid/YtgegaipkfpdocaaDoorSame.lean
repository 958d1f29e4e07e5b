/-
  THE KIT'S 'Same..': two lists of parts, levels, terms are told the same where they are.
-/
import Derived.Test.YtgegaipkfpdocaaDoorSameA
namespace Go.Proofs.YtgegaipkfpdocaaDoor
open Go.RowKit

set_option maxRecDepth 100000 in
set_option maxHeartbeats 400000 in
theorem sameLevels_any (ls ms : List Lv) (v u : Value) (w : World) (hp : RLv w ls v) (hq : RLv w ms u) :
    Calls Tryd.prog 76 #[v, u] w (Tells (ls = ms) w) := by
  obtain ⟨A, c, rfl, hc, hl, hcp⟩ := hp
  obtain ⟨A', c', rfl, hc', hl', hcq⟩ := hq
  generalize hnp : ls.length = n at *
  generalize hnq : ms.length = m at *
  have HP := Lib.hid hnp; clear hnp
  have HQ := Lib.hid hnq; clear hnq
  by_cases hn : n = m
  · subst hn
    have HCP := Lib.hid hcp; clear hcp
    have HCQ := Lib.hid hcq; clear hcq
    go_enter Tryd.func76, Tryd.ntmps76
    go_wp2_with fail
    go_loopw [5] (fun i wr => ∃ k : Nat, k ≤ n ∧ i = .int .i64 k ∧ Hid (ls.take k = ms.take k) ∧ Below w.heap.size w wr) (fun i _ => n - (intOf i).toNat)
    case atStart => exact ⟨0, Nat.zero_le _, rfl, rfl, Below.refl _ _⟩
    case round =>
      obtain ⟨k, hk, rfl, ht, hb⟩ := hrel
      by_cases hlt : k < n
      · obtain ⟨b, o, rfl, hcp⟩ := HCP.out (by omega)
        obtain ⟨b', o', rfl, hcq⟩ := HCQ.out (by omega)
        obtain ⟨p, hpk⟩ : ∃ p, ls[k]? = some p := ⟨_, List.getElem?_eq_getElem (by have := HP.out; omega)⟩
        obtain ⟨q, hqk⟩ : ∃ q, ms[k]? = some q := ⟨_, List.getElem?_eq_getElem (by have := HQ.out; omega)⟩
        obtain ⟨x, c1, hx⟩ := (hcp.below hb).get hpk
        obtain ⟨y, c2, hy⟩ := (hcq.below hb).get hqk
        clear hcp hcq HCP HCQ
        have HPK := Lib.hid hpk; clear hpk
        have HQK := Lib.hid hqk; clear hqk
        have h1 : (k : Int) < (n : Int) := by omega
        have h0 : (0 : Int) ≤ (k : Int) := by omega
        have hcall := sameLevel_any p q x y wr.drew (hx.below (below_drewN' (Below.refl _ _) 1)) (hy.below (below_drewN' (Below.refl _ _) 1))
        clear hx hy
        have HNE : Hid (p ≠ q → ls ≠ ms) := fun h => get_ne HPK.out HQK.out h
        go_wp2_with fail
        go_still_tail 8, (by kernel_rfl)
        change wpList _ _ _ _ _ wr.drew
        go_wp2_with fail
        refine hcall.mono ?_
        rintro e w1 ⟨r, hr, rfl, hb1⟩
        have HB : Below w.heap.size w w1 := hb.trans ((Below.refl _ _).drew.trans (hb1.mono hb.size))
        clear hb1 hcall
        cases r with
        | true =>
          obtain rfl := hr.1 rfl
          clear hr
          go_wp2_with fail
          go_roundw
          case rel => exact ⟨k + 1, by omega, by go_num, take_same ht HPK.out HQK.out, HB⟩
          case measure => simp [intOf]; omega
        | false =>
          have HF := Lib.hid (HNE.out fun hh => by have := hr.2 hh; simp at this)
          clear hr
          go_wp2_with fail
          go_ret
          exact Tells.mk ⟨fun h => by simp at h, fun h => absurd h HF.out⟩ HB
      · obtain rfl : k = n := by omega
        have HF := Lib.hid (take_all ht HP.out HQ.out)
        clear HCP HCQ
        go_wp2_with fail
        go_ret
        exact Tells.mk ⟨fun _ => HF.out, fun _ => rfl⟩ hb
  · have hb : ((n : Int) != (m : Int)) = true := by simpa using (by omega : ¬ (n : Int) = m)
    have HF := Lib.hid (len_ne HP.out HQ.out hn)
    clear hcp hcq
    go_enter Tryd.func76, Tryd.ntmps76
    go_wp2_with fail
    go_ret
    exact Tells.mk ⟨fun h => by simp at h, fun h => absurd h HF.out⟩ (Below.refl _ _)

def SameT (M : Nat) : Prop := ∀ (t u : Tm) (vl vk ul uk : Value) (W : World), size t ≤ M → RT W t vl vk → RT W u ul uk →
    Calls Tryd.prog 45 #[.agg #[.int .i64 t.kind, .int .i64 t.num, .int .i64 t.atN, vl, vk], .agg #[.int .i64 u.kind, .int .i64 u.num, .int .i64 u.atN, ul, uk]] W (Tells (t = u) W)
def SameTs (M : Nat) : Prop := ∀ (ls ms : List Tm) (v u : Value) (w : World), sizeL ls ≤ M → RKv w ls v → RKv w ms u →
    Calls Tryd.prog 77 #[v, u] w (Tells (ls = ms) w)

set_option maxRecDepth 100000 in
set_option maxHeartbeats 800000 in
theorem sameTs_of {M : Nat} (HS : SameT M) : SameTs M := by
  intro ls ms v u w hM hp hq
  obtain ⟨A, c, rfl, hc, hl, hcp⟩ := hp
  obtain ⟨A', c', rfl, hc', hl', hcq⟩ := hq
  generalize hnp : ls.length = n at *
  generalize hnq : ms.length = m at *
  have HP := Lib.hid hnp; clear hnp
  have HQ := Lib.hid hnq; clear hnq
  by_cases hn : n = m
  · subst hn
    have HCP := Lib.hid hcp; clear hcp
    have HCQ := Lib.hid hcq; clear hcq
    go_enter Tryd.func77, Tryd.ntmps77
    go_wp2_with fail
    go_loopw [5] (fun i wr => ∃ k : Nat, k ≤ n ∧ i = .int .i64 k ∧ Hid (ls.take k = ms.take k) ∧ Below w.heap.size w wr) (fun i _ => n - (intOf i).toNat)
    case atStart => exact ⟨0, Nat.zero_le _, rfl, rfl, Below.refl _ _⟩
    case round =>
      obtain ⟨k, hk, rfl, ht, hb⟩ := hrel
      by_cases hlt : k < n
      · obtain ⟨b, o, rfl, hcp⟩ := HCP.out (by omega)
        obtain ⟨b', o', rfl, hcq⟩ := HCQ.out (by omega)
        obtain ⟨p, hpk⟩ : ∃ p, ls[k]? = some p := ⟨_, List.getElem?_eq_getElem (by have := HP.out; omega)⟩
        obtain ⟨q, hqk⟩ : ∃ q, ms[k]? = some q := ⟨_, List.getElem?_eq_getElem (by have := HQ.out; omega)⟩
        obtain ⟨x, x', c1, c2, c3, c4, c5, hx⟩ := (hcp.below hb).get hpk
        obtain ⟨y, y', d1, d2, d3, d4, d5, hy⟩ := (hcq.below hb).get hqk
        have hcall := HS p q x x' y y' wr.drew (Nat.le_trans (size_at hpk) hM) (hx.below (below_drewN' (Below.refl _ _) 1)) (hy.below (below_drewN' (Below.refl _ _) 1))
        clear hcp hcq HCP HCQ
        have HPK := Lib.hid hpk; clear hpk
        have HQK := Lib.hid hqk; clear hqk
        have h1 : (k : Int) < (n : Int) := by omega
        have h0 : (0 : Int) ≤ (k : Int) := by omega
        clear hx hy
        have HNE : Hid (p ≠ q → ls ≠ ms) := fun h => get_ne HPK.out HQK.out h
        go_wp2_with fail
        go_still_tail 8, (by kernel_rfl)
        change wpList _ _ _ _ _ wr.drew
        go_wp2_with fail
        refine hcall.mono ?_
        rintro e w1 ⟨r, hr, rfl, hb1⟩
        have HB : Below w.heap.size w w1 := hb.trans ((Below.refl _ _).drew.trans (hb1.mono hb.size))
        clear hb1 hcall
        cases r with
        | true =>
          obtain rfl := hr.1 rfl
          clear hr
          go_wp2_with fail
          go_roundw
          case rel => exact ⟨k + 1, by omega, by go_num, take_same ht HPK.out HQK.out, HB⟩
          case measure => simp [intOf]; omega
        | false =>
          have HF := Lib.hid (HNE.out fun hh => by have := hr.2 hh; simp at this)
          clear hr
          go_wp2_with fail
          go_ret
          exact Tells.mk ⟨fun h => by simp at h, fun h => absurd h HF.out⟩ HB
      · obtain rfl : k = n := by omega
        have HF := Lib.hid (take_all ht HP.out HQ.out)
        clear HCP HCQ
        go_wp2_with fail
        go_ret
        exact Tells.mk ⟨fun _ => HF.out, fun _ => rfl⟩ hb
  · have hb : ((n : Int) != (m : Int)) = true := by simpa using (by omega : ¬ (n : Int) = m)
    have HF := Lib.hid (len_ne HP.out HQ.out hn)
    clear hcp hcq
    go_enter Tryd.func77, Tryd.ntmps77
    go_wp2_with fail
    go_ret
    exact Tells.mk ⟨fun h => by simp at h, fun h => absurd h HF.out⟩ (Below.refl _ _)

set_option maxRecDepth 100000 in
set_option maxHeartbeats 800000 in
theorem sameT_of {M : Nat} (HS : SameTs M) : SameT (M + 1) := by
  rintro ⟨k, n, a, ls, ks⟩ ⟨k', n', a', ms, js⟩ vl vk ul uk w hM hp hq
  rw [RT_iff] at hp hq
  simp only [size] at hM
  obtain ⟨hp1, hp2⟩ := hp
  obtain ⟨hq1, hq2⟩ := hq
  simp only [Tm.kind, Tm.num, Tm.atN]
  have hcall := sameLevels_any ls ms vl ul ((w.alloc (.cells #[.int .i64 k, .int .i64 n, .int .i64 a, vl, vk] 27)).alloc (.cells #[.int .i64 k', .int .i64 n', .int .i64 a', ul, uk] 27))
    (hp1.below (((Below.refl _ _).alloc (Nat.le_refl _) _).alloc (by simp) _)) (hq1.below (((Below.refl _ _).alloc (Nat.le_refl _) _).alloc (by simp) _))
  have hcall2 := fun W (hb : Below w.heap.size w W) => HS ks js vk uk W (by omega) (hp2.below hb) (hq2.below hb)
  clear hp1 hp2 hq1 hq2 HS
  by_cases h1 : k = k'
  · by_cases h2 : n = n'
    · by_cases h3 : a = a'
      · subst h1 h2 h3
        go_enter Tryd.func45, Tryd.ntmps45
        go_wp2_with fail
        refine hcall.mono ?_
        rintro e w1 ⟨r, hr, rfl, hb1⟩
        obtain ⟨hc, hf⟩ := bcell hb1
        have HB : Below w.heap.size w w1 := (((Below.refl _ _).alloc (Nat.le_refl _) _).alloc (by simp) _).trans (hb1.mono (by simp; omega))
        have hcall3 := hcall2 w1 HB
        clear hcall hb1 hcall2
        cases r with
        | true =>
          obtain rfl := hr.1 rfl
          clear hr
          go_wp2_with fail
          refine hcall3.mono ?_
          rintro e w2 ⟨r, hr, rfl, hb2⟩
          have HB2 := HB.trans (hb2.mono HB.size)
          have HR := Lib.hid hr
          clear hr hcall3 hb2 hc hf HB
          go_wp2_with fail
          go_ret
          exact Tells.mk (by rw [HR.out]; exact ⟨fun h => by rw [h], fun h => by injection h⟩) HB2
        | false =>
          have HF : Hid (¬ ls = ms) := fun hh => by have := hr.2 hh; simp at this
          clear hr hcall3
          go_wp2_with fail
          go_ret
          exact Tells.mk ⟨fun h => by simp at h, fun h => absurd (by injection h) HF.out⟩ HB
      · have e3 : (a == a') = false := by simpa using h3
        have HF : Hid (¬ a = a') := h3
        subst h1 h2
        clear h3 hcall hcall2
        go_enter Tryd.func45, Tryd.ntmps45
        go_wp2_with fail
        go_ret
        exact Tells.mk ⟨fun h => by simp at h, fun h => absurd (by injection h) HF.out⟩ (((Below.refl _ _).alloc (Nat.le_refl _) _).alloc (by simp) _)
    · have e2 : (n == n') = false := by simpa using h2
      have HF : Hid (¬ n = n') := h2
      subst h1
      clear h2 hcall hcall2
      go_enter Tryd.func45, Tryd.ntmps45
      go_wp2_with fail
      go_ret
      exact Tells.mk ⟨fun h => by simp at h, fun h => absurd (by injection h) HF.out⟩ (((Below.refl _ _).alloc (Nat.le_refl _) _).alloc (by simp) _)
  · have e1 : (k == k') = false := by simpa using h1
    have HF : Hid (¬ k = k') := h1
    clear h1 hcall hcall2
    go_enter Tryd.func45, Tryd.ntmps45
    go_wp2_with fail
    go_ret
    exact Tells.mk ⟨fun h => by simp at h, fun h => absurd (by injection h) HF.out⟩ (((Below.refl _ _).alloc (Nat.le_refl _) _).alloc (by simp) _)

theorem sameT_all : ∀ M, SameT M
  | 0 => fun t _ _ _ _ _ _ h => absurd (size_pos t) (by omega)
  | M + 1 => sameT_of (sameTs_of (sameT_all M))
theorem sameTerm_any (t u : Tm) (vl vk ul uk : Value) (W : World) (ht : RT W t vl vk) (hu : RT W u ul uk) :
    Calls Tryd.prog 45 #[.agg #[.int .i64 t.kind, .int .i64 t.num, .int .i64 t.atN, vl, vk], .agg #[.int .i64 u.kind, .int .i64 u.num, .int .i64 u.atN, ul, uk]] W (Tells (t = u) W) :=
  sameT_all _ t u vl vk ul uk W (Nat.le_refl _) ht hu
theorem sameTerms_any (ls ms : List Tm) (v u : Value) (w : World) (hv : RKv w ls v) (hu : RKv w ms u) : Calls Tryd.prog 77 #[v, u] w (Tells (ls = ms) w) :=
  sameTs_of (sameT_all _) ls ms v u w (Nat.le_refl _) hv hu

end Go.Proofs.YtgegaipkfpdocaaDoor
