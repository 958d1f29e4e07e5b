/-
  THE KIT'S 'Same..': two lists of parts, levels, terms are told the same where they are.
-/
import Derived.Test.YtajpkhkfffdclaaDoorRep
import Derived.Laws.StructEq
import Derived.StillTailTactics
namespace Go.Proofs.YtajpkhkfffdclaaDoor
open Go.RowKit

theorem fields_part : (Tryd.prog.fieldsOf 48).toList.map (fun f => (f.name == "_", f.type, f.offset)) = [(false, 3, 0), (false, 3, 1)] := by kernel_rfl
theorem ne_part (a b c d : Int) (w : World) : (binOp .neq 48 (.agg #[.int .i64 a, .int .i64 b]) (.agg #[.int .i64 c, .int .i64 d])).run Tryd.prog w = .ok (.bool (!(a == c && b == d))) w := by
  have hF := fields_part
  rw [run_neq_struct, run_equalIn_struct w 9999 _ _ _ (by kernel_rfl) (by kernel_rfl)]
  generalize (Tryd.prog.fieldsOf 48).toList = fs at hF
  obtain ⟨f0, fs, rfl⟩ : ∃ x l, fs = x :: l := by cases fs with | nil => simp at hF | cons x l => exact ⟨x, l, rfl⟩
  obtain ⟨f1, fs, rfl⟩ : ∃ x l, fs = x :: l := by cases fs with | nil => simp at hF | cons x l => exact ⟨x, l, rfl⟩
  obtain rfl : fs = [] := by cases fs with | nil => rfl | cons x l => simp at hF
  simp only [List.map_cons, List.map_nil, List.cons.injEq, Prod.mk.injEq, and_true] at hF
  obtain ⟨⟨n0, t0, o0⟩, n1, t1, o1⟩ := hF
  have n0' : f0.name ≠ "_" := by simpa using n0
  have n1' : f1.name ≠ "_" := by simpa using n1
  have hp : ∀ (xs : Array Value) (i : Nat) (x : Int), xs[i]? = some (.int .i64 x) → (part 3 xs i).run Tryd.prog w = .ok (.int .i64 x) w := by
    intro xs i x hx
    simp [part, go_sem, hx]
  have p1 := hp #[.int .i64 a, .int .i64 b] 0 a rfl
  have p2 := hp #[.int .i64 a, .int .i64 b] 1 b rfl
  have p3 := hp #[.int .i64 c, .int .i64 d] 0 c rfl
  have p4 := hp #[.int .i64 c, .int .i64 d] 1 d rfl
  have e1 := run_equalIn_int (P := Tryd.prog) w 9998 3 .i64 .i64 a c Tryd.underlying3
  have e2 := run_equalIn_int (P := Tryd.prog) w 9998 3 .i64 .i64 b d Tryd.underlying3
  simp only [Op.eqFields, if_pos n0', if_pos n1', Sem.run_bind, t0, o0, t1, o1, p1, p3, e1, Result.andThen_ok]
  cases h1 : (a == c)
  · simp
  · simp only [Bool.not_true, Bool.false_eq_true, if_false, Sem.run_bind, p2, p4, e2, Result.andThen_ok]
    cases h2 : (b == d) <;> simp

theorem take_same {α : Type} {xs ys : List α} {k : Nat} {p : α} (h : xs.take k = ys.take k) (hx : xs[k]? = some p) (hy : ys[k]? = some p) : xs.take (k + 1) = ys.take (k + 1) := by
  rw [List.take_add_one, List.take_add_one, h, hx, hy]
theorem take_all {α : Type} {xs ys : List α} {n : Nat} (h : xs.take n = ys.take n) (hx : xs.length = n) (hy : ys.length = n) : xs = ys := by
  rw [List.take_of_length_le (by omega), List.take_of_length_le (by omega)] at h
  exact h
theorem get_ne {α : Type} {xs ys : List α} {k : Nat} {p q : α} (hx : xs[k]? = some p) (hy : ys[k]? = some q) (hne : p ≠ q) : xs ≠ ys := by
  rintro rfl
  rw [hx] at hy
  exact hne (Option.some.inj hy)
theorem len_ne {α : Type} {xs ys : List α} {n m : Nat} (hx : xs.length = n) (hy : ys.length = m) (hne : ¬ n = m) : xs ≠ ys := by
  rintro rfl
  omega

set_option maxRecDepth 100000 in
set_option maxHeartbeats 400000 in
theorem sameParts_any (ps qs : Lv) (v u : Value) (w : World) (hp : RPv w ps v) (hq : RPv w qs u) :
    Calls Tryd.prog 111 #[v, u] w fun e w' => e = .returned (.bool (decide (ps = qs))) ∧ Below w.heap.size w w' := by
  obtain ⟨A, c, rfl, hc, hl, hcp⟩ := hp
  obtain ⟨A', c', rfl, hc', hl', hcq⟩ := hq
  generalize hnp : ps.length = n at *
  generalize hnq : qs.length = m at *
  have HP := Lib.hid hnp; clear hnp
  have HQ := Lib.hid hnq; clear hnq
  have hne := ne_part
  by_cases hn : n = m
  · subst hn
    have HCP := Lib.hid hcp; clear hcp
    have HCQ := Lib.hid hcq; clear hcq
    go_enter Tryd.func111, Tryd.ntmps111
    go_wp2_with fail
    go_loopw [5] (fun i wr => ∃ k : Nat, k ≤ n ∧ i = .int .i64 k ∧ Hid (ps.take k = qs.take k) ∧ Below w.heap.size w wr) (fun i _ => n - (intOf i).toNat)
    case atStart => exact ⟨0, Nat.zero_le _, rfl, rfl, Below.refl _ _⟩
    case round =>
      obtain ⟨k, hk, rfl, ht, hb⟩ := hrel
      by_cases hlt : k < n
      · obtain ⟨b, o, rfl, hcp⟩ := HCP.out (by omega)
        obtain ⟨b', o', rfl, hcq⟩ := HCQ.out (by omega)
        obtain ⟨p, hpk⟩ : ∃ p, ps[k]? = some p := ⟨_, List.getElem?_eq_getElem (by have := HP.out; omega)⟩
        obtain ⟨q, hqk⟩ : ∃ q, qs[k]? = some q := ⟨_, List.getElem?_eq_getElem (by have := HQ.out; omega)⟩
        obtain ⟨c1, c2⟩ := (hcp.below hb).get hpk
        obtain ⟨c3, c4⟩ := (hcq.below hb).get hqk
        clear hcp hcq HCP HCQ
        have HPK := Lib.hid hpk; clear hpk
        have HQK := Lib.hid hqk; clear hqk
        have h1 : (k : Int) < (n : Int) := by omega
        have h0 : (0 : Int) ≤ (k : Int) := by omega
        by_cases hpq : p = q
        · subst hpq
          go_wp2_with fail
          go_quiet (fail)
          go_wp2_with fail
          go_roundw
          case rel => exact ⟨k + 1, by omega, by go_num, take_same ht HPK.out HQK.out, below_drewN' hb _⟩
          case measure => simp [intOf]; omega
        · have hd : (p.1 == q.1 && p.2 == q.2) = false := by
            cases h : (p.1 == q.1 && p.2 == q.2)
            · rfl
            · simp only [Bool.and_eq_true, beq_iff_eq] at h
              exact absurd (Prod.ext h.1 h.2) hpq
          have HF := Lib.hid (get_ne HPK.out HQK.out hpq)
          clear hpq
          go_wp2_with fail
          go_quiet (fail)
          go_wp2_with fail
          all_goals go_ret
          all_goals exact ⟨ret_bool (decide_eq_false HF.out).symm, below_drewN' hb _⟩
      · obtain rfl : k = n := by omega
        have HF := Lib.hid (take_all ht HP.out HQ.out)
        clear HCP HCQ
        go_wp2_with fail
        go_ret
        exact ⟨ret_bool (decide_eq_true HF.out).symm, hb⟩
  · have hb : ((n : Int) != (m : Int)) = true := by simpa using (by omega : ¬ (n : Int) = m)
    have HF := Lib.hid (len_ne HP.out HQ.out hn)
    clear hcp hcq
    go_enter Tryd.func111, Tryd.ntmps111
    go_wp2_with fail
    go_ret
    exact ⟨ret_bool (decide_eq_false HF.out).symm, Below.refl _ _⟩

/-- A bool that tells whether p holds; old memory as it was. -/
def Tells (p : Prop) (w : World) (e : Ending) (w' : World) : Prop := ∃ r : Bool, (r = true ↔ p) ∧ e = .returned (.bool r) ∧ Below w.heap.size w w'
theorem Tells.mk {p : Prop} {w w' : World} {r : Bool} (h : r = true ↔ p) (hb : Below w.heap.size w w') : Tells p w (.returned (.bool r)) w' := ⟨r, h, rfl, hb⟩

theorem sameLevel_any (ps qs : Lv) (v u : Value) (w : World) (hp : RPv w ps v) (hq : RPv w qs u) :
    Calls Tryd.prog 94 #[.agg #[v], .agg #[u]] w (Tells (ps = qs) w) := by
  have H : ∀ W, Below w.heap.size w W → Calls Tryd.prog 111 #[v, u] W fun e w' => e = .returned (.bool (decide (ps = qs))) ∧ Below w.heap.size w w' := fun W hb =>
    (sameParts_any ps qs v u W (hp.below hb) (hq.below hb)).mono fun e w' ⟨h1, h2⟩ => ⟨h1, hb.trans (h2.mono hb.size)⟩
  obtain ⟨A, c, rfl, hc, hl, hcp⟩ := hp
  obtain ⟨A', c', rfl, hc', hl', hcq⟩ := hq
  generalize hr : decide (ps = qs) = r at H
  have HR := Lib.hid hr; clear hr hcp hcq
  go_enter Tryd.func94, Tryd.ntmps94
  go_wp2_with fail
  refine (H _ ?_).mono ?_
  · exact ((Below.refl _ _).alloc (Nat.le_refl _) _).alloc (by simp) _
  rintro e w1 ⟨rfl, hb1⟩
  go_wp2_with fail
  go_ret
  exact Tells.mk (by rw [← HR.out]; simp) hb1

set_option maxRecDepth 100000 in
set_option maxHeartbeats 400000 in
theorem sameLevels_any (ls ms : List Lv) (v u : Value) (w : World) (hp : RLv w ls v) (hq : RLv w ms u) :
    Calls Tryd.prog 70 #[v, u] w (Tells (ls = ms) w) := by
  obtain ⟨A, c, rfl, hc, hl, hcp⟩ := hp
  obtain ⟨A', c', rfl, hc', hl', hcq⟩ := hq
  generalize hnp : ls.length = n at *
  generalize hnq : ms.length = m at *
  have HP := Lib.hid hnp; clear hnp
  have HQ := Lib.hid hnq; clear hnq
  by_cases hn : n = m
  · subst hn
    have HCP := Lib.hid hcp; clear hcp
    have HCQ := Lib.hid hcq; clear hcq
    go_enter Tryd.func70, Tryd.ntmps70
    go_wp2_with fail
    go_loopw [5] (fun i wr => ∃ k : Nat, k ≤ n ∧ i = .int .i64 k ∧ Hid (ls.take k = ms.take k) ∧ Below w.heap.size w wr) (fun i _ => n - (intOf i).toNat)
    case atStart => exact ⟨0, Nat.zero_le _, rfl, rfl, Below.refl _ _⟩
    case round =>
      obtain ⟨k, hk, rfl, ht, hb⟩ := hrel
      by_cases hlt : k < n
      · obtain ⟨b, o, rfl, hcp⟩ := HCP.out (by omega)
        obtain ⟨b', o', rfl, hcq⟩ := HCQ.out (by omega)
        obtain ⟨p, hpk⟩ : ∃ p, ls[k]? = some p := ⟨_, List.getElem?_eq_getElem (by have := HP.out; omega)⟩
        obtain ⟨q, hqk⟩ : ∃ q, ms[k]? = some q := ⟨_, List.getElem?_eq_getElem (by have := HQ.out; omega)⟩
        obtain ⟨x, c1, hx⟩ := (hcp.below hb).get hpk
        obtain ⟨y, c2, hy⟩ := (hcq.below hb).get hqk
        clear hcp hcq HCP HCQ
        have HPK := Lib.hid hpk; clear hpk
        have HQK := Lib.hid hqk; clear hqk
        have h1 : (k : Int) < (n : Int) := by omega
        have h0 : (0 : Int) ≤ (k : Int) := by omega
        have hcall := sameLevel_any p q x y wr.drew (hx.below (below_drewN' (Below.refl _ _) 1)) (hy.below (below_drewN' (Below.refl _ _) 1))
        clear hx hy
        have HNE : Hid (p ≠ q → ls ≠ ms) := fun h => get_ne HPK.out HQK.out h
        go_wp2_with fail
        go_still_tail 8, (by kernel_rfl)
        change wpList _ _ _ _ _ wr.drew
        go_wp2_with fail
        refine hcall.mono ?_
        rintro e w1 ⟨r, hr, rfl, hb1⟩
        have HB : Below w.heap.size w w1 := hb.trans ((Below.refl _ _).drew.trans (hb1.mono hb.size))
        clear hb1 hcall
        cases r with
        | true =>
          obtain rfl := hr.1 rfl
          clear hr
          go_wp2_with fail
          go_roundw
          case rel => exact ⟨k + 1, by omega, by go_num, take_same ht HPK.out HQK.out, HB⟩
          case measure => simp [intOf]; omega
        | false =>
          have HF := Lib.hid (HNE.out fun hh => by have := hr.2 hh; simp at this)
          clear hr
          go_wp2_with fail
          go_ret
          exact Tells.mk ⟨fun h => by simp at h, fun h => absurd h HF.out⟩ HB
      · obtain rfl : k = n := by omega
        have HF := Lib.hid (take_all ht HP.out HQ.out)
        clear HCP HCQ
        go_wp2_with fail
        go_ret
        exact Tells.mk ⟨fun _ => HF.out, fun _ => rfl⟩ hb
  · have hb : ((n : Int) != (m : Int)) = true := by simpa using (by omega : ¬ (n : Int) = m)
    have HF := Lib.hid (len_ne HP.out HQ.out hn)
    clear hcp hcq
    go_enter Tryd.func70, Tryd.ntmps70
    go_wp2_with fail
    go_ret
    exact Tells.mk ⟨fun h => by simp at h, fun h => absurd h HF.out⟩ (Below.refl _ _)

def SameT (M : Nat) : Prop := ∀ (t u : Tm) (vl vk ul uk : Value) (W : World), size t ≤ M → RT W t vl vk → RT W u ul uk →
    Calls Tryd.prog 36 #[.agg #[.int .i64 t.kind, .int .i64 t.num, .int .i64 t.atN, vl, vk], .agg #[.int .i64 u.kind, .int .i64 u.num, .int .i64 u.atN, ul, uk]] W (Tells (t = u) W)
def SameTs (M : Nat) : Prop := ∀ (ls ms : List Tm) (v u : Value) (w : World), sizeL ls ≤ M → RKv w ls v → RKv w ms u →
    Calls Tryd.prog 71 #[v, u] w (Tells (ls = ms) w)

set_option maxRecDepth 100000 in
set_option maxHeartbeats 800000 in
theorem sameTs_of {M : Nat} (HS : SameT M) : SameTs M := by
  intro ls ms v u w hM hp hq
  obtain ⟨A, c, rfl, hc, hl, hcp⟩ := hp
  obtain ⟨A', c', rfl, hc', hl', hcq⟩ := hq
  generalize hnp : ls.length = n at *
  generalize hnq : ms.length = m at *
  have HP := Lib.hid hnp; clear hnp
  have HQ := Lib.hid hnq; clear hnq
  by_cases hn : n = m
  · subst hn
    have HCP := Lib.hid hcp; clear hcp
    have HCQ := Lib.hid hcq; clear hcq
    go_enter Tryd.func71, Tryd.ntmps71
    go_wp2_with fail
    go_loopw [5] (fun i wr => ∃ k : Nat, k ≤ n ∧ i = .int .i64 k ∧ Hid (ls.take k = ms.take k) ∧ Below w.heap.size w wr) (fun i _ => n - (intOf i).toNat)
    case atStart => exact ⟨0, Nat.zero_le _, rfl, rfl, Below.refl _ _⟩
    case round =>
      obtain ⟨k, hk, rfl, ht, hb⟩ := hrel
      by_cases hlt : k < n
      · obtain ⟨b, o, rfl, hcp⟩ := HCP.out (by omega)
        obtain ⟨b', o', rfl, hcq⟩ := HCQ.out (by omega)
        obtain ⟨p, hpk⟩ : ∃ p, ls[k]? = some p := ⟨_, List.getElem?_eq_getElem (by have := HP.out; omega)⟩
        obtain ⟨q, hqk⟩ : ∃ q, ms[k]? = some q := ⟨_, List.getElem?_eq_getElem (by have := HQ.out; omega)⟩
        obtain ⟨x, x', c1, c2, c3, c4, c5, hx⟩ := (hcp.below hb).get hpk
        obtain ⟨y, y', d1, d2, d3, d4, d5, hy⟩ := (hcq.below hb).get hqk
        have hcall := HS p q x x' y y' wr.drew (Nat.le_trans (size_at hpk) hM) (hx.below (below_drewN' (Below.refl _ _) 1)) (hy.below (below_drewN' (Below.refl _ _) 1))
        clear hcp hcq HCP HCQ
        have HPK := Lib.hid hpk; clear hpk
        have HQK := Lib.hid hqk; clear hqk
        have h1 : (k : Int) < (n : Int) := by omega
        have h0 : (0 : Int) ≤ (k : Int) := by omega
        clear hx hy
        have HNE : Hid (p ≠ q → ls ≠ ms) := fun h => get_ne HPK.out HQK.out h
        go_wp2_with fail
        go_still_tail 8, (by kernel_rfl)
        change wpList _ _ _ _ _ wr.drew
        go_wp2_with fail
        refine hcall.mono ?_
        rintro e w1 ⟨r, hr, rfl, hb1⟩
        have HB : Below w.heap.size w w1 := hb.trans ((Below.refl _ _).drew.trans (hb1.mono hb.size))
        clear hb1 hcall
        cases r with
        | true =>
          obtain rfl := hr.1 rfl
          clear hr
          go_wp2_with fail
          go_roundw
          case rel => exact ⟨k + 1, by omega, by go_num, take_same ht HPK.out HQK.out, HB⟩
          case measure => simp [intOf]; omega
        | false =>
          have HF := Lib.hid (HNE.out fun hh => by have := hr.2 hh; simp at this)
          clear hr
          go_wp2_with fail
          go_ret
          exact Tells.mk ⟨fun h => by simp at h, fun h => absurd h HF.out⟩ HB
      · obtain rfl : k = n := by omega
        have HF := Lib.hid (take_all ht HP.out HQ.out)
        clear HCP HCQ
        go_wp2_with fail
        go_ret
        exact Tells.mk ⟨fun _ => HF.out, fun _ => rfl⟩ hb
  · have hb : ((n : Int) != (m : Int)) = true := by simpa using (by omega : ¬ (n : Int) = m)
    have HF := Lib.hid (len_ne HP.out HQ.out hn)
    clear hcp hcq
    go_enter Tryd.func71, Tryd.ntmps71
    go_wp2_with fail
    go_ret
    exact Tells.mk ⟨fun h => by simp at h, fun h => absurd h HF.out⟩ (Below.refl _ _)

set_option maxRecDepth 100000 in
set_option maxHeartbeats 800000 in
theorem sameT_of {M : Nat} (HS : SameTs M) : SameT (M + 1) := by
  rintro ⟨k, n, a, ls, ks⟩ ⟨k', n', a', ms, js⟩ vl vk ul uk w hM hp hq
  rw [RT_iff] at hp hq
  simp only [size] at hM
  obtain ⟨hp1, hp2⟩ := hp
  obtain ⟨hq1, hq2⟩ := hq
  simp only [Tm.kind, Tm.num, Tm.atN]
  have hcall := sameLevels_any ls ms vl ul ((w.alloc (.cells #[.int .i64 k, .int .i64 n, .int .i64 a, vl, vk] 26)).alloc (.cells #[.int .i64 k', .int .i64 n', .int .i64 a', ul, uk] 26))
    (hp1.below (((Below.refl _ _).alloc (Nat.le_refl _) _).alloc (by simp) _)) (hq1.below (((Below.refl _ _).alloc (Nat.le_refl _) _).alloc (by simp) _))
  have hcall2 := fun W (hb : Below w.heap.size w W) => HS ks js vk uk W (by omega) (hp2.below hb) (hq2.below hb)
  clear hp1 hp2 hq1 hq2 HS
  by_cases h1 : k = k'
  · by_cases h2 : n = n'
    · by_cases h3 : a = a'
      · subst h1 h2 h3
        go_enter Tryd.func36, Tryd.ntmps36
        go_wp2_with fail
        refine hcall.mono ?_
        rintro e w1 ⟨r, hr, rfl, hb1⟩
        obtain ⟨hc, hf⟩ := bcell hb1
        have HB : Below w.heap.size w w1 := (((Below.refl _ _).alloc (Nat.le_refl _) _).alloc (by simp) _).trans (hb1.mono (by simp; omega))
        have hcall3 := hcall2 w1 HB
        clear hcall hb1 hcall2
        cases r with
        | true =>
          obtain rfl := hr.1 rfl
          clear hr
          go_wp2_with fail
          refine hcall3.mono ?_
          rintro e w2 ⟨r, hr, rfl, hb2⟩
          have HB2 := HB.trans (hb2.mono HB.size)
          have HR := Lib.hid hr
          clear hr hcall3 hb2 hc hf HB
          go_wp2_with fail
          go_ret
          exact Tells.mk (by rw [HR.out]; exact ⟨fun h => by rw [h], fun h => by injection h⟩) HB2
        | false =>
          have HF : Hid (¬ ls = ms) := fun hh => by have := hr.2 hh; simp at this
          clear hr hcall3
          go_wp2_with fail
          go_ret
          exact Tells.mk ⟨fun h => by simp at h, fun h => absurd (by injection h) HF.out⟩ HB
      · have e3 : (a == a') = false := by simpa using h3
        have HF : Hid (¬ a = a') := h3
        subst h1 h2
        clear h3 hcall hcall2
        go_enter Tryd.func36, Tryd.ntmps36
        go_wp2_with fail
        go_ret
        exact Tells.mk ⟨fun h => by simp at h, fun h => absurd (by injection h) HF.out⟩ (((Below.refl _ _).alloc (Nat.le_refl _) _).alloc (by simp) _)
    · have e2 : (n == n') = false := by simpa using h2
      have HF : Hid (¬ n = n') := h2
      subst h1
      clear h2 hcall hcall2
      go_enter Tryd.func36, Tryd.ntmps36
      go_wp2_with fail
      go_ret
      exact Tells.mk ⟨fun h => by simp at h, fun h => absurd (by injection h) HF.out⟩ (((Below.refl _ _).alloc (Nat.le_refl _) _).alloc (by simp) _)
  · have e1 : (k == k') = false := by simpa using h1
    have HF : Hid (¬ k = k') := h1
    clear h1 hcall hcall2
    go_enter Tryd.func36, Tryd.ntmps36
    go_wp2_with fail
    go_ret
    exact Tells.mk ⟨fun h => by simp at h, fun h => absurd (by injection h) HF.out⟩ (((Below.refl _ _).alloc (Nat.le_refl _) _).alloc (by simp) _)

theorem sameT_all : ∀ M, SameT M
  | 0 => fun t _ _ _ _ _ _ h => absurd (size_pos t) (by omega)
  | M + 1 => sameT_of (sameTs_of (sameT_all M))
theorem sameTerm_any (t u : Tm) (vl vk ul uk : Value) (W : World) (ht : RT W t vl vk) (hu : RT W u ul uk) :
    Calls Tryd.prog 36 #[.agg #[.int .i64 t.kind, .int .i64 t.num, .int .i64 t.atN, vl, vk], .agg #[.int .i64 u.kind, .int .i64 u.num, .int .i64 u.atN, ul, uk]] W (Tells (t = u) W) :=
  sameT_all _ t u vl vk ul uk W (Nat.le_refl _) ht hu
theorem sameTerms_any (ls ms : List Tm) (v u : Value) (w : World) (hv : RKv w ls v) (hu : RKv w ms u) : Calls Tryd.prog 71 #[v, u] w (Tells (ls = ms) w) :=
  sameTs_of (sameT_all _) ls ms v u w (Nat.le_refl _) hv hu

end Go.Proofs.YtajpkhkfffdclaaDoor
