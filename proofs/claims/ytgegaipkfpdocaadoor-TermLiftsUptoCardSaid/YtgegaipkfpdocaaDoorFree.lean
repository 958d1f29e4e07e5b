/-
  THE WALK OF term.Free.
-/
import Derived.Test.YtgegaipkfpdocaaDoorLift
import Derived.Deep.CutBlock
namespace Go.Proofs.YtgegaipkfpdocaaDoor
open Go.RowKit
set_option linter.unusedSimpArgs false
set_option linter.unusedVariables false
set_option maxRecDepth 100000

theorem belowN_any (d : Int) (k : Int) (i : Nat) (w : World) (hK : Kinds w) (h0 : 0 ≤ d) (h1 : d ≤ 4611686018427387904) :
    Calls Tryd.prog 69 #[.agg #[.int .i64 d, .nilFunc], .int .i64 k, .int .i64 i] w fun e w' => e = .returned (.agg #[.int .i64 (inner k i d), .nilFunc]) ∧ Below w.heap.size w w' := by
  have hcall := fun W (hb : Below w.heap.size w W) => binds_any k i W (hK.below hb)
  have hv : Hid (inner k i d = if (i : Int) = bnd k then d + 1 else d) := rfl
  by_cases hbk : (i : Int) = bnd k
  · rw [bindsB_true ⟨hbk.symm, by omega⟩] at hcall
    have HV : Hid (inner k i d = d + 1) := by rw [Hid, hv.out, if_pos hbk]
    clear hv hbk hK
    go_enter Tryd.func69, Tryd.ntmps69
    go_wp2_with fail
    refine (hcall _ ?_).mono ?_
    · exact ((Below.refl _ _).alloc (Nat.le_refl _) _).alloc (by simp) _
    rintro e w1 ⟨rfl, rfl⟩
    clear hcall
    go_wp2_with fail
    refine bodyPost_ret (v := .agg #[.int .i64 (d + 1), .nilFunc]) (by simp [results, Tryd.results69, go_sem]) rfl ⟨by rw [HV.out], ?_⟩
    exact ((Below.refl _ _).alloc (Nat.le_refl _) _).alloc (by simp) _
  · rw [bindsB_false (by omega)] at hcall
    have HV : Hid (inner k i d = d) := by rw [Hid, hv.out, if_neg hbk]
    clear hv hbk hK
    go_enter Tryd.func69, Tryd.ntmps69
    go_wp2_with fail
    refine (hcall _ ?_).mono ?_
    · exact ((Below.refl _ _).alloc (Nat.le_refl _) _).alloc (by simp) _
    rintro e w1 ⟨rfl, rfl⟩
    clear hcall
    go_wp2_with fail
    refine bodyPost_ret (v := .agg #[.int .i64 d, .nilFunc]) (by simp [results, Tryd.results69, go_sem]) rfl ⟨by rw [HV.out], ?_⟩
    exact ((Below.refl _ _).alloc (Nat.le_refl _) _).alloc (by simp) _

mutual
/-- Does an outer variable from lo to hi occur? -/
def freeB (lo hi d : Int) : Tm → Bool
  | .node k m _ _ ks => decide (k = 1 ∧ d ≤ m ∧ lo ≤ m - d ∧ m - d < hi) || freeL lo hi d k 0 ks
def freeL (lo hi d k : Int) : Nat → List Tm → Bool
  | _, [] => false
  | i, t :: ts => freeB lo hi (inner k i d) t || freeL lo hi d k (i + 1) ts
end
theorem freeL_snoc (lo hi d k : Int) : ∀ (i : Nat) (ts : List Tm) (t : Tm), freeL lo hi d k i (ts ++ [t]) = (freeL lo hi d k i ts || freeB lo hi (inner k (i + ts.length : Nat) d) t)
  | i, [], t => by simp [freeL]
  | i, x :: xs, t => by
    simp only [List.cons_append, freeL, freeL_snoc lo hi d k (i + 1) xs t, List.length_cons, Bool.or_assoc]
    rw [show i + 1 + xs.length = i + (xs.length + 1) by omega]
theorem freeL_yes {lo hi d k : Int} : ∀ {i : Nat} {ts : List Tm} {j : Nat} {t : Tm}, ts[j]? = some t → freeB lo hi (inner k (i + j : Nat) d) t = true → freeL lo hi d k i ts = true
  | _, [], _, _, h, _ => by simp at h
  | i, x :: xs, 0, t, h, hf => by
    simp only [List.getElem?_cons_zero, Option.some.injEq] at h
    subst h
    simp only [freeL, Bool.or_eq_true]
    exact .inl hf
  | i, x :: xs, j + 1, t, h, hf => by
    simp only [freeL, Bool.or_eq_true]
    exact .inr (freeL_yes (i := i + 1) (j := j) (by simpa using h) (by rw [show i + 1 + j = i + (j + 1) by omega]; exact hf))
theorem take_oneF {α : Type} {xs : List α} {k : Nat} {p : α} (h : xs[k]? = some p) : xs.take (k + 1) = xs.take k ++ [p] := by rw [List.take_add_one, h]; rfl

def FreeAt (M : Nat) : Prop := ∀ (lo hi d : Int) (t : Tm) (vl vk : Value) (W : World), size t ≤ M → Kinds W → RT W t vl vk → ranged t → 0 ≤ d → d + size t ≤ 4611686018427387904 →
    Calls Tryd.prog 46 #[.agg #[.int .i64 d, .nilFunc], .agg #[.int .i64 t.kind, .int .i64 t.num, .int .i64 t.atN, vl, vk], .int .i64 lo, .int .i64 hi] W fun e w' => e = .returned (.bool (freeB lo hi d t)) ∧ Below W.heap.size W w'

set_option maxHeartbeats 8000000 in
theorem free_of {M : Nat} (HF : FreeAt M) : FreeAt (M + 1) := by
  rintro lo hi d ⟨k, m, a, ls, ks⟩ vl vk w hM hK hp hg h0 h1
  rw [RT_iff] at hp
  simp only [size] at hM h1
  simp only [ranged] at hg
  obtain ⟨⟨-, hgm, -⟩, hgk⟩ := hg
  simp only [Tm.kind, Tm.num, Tm.atN]
  obtain ⟨w0, hw0⟩ : ∃ w0, (w.alloc (.cells #[.int .i64 d, .nilFunc] 66)).alloc (.cells #[.int .i64 k, .int .i64 m, .int .i64 a, vl, vk] 27) = w0 := ⟨_, rfl⟩
  have hb0 : Below w.heap.size w w0 := by rw [← hw0]; exact ((Below.refl _ _).alloc (Nat.le_refl _) _).alloc (by simp) _
  have B0 : Box w0 w.heap.size [.int .i64 d, .nilFunc] := by rw [← hw0]; exact (Box.new w [_, _] _).alloc _
  have B1 : Box w0 (w.heap.size + 1) [.int .i64 k, .int .i64 m, .int .i64 a, vl, vk] := by rw [← hw0]; exact Box.new' _ [_, _, _, _, _] _ (by simp)
  have HP := Lib.hid (hp.2.below hb0)
  have HK := Lib.hid (hK.below hb0)
  obtain ⟨⟨A1, c1, rfl, -⟩, A2, c2, rfl, -, k4, -⟩ := hp
  have K2 : (ks.length : Int) ≤ 8796093022208 := by omega
  have HMEAN := Lib.hid (fun W => means_any d m W)
  have hwm : d ≤ m → wrap64 (m - d) = m - d := fun h => wrap_sub hgm h0 h
  have HGK := Lib.hid hgk
  generalize hres : freeB lo hi d (.node k m a ls ks) = res
  have HR : Hid ((decide (k = 1 ∧ d ≤ m ∧ lo ≤ m - d ∧ m - d < hi) || freeL lo hi d k 0 ks) = res) := by simp only [freeB] at hres; exact hres
  generalize hnn : ks.length = n at *
  have HN := Lib.hid hnn
  have HB0 := Lib.hid B0
  have HB1 := Lib.hid B1
  have HW := Lib.hid hwm
  clear hnn hres B0 B1 hK hgk hgm hwm k4
  have p0 := HB0.out.cell (j := 0) rfl
  have p1 := HB0.out.cell (j := 1) rfl
  obtain ⟨q0, q1, q2, q3, q4⟩ := HB1.out.five
  go_enter Tryd.func46, Tryd.ntmps46
  go_wp2_with fail
  refine (HMEAN.out w0).mono ?_
  rintro e w1 ⟨rfl, hb1⟩
  have HBB := Lib.hid hb1
  clear hw0 HMEAN p0 p1 q0 q1 q2 q3 q4
  obtain ⟨q0, q1, q2, q3, q4⟩ := (HB1.out.below hb1).five
  clear hb1
  go_upto_region 2 with fail
  go_cut [1, 36] from 9 (fun _ v wr => v = .bool (decide (k = 1 ∧ d ≤ m ∧ lo ≤ m - d ∧ m - d < hi)) ∧ wr = w1)
  case first =>
    by_cases e1 : k = 1
    · by_cases e2 : d ≤ m
      · rw [HW.out e2]
        by_cases e3 : lo ≤ m - d
        · by_cases e4 : m - d < hi
          · go_wp2_with fail
            go_meet
            exact ⟨by simp [e1, e2, e3, e4], rfl⟩
          · go_wp2_with fail
            go_meet
            exact ⟨by first | (rw [decide_eq_false (fun h => by omega)]; done) | (simp [*]; done) | (simp; omega), rfl⟩
        · go_wp2_with fail
          go_meet
          exact ⟨by first | (rw [decide_eq_false (fun h => by omega)]; done) | (simp [*]; done) | (simp; omega), rfl⟩
      · go_wp2_with fail
        go_meet
        exact ⟨by first | (rw [decide_eq_false (fun h => by omega)]; done) | (simp [*]; done) | (simp; omega), rfl⟩
    · go_wp2_with fail
      go_meet
      exact ⟨by first | (rw [decide_eq_false (fun h => by omega)]; done) | (simp [*]; done) | (simp; omega), rfl⟩
  case rest =>
    obtain ⟨rfl, rfl⟩ := hcut
    generalize decide (k = 1 ∧ d ≤ m ∧ lo ≤ m - d ∧ m - d < hi) = hit at *
    have HBW := Lib.hid (hb0.trans (HBB.out.mono hb0.size))
    have HK1 := Lib.hid (HK.out.below HBB.out)
    have HP1 := Lib.hid (HP.out.below HBB.out)
    have HX0 := Lib.hid (HB0.out.below HBB.out)
    have HX1 := Lib.hid (HB1.out.below HBB.out)
    clear HK HP HB0 HB1 HBB
    cases hit
    case true =>
      go_wp2_with fail
      go_ret
      exact ⟨ret_bool (by rw [← HR.out]; rfl), HBW.out⟩
    case false =>
      go_wp2_with fail
      go_loopw [40] (fun i wr => ∃ j : Nat, j ≤ n ∧ i = .int .i64 j ∧ Hid (freeL lo hi d k 0 (ks.take j) = false) ∧ Below wc.heap.size wc wr) (fun i _ => n - (RowKit.intOf i).toNat)
      case atStart => exact ⟨0, Nat.zero_le _, rfl, Lib.hid rfl, Below.refl _ _⟩
      case round =>
        obtain ⟨j, hj, rfl, hS, hb⟩ := hrel
        have hj0 : (0 : Int) ≤ (j : Int) := by omega
        by_cases hlt : (j : Int) < (n : Int)
        · obtain ⟨A5, c5, e5, -, -, hcp⟩ := HP1.out.below hb
          injection e5 with e5 e5a e5b
          subst e5
          clear e5a e5b
          obtain ⟨b, o, rfl, hcq⟩ := hcp (by have := HN.out; omega)
          clear hcp
          obtain ⟨t, ht⟩ : ∃ t, ks[j]? = some t := ⟨_, List.getElem?_eq_getElem (by have := HN.out; omega)⟩
          obtain ⟨tl, tk, x1, x2, x3, x4, x5, hx⟩ := hcq.get ht
          have hsz := size_at ht
          have hin := inner_le k j d
          obtain ⟨w5, hw5⟩ : ∃ w5, wr.alloc (.cells #[.int .i64 t.kind, .int .i64 t.num, .int .i64 t.atN, tl, tk] 27) = w5 := ⟨_, rfl⟩
          have hb5 : Below wr.heap.size wr w5 := by rw [← hw5]; exact (Below.refl _ _).alloc (Nat.le_refl _) _
          have B5 : Box w5 wr.heap.size [.int .i64 t.kind, .int .i64 t.num, .int .i64 t.atN, tl, tk] := by rw [← hw5]; exact Box.new wr [_, _, _, _, _] _
          have hb6 : Below wc.heap.size wc w5 := hb.trans (hb5.mono hb.size)
          have hcB : ∀ W', Below w5.heap.size w5 W' → Calls Tryd.prog 69 #[.agg #[.int .i64 d, .nilFunc], .int .i64 k, .int .i64 j] W' fun e w' => e = .returned (.agg #[.int .i64 (inner k j d), .nilFunc]) ∧ Below w5.heap.size w5 w' := fun W' h =>
            (belowN_any d k j W' ((HK1.out.below hb6).below h) h0 (by omega)).mono fun e w' ⟨he, hb'⟩ => ⟨he, h.trans (hb'.mono h.size)⟩
          have hcF : ∀ W', Below w5.heap.size w5 W' → Calls Tryd.prog 46 #[.agg #[.int .i64 (inner k j d), .nilFunc], .agg #[.int .i64 t.kind, .int .i64 t.num, .int .i64 t.atN, tl, tk], .int .i64 lo, .int .i64 hi] W' fun e w' => e = .returned (.bool (freeB lo hi (inner k j d) t)) ∧ Below w5.heap.size w5 w' := fun W' h =>
            (HF lo hi (inner k j d) t tl tk W' (by omega) ((HK1.out.below hb6).below h) ((hx.below hb5).below h) (ranged_at HGK.out ht) (by omega) (by omega)).mono fun e w' ⟨he, hb'⟩ => ⟨he, h.trans (hb'.mono h.size)⟩
          obtain ⟨A7, n7, c7, A8, n8, c8, rfl, rfl⟩ := hx.forms
          have y0 : ∀ W', Below w5.heap.size w5 W' → W'.cell? ⟨w.heap.size, 0, none⟩ = some (.int .i64 d) := fun W' h => (HX0.out.below (hb6.trans (h.mono hb6.size))).cell (j := 0) rfl
          have y1 : ∀ W', Below w5.heap.size w5 W' → W'.cell? ⟨w.heap.size, 1, none⟩ = some .nilFunc := fun W' h => (HX0.out.below (hb6.trans (h.mono hb6.size))).cell (j := 1) rfl
          have y2 : ∀ W', Below w5.heap.size w5 W' → W'.cell? ⟨w.heap.size + 1, 0, none⟩ = some (.int .i64 k) := fun W' h => (HX1.out.below (hb6.trans (h.mono hb6.size))).cell (j := 0) rfl
          have z0 : ∀ W', Below w5.heap.size w5 W' → W'.cell? ⟨wr.heap.size, 0, none⟩ = some (.int .i64 t.kind) := fun W' h => (B5.below h).cell (j := 0) rfl
          have z1 : ∀ W', Below w5.heap.size w5 W' → W'.cell? ⟨wr.heap.size, 1, none⟩ = some (.int .i64 t.num) := fun W' h => (B5.below h).cell (j := 1) rfl
          have z2 : ∀ W', Below w5.heap.size w5 W' → W'.cell? ⟨wr.heap.size, 2, none⟩ = some (.int .i64 t.atN) := fun W' h => (B5.below h).cell (j := 2) rfl
          have z3 : ∀ W', Below w5.heap.size w5 W' → W'.cell? ⟨wr.heap.size, 3, none⟩ = some (.slice A7 n7 c7) := fun W' h => (B5.below h).cell (j := 3) rfl
          have z4 : ∀ W', Below w5.heap.size w5 W' → W'.cell? ⟨wr.heap.size, 4, none⟩ = some (.slice A8 n8 c8) := fun W' h => (B5.below h).cell (j := 4) rfl
          have HT := Lib.hid ht
          have HB6 := Lib.hid hb6
          have HCB := Lib.hid hcB
          have HCF := Lib.hid hcF
          generalize hfr : freeB lo hi (inner k j d) t = fr at *
          have HFR := Lib.hid hfr
          clear hcq ht hx hfr B5 hb5 hb6 hcB hcF
          go_upto_region 7 with fail
          try rw [hw5]
          refine wp_region_below w5 (by kernel_rfl) (by kernel_rfl) (Below.refl _ _) ?_
          repeat
            (refine wpQuiet_step (fun K hK => ?_)
             go_simp
             first
               | (refine hK _ ?_; clear hK K)
               | (apply Exists.intro
                  refine ⟨fun W' hW' => ?_, hK _ ?_⟩
                  (first | with_reducible exact HCB.out W' hW' | with_reducible exact HCF.out W' hW' | with_reducible rfl | (go_simp; rfl))
                  clear hK K))
          refine wpQuiet_nil ?_
          intro w6 hb6
          have HB7 : Below wc.heap.size wc w6 := HB6.out.trans (hb6.mono HB6.out.size)
          clear y0 y1 y2 z0 z1 z2 z3 z4 HCB HCF hw5 hb6
          cases fr
          case true =>
            go_wp2_with fail
            go_ret
            exact ⟨ret_bool (by rw [← HR.out, freeL_yes (i := 0) HT.out (by rw [Nat.zero_add]; exact HFR.out)]; simp), HBW.out.trans (HB7.mono HBW.out.size)⟩
          case false =>
            have HS2 : Hid (freeL lo hi d k 0 (ks.take (j + 1)) = false) := Lib.hid (by
              have hl : (ks.take j).length = j := by rw [List.length_take]; have := HN.out; omega
              rw [take_oneF HT.out, freeL_snoc, hS.out, hl, Nat.zero_add, HFR.out]; rfl)
            go_wp2_with fail
            go_roundw
            case rel => exact ⟨j + 1, by omega, by go_num, HS2, HB7⟩
            case measure => simp [RowKit.intOf]; omega
        · obtain rfl : j = n := by omega
          have hall : ks.take j = ks := List.take_of_length_le (by have := HN.out; omega)
          rw [hall] at hS
          clear hall
          go_wp2_with fail
          go_ret
          exact ⟨ret_bool (by rw [← HR.out, hS.out]; rfl), HBW.out.trans (hb.mono HBW.out.size)⟩

theorem free_all : ∀ M, FreeAt M
  | 0 => fun _ _ _ t _ _ _ h => absurd (size_pos t) (by omega)
  | M + 1 => free_of (free_all M)

theorem free_any (lo hi : Int) (t : Tm) (vl vk : Value) (w : World) (hK : Kinds w) (hr : RT w t vl vk) (hg : ranged t) (h1 : size t ≤ 1000000000000) :
    Calls Tryd.prog 18 #[.agg #[.int .i64 t.kind, .int .i64 t.num, .int .i64 t.atN, vl, vk], .int .i64 lo, .int .i64 hi] w fun e w' => e = .returned (.bool (freeB lo hi 0 t)) ∧ Below w.heap.size w w' := by
  have hcall := fun W (hb : Below w.heap.size w W) => free_all (size t) lo hi 0 t vl vk W (Nat.le_refl _) (hK.below hb) (hr.below hb) hg (Int.le_refl _) (by omega)
  obtain ⟨A1, n1, c1, A2, n2, c2, rfl, rfl⟩ := hr.forms
  generalize freeB lo hi 0 t = res at *
  clear hr hg hK h1
  go_enter Tryd.func18, Tryd.ntmps18
  go_wp2_with fail
  refine (hcall _ ((Below.refl _ _).alloc (Nat.le_refl _) _)).mono ?_
  rintro e w1 ⟨rfl, hb1⟩
  have hb : Below w.heap.size w w1 := ((Below.refl _ _).alloc (Nat.le_refl _) _).trans (hb1.mono (by simp))
  clear hb1 hcall
  go_wp2_with fail
  go_ret
  exact ⟨rfl, hb⟩

end Go.Proofs.YtgegaipkfpdocaaDoor
