/-
  THE WALKS OF THE KIT'S COUNTS (LevelOf, LevelsOf, TermOf, TermsOf, Deep).
-/
import Derived.Test.YtgegaipkfpdocaaDoorCountA
namespace Go.Proofs.YtgegaipkfpdocaaDoor
open Go.RowKit

def TmOf (M : Nat) : Prop := ∀ (t : Tm) (vl vk : Value) (m : Int) (w : World), size t ≤ M → RT w t vl vk → 0 ≤ m → m ≤ 10000 → depth t ≤ 1000000000 →
    Calls Tryd.prog 51 #[.agg #[.int .i64 t.kind, .int .i64 t.num, .int .i64 t.atN, vl, vk], .int .i64 m] w fun e w' => e = .returned (.int .i64 (tmOf m t)) ∧ Below w.heap.size w w'
def TmsOf (M : Nat) : Prop := ∀ (ts : List Tm) (v : Value) (m : Int) (w : World), sizeL ts ≤ M → RKv w ts v → 0 ≤ m → m ≤ 10000 → depthL ts ≤ 1000000000 →
    Calls Tryd.prog 24 #[v, .int .i64 m] w fun e w' => e = .returned (.int .i64 (tmsOf m 0 ts)) ∧ Below w.heap.size w w'

set_option maxRecDepth 100000 in
set_option maxHeartbeats 800000 in
theorem tmOf_of {M : Nat} (HS : TmsOf M) : TmOf (M + 1) := by
  rintro ⟨k, n, a, ls, ks⟩ vl vk m w hM hp h0 h1 hd
  rw [RT_iff] at hp
  simp only [size] at hM
  simp only [depth] at hd
  obtain ⟨hp1, hp2⟩ := hp
  simp only [Tm.kind, Tm.num, Tm.atN]
  have hv : Hid (tmOf m (.node k n a ls ks) = 1 + lvsOf m 0 ls + tmsOf m 0 ks) := rfl
  have b1 := lvsOf_le m h0 ls 0 (by omega) (by omega)
  have b2 := tmsOf_bd2 m h0 ks 0 (by omega)
  have b3 : (3 * m + 2) * (depthL ks : Int) ≤ 40000 * 1000000000 := Int.mul_le_mul (by omega) (by omega) (by omega) (by omega)
  have b4 : tmsOf m 0 ks ≤ 50000000000000 := by omega
  have b5 := b2.1
  clear b2 b3
  generalize hW : w.alloc (.cells #[.int .i64 k, .int .i64 n, .int .i64 a, vl, vk] 27) = W
  have hbW : Below w.heap.size w W := by rw [← hW]; exact (Below.refl _ _).alloc (Nat.le_refl _) _
  have hc3 : ∀ W', Below W.heap.size W W' → W'.cell? ⟨w.heap.size, 3, none⟩ = some vl := fun W' hb => by
    rw [hb.cell (by rw [← hW]; simp), ← hW, World.cell?_alloc_at _ _ _ _ rfl]; rfl
  have hc4 : ∀ W', Below W.heap.size W W' → W'.cell? ⟨w.heap.size, 4, none⟩ = some vk := fun W' hb => by
    rw [hb.cell (by rw [← hW]; simp), ← hW, World.cell?_alloc_at _ _ _ _ rfl]; rfl
  have hcA : ∀ W', Below W.heap.size W W' → Calls Tryd.prog 82 #[vl, .int .i64 m] W' fun e w' => e = .returned (.int .i64 (lvsOf m 0 ls)) ∧ Below W.heap.size W w' := fun W' hb =>
    (levelsOf_any ls vl m W' (hp1.below (hbW.trans (hb.mono hbW.size))) h0 (by omega)).mono fun e w' ⟨he, hb'⟩ => ⟨he, hb.trans (hb'.mono hb.size)⟩
  have hcB : ∀ W', Below W.heap.size W W' → Calls Tryd.prog 24 #[vk, .int .i64 m] W' fun e w' => e = .returned (.int .i64 (tmsOf m 0 ks)) ∧ Below W.heap.size W w' := fun W' hb =>
    (HS ks vk m W' (by omega) (hp2.below (hbW.trans (hb.mono hbW.size))) h0 h1 (by omega)).mono fun e w' ⟨he, hb'⟩ => ⟨he, hb.trans (hb'.mono hb.size)⟩
  have HW := Lib.hid hW
  clear hp1 hp2 HS
  generalize lvsOf m 0 ls = x at *
  generalize tmsOf m 0 ks = y at *
  go_enter Tryd.func51, Tryd.ntmps51
  go_wp2_with fail
  refine wp_region_below W (by kernel_rfl) (by kernel_rfl) (Below.refl _ _) ?_
  clear hW
  have w1 : IntKind.i64.wrap (1 + x) = 1 + x := IntWalk.i64_in _ (by omega)
  have w2 : IntKind.i64.wrap (1 + x + y) = 1 + x + y := IntWalk.i64_in _ (by omega)
  repeat
    (refine wpQuiet_step (fun K hK => ?_)
     go_simp
     first
       | (refine hK _ ?_; clear hK K)
       | (apply Exists.intro
          refine ⟨fun W' hW' => ?_, hK _ ?_⟩
          (first | exact hcA W' hW' | exact hcB W' hW' | rfl | (go_simp; rfl))
          clear hK K))
  refine wpQuiet_nil ?_
  intro w1 hb1
  go_wp2_with fail
  go_ret
  exact ⟨ret_int hv.out.symm, hbW.trans (hb1.mono hbW.size)⟩

set_option maxRecDepth 100000 in
set_option maxHeartbeats 800000 in
theorem tmsOf_of {M : Nat} (HS : TmOf M) : TmsOf M := by
  intro ls v m w hM h h0 h1 hdp
  obtain ⟨A, c, rfl, hc, hl, hcp⟩ := h
  generalize hnp : ls.length = n at *
  have HP := Lib.hid hnp; clear hnp
  have HCP := Lib.hid hcp; clear hcp
  have b3 : (3 * m + 2) * (depthL ls : Int) ≤ 40000 * 1000000000 := Int.mul_le_mul (by omega) (by omega) (by omega) (by omega)
  have hmx : ∀ y, 0 ≤ y → y ≤ 50000000000000 → ∀ us : List Tm, (depthL us ≤ depthL ls) → y ≤ tmsOf m y us ∧ tmsOf m y us ≤ 50000000000000 := by
    intro y hy hy2 us hu
    have h2 := tmsOf_bd2 m h0 us y hy
    have h3 : (3 * m + 2) * (depthL us : Int) ≤ (3 * m + 2) * (depthL ls : Int) := Int.mul_le_mul_of_nonneg_left (by omega) (by omega)
    omega
  have HMX := Lib.hid hmx; clear hmx b3
  go_enter Tryd.func24, Tryd.ntmps24
  go_wp2_with fail
  go_loopw [5, 6] (fun x i wr => ∃ (k : Nat) (y : Int), k ≤ n ∧ i = .int .i64 k ∧ x = .int .i64 y ∧ 0 ≤ y ∧ y ≤ 50000000000000 ∧ Hid (tmsOf m 0 ls = tmsOf m y (ls.drop k)) ∧ Below w.heap.size w wr) (fun _ i _ => n - (intOf i).toNat)
  case atStart => exact ⟨0, 0, Nat.zero_le _, rfl, rfl, by omega, by omega, rfl, Below.refl _ _⟩
  case round =>
    obtain ⟨k, y, hk, rfl, rfl, hy0, hy1, ht, hb⟩ := hrel
    by_cases hlt : k < n
    · obtain ⟨b, o, rfl, hcp⟩ := HCP.out (by omega)
      obtain ⟨p, hpk⟩ : ∃ p, ls[k]? = some p := ⟨_, List.getElem?_eq_getElem (by have := HP.out; omega)⟩
      obtain ⟨x, x', c1, c2, c3, c4, c5, hx⟩ := (hcp.below hb).get hpk
      have hd := tmsOf_take (m := m) hpk y
      have hdq := depth_at hpk
      have hlt' : (k : Int) < (n : Int) := by omega
      have hk0 : (0 : Int) ≤ (k : Int) := by omega
      by_cases hym : y ≤ m
      · rw [if_pos hym] at hd
        have hcall := HS p x x' (m - y) wr (Nat.le_trans (size_at hpk) hM) hx (by omega) (by omega) (by omega)
        have hbd := tmOf_bd (m - y) (by omega) p
        have b4 : (3 * (m - y) + 2) * (depth p : Int) ≤ 40000 * 1000000000 := Int.mul_le_mul (by omega) (by omega) (by omega) (by omega)
        have b5 : tmOf (m - y) p ≤ 40000000000000 := by omega
        have b6 := hbd.1
        have HD := Lib.hid hd
        clear hd hbd b4 hcp HCP hx hpk hdq HS HMX
        generalize tmOf (m - y) p = z at *
        go_wp2_with fail
        refine hcall.mono ?_
        rintro e w1 ⟨rfl, hb1⟩
        have HB := hb.trans (hb1.mono hb.size)
        clear hb1 hcall
        go_wp2_with fail
        go_roundw
        case rel => exact ⟨k + 1, y + z, by omega, by go_num, rfl, by omega, by omega, ht.out.trans HD.out, HB⟩
        case measure => simp [intOf]; omega
      · rw [if_neg hym] at hd
        have HD := Lib.hid (ht.out.trans hd)
        clear hd hcp HCP hx hpk hdq HS HMX
        go_wp2_with fail
        go_ret
        exact ⟨ret_int HD.out.symm, hb⟩
    · obtain rfl : k = n := by omega
      have hd : tmsOf m y (ls.drop k) = y := by rw [List.drop_of_length_le (by have := HP.out; omega)]; simp only [tmsOf]
      have HD := Lib.hid (ht.out.trans hd); clear hd HCP HS HMX
      go_wp2_with fail
      go_ret
      exact ⟨ret_int HD.out.symm, hb⟩

theorem tmOf_all : ∀ M, TmOf M
  | 0 => fun t _ _ _ _ h => absurd (size_pos t) (by omega)
  | M + 1 => tmOf_of (tmsOf_of (tmOf_all M))
theorem termsOf_any (ts : List Tm) (v : Value) (m : Int) (w : World) (h : RKv w ts v) (h0 : 0 ≤ m) (h1 : m ≤ 10000) (hd : depthL ts ≤ 1000000000) :
    Calls Tryd.prog 24 #[v, .int .i64 m] w fun e w' => e = .returned (.int .i64 (tmsOf m 0 ts)) ∧ Below w.heap.size w w' :=
  tmsOf_of (tmOf_all _) ts v m w (Nat.le_refl _) h h0 h1 hd

end Go.Proofs.YtgegaipkfpdocaaDoor
