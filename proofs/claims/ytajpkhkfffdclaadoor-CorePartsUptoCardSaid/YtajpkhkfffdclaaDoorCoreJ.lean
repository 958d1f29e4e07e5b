/-
  THE WALKS OF Deep AND OF spandrellaw05.great: that they tell something.
-/
import Derived.Test.YtajpkhkfffdclaaDoorCoreI
namespace Go.Proofs.YtajpkhkfffdclaaDoor
open Go.RowKit
set_option linter.unusedSimpArgs false
set_option linter.unusedVariables false
set_option maxRecDepth 100000

/-- A call tells a number; nothing that lay has turned. -/
def SomeInt (w : World) (e : Ending) (w' : World) : Prop := ∃ r : Int, e = .returned (.int .i64 r) ∧ Below w.heap.size w w'
def DeepAt (M : Nat) : Prop := ∀ (t : Tm) (q : Int) (vl vk : Value) (W : World), size t ≤ M → RT W t vl vk →
    Calls Tryd.prog 42 #[.agg #[.int .i64 t.kind, .int .i64 t.num, .int .i64 t.atN, vl, vk], .int .i64 q] W (SomeInt W)

set_option maxHeartbeats 2000000 in
theorem deep_step (M : Nat) (IH : DeepAt M) : DeepAt (M + 1) := by
  intro t q vl vk W hM ht
  obtain ⟨k, m, a, ls, ks⟩ := t
  rw [RT_iff] at ht
  obtain ⟨hls, A2, c2, rfl, hk1, hk2, hk3⟩ := ht
  simp only [Tm.kind, Tm.num, Tm.atN, size] at hM ⊢
  obtain ⟨A1, n1, c1, rfl⟩ : ∃ A n c, vl = .slice A n c := by obtain ⟨A, c, e, _⟩ := hls; exact ⟨A, _, c, e⟩
  have HK := Lib.hid hk3
  clear hk3 hls
  generalize hln : ks.length = n2 at *
  have HLN := Lib.hid hln
  clear hln
  go_enter Tryd.func42, Tryd.ntmps42
  go_wp2_with fail
  generalize hw0 : W.alloc (.cells #[.int .i64 k, .int .i64 m, .int .i64 a, .slice A1 n1 c1, .slice A2 n2 c2] 26) = w0
  have B0 : Box w0 W.heap.size [.int .i64 k, .int .i64 m, .int .i64 a, .slice A1 n1 c1, .slice A2 n2 c2] := by rw [← hw0]; exact Box.new W [_, _, _, _, _] _
  have hb0 : Below W.heap.size W w0 := by rw [← hw0]; exact (Below.refl _ _).alloc (Nat.le_refl _) _
  have q4 := B0.cell (j := 4) rfl
  clear hw0 B0
  go_loopw [5, 6] (fun x i wr => ∃ (j : Nat) (r : Int), j ≤ n2 ∧ i = .int .i64 j ∧ x = .int .i64 r ∧ Below w0.heap.size w0 wr) (fun _ i _ => n2 - (intOf i).toNat)
  case atStart => exact ⟨0, 0, Nat.zero_le _, rfl, rfl, Below.refl _ _⟩
  case round =>
    obtain ⟨j, r, hj, rfl, rfl, hb⟩ := hrel
    have hbr := below_ch hb0 hb
    have q4' := cell_below hb q4
    by_cases hlt : j < n2
    · have hlt' : (j : Int) < (n2 : Int) := by omega
      have hj0 : (0 : Int) ≤ (j : Int) := by omega
      by_cases hq : 0 < q
      · obtain ⟨b, o, rfl, hkk⟩ := HK.out (by omega)
        obtain ⟨x, hxj⟩ : ∃ x, ks[j]? = some x := ⟨_, List.getElem?_eq_getElem (by have := HLN.out; omega)⟩
        obtain ⟨xl, xk, x0, x1, x2, x3, x4, hRx⟩ := (hkk.below hbr).get hxj
        have hsz := size_at hxj
        have hcall := fun q' => IH x q' xl xk wr (by omega) hRx
        obtain ⟨A5, n5, c5, A6, n6, c6, rfl, rfl⟩ := hRx.forms
        have HC := Lib.hid hcall
        clear hcall hRx hkk hxj HK
        go_wp2_with fail
        refine (HC.out _).mono ?_
        rintro e w2 ⟨r2, rfl, hb2⟩
        have HB := Lib.hid (below_ch hb hb2)
        clear hb2 HC
        go_wp2_with fail
        all_goals
          go_roundw
          case rel => exact ⟨j + 1, _, by omega, by go_num, rfl, HB.out⟩
          case measure => simp [intOf]; omega
      · go_wp2_with fail
        go_ret
        exact ⟨_, rfl, hbr⟩
    · obtain rfl : j = n2 := by omega
      go_wp2_with fail
      go_ret
      exact ⟨_, rfl, hbr⟩
theorem deep_all : ∀ M, DeepAt M
  | 0 => fun t _ _ _ _ h => by have := size_pos t; omega
  | M + 1 => deep_step M (deep_all M)

theorem great5_any (ts : List Tm) (v : Value) (w : World) (hv : RKv w ts v) (hd : depthL ts ≤ 1000000000) :
    Calls Tryd.prog 15 #[v] w fun e w' => (∃ r : Bool, e = .returned (.bool r)) ∧ Below w.heap.size w w' := by
  have hterms := fun W (h : Below w.heap.size w W) => termsOf_any ts v 3000 W (hv.below h) (by omega) (by omega) hd
  obtain ⟨A, c, rfl, h1, h2, h3⟩ := hv
  generalize hnn : ts.length = n at *
  have HN := Lib.hid hnn
  have HX := Lib.hid h3
  have HT := Lib.hid hterms
  clear hnn h3 hterms
  go_enter Tryd.func15, Tryd.ntmps15
  go_wp2_with fail
  go_loopw [3] (fun i wr => ∃ (j : Nat), j ≤ n ∧ i = .int .i64 j ∧ Below w.heap.size w wr) (fun i _ => n - (intOf i).toNat)
  case atStart => exact ⟨0, Nat.zero_le _, rfl, Below.refl _ _⟩
  case round =>
    obtain ⟨j, hj, rfl, hb⟩ := hrel
    by_cases hlt : j < n
    · have hlt' : (j : Int) < (n : Int) := by omega
      have hj0 : (0 : Int) ≤ (j : Int) := by omega
      obtain ⟨b, o, rfl, hkk⟩ := HX.out (by omega)
      obtain ⟨x, hxj⟩ : ∃ x, ts[j]? = some x := ⟨_, List.getElem?_eq_getElem (by have := HN.out; omega)⟩
      obtain ⟨xl, xk, x0, x1, x2, x3, x4, hRx⟩ := (hkk.below hb).get hxj
      have hcall := deep_all (size x) x 400 xl xk wr (Nat.le_refl _) hRx
      obtain ⟨A5, n5, c5, A6, n6, c6, rfl, rfl⟩ := hRx.forms
      have HC := Lib.hid hcall
      clear hcall hRx hkk hxj HX HT
      go_wp2_with fail
      refine HC.out.mono ?_
      rintro e w2 ⟨r2, rfl, hb2⟩
      have HB := Lib.hid (below_ch hb hb2)
      clear hb2 HC
      by_cases hr : 400 < r2
      · go_wp2_with fail
        go_ret
        exact ⟨⟨_, rfl⟩, HB.out⟩
      · go_wp2_with fail
        go_roundw
        case rel => exact ⟨j + 1, by omega, by go_num, HB.out⟩
        case measure => simp [intOf]; omega
    · obtain rfl : j = n := by omega
      have hcall := HT.out wr hb
      clear HX HT
      go_wp2_with fail
      refine hcall.mono ?_
      rintro e w2 ⟨rfl, hb2⟩
      have HB := Lib.hid (below_ch hb hb2)
      clear hb2 hcall
      go_wp2_with fail
      go_ret
      exact ⟨⟨_, rfl⟩, HB.out⟩

end Go.Proofs.YtajpkhkfffdclaaDoor
