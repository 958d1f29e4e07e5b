/-
  THE WALK OF level.Succ.
-/
import Derived.Test.YtgegaipkfpdocaaLevG
namespace Go.Proofs.Ytgegaipkfpdocaa
open Go.RowKit Go.Maps
set_option linter.unusedSimpArgs false
set_option linter.unusedVariables false
set_option maxRecDepth 100000

/-- The first k parts raised by one. -/
def bump (k : Nat) (x : Lv) : Lv := addP 1 (x.take k) ++ x.drop k
theorem bump_length (k : Nat) (x : Lv) : (bump k x).length = x.length := by simp [bump, addP]; omega
theorem bump_zero (x : Lv) : bump 0 x = x := by simp [bump, addP]
theorem bump_all {k : Nat} {x : Lv} (h : x.length ≤ k) : bump k x = addP 1 x := by simp [bump, List.take_of_length_le h, List.drop_of_length_le h]
theorem bump_get {k : Nat} {x : Lv} {p : Int × Int} (h : x[k]? = some p) : (bump k x)[k]? = some p := by
  have hk : k < x.length := (List.getElem?_eq_some_iff.1 h).1
  have hl : (addP 1 (x.take k)).length = k := by simp [addP]; omega
  unfold bump
  rw [List.getElem?_append_right (by omega), hl]
  simp [h]
theorem bump_set {k : Nat} {x : Lv} {a b : Int} (h : x[k]? = some (a, b)) : (cellsP (bump k x)).set (k * 2 + 1) (.int .i64 (b + 1)) = cellsP (bump (k + 1) x) := by
  have hk : k < x.length := (List.getElem?_eq_some_iff.1 h).1
  have hl : (addP 1 (x.take k)).length = k := by simp [addP]; omega
  have hd : x.drop k = (a, b) :: x.drop (k + 1) := by
    rw [List.drop_eq_getElem_cons hk]
    congr 1
    exact (List.getElem?_eq_some_iff.1 h).2
  have ht : x.take (k + 1) = x.take k ++ [(a, b)] := by rw [List.take_add_one, h]; rfl
  unfold bump
  rw [cellsP_append, cellsP_append, hd, ht, List.set_append, if_neg (by rw [cellsP_length, hl]; omega), cellsP_length, hl]
  have e : k * 2 + 1 - k * 2 = 1 := by omega
  rw [e]
  have e2 : addP 1 (x.take k ++ [(a, b)]) = addP 1 (x.take k) ++ [(a, b + 1)] := by simp [addP]
  rw [e2, cellsP_append]
  simp [cellsP]

set_option maxHeartbeats 1000000 in
theorem succ_any (l : Lv) (v : Value) (W : World) (hv : RPv W l v) : Calls Try.prog 14 #[.agg #[v]] W (MadeL (sucL l) W) := by
  obtain ⟨w0, hw0⟩ : ∃ w0, (W.alloc (.cells #[v] 24)).alloc (.cells #[.slice none 0 0] 24) = w0 := ⟨_, rfl⟩
  have hs0 : w0.heap.size = W.heap.size + 2 := by rw [← hw0]; simp
  have hb0 : Below W.heap.size W w0 := by rw [← hw0]; exact ((Below.refl _ _).alloc (Nat.le_refl _) _).alloc (by simp) _
  have B0 : Box w0 W.heap.size [v] := by rw [← hw0]; exact (Box.new W [_] _).alloc _
  have B1 : Box w0 (W.heap.size + 1) [.slice none 0 0] := by rw [← hw0]; exact Box.new' _ [_] _ (by simp)
  have hcall := norm_any l v w0 (hv.below hb0)
  have hnf := nfP_nf l
  have hlen := good_length hnf.rise hnf.good
  obtain ⟨A, n, c, rfl⟩ := hv.form
  have q0 := B0.cell (j := 0) rfl
  have HB0 := Lib.hid B0
  have HB1 := Lib.hid B1
  clear B0 B1 hv
  generalize hsuc : sucL l = res at *
  have HR : Hid (res = if nfP l = [] then nfP [(0, 1)] else nfP (addP 1 (nfP l))) := hsuc.symm
  clear hsuc
  generalize nfP l = x at *
  have HG := Lib.hid hnf.good
  clear hnf
  go_enter Try.func14, Try.ntmps14
  go_wp2_with fail
  refine hcall.mono ?_
  rintro e w1 ⟨v, bs, rfl, hO, hb1⟩
  have hb01 : Below W.heap.size W w1 := hb0.trans (hb1.mono hb0.size)
  have hs1 := hb1.size
  have C0 := HB0.out.below hb1
  have C1 := HB1.out.below hb1
  obtain ⟨A', c', rfl, hc', hl', hcell⟩ := hO.reads
  have D0 := C0.set 0 (.slice A' x.length c')
  have D1 := C1.other (a := ⟨W.heap.size, 0, none⟩) (show W.heap.size + 1 ≠ W.heap.size by omega) (.slice A' x.length c')
  have z0 := C0.cell (j := 0) rfl
  have z1 := C0.frozen 0
  have hown := hO.1
  have hin := own_in hown
  have hown2 := own_move (w1 := w1.setCell ⟨W.heap.size, 0, none⟩ (.slice A' x.length c')) hown fun j hj => Below.heap_setCell _ _ _ _ (by have := hin j hj; show j ≠ W.heap.size; omega)
  have hb2 : Below W.heap.size W (w1.setCell ⟨W.heap.size, 0, none⟩ (.slice A' x.length c')) := hb01.setCell (Nat.le_refl _) _
  have hs2 : w1.heap.size ≤ (w1.setCell ⟨W.heap.size, 0, none⟩ (.slice A' x.length c')).heap.size := ((Below.refl 0 w1).setCell (Nat.zero_le _) _).size
  obtain ⟨w2, hw2⟩ : ∃ w2, w1.setCell ⟨W.heap.size, 0, none⟩ (.slice A' x.length c') = w2 := ⟨_, rfl⟩
  rw [hw2] at D0 D1 hown2 hb2 hs2
  have y0 := D0.cell (j := 0) rfl
  have HD0 := Lib.hid D0
  have HD1 := Lib.hid D1
  have HO := Lib.hid hown2
  have HIN := Lib.hid hin
  have HL := Lib.hid hl'
  clear hcell hO hown hin hcall hw0 C0 C1 D0 D1 hown2 hb1 hl'
  by_cases hx : x = []
  · have hr := HR.out
    rw [if_pos hx] at hr
    subst hr hx
    have hnum := lnum_any 1 w2
    simp only [List.length_nil] at *
    go_wp2_with fail
    refine hnum.mono ?_
    rintro e w3 ⟨v3, bs3, rfl, hO3, hb3⟩
    have E1 := HD1.out.below hb3
    have x0 := E1.cell (j := 0) rfl
    have x1 := E1.frozen 0
    obtain ⟨A3, n3, c3, rfl⟩ := hO3.reads.form
    have x2 := (E1.set 0 (.slice A3 n3 c3)).cell (j := 0) rfl
    have HO3 := Lib.hid hO3
    have HB3 := Lib.hid hb3
    clear hO3 hb3 hnum
    go_wp2_with fail
    exact bodyPost_ret (v := .agg #[.slice A3 n3 c3]) (by simp [results, Try.results14, go_sem, x2]) rfl (MadeL.store hb2 HO3.out HB3.out (by omega) (by omega))
  · have hr := HR.out
    rw [if_neg hx] at hr
    have HR2 := Lib.hid hr
    have hx0 : 0 < x.length := List.length_pos_iff.2 hx
    clear hr HR hx
    obtain ⟨g, rfl⟩ : ∃ g, A' = some ⟨g, 0, none⟩ := by
      rcases HO.out.2 with ⟨_, h⟩ | ⟨g, cap, cur, h, _⟩
      · omega
      · injection h with h; exact ⟨g, h⟩
    have hg := HIN.out g (by simp [Value.ownBlock])
    generalize hnn : x.length = n' at *
    have HN := Lib.hid hnn
    clear hnn HIN
    go_wp2_with fail
    go_loopw [3, 14] (fun _ i wr => ∃ k : Nat, k ≤ n' ∧ i = .int .i64 k ∧ Hid (wr.ownsRow w0.heap.size 41 2 (.slice (some ⟨g, 0, none⟩) n' c') n' (cellsP (bump k x))) ∧ Box wr W.heap.size [.slice (some ⟨g, 0, none⟩) n' c'] ∧ Box wr (W.heap.size + 1) [.slice none 0 0] ∧ Below W.heap.size W wr ∧ w1.heap.size ≤ wr.heap.size) (fun _ i _ => n' - (RowKit.intOf i).toNat)
    case atStart => exact ⟨0, Nat.zero_le _, rfl, by rw [bump_zero]; exact HO, HD0.out, HD1.out, hb2, hs2⟩
    case round =>
      obtain ⟨k, hk, rfl, hown, E0, E1, hb, hsz⟩ := hrel
      have e0 := E0.cell (j := 0) rfl
      by_cases hlt : k < n'
      · obtain ⟨⟨a, b⟩, hpk⟩ : ∃ p, x[k]? = some p := ⟨_, List.getElem?_eq_getElem (by have := HN.out; omega)⟩
        have hgd := HG.out _ (List.mem_of_getElem? hpk)
        simp only at hgd
        obtain ⟨g0, g1, g2, g3⟩ := hgd
        obtain ⟨A9, c9, e9, -, -, hcell⟩ := own_form hown.out
        obtain ⟨b9, eb, hcell⟩ := hcell (by omega)
        obtain rfl : b9 = g := by
          injection e9 with e9; rw [← e9] at eb; injection eb with eb; injection eb with eb; exact eb.symm
        have hrp : RP wr b9 0 (bump k x) := RP_of_cells fun j u hu => by rw [Nat.zero_add]; exact hcell j u hu
        obtain ⟨-, c2⟩ := hrp.get (bump_get hpk)
        rw [Nat.zero_add] at c2
        have f2 := hown.out.frozenAt (k * 2 + 1)
        have hpk' := Lib.hid hpk
        have h1 : (k : Int) < (n' : Int) := by omega
        have h0 : (0 : Int) ≤ (k : Int) := by omega
        clear hrp hcell hpk eb e9
        have hown' := (hown.out.stored (k * 2 + 1) (.int .i64 (b + 1)))
        rw [bump_set hpk'.out] at hown'
        have HOW := Lib.hid hown'.1
        have hgr := hown'.2
        have E0' := E0.other (a := ⟨b9, k * 2 + 1, none⟩) (show W.heap.size ≠ b9 by omega) (.int .i64 (b + 1))
        have E1' := E1.other (a := ⟨b9, k * 2 + 1, none⟩) (show W.heap.size + 1 ≠ b9 by omega) (.int .i64 (b + 1))
        have hb' := hb.setCell (p := ⟨b9, k * 2 + 1, none⟩) (show W.heap.size ≤ b9 by omega) (.int .i64 (b + 1))
        have hsz' := Nat.le_trans hsz hgr.size
        have HE := Lib.hid (And.intro E0' (And.intro E1' (And.intro hb' hsz')))
        clear hown' hgr E0' E1' hb' hsz'
        go_wp2_with fail
        go_roundw
        case rel => exact ⟨k + 1, by omega, by go_num, HOW, HE.out.1, HE.out.2.1, HE.out.2.2.1, HE.out.2.2.2⟩
        case measure => simp [RowKit.intOf]; omega
      · obtain rfl : k = n' := by omega
        rw [bump_all (by have := HN.out; omega)] at hown
        have hrp : RPv wr (addP 1 x) (.slice (some ⟨g, 0, none⟩) k c') := by
          have hO : OPv wr w0.heap.size [g] (addP 1 x) (.slice (some ⟨g, 0, none⟩) k c') := by
            have e : (addP 1 x).length = k := by have := HN.out; simp [addP]; exact this
            exact ⟨by rw [e]; exact hown.out, rfl, by rw [e]; omega⟩
          exact hO.reads
        have hnorm := norm_any (addP 1 x) _ wr hrp
        rw [← HR2.out] at hnorm
        have HE1 := Lib.hid E1
        clear hrp hown E1
        go_wp2_with fail
        refine hnorm.mono ?_
        rintro e w3 ⟨v3, bs3, rfl, hO3, hb3⟩
        have F1 := HE1.out.below hb3
        have x0 := F1.cell (j := 0) rfl
        have x1 := F1.frozen 0
        obtain ⟨A3, n3, c3, rfl⟩ := hO3.reads.form
        have x2 := (F1.set 0 (.slice A3 n3 c3)).cell (j := 0) rfl
        have HO3 := Lib.hid hO3
        have HB3 := Lib.hid hb3
        clear hO3 hb3 hnorm
        go_wp2_with fail
        exact bodyPost_ret (v := .agg #[.slice A3 n3 c3]) (by simp [results, Try.results14, go_sem, x2]) rfl (MadeL.store hb HO3.out HB3.out (by omega) (by omega))

end Go.Proofs.Ytgegaipkfpdocaa
