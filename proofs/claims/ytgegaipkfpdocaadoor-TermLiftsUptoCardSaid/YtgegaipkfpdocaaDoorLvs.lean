/-
  THE WALK OF term.Levels AND OF ITS CLOSURE.
  THE WALK OF term.Levels.
-/
import Derived.Test.YtgegaipkfpdocaaDoorLift
import Derived.Test.YtgegaipkfpdocaaDoorLevW
import Derived.Test.YtgegaipkfpdocaaDoorKeepsQ
namespace Go.Proofs.YtgegaipkfpdocaaDoor
open Go.RowKit
set_option linter.unusedSimpArgs false
set_option linter.unusedVariables false
set_option maxRecDepth 100000

/-- A round of the closure's loop: one level more. -/
theorem lev_step {w1 w2 w3 : World} {lo j : Nat} {v v3 : Value} {bs b' : List Nat} {us : List Lv} {u : Lv} {xs : List Value} {x : Value}
    (hrow : w1.ownsRow lo 37 1 v j xs) (hus : OL w1 lo bs us xs) (hnd : (v.ownBlock.toList ++ bs).Nodup) (hlo : lo ≤ w1.heap.size) (hb : Below w1.heap.size w1 w2) (hu : OPv w2 w1.heap.size b' u x)
    (hg : w2.grownBy w3 v.ownBlock) (hat : v3.ownBlock = v.ownBlock ∨ ∃ b, v3.ownBlock = some b ∧ w2.heap.size ≤ b) :
    OL w3 lo (bs ++ b') (us ++ [u]) (xs ++ [x]) ∧ (v3.ownBlock.toList ++ (bs ++ b')).Nodup := by
  have hbs : ∀ q ∈ bs, q < w1.heap.size := fun q hq => (hus.inn q hq).2
  have hbs' : ∀ q ∈ b', w1.heap.size ≤ q ∧ q < w2.heap.size := fun q hq => hu.inn q hq
  have hv : ∀ q ∈ v.ownBlock.toList, q < w1.heap.size := fun q hq => (own_in hrow q hq).2
  have hnd' : b'.Nodup := by
    obtain ⟨_, rfl, _⟩ := hu
    cases x.ownBlock <;> simp
  rw [List.nodup_append] at hnd
  obtain ⟨hn1, hn2, hn3⟩ := hnd
  have h1 : OL w3 lo bs us xs := (hus.below hb).move fun q hq => hg.block q (by have := hbs q hq; have := hb.size; omega) (fun he => hn3 q (by rw [← he]; simp) q hq rfl)
  have h2 : OPv w3 lo b' u x := (OPv.lower hu hlo).move fun q hq => hg.block q (hbs' q hq).2 (fun he => by have := hv q (by rw [← he]; simp); have := (hbs' q hq).1; omega)
  refine ⟨h1.snoc h2, ?_⟩
  rw [List.nodup_append]
  refine ⟨by cases v3.ownBlock <;> simp, ?_, fun x hx y hy => ?_⟩
  · rw [List.nodup_append]
    exact ⟨hn2, hnd', fun x hx y hy => by have := hbs x hx; have := (hbs' y hy).1; omega⟩
  · rcases hat with hat | ⟨b, hat, hle⟩
    · rw [hat] at hx
      rcases List.mem_append.1 hy with hy | hy
      · exact hn3 x hx y hy
      · have := hv x hx; have := (hbs' y hy).1; omega
    · rw [hat] at hx
      simp at hx
      subst hx
      rcases List.mem_append.1 hy with hy | hy
      · have := hbs y hy; have := hb.size; omega
      · have := (hbs' y hy).2; omega

set_option maxHeartbeats 4000000 in
theorem levels1_any (bs_ : List Lv) (d k m a : Int) (ls : List Lv) (vl vb : Value) (A3 : Option Addr) (n3 c3 : Nat) (g : FuncId) (lb : Array Value) (bb : Nat) (w : World)
    (h : RLv w ls vl) (hB : w.cell? ⟨bb, 0, none⟩ = some vb) (hvb : RLv w bs_ vb) :
    Calls Tryd.prog 40 #[.agg #[.int .i64 d, .func (.func g) #[] lb], .agg #[.int .i64 k, .int .i64 m, .int .i64 a, vl, .slice A3 n3 c3], .pointer (some ⟨bb, 0, none⟩)] w
      (Turned k m a (ls.map (putLv · bs_)) (.slice A3 n3 c3) w) := by
  have hbb := cell_lt hB
  have HX := Lib.hid h
  obtain ⟨A4, c4, rfl, hc4, hl4, -⟩ := h
  obtain ⟨Ab, cb, rfl, hcb, hlb, -⟩ := id hvb
  generalize hvbn : Value.slice Ab bs_.length cb = vb at *
  generalize hnn : ls.length = n at *
  have HNN := Lib.hid hnn
  have HVBN := Lib.hid hvbn
  clear hnn hvbn
  obtain ⟨w0, hw0⟩ : ∃ w0, ((w.alloc (.cells #[.int .i64 d, .func (.func g) #[] lb] 66)).alloc (.cells #[.int .i64 k, .int .i64 m, .int .i64 a, .slice none 0 0, .slice A3 n3 c3] 27)).alloc (.cells #[.int .i64 0, .int .i64 0, .int .i64 0, .slice none 0 0, .slice none 0 0] 27) = w0 := ⟨_, rfl⟩
  have hs0 : w0.heap.size = w.heap.size + 3 := by rw [← hw0]; simp
  have hb0 : Below w.heap.size w w0 := by rw [← hw0]; exact (((Below.refl _ _).alloc (Nat.le_refl _) _).alloc (by simp) _).alloc (by simp; omega) _
  have HB1 : Hid (Box w0 (w.heap.size + 1) [.int .i64 k, .int .i64 m, .int .i64 a, .slice none 0 0, .slice A3 n3 c3]) := by rw [← hw0]; exact (Box.new' (w.alloc _) [_, _, _, _, _] _ (by simp)).alloc _
  have HB2 : Hid (Box w0 (w.heap.size + 2) [.int .i64 0, .int .i64 0, .int .i64 0, .slice none 0 0, .slice none 0 0]) := by rw [← hw0]; exact Box.new' ((w.alloc _).alloc _) [_, _, _, _, _] _ (by simp)
  have HCB := Lib.hid hB
  have HVB := Lib.hid hvb
  clear hvb hB
  go_enter Tryd.func40, Tryd.ntmps40
  go_wp2_with fail
  clear hw0
  go_loopw [9, 15] (fun _ i wr => ∃ (j : Nat) (bs : List Nat) (xs : List Value) (vr : Value), j ≤ n ∧ i = .int .i64 j ∧ Hid (Box wr (w.heap.size + 1) [.int .i64 k, .int .i64 m, .int .i64 a, vr, .slice A3 n3 c3]) ∧
      Hid (wr.ownsRow (w.heap.size + 3) 37 1 vr j xs) ∧ Hid (OL wr (w.heap.size + 3) bs ((ls.take j).map (putLv · bs_)) xs) ∧ Hid ((vr.ownBlock.toList ++ bs).Nodup) ∧ Hid (Box wr (w.heap.size + 2) [.int .i64 0, .int .i64 0, .int .i64 0, .slice none 0 0, .slice none 0 0]) ∧
      w.heap.size + 3 ≤ wr.heap.size ∧ Below w.heap.size w wr) (fun _ i _ => n - (RowKit.intOf i).toNat)
  case atStart => exact ⟨0, [], [], _, Nat.zero_le _, rfl, HB1, World.ownsRow_nil _ _ _ _, (⟨rfl, rfl⟩ : OL w0 (w.heap.size + 3) [] [] []), List.nodup_nil, HB2, by omega, hb0⟩
  case round =>
    obtain ⟨j, bs, xs, vr, hj, rfl, h1, h2, h3, h4, h5, hsz, hb⟩ := hrel
    obtain ⟨A8, c8, rfl, -, -, -⟩ := own_form h2.out
    by_cases hlt : j < n
    · obtain ⟨A5, c5, e5, -, -, hcp⟩ := HX.out.below hb
      injection e5 with e5 e5a e5b
      subst e5
      clear e5a e5b
      obtain ⟨b, o, rfl, hcq⟩ := hcp (by have := HNN.out; omega)
      clear hcp
      obtain ⟨l, hl⟩ : ∃ l, ls[j]? = some l := ⟨_, List.getElem?_eq_getElem (by have := HNN.out; omega)⟩
      obtain ⟨x, hcx, hpx⟩ := hcq.get hl
      obtain ⟨Ax, nx, cx, rfl⟩ := hpx.form
      obtain ⟨w4, hw4⟩ : ∃ w4, wr.alloc (.cells #[.slice Ax nx cx] 37) = w4 := ⟨_, rfl⟩
      have hs4 : w4.heap.size = wr.heap.size + 1 := by rw [← hw4]; simp
      have hb4 : Below wr.heap.size wr w4 := by rw [← hw4]; exact (Below.refl _ _).alloc (Nat.le_refl _) _
      have B4 : Box w4 wr.heap.size [.slice Ax nx cx] := by rw [← hw4]; exact Box.new wr [_] _
      have HB4 := Lib.hid hb4
      have hb14 : Below w.heap.size w w4 := hb.trans (hb4.mono hb.size)
      have HB14 := Lib.hid hb14
      have hput := fun (W' : World) (h : Below w4.heap.size w4 W') => lput_any l bs_ _ vb W' ((hpx.below hb4).below h) ((HVB.out.below hb14).below h)
      have HIN := Lib.hid (own_in h2.out)
      have HQ : Hid (∀ W' : World, (∀ q, q < w4.heap.size → some q ≠ (Value.slice A8 j c8).ownBlock → W'.heap[q]? = w4.heap[q]?) →
          (W'.cell? ⟨wr.heap.size, 0, none⟩ = some (.slice Ax nx cx) ∧ W'.cell? ⟨bb, 0, none⟩ = some vb) ∧ W'.cell? ⟨w.heap.size + 1, 3, none⟩ = some (.slice A8 j c8) ∧ W'.frozen? ⟨w.heap.size + 1, 3, none⟩ = false) := Lib.hid fun W' h => by
        have hne : ∀ q, q < w.heap.size + 3 ∨ wr.heap.size ≤ q → some q ≠ (Value.slice A8 j c8).ownBlock := fun q hq e => by
          have := HIN.out q (by rw [← e]; simp)
          omega
        have D4 : Box W' wr.heap.size _ := B4.move (h _ (by omega) (hne _ (by omega)))
        have DO : Box W' (w.heap.size + 1) _ := (h1.out.below hb4).move (h _ (by omega) (hne _ (by omega)))
        have DB : W'.cell? ⟨bb, 0, none⟩ = some vb := (World.cell?_of_block (a := ⟨bb, 0, none⟩) (h bb (by omega) (hne _ (by omega)))).trans (cell_below hb14 HCB.out)
        exact ⟨⟨D4.cell rfl, DB⟩, DO.cell rfl, DO.frozen 3⟩
      have HT := Lib.hid hl
      have h1' : (j : Int) < (n : Int) := by omega
      have h0' : (0 : Int) ≤ (j : Int) := by omega
      have hjm : j + 1 ≤ maxLen := by unfold maxLen; omega
      have hjb : (j + 1) * 24 ≤ 140737488355328 := by omega
      have hv0 : wr.heap.size ≠ w.heap.size + 1 := by omega
      have hv1 : bb ≠ w.heap.size + 1 := by omega
      clear hcq hl hpx hb4 hb14 B4
      obtain ⟨i0, hi, hz0, hz1, hz2⟩ := info_parts info_level
      go_wp2_with fail
      obtain ⟨⟨p1, p2⟩, p9, p10⟩ := HQ.out w4 (fun _ _ _ => rfl)
      have d9 : w4.drew.cell? ⟨w.heap.size + 1, 3, none⟩ = some (.slice A8 j c8) := p9
      refine wp_region_held_drew (S := fun w' => w'.cell? ⟨wr.heap.size, 0, none⟩ = some (.slice Ax nx cx) ∧ w'.cell? ⟨bb, 0, none⟩ = some vb) (by kernel_rfl) ⟨p1, p2⟩ (fun hHeld => ?_)
      refine wpAnyH_take (i := 0) (v := ?v0n1) rfl (by kernel_rfl) (by kernel_rfl) (by kernel_rfl) (fun _ _ _ h => h) (Or.inl ⟨by rfl, ?hy0n1⟩) (by assumption) ?rest0n1
      case hy0n1 => intro w hSw; (try dsimp only at hSw); go_simp; try with_reducible rfl
      (try simp only [List.getElem_toArray, List.getElem_cons_succ, List.getElem_cons_zero, Act.put, List.setIfInBounds_toArray, List.set_cons_zero, List.set_cons_succ])
      refine wpAnyH_take (i := 2) (v := ?v2n2) rfl (by kernel_rfl) (by kernel_rfl) (by kernel_rfl) (fun _ _ _ h => h) (Or.inl ⟨by rfl, ?hy2n2⟩) (by assumption) ?rest2n2
      case hy2n2 => intro w hSw; (try dsimp only at hSw); go_simp; try with_reducible rfl
      (try simp only [List.getElem_toArray, List.getElem_cons_succ, List.getElem_cons_zero, Act.put, List.setIfInBounds_toArray, List.set_cons_zero, List.set_cons_succ])
      refine wpAnyH_take (i := 3) (v := ?v3n3) rfl (by kernel_rfl) (by kernel_rfl) (by kernel_rfl) (fun _ _ _ h => h) (Or.inl ⟨by rfl, ?hy3n3⟩) (by assumption) ?rest3n3
      case hy3n3 => intro w hSw; (try dsimp only at hSw); go_simp; try with_reducible rfl
      (try simp only [List.getElem_toArray, List.getElem_cons_succ, List.getElem_cons_zero, Act.put, List.setIfInBounds_toArray, List.set_cons_zero, List.set_cons_succ])
      refine wpAnyH_ready (rs := [1, 4]) (by kernel_rfl) (by simp) ?_
      refine (AllReadyH.cons rfl (fun K hK => ?_) (AllReadyH.cons rfl (fun K hK => ?_) AllReadyH.nil))
      · skip
        go_simp
        refine hK.out _ _ ⟨p1, p2⟩ (fun hHeld => ?_)
        clear hK K
        (try simp only [List.getElem_toArray, List.getElem_cons_succ, List.getElem_cons_zero, Act.put, List.setIfInBounds_toArray, List.set_cons_zero, List.set_cons_succ])
        refine wpAnyH_ready (rs := [4]) (by kernel_rfl) (by simp) ?_
        refine (AllReadyH.cons rfl (fun K hK => ?_) AllReadyH.nil)
        go_simp
        refine (hput w4.drew ((Below.refl _ _).drew)).mono ?_
        rintro e w5 ⟨vy, by5, rfl, ho5, hb5⟩
        obtain ⟨A9, n9, c9, rfl⟩ := ho5.reads.form
        have hb5' : Below w4.heap.size w4 w5 := (Below.refl _ _).drew.trans hb5
        obtain ⟨hqS, r9, r10⟩ := HQ.out w5 (fun q h _ => hb5'.block q h)
        have r11 : ∀ o, (w5.alloc o).cell? ⟨w.heap.size + 1, 3, none⟩ = some (.slice A8 j c8) := fun o => (HQ.out _ (fun q h _ => (hb5'.alloc hb5'.size o).block q h)).2.1
        have hqA := (HQ.out (w5.alloc (.cells #[.slice A9 n9 c9] 37)) (fun q h _ => (hb5'.alloc hb5'.size _).block q h)).1
        refine hK.out _ _ hqS (fun hHeld => ?_)
        clear hK K
        (try simp only [List.getElem_toArray, List.getElem_cons_succ, List.getElem_cons_zero, Act.put, List.setIfInBounds_toArray, List.set_cons_zero, List.set_cons_succ])
        refine wpAnyH_ready (rs := [5]) (by kernel_rfl) (by simp) ?_
        refine (AllReadyH.cons rfl (fun K hK => ?_) AllReadyH.nil)
        go_simp
        refine hK.out _ _ hqA (fun hHeld => ?_)
        clear hK K
        (try simp only [List.getElem_toArray, List.getElem_cons_succ, List.getElem_cons_zero, Act.put, List.setIfInBounds_toArray, List.set_cons_zero, List.set_cons_succ])
        refine wpAnyH_ready (rs := [6]) (by kernel_rfl) (by simp) ?_
        refine (AllReadyH.cons rfl (fun K hK => ?_) AllReadyH.nil)
        refine step_append_lies _ (by rfl) _ _ _ (by rfl) (w.heap.size + 3) 37 i0 _ 1 24 Tryd.underlying24 hi hz0 hz1 hz2 rfl (by omega) (.slice A8 j c8) j xs (by rfl) (own_below (own_below (own_below h2.out HB4.out) hb5') ((Below.refl _ _).alloc (Nat.le_refl _) _))
          ⟨w5.heap.size, 0, none⟩ 1 1 [.slice A9 n9 c9] (by rfl) (by rfl) (World.news_of_block (cs := #[.slice A9 n9 c9]) (t := 37) (fr := (0, 0)) (heap_alloc_new w5 _)) (by simp [Value.oneCell'])
          (by omega) hjm hjb (by have := hb5'.size; simp; omega) (w5.heap.size + 1) (by simp) ?_
        intro g7 cap7 w7 hrow7 hgrow hat hlt7
        obtain ⟨hqS, t9, t10⟩ := HQ.out w7 (fun q h hne => (hgrow.block q (by have := hb5'.size; simp; omega) hne).trans ((hb5'.alloc hb5'.size _).block q h))
        refine hK.out _ _ hqS (fun hHeld => ?_)
        clear hK K
        (try simp only [List.getElem_toArray, List.getElem_cons_succ, List.getElem_cons_zero, Act.put, List.setIfInBounds_toArray, List.set_cons_zero, List.set_cons_succ])
        refine wpAnyH_take (i := 7) (v := ?v7n4) rfl (by kernel_rfl) (by kernel_rfl) (by kernel_rfl) (fun _ _ _ h => h) (Or.inl ⟨by rfl, ?hy7n4⟩) (by assumption) ?rest7n4
        case hy7n4 => intro w hSw; (try dsimp only at hSw); go_simp; try with_reducible rfl
        (try simp only [List.getElem_toArray, List.getElem_cons_succ, List.getElem_cons_zero, Act.put, List.setIfInBounds_toArray, List.set_cons_zero, List.set_cons_succ])
        refine wpAnyH_ready (rs := [8]) (by kernel_rfl) (by simp) ?_
        refine (AllReadyH.cons rfl (fun K hK => ?_) AllReadyH.nil)
        go_simp
        refine hK.out _ _ ⟨cell_other hqS.1 hv0, cell_other hqS.2 hv1⟩ (fun hHeld => ?_)
        clear hK K
        (try simp only [List.getElem_toArray, List.getElem_cons_succ, List.getElem_cons_zero, Act.put, List.setIfInBounds_toArray, List.set_cons_zero, List.set_cons_succ])
        refine wpAnyH_done (by kernel_rfl) ?_ _
        clear hHeld
        have hg67 : w5.grownBy w7 (Value.slice A8 j c8).ownBlock := ⟨hgrow.os, hgrow.tape, hgrow.output, Nat.le_trans (by simp) hgrow.size, fun i hi hne => (hgrow.block i (by simp; omega) hne).trans (((Below.refl w5.heap.size w5).alloc (Nat.le_refl _) _).block i hi)⟩
        have hat7 : (Value.slice (some ⟨g7, 0, none⟩) (j + 1) cap7).ownBlock = (Value.slice A8 j c8).ownBlock ∨ ∃ b, (Value.slice (some ⟨g7, 0, none⟩) (j + 1) cap7).ownBlock = some b ∧ w5.heap.size ≤ b := by
          rcases hat with hat | hat
          · exact .inl (by rw [hat]; rfl)
          · exact .inr ⟨g7, rfl, by omega⟩
        obtain ⟨e1, e2⟩ := lev_step (own_below h2.out HB4.out) (OL.below h3.out HB4.out) h4.out (by omega) hb5' ho5 hg67 hat7
        have hB7 : Below w.heap.size w w7 := ((HB14.out.trans (hb5'.mono HB14.out.size)).alloc (by have := hb5'.size; omega) _).grown hgrow (by have := hb5'.size; simp; omega) (fun q hq => by have := HIN.out q (by rw [hq]; simp); omega)
        have hB8 : Below w.heap.size w (w7.setCell ⟨w.heap.size + 1, 3, none⟩ (.slice (some ⟨g7, 0, none⟩) (j + 1) cap7)) := hB7.setCell (show w.heap.size ≤ w.heap.size + 1 by omega) _
        have hmv : ∀ q, w.heap.size + 3 ≤ q → (w7.setCell ⟨w.heap.size + 1, 3, none⟩ (.slice (some ⟨g7, 0, none⟩) (j + 1) cap7)).heap[q]? = w7.heap[q]? := fun q hq => Below.heap_setCell _ _ _ _ (by show q ≠ w.heap.size + 1; omega)
        have hO7 : Box w7 (w.heap.size + 1) [.int .i64 k, .int .i64 m, .int .i64 a, .slice A8 j c8, .slice A3 n3 c3] := h1.out.move ((hg67.block _ (by have := hb5'.size; omega) (fun e => by have := HIN.out (w.heap.size + 1) (by rw [← e]; simp); omega)).trans ((hb5'.block _ (by omega)).trans (HB4.out.block _ (by omega))))
        have hR7 : Box w7 (w.heap.size + 2) [.int .i64 0, .int .i64 0, .int .i64 0, .slice none 0 0, .slice none 0 0] := h5.out.move ((hg67.block _ (by have := hb5'.size; omega) (fun e => by have := HIN.out (w.heap.size + 2) (by rw [← e]; simp); omega)).trans ((hb5'.block _ (by omega)).trans (HB4.out.block _ (by omega))))
        have E5 := Lib.hid (hR7.other (a := ⟨w.heap.size + 1, 3, none⟩) (show w.heap.size + 2 ≠ w.heap.size + 1 by omega) (.slice (some ⟨g7, 0, none⟩) (j + 1) cap7))
        have E4 := Lib.hid (hO7.set 3 (.slice (some ⟨g7, 0, none⟩) (j + 1) cap7))
        have hs8 : w.heap.size + 3 ≤ (w7.setCell ⟨w.heap.size + 1, 3, none⟩ (.slice (some ⟨g7, 0, none⟩) (j + 1) cap7)).heap.size := by have := hg67.size; have := hb5'.size; simp; omega
        have hk8 : (ls.take (j + 1)).map (putLv · bs_) = (ls.take j).map (putLv · bs_) ++ [putLv l bs_] := by rw [List.take_add_one, HT.out]; simp
        have E1 := Lib.hid (own_move hrow7 fun q hq => hmv q (own_in hrow7 q hq).1)
        have E2 := Lib.hid (e1.move fun q hq => hmv q (e1.inn q hq).1)
        rw [← hk8] at E2
        have E3 := Lib.hid e2
        clear hqS t9 t10 hg67 hat7 hB7 hmv hO7 hR7 e1 e2 hat hk8
        go_wp2_with fail
        go_roundw
        case rel => exact ⟨j + 1, bs ++ by5, _, _, by omega, by go_num, E4, E1, E2, E3, E5, hs8, hB8⟩
        case measure => simp [RowKit.intOf]; omega
      · skip
        go_simp
        refine (hput w4.drew ((Below.refl _ _).drew)).mono ?_
        rintro e w5 ⟨vy, by5, rfl, ho5, hb5⟩
        obtain ⟨A9, n9, c9, rfl⟩ := ho5.reads.form
        have hb5' : Below w4.heap.size w4 w5 := (Below.refl _ _).drew.trans hb5
        obtain ⟨hqS, r9, r10⟩ := HQ.out w5 (fun q h _ => hb5'.block q h)
        have r11 : ∀ o, (w5.alloc o).cell? ⟨w.heap.size + 1, 3, none⟩ = some (.slice A8 j c8) := fun o => (HQ.out _ (fun q h _ => (hb5'.alloc hb5'.size o).block q h)).2.1
        have hqA := (HQ.out (w5.alloc (.cells #[.slice A9 n9 c9] 37)) (fun q h _ => (hb5'.alloc hb5'.size _).block q h)).1
        refine hK.out _ _ hqS (fun hHeld => ?_)
        clear hK K
        (try simp only [List.getElem_toArray, List.getElem_cons_succ, List.getElem_cons_zero, Act.put, List.setIfInBounds_toArray, List.set_cons_zero, List.set_cons_succ])
        refine wpAnyH_ready (rs := [1, 5]) (by kernel_rfl) (by simp) ?_
        refine (AllReadyH.cons rfl (fun K hK => ?_) (AllReadyH.cons rfl (fun K hK => ?_) AllReadyH.nil))
        · skip
          go_simp
          refine hK.out _ _ hqS (fun hHeld => ?_)
          clear hK K
          (try simp only [List.getElem_toArray, List.getElem_cons_succ, List.getElem_cons_zero, Act.put, List.setIfInBounds_toArray, List.set_cons_zero, List.set_cons_succ])
          refine wpAnyH_ready (rs := [5]) (by kernel_rfl) (by simp) ?_
          refine (AllReadyH.cons rfl (fun K hK => ?_) AllReadyH.nil)
          go_simp
          refine hK.out _ _ hqA (fun hHeld => ?_)
          clear hK K
          (try simp only [List.getElem_toArray, List.getElem_cons_succ, List.getElem_cons_zero, Act.put, List.setIfInBounds_toArray, List.set_cons_zero, List.set_cons_succ])
          refine wpAnyH_ready (rs := [6]) (by kernel_rfl) (by simp) ?_
          refine (AllReadyH.cons rfl (fun K hK => ?_) AllReadyH.nil)
          refine step_append_lies _ (by rfl) _ _ _ (by rfl) (w.heap.size + 3) 37 i0 _ 1 24 Tryd.underlying24 hi hz0 hz1 hz2 rfl (by omega) (.slice A8 j c8) j xs (by rfl) (own_below (own_below (own_below h2.out HB4.out) hb5') ((Below.refl _ _).alloc (Nat.le_refl _) _))
            ⟨w5.heap.size, 0, none⟩ 1 1 [.slice A9 n9 c9] (by rfl) (by rfl) (World.news_of_block (cs := #[.slice A9 n9 c9]) (t := 37) (fr := (0, 0)) (heap_alloc_new w5 _)) (by simp [Value.oneCell'])
            (by omega) hjm hjb (by have := hb5'.size; simp; omega) (w5.heap.size + 1) (by simp) ?_
          intro g7 cap7 w7 hrow7 hgrow hat hlt7
          obtain ⟨hqS, t9, t10⟩ := HQ.out w7 (fun q h hne => (hgrow.block q (by have := hb5'.size; simp; omega) hne).trans ((hb5'.alloc hb5'.size _).block q h))
          refine hK.out _ _ hqS (fun hHeld => ?_)
          clear hK K
          (try simp only [List.getElem_toArray, List.getElem_cons_succ, List.getElem_cons_zero, Act.put, List.setIfInBounds_toArray, List.set_cons_zero, List.set_cons_succ])
          refine wpAnyH_take (i := 7) (v := ?v7n5) rfl (by kernel_rfl) (by kernel_rfl) (by kernel_rfl) (fun _ _ _ h => h) (Or.inl ⟨by rfl, ?hy7n5⟩) (by assumption) ?rest7n5
          case hy7n5 => intro w hSw; (try dsimp only at hSw); go_simp; try with_reducible rfl
          (try simp only [List.getElem_toArray, List.getElem_cons_succ, List.getElem_cons_zero, Act.put, List.setIfInBounds_toArray, List.set_cons_zero, List.set_cons_succ])
          refine wpAnyH_ready (rs := [8]) (by kernel_rfl) (by simp) ?_
          refine (AllReadyH.cons rfl (fun K hK => ?_) AllReadyH.nil)
          go_simp
          refine hK.out _ _ ⟨cell_other hqS.1 hv0, cell_other hqS.2 hv1⟩ (fun hHeld => ?_)
          clear hK K
          (try simp only [List.getElem_toArray, List.getElem_cons_succ, List.getElem_cons_zero, Act.put, List.setIfInBounds_toArray, List.set_cons_zero, List.set_cons_succ])
          refine wpAnyH_done (by kernel_rfl) ?_ _
          clear hHeld
          have hg67 : w5.grownBy w7 (Value.slice A8 j c8).ownBlock := ⟨hgrow.os, hgrow.tape, hgrow.output, Nat.le_trans (by simp) hgrow.size, fun i hi hne => (hgrow.block i (by simp; omega) hne).trans (((Below.refl w5.heap.size w5).alloc (Nat.le_refl _) _).block i hi)⟩
          have hat7 : (Value.slice (some ⟨g7, 0, none⟩) (j + 1) cap7).ownBlock = (Value.slice A8 j c8).ownBlock ∨ ∃ b, (Value.slice (some ⟨g7, 0, none⟩) (j + 1) cap7).ownBlock = some b ∧ w5.heap.size ≤ b := by
            rcases hat with hat | hat
            · exact .inl (by rw [hat]; rfl)
            · exact .inr ⟨g7, rfl, by omega⟩
          obtain ⟨e1, e2⟩ := lev_step (own_below h2.out HB4.out) (OL.below h3.out HB4.out) h4.out (by omega) hb5' ho5 hg67 hat7
          have hB7 : Below w.heap.size w w7 := ((HB14.out.trans (hb5'.mono HB14.out.size)).alloc (by have := hb5'.size; omega) _).grown hgrow (by have := hb5'.size; simp; omega) (fun q hq => by have := HIN.out q (by rw [hq]; simp); omega)
          have hB8 : Below w.heap.size w (w7.setCell ⟨w.heap.size + 1, 3, none⟩ (.slice (some ⟨g7, 0, none⟩) (j + 1) cap7)) := hB7.setCell (show w.heap.size ≤ w.heap.size + 1 by omega) _
          have hmv : ∀ q, w.heap.size + 3 ≤ q → (w7.setCell ⟨w.heap.size + 1, 3, none⟩ (.slice (some ⟨g7, 0, none⟩) (j + 1) cap7)).heap[q]? = w7.heap[q]? := fun q hq => Below.heap_setCell _ _ _ _ (by show q ≠ w.heap.size + 1; omega)
          have hO7 : Box w7 (w.heap.size + 1) [.int .i64 k, .int .i64 m, .int .i64 a, .slice A8 j c8, .slice A3 n3 c3] := h1.out.move ((hg67.block _ (by have := hb5'.size; omega) (fun e => by have := HIN.out (w.heap.size + 1) (by rw [← e]; simp); omega)).trans ((hb5'.block _ (by omega)).trans (HB4.out.block _ (by omega))))
          have hR7 : Box w7 (w.heap.size + 2) [.int .i64 0, .int .i64 0, .int .i64 0, .slice none 0 0, .slice none 0 0] := h5.out.move ((hg67.block _ (by have := hb5'.size; omega) (fun e => by have := HIN.out (w.heap.size + 2) (by rw [← e]; simp); omega)).trans ((hb5'.block _ (by omega)).trans (HB4.out.block _ (by omega))))
          have E5 := Lib.hid (hR7.other (a := ⟨w.heap.size + 1, 3, none⟩) (show w.heap.size + 2 ≠ w.heap.size + 1 by omega) (.slice (some ⟨g7, 0, none⟩) (j + 1) cap7))
          have E4 := Lib.hid (hO7.set 3 (.slice (some ⟨g7, 0, none⟩) (j + 1) cap7))
          have hs8 : w.heap.size + 3 ≤ (w7.setCell ⟨w.heap.size + 1, 3, none⟩ (.slice (some ⟨g7, 0, none⟩) (j + 1) cap7)).heap.size := by have := hg67.size; have := hb5'.size; simp; omega
          have hk8 : (ls.take (j + 1)).map (putLv · bs_) = (ls.take j).map (putLv · bs_) ++ [putLv l bs_] := by rw [List.take_add_one, HT.out]; simp
          have E1 := Lib.hid (own_move hrow7 fun q hq => hmv q (own_in hrow7 q hq).1)
          have E2 := Lib.hid (e1.move fun q hq => hmv q (e1.inn q hq).1)
          rw [← hk8] at E2
          have E3 := Lib.hid e2
          clear hqS t9 t10 hg67 hat7 hB7 hmv hO7 hR7 e1 e2 hat hk8
          go_wp2_with fail
          go_roundw
          case rel => exact ⟨j + 1, bs ++ by5, _, _, by omega, by go_num, E4, E1, E2, E3, E5, hs8, hB8⟩
          case measure => simp [RowKit.intOf]; omega
        · skip
          go_simp
          refine hK.out _ _ hqA (fun hHeld => ?_)
          clear hK K
          (try simp only [List.getElem_toArray, List.getElem_cons_succ, List.getElem_cons_zero, Act.put, List.setIfInBounds_toArray, List.set_cons_zero, List.set_cons_succ])
          refine wpAnyH_ready (rs := [1]) (by kernel_rfl) (by simp) ?_
          refine (AllReadyH.cons rfl (fun K hK => ?_) AllReadyH.nil)
          go_simp
          refine hK.out _ _ hqA (fun hHeld => ?_)
          clear hK K
          (try simp only [List.getElem_toArray, List.getElem_cons_succ, List.getElem_cons_zero, Act.put, List.setIfInBounds_toArray, List.set_cons_zero, List.set_cons_succ])
          refine wpAnyH_ready (rs := [6]) (by kernel_rfl) (by simp) ?_
          refine (AllReadyH.cons rfl (fun K hK => ?_) AllReadyH.nil)
          refine step_append_lies _ (by rfl) _ _ _ (by rfl) (w.heap.size + 3) 37 i0 _ 1 24 Tryd.underlying24 hi hz0 hz1 hz2 rfl (by omega) (.slice A8 j c8) j xs (by rfl) (own_below (own_below (own_below h2.out HB4.out) hb5') ((Below.refl _ _).alloc (Nat.le_refl _) _))
            ⟨w5.heap.size, 0, none⟩ 1 1 [.slice A9 n9 c9] (by rfl) (by rfl) (World.news_of_block (cs := #[.slice A9 n9 c9]) (t := 37) (fr := (0, 0)) (heap_alloc_new w5 _)) (by simp [Value.oneCell'])
            (by omega) hjm hjb (by have := hb5'.size; simp; omega) (w5.heap.size + 1) (by simp) ?_
          intro g7 cap7 w7 hrow7 hgrow hat hlt7
          obtain ⟨hqS, t9, t10⟩ := HQ.out w7 (fun q h hne => (hgrow.block q (by have := hb5'.size; simp; omega) hne).trans ((hb5'.alloc hb5'.size _).block q h))
          refine hK.out _ _ hqS (fun hHeld => ?_)
          clear hK K
          (try simp only [List.getElem_toArray, List.getElem_cons_succ, List.getElem_cons_zero, Act.put, List.setIfInBounds_toArray, List.set_cons_zero, List.set_cons_succ])
          refine wpAnyH_take (i := 7) (v := ?v7n6) rfl (by kernel_rfl) (by kernel_rfl) (by kernel_rfl) (fun _ _ _ h => h) (Or.inl ⟨by rfl, ?hy7n6⟩) (by assumption) ?rest7n6
          case hy7n6 => intro w hSw; (try dsimp only at hSw); go_simp; try with_reducible rfl
          (try simp only [List.getElem_toArray, List.getElem_cons_succ, List.getElem_cons_zero, Act.put, List.setIfInBounds_toArray, List.set_cons_zero, List.set_cons_succ])
          refine wpAnyH_ready (rs := [8]) (by kernel_rfl) (by simp) ?_
          refine (AllReadyH.cons rfl (fun K hK => ?_) AllReadyH.nil)
          go_simp
          refine hK.out _ _ ⟨cell_other hqS.1 hv0, cell_other hqS.2 hv1⟩ (fun hHeld => ?_)
          clear hK K
          (try simp only [List.getElem_toArray, List.getElem_cons_succ, List.getElem_cons_zero, Act.put, List.setIfInBounds_toArray, List.set_cons_zero, List.set_cons_succ])
          refine wpAnyH_done (by kernel_rfl) ?_ _
          clear hHeld
          have hg67 : w5.grownBy w7 (Value.slice A8 j c8).ownBlock := ⟨hgrow.os, hgrow.tape, hgrow.output, Nat.le_trans (by simp) hgrow.size, fun i hi hne => (hgrow.block i (by simp; omega) hne).trans (((Below.refl w5.heap.size w5).alloc (Nat.le_refl _) _).block i hi)⟩
          have hat7 : (Value.slice (some ⟨g7, 0, none⟩) (j + 1) cap7).ownBlock = (Value.slice A8 j c8).ownBlock ∨ ∃ b, (Value.slice (some ⟨g7, 0, none⟩) (j + 1) cap7).ownBlock = some b ∧ w5.heap.size ≤ b := by
            rcases hat with hat | hat
            · exact .inl (by rw [hat]; rfl)
            · exact .inr ⟨g7, rfl, by omega⟩
          obtain ⟨e1, e2⟩ := lev_step (own_below h2.out HB4.out) (OL.below h3.out HB4.out) h4.out (by omega) hb5' ho5 hg67 hat7
          have hB7 : Below w.heap.size w w7 := ((HB14.out.trans (hb5'.mono HB14.out.size)).alloc (by have := hb5'.size; omega) _).grown hgrow (by have := hb5'.size; simp; omega) (fun q hq => by have := HIN.out q (by rw [hq]; simp); omega)
          have hB8 : Below w.heap.size w (w7.setCell ⟨w.heap.size + 1, 3, none⟩ (.slice (some ⟨g7, 0, none⟩) (j + 1) cap7)) := hB7.setCell (show w.heap.size ≤ w.heap.size + 1 by omega) _
          have hmv : ∀ q, w.heap.size + 3 ≤ q → (w7.setCell ⟨w.heap.size + 1, 3, none⟩ (.slice (some ⟨g7, 0, none⟩) (j + 1) cap7)).heap[q]? = w7.heap[q]? := fun q hq => Below.heap_setCell _ _ _ _ (by show q ≠ w.heap.size + 1; omega)
          have hO7 : Box w7 (w.heap.size + 1) [.int .i64 k, .int .i64 m, .int .i64 a, .slice A8 j c8, .slice A3 n3 c3] := h1.out.move ((hg67.block _ (by have := hb5'.size; omega) (fun e => by have := HIN.out (w.heap.size + 1) (by rw [← e]; simp); omega)).trans ((hb5'.block _ (by omega)).trans (HB4.out.block _ (by omega))))
          have hR7 : Box w7 (w.heap.size + 2) [.int .i64 0, .int .i64 0, .int .i64 0, .slice none 0 0, .slice none 0 0] := h5.out.move ((hg67.block _ (by have := hb5'.size; omega) (fun e => by have := HIN.out (w.heap.size + 2) (by rw [← e]; simp); omega)).trans ((hb5'.block _ (by omega)).trans (HB4.out.block _ (by omega))))
          have E5 := Lib.hid (hR7.other (a := ⟨w.heap.size + 1, 3, none⟩) (show w.heap.size + 2 ≠ w.heap.size + 1 by omega) (.slice (some ⟨g7, 0, none⟩) (j + 1) cap7))
          have E4 := Lib.hid (hO7.set 3 (.slice (some ⟨g7, 0, none⟩) (j + 1) cap7))
          have hs8 : w.heap.size + 3 ≤ (w7.setCell ⟨w.heap.size + 1, 3, none⟩ (.slice (some ⟨g7, 0, none⟩) (j + 1) cap7)).heap.size := by have := hg67.size; have := hb5'.size; simp; omega
          have hk8 : (ls.take (j + 1)).map (putLv · bs_) = (ls.take j).map (putLv · bs_) ++ [putLv l bs_] := by rw [List.take_add_one, HT.out]; simp
          have E1 := Lib.hid (own_move hrow7 fun q hq => hmv q (own_in hrow7 q hq).1)
          have E2 := Lib.hid (e1.move fun q hq => hmv q (e1.inn q hq).1)
          rw [← hk8] at E2
          have E3 := Lib.hid e2
          clear hqS t9 t10 hg67 hat7 hB7 hmv hO7 hR7 e1 e2 hat hk8
          go_wp2_with fail
          go_roundw
          case rel => exact ⟨j + 1, bs ++ by5, _, _, by omega, by go_num, E4, E1, E2, E3, E5, hs8, hB8⟩
          case measure => simp [RowKit.intOf]; omega
    · obtain rfl : j = n := by omega
      have hall : ls.take j = ls := List.take_of_length_le (by have := HNN.out; omega)
      rw [hall] at h3
      obtain ⟨s0, s1, s2, s3, s4⟩ := h1.out.five
      obtain ⟨r0, r1, r2, r3, r4⟩ := h5.out.thaw
      obtain ⟨x0, x1, x2, x3, x4⟩ := h5.out.five
      have hO : OLv wr (w.heap.size + 3) ((Value.slice A8 j c8).ownBlock.toList ++ bs) (ls.map (putLv · bs_)) (.slice A8 j c8) := ⟨bs, xs, by rw [List.length_map, HNN.out]; exact h2.out, h3.out, rfl, by rw [List.length_map, HNN.out]; omega⟩
      have HO := Lib.hid hO
      have HIN := Lib.hid hO.inn
      clear hall hO
      go_wp2_with fail
      obtain ⟨wf, ewf, F, hmv, hbf⟩ := put5 h5.out (.int .i64 k) (.int .i64 m) (.int .i64 a) (.slice A8 j c8) (.slice A3 n3 c3)
      rw [ewf]
      obtain ⟨z0, z1, z2, z3, z4⟩ := F.five
      refine bodyPost_ret (v := .tuple #[.agg #[.int .i64 k, .int .i64 m, .int .i64 a, .slice A8 j c8, .slice A3 n3 c3], .bool false]) (by simp [results, Tryd.results40, go_sem, z0, z1, z2, z3, z4]) rfl ?_
      have e3 : OLv wf (w.heap.size + 3) _ _ (.slice A8 j c8) := HO.out.move fun q hq => hmv q (by have := (HIN.out q hq).1; omega)
      exact ⟨_, _, rfl, e3.lower (by omega), h4.out, hb.trans (hbf.mono (by omega))⟩

open Go.RowKit
set_option linter.unusedSimpArgs false
set_option linter.unusedVariables false
set_option maxRecDepth 100000

theorem lvsw_any (bs_ : List Lv) (d : Int) (t : Tm) (vl vk vb : Value) (bb : Nat) (w : World) (hK : Kinds w) (hr : RT w t vl vk) (h0 : 0 ≤ d) (h1 : d + size t ≤ 4611686018427387904)
    (hB : w.cell? ⟨bb, 0, none⟩ = some vb) (hvb : RLv w bs_ vb) :
    Calls Tryd.prog 32 #[.agg #[.int .i64 d, .func (.func 40) #[] #[.pointer (some ⟨bb, 0, none⟩)]], .agg #[.int .i64 t.kind, .int .i64 t.num, .int .i64 t.atN, vl, vk]] w (MadeT (lvsT bs_ d t) w) := by
  refine walk_all (w0 := w) (s := lvsStep bs_) (G := fun d t => 0 ≤ d ∧ d + size t ≤ 4611686018427387904) hK Tryd.call40 ?_ ?_ ?_ (size t) d t vl vk w (Nat.le_refl _) (Below.refl _ _) hr ⟨h0, h1⟩
  · rintro d k m a ls ks vl A3 n3 c3 W hb hr ⟨h0, h1⟩
    rw [RT_iff] at hr
    exact levels1_any bs_ d k m a ls vl vb A3 n3 c3 _ _ bb W hr.1 (cell_below hb hB) (hvb.below hb)
  · rintro d k m a ls ks i t ⟨h0, h1⟩ hi
    simp only [size] at h1
    have := size_at hi
    have := inner_le k i d
    exact ⟨by omega, by omega⟩
  · rintro d t ⟨h0, h1⟩
    exact ⟨h0, by omega⟩

set_option maxHeartbeats 1600000 in
theorem levels_any (bs_ : List Lv) (t : Tm) (vl vk vb : Value) (w : World) (hK : Kinds w) (hr : RT w t vl vk) (hvb : RLv w bs_ vb) (h1 : size t ≤ 1000000000000) :
    Calls Tryd.prog 12 #[.agg #[.int .i64 t.kind, .int .i64 t.num, .int .i64 t.atN, vl, vk], vb] w (MadeT (lvsT bs_ 0 t) w) := by
  obtain ⟨A2, n2, c2, A3, n3, c3, rfl, rfl⟩ := hr.forms
  have hcall := fun W (hb : Below w.heap.size w W) (hn : W.cell? ⟨w.heap.size + 1, 0, none⟩ = some vb) => lvsw_any bs_ 0 t _ _ vb (w.heap.size + 1) W (hK.below hb) (hr.below hb) (by omega) (by omega) hn (hvb.below hb)
  obtain ⟨Ab, cb, rfl, -⟩ := hvb
  clear hr hK h1
  generalize lvsT bs_ 0 t = u at *
  go_enter Tryd.func12, Tryd.ntmps12
  go_wp2_with fail
  refine (hcall _ ?_ ?_).mono ?_
  · exact (((Below.refl _ _).alloc (Nat.le_refl _) _).alloc (by simp) _).alloc (by simp; omega) _
  · exact (Box.alloc (Box.new' (w.alloc _) [_] _ (by simp)) _).cell rfl
  rintro e w1 ⟨vl, vk, bs, rfl, ho, hnd, hb1⟩
  obtain ⟨A5, n5, c5, A6, n6, c6, rfl, rfl⟩ := ho.forms
  have b1 : Below w.heap.size w w1 := ((((Below.refl _ _).alloc (Nat.le_refl _) _).alloc (by simp) _).alloc (by simp; omega) _).trans (hb1.mono (by simp; omega))
  have B3 : Box w1 (w.heap.size + 2) [.int .i64 0, .int .i64 0, .int .i64 0, .slice none 0 0, .slice none 0 0] := Box.below (Box.new' ((w.alloc _).alloc _) [_, _, _, _, _] _ (by simp)) hb1
  have hin : ∀ q ∈ bs, w.heap.size + 2 < q := fun q hq => by have := (ho.inn q hq).1; simp at this; omega
  have HO := Lib.hid ho
  have HN := Lib.hid hnd
  have HI := Lib.hid hin
  clear ho hnd hb1 hcall hin
  obtain ⟨s0, s1, s2, s3, s4⟩ := B3.five
  obtain ⟨r0, r1, r2, r3, r4⟩ := B3.thaw
  go_wp2_with fail
  obtain ⟨wf, ewf, F, hmv, hbf⟩ := put5 B3 (.int .i64 u.kind) (.int .i64 u.num) (.int .i64 u.atN) (.slice A5 n5 c5) (.slice A6 n6 c6)
  rw [ewf]
  obtain ⟨z0, z1, z2, z3, z4⟩ := F.five
  refine bodyPost_ret (v := .agg #[.int .i64 u.kind, .int .i64 u.num, .int .i64 u.atN, .slice A5 n5 c5, .slice A6 n6 c6]) (by simp [results, Tryd.results12, go_sem, z0, z1, z2, z3, z4]) rfl ?_
  exact ⟨_, _, bs, rfl, OT.lower (by simp; omega) (HO.out.move fun q hq => hmv q (by have := HI.out q hq; omega)), HN.out, b1.trans (hbf.mono (by omega))⟩

end Go.Proofs.YtgegaipkfpdocaaDoor
