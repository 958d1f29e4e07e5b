/-
  THE WALK OF term.own.
-/
import Derived.Test.YtgegaipkfpdocaaDoorTerm
namespace Go.Proofs.YtgegaipkfpdocaaDoor
open Go.RowKit

theorem grown_of_below {w w1 : World} (h : Below w.heap.size w w1) (row : Option Nat) : w.grownBy w1 row := ⟨h.os, h.tape, h.output, h.size, fun i hi _ => h.block i hi⟩
theorem set_mid {α : Type} (ys : List α) (x x' : α) (zs : List α) {k : Nat} (h : ys.length = k) : (ys ++ x :: zs).set k x' = ys ++ x' :: zs := by
  subst h
  induction ys with
  | nil => rfl
  | cons y ys ih => simp only [List.cons_append, List.length_cons, List.set_cons_succ, ih]

theorem RX.get {w : World} : ∀ {ls : List Lv} {xs : List Value} {i : Nat} {x : Value}, RX w ls xs → xs[i]? = some x → ∃ p, ls[i]? = some p ∧ RPv w p x
  | [], _, _, _, h, hi => by rw [show _ = [] from h] at hi; simp at hi
  | l :: ls, _, i, x, ⟨y, ys, e, h1, h2⟩, hi => by
    subst e
    cases i with
    | zero => simp only [List.getElem?_cons_zero, Option.some.injEq] at hi; subst hi; exact ⟨l, rfl, h1⟩
    | succ i => exact RX.get h2 (i := i) (by simpa using hi)
/-- A round of own: the level at k has parts of its own now. -/
theorem own_step {wr w1 : World} {lo n c g k : Nat} {ys zs : List Value} {x v' : Value} {bs bs' : List Nat} {lk : List Lv} {p : Lv}
    (hrow : wr.ownsRow lo 37 1 (.slice (some ⟨g, 0, none⟩) n c) n (ys ++ x :: zs)) (hk : ys.length = k) (hys : OL wr lo bs lk ys) (hnd : (g :: bs).Nodup)
    (hlo : lo ≤ wr.heap.size) (hb : Below wr.heap.size wr w1) (hm : OPv w1 wr.heap.size bs' p v') :
    (w1.setCell ⟨g, k, none⟩ v').ownsRow lo 37 1 (.slice (some ⟨g, 0, none⟩) n c) n ((ys ++ [v']) ++ zs) ∧ OL (w1.setCell ⟨g, k, none⟩ v') lo (bs ++ bs') (lk ++ [p]) (ys ++ [v']) ∧ (g :: (bs ++ bs')).Nodup := by
  have hg : g < wr.heap.size := (own_in hrow g (by simp [Value.ownBlock])).2
  have h1 := own_below hrow hb
  obtain ⟨h2, hgr⟩ := h1.stored k v'
  rw [set_mid ys x v' zs hk] at h2
  have hbs : ∀ q ∈ bs, q < wr.heap.size := fun q hq => (hys.inn q hq).2
  have hbs' : ∀ q ∈ bs', wr.heap.size ≤ q := fun q hq => (hm.inn q hq).1
  have hgb : g ∉ bs := (List.nodup_cons.1 hnd).1
  have hy1 : OL (w1.setCell ⟨g, k, none⟩ v') lo bs lk ys := (hys.below hb).move fun q hq => Below.heap_setCell _ _ _ _ (by rintro rfl; exact hgb hq)
  have hm1 : OPv (w1.setCell ⟨g, k, none⟩ v') lo bs' p v' := (hm.lower hlo).move fun q hq => Below.heap_setCell _ _ _ _ (by rintro rfl; have := hbs' _ hq; exact absurd hg (by simpa using this))
  refine ⟨by rw [List.append_assoc]; exact h2, hy1.snoc hm1, ?_⟩
  have hn' : bs'.Nodup := by
    obtain ⟨_, rfl, _⟩ := hm
    cases v'.ownBlock <;> simp
  rw [List.nodup_cons] at hnd ⊢
  refine ⟨fun hin => ?_, ?_⟩
  · rcases List.mem_append.1 hin with hin | hin
    · exact hgb hin
    · have := hbs' _ hin; omega
  · rw [List.nodup_append]
    exact ⟨hnd.2, hn', fun a ha b hb' => by have := hbs a ha; have := hbs' b hb'; omega⟩

/-- A node whose levels are its own. -/
def MadeN (k n a : Int) (ls : List Lv) (vk : Value) (w : World) (e : Ending) (w' : World) : Prop :=
  ∃ vl bs, e = .returned (.agg #[.int .i64 k, .int .i64 n, .int .i64 a, vl, vk]) ∧ OLv w' w.heap.size bs ls vl ∧ bs.Nodup ∧ Below w.heap.size w w'

set_option maxRecDepth 100000 in
set_option maxHeartbeats 1600000 in
theorem own_any (k n a : Int) (ls : List Lv) (vl : Value) (A3 : Option Addr) (n3 c3 : Nat) (w : World) (h : RLv w ls vl) :
    Calls Tryd.prog 31 #[.agg #[.int .i64 k, .int .i64 n, .int .i64 a, vl, .slice A3 n3 c3]] w (MadeN k n a ls (.slice A3 n3 c3) w) := by
  have hcl := fun W (hb : Below w.heap.size w W) => cloneL_any ls vl w W h hb
  have hmx : ls.length ≤ 5864062014805 := by obtain ⟨A, c, _, _, h, _⟩ := h; exact h
  obtain ⟨A4, n4, c4, rfl⟩ : ∃ A n c, vl = .slice A n c := by obtain ⟨A, c, e, _⟩ := h; exact ⟨A, _, c, e⟩
  go_enter Tryd.func31, Tryd.ntmps31
  go_wp2_with fail
  refine (hcl _ ?_).mono ?_
  · exact ((Below.refl _ _).alloc (Nat.le_refl _) _).alloc (by simp) _
  rintro e w1 ⟨v1, xs, rfl, hrow, hx, hb1⟩
  generalize hW : (w.alloc (.cells #[.int .i64 k, .int .i64 n, .int .i64 a, .slice A4 n4 c4, .slice A3 n3 c3] 27)).alloc (.cells #[.int .i64 0, .int .i64 0, .int .i64 0, .slice none 0 0, .slice none 0 0] 27) = W at *
  have hws : W.heap.size = w.heap.size + 2 := by rw [← hW]; simp
  have hbW : Below w.heap.size w W := by rw [← hW]; exact ((Below.refl _ _).alloc (Nat.le_refl _) _).alloc (by simp) _
  have B1 : Box w1 w.heap.size [.int .i64 k, .int .i64 n, .int .i64 a, .slice A4 n4 c4, .slice A3 n3 c3] := Box.below (by rw [← hW]; exact (Box.new w [_, _, _, _, _] _).alloc _) hb1
  have B2 : Box w1 (w.heap.size + 1) [.int .i64 0, .int .i64 0, .int .i64 0, .slice none 0 0, .slice none 0 0] := Box.below (by rw [← hW]; exact Box.new' (w.alloc _) [_, _, _, _, _] _ (by simp)) hb1
  clear hW hcl
  obtain ⟨A5, c5, rfl, hc5, -, -⟩ := own_form hrow
  have B1' := B1.set 3 (.slice A5 ls.length c5)
  have B2' := B2.other (a := ⟨w.heap.size, 3, none⟩) (by simp) (.slice A5 ls.length c5)
  have hrow' : (w1.setCell ⟨w.heap.size, 3, none⟩ (.slice A5 ls.length c5)).ownsRow W.heap.size 37 1 (.slice A5 ls.length c5) ls.length xs :=
    own_move hrow fun q hq => Below.heap_setCell _ _ _ _ (by rintro rfl; have := (own_in hrow _ hq).1; simp at this; omega)
  have hB' : Below w.heap.size w (w1.setCell ⟨w.heap.size, 3, none⟩ (.slice A5 ls.length c5)) := (hbW.trans (hb1.mono hbW.size)).setCell (Nat.le_refl _) _
  simp only [List.set_cons_succ, List.set_cons_zero] at B1'
  have hsz : W.heap.size ≤ (w1.setCell ⟨w.heap.size, 3, none⟩ (.slice A5 ls.length c5)).heap.size := by simpa using hb1.size
  have r3 := B1.cell (j := 3) rfl
  have f3 := B1.frozen 3
  have s3 := B1'.cell (j := 3) rfl
  have HX := Lib.hid hx
  have H1 := Lib.hid B1'
  have H2 := Lib.hid B2'
  have HR := Lib.hid hrow'
  clear B1 B2 B1' B2' hrow hrow' hx hb1
  generalize hnn : ls.length = m at *
  have HNN := Lib.hid hnn; clear hnn
  go_wp2_with fail
  go_loopw [11] (fun i wr => ∃ (j : Nat) (bs : List Nat) (ys : List Value), j ≤ m ∧ i = .int .i64 j ∧ Hid (Box wr w.heap.size [.int .i64 k, .int .i64 n, .int .i64 a, .slice A5 m c5, .slice A3 n3 c3]) ∧
      Hid (Box wr (w.heap.size + 1) [.int .i64 0, .int .i64 0, .int .i64 0, .slice none 0 0, .slice none 0 0]) ∧ Hid (wr.ownsRow W.heap.size 37 1 (.slice A5 m c5) m (ys ++ xs.drop j)) ∧ Hid (ys.length = j) ∧
      Hid (OL wr W.heap.size bs (ls.take j) ys) ∧ Hid (((Value.slice A5 m c5).ownBlock.toList ++ bs).Nodup) ∧ W.heap.size ≤ wr.heap.size ∧ Below w.heap.size w wr) (fun i _ => m - (intOf i).toNat)
  case atStart => exact ⟨0, [], [], Nat.zero_le _, rfl, H1, H2, HR.out, rfl, ⟨rfl, rfl⟩, (by cases (Value.slice A5 m c5).ownBlock <;> simp : ((Value.slice A5 m c5).ownBlock.toList ++ []).Nodup), hsz, hB'⟩
  case round =>
    obtain ⟨j, bs, ys, hj, rfl, h1, h2, h3, h4, h5, h6, h7, hb⟩ := hrel
    clear hsz hB' hc5 r3 f3 s3 hbW
    by_cases hlt : j < m
    · obtain ⟨g, rfl, hcell⟩ : ∃ g, A5 = some ⟨g, 0, none⟩ ∧ ∀ i u, (ys ++ xs.drop j)[i]? = some u → wr.cell? ⟨g, i, none⟩ = some u := by
        obtain ⟨A6, c6, e6, -, -, hcell⟩ := own_form h3.out
        obtain ⟨g, e7, h⟩ := hcell (by omega)
        injection e6 with e6
        exact ⟨g, e6.trans e7, h⟩
      have hxl : j < xs.length := by rw [HX.out.length]; have := HNN.out; omega
      have hxd : xs.drop j = xs[j] :: xs.drop (j + 1) := List.drop_eq_getElem_cons hxl
      obtain ⟨p, hp, hrp⟩ := HX.out.get (i := j) (List.getElem?_eq_getElem hxl)
      generalize xs[j] = x at hxd hrp
      have hcj : wr.cell? ⟨g, j, none⟩ = some x := hcell j x (by rw [hxd, List.getElem?_append_right (by rw [h4.out]; omega), h4.out, Nat.sub_self]; rfl)
      have hfj : wr.frozen? ⟨g, j, none⟩ = false := h3.out.frozenAt j
      have b3 := h1.out.cell (j := 3) rfl
      obtain ⟨A7, n7, c7, rfl⟩ := hrp.form
      have hcall := fun W (hb' : Below wr.heap.size wr W) => cloneP_any p _ W ((hrp.below hb).below hb')
      have hgl : g < wr.heap.size := cell_lt hcj
      have hnl : w.heap.size < wr.heap.size := h1.out.lt
      have hj' : (j : Int) < (m : Int) := by omega
      have hj0 : (0 : Int) ≤ (j : Int) := by omega
      have HXD := Lib.hid hxd
      have HP := Lib.hid hp
      clear hxd hp hrp hcell hxl
      go_wp2_with fail
      go_region_with (go_at_call 68; refine (hcall _ ?_).mono ?_; exact (Below.refl _ _).drew; rintro e w2 ⟨v', bs', rfl, hm, hb2⟩; obtain ⟨A8, n8, c8, rfl⟩ := hm.reads.form; have hb3 : Below wr.heap.size wr w2 := (Below.refl _ _).drew.trans hb2; have q1 := cell_below hb3 hcj; have q2 := (hb3.frozen (p := ⟨g, j, none⟩) hgl).trans hfj; have q3 := cell_below hb3 b3)
      all_goals
        go_wp2_with fail
        obtain ⟨e1, e2, e3⟩ := own_step (by rw [HXD.out] at h3; exact h3.out) h4.out h5.out h6.out h7 hb3 hm
        have HB : Below w.heap.size w (w2.setCell ⟨g, j, none⟩ (.slice A8 n8 c8)) := (hb.trans (hb3.mono hb.size)).setCell (by have := (own_in h3.out g (by simp [Value.ownBlock])).1; show w.heap.size ≤ g; omega) _
        have hge : W.heap.size ≤ g := (own_in h3.out g (by simp [Value.ownBlock])).1
        go_roundw
        case rel =>
          refine ⟨j + 1, bs ++ bs', ys ++ [Value.slice A8 n8 c8], by omega, by go_num, ?_, ?_, ?_, ?_, ?_, ?_, ?_, HB⟩
          · exact (h1.out.below hb3).other (by show w.heap.size ≠ g; omega) _
          · exact (h2.out.below hb3).other (by show w.heap.size + 1 ≠ g; omega) _
          · exact e1
          · exact (by rw [List.length_append, h4.out]; rfl : (ys ++ [Value.slice A8 n8 c8]).length = j + 1)
          · exact (by rw [List.take_add_one, HP.out]; exact e2 : OL _ W.heap.size _ (ls.take (j + 1)) _)
          · exact e3
          · have := hb3.size; simp; omega
        case measure => simp [intOf]; omega
    · obtain rfl : j = m := by omega
      obtain ⟨b0, b1, b2, b3, b4⟩ := h1.out.five
      obtain ⟨d0, d1, d2, d3, d4⟩ := h2.out.five
      obtain ⟨g0, g1, g2, g3, g4⟩ := h2.out.thaw
      clear H1 H2 HR h1
      go_wp2_with fail
      obtain ⟨wf, ewf, F, hmv, hbf⟩ := put5 h2.out (.int .i64 k) (.int .i64 n) (.int .i64 a) (.slice A5 j c5) (.slice A3 n3 c3)
      rw [ewf]
      obtain ⟨z0, z1, z2, z3, z4⟩ := F.five
      have hxn : xs.drop j = [] := List.drop_of_length_le (by rw [HX.out.length]; have := HNN.out; omega)
      have h3' := h3.out
      rw [hxn, List.append_nil] at h3'
      have h5' := h5.out
      rw [List.take_of_length_le (by have := HNN.out; omega)] at h5'
      have e1 : wf.ownsRow W.heap.size 37 1 (.slice A5 j c5) j ys := own_move h3' fun q hq => hmv q (by have := (own_in h3' q hq).1; omega)
      have e2 : OL wf W.heap.size bs ls ys := h5'.move fun q hq => hmv q (by have := (h5'.inn q hq).1; omega)
      have e3 : OLv wf W.heap.size ((Value.slice A5 j c5).ownBlock.toList ++ bs) ls (.slice A5 j c5) := ⟨bs, ys, by rw [HNN.out]; exact e1, e2, rfl, by rw [HNN.out]; exact hmx⟩
      refine bodyPost_ret (v := .agg #[.int .i64 k, .int .i64 n, .int .i64 a, .slice A5 j c5, .slice A3 n3 c3]) (by simp [results, Tryd.results31, go_sem, z0, z1, z2, z3, z4]) rfl ?_
      exact ⟨_, _, rfl, e3.lower (by omega), h6.out, hb.trans (hbf.mono (by omega))⟩

end Go.Proofs.YtgegaipkfpdocaaDoor
