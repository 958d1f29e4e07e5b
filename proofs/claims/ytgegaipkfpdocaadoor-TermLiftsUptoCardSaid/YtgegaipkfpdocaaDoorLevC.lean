/-
  THE WALK OF (level.work).level: the normal form of what a map holds.
-/
import Derived.Test.YtgegaipkfpdocaaDoorLevB
import Derived.Test.YtgegaipkfpdocaaDoorOwnA
import Derived.Maps.AppendAt
import Derived.Laws.EntriesVeiled
import Derived.Deep.AppendLies
namespace Go.Proofs.YtgegaipkfpdocaaDoor
open Go.RowKit Go.Maps
set_option linter.unusedSimpArgs false
set_option linter.unusedVariables false
set_option maxRecDepth 100000

theorem info_partL : (Tryd.prog.info? 39).map (fun i => (i.zero, i.size, i.bytes)) = some (some (.agg #[.int .i64 0, .int .i64 0]), 2, 16) := by kernel_rfl
/-- The parts that stay. -/
def lwP (r : Lv) : Lv := r.filter (keepP r)
theorem keep_hid (r : Lv) (x y : Int) : keepP r (x, y) = (decide (0 < x) || (decide (0 < y) && !hidR r y)) := rfl

theorem append_box {wr w2 : World} {o : Obj} {q B : Nat} {v : Value} {vs : List Value} (hB : Box wr q vs) (hin : ∀ k ∈ v.ownBlock.toList, B ≤ k ∧ k < wr.heap.size) (hg : (wr.alloc o).grownBy w2 v.ownBlock) (hq : q < B) (hq2 : q < wr.heap.size) : Box w2 q vs :=
  (hB.alloc o).move (hg.block q (by simp; omega) fun e => by have := hin q (by rw [← e]; simp); omega)
theorem grown_set {a b : World} {q o : Nat} {u : Value} (h : a.grownBy b (some q)) : a.grownBy (b.setCell ⟨q, o, none⟩ u) (some q) :=
  h.andThen (row' := some q) ⟨((Below.refl q b).setCell (p := ⟨q, o, none⟩) (Nat.le_refl _) u).os, ((Below.refl q b).setCell (p := ⟨q, o, none⟩) (Nat.le_refl _) u).tape, ((Below.refl q b).setCell (p := ⟨q, o, none⟩) (Nat.le_refl _) u).output, ((Below.refl q b).setCell (p := ⟨q, o, none⟩) (Nat.le_refl _) u).size, fun k _ hne => Below.heap_setCell _ _ _ _ fun e => hne (by rw [e])⟩ fun j e => .inr e
/-- What a round of level's loop finds. -/
def LRel (r : Lv) (q : Nat) (w1 : World) (k : Nat) (wr : World) : Prop :=
  ∃ (m : Nat) (lv : Value), m ≤ k ∧ Box wr q [lv] ∧ wr.ownsRow w1.heap.size 39 2 lv m (cellsP ((r.take k).filter (keepP r))) ∧ ((r.take k).filter (keepP r)).length = m ∧ w1.grownBy wr (some q)
theorem LRel.drop {r : Lv} {q k : Nat} {w1 wr w2 : World} {p : Int × Int} (h : LRel r q w1 k wr) (hk : r[k]? = some p) (hp : keepP r p = false) (hb : Below wr.heap.size wr w2) : LRel r q w1 (k + 1) w2 := by
  obtain ⟨m, lv, h1, h2, h3, h4, h5⟩ := h
  have e : (r.take (k + 1)).filter (keepP r) = (r.take k).filter (keepP r) := by rw [take_snoc' hk, List.filter_append]; simp [hp]
  refine ⟨m, lv, by omega, h2.below hb, ?_, by rw [e]; exact h4, h5.andThen (row' := none) ⟨hb.os, hb.tape, hb.output, hb.size, fun k hk _ => hb.block k hk⟩ fun j e => by cases e⟩
  rw [e]; exact own_below h3 hb
theorem LRel.keep {r : Lv} {q k m : Nat} {w1 wr w2 : World} {x y : Int} {lv lv' : Value} (hq : q < w1.heap.size) (h1 : m ≤ k) (h2 : Box wr q [lv]) (h3 : wr.ownsRow w1.heap.size 39 2 lv m (cellsP ((r.take k).filter (keepP r)))) (h4 : ((r.take k).filter (keepP r)).length = m) (h5 : w1.grownBy wr (some q))
    (hk : r[k]? = some (x, y)) (hp : keepP r (x, y) = true) (hrow : w2.ownsRow w1.heap.size 39 2 lv' (m + 1) (cellsP ((r.take k).filter (keepP r)) ++ [.int .i64 x, .int .i64 y])) (o : Obj) (hg : (wr.alloc o).grownBy w2 lv.ownBlock) :
    LRel r q w1 (k + 1) (w2.setCell ⟨q, 0, none⟩ lv') := by
  have e : (r.take (k + 1)).filter (keepP r) = (r.take k).filter (keepP r) ++ [(x, y)] := by rw [take_snoc' hk, List.filter_append]; simp [hp]
  have hin := own_in h3
  have hB := append_box h2 hin hg hq (by have := h5.size; omega)
  refine ⟨m + 1, lv', by omega, hB.set 0 lv', ?_, by rw [e, List.length_append, h4]; rfl, ?_⟩
  · rw [e, cellsP_append]
    exact own_move hrow fun j hj => Below.heap_setCell _ _ _ _ (by have := own_in hrow j hj; show j ≠ q; omega)
  · exact grown_set (h5.andThen ((World.grownBy_alloc wr o _).trans hg) fun j e => .inl (hin j (by rw [e]; simp)).1)

set_option maxHeartbeats 2000000 in
theorem level_any (mb : Nat) (r : Lv) (w : World) (hm : MapR w mb r) :
    Calls Tryd.prog 87 #[.agg #[.map (some mb)]] w fun e w' => ∃ v bs, e = .returned (.agg #[v]) ∧ OPv w' w.heap.size bs (lwP r) v ∧ Below w.heap.size w w' := by
  have hmlt := hm.lt
  obtain ⟨w0, hw0⟩ : ∃ w0, (w.alloc (.cells #[.map (some mb)] 100)).alloc (.cells #[.slice none 0 0] 37) = w0 := ⟨_, rfl⟩
  have hs0 : w0.heap.size = w.heap.size + 2 := by rw [← hw0]; simp
  have hb0 : Below w.heap.size w w0 := by rw [← hw0]; exact ((Below.refl _ _).alloc (Nat.le_refl _) _).alloc (by simp) _
  have B0 : Box w0 w.heap.size [.map (some mb)] := by rw [← hw0]; exact (Box.new w [_] _).alloc _
  have B1 : Box w0 (w.heap.size + 1) [.slice none 0 0] := by rw [← hw0]; exact Box.new' _ [_] _ (by simp)
  have hm0 : MapR w0 mb r := by rw [← hw0]; exact (hm.alloc _).alloc _
  have hsort := keysS_any mb r w0 hm0
  rw [hs0] at hsort
  have hs0' : (w0.alloc (.cells #[.map (some mb)] 96)).heap.size = w.heap.size + 3 := by simp [hs0]
  have q0 := B0.cell (j := 0) rfl
  clear hm
  go_enter Tryd.func87, Tryd.ntmps87
  go_wp2_with (first
    | (go_at_call 96; refine (keys_any _ _).mono ?_; rintro e w' ⟨rfl, rfl⟩)
    | (go_at_call 95; (with_reducible refine hsort.mono ?_); rintro e w1 ⟨v, rfl, hrow, hb1⟩; obtain ⟨A, c, rfl, hc, hl, hcell⟩ := own_form hrow))
  have hb1' : Below (w0.alloc (.cells #[.map (some mb)] 96)).heap.size (w0.alloc (.cells #[.map (some mb)] 96)) w1 := by rw [hs0']; exact hb1
  have hw1s : w.heap.size + 3 ≤ w1.heap.size := by have := hb1'.size; rw [hs0'] at this; exact this
  have hbw1 : Below w.heap.size w w1 := (hb0.alloc (by omega) _).trans (hb1'.mono (by rw [hs0']; omega))
  have hm1 : MapR w1 mb r := (hm0.alloc _).below hb1'
  have C0 : Box w1 w.heap.size [.map (some mb)] := (B0.alloc _).below hb1'
  have C1 : Box w1 (w.heap.size + 1) [.slice none 0 0] := (B1.alloc _).below hb1'
  have hin := own_in hrow
  have hc2 : ∀ wr, w1.grownBy wr (some (w.heap.size + 1)) → ∀ k p, r[k]? = some p → ∃ b, A = some ⟨b, 0, none⟩ ∧ wr.cell? ⟨b, k, none⟩ = some (.int .i64 p.1) := by
    intro wr hg k p hk
    have hk' : k < r.length := (List.getElem?_eq_some_iff.1 hk).1
    obtain ⟨b, rfl, hj⟩ := hcell (by omega)
    have h1 := hj k (.int .i64 p.1) (by simp [hk, encZ])
    exact ⟨b, rfl, hg.cell h1 (by have := hin b (by simp [Value.ownBlock]); simp only [ne_eq, Option.some.injEq]; omega)⟩
  have HC := Lib.hid hc2
  have hrn := good_length hm1.rise hm1.good
  have HRI := Lib.hid hm1.rise
  generalize hnn : r.length = n at *
  have HN := Lib.hid hnn
  have HM1 := Lib.hid hm1
  have HC0 := Lib.hid C0
  have HC1 := Lib.hid C1
  clear hnn hc2 hcell hin hrow hb1 hb1' hsort q0 hm0 B0 B1 hb0 hw0 hs0' hs0 hl hm1 C0 C1 hc
  go_loopw [12] (fun i wr => ∃ k : Nat, k ≤ n ∧ i = .int .i64 k ∧ LRel r (w.heap.size + 1) w1 k wr) (fun i _ => n - (RowKit.intOf i).toNat)
  case atStart => exact ⟨0, Nat.zero_le _, rfl, 0, _, Nat.le_refl _, HC1.out, World.ownsRow_nil _ _ _ _, rfl, World.grownBy.refl _ _⟩
  case round =>
    obtain ⟨k, hk, rfl, hrel⟩ := hrel
    have HREL := Lib.hid hrel
    obtain ⟨m, lv, hmk, hB1', hrow', hlen', hg⟩ := hrel
    have hB1 := Lib.hid hB1'
    have hrow := Lib.hid hrow'
    have hlen := Lib.hid hlen'
    clear hB1' hrow' hlen'
    have hgs := hg.size
    obtain ⟨Al, cl, rfl, -, -, -⟩ := own_form hrow.out
    have hinl := own_in hrow.out
    have HIN := Lib.hid hinl
    clear hinl
    have hgs := hg.size
    by_cases hlt : k < n
    · obtain ⟨⟨x, y⟩, hpk⟩ : ∃ p, r[k]? = some p := ⟨_, List.getElem?_eq_getElem (by have := HN.out; omega)⟩
      obtain ⟨b, rfl, hcx⟩ := HC.out wr hg k _ hpk
      have hMr := HM1.out.kept hg (by simp only [ne_eq, Option.some.injEq]; omega)
      have hgood := hMr.good _ (List.mem_of_getElem? hpk)
      have hc0 : wr.cell? ⟨w.heap.size, 0, none⟩ = some (.map (some mb)) := hg.cell (HC0.out.cell (j := 0) rfl) (by simp)
      have hc1 : wr.cell? ⟨w.heap.size + 1, 0, none⟩ = some (.slice Al m cl) := hB1.out.cell (j := 0) rfl
      have hf1 : wr.frozen? ⟨w.heap.size + 1, 0, none⟩ = false := hB1.out.frozen 0
      have hhid := fun (W : World) (h : MapR W mb r) => hidden_any mb r y W h
      obtain ⟨c, hrun, hxc⟩ : ∃ c, (Instr.lookup 96 (.map (some mb)) (.int .i64 x) false).run Tryd.prog wr = .ok (.int .i64 c) wr ∧ c = y := by
        obtain ⟨D, nn, hown, _, hD, hR, _⟩ := hMr
        obtain ⟨c, hrun, hat, _⟩ := hown.lookup_int klaw Tryd.underlying96 Tryd.underlying3 (zeroI _) (kl := .int .i64 x) (key := .int .i64 x) (keyOf_int_mk Tryd.underlying3 (WalkArith.wf_i64 (by simp only at hgood; omega)))
        refine ⟨c, hrun, ?_⟩
        rcases hD.look hat with h | ⟨h, _⟩
        · have := hR.one h (List.mem_of_getElem? hpk) rfl
          injection this
        · exact absurd rfl (h _ (List.mem_of_getElem? hpk))
      rw [hxc] at hrun
      clear hxc c
      have HMR := Lib.hid hMr
      have HPK := Lib.hid hpk
      have HHI := Lib.hid hhid
      have h1 : (k : Int) < (n : Int) := by omega
      have h0 : (0 : Int) ≤ (k : Int) := by omega
      simp only at hgood hcx
      obtain ⟨g0, g1, g2, g3⟩ := hgood
      clear hpk hMr hhid
      obtain ⟨i0, hi, hz0, hz1, hz2⟩ := info_parts info_partL
      by_cases hx : 0 < x
      · have HNW := Lib.hid (World.news_of_block (cs := #[.int .i64 x, .int .i64 y]) (t := 39) (fr := (0, 0)) (heap_alloc_new wr (.cells #[.int .i64 x, .int .i64 y] 39)))
        go_wp2_with (at_builtin; refine wpList_append_own_at _ rfl _ _ 35 rfl w1.heap.size 39 i0 _ 2 16 Tryd.underlying35 hi hz0 hz1 hz2 rfl (by decide) (.slice Al m cl) m _ rfl (hrow.out.alloc _) ⟨wr.heap.size, 0, none⟩ 1 1 [.int .i64 x, .int .i64 y] rfl rfl HNW.out (by simp [Value.oneCell']) (by unfold maxLen; omega) (by omega) (by simp; omega) ?_; intro v' w2 hown' hgrow hnil hloc; obtain ⟨A2, c2, rfl, -, -, -⟩ := own_form hown'; have B2 := append_box hB1.out HIN.out hgrow (by omega) (by omega); have z0 := B2.cell (j := 0) rfl; have z1 := B2.frozen 0)
        go_roundw
        case rel => exact ⟨k + 1, by omega, by go_num, LRel.keep (by omega) hmk hB1.out hrow.out hlen.out hg HPK.out (by rw [keep_hid, decide_eq_true hx]; rfl) hown' _ hgrow⟩
        case measure => simp [RowKit.intOf]; omega
      · by_cases hy : 0 < y
        · cases hh : hidR r y with
          | true =>
            have HF : Hid (keepP r (x, y) = false) := by rw [keep_hid, decide_eq_false hx, decide_eq_true hy, hh]; rfl
            rw [hh] at HHI
            clear hh
            go_wp2_with (go_at_call 97; (with_reducible refine (HHI.out _ HMR.out).mono ?_); rintro e w2 ⟨rfl, hb2⟩)
            go_roundw
            case rel => exact ⟨k + 1, by omega, by go_num, HREL.out.drop HPK.out HF.out hb2⟩
            case measure => simp [RowKit.intOf]; omega
          | false =>
            have HT : Hid (keepP r (x, y) = true) := by rw [keep_hid, decide_eq_false hx, decide_eq_true hy, hh]; rfl
            rw [hh] at HHI
            clear hh
            have HNW := Lib.hid (fun W : World => World.news_of_block (cs := #[.int .i64 x, .int .i64 y]) (t := 39) (fr := (0, 0)) (heap_alloc_new W (.cells #[.int .i64 x, .int .i64 y] 39)))
            go_wp2_with (first
              | (go_at_call 97; (with_reducible refine (HHI.out _ HMR.out).mono ?_); rintro e w2 ⟨rfl, hb2⟩; have HB2 := Lib.hid hb2; have B3 := hB1.out.below hb2; have p0 := B3.cell (j := 0) rfl; have p1 := B3.frozen 0; have hs2 := hb2.size; clear hb2)
              | (at_builtin; refine wpList_append_own_at _ rfl _ _ 35 rfl w1.heap.size 39 i0 _ 2 16 Tryd.underlying35 hi hz0 hz1 hz2 rfl (by decide) (.slice Al m cl) m _ rfl ((own_below hrow.out HB2.out).alloc _) ⟨w2.heap.size, 0, none⟩ 1 1 [.int .i64 x, .int .i64 y] rfl rfl (HNW.out w2) (by simp [Value.oneCell']) (by unfold maxLen; omega) (by omega) (by simp; omega) ?_; intro v' w3 hown' hgrow hnil hloc; obtain ⟨A2, c2, rfl, -, -, -⟩ := own_form hown'; have B4 := append_box B3 (own_in (own_below hrow.out HB2.out)) hgrow (by omega) (by omega); have z0 := B4.cell (j := 0) rfl; have z1 := B4.frozen 0))
            go_roundw
            case rel => exact ⟨k + 1, by omega, by go_num, LRel.keep (by omega) hmk B3 (own_below hrow.out HB2.out) hlen.out (hg.andThen (row' := none) ⟨HB2.out.os, HB2.out.tape, HB2.out.output, HB2.out.size, fun k hk _ => HB2.out.block k hk⟩ fun j e => by cases e) HPK.out HT.out hown' _ hgrow⟩
            case measure => simp [RowKit.intOf]; omega
        · have HF : Hid (keepP r (x, y) = false) := by rw [keep_hid, decide_eq_false hx, decide_eq_false hy]; rfl
          clear HHI
          go_wp2_with fail
          go_roundw
          case rel => exact ⟨k + 1, by omega, by go_num, HREL.out.drop HPK.out HF.out (Below.refl _ _)⟩
          case measure => simp [RowKit.intOf]; omega
    · obtain rfl : k = n := by omega
      have hall : r.take k = r := List.take_of_length_le (by have := HN.out; omega)
      rw [hall] at hrow hlen
      have hown : OPv wr w.heap.size (Value.slice Al m cl).ownBlock.toList (lwP r) (.slice Al m cl) := by
        have h := own_lower hrow.out (base' := w.heap.size) (by omega)
        have e : (lwP r).length = m := hlen.out
        exact ⟨by rw [e]; exact h, rfl, by rw [e]; omega⟩
      have z0 := hB1.out.cell (j := 0) rfl
      have z1 := hB1.out.frozen 0
      have HO := Lib.hid hown
      have hbr : Below w.heap.size w wr := hbw1.grown hg hbw1.size (fun j e => by injection e with e; omega)
      have hF := (hB1.out.set 0 (.slice Al m cl)).cell (j := 0) rfl
      have hin2 := Lib.hid (own_in hrow.out)
      clear hown hall HC hrow hlen HREL
      go_wp2_with fail
      refine bodyPost_ret (v := .agg #[.slice Al m cl]) (by simp [results, Tryd.results87, go_sem, hF]) rfl ⟨_, _, rfl, HO.out.move fun j hj => Below.heap_setCell _ _ _ _ (by have := hin2.out j hj; show j ≠ w.heap.size + 1; omega), hbr.setCell (by show w.heap.size ≤ w.heap.size + 1; omega) _⟩

end Go.Proofs.YtgegaipkfpdocaaDoor
