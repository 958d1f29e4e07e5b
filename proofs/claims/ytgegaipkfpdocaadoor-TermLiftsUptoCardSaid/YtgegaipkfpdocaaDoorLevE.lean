/-
  THE WALKS OF level.of, Norm, Max, Num, Var, Succ.
-/
import Derived.Test.YtgegaipkfpdocaaDoorLevD
import Derived.Test.YtgegaipkfpdocaaDoorLevP
namespace Go.Proofs.YtgegaipkfpdocaaDoor
open Go.RowKit Go.Maps
set_option linter.unusedSimpArgs false
set_option linter.unusedVariables false
set_option maxRecDepth 100000

theorem putP_append (r a b : Lv) : putP r (a ++ b) = putP (putP r a) b := by simp [putP, List.foldl_append]
theorem flat_snoc {ls : List Lv} {k : Nat} {l : Lv} (h : ls[k]? = some l) : (ls.take (k + 1)).flatten = (ls.take k).flatten ++ l := by
  rw [List.take_add_one, h]; simp

set_option maxHeartbeats 1000000 in
theorem of_puts (ls : List Lv) (v : Value) (W : World) (bx : Nat) (hB : Box W bx [v]) (hv : RLv W ls v) : PutsOk 98 #[.pointer (some ⟨bx, 0, none⟩)] ls.flatten W := by
  intro mb W' hb0 hmb hM
  have hbx := hB.lt
  have hB' := hB.below hb0
  have hv' := hv.below hb0
  clear hB hv
  have hread : ∀ wr, Turns mb W' wr → RLv wr ls v := fun wr h => hv'.byCells (turn_cell hM h)
  obtain ⟨A, c, rfl, hc, hl, _⟩ := hv'
  have HC : Hid (∀ wr, Turns mb W' wr → 0 < ls.length → ∃ b o, A = some ⟨b, o, none⟩ ∧ RL wr b o ls) := fun wr h h0 => by
    obtain ⟨A', c', e, _, _, h3⟩ := hread wr h
    obtain ⟨b, o, eA, h4⟩ := h3 h0
    refine ⟨b, o, ?_, h4⟩
    rw [← eA]; injection e
  clear hread
  have hmlt := hM.lt
  generalize hnp : ls.length = n at *
  have HP := Lib.hid hnp; clear hnp
  obtain ⟨w0, hw0⟩ : ∃ w0, W'.alloc (.cells #[.map (some mb)] 100) = w0 := ⟨_, rfl⟩
  have hs0 : w0.heap.size = W'.heap.size + 1 := by rw [← hw0]; simp
  have hT0 : Turns mb W' w0 := by rw [← hw0]; exact World.grownBy_alloc _ _ _
  have hM0 : MapR w0 mb [] := by rw [← hw0]; exact hM.alloc _
  have hQ0 : Box w0 W'.heap.size [.map (some mb)] := by rw [← hw0]; exact Box.new W' [_] _
  have hX0 := hB'.turn hT0 (by omega)
  have x0 := hX0.cell (j := 0) rfl
  have hbx' := hB'.lt
  have HX := Lib.hid hB'
  clear hM hX0 hB'
  show Calls _ _ #[.agg #[.map (some mb)], .pointer (some ⟨bx, 0, none⟩)] W' _
  go_enter Tryd.func98, Tryd.ntmps98
  go_wp2_with fail
  clear x0 hw0
  go_loopw [7] (fun i wr => ∃ k : Nat, k ≤ n ∧ i = .int .i64 k ∧ Turns mb W' wr ∧ MapR wr mb (putP [] (ls.take k).flatten) ∧ Box wr W'.heap.size [.map (some mb)] ∧ Hid ((ls.take k).flatten.any badP = false)) (fun i _ => n - (RowKit.intOf i).toNat)
  case atStart => exact ⟨0, Nat.zero_le _, rfl, hT0, hM0, hQ0, rfl⟩
  case round =>
    obtain ⟨k, hk, rfl, hT, hM, hQ, hG⟩ := hrel
    have hts := hT.size
    by_cases hlt : k < n
    · obtain ⟨b, o, rfl, hcp⟩ := HC.out wr hT (by omega)
      obtain ⟨l, hlk⟩ : ∃ l, ls[k]? = some l := ⟨_, List.getElem?_eq_getElem (by have := HP.out; omega)⟩
      obtain ⟨x, c1, hx⟩ := hcp.get hlk
      obtain ⟨Ax, nx, cx, rfl⟩ := hx.form
      have HLK := Lib.hid hlk
      have HSN := Lib.hid (flat_snoc hlk)
      clear hcp HC hlk
      have h1 : (k : Int) < (n : Int) := by omega
      have h0 : (0 : Int) ≤ (k : Int) := by omega
      have q0 := (hQ.alloc (.cells #[.slice Ax nx cx] 37)).cell (j := 0) rfl
      have hcall := rput_any mb _ l _ _ (hM.alloc (.cells #[.slice Ax nx cx] 37)) (hx.below ((Below.refl _ _).alloc (Nat.le_refl _) _))
      have hQ1 := Lib.hid (hQ.alloc (.cells #[.slice Ax nx cx] 37))
      have hT1 := Lib.hid (hT.alloc (.cells #[.slice Ax nx cx] 37))
      clear hx hM hQ
      go_wp2_with fail
      refine hcall.mono ?_
      rintro e w1 ⟨hT2, hg, hbd⟩
      clear hcall q0
      cases hb : l.any badP with
      | false =>
        obtain ⟨rfl, hM2⟩ := hg hb
        have HB := Lib.hid hb
        have hQ2 := hQ1.out.turn hT2 (by omega)
        have hT3 := hT1.out.trans' hT2
        clear hg hbd hb hT2
        go_wp2_with fail
        go_roundw
        case rel => exact ⟨k + 1, by omega, by go_num, hT3, by rw [HSN.out, putP_append]; exact hM2, hQ2, Lib.hid (by rw [HSN.out, List.any_append, hG.out, HB.out]; rfl)⟩
        case measure => simp [RowKit.intOf]; omega
      | true =>
        obtain rfl := hbd hb
        have HB := Lib.hid hb
        have hT3 := hT1.out.trans' hT2
        clear hg hbd hb hT2
        go_wp2_with fail
        obtain ⟨p, hp, hpb⟩ := List.any_eq_true.1 HB.out
        exact ⟨rfl, PutEnd.no hT3 (List.mem_flatten.2 ⟨l, List.mem_of_getElem? HLK.out, hp⟩) hpb⟩
    · obtain rfl : k = n := by omega
      have hall : ls.take k = ls := List.take_of_length_le (by have := HP.out; omega)
      rw [hall] at hM hG
      clear HC hall
      go_wp2_with fail
      go_end0
      exact PutEnd.ok hT hG.out hM

theorem of_any (ls : List Lv) (v : Value) (W : World) (hv : RLv W ls v) : Calls Tryd.prog 88 #[v] W (MadeL (nfP ls.flatten) W) := by
  have hmf : ∀ (fn : Fn) (first cap : Array Value) (w : World), (Instr.makeFunc fn first cap).run Tryd.prog w = .ok (.func fn first cap) w := fun _ _ _ _ => rfl
  obtain ⟨w0, hw0⟩ : ∃ w0, (W.alloc (.cells #[v] 24)).alloc (.cells #[.slice none 0 0] 37) = w0 := ⟨_, rfl⟩
  have hs0 : w0.heap.size = W.heap.size + 2 := by rw [← hw0]; simp
  have hb0 : Below W.heap.size W w0 := by rw [← hw0]; exact ((Below.refl _ _).alloc (Nat.le_refl _) _).alloc (by simp) _
  have B0 : Box w0 W.heap.size [v] := by rw [← hw0]; exact (Box.new W [_] _).alloc _
  have B1 : Box w0 (W.heap.size + 1) [.slice none 0 0] := by rw [← hw0]; exact Box.new' _ [_] _ (by simp)
  have hcall := made_any 98 _ ls.flatten w0 (enters_of Tryd.func98 (by kernel_rfl) rfl) (of_puts ls v w0 W.heap.size B0 (hv.below hb0))
  obtain ⟨A, c, rfl, -⟩ := hv
  have HB1 := Lib.hid B1
  clear B0 B1
  go_enter Tryd.func88, Tryd.ntmps88
  go_wp2_with fail
  refine hcall.mono ?_
  rintro e w1 ⟨v, bs, rfl, hO, hb1⟩
  have C1 := HB1.out.below hb1
  have z0 := C1.cell (j := 0) rfl
  have z1 := C1.frozen 0
  have hb2 : Below W.heap.size W w1 := hb0.trans (hb1.mono hb0.size)
  have hin := Lib.hid hO.inn
  have HO := Lib.hid (hO.lower (lo' := W.heap.size) hb0.size)
  obtain ⟨A', n', c', rfl⟩ := hO.reads.form
  have z2 := (C1.set 0 (.slice A' n' c')).cell (j := 0) rfl
  clear hO hb1 hcall hw0
  go_wp2_with fail
  refine bodyPost_ret (v := .agg #[.slice A' n' c']) (by simp [results, Tryd.results88, go_sem, z2]) rfl ⟨_, _, rfl, HO.out.move fun j hj => Below.heap_setCell _ _ _ _ (by have := hin.out j hj; show j ≠ W.heap.size + 1; omega), hb2.setCell (by show W.heap.size ≤ W.heap.size + 1; omega) _⟩

end Go.Proofs.YtgegaipkfpdocaaDoor
