/-
  THE WALK OF (level.row).put.
-/
import Derived.Test.YtgegaipkfpdocaaDoorLevM
namespace Go.Proofs.YtgegaipkfpdocaaDoor
open Go.RowKit Go.Maps
set_option linter.unusedSimpArgs false
set_option linter.unusedVariables false
set_option maxRecDepth 100000

/-- none{} thrown. -/
abbrev threw : Ending := .panicked [{ v := .iface 114 (.agg #[]), recovered := false }]
def putP (r ps : Lv) : Lv := ps.foldl (fun r p => insP p r) r
theorem putP_snoc (r ps : Lv) (p : Int × Int) : putP r (ps ++ [p]) = insP p (putP r ps) := by simp [putP, List.foldl_append]
/-- What something that puts parts leaves. -/
def PutEnd (mb : Nat) (r ps : Lv) (w : World) (e : Ending) (w' : World) : Prop :=
  Turns mb w w' ∧ (ps.any badP = false → e = .returned (.tuple #[]) ∧ MapR w' mb (putP r ps)) ∧ (ps.any badP = true → e = threw)
theorem PutEnd.ok {mb : Nat} {r ps : Lv} {w w' : World} (h : Turns mb w w') (hg : ps.any badP = false) (hm : MapR w' mb (putP r ps)) : PutEnd mb r ps w (.returned (.tuple #[])) w' := ⟨h, fun _ => ⟨rfl, hm⟩, fun hh => absurd (hg.symm.trans hh) (by simp)⟩
theorem PutEnd.no {mb : Nat} {r ps : Lv} {w w' : World} (h : Turns mb w w') {p : Int × Int} (hp : p ∈ ps) (hb : badP p = true) : PutEnd mb r ps w threw w' :=
  have hg : ps.any badP = true := List.any_eq_true.2 ⟨p, hp, hb⟩
  ⟨h, (fun hh => absurd (hg.symm.trans hh) (by simp)), fun _ => rfl⟩
theorem take_snoc' {ps : Lv} {k : Nat} {p : Int × Int} (h : ps[k]? = some p) : ps.take (k + 1) = ps.take k ++ [p] := by
  rw [List.take_add_one, h]; rfl

theorem look_bd {D : DataW Unit} {r : Lv} (h : ReadsR D r) (hg : GoodP r) {v c : Int} (hc : D.atKey (.int .i64 v) (.lit (.int .i64 0)) = .lit (.int .i64 c)) : 0 ≤ c ∧ c ≤ 1048576 := by
  rcases h.look hc with h | ⟨_, rfl⟩
  · have := hg _ h; simp only at this; omega
  · omega

set_option maxHeartbeats 1000000 in
theorem rput_any (mb : Nat) (r ps : Lv) (v : Value) (w : World) (hm : MapR w mb r) (hp : RPv w ps v) :
    Calls Tryd.prog 75 #[.agg #[.map (some mb)], v] w (PutEnd mb r ps w) := by
  have hcells : ∀ w', Turns mb w w' → RPv w' ps v := fun w' h => hp.byCells (turn_cell hm h)
  have hmlt := hm.lt
  obtain ⟨A, c, rfl, hc, hl, _⟩ := hp
  have HC : Hid (∀ w', Turns mb w w' → 0 < ps.length → ∃ b o, A = some ⟨b, o, none⟩ ∧ RP w' b o ps) := fun w' h h0 => by
    obtain ⟨A', c', e, _, _, h3⟩ := hcells w' h
    obtain ⟨b, o, eA, h4⟩ := h3 h0
    refine ⟨b, o, ?_, h4⟩
    rw [← eA]; injection e
  clear hcells
  generalize hnp : ps.length = n at *
  have HP := Lib.hid hnp; clear hnp
  obtain ⟨w0, hw0⟩ : ∃ w0, w.alloc (.cells #[.map (some mb)] 98) = w0 := ⟨_, rfl⟩
  have hT0 : Turns mb w w0 := by rw [← hw0]; exact (World.grownBy.refl _ _).trans (World.grownBy_alloc _ _ _)
  have hM0 : MapR w0 mb r := by rw [← hw0]; exact hm.alloc _
  have hB0 : Box w0 w.heap.size [.map (some mb)] := by rw [← hw0]; exact Box.new w [_] _
  clear hm
  go_enter Tryd.func75, Tryd.ntmps75
  go_wp2_with fail
  clear hw0
  go_loopw [8] (fun i wr => ∃ k : Nat, k ≤ n ∧ i = .int .i64 k ∧ Turns mb w wr ∧ MapR wr mb (putP r (ps.take k)) ∧ Box wr w.heap.size [.map (some mb)] ∧ Hid ((ps.take k).any badP = false)) (fun i _ => n - (RowKit.intOf i).toNat)
  case atStart => exact ⟨0, Nat.zero_le _, rfl, hT0, hM0, hB0, rfl⟩
  case round =>
    obtain ⟨k, hk, rfl, hT, hM, hB, hG⟩ := hrel
    by_cases hlt : k < n
    · obtain ⟨b, o, rfl, hcp⟩ := HC.out wr hT (by omega)
      obtain ⟨⟨x, y⟩, hpk⟩ : ∃ p, ps[k]? = some p := ⟨_, List.getElem?_eq_getElem (by have := HP.out; omega)⟩
      obtain ⟨c1, c2⟩ := hcp.get hpk
      have HPK := Lib.hid hpk
      have HTK := Lib.hid (take_snoc' hpk)
      clear hcp HC hpk
      have h1 : (k : Int) < (n : Int) := by omega
      have h0 : (0 : Int) ≤ (k : Int) := by omega
      have q0 := hB.cell (j := 0) rfl
      have hTn : Turns mb w (wr.alloc (.cells #[.int .i64 x, .int .i64 y] 39)) := hT.alloc _
      have q1 := (hB.alloc (.cells #[.int .i64 x, .int .i64 y] 39)).cell (j := 0) rfl
      obtain ⟨D, m, hown, hm1, hD, hR, hGd⟩ := hM.alloc (.cells #[.int .i64 x, .int .i64 y] 39)
      have HD := Lib.hid hD
      have HR := Lib.hid hR
      have HGd := Lib.hid hGd
      clear hD hR hGd
      go_wp2_with (first
        | (at_lookup; refine wpList_lookup_own_int _ rfl _ _ 96 rfl 3 3 .i64 klaw Tryd.underlying96 Tryd.underlying3 (zeroI _) mb m D rfl hown _ _ rfl (keyOf_int_mk Tryd.underlying3 (WalkArith.wf_i64 (by omega))) ?_; intro c hat hwc; obtain ⟨hc0, hc1⟩ := look_bd HD.out HGd.out hat)
        | (at_mapUpdate; go_loud (refine wpList_mapUpdate_own _ rfl _ _ _ 96 rfl 3 3 klaw Tryd.underlying96 _ mb m D rfl hown (by unfold maxLen; omega) _ _ _ rfl rfl (keyOf_int_mk Tryd.underlying3 (WalkArith.wf_i64 (by omega))) _ [] (plainElem_int Tryd.underlying3 (WalkArith.wf_i64 (by omega))) ?_); intro w1 hown1 hgrow1))
      all_goals first
        | exact ⟨rfl, PutEnd.no hTn (p := (x, y)) (List.mem_of_getElem? HPK.out) (by simp only [badP, Bool.or_eq_true, decide_eq_true_eq]; omega)⟩
        | (have hxy : 0 ≤ x ∧ 0 ≤ y ∧ x ≤ 1048576 ∧ y ≤ 1048576 := by omega
           have hM1 : MapR w1 mb (insP (x, y) (putP r (ps.take k))) := MapR.mk (by rw [show max c y = if c < y then y else c by split <;> omega]; exact hown1) (HD.out.put HR.out (p := (x, y)) hxy.2.1 hat) (insP_rise HR.out) (insP_all (P := fun p => 0 ≤ p.1 ∧ 0 ≤ p.2 ∧ p.1 ≤ 1048576 ∧ p.2 ≤ 1048576) hxy (by rintro ⟨u, v⟩ h e; simp only at *; omega) HGd.out)
           have hT1 : Turns mb w w1 := hTn.trans' hgrow1
           have hB1 := (hB.alloc (.cells #[.int .i64 x, .int .i64 y] 39)).turn hgrow1 (by omega)
           go_roundw
           case rel => exact ⟨k + 1, by omega, by go_num, hT1, by rw [HTK.out, putP_snoc]; exact hM1, hB1, Lib.hid (by rw [HTK.out, List.any_append, hG.out]; simp only [List.any_cons, List.any_nil, Bool.or_false, Bool.false_or]; exact badP_false.2 hxy)⟩
           case measure => simp [RowKit.intOf]; omega)
    · obtain rfl : k = n := by omega
      have hall : ps.take k = ps := List.take_of_length_le (by have := HP.out; omega)
      rw [hall] at hM hG
      clear HC hall
      go_wp2_with fail
      go_end0
      exact PutEnd.ok hT hG.out hM

end Go.Proofs.YtgegaipkfpdocaaDoor
