/-
  THE WALKS OF slices.ContainsFunc over parts, whatever the question; level.Leq.
-/
import Derived.Test.YtgegaipkfpdocaaLevS
import Derived.Deep.DeepCutAuto
namespace Go.Proofs.Ytgegaipkfpdocaa
open Go.RowKit Go.Maps
set_option linter.unusedSimpArgs false
set_option linter.unusedVariables false
set_option maxRecDepth 100000

/-- What is asked of a question. -/
def AskP (f : FuncId) (caps : Array Value) (pr : Int × Int → Bool) (ps : Lv) (W : World) : Prop :=
  ∀ p ∈ ps, ∀ W', Below W.heap.size W W' → Calls Try.prog f (#[.agg #[.int .i64 p.1, .int .i64 p.2]] ++ caps) W' fun e w' => e = .returned (.bool (pr p)) ∧ Below W'.heap.size W' w'
def FoundAt (b : Bool) (w : World) (e : Ending) (w' : World) : Prop := ∃ r : Int, e = .returned (.int .i64 r) ∧ (b = decide (0 ≤ r)) ∧ Below w.heap.size w w'

set_option maxHeartbeats 1000000 in
theorem indexL_any (f : FuncId) (caps : Array Value) (pr : Int × Int → Bool) (ps : Lv) (v : Value) (W : World) (ef : ∀ args w, (callFunc f args).run Try.prog w = .ok (.enter f args) w) (hp : RPv W ps v) (h : AskP f caps pr ps W) :
    Calls Try.prog 31 #[v, .func (.func f) #[] caps] W (FoundAt (ps.any pr) W) := by
  obtain ⟨A, c, rfl, hc, hl, hcp⟩ := hp
  generalize hnp : ps.length = n at *
  have HP := Lib.hid hnp; clear hnp
  have HCP := Lib.hid hcp; clear hcp
  have HA := Lib.hid h; clear h
  generalize hres : ps.any pr = res
  have HR := Lib.hid hres; clear hres
  go_enter Try.func31, Try.ntmps31
  go_wp2_with fail
  go_loopw [5, 8] (fun _ i wr => ∃ k : Nat, k ≤ n ∧ i = .int .i64 k ∧ Hid ((ps.take k).any pr = false) ∧ Below W.heap.size W wr) (fun _ i _ => n - (RowKit.intOf i).toNat)
  case atStart => exact ⟨0, Nat.zero_le _, rfl, rfl, Below.refl _ _⟩
  case round =>
    obtain ⟨k, hk, rfl, hN, hb⟩ := hrel
    by_cases hlt : k < n
    · obtain ⟨b, o, rfl, hcp⟩ := HCP.out (by omega)
      obtain ⟨⟨x, y⟩, hpk⟩ : ∃ p, ps[k]? = some p := ⟨_, List.getElem?_eq_getElem (by have := HP.out; omega)⟩
      obtain ⟨c1, c2⟩ := (hcp.below hb).get hpk
      have hcall := HA.out _ (List.mem_of_getElem? hpk) wr hb
      have HTK := Lib.hid (take_snoc' hpk)
      have HPK := Lib.hid hpk
      clear hcp HCP hpk
      have h1 : (k : Int) < (n : Int) := by omega
      have h0 : (0 : Int) ≤ (k : Int) := by omega
      cases hpr : pr (x, y) with
      | false =>
        rw [hpr] at hcall
        have HF := Lib.hid hpr
        clear hpr
        go_wp2_with fail
        refine hcall.mono ?_
        rintro e w1 ⟨rfl, hb1⟩
        have hb2 := hb.trans (hb1.mono hb.size)
        clear hcall hb1
        go_wp2_with fail
        go_roundw
        case rel => exact ⟨k + 1, by omega, by go_num, Lib.hid (by rw [HTK.out, List.any_append, hN.out]; simp [HF.out]), hb2⟩
        case measure => simp [RowKit.intOf]; omega
      | true =>
        rw [hpr] at hcall
        have HF := Lib.hid hpr
        clear hpr
        go_wp2_with fail
        refine hcall.mono ?_
        rintro e w1 ⟨rfl, hb1⟩
        have hb2 := hb.trans (hb1.mono hb.size)
        clear hcall hb1
        go_wp2_with fail
        go_ret
        exact ⟨k, rfl, by rw [← HR.out, List.any_eq_true.2 ⟨_, List.mem_of_getElem? HPK.out, HF.out⟩, decide_eq_true h0], hb2⟩
    · obtain rfl : k = n := by omega
      have hall : ps.take k = ps := List.take_of_length_le (by have := HP.out; omega)
      rw [hall] at hN
      clear HCP hall
      go_wp2_with fail
      go_ret
      exact ⟨-1, rfl, by rw [← HR.out, hN.out]; rfl, hb⟩

theorem containsL_any (f : FuncId) (caps : Array Value) (pr : Int × Int → Bool) (ps : Lv) (v : Value) (W : World) (ef : ∀ args w, (callFunc f args).run Try.prog w = .ok (.enter f args) w) (hp : RPv W ps v) (h : AskP f caps pr ps W) :
    Calls Try.prog 20 #[v, .func (.func f) #[] caps] W fun e w' => e = .returned (.bool (ps.any pr)) ∧ Below W.heap.size W w' := by
  have hcall := indexL_any f caps pr ps v W ef hp h
  obtain ⟨A, n, c, rfl⟩ := hp.form
  generalize ps.any pr = res at *
  clear h hp
  go_enter Try.func20, Try.ntmps20
  go_wp2_with fail
  refine hcall.mono ?_
  rintro e w1 ⟨r, rfl, hr, hb⟩
  have HR := Lib.hid hr
  clear hr hcall
  go_wp2_with fail
  go_ret
  exact ⟨ret_bool (by rw [HR.out]), hb⟩

theorem below_chL {W w0 w1 : World} (h0 : Below W.heap.size W w0) (h1 : Below w0.heap.size w0 w1) : Below W.heap.size W w1 := h0.trans (h1.mono h0.size)
theorem below_drew0 {w w1 : World} (h : Below w.drew.heap.size w.drew w1) : Below w.heap.size w w1 := (Below.refl _ _).drew.trans h
/-- Two cells written. -/
theorem set_two {w : World} {q : Nat} {x y : Value} (hP : Box w q [x]) (hQ : Box w (q + 1) [y]) (hle : True) (u v : Value) :
    ∃ w3, (w.setCell ⟨q, 0, none⟩ u).setCell ⟨q + 1, 0, none⟩ v = w3 ∧ Box w3 q [u] ∧ Box w3 (q + 1) [v] ∧ (∀ k, k ≠ q → k ≠ q + 1 → w3.heap[k]? = w.heap[k]?) ∧ Below q w w3 :=
  ⟨_, rfl, (hP.set 0 u).other (show q ≠ q + 1 by omega) v, (hQ.other (show q + 1 ≠ q by omega) u).set 0 v,
    fun k h1 h2 => (Below.heap_setCell _ _ _ _ h2).trans (Below.heap_setCell _ _ _ _ h1), ((Below.refl q w).setCell (p := ⟨q, 0, none⟩) (Nat.le_refl q) u).setCell (p := ⟨q + 1, 0, none⟩) (Nat.le_succ q) v⟩
/-- How Leq asks two parts. -/
def askQ (p q : Int × Int) : Bool := (decide (p.1 = 0) || decide (p.1 = q.1)) && decide (p.2 ≤ q.2)
theorem ask2_any (x y u t : Int) (b : Nat) (W : World) (hB : Box W b [.int .i64 x, .int .i64 y]) :
    Calls Try.prog 22 #[.agg #[.int .i64 u, .int .i64 t], .pointer (some ⟨b, 0, none⟩)] W fun e w' => e = .returned (.bool (askQ (x, y) (u, t))) ∧ Below W.heap.size W w' := by
  have q0 := (hB.alloc (.cells #[.int .i64 u, .int .i64 t] 41)).cell (j := 0) rfl
  have q1 := (hB.alloc (.cells #[.int .i64 u, .int .i64 t] 41)).cell (j := 1) rfl
  have hb := hB.lt
  generalize hres : askQ (x, y) (u, t) = res
  have HR := Lib.hid hres
  clear hres hB
  go_enter Try.func22, Try.ntmps22
  go_wp2_with fail
  all_goals
    go_ret
    refine ⟨ret_bool ?_, (Below.refl _ _).alloc (Nat.le_refl _) _⟩
    rw [← HR.out]
    simp_all [askQ]

theorem ask1_any (x y : Int) (bs : Lv) (v : Value) (bb : Nat) (W : World) (hB : Box W bb [v]) (hv : RPv W bs v) :
    Calls Try.prog 21 #[.agg #[.int .i64 x, .int .i64 y], .pointer (some ⟨bb, 0, none⟩)] W fun e w' => e = .returned (.bool (!(bs.any (askQ (x, y))))) ∧ Below W.heap.size W w' := by
  have hmf : ∀ (fn : Fn) (first cap : Array Value) (w : World), (Instr.makeFunc fn first cap).run Try.prog w = .ok (.func fn first cap) w := fun _ _ _ _ => rfl
  obtain ⟨w0, hw0⟩ : ∃ w0, W.alloc (.cells #[.int .i64 x, .int .i64 y] 41) = w0 := ⟨_, rfl⟩
  have hb0 : Below W.heap.size W w0 := by rw [← hw0]; exact (Below.refl _ _).alloc (Nat.le_refl _) _
  have B0 : Box w0 W.heap.size [.int .i64 x, .int .i64 y] := by rw [← hw0]; exact Box.new W [_, _] _
  have q0 := (hB.below hb0).cell (j := 0) rfl
  have hbb := hB.lt
  have hask : AskP 22 #[.pointer (some ⟨W.heap.size, 0, none⟩)] (askQ (x, y)) bs w0 := fun p _ W' hb => ask2_any x y p.1 p.2 W.heap.size W' (B0.below hb)
  have hcall := containsL_any 22 _ (askQ (x, y)) bs v w0 (enters_of Try.func22 (by kernel_rfl) rfl) (hv.below hb0) hask
  obtain ⟨A, n, c, rfl⟩ := hv.form
  generalize bs.any (askQ (x, y)) = res at *
  clear hask hB hv B0
  go_enter Try.func21, Try.ntmps21
  go_wp2_with fail
  refine hcall.mono ?_
  rintro e w1 ⟨rfl, hb1⟩
  have hb2 := below_chL hb0 hb1
  clear hcall hb1
  go_wp2_with fail
  go_ret
  exact ⟨rfl, hb2⟩

theorem leqP_any (x y : Lv) : leqP x y = !(x.any fun p => !(y.any (askQ p))) := by
  unfold leqP
  rw [List.all_eq_not_any_not]
  rfl

set_option maxHeartbeats 1000000 in
theorem leq_any (a b : Lv) (va vb : Value) (W : World) (ha : RPv W a va) (hb : RPv W b vb) :
    Calls Try.prog 8 #[.agg #[va], .agg #[vb]] W fun e w' => e = .returned (.bool (leqL a b)) ∧ Below W.heap.size W w' := by
  have hmf : ∀ (fn : Fn) (first cap : Array Value) (w : World), (Instr.makeFunc fn first cap).run Try.prog w = .ok (.func fn first cap) w := fun _ _ _ _ => rfl
  obtain ⟨w0, hw0⟩ : ∃ w0, (W.alloc (.cells #[va] 24)).alloc (.cells #[vb] 24) = w0 := ⟨_, rfl⟩
  have hb0 : Below W.heap.size W w0 := by rw [← hw0]; exact ((Below.refl _ _).alloc (Nat.le_refl _) _).alloc (by simp) _
  have hs0 : w0.heap.size = W.heap.size + 2 := by rw [← hw0]; simp
  have B0 : Box w0 W.heap.size [va] := by rw [← hw0]; exact (Box.new W [_] _).alloc _
  have B1 : Box w0 (W.heap.size + 1) [vb] := by rw [← hw0]; exact Box.new' _ [_] _ (by simp)
  have hA := fun W' (h : Below w0.heap.size w0 W') => norm_any a va W' ((ha.below hb0).below h)
  have hB := fun W' (h : Below w0.heap.size w0 W') => norm_any b vb W' ((hb.below hb0).below h)
  obtain ⟨A1, n1, c1, rfl⟩ := ha.form
  obtain ⟨A2, n2, c2, rfl⟩ := hb.form
  have q0 := B0.cell (j := 0) rfl
  have q1 := B1.cell (j := 0) rfl
  have HB0 := Lib.hid B0
  have HB1 := Lib.hid B1
  have HA := Lib.hid hA
  have HB := Lib.hid hB
  generalize hres : leqL a b = res
  have HR := Lib.hid hres
  clear ha hb B0 B1 hA hB hres
  go_enter Try.func8, Try.ntmps8
  go_wp2_with fail
  go_upto_region 1 with fail
  go_region_with (first
    | (go_at_call 12; (with_reducible refine (HA.out w0.drew ((Below.refl _ _).drew)).mono ?_); rintro e w1 ⟨v1, bs1, rfl, hO1, hb1⟩; obtain ⟨A3, n3, c3, rfl⟩ := hO1.reads.form; have HBW := Lib.hid (below_drew0 hb1); have HO1 := Lib.hid hO1; have r1 := (HB1.out.below HBW.out).cell (j := 0) rfl; clear hO1 hb1)
    | (go_at_call 12; (with_reducible refine (HB.out w1 HBW.out).mono ?_); rintro e w2 ⟨v2, bs2, rfl, hO2, hb2⟩; obtain ⟨A4, n4, c4, rfl⟩ := hO2.reads.form; have HBV := Lib.hid (below_chL HBW.out hb2); have HO2 := Lib.hid hO2; have HO3 := Lib.hid (HO1.out.below hb2); have D0 := HB0.out.below HBV.out; have D1 := HB1.out.below HBV.out; have x0 := D0.frozen 0; have x1 := D1.frozen 0; have x2 := D0.cell (j := 0) rfl; have x3 := D1.cell (j := 0) rfl; clear hO2 hb2))
  all_goals
    obtain ⟨w3, hw3, E0, E1, hmv, hb3⟩ := set_two D0 D1 trivial (.slice A3 n3 c3) (.slice A4 n4 c4)
    rw [hw3]
    have y0 := E0.cell (j := 0) rfl
    have hva : RPv w3 (nfP a) (.slice A3 n3 c3) := (HO3.out.move fun k hk => hmv k (by have := (HO1.out.inn k hk).1; simp at this; omega) (by have := (HO1.out.inn k hk).1; simp at this; omega)).reads
    have hvb : RPv w3 (nfP b) (.slice A4 n4 c4) := (HO2.out.move fun k hk => hmv k (by have := (HO2.out.inn k hk).1; have := HBW.out.size; omega) (by have := (HO2.out.inn k hk).1; have := HBW.out.size; omega)).reads
    have hcall := containsL_any 21 #[.pointer (some ⟨W.heap.size + 1, 0, none⟩)] (fun p => !((nfP b).any (askQ p))) (nfP a) _ w3 (enters_of Try.func21 (by kernel_rfl) rfl) hva (fun p _ W' h => ask1_any p.1 p.2 (nfP b) _ (W.heap.size + 1) W' (E1.below h) (hvb.below h))
    have hlr := leqP_any (nfP a) (nfP b)
    have hr : leqP (nfP a) (nfP b) = res := HR.out
    rw [hr] at hlr
    generalize ((nfP a).any fun p => !((nfP b).any (askQ p))) = rr at *
    have HRR := Lib.hid hlr
    have hbz : Below W.heap.size W w3 := (hb0.trans (HBV.out.mono hb0.size)).trans hb3
    clear hlr hr hva hvb hmv hb3 E0 E1 hw3 D0 D1 x0 x1 x2 x3 r1 q0 q1
    go_wp2_with fail
    refine hcall.mono ?_
    rintro e w4 ⟨rfl, hb4⟩
    have hb5 := below_chL hbz hb4
    clear hcall hb4
    go_wp2_with fail
    go_ret
    exact ⟨ret_bool (by rw [HRR.out]), hb5⟩

end Go.Proofs.Ytgegaipkfpdocaa
