/-
  THE WALKS OF package term: Binds, means, below, own, what lifts and puts.
-/
import Derived.Test.YtgegaipkfpdocaaDoorCount
import Derived.Test.YtgegaipkfpdocaaDoorOwn
import Derived.Maps.AppendAt
import Derived.Laws.EntriesVeiled
namespace Go.Proofs.YtgegaipkfpdocaaDoor
open Go.RowKit

/-- Which kid of a kind stands below a binder. -/
def bnd (k : Int) : Int :=
  if k = 4 ∨ k = 5 ∨ k = 12 ∨ k = 16 ∨ k = 18 then 1 else if k = 7 then 2 else -1

/-- The table of kinds: num, at, levels, kids, bound. -/
def kindTab : List (Bool × Bool × Int × Int × Int) :=
  [(false, false, 0, 0, 0), (true, false, 0, 0, -1), (false, false, 1, 0, -1), (true, false, -1, 0, -1), (false, false, 0, 2, 1), (false, false, 0, 2, 1), (false, false, 0, 2, -1), (false, false, 0, 3, 2),
   (true, true, -1, 0, -1), (true, true, -1, 0, -1), (true, true, -1, 0, -1), (false, true, 0, 0, -1), (false, false, 0, 2, 1), (false, false, 0, 2, -1), (false, false, 0, 1, -1), (false, false, 0, 1, -1),
   (false, false, 0, 2, 1), (false, false, 0, 2, -1), (false, false, 0, 5, 1), (false, false, 0, 3, -1), (false, false, 0, 0, -1), (false, false, 0, 6, -1), (true, false, 0, 0, -1), (true, true, 0, 0, -1), (false, true, 0, 2, -1)]
/-- The table lies in its block. -/
def Kinds (w : World) : Prop := ∀ (i : Nat) x, kindTab[i]? = some x → w.cell? ⟨0, i * 5, none⟩ = some (.bool x.1) ∧ w.cell? ⟨0, i * 5 + 1, none⟩ = some (.bool x.2.1) ∧
  w.cell? ⟨0, i * 5 + 2, none⟩ = some (.int .i64 x.2.2.1) ∧ w.cell? ⟨0, i * 5 + 3, none⟩ = some (.int .i64 x.2.2.2.1) ∧ w.cell? ⟨0, i * 5 + 4, none⟩ = some (.int .i64 x.2.2.2.2)
theorem Kinds.below {w w1 : World} (hb : Below w.heap.size w w1) (h : Kinds w) : Kinds w1 := fun i x hx =>
  let ⟨h1, h2, h3, h4, h5⟩ := h i x hx
  ⟨cell_below hb h1, cell_below hb h2, cell_below hb h3, cell_below hb h4, cell_below hb h5⟩
theorem tab_bnd : ∀ (i : Nat) x, kindTab[i]? = some x → 0 < i → x.2.2.2.2 = bnd i := by
  have h : ∀ i : Fin 25, ∀ x, kindTab[i.val]? = some x → 0 < i.val → x.2.2.2.2 = bnd i.val := by decide +kernel
  intro i x hx
  have hi : i < 25 := (List.getElem?_eq_some_iff.1 hx).1
  exact h ⟨i, hi⟩ x hx
theorem tab_at {i : Nat} (h : i < 25) : ∃ x, kindTab[i]? = some x := ⟨_, List.getElem?_eq_getElem (show i < kindTab.length from h)⟩
theorem bnd_out {k : Int} (h : k ≤ 0 ∨ 25 ≤ k) : bnd k = -1 := by unfold bnd; rw [if_neg (by omega), if_neg (by omega)]

/-- Whether a kid stands below its term's binder. -/
def bindsB (k i : Int) : Bool := decide (bnd k = i ∧ 0 ≤ i)
theorem bindsB_true {k i : Int} (h : bnd k = i ∧ 0 ≤ i) : bindsB k i = true := decide_eq_true h
theorem bindsB_false {k i : Int} (h : ¬ (bnd k = i ∧ 0 ≤ i)) : bindsB k i = false := decide_eq_false h

set_option maxRecDepth 100000 in
theorem binds_any (k i : Int) (w : World) (hK : Kinds w) :
    Calls Tryd.prog 65 #[.int .i64 k, .int .i64 i] w fun e w' => e = .returned (.bool (bindsB k i)) ∧ w = w' := by
  by_cases h1 : 0 < k
  · by_cases h2 : k < 25
    · obtain ⟨n, rfl⟩ := Int.eq_ofNat_of_zero_le (show 0 ≤ k by omega)
      by_cases h3 : 0 ≤ i
      · obtain ⟨x, hx⟩ := tab_at (i := n) (by omega)
        obtain ⟨-, -, -, -, hc⟩ := hK n x hx
        rw [tab_bnd n x hx (by omega)] at hc
        have hk0 : (0 : Int) ≤ (n : Int) := by omega
        have HV : Hid (bindsB n i = decide (bnd (n : Int) = i ∧ 0 ≤ i)) := rfl
        generalize bnd (n : Int) = y at *
        clear hK hx
        go_enter Tryd.func65, Tryd.ntmps65
        go_wp2_with fail
        go_ret
        exact ⟨ret_bool (by rw [HV.out, Bool.eq_iff_iff]; simp; omega), rfl⟩
      · have h3' : i < 0 := by omega
        go_enter Tryd.func65, Tryd.ntmps65
        go_wp2_with fail
        go_ret
        exact ⟨ret_bool (bindsB_false (by omega)).symm, rfl⟩
    · have HF : Hid (bindsB k i = false) := bindsB_false (by rw [bnd_out (.inr (by omega))]; omega)
      have h2' : 25 ≤ k := by omega
      go_enter Tryd.func65, Tryd.ntmps65
      go_wp2_with fail
      go_ret
      exact ⟨ret_bool HF.out.symm, rfl⟩
  · have HF : Hid (bindsB k i = false) := bindsB_false (by rw [bnd_out (.inl (by omega))]; omega)
    go_enter Tryd.func65, Tryd.ntmps65
    go_wp2_with fail
    go_ret
    exact ⟨ret_bool HF.out.symm, rfl⟩

theorem means_any (d m : Int) (w : World) : Calls Tryd.prog 30 #[.agg #[.int .i64 d], .int .i64 m] w fun e w' =>
    e = .returned (.tuple #[.int .i64 (wrap64 (m - d)), .bool (decide (d ≤ m))]) ∧ Below w.heap.size w w' := by
  go_enter Tryd.func30, Tryd.ntmps30
  go_wp2
  go_quiet (fail)
  go_wp2
  go_ret2
  exact ⟨rfl, below_drewN' ((Below.refl _ _).alloc (Nat.le_refl _) _) _⟩

/-- The depth of a kid. -/
def inner (k : Int) (i : Nat) (d : Int) : Int := if (i : Int) = bnd k then d + 1 else d

set_option maxRecDepth 100000 in
theorem below_any (d : Int) (tn : Value) (k : Int) (i : Nat) (w : World) (hK : Kinds w) (h0 : 0 ≤ d) (h1 : d ≤ 4611686018427387904) (g : FuncId) (lb : Array Value) (htn : tn = .func (.func g) #[] lb) :
    Calls Tryd.prog 69 #[.agg #[.int .i64 d, tn], .int .i64 k, .int .i64 i] w fun e w' => e = .returned (.agg #[.int .i64 (inner k i d), tn]) ∧ Below w.heap.size w w' := by
  subst htn
  have hcall := fun W (hb : Below w.heap.size w W) => binds_any k i W (hK.below hb)
  have hv : Hid (inner k i d = if (i : Int) = bnd k then d + 1 else d) := rfl
  by_cases hbk : (i : Int) = bnd k
  · rw [bindsB_true ⟨hbk.symm, by omega⟩] at hcall
    have HV : Hid (inner k i d = d + 1) := by rw [Hid, hv.out, if_pos hbk]
    clear hv hbk hK
    go_enter Tryd.func69, Tryd.ntmps69
    go_wp2_with fail
    refine (hcall _ ?_).mono ?_
    · exact ((Below.refl _ _).alloc (Nat.le_refl _) _).alloc (by simp) _
    rintro e w1 ⟨rfl, rfl⟩
    clear hcall
    go_wp2_with fail
    refine bodyPost_ret (v := .agg #[.int .i64 (d + 1), .func (.func g) #[] lb]) (by simp [results, Tryd.results69, go_sem]) rfl ⟨by rw [HV.out], ?_⟩
    exact ((Below.refl _ _).alloc (Nat.le_refl _) _).alloc (by simp) _
  · rw [bindsB_false (by omega)] at hcall
    have HV : Hid (inner k i d = d) := by rw [Hid, hv.out, if_neg hbk]
    clear hv hbk hK
    go_enter Tryd.func69, Tryd.ntmps69
    go_wp2_with fail
    refine (hcall _ ?_).mono ?_
    · exact ((Below.refl _ _).alloc (Nat.le_refl _) _).alloc (by simp) _
    rintro e w1 ⟨rfl, rfl⟩
    clear hcall
    go_wp2_with fail
    refine bodyPost_ret (v := .agg #[.int .i64 d, .func (.func g) #[] lb]) (by simp [results, Tryd.results69, go_sem]) rfl ⟨by rw [HV.out], ?_⟩
    exact ((Below.refl _ _).alloc (Nat.le_refl _) _).alloc (by simp) _

theorem RP.cells {w : World} {b : Nat} : ∀ {ps : Lv} {o : Nat}, RP w b o ps → ∀ j u, (cellsP ps)[j]? = some u → w.cell? ⟨b, o + j, none⟩ = some u
  | [], _, _, j, u, h => by simp [cellsP] at h
  | p :: ps, o, ⟨⟨h1, h2⟩, h3⟩, j, u, h => by
    match j, h with
    | 0, h => simp only [cellsP, List.getElem?_cons_zero, Option.some.injEq] at h; subst h; simpa using h1
    | 1, h => simp only [cellsP, List.getElem?_cons_succ, List.getElem?_cons_zero, Option.some.injEq] at h; subst h; exact h2
    | j + 2, h =>
      have := RP.cells h3 j u (by simpa [cellsP] using h)
      have e : o + 2 + j = o + (j + 2) := by omega
      rwa [e] at this

theorem info_part : (Tryd.prog.info? 39).map (fun i => (i.zero, i.size, i.bytes)) = some (some (.agg #[.int .i64 0, .int .i64 0]), 2, 16) := by kernel_rfl
theorem info_level : (Tryd.prog.info? 37).map (fun i => (i.zero, i.size, i.bytes)) = some (some (.agg #[.slice none 0 0]), 1, 24) := by kernel_rfl
theorem info_term : (Tryd.prog.info? 27).map (fun i => (i.zero, i.size, i.bytes)) = some (some (.agg #[.int .i64 0, .int .i64 0, .int .i64 0, .slice none 0 0, .slice none 0 0]), 5, 72) := by kernel_rfl

/-- Parts in new memory. -/
def MadeP (ps : Lv) (w : World) (e : Ending) (w' : World) : Prop := ∃ v bs, e = .returned v ∧ OPv w' w.heap.size bs ps v ∧ Below w.heap.size w w'

set_option maxRecDepth 100000 in
theorem cloneP_any (ps : Lv) (v : Value) (w : World) (h : RPv w ps v) :
    Calls Tryd.prog 68 #[v] w (MadeP ps w) := by
  obtain ⟨A, c, rfl, hc, hl, hcp⟩ := h
  have hlen := cellsP_length ps
  have heq := fun (W : World) (n c : Nat) (a : Option Addr) => Lib.run_eql_slice_nil (P := Tryd.prog) W 35 39 a n c 0 0 Tryd.underlying35
  cases A with
  | none =>
    have hn : ps = [] := by
      cases ps with
      | nil => rfl
      | cons p ps => obtain ⟨b, o, e, _⟩ := hcp (by simp); cases e
    subst hn
    clear hcp hlen
    go_enter Tryd.func68, Tryd.ntmps68
    go_wp2_with fail
    go_ret
    exact ⟨_, [], rfl, ⟨World.ownsRow_nil _ _ _ _, rfl, by simp⟩, Below.refl _ _⟩
  | some ad =>
    obtain ⟨i0, hi, hz0, hz1, hz2⟩ := info_parts info_part
    have hnews : ∀ j u, (cellsP ps)[j]? = some u → (w.alloc (.cells #[] 39)).cell? (ad.add j) = some u := fun j u hj => by
      cases ps with
      | nil => simp [cellsP] at hj
      | cons p ps =>
        obtain ⟨b, o, e, hr⟩ := hcp (by simp)
        obtain rfl : ad = ⟨b, o, none⟩ := by injection e
        rw [Addr.add_lit]
        exact cell_below ((Below.refl _ _).alloc (Nat.le_refl _) _) (hr.cells j u hj)
    have hone := cellsP_one ps
    have HL := Lib.hid hlen
    have HN := Lib.hid hnews
    have HO := Lib.hid hone
    clear hcp hlen hnews hone
    generalize hnn : ps.length = n at *
    have HNN := Lib.hid hnn; clear hnn
    go_enter Tryd.func68, Tryd.ntmps68
    go_wp2_with (at_builtin; refine wpList_append_own_at _ rfl _ _ 35 rfl w.heap.size 39 i0 _ 2 16 Tryd.underlying35 hi hz0 hz1 hz2 rfl (by decide) _ 0 [] rfl ?c0 ad n c (cellsP ps) rfl HL.out HN.out HO.out ?c1 ?c2 ?c3 ?c4)
    case c0 => exact World.ownsRow_made w #[] 0 (Nat.le_refl _) (by simp) rfl
    case c1 => unfold maxLen; omega
    case c2 => omega
    case c3 => simp
    case c4 =>
      intro v1 w1 hown hg _ _
      have HB : Below w.heap.size w w1 := ((Below.refl _ _).alloc (Nat.le_refl _) _).grown hg (by simp) (fun k hk => by simp [Value.ownBlock] at hk; omega)
      have HR : Hid (OPv w1 w.heap.size v1.ownBlock.toList ps v1) := ⟨by rw [HNN.out]; simpa using hown, rfl, by rw [HNN.out]; exact hl⟩
      clear hown hg
      go_wp2_with fail
      go_ret
      exact ⟨v1, _, rfl, HR.out, HB⟩

/-- Values that read as levels. -/
def RX (w : World) : List Lv → List Value → Prop
  | [], xs => xs = []
  | l :: ls, xs => ∃ x xs', xs = x :: xs' ∧ RPv w l x ∧ RX w ls xs'
theorem RX.length {w : World} : ∀ {ls : List Lv} {xs : List Value}, RX w ls xs → xs.length = ls.length
  | [], _, h => by rw [show _ = [] from h]; rfl
  | _ :: _, _, ⟨x, xs', e, _, h⟩ => by rw [e, List.length_cons, List.length_cons, h.length]
theorem RX.below {w w1 : World} (hb : Below w.heap.size w w1) : ∀ {ls : List Lv} {xs : List Value}, RX w ls xs → RX w1 ls xs
  | [], _, h => h
  | _ :: _, _, ⟨x, xs', e, h1, h2⟩ => ⟨x, xs', e, h1.below hb, h2.below hb⟩
theorem RX.one {w : World} : ∀ {ls : List Lv} {xs : List Value}, RX w ls xs → ∀ u ∈ xs, u.oneCell' = true
  | [], _, h, u, hu => by rw [show _ = [] from h] at hu; cases hu
  | _ :: _, _, ⟨x, xs', e, h1, h2⟩, u, hu => by
    subst e
    obtain ⟨A, n, c, rfl⟩ := h1.form
    rcases List.mem_cons.1 hu with rfl | hu
    · rfl
    · exact h2.one u hu
theorem RL.cells {w : World} {b : Nat} : ∀ {ls : List Lv} {o : Nat}, RL w b o ls → ∃ xs, RX w ls xs ∧ ∀ j u, xs[j]? = some u → w.cell? ⟨b, o + j, none⟩ = some u
  | [], o, _ => ⟨[], rfl, fun j u h => by simp at h⟩
  | l :: ls, o, ⟨⟨v, h1, h2⟩, h3⟩ => by
    obtain ⟨xs, hx, hc⟩ := RL.cells h3
    refine ⟨v :: xs, ⟨v, xs, rfl, h2, hx⟩, fun j u hj => ?_⟩
    cases j with
    | zero => simp only [List.getElem?_cons_zero, Option.some.injEq] at hj; subst hj; exact h1
    | succ j =>
      have := hc j u (by simpa using hj)
      have e : o + 1 + j = o + (j + 1) := by omega
      rwa [e] at this

/-- A new row of the old levels. -/
def MadeX (ls : List Lv) (w0 w : World) (e : Ending) (w' : World) : Prop := ∃ v xs, e = .returned v ∧ w'.ownsRow w.heap.size 37 1 v ls.length xs ∧ RX w0 ls xs ∧ Below w.heap.size w w'

set_option maxRecDepth 100000 in
theorem cloneL_any (ls : List Lv) (v : Value) (w0 w : World) (h : RLv w0 ls v) (hb0 : Below w0.heap.size w0 w) :
    Calls Tryd.prog 67 #[v] w (MadeX ls w0 w) := by
  obtain ⟨A, c, rfl, hc, hl, hcp⟩ := h
  have heq := fun (W : World) (n c : Nat) (a : Option Addr) => Lib.run_eql_slice_nil (P := Tryd.prog) W 24 37 a n c 0 0 Tryd.underlying24
  cases A with
  | none =>
    have hn : ls = [] := by
      cases ls with
      | nil => rfl
      | cons p ps => obtain ⟨b, o, e, _⟩ := hcp (by simp); cases e
    subst hn
    clear hcp
    go_enter Tryd.func67, Tryd.ntmps67
    go_wp2_with fail
    go_ret
    exact ⟨_, [], rfl, World.ownsRow_nil _ _ _ _, rfl, Below.refl _ _⟩
  | some ad =>
    obtain ⟨i0, hi, hz0, hz1, hz2⟩ := info_parts info_level
    obtain ⟨xs, hx, hcx⟩ : ∃ xs, RX w0 ls xs ∧ ∀ j u, xs[j]? = some u → w.cell? (ad.add j) = some u := by
      cases ls with
      | nil => exact ⟨[], rfl, fun j u h => by simp at h⟩
      | cons p ps =>
        obtain ⟨b, o, e, hr⟩ := hcp (by simp)
        obtain rfl : ad = ⟨b, o, none⟩ := by injection e
        obtain ⟨xs, hx, hcx⟩ := hr.cells
        exact ⟨xs, hx, fun j u hj => by rw [Addr.add_lit]; exact cell_below hb0 (hcx j u hj)⟩
    have hnews : ∀ j u, xs[j]? = some u → (w.alloc (.cells #[] 37)).cell? (ad.add j) = some u := fun j u hj =>
      (((Below.refl w.heap.size w).alloc (Nat.le_refl _) (.cells #[] 37)).cell (World.block_lt_of_cell? w _ (hcx j u hj))).trans (hcx j u hj)
    have hone := hx.one
    have hlen : xs.length = ls.length * 1 := by rw [hx.length, Nat.mul_one]
    have HL := Lib.hid hlen
    have HN := Lib.hid hnews
    have HO := Lib.hid hone
    have HX := Lib.hid hx
    clear hcp hlen hnews hone hx hcx hb0
    generalize hnn : ls.length = n at *
    have HNN := Lib.hid hnn; clear hnn
    go_enter Tryd.func67, Tryd.ntmps67
    go_wp2_with (at_builtin; refine wpList_append_own_at _ rfl _ _ 24 rfl w.heap.size 37 i0 _ 1 24 Tryd.underlying24 hi hz0 hz1 hz2 rfl (by decide) _ 0 [] rfl ?c0 ad n c xs rfl HL.out HN.out HO.out ?c1 ?c2 ?c3 ?c4)
    case c0 => exact World.ownsRow_made w #[] 0 (Nat.le_refl _) (by simp) rfl
    case c1 => unfold maxLen; omega
    case c2 => omega
    case c3 => simp
    case c4 =>
      intro v1 w1 hown hg _ _
      have HB : Below w.heap.size w w1 := ((Below.refl _ _).alloc (Nat.le_refl _) _).grown hg (by simp) (fun k hk => by simp [Value.ownBlock] at hk; omega)
      have HR : Hid (w1.ownsRow w.heap.size 37 1 v1 ls.length xs) := by rw [HNN.out]; simpa [Hid] using hown
      clear hown hg
      go_wp2_with fail
      go_ret
      exact ⟨v1, xs, rfl, HR.out, HX.out, HB⟩

end Go.Proofs.YtgegaipkfpdocaaDoor
