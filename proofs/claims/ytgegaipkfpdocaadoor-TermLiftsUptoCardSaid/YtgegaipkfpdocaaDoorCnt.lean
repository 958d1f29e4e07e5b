/-
  THE WALKS OF term.count AND term.Right.
  THE WALK OF THE SEARCH WITHIN term.count, OF term.count AND OF term.Right.
  THE WALK OF term.count AND OF term.Right.
-/
import Derived.Test.YtgegaipkfpdocaaDoorNode
namespace Go.Proofs.YtgegaipkfpdocaaDoor
open Go.RowKit

mutual
/-- What count tells, and where its counter stands then. -/
def cnt (lok : Lv → Bool) (deep : Int) : Tm → Int → Bool × Int
  | .node k m a ls ks, n => if deep ≤ 400 ∧ n + 1 ≤ 20000 ∧ nodeB lok (.node k m a ls ks) = true then cntL lok (deep + 1) ks (n + 1) else (false, n + 1)
def cntL (lok : Lv → Bool) (deep : Int) : List Tm → Int → Bool × Int
  | [], n => (true, n)
  | t :: ts, n => if (cnt lok deep t n).1 = true then cntL lok deep ts (cnt lok deep t n).2 else (false, (cnt lok deep t n).2)
end
/-- Is a term right? -/
def rightB (lok : Lv → Bool) (t : Tm) : Bool := (cnt lok 1 t 0).1

theorem grown_setCell (w : World) (a : Addr) (u : Value) : w.grownBy (w.setCell a u) (some a.block) :=
  ⟨rfl, rfl, rfl, by simp, fun i _ hne => Below.heap_setCell w a u i (fun e => hne (by rw [e]))⟩
theorem Box.far {w w' : World} {b : Nat} {vs : List Value} {row : Option Nat} (h : Box w b vs) (hg : w.grownBy w' row) (hne : some b ≠ row) : Box w' b vs := h.move (hg.block b h.lt hne)

mutual
/-- All levels of a term. -/
def lvAll : Tm → List Lv
  | .node _ _ _ ls ks => ls ++ lvAllL ks
def lvAllL : List Tm → List Lv
  | [] => []
  | t :: ts => lvAll t ++ lvAllL ts
end
theorem lvAll_at {ts : List Tm} {i : Nat} {t : Tm} (h : ts[i]? = some t) : ∀ l ∈ lvAll t, l ∈ lvAllL ts := by
  induction ts generalizing i with
  | nil => simp at h
  | cons x xs ih =>
    intro l hl
    simp only [lvAllL, List.mem_append]
    cases i with
    | zero => simp only [List.getElem?_cons_zero, Option.some.injEq] at h; subst h; exact .inl hl
    | succ i => exact .inr (ih (i := i) (by simpa using h) l hl)

mutual
theorem cnt_bd (lok : Lv → Bool) (deep : Int) (t : Tm) (n : Int) (h0 : 0 ≤ n) (h1 : n ≤ 20000) : 0 ≤ (cnt lok deep t n).2 ∧ (cnt lok deep t n).2 ≤ 20001 ∧ ((cnt lok deep t n).1 = true → (cnt lok deep t n).2 ≤ 20000) := by
  match t with
  | .node k m a ls ks =>
    simp only [cnt]
    split
    · rename_i h
      exact cntL_bd lok (deep + 1) ks (n + 1) (by omega) (by omega)
    · exact ⟨by simp only; omega, by simp only; omega, fun h => by cases h⟩
theorem cntL_bd (lok : Lv → Bool) (deep : Int) (ts : List Tm) (n : Int) (h0 : 0 ≤ n) (h1 : n ≤ 20000) : 0 ≤ (cntL lok deep ts n).2 ∧ (cntL lok deep ts n).2 ≤ 20001 ∧ ((cntL lok deep ts n).1 = true → (cntL lok deep ts n).2 ≤ 20000) := by
  match ts with
  | [] => simp only [cntL]; exact ⟨h0, by omega, fun _ => h1⟩
  | t :: ts =>
    have ht := cnt_bd lok deep t n h0 h1
    simp only [cntL]
    split
    · rename_i h
      exact cntL_bd lok deep ts _ ht.1 (ht.2.2 h)
    · exact ⟨ht.1, ht.2.1, fun h => by cases h⟩
end

/-- What a count leaves: its answer, its counter; all else as it was. -/
def Counted (bn : Nat) (r : Bool × Int) (w : World) (e : Ending) (w' : World) : Prop := e = .returned (.bool r.1) ∧ Box w' bn [.int .i64 r.2] ∧ w.grownBy w' (some bn)

def CountAt (w0 : World) (lok : Lv → Bool) (M : Nat) : Prop := ∀ (deep : Int) (t : Tm) (vl vk : Value) (n : Int) (bn : Nat) (W : World), size t ≤ M → Below w0.heap.size w0 W → w0.heap.size ≤ bn → RT w0 t vl vk → LevelOk (lvAll t) lok w0 →
  Box W bn [.int .i64 n] → 0 ≤ n → n ≤ 20000 → 0 ≤ deep → deep ≤ 401 →
  Calls Tryd.prog 50 #[.agg #[.int .i64 t.kind, .int .i64 t.num, .int .i64 t.atN, vl, vk], .int .i64 deep, .pointer (some ⟨bn, 0, none⟩)] W (Counted bn (cnt lok deep t n) W)

set_option maxRecDepth 100000 in
theorem count1_of {w0 : World} {lok : Lv → Bool} {M : Nat} (HS : CountAt w0 lok M) (deep : Int) (t : Tm) (vl vk : Value) (n : Int) (bn bd bp : Nat) (W : World) (hM : size t ≤ M) (hb : Below w0.heap.size w0 W) (hbn : w0.heap.size ≤ bn)
    (hr : RT w0 t vl vk) (hL : LevelOk (lvAll t) lok w0) (B : Box W bn [.int .i64 n]) (hD : W.cell? ⟨bd, 0, none⟩ = some (.int .i64 deep)) (hP : W.cell? ⟨bp, 0, none⟩ = some (.pointer (some ⟨bn, 0, none⟩))) (h0 : 0 ≤ n) (h1 : n ≤ 20000) (hd0 : 0 ≤ deep) (hd1 : deep ≤ 400) :
    Calls Tryd.prog 81 #[.agg #[.int .i64 t.kind, .int .i64 t.num, .int .i64 t.atN, vl, vk], .pointer (some ⟨bd, 0, none⟩), .pointer (some ⟨bp, 0, none⟩)] W
      (Counted bn (!(cnt lok (deep + 1) t n).1, (cnt lok (deep + 1) t n).2) W) := by
  obtain ⟨A2, n2, c2, A3, n3, c3, rfl, rfl⟩ := hr.forms
  have hcall := fun W' (hb' : Below w0.heap.size w0 W') (B' : Box W' bn [.int .i64 n]) => HS (deep + 1) t _ _ n bn W' hM hb' hbn hr hL B' h0 h1 (by omega) (by omega)
  have hw : IntKind.i64.wrap (deep + 1) = deep + 1 := IntWalk.i64_in _ (by omega)
  have hd := cell_lt hD
  have hp := cell_lt hP
  generalize cnt lok (deep + 1) t n = r at *
  clear HS hr hL
  have HB := Lib.hid B
  have HHB := Lib.hid hb
  clear B hb
  go_enter Tryd.func81, Tryd.ntmps81
  go_wp2_with fail
  refine (hcall _ ?_ ?_).mono ?_
  · exact HHB.out.alloc HHB.out.size _
  · exact HB.out.alloc _
  rintro e w1 ⟨rfl, hB, hg⟩
  clear hcall
  have hg' := (World.grownBy_alloc W _ _).trans hg
  clear hg
  have HBB := Lib.hid hB
  have HG := Lib.hid hg'
  clear hB hg'
  go_wp2_with fail
  go_ret
  exact ⟨rfl, HBB.out, HG.out⟩

open Go.RowKit

theorem cntL_drop {lok : Lv → Bool} {deep : Int} {ts : List Tm} {j : Nat} {t : Tm} (h : ts[j]? = some t) (n : Int) :
    cntL lok deep (ts.drop j) n = if (cnt lok deep t n).1 = true then cntL lok deep (ts.drop (j + 1)) (cnt lok deep t n).2 else (false, (cnt lok deep t n).2) := by
  obtain ⟨hj, rfl⟩ := List.getElem?_eq_some_iff.1 h
  rw [List.drop_eq_getElem_cons hj]
  simp only [cntL]

/-- A search's answer, with the counter that it leaves. -/
def FoundN (bn : Nat) (r : Bool × Int) (w : World) (e : Ending) (w' : World) : Prop := ∃ i : Int, e = .returned (.int .i64 i) ∧ (if r.1 then i = -1 else 0 ≤ i) ∧ Box w' bn [.int .i64 r.2] ∧ w.grownBy w' (some bn)

set_option maxRecDepth 100000 in
set_option maxHeartbeats 1600000 in
theorem indexT_of {w0 : World} {lok : Lv → Bool} {M : Nat} (HS : CountAt w0 lok M) (deep : Int) (ts : List Tm) (v : Value) (n : Int) (bn bd bp : Nat) (W : World) (hM : sizeL ts ≤ M) (hb : Below w0.heap.size w0 W) (hbn : w0.heap.size ≤ bn)
    (hr : RKv w0 ts v) (hL : LevelOk (lvAllL ts) lok w0) (B : Box W bn [.int .i64 n]) (hD : Box W bd [.int .i64 deep]) (hP : Box W bp [.pointer (some ⟨bn, 0, none⟩)]) (h0 : 0 ≤ n) (h1 : n ≤ 20000) (hd0 : 0 ≤ deep) (hd1 : deep ≤ 400)
    (hnd : bd ≠ bn) (hnp : bp ≠ bn) :
    Calls Tryd.prog 93 #[v, .func (.func 81) #[] #[.pointer (some ⟨bd, 0, none⟩), .pointer (some ⟨bp, 0, none⟩)]] W (FoundN bn (cntL lok (deep + 1) ts n) W) := by
  obtain ⟨A, c, rfl, hc, hm, hx⟩ := hr
  generalize hnn : ts.length = l at *
  have HN := Lib.hid hnn
  have HX := Lib.hid hx
  have HL := Lib.hid hL
  have HB := Lib.hid B
  have HD := Lib.hid hD
  have HP := Lib.hid hP
  have HHB := Lib.hid hb
  clear hnn hx hL B hD hP hb
  go_enter Tryd.func93, Tryd.ntmps93
  go_wp2_with fail
  go_loopw [5, 8] (fun _ i wr => ∃ (j : Nat) (m : Int), j ≤ l ∧ i = .int .i64 j ∧ 0 ≤ m ∧ m ≤ 20000 ∧ Hid (cntL lok (deep + 1) ts n = cntL lok (deep + 1) (ts.drop j) m) ∧ Hid (Box wr bn [.int .i64 m]) ∧ Hid (W.grownBy wr (some bn))) (fun _ i _ => l - (intOf i).toNat)
  case atStart => exact ⟨0, n, Nat.zero_le _, rfl, h0, h1, rfl, HB.out, (⟨rfl, rfl, rfl, Nat.le_refl _, fun _ _ _ => rfl⟩ : W.grownBy W (some bn))⟩
  case round =>
    obtain ⟨j, m, hj, rfl, hm0, hm1, hp, hB, hg⟩ := hrel
    by_cases hlt : j < l
    · obtain ⟨b, o, rfl, hc⟩ := HX.out (by omega)
      obtain ⟨t, ht⟩ : ∃ t, ts[j]? = some t := ⟨_, List.getElem?_eq_getElem (by have := HN.out; omega)⟩
      have hbr : Below w0.heap.size w0 wr := HHB.out.grown hg.out HHB.out.size (fun q hq => by injection hq with hq; omega)
      obtain ⟨kl, kv, x1, x2, x3, x4, x5, hx⟩ := hc.get ht
      replace x1 := cell_below hbr x1
      replace x2 := cell_below hbr x2
      replace x3 := cell_below hbr x3
      replace x4 := cell_below hbr x4
      replace x5 := cell_below hbr x5
      have hcall := count1_of HS deep t kl kv m bn bd bp wr (Nat.le_trans (size_at ht) hM) hbr hbn hx (fun l v W' hl => HL.out l v W' (lvAll_at ht l hl)) hB.out ((HD.out.far hg.out (by intro e; injection e; exact hnd ‹_›)).cell rfl) ((HP.out.far hg.out (by intro e; injection e; exact hnp ‹_›)).cell rfl) hm0 hm1 hd0 hd1
      obtain ⟨A6, n6, c6, A7, n7, c7, rfl, rfl⟩ := hx.forms
      have hlt' : (j : Int) < (l : Int) := by omega
      have hj0 : (0 : Int) ≤ (j : Int) := by omega
      have hd := cntL_drop (lok := lok) (deep := deep + 1) ht m
      have hbd := cnt_bd lok (deep + 1) t m hm0 hm1
      have HBR := Lib.hid hbr
      clear hc hx ht HX HL hbr HS
      generalize cnt lok (deep + 1) t m = r at *
      obtain ⟨rb, rn⟩ := r
      cases rb with
      | true =>
        rw [if_pos rfl] at hd
        have HDD := Lib.hid (hp.out.trans hd)
        obtain ⟨hb0, -, hb1⟩ := hbd
        replace hb1 := hb1 rfl
        simp only at hb0 hb1 hcall
        clear hd
        go_wp2_with fail
        refine hcall.mono ?_
        rintro e w1 ⟨rfl, hB1, hg1⟩
        have HB1 := Lib.hid hB1
        have HG1 := Lib.hid (hg.out.trans hg1)
        clear hB1 hg1 hcall
        go_wp2_with fail
        go_roundw
        case rel => exact ⟨j + 1, rn, by omega, by go_num, hb0, hb1, HDD, HB1, HG1⟩
        case measure => simp [intOf]; omega
      | false =>
        rw [if_neg (by simp)] at hd
        have HDD := Lib.hid (hp.out.trans hd)
        clear hd hbd
        go_wp2_with fail
        refine hcall.mono ?_
        rintro e w1 ⟨rfl, hB1, hg1⟩
        have HB1 := Lib.hid hB1
        have HG1 := Lib.hid (hg.out.trans hg1)
        clear hB1 hg1 hcall
        go_wp2_with fail
        go_ret
        rw [HDD.out]
        exact ⟨j, rfl, hj0, HB1.out, HG1.out⟩
    · obtain rfl : j = l := by omega
      have hd : cntL lok (deep + 1) ts n = (true, m) := by rw [hp.out, List.drop_of_length_le (by have := HN.out; omega)]; simp only [cntL]
      have HDD := Lib.hid hd
      clear hd HX HL HS
      go_wp2_with fail
      go_ret
      rw [HDD.out]
      exact ⟨-1, rfl, rfl, hB.out, hg.out⟩

theorem containsT_of {w0 : World} {lok : Lv → Bool} {M : Nat} (HS : CountAt w0 lok M) (deep : Int) (ts : List Tm) (v : Value) (n : Int) (bn bd bp : Nat) (W : World) (hM : sizeL ts ≤ M) (hb : Below w0.heap.size w0 W) (hbn : w0.heap.size ≤ bn)
    (hr : RKv w0 ts v) (hL : LevelOk (lvAllL ts) lok w0) (B : Box W bn [.int .i64 n]) (hD : Box W bd [.int .i64 deep]) (hP : Box W bp [.pointer (some ⟨bn, 0, none⟩)]) (h0 : 0 ≤ n) (h1 : n ≤ 20000) (hd0 : 0 ≤ deep) (hd1 : deep ≤ 400)
    (hnd : bd ≠ bn) (hnp : bp ≠ bn) :
    Calls Tryd.prog 80 #[v, .func (.func 81) #[] #[.pointer (some ⟨bd, 0, none⟩), .pointer (some ⟨bp, 0, none⟩)]] W
      (Counted bn (!(cntL lok (deep + 1) ts n).1, (cntL lok (deep + 1) ts n).2) W) := by
  have hcall := indexT_of HS deep ts v n bn bd bp W hM hb hbn hr hL B hD hP h0 h1 hd0 hd1 hnd hnp
  obtain ⟨A, m, c, rfl⟩ : ∃ A n c, v = .slice A n c := by obtain ⟨A, c, e, _⟩ := hr; exact ⟨A, _, c, e⟩
  generalize cntL lok (deep + 1) ts n = r at *
  obtain ⟨rb, rn⟩ := r
  clear HS hr hL B hD hP hb
  go_enter Tryd.func80, Tryd.ntmps80
  go_wp2_with fail
  refine hcall.mono ?_
  rintro e w1 ⟨i, rfl, hi, hB, hg⟩
  have HI := Lib.hid hi
  have HB := Lib.hid hB
  have HG := Lib.hid hg
  clear hi hB hg hcall
  by_cases h0 : 0 ≤ i
  · go_wp2_with fail
    go_ret
    refine ⟨ret_bool ?_, HB.out, HG.out⟩
    have := HI.out
    cases rb <;> simp_all
    try omega
  · go_wp2_with fail
    go_ret
    refine ⟨ret_bool ?_, HB.out, HG.out⟩
    have := HI.out
    cases rb <;> simp_all
    try omega

open Go.RowKit

set_option maxRecDepth 100000 in
set_option maxHeartbeats 4000000 in
theorem count_of {w0 : World} {lok : Lv → Bool} {M : Nat} (hK : Kinds w0) (HS : CountAt w0 lok M) : CountAt w0 lok (M + 1) := by
  rintro deep ⟨k, m, a, ls, ks⟩ vl vk n bn W hM hb hbn hr hL B h0 h1 hd0 hd1
  have hnode := fun W' (hb' : Below w0.heap.size w0 W') => node_any lok k m a ls ks vl vk W' (hK.below hb') (hr.below hb') (fun l v W'' hl hb'' => hL l v W'' (by simp only [lvAll, List.mem_append]; exact .inl hl) (hb'.trans (hb''.mono hb'.size)))
  have hcont : ∀ (W' : World) (bd bp : Nat), deep ≤ 400 → n + 1 ≤ 20000 → Below w0.heap.size w0 W' → Box W' bn [.int .i64 (n + 1)] → Box W' bd [.int .i64 deep] → Box W' bp [.pointer (some ⟨bn, 0, none⟩)] → bd ≠ bn → bp ≠ bn →
      Calls Tryd.prog 80 #[vk, .func (.func 81) #[] #[.pointer (some ⟨bd, 0, none⟩), .pointer (some ⟨bp, 0, none⟩)]] W' (Counted bn (!(cntL lok (deep + 1) ks (n + 1)).1, (cntL lok (deep + 1) ks (n + 1)).2) W') :=
    fun W' bd bp hd hn hb' B' hD hP hnd hnp => containsT_of HS deep ks vk (n + 1) bn bd bp W' (by simp only [size] at hM; omega) hb' hbn ((RT_iff _ _ _ _ _ _ _ _).1 hr).2 (fun l v W'' hl => hL l v W'' (by simp only [lvAll, List.mem_append]; exact .inr hl)) B' hD hP (by omega) hn hd0 hd hnd hnp
  have hv : cnt lok deep (.node k m a ls ks) n = if deep ≤ 400 ∧ n + 1 ≤ 20000 ∧ nodeB lok (.node k m a ls ks) = true then cntL lok (deep + 1) ks (n + 1) else (false, n + 1) := by simp only [cnt]
  obtain ⟨A2, n2, c2, A3, n3, c3, rfl, rfl⟩ := hr.forms
  generalize cnt lok deep (.node k m a ls ks) n = r at *
  generalize cntL lok (deep + 1) ks (n + 1) = rl at *
  generalize nodeB lok (.node k m a ls ks) = nb at *
  simp only [Tm.kind, Tm.num, Tm.atN]
  have hw : IntKind.i64.wrap (n + 1) = n + 1 := IntWalk.i64_in _ (by omega)
  have hlt := B.lt
  generalize hw3 : ((W.alloc (.cells #[.int .i64 k, .int .i64 m, .int .i64 a, .slice A2 n2 c2, .slice A3 n3 c3] 27)).alloc (.cells #[.int .i64 deep] 3)).alloc (.cells #[.pointer (some ⟨bn, 0, none⟩)] 82) = W3
  have T3 : Box W3 W.heap.size [.int .i64 k, .int .i64 m, .int .i64 a, .slice A2 n2 c2, .slice A3 n3 c3] := by rw [← hw3]; exact ((Box.new W [_, _, _, _, _] _).alloc _).alloc _
  have D3 : Box W3 (W.heap.size + 1) [.int .i64 deep] := by rw [← hw3]; exact (Box.new' (W.alloc _) [_] _ (by simp)).alloc _
  have P3 : Box W3 (W.heap.size + 2) [.pointer (some ⟨bn, 0, none⟩)] := by rw [← hw3]; exact Box.new' ((W.alloc _).alloc _) [_] _ (by simp)
  have N3 : Box W3 bn [.int .i64 n] := by rw [← hw3]; exact ((B.alloc _).alloc _).alloc _
  have G3 : W.grownBy W3 (some bn) := by rw [← hw3]; exact ((World.grownBy_alloc _ _ _).trans (World.grownBy_alloc _ _ _)).trans (World.grownBy_alloc _ _ _)
  generalize hw4 : W3.setCell ⟨bn, 0, none⟩ (.int .i64 (n + 1)) = W4
  have T4 : Box W4 W.heap.size [.int .i64 k, .int .i64 m, .int .i64 a, .slice A2 n2 c2, .slice A3 n3 c3] := by rw [← hw4]; exact T3.other (by show W.heap.size ≠ bn; omega) _
  have D4 : Box W4 (W.heap.size + 1) [.int .i64 deep] := by rw [← hw4]; exact D3.other (by show W.heap.size + 1 ≠ bn; omega) _
  have P4 : Box W4 (W.heap.size + 2) [.pointer (some ⟨bn, 0, none⟩)] := by rw [← hw4]; exact P3.other (by show W.heap.size + 2 ≠ bn; omega) _
  have N4 : Box W4 bn [.int .i64 (n + 1)] := by rw [← hw4]; exact N3.set 0 _
  have G4 : W.grownBy W4 (some bn) := by rw [← hw4]; exact G3.trans (grown_setCell W3 ⟨bn, 0, none⟩ _)
  have b4 : Below w0.heap.size w0 W4 := hb.grown G4 hb.size (fun q hq => by injection hq with hq; omega)
  obtain ⟨y0, y1, y2, y3, y4⟩ := T4.five
  have yd := D4.cell (j := 0) rfl
  have yp := P4.cell (j := 0) rfl
  have yn := N4.cell (j := 0) rfl
  have zn := N3.cell (j := 0) rfl
  have zp := P3.cell (j := 0) rfl
  have zf := N3.frozen 0
  have hnode4 := hnode W4 b4
  have HD := Lib.hid D4
  have HP := Lib.hid P4
  have HN := Lib.hid N4
  have HG := Lib.hid G4
  have HB4 := Lib.hid b4
  have HW3 := Lib.hid hw3
  have HW4 := Lib.hid hw4
  clear T3 D3 P3 N3 G3 T4 D4 P4 N4 G4 b4 hnode hr hL hK HS B
  by_cases q1 : deep ≤ 400
  · by_cases q2 : n + 1 ≤ 20000
    · cases nb with
      | false =>
        rw [if_neg (by simp)] at hv
        have HV := Lib.hid hv
        clear hv hcont
        go_enter Tryd.func50, Tryd.ntmps50
        go_wp2_with fail
        refine hnode4.mono ?_
        rintro e w5 ⟨rfl, hb5⟩
        have hg5 := HG.out.trans (grown_of_below hb5 (some bn))
        have hN5 := HN.out.below hb5
        have HG5 := Lib.hid hg5
        have HN5 := Lib.hid hN5
        clear hg5 hN5 hb5 hnode4
        go_wp2_with fail
        go_ret
        rw [HV.out]
        exact ⟨rfl, HN5.out, HG5.out⟩
      | true =>
        rw [if_pos ⟨q1, q2, rfl⟩] at hv
        have HV := Lib.hid hv
        clear hv
        go_enter Tryd.func50, Tryd.ntmps50
        go_wp2_with fail
        refine hnode4.mono ?_
        rintro e w5 ⟨rfl, hb5⟩
        have x4 := cell_below hb5 y4
        have hg5 := HG.out.trans (grown_of_below hb5 (some bn))
        have hcont5 := hcont w5 (W.heap.size + 1) (W.heap.size + 2) q1 q2 (HB4.out.trans (hb5.mono HB4.out.size)) (HN.out.below hb5) (HD.out.below hb5) (HP.out.below hb5) (by omega) (by omega)
        have HG5 := Lib.hid hg5
        clear hg5 hb5 hnode4 hcont
        go_wp2_with fail
        refine hcont5.mono ?_
        rintro e w6 ⟨rfl, hB6, hg6⟩
        have HG6 := Lib.hid (HG5.out.trans hg6)
        have HB6 := Lib.hid hB6
        clear hB6 hg6 hcont5
        obtain ⟨rb, rn⟩ := rl
        cases rb <;>
        · go_wp2_with fail
          go_ret
          rw [HV.out]
          exact ⟨rfl, HB6.out, HG6.out⟩
    · rw [if_neg (by rintro ⟨_, h, _⟩; exact q2 h)] at hv
      have HV := Lib.hid hv
      clear hv hcont hnode4
      go_enter Tryd.func50, Tryd.ntmps50
      go_wp2_with fail
      go_ret
      rw [HV.out]
      exact ⟨rfl, HN.out, HG.out⟩
  · rw [if_neg (by rintro ⟨h, _, _⟩; exact q1 h)] at hv
    have HV := Lib.hid hv
    clear hv hcont hnode4
    go_enter Tryd.func50, Tryd.ntmps50
    go_wp2_with fail
    go_ret
    rw [HV.out]
    exact ⟨rfl, HN.out, HG.out⟩

theorem count_all {w0 : World} {lok : Lv → Bool} (hK : Kinds w0) : ∀ M, CountAt w0 lok M
  | 0 => fun _ t _ _ _ _ _ h => absurd (size_pos t) (by omega)
  | M + 1 => count_of hK (count_all hK M)

set_option maxRecDepth 100000 in
theorem right_any (lok : Lv → Bool) (t : Tm) (vl vk : Value) (w : World) (hK : Kinds w) (hr : RT w t vl vk) (hL : LevelOk (lvAll t) lok w) :
    Calls Tryd.prog 20 #[.agg #[.int .i64 t.kind, .int .i64 t.num, .int .i64 t.atN, vl, vk]] w fun e w' => e = .returned (.bool (rightB lok t)) ∧ Below w.heap.size w w' := by
  obtain ⟨A2, n2, c2, A3, n3, c3, rfl, rfl⟩ := hr.forms
  have hcall := fun W (hb : Below w.heap.size w W) (B : Box W (w.heap.size + 1) [.int .i64 0]) => count_all hK (size t) (lok := lok) 1 t _ _ 0 (w.heap.size + 1) W (Nat.le_refl _) hb (by omega) hr hL B (by omega) (by omega) (by omega) (by omega)
  have hv : Hid (rightB lok t = (cnt lok 1 t 0).1) := rfl
  generalize cnt lok 1 t 0 = r at *
  generalize rightB lok t = q at *
  clear hr hL hK
  go_enter Tryd.func20, Tryd.ntmps20
  go_wp2_with fail
  refine (hcall _ ?_ ?_).mono ?_
  · exact (((Below.refl _ _).alloc (Nat.le_refl _) _).alloc (by simp) _)
  · exact Box.new' (w.alloc _) [.int .i64 0] _ (by simp)
  rintro e w1 ⟨rfl, hB, hg⟩
  have hb : Below w.heap.size w w1 := (((Below.refl w.heap.size w).alloc (Nat.le_refl _) _).alloc (by simp) _).grown hg (by simp; omega) (fun q hq => by injection hq with hq; omega)
  clear hB hg hcall
  go_wp2_with fail
  go_ret
  exact ⟨ret_bool hv.out.symm, hb⟩

end Go.Proofs.YtgegaipkfpdocaaDoor
