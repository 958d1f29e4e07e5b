/-
  THE WALK OF THE SEARCH WITHIN term.count, OF term.count AND OF term.Right.
-/
import Derived.Test.YtajpkhkfffdclaaDoorCnt
namespace Go.Proofs.YtajpkhkfffdclaaDoor
open Go.RowKit

theorem cntL_drop {lok : Lv → Bool} {deep : Int} {ts : List Tm} {j : Nat} {t : Tm} (h : ts[j]? = some t) (n : Int) :
    cntL lok deep (ts.drop j) n = if (cnt lok deep t n).1 = true then cntL lok deep (ts.drop (j + 1)) (cnt lok deep t n).2 else (false, (cnt lok deep t n).2) := by
  obtain ⟨hj, rfl⟩ := List.getElem?_eq_some_iff.1 h
  rw [List.drop_eq_getElem_cons hj]
  simp only [cntL]

/-- A search's answer, with the counter that it leaves. -/
def FoundN (bn : Nat) (r : Bool × Int) (w : World) (e : Ending) (w' : World) : Prop := ∃ i : Int, e = .returned (.int .i64 i) ∧ (if r.1 then i = -1 else 0 ≤ i) ∧ Box w' bn [.int .i64 r.2] ∧ w.grownBy w' (some bn)

set_option maxRecDepth 100000 in
set_option maxHeartbeats 1600000 in
theorem indexT_of {w0 : World} {lok : Lv → Bool} {M : Nat} (HS : CountAt w0 lok M) (deep : Int) (ts : List Tm) (v : Value) (n : Int) (bn bd bp : Nat) (W : World) (hM : sizeL ts ≤ M) (hb : Below w0.heap.size w0 W) (hbn : w0.heap.size ≤ bn)
    (hr : RKv w0 ts v) (hL : LevelOk (lvAllL ts) lok w0) (B : Box W bn [.int .i64 n]) (hD : Box W bd [.int .i64 deep]) (hP : Box W bp [.pointer (some ⟨bn, 0, none⟩)]) (h0 : 0 ≤ n) (h1 : n ≤ 20000) (hd0 : 0 ≤ deep) (hd1 : deep ≤ 400)
    (hnd : bd ≠ bn) (hnp : bp ≠ bn) :
    Calls Tryd.prog 118 #[v, .func (.func 104) #[] #[.pointer (some ⟨bd, 0, none⟩), .pointer (some ⟨bp, 0, none⟩)]] W (FoundN bn (cntL lok (deep + 1) ts n) W) := by
  obtain ⟨A, c, rfl, hc, hm, hx⟩ := hr
  generalize hnn : ts.length = l at *
  have HN := Lib.hid hnn
  have HX := Lib.hid hx
  have HL := Lib.hid hL
  have HB := Lib.hid B
  have HD := Lib.hid hD
  have HP := Lib.hid hP
  have HHB := Lib.hid hb
  clear hnn hx hL B hD hP hb
  go_enter Tryd.func118, Tryd.ntmps118
  go_wp2_with fail
  go_loopw [5, 8] (fun _ i wr => ∃ (j : Nat) (m : Int), j ≤ l ∧ i = .int .i64 j ∧ 0 ≤ m ∧ m ≤ 20000 ∧ Hid (cntL lok (deep + 1) ts n = cntL lok (deep + 1) (ts.drop j) m) ∧ Hid (Box wr bn [.int .i64 m]) ∧ Hid (W.grownBy wr (some bn))) (fun _ i _ => l - (intOf i).toNat)
  case atStart => exact ⟨0, n, Nat.zero_le _, rfl, h0, h1, rfl, HB.out, (⟨rfl, rfl, rfl, Nat.le_refl _, fun _ _ _ => rfl⟩ : W.grownBy W (some bn))⟩
  case round =>
    obtain ⟨j, m, hj, rfl, hm0, hm1, hp, hB, hg⟩ := hrel
    by_cases hlt : j < l
    · obtain ⟨b, o, rfl, hc⟩ := HX.out (by omega)
      obtain ⟨t, ht⟩ : ∃ t, ts[j]? = some t := ⟨_, List.getElem?_eq_getElem (by have := HN.out; omega)⟩
      have hbr : Below w0.heap.size w0 wr := HHB.out.grown hg.out HHB.out.size (fun q hq => by injection hq with hq; omega)
      obtain ⟨kl, kv, x1, x2, x3, x4, x5, hx⟩ := hc.get ht
      replace x1 := cell_below hbr x1
      replace x2 := cell_below hbr x2
      replace x3 := cell_below hbr x3
      replace x4 := cell_below hbr x4
      replace x5 := cell_below hbr x5
      have hcall := count1_of HS deep t kl kv m bn bd bp wr (Nat.le_trans (size_at ht) hM) hbr hbn hx (fun l v W' hl => HL.out l v W' (lvAll_at ht l hl)) hB.out ((HD.out.far hg.out (by intro e; injection e; exact hnd ‹_›)).cell rfl) ((HP.out.far hg.out (by intro e; injection e; exact hnp ‹_›)).cell rfl) hm0 hm1 hd0 hd1
      obtain ⟨A6, n6, c6, A7, n7, c7, rfl, rfl⟩ := hx.forms
      have hlt' : (j : Int) < (l : Int) := by omega
      have hj0 : (0 : Int) ≤ (j : Int) := by omega
      have hd := cntL_drop (lok := lok) (deep := deep + 1) ht m
      have hbd := cnt_bd lok (deep + 1) t m hm0 hm1
      have HBR := Lib.hid hbr
      clear hc hx ht HX HL hbr HS
      generalize cnt lok (deep + 1) t m = r at *
      obtain ⟨rb, rn⟩ := r
      cases rb with
      | true =>
        rw [if_pos rfl] at hd
        have HDD := Lib.hid (hp.out.trans hd)
        obtain ⟨hb0, -, hb1⟩ := hbd
        replace hb1 := hb1 rfl
        simp only at hb0 hb1 hcall
        clear hd
        go_wp2_with fail
        refine hcall.mono ?_
        rintro e w1 ⟨rfl, hB1, hg1⟩
        have HB1 := Lib.hid hB1
        have HG1 := Lib.hid (hg.out.trans hg1)
        clear hB1 hg1 hcall
        go_wp2_with fail
        go_roundw
        case rel => exact ⟨j + 1, rn, by omega, by go_num, hb0, hb1, HDD, HB1, HG1⟩
        case measure => simp [intOf]; omega
      | false =>
        rw [if_neg (by simp)] at hd
        have HDD := Lib.hid (hp.out.trans hd)
        clear hd hbd
        go_wp2_with fail
        refine hcall.mono ?_
        rintro e w1 ⟨rfl, hB1, hg1⟩
        have HB1 := Lib.hid hB1
        have HG1 := Lib.hid (hg.out.trans hg1)
        clear hB1 hg1 hcall
        go_wp2_with fail
        go_ret
        rw [HDD.out]
        exact ⟨j, rfl, hj0, HB1.out, HG1.out⟩
    · obtain rfl : j = l := by omega
      have hd : cntL lok (deep + 1) ts n = (true, m) := by rw [hp.out, List.drop_of_length_le (by have := HN.out; omega)]; simp only [cntL]
      have HDD := Lib.hid hd
      clear hd HX HL HS
      go_wp2_with fail
      go_ret
      rw [HDD.out]
      exact ⟨-1, rfl, rfl, hB.out, hg.out⟩

theorem containsT_of {w0 : World} {lok : Lv → Bool} {M : Nat} (HS : CountAt w0 lok M) (deep : Int) (ts : List Tm) (v : Value) (n : Int) (bn bd bp : Nat) (W : World) (hM : sizeL ts ≤ M) (hb : Below w0.heap.size w0 W) (hbn : w0.heap.size ≤ bn)
    (hr : RKv w0 ts v) (hL : LevelOk (lvAllL ts) lok w0) (B : Box W bn [.int .i64 n]) (hD : Box W bd [.int .i64 deep]) (hP : Box W bp [.pointer (some ⟨bn, 0, none⟩)]) (h0 : 0 ≤ n) (h1 : n ≤ 20000) (hd0 : 0 ≤ deep) (hd1 : deep ≤ 400)
    (hnd : bd ≠ bn) (hnp : bp ≠ bn) :
    Calls Tryd.prog 103 #[v, .func (.func 104) #[] #[.pointer (some ⟨bd, 0, none⟩), .pointer (some ⟨bp, 0, none⟩)]] W
      (Counted bn (!(cntL lok (deep + 1) ts n).1, (cntL lok (deep + 1) ts n).2) W) := by
  have hcall := indexT_of HS deep ts v n bn bd bp W hM hb hbn hr hL B hD hP h0 h1 hd0 hd1 hnd hnp
  obtain ⟨A, m, c, rfl⟩ : ∃ A n c, v = .slice A n c := by obtain ⟨A, c, e, _⟩ := hr; exact ⟨A, _, c, e⟩
  generalize cntL lok (deep + 1) ts n = r at *
  obtain ⟨rb, rn⟩ := r
  clear HS hr hL B hD hP hb
  go_enter Tryd.func103, Tryd.ntmps103
  go_wp2_with fail
  refine hcall.mono ?_
  rintro e w1 ⟨i, rfl, hi, hB, hg⟩
  have HI := Lib.hid hi
  have HB := Lib.hid hB
  have HG := Lib.hid hg
  clear hi hB hg hcall
  by_cases h0 : 0 ≤ i
  · go_wp2_with fail
    go_ret
    refine ⟨ret_bool ?_, HB.out, HG.out⟩
    have := HI.out
    cases rb <;> simp_all
    try omega
  · go_wp2_with fail
    go_ret
    refine ⟨ret_bool ?_, HB.out, HG.out⟩
    have := HI.out
    cases rb <;> simp_all
    try omega

end Go.Proofs.YtajpkhkfffdclaaDoor
