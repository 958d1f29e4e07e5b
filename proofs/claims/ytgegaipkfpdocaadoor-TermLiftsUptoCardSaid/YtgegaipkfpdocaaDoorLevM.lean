/-
  THE MAP OF A LEVEL AT WORK: a map that reads as a row that rises; how it moves; what a part more makes of it.
-/
import Derived.Test.YtgegaipkfpdocaaDoorLevP
import Derived.Maps.RangeWalk
import Derived.Maps.OwnOps
import Derived.Lib.SlKeysI
namespace Go.Proofs.YtgegaipkfpdocaaDoor
open Go.RowKit Go.Maps

theorem klaw : Keyed Tryd.prog 3 := int_keyed Tryd.underlying3
theorem zeroI (w : World) : (zeroValue 3).run Tryd.prog w = .ok (.int .i64 0) w := by kernel_rfl

def ReadsR (D : DataW Unit) (r : Lv) : Prop := Tidy D ∧ (∀ v, Maps.has D (.int .i64 v) = r.any (fun q => q.1 == v)) ∧ ∀ q ∈ r, ∀ z, D.atKey (.int .i64 q.1) z = .lit (.int .i64 q.2)
def MapR (w : World) (mb : Nat) (r : Lv) : Prop := ∃ (D : DataW Unit) (n : Nat), w.ownsMap Tryd.prog 3 (plainElem Tryd.prog 3) mb n D ∧ n ≤ 1048577 ∧ ReadsR D r ∧ RiseP r ∧ GoodP r

theorem ReadsR.nil : ReadsR (.map []) [] := ⟨tidy_empty, fun _ => rfl, fun _ h => by cases h⟩
theorem lit_ne {a b : Int} (h : a ≠ b) : (Lit.int .i64 a) ≠ .int .i64 b := fun e => h (by injection e)
/-- What is looked up. -/
theorem ReadsR.look {D : DataW Unit} {r : Lv} (h : ReadsR D r) {v c : Int} (hc : D.atKey (.int .i64 v) (.lit (.int .i64 0)) = .lit (.int .i64 c)) : (v, c) ∈ r ∨ ((∀ q ∈ r, q.1 ≠ v) ∧ c = 0) := by
  by_cases hv : ∃ q ∈ r, q.1 = v
  · obtain ⟨q, hq, rfl⟩ := hv
    rw [h.2.2 q hq] at hc
    left
    have : q.2 = c := by injection hc with hc; injection hc
    rw [← this]; exact hq
  · right
    have hn : ∀ q ∈ r, q.1 ≠ v := fun q hq e => hv ⟨q, hq, e⟩
    refine ⟨hn, ?_⟩
    have h1 : Maps.has D (.int .i64 v) = false := by
      rw [h.2.1, List.any_eq_false]
      intro q hq; simpa using hn q hq
    rw [atKey_of_not_has h1] at hc
    injection hc with hc; injection hc with _ hc; exact hc.symm
theorem ReadsR.put {D : DataW Unit} {r : Lv} (h : ReadsR D r) (hr : RiseP r) {p : Int × Int} (hp : 0 ≤ p.2) {c : Int} (hc : D.atKey (.int .i64 p.1) (.lit (.int .i64 0)) = .lit (.int .i64 c)) :
    ReadsR (D.put (.int .i64 p.1) (.lit (.int .i64 (max c p.2)))) (insP p r) := by
  have hk : WideAt.IsKeyLit (Lit.int .i64 p.1) := trivial
  refine ⟨h.1.put hk _, fun v => ?_, fun q hq z => ?_⟩
  · by_cases hv : v = p.1
    · subst hv
      rw [has_put_same h.1.isMap hk]
      obtain ⟨m, hm⟩ := insP_has p r
      exact (List.any_eq_true.2 ⟨_, hm, by simp⟩).symm
    · rw [has_put_other (lit_ne hv), h.2.1, Bool.eq_iff_iff, List.any_eq_true, List.any_eq_true]
      constructor
      · rintro ⟨q, hq, e⟩
        have e' : q.1 = v := by simpa using e
        exact ⟨q, (insP_other (by rw [e']; exact hv)).2 hq, e⟩
      · rintro ⟨q, hq, e⟩
        have e' : q.1 = v := by simpa using e
        exact ⟨q, (insP_other (by rw [e']; exact hv)).1 hq, e⟩
  · by_cases hv : q.1 = p.1
    · rw [hv, atKey_put_same h.1.isMap hk]
      rcases h.look hc with hm | ⟨hn, rfl⟩
      · have e := (insP_rise (p := p) hr).one hq (insP_hit hr hm) hv
        rw [e, Int.max_comm]
      · have e := (insP_rise (p := p) hr).one hq (insP_new hn) hv
        rw [e]
        have : max 0 p.2 = p.2 := by omega
        rw [this]
    · rw [atKey_put_other (lit_ne hv)]
      exact h.2.2 q ((insP_other hv).1 hq) z

theorem rise_nodup {r : Lv} (h : RiseP r) : (r.map (·.1)).Nodup := List.pairwise_map.2 (h.imp fun {a b} hab e => by omega)
theorem rise_length : ∀ {r : Lv} {lo hi : Int}, RiseP r → (∀ p ∈ r, lo ≤ p.1 ∧ p.1 ≤ hi) → lo ≤ hi + 1 → (r.length : Int) ≤ hi + 1 - lo
  | [], lo, hi, _, _, h => by simp; omega
  | p :: r, lo, hi, hr, hb, h => by
    have hr' := List.pairwise_cons.1 hr
    have hp := hb p (by simp)
    have := rise_length (lo := p.1 + 1) (hi := hi) hr'.2 (fun q hq => ⟨by have := hr'.1 q hq; omega, (hb q (by simp [hq])).2⟩) (by omega)
    simp only [List.length_cons, Int.natCast_add, Int.natCast_one]
    omega
section
variable {w : World} {mb n : Nat} {D : DataW Unit} {r : Lv}
theorem reads_perm (hown : w.ownsMap Tryd.prog 3 (plainElem Tryd.prog 3) mb n D) (hD : ReadsR D r) (hr : RiseP r) : (r.map (·.1)).Perm (intKeys D) := by
  obtain ⟨es, hDe, hpw, _⟩ := hown.entries klaw
  obtain ⟨es', hD', hko⟩ := hown.keysOf
  obtain rfl : es = es' := by rw [hDe] at hD'; simpa using hD'
  subst hDe
  refine perm_intKeys hpw (fun p hp => by obtain ⟨v, hv⟩ := hko p hp; obtain ⟨x, _, hx, _⟩ := Maps.keyOf_i64 Tryd.underlying3 hv; exact ⟨x, hx⟩) (rise_nodup hr) fun x => ?_
  rw [hD.2.1, List.any_eq_true, List.mem_map]
  simp
theorem reads_size (hown : w.ownsMap Tryd.prog 3 (plainElem Tryd.prog 3) mb n D) (hD : ReadsR D r) (hr : RiseP r) : Maps.size D = r.length := by
  have h := (reads_perm hown hD hr).length_eq
  obtain ⟨es, rfl, _, _⟩ := hown.entries klaw
  simpa [intKeys, Maps.size] using h.symm
theorem owns_tight (hown : w.ownsMap Tryd.prog 3 (plainElem Tryd.prog 3) mb n D) : w.ownsMap Tryd.prog 3 (plainElem Tryd.prog 3) mb (Maps.size D) D := by
  obtain ⟨es, clock, hb, F, hs, rfl⟩ := hown
  refine ⟨es, clock, hb, F, ?_, rfl⟩
  rw [Maps.size_eq, length_sorted]
  simp
theorem good_length (hr : RiseP r) (hg : GoodP r) : r.length ≤ 1048577 := by
  have := rise_length (lo := 0) (hi := 1048576) hr (fun p hp => by have := hg p hp; omega) (by omega)
  omega
theorem MapR.mk (hown : w.ownsMap Tryd.prog 3 (plainElem Tryd.prog 3) mb n D) (hD : ReadsR D r) (hr : RiseP r) (hg : GoodP r) : MapR w mb r :=
  ⟨D, Maps.size D, owns_tight hown, by rw [reads_size hown hD hr]; exact good_length hr hg, hD, hr, hg⟩
theorem MapR.rise (h : MapR w mb r) : RiseP r := by obtain ⟨_, _, _, _, _, h, _⟩ := h; exact h
theorem MapR.good (h : MapR w mb r) : GoodP r := by obtain ⟨_, _, _, _, _, _, h⟩ := h; exact h
theorem MapR.lt (h : MapR w mb r) : mb < w.heap.size := by obtain ⟨_, _, h, _⟩ := h; exact h.lt
theorem MapR.kept {w' : World} {row : Option Nat} (h : MapR w mb r) (hg : w.grownBy w' row) (hne : some mb ≠ row) : MapR w' mb r := by
  obtain ⟨D, n, h1, h2⟩ := h
  exact ⟨D, n, h1.kept hg hne, h2⟩
theorem MapR.alloc (h : MapR w mb r) (o : Obj) : MapR (w.alloc o) mb r := h.kept (World.grownBy_alloc w o none) (by simp)
theorem MapR.below {w' : World} (h : MapR w mb r) (hb : Below w.heap.size w w') : MapR w' mb r := by
  have hlt := h.lt
  obtain ⟨D, n, ⟨es, clock, h0, h1⟩, h2⟩ := h
  exact ⟨D, n, ⟨es, clock, (hb.block mb hlt).trans h0, h1⟩, h2⟩
theorem MapR.noCell (h : MapR w mb r) (o : Nat) : w.cell? ⟨mb, o, none⟩ = none := by
  obtain ⟨D, n, ⟨es, clock, h0, h1⟩, h2⟩ := h
  simp [World.cell?, h0]
end
theorem MapR.made (w : World) : MapR (w.alloc (.map #[] 0)) w.heap.size [] :=
  ⟨.map [], 0, World.ownsMap_made _ _ _ _, by omega, ReadsR.nil, List.Pairwise.nil, fun _ h => by cases h⟩

/-! What is read lies in cells: a map that turns leaves it. -/
theorem RP.byCells {w w1 : World} {b : Nat} (hc : ∀ o v, w.cell? ⟨b, o, none⟩ = some v → w1.cell? ⟨b, o, none⟩ = some v) : ∀ {o : Nat} {ps : Lv}, RP w b o ps → RP w1 b o ps
  | _, [], _ => trivial
  | _, _ :: _, ⟨⟨h1, h2⟩, h3⟩ => ⟨⟨hc _ _ h1, hc _ _ h2⟩, RP.byCells hc h3⟩
theorem RPv.byCells {w w1 : World} (hc : ∀ b o v, w.cell? ⟨b, o, none⟩ = some v → w1.cell? ⟨b, o, none⟩ = some v) {ps : Lv} {v : Value} (h : RPv w ps v) : RPv w1 ps v := by
  obtain ⟨A, c, e, h1, h2, h3⟩ := h
  refine ⟨A, c, e, h1, h2, fun hp => ?_⟩
  obtain ⟨b, o, eA, h⟩ := h3 hp
  exact ⟨b, o, eA, h.byCells (hc b)⟩
theorem RL.byCells {w w1 : World} (hc : ∀ b o v, w.cell? ⟨b, o, none⟩ = some v → w1.cell? ⟨b, o, none⟩ = some v) {b : Nat} : ∀ {o : Nat} {ls : List Lv}, RL w b o ls → RL w1 b o ls
  | _, [], _ => trivial
  | _, _ :: _, ⟨⟨v, h1, h2⟩, h3⟩ => ⟨⟨v, hc _ _ _ h1, h2.byCells hc⟩, RL.byCells hc h3⟩
theorem RLv.byCells {w w1 : World} (hc : ∀ b o v, w.cell? ⟨b, o, none⟩ = some v → w1.cell? ⟨b, o, none⟩ = some v) {ls : List Lv} {v : Value} (h : RLv w ls v) : RLv w1 ls v := by
  obtain ⟨A, c, e, h1, h2, h3⟩ := h
  refine ⟨A, c, e, h1, h2, fun hp => ?_⟩
  obtain ⟨b, o, eA, h⟩ := h3 hp
  exact ⟨b, o, eA, h.byCells hc⟩
/-- Only the map mb turns, and new blocks are laid. -/
abbrev Turns (mb : Nat) (w w' : World) : Prop := w.grownBy w' (some mb)
theorem turn_cell {w w' : World} {mb : Nat} {r : Lv} (hm : MapR w mb r) (h : Turns mb w w') : ∀ b o v, w.cell? ⟨b, o, none⟩ = some v → w'.cell? ⟨b, o, none⟩ = some v := by
  intro b o v hc
  refine h.cell hc fun e => ?_
  have : b = mb := by injection e
  subst this
  rw [hm.noCell] at hc; cases hc
theorem Box.turn {w w' : World} {b mb : Nat} {vs : List Value} (hB : Box w b vs) (h : Turns mb w w') (hne : b ≠ mb) : Box w' b vs := hB.move (h.block b hB.lt fun e => hne (by injection e))
theorem Turns.below {w w' : World} {B mb : Nat} (h : Turns mb w w') (hB : B ≤ w.heap.size) (hm : B ≤ mb) : Below B w w' := (Below.refl B w).grown h hB (fun k e => by injection e with e; omega)
theorem Turns.trans' {w w1 w2 : World} {mb : Nat} (h : Turns mb w w1) (h2 : Turns mb w1 w2) : Turns mb w w2 := h.andThen h2 fun j e => by injection e with e; exact .inr (by rw [e])
theorem Turns.of_below {w w1 w2 : World} {mb : Nat} (h : Turns mb w w1) (h2 : Below w1.heap.size w1 w2) : Turns mb w w2 :=
  h.andThen (row' := none) ⟨h2.os, h2.tape, h2.output, h2.size, fun k hk _ => h2.block k hk⟩ fun j e => by cases e
theorem Turns.alloc {w w1 : World} {mb : Nat} (h : Turns mb w w1) (o : Obj) : Turns mb w (w1.alloc o) := h.of_below ((Below.refl _ _).alloc (Nat.le_refl _) o)

end Go.Proofs.YtgegaipkfpdocaaDoor
