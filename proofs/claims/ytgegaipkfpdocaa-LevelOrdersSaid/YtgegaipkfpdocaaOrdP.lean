/-
  WHAT STANDS at a point of LevelOrders. Printed by gen_ord.py.
-/
import Derived.Test.YtgegaipkfpdocaaAppL
namespace Go.Proofs.Ytgegaipkfpdocaa
open Go.RowKit Go.Maps
set_option linter.unusedSimpArgs false
set_option linter.unusedVariables false
set_option maxRecDepth 100000

/-- What stands at a point of LevelOrders. -/
structure OSt (w : World) (N : Nat) (a b c : Lv) (bs : List Lv) (va vb vc vv : Value) (W : World) : Prop where
  q0 : W.cell? ⟨N, 0, none⟩ = some va
  q1 : W.cell? ⟨N + 1, 0, none⟩ = some vb
  q2 : W.cell? ⟨N + 2, 0, none⟩ = some vc
  A : RPv W a va
  B : RPv W b vb
  C : RPv W c vc
  Y : RLv W bs vv
  Z : Below N w W
theorem OSt.below {w : World} {N : Nat} {a b c : Lv} {bs : List Lv} {va vb vc vv : Value} {W W' : World} (h : OSt w N a b c bs va vb vc vv W) (hN : w.heap.size = N) (hb : Below W.heap.size W W') : OSt w N a b c bs va vb vc vv W' :=
  ⟨cell_below hb h.q0, cell_below hb h.q1, cell_below hb h.q2, h.A.below hb, h.B.below hb, h.C.below hb, h.Y.below hb, by have := h.Z; subst hN; exact below_chV this hb⟩
/-- A level in a box. -/
structure LvIn (W : World) (m : Nat) (x : Lv) (v : Value) : Prop where
  q : W.cell? ⟨m, 0, none⟩ = some v
  P : RPv W x v
theorem LvIn.below {W W' : World} {m : Nat} {x : Lv} {v : Value} (h : LvIn W m x v) (hb : Below W.heap.size W W') : LvIn W' m x v := ⟨cell_below hb h.q, h.P.below hb⟩
theorem small_all {bs : List Lv} {k : Nat} {l : Lv} (h : ∀ x ∈ bs.take k, SmP x) (hk : bs[k]? = some l) (hl : SmP l) : ∀ x ∈ bs.take (k + 1), SmP x := by
  rw [List.take_add_one, hk]
  intro x hx
  rcases List.mem_append.1 hx with hx | hx
  · exact h x hx
  · obtain rfl := List.mem_singleton.1 hx
    exact hl
theorem newsL_below {w w1 : World} (hb : Below w.heap.size w w1) {v : Value} {m n : Nat} {news : List Value} (h : (v = .slice none 0 0 ∧ m = 0 ∧ news = []) ∨ ∃ ad c, v = .slice (some ad) m c ∧ news.length = n ∧ (∀ j u, news[j]? = some u → w.cell? (ad.add j) = some u) ∧ ∀ u ∈ news, u.oneCell' = true) :
    (v = .slice none 0 0 ∧ m = 0 ∧ news = []) ∨ ∃ ad c, v = .slice (some ad) m c ∧ news.length = n ∧ (∀ j u, news[j]? = some u → w1.cell? (ad.add j) = some u) ∧ ∀ u ∈ news, u.oneCell' = true := by
  rcases h with h | ⟨ad, c, e, h1, h2, h3⟩
  · exact .inl h
  · exact .inr ⟨ad, c, e, h1, fun j u hj => (hb.cell (World.block_lt_of_cell? w _ (h2 j u hj))).trans (h2 j u hj), h3⟩
/-- A call whose value does not hang on the world. -/
abbrev FixedO (WX : World) (f : FuncId) (args : Array Value) (v : Value) : Prop := ∀ W', Below WX.heap.size WX W' → Calls Try.prog f args W' fun e w' => e = .returned v ∧ Below WX.heap.size WX w'
theorem FixedO.mk {WX : World} {f : FuncId} {args : Array Value} {v : Value} (h : ∀ W', Below WX.heap.size WX W' → Calls Try.prog f args W' fun e w' => e = .returned v ∧ Below W'.heap.size W' w') : FixedO WX f args v :=
  fun W' hb => (h W' hb).mono fun e w' ⟨he, hb'⟩ => ⟨he, hb.trans (hb'.mono hb.size)⟩
theorem below_drewO (w : World) : Below w.heap.size w w.drew := (Below.refl _ _).drew

/-- The region of a number. -/
def codeAtO (n : Nat) : Code → Option Code
  | .region i ops d => if i = n then some (.region i ops d) else none
  | .seq a b => match codeAtO n a with | some c => some c | none => codeAtO n b
  | .cond _ a b => match codeAtO n a with | some c => some c | none => codeAtO n b
  | .block _ a => codeAtO n a
  | .loop a => codeAtO n a
  | .rangeFunc _ _ _ b => codeAtO n b
  | .scope a => codeAtO n a
  | _ => none
theorem wp_plainO {P : Program} {c : Code} {Q : Exit → Act → World → Prop} {a : Act} {w : World} (h : c.wp P (Exit.then (fun a' w' => Q .normal a' w') fun _ _ _ => False) a w) : c.wp P Q a w :=
  Code.wp_mono (fun e a w q => by cases e <;> first | exact q | exact q.elim) h

end Go.Proofs.Ytgegaipkfpdocaa
