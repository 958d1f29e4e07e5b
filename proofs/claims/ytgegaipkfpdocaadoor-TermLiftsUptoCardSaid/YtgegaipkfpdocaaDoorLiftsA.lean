/-
  WHAT STANDS at a point of TermLifts. Printed by gen_lifts.py.
-/
import Derived.Test.YtgegaipkfpdocaaDoorLiftsP
import Derived.Test.YtgegaipkfpdocaaDoorLawB
import Derived.Test.YtgegaipkfpdocaaDoorLvs
import Derived.Test.YtgegaipkfpdocaaDoorPut
import Derived.Test.YtgegaipkfpdocaaDoorAwake
namespace Go.Proofs.YtgegaipkfpdocaaDoor
open Go.RowKit
set_option linter.unusedSimpArgs false
set_option linter.unusedVariables false
set_option maxRecDepth 100000

/-- What stands at a point of TermLifts. -/
structure LSt (w : World) (N : Nat) (t u a : Tm) (ls : List Lv) (tl tk ul uk al ak vl : Value) (W : World) : Prop where
  bt : Box W N [.int .i64 t.kind, .int .i64 t.num, .int .i64 t.atN, tl, tk]
  bu : Box W (N + 1) [.int .i64 u.kind, .int .i64 u.num, .int .i64 u.atN, ul, uk]
  ba : Box W (N + 2) [.int .i64 a.kind, .int .i64 a.num, .int .i64 a.atN, al, ak]
  T : RT W t tl tk
  U : RT W u ul uk
  A : RT W a al ak
  L : RLv W ls vl
  K : Kinds W
  Z : Below N w W
theorem LSt.below {w : World} {N : Nat} {t u a : Tm} {ls : List Lv} {tl tk ul uk al ak vl : Value} {W W' : World} (h : LSt w N t u a ls tl tk ul uk al ak vl W) (hN : w.heap.size = N) (hb : Below W.heap.size W W') : LSt w N t u a ls tl tk ul uk al ak vl W' :=
  ⟨h.bt.below hb, h.bu.below hb, h.ba.below hb, h.T.below hb, h.U.below hb, h.A.below hb, h.L.below hb, h.K.below hb, by have := h.Z; subst hN; exact this.trans (hb.mono this.size)⟩
/-- A term in a box. -/
structure TmIn (W : World) (m : Nat) (x : Tm) (vl vk : Value) : Prop where
  b : Box W m [.int .i64 x.kind, .int .i64 x.num, .int .i64 x.atN, vl, vk]
  P : RT W x vl vk
theorem TmIn.below {W W' : World} {m : Nat} {x : Tm} {vl vk : Value} (h : TmIn W m x vl vk) (hb : Below W.heap.size W W') : TmIn W' m x vl vk := ⟨h.b.below hb, h.P.below hb⟩
theorem below_drewT (w : World) : Below w.heap.size w w.drew := (Below.refl _ _).drew
theorem below_chV {W w0 w1 : World} (h0 : Below W.heap.size W w0) (h1 : Below w0.heap.size w0 w1) : Below W.heap.size W w1 := h0.trans (h1.mono h0.size)
theorem one_term (w : World) {a : Tm} {al ak : Value} (h : RT w a al ak) : RKv (w.alloc (.cells #[.int .i64 a.kind, .int .i64 a.num, .int .i64 a.atN, al, ak] 27)) [a] (.slice (some ⟨w.heap.size, 0, none⟩) 1 1) :=
  RKv_one (Box.new w [_, _, _, _, _] _) (h.below ((Below.refl _ _).alloc (Nat.le_refl _) _)) 1 (Nat.le_refl _)
/-- The region of a number. -/
def codeAtT (n : Nat) : Code → Option Code
  | .region i ops d => if i = n then some (.region i ops d) else none
  | .seq a b => match codeAtT n a with | some c => some c | none => codeAtT n b
  | .cond _ a b => match codeAtT n a with | some c => some c | none => codeAtT n b
  | .block _ a => codeAtT n a
  | .loop a => codeAtT n a
  | .rangeFunc _ _ _ b => codeAtT n b
  | .scope a => codeAtT n a
  | _ => none
theorem wp_plainT {P : Program} {c : Code} {Q : Exit → Act → World → Prop} {a : Act} {w : World} (h : c.wp P (Exit.then (fun a' w' => Q .normal a' w') fun _ _ _ => False) a w) : c.wp P Q a w :=
  Code.wp_mono (fun e a w q => by cases e <;> first | exact q | exact q.elim) h

end Go.Proofs.YtgegaipkfpdocaaDoor
