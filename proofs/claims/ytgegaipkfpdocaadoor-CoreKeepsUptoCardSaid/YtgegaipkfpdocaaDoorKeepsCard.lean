/-
  CoreKeeps holds of every input, where the arguments together are of bulk at most 1048576 (the condition of the given statement); the table of kinds holds what the program's initialiser lays.
-/
import Derived.Test.YtgegaipkfpdocaaDoorCards
import Derived.Test.YtgegaipkfpdocaaDoorTie
import Derived.Test.YtgegaipkfpdocaaDoorKeeps
import Derived.Test.YtgegaipkfpdocaaDoorKinds
import Derived.ProofKit
import Derived.OpenShut
import Derived.Deep.DeepHandedRow
namespace Go.Proofs.YtgegaipkfpdocaaDoor.coreKeeps
open Go.ChangeShapes Go.WideShapes Go.ChangeAt Go.RowKit Go.Deep

theorem own : ownKnob Tryd.prog.godebug = none := by kernel_rfl

section
variable {H : Type} {enc : TypeId × Value → H} {w : World} {base : Nat} {spare : Nat → Bool} {held : Bool}
theorem ints_in {n b : Nat} : ∀ (es : List (DataW H)) (o : Nat), (∀ i y, es[i]? = some y → ∃ cs' pl, DataW.trod enc Tryd.prog w base spare held n 3 cs' = some (y, pl) ∧ ∀ j, j < 1 → w.cell? ⟨b, o + (i * 1 + j), none⟩ = cs'[j]?) →
    ∃ xs : List Int, xs.length = es.length ∧ ∀ (i : Nat) x, xs[i]? = some x → w.cell? ⟨b, o + i, none⟩ = some (.int .i64 x)
  | [], _, _ => ⟨[], rfl, fun i x h => by simp at h⟩
  | y :: es, o, h => by
    obtain ⟨xs, hl, hr⟩ := ints_in es (o + 1) (fun i y hy => by
      obtain ⟨cs', pl, h1, h2⟩ := h (i + 1) y (by simpa using hy)
      exact ⟨cs', pl, h1, fun j hj => by rw [← h2 j hj]; congr 2; omega⟩)
    obtain ⟨cs', pl, h1, h2⟩ := h 0 y rfl
    obtain ⟨z, rfl, _, _⟩ := DataW.trod_int Tryd.underlying3 h1
    refine ⟨z :: xs, by simp [hl], fun i x hi => ?_⟩
    cases i with
    | zero =>
      simp only [List.getElem?_cons_zero, Option.some.injEq] at hi
      subst hi
      simpa using h2 0 (by omega)
    | succ i =>
      have := hr i x (by simpa using hi)
      rwa [show o + 1 + i = o + (i + 1) by omega] at this
set_option maxRecDepth 100000 in
theorem ints_arg {r : Reach} {b0 : Nat} {v : Value} {d : DataW H} {p : List MemPlace} (hv : Value.okWide Tryd.prog w r b0 22 v) (h : DataW.Trod enc Tryd.prog w base spare held 22 v d p) (hb : Rows.uptoBulk d ≤ 1048576) :
    ∃ xs, RIv w xs v ∧ (∀ n c, v = .slice none n c → c = 0) ∧ xs.length ≤ 1048576 := by
  obtain ⟨A, len, cap, rfl⟩ := okWide_slice Tryd.underlying22 hv
  obtain ⟨fuel, hf⟩ := h
  have hC : Tryd.prog.cellsOf 3 = 1 := by kernel_rfl
  obtain ⟨A', len', cap', n', es, hn', hv', hlc, hnil, hes, hbk, hget⟩ := slice_at Tryd.underlying22 (by rw [hC]; omega) hf
  simp only [Value.cells] at hv'
  injection hv' with hv' _
  obtain ⟨rfl, rfl, rfl⟩ := Value.slice.inj hv'
  rw [hC] at hget
  have hlen := bulk_len es
  simp only at hbk
  have hz : ∀ n c, Value.slice A len cap = .slice none n c → c = 0 := fun n c e => by obtain ⟨e1, e2, e3⟩ := Value.slice.inj e; subst e3; exact hnil e1
  by_cases hp : 0 < len
  · obtain ⟨b, o, rfl, hg⟩ := hget hp
    obtain ⟨xs, hl, hr⟩ := ints_in es o hg
    obtain rfl : len = xs.length := by omega
    exact ⟨xs, ⟨_, _, rfl, hlc, by omega, fun _ => ⟨b, o, rfl, hr⟩⟩, hz, by omega⟩
  · obtain rfl : len = 0 := by omega
    exact ⟨[], ⟨_, _, rfl, Nat.zero_le _, Nat.zero_le _, fun h => by simp at h⟩, hz, Nat.zero_le _⟩
set_option maxRecDepth 100000 in
theorem int_arg {r : Reach} {b0 : Nat} {v : Value} {d : DataW H} {p : List MemPlace} (hv : Value.okWide Tryd.prog w r b0 3 v) (h : DataW.Trod enc Tryd.prog w base spare held 3 v d p) : ∃ x, v = .int .i64 x := by
  obtain ⟨x, rfl, _⟩ := open_int Tryd.underlying3 hv h
  exact ⟨x, rfl⟩
end

theorem trodAll_eight {H : Type} {enc : TypeId × Value → H} {P : Program} {w : World} {base : Nat} {spare : Nat → Bool} {held : Bool} {t0 t1 t2 t3 t4 t5 t6 t7 : TypeId} {args : Array Value} {ds : List (DataW H)} {ps : List MemPlace} (h : DataW.TrodAll enc P w base spare held [t0, t1, t2, t3, t4, t5, t6, t7] args.toList ds ps) :
    ∃ v0 v1 v2 v3 v4 v5 v6 v7 d0 d1 d2 d3 d4 d5 d6 d7 p0 p1 p2 p3 p4 p5 p6 p7, args = #[v0, v1, v2, v3, v4, v5, v6, v7] ∧ ds = [d0, d1, d2, d3, d4, d5, d6, d7] ∧ DataW.Trod enc P w base spare held t0 v0 d0 p0 ∧ DataW.Trod enc P w base spare held t1 v1 d1 p1 ∧ DataW.Trod enc P w base spare held t2 v2 d2 p2 ∧ DataW.Trod enc P w base spare held t3 v3 d3 p3 ∧ DataW.Trod enc P w base spare held t4 v4 d4 p4 ∧ DataW.Trod enc P w base spare held t5 v5 d5 p5 ∧ DataW.Trod enc P w base spare held t6 v6 d6 p6 ∧ DataW.Trod enc P w base spare held t7 v7 d7 p7 := by
  obtain ⟨v0, vs0, d0, ds0, p0, q0, hargs, rfl, rfl, h0, r0⟩ := trodAll_cons h
  obtain ⟨v1, vs1, d1, ds1, p1, q1, rfl, rfl, rfl, h1, r1⟩ := trodAll_cons r0
  obtain ⟨v2, vs2, d2, ds2, p2, q2, rfl, rfl, rfl, h2, r2⟩ := trodAll_cons r1
  obtain ⟨v3, vs3, d3, ds3, p3, q3, rfl, rfl, rfl, h3, r3⟩ := trodAll_cons r2
  obtain ⟨v4, vs4, d4, ds4, p4, q4, rfl, rfl, rfl, h4, r4⟩ := trodAll_cons r3
  obtain ⟨v5, vs5, d5, ds5, p5, q5, rfl, rfl, rfl, h5, r5⟩ := trodAll_cons r4
  obtain ⟨v6, vs6, d6, ds6, p6, q6, rfl, rfl, rfl, h6, r6⟩ := trodAll_cons r5
  obtain ⟨v7, vs7, d7, ds7, p7, q7, rfl, rfl, rfl, h7, r7⟩ := trodAll_cons r6
  obtain ⟨rfl, rfl, rfl⟩ := trodAll_nil r7
  obtain ⟨l⟩ := args
  simp only at hargs
  subst hargs
  exact ⟨v0, v1, v2, v3, v4, v5, v6, v7, d0, d1, d2, d3, d4, d5, d6, d7, p0, p1, p2, p3, p4, p5, p6, p7, rfl, rfl, h0, h1, h2, h3, h4, h5, h6, h7⟩

set_option maxRecDepth 100000 in
theorem contract (H : Type) (enc : TypeId × Value → H) (W : World) (base : Nat) (args : Array Value) (ds gs : List (DataW H)) (before : List MemPlace)
    (hval : ∀ (j : Nat) t v, Tryd.f3.params[j]? = some t → args[j]? = some v → Value.okWide Tryd.prog W .any base t v)
    (hW : DataW.Whole enc Tryd.prog Tryd.f3.params.toList Rows.coreKeepsSpec.vars false W args.toList ds gs before) (hk : Rows.uptoSmall H (ds ++ gs) = true) (hL : laidMetH Tryd.prog Rows.coreKeepsRow.laid W) :
    Calls Tryd.prog 3 args W fun e W' => ∃ v, e = .returned v ∧ Rows.coreKeepsSpec.post enc Tryd.prog Tryd.f3 false true false false W args v W' := by
  have hW' := hW
  have hlt := hW.lt
  obtain ⟨p, q, hA0, hV, rfl, hfz, hnd⟩ := hW
  have hA : DataW.TrodAll enc Tryd.prog W 0 (fun _ => true) true Tryd.f3.params.toList args.toList ds p := hA0
  rw [Tryd.params3] at hA hval
  obtain ⟨rfl, rfl⟩ := trodVars_none hV
  obtain ⟨v0, v1, v2, v3, v4, v5, v6, v7, d0, d1, d2, d3, d4, d5, d6, d7, p0, p1, p2, p3, p4, p5, p6, p7, rfl, rfl, h0, h1, h2, h3, h4, h5, h6, h7⟩ := trodAll_eight hA
  have hb : Rows.uptoBulkAll ([d0, d1, d2, d3, d4, d5, d6, d7] ++ []) ≤ 1048576 := of_decide_eq_true hk
  simp only [List.append_nil, Rows.uptoBulkAll] at hb
  obtain ⟨n, rfl⟩ := int_arg (hval 0 _ _ rfl rfl) h0
  obtain ⟨s, rfl⟩ := int_arg (hval 1 _ _ rfl rfl) h1
  obtain ⟨cs, hcs, hnil, hlen⟩ := ints_arg (hval 2 _ _ rfl rfl) h2 (by omega)
  obtain ⟨t, tl, tk, rfl, ht, gt, st⟩ := term_arg (hval 3 _ _ rfl rfl) h3 (by omega)
  obtain ⟨bys, hby, gb, hbn, sb⟩ := terms_arg (hval 4 _ _ rfl rfl) h4 (by omega)
  obtain ⟨l, rfl⟩ := int_arg (hval 5 _ _ rfl rfl) h5
  obtain ⟨f, rfl⟩ := int_arg (hval 6 _ _ rfl rfl) h6
  obtain ⟨bs, hbs, gbs, hlv, lb⟩ := levels_arg (hval 7 _ _ rfl rfl) h7 (by omega)
  refine (keeps_any n s l f t cs bys bs _ _ _ _ _ W (kinds_of (by rfl) hL) ht hcs hby hbs (by omega) (by omega) gt gb).mono fun e W' ⟨he, hB⟩ => ?_
  subst he
  simp only [List.append_nil] at hW' hlt
  exact ⟨_, rfl, post_below hW' hB (fun _ _ _ => trodAll_cons_mk (shut_bool Tryd.underlying4 _) trodAll_mk0) (fun sp hsp => args_below hB (by decide +kernel) hA0 hlt sp hsp) (fun _ _ => rfl) (ok_one (by kernel_rfl) rfl (okWide_bool_mk Tryd.underlying4 _))⟩

/-- A WORLD FOR THE WITNESS: the settled one, the table holding what its initialiser lays. -/
noncomputable def laidWorld (os : Os) : World :=
  { World.holding Tryd.prog os ⟨#[], #[], []⟩ with heap := (World.holding Tryd.prog os ⟨#[], #[], []⟩).heap.modify 0 fun
      | .cells _ t frozen => .cells (kindTab.flatMap fun x => [.bool x.1, .bool x.2.1, .int .i64 x.2.2.1, .int .i64 x.2.2.2.1, .int .i64 x.2.2.2.2]).toArray t frozen
      | o => o }
abbrev zeroTerm : Value := .agg #[.int .i64 0, .int .i64 0, .int .i64 0, .slice none 0 0, .slice none 0 0]
abbrev wargs : Array Value := #[.int .i64 0, .int .i64 0, .slice none 0 0, zeroTerm, .slice none 0 0, .int .i64 0, .int .i64 0, .slice none 0 0]
theorem laid_met (os : Os) : laidMet Tryd.prog Rows.coreKeepsRow.laid ((laidWorld os).forCall (fun _ _ => 0) ⟨#[], wargs, []⟩).memory :=
  laidMet_of_run' 8 (by kernel_rfl) (by kernel_rfl)
def zeroData (H : Type) : DataW H := .agg [.lit (.int .i64 0), .lit (.int .i64 0), .lit (.int .i64 0), .nil, .nil]
theorem reads (os : Os) {H : Type} (enc : TypeId × Value → H) : ∃ places, DataW.whole enc Tryd.prog ((laidWorld os).forCall (fun _ _ => 0) ⟨#[], wargs, []⟩).memory Tryd.f3.params.toList Rows.coreKeepsSpec.vars false wargs.toList 8 = some ([.lit (.int .i64 0), .lit (.int .i64 0), .nil, zeroData H, .nil, .lit (.int .i64 0), .lit (.int .i64 0), .nil], [], places) :=
  ⟨[], by kernel_rfl⟩

set_option maxRecDepth 100000 in
theorem liftedUpto (os : Os) (started : os.Started) (H : Type) (enc : TypeId × Value → H) (F : Stop.Interp) :
    ReturnsInHanded {} Tryd.checked os 3 .any ((Rows.OpenSpec.upto Rows.coreKeepsSpec).preRow enc Tryd.prog Tryd.f3 Rows.coreKeepsUptoRow.domain false Rows.coreKeepsUptoRow.laid) (((Rows.OpenSpec.upto Rows.coreKeepsSpec).at F).post enc Tryd.prog Tryd.f3 false true false false) := by
  obtain ⟨places, hx⟩ := reads os enc
  refine returnsInHanded_of_row (C := Tryd.checked) (s := Rows.OpenSpec.upto Rows.coreKeepsSpec) own started (by kernel_rfl) Tryd.func3
    (witness_row_at (enc := enc) (C := Tryd.checked) false (laidWorld os) wargs rfl (by kernel_rfl) (by kernel_rfl) (by kernel_rfl)
      (OpenSpec.preRow_of_cond 8 hx (by kernel_rfl) (fun k hk => by cases hk; kernel_rfl) (by kernel_rfl) (laid_met os))) ?_
  intro W base args ds gs before hval hW _ hcond _ hL _ _
  exact contract H enc W base args ds gs before hval hW (hcond _ rfl) hL

theorem saidUpto : Rows.CoreKeepsUptoSaid :=
  OpenClaim.holds_of_cond 3 Tryd.f3 rfl rfl rfl rfl rfl rfl rfl ⟨rfl, rfl, rfl, rfl, rfl⟩ rfl rfl rfl rfl rfl (by kernel_rfl) Tryd.func3 (by kernel_rfl)
    (of_decide_eq_true (by kernel_rfl)) (by unfold Func.isWrapper; first | (rw [if_pos (by decide +kernel)]; kernel_rfl) | (rw [if_neg (by decide +kernel)]; exact ⟨rfl, rfl⟩))
    (fun os started H enc _ F => by rw [OpenClaim.pre_eq_preRow]; exact liftedUpto os started H enc F)

theorem plain (f : FuncId) (fn : Func) (hf : Tryd.pinned.checked.prog.funcNamed "spandrel/spandrellaw05.CoreKeeps" = some f) (hfn : Tryd.pinned.checked.prog.funcs[f]? = some fn) :
    true = Tryd.pinned.checked.prog.looks [] ∧ ∀ (j : Nat) t, fn.params[j]? = some t → Tryd.pinned.checked.prog.wantsStandIn t = false := by
  obtain rfl : f = 3 := Option.some.inj ((show Tryd.prog.funcNamed "spandrel/spandrellaw05.CoreKeeps" = some 3 by kernel_rfl).symm.trans hf) |>.symm
  obtain rfl : fn = Tryd.f3 := (Option.some.inj (Tryd.func3.symm.trans hfn)).symm
  refine ⟨by kernel_rfl, fun j t ht => ?_⟩
  rw [Tryd.params3] at ht
  have hall : ∀ t ∈ (#[3, 3, 22, 27, 25, 3, 3, 24] : Array TypeId), Tryd.prog.wantsStandIn t = false := by decide +kernel
  exact hall t (Array.mem_of_getElem? ht)

/-- ████ THE CARD ████ -/
theorem cardUpto : Rows.CoreKeepsUptoCardSaid :=
  Claim7.holds_tied_plain_at .later [] _ _ _ _ saidUpto (fun _ h => by cases h) (by kernel_rfl) (fun _ h => by cases h) coreKeepsUpto_row_tie rfl ⟨rfl, rfl⟩ (by kernel_rfl) rfl plain (by kernel_rfl)
end Go.Proofs.YtgegaipkfpdocaaDoor.coreKeeps
