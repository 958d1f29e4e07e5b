/-
  CoreParts holds of every input, where the arguments together are of bulk at most 1048576 (the condition of the given statement); the table of kinds holds what the program's initialiser lays.
-/
import Derived.Test.YtajpkhkfffdclaaDoorCards
import Derived.Test.YtajpkhkfffdclaaDoorTie
import Derived.Test.YtajpkhkfffdclaaDoorParts
import Derived.Test.YtajpkhkfffdclaaDoorKinds
import Derived.ProofKit
import Derived.OpenShut
import Derived.Deep.DeepHandedRow
namespace Go.Proofs.YtajpkhkfffdclaaDoor.coreParts
open Go.ChangeShapes Go.WideShapes Go.ChangeAt Go.RowKit Go.Deep

theorem own : ownKnob Tryd.prog.godebug = none := by kernel_rfl

section
variable {H : Type} {enc : TypeId × Value → H} {w : World} {base : Nat} {spare : Nat → Bool} {held : Bool}
theorem ints_in {n b : Nat} : ∀ (es : List (DataW H)) (o : Nat), (∀ i y, es[i]? = some y → ∃ cs' pl, DataW.trod enc Tryd.prog w base spare held n 3 cs' = some (y, pl) ∧ ∀ j, j < 1 → w.cell? ⟨b, o + (i * 1 + j), none⟩ = cs'[j]?) →
    ∃ xs : List Int, xs.length = es.length ∧ ∀ (i : Nat) x, xs[i]? = some x → w.cell? ⟨b, o + i, none⟩ = some (.int .i64 x)
  | [], _, _ => ⟨[], rfl, fun i x h => by simp at h⟩
  | y :: es, o, h => by
    obtain ⟨xs, hl, hr⟩ := ints_in es (o + 1) (fun i y hy => by
      obtain ⟨cs', pl, h1, h2⟩ := h (i + 1) y (by simpa using hy)
      exact ⟨cs', pl, h1, fun j hj => by rw [← h2 j hj]; congr 2; omega⟩)
    obtain ⟨cs', pl, h1, h2⟩ := h 0 y rfl
    obtain ⟨z, rfl, _, _⟩ := DataW.trod_int Tryd.underlying3 h1
    refine ⟨z :: xs, by simp [hl], fun i x hi => ?_⟩
    cases i with
    | zero =>
      simp only [List.getElem?_cons_zero, Option.some.injEq] at hi
      subst hi
      simpa using h2 0 (by omega)
    | succ i =>
      have := hr i x (by simpa using hi)
      rwa [show o + 1 + i = o + (i + 1) by omega] at this
set_option maxRecDepth 100000 in
theorem ints_arg {r : Reach} {b0 : Nat} {v : Value} {d : DataW H} {p : List MemPlace} (hv : Value.okWide Tryd.prog w r b0 34 v) (h : DataW.Trod enc Tryd.prog w base spare held 34 v d p) (hb : Rows.uptoBulk d ≤ 1048576) :
    ∃ xs, RIv w xs v ∧ (∀ n c, v = .slice none n c → c = 0) ∧ xs.length ≤ 1048576 := by
  obtain ⟨A, len, cap, rfl⟩ := okWide_slice Tryd.underlying34 hv
  obtain ⟨fuel, hf⟩ := h
  have hC : Tryd.prog.cellsOf 3 = 1 := by kernel_rfl
  obtain ⟨A', len', cap', n', es, hn', hv', hlc, hnil, hes, hbk, hget⟩ := slice_at Tryd.underlying34 (by rw [hC]; omega) hf
  simp only [Value.cells] at hv'
  injection hv' with hv' _
  obtain ⟨rfl, rfl, rfl⟩ := Value.slice.inj hv'
  rw [hC] at hget
  have hlen := bulk_len es
  simp only at hbk
  have hz : ∀ n c, Value.slice A len cap = .slice none n c → c = 0 := fun n c e => by obtain ⟨e1, e2, e3⟩ := Value.slice.inj e; subst e3; exact hnil e1
  by_cases hp : 0 < len
  · obtain ⟨b, o, rfl, hg⟩ := hget hp
    obtain ⟨xs, hl, hr⟩ := ints_in es o hg
    obtain rfl : len = xs.length := by omega
    exact ⟨xs, ⟨_, _, rfl, hlc, by omega, fun _ => ⟨b, o, rfl, hr⟩⟩, hz, by omega⟩
  · obtain rfl : len = 0 := by omega
    exact ⟨[], ⟨_, _, rfl, Nat.zero_le _, Nat.zero_le _, fun h => by simp at h⟩, hz, Nat.zero_le _⟩
set_option maxRecDepth 100000 in
theorem term_argN {r : Reach} {b0 : Nat} {v : Value} {d : DataW H} {p : List MemPlace} (hv : Value.okWide Tryd.prog w r b0 26 v) (h : DataW.Trod enc Tryd.prog w base spare held 26 v d p) (hb : Rows.uptoBulk d ≤ 1048576) :
    ∃ t vl vk, v = .agg #[.int .i64 t.kind, .int .i64 t.num, .int .i64 t.atN, vl, vk] ∧ RT w t vl vk ∧ (∀ n c, vk = .slice none n c → c = 0) ∧ size t ≤ Rows.uptoBulk d := by
  obtain ⟨t, tl, tk, rfl, h1, h2, h3⟩ := term_arg hv h hb
  obtain ⟨fuel, hf⟩ := h
  obtain ⟨n, ys, hn, hl, hx, hyl, hfs⟩ := struct_at Tryd.underlying26 (by kernel_rfl) (by kernel_rfl) hf
  obtain ⟨v4, y4, p4, c4, e4, t4⟩ := hfs 4 _ rfl
  have hc : tk = v4 := by simpa [Value.cells] using c4
  subst hc
  have hC : Tryd.prog.cellsOf 26 = 5 := by kernel_rfl
  obtain ⟨A, len, cap, n', es, hn', hv', hlc, hnil, _⟩ := slice_at Tryd.underlying24 (by rw [hC]; omega) t4
  injection hv' with hv' _
  subst hv'
  exact ⟨t, tl, _, rfl, h1, fun n c e => by obtain ⟨e1, e2, e3⟩ := Value.slice.inj e; subst e3; exact hnil e1, h3⟩
set_option maxRecDepth 100000 in
theorem int_arg {r : Reach} {b0 : Nat} {v : Value} {d : DataW H} {p : List MemPlace} (hv : Value.okWide Tryd.prog w r b0 3 v) (h : DataW.Trod enc Tryd.prog w base spare held 3 v d p) : ∃ x, v = .int .i64 x := by
  obtain ⟨x, rfl, _⟩ := open_int Tryd.underlying3 hv h
  exact ⟨x, rfl⟩
end

theorem trodAll_five {H : Type} {enc : TypeId × Value → H} {P : Program} {w : World} {base : Nat} {spare : Nat → Bool} {held : Bool} {t0 t1 t2 t3 t4 : TypeId} {args : Array Value} {ds : List (DataW H)} {ps : List MemPlace} (h : DataW.TrodAll enc P w base spare held [t0, t1, t2, t3, t4] args.toList ds ps) :
    ∃ v0 v1 v2 v3 v4 d0 d1 d2 d3 d4 p0 p1 p2 p3 p4, args = #[v0, v1, v2, v3, v4] ∧ ds = [d0, d1, d2, d3, d4] ∧ DataW.Trod enc P w base spare held t0 v0 d0 p0 ∧ DataW.Trod enc P w base spare held t1 v1 d1 p1 ∧ DataW.Trod enc P w base spare held t2 v2 d2 p2 ∧ DataW.Trod enc P w base spare held t3 v3 d3 p3 ∧ DataW.Trod enc P w base spare held t4 v4 d4 p4 := by
  obtain ⟨v0, vs0, d0, ds0, p0, q0, hargs, rfl, rfl, h0, r0⟩ := trodAll_cons h
  obtain ⟨v1, vs1, d1, ds1, p1, q1, rfl, rfl, rfl, h1, r1⟩ := trodAll_cons r0
  obtain ⟨v2, vs2, d2, ds2, p2, q2, rfl, rfl, rfl, h2, r2⟩ := trodAll_cons r1
  obtain ⟨v3, vs3, d3, ds3, p3, q3, rfl, rfl, rfl, h3, r3⟩ := trodAll_cons r2
  obtain ⟨v4, vs4, d4, ds4, p4, q4, rfl, rfl, rfl, h4, r4⟩ := trodAll_cons r3
  obtain ⟨rfl, rfl, rfl⟩ := trodAll_nil r4
  obtain ⟨l⟩ := args
  simp only at hargs
  subst hargs
  exact ⟨v0, v1, v2, v3, v4, d0, d1, d2, d3, d4, p0, p1, p2, p3, p4, rfl, rfl, h0, h1, h2, h3, h4⟩

set_option maxRecDepth 100000 in
theorem contract (H : Type) (enc : TypeId × Value → H) (W : World) (base : Nat) (args : Array Value) (ds gs : List (DataW H)) (before : List MemPlace)
    (hval : ∀ (j : Nat) t v, Tryd.f5.params[j]? = some t → args[j]? = some v → Value.okWide Tryd.prog W .any base t v)
    (hW : DataW.Whole enc Tryd.prog Tryd.f5.params.toList Rows.corePartsSpec.vars false W args.toList ds gs before) (hk : Rows.uptoSmall H (ds ++ gs) = true) (hL : laidMetH Tryd.prog Rows.corePartsRow.laid W) :
    Calls Tryd.prog 5 args W fun e W' => ∃ v, e = .returned v ∧ Rows.corePartsSpec.post enc Tryd.prog Tryd.f5 false true false false W args v W' := by
  have hW' := hW
  have hlt := hW.lt
  obtain ⟨p, q, hA0, hV, rfl, hfz, hnd⟩ := hW
  have hA : DataW.TrodAll enc Tryd.prog W 0 (fun _ => true) true Tryd.f5.params.toList args.toList ds p := hA0
  rw [Tryd.params5] at hA hval
  obtain ⟨rfl, rfl⟩ := trodVars_none hV
  obtain ⟨v0, v1, v2, v3, v4, d0, d1, d2, d3, d4, p0, p1, p2, p3, p4, rfl, rfl, h0, h1, h2, h3, h4⟩ := trodAll_five hA
  have hb : Rows.uptoBulkAll ([d0, d1, d2, d3, d4] ++ []) ≤ 1048576 := of_decide_eq_true hk
  simp only [List.append_nil, Rows.uptoBulkAll] at hb
  obtain ⟨n, rfl⟩ := int_arg (hval 0 _ _ rfl rfl) h0
  obtain ⟨s, rfl⟩ := int_arg (hval 1 _ _ rfl rfl) h1
  obtain ⟨cs, hcs, hnil, hlen⟩ := ints_arg (hval 2 _ _ rfl rfl) h2 (by omega)
  obtain ⟨t, tl, tk, rfl, ht, hnk, st⟩ := term_argN (hval 3 _ _ rfl rfl) h3 (by omega)
  obtain ⟨more, rfl⟩ := int_arg (hval 4 _ _ rfl rfl) h4
  refine (parts_any n s more t cs _ _ _ W (kinds_of (by rfl) hL) ht hcs hnil hnk hlen (by omega)).mono fun e W' ⟨he, hB⟩ => ?_
  subst he
  simp only [List.append_nil] at hW' hlt
  exact ⟨_, rfl, post_below hW' hB (fun _ _ _ => trodAll_cons_mk (shut_bool Tryd.underlying4 _) trodAll_mk0) (fun sp hsp => args_below hB (by decide +kernel) hA0 hlt sp hsp) (fun _ _ => rfl) (ok_one (by kernel_rfl) rfl (okWide_bool_mk Tryd.underlying4 _))⟩

/-- A WORLD FOR THE WITNESS: the settled one, the table holding what its initialiser lays. -/
noncomputable def laidWorld (os : Os) : World :=
  { World.holding Tryd.prog os ⟨#[], #[], []⟩ with heap := (World.holding Tryd.prog os ⟨#[], #[], []⟩).heap.modify 0 fun
      | .cells _ t frozen => .cells (kindTab.flatMap fun x => [.bool x.1, .bool x.2.1, .int .i64 x.2.2.1, .int .i64 x.2.2.2.1, .int .i64 x.2.2.2.2]).toArray t frozen
      | o => o }
abbrev zeroTerm : Value := .agg #[.int .i64 0, .int .i64 0, .int .i64 0, .slice none 0 0, .slice none 0 0]
abbrev wargs : Array Value := #[.int .i64 0, .int .i64 0, .slice none 0 0, zeroTerm, .int .i64 0]
theorem laid_met (os : Os) : laidMet Tryd.prog Rows.corePartsRow.laid ((laidWorld os).forCall (fun _ _ => 0) ⟨#[], wargs, []⟩).memory :=
  laidMet_of_run' 8 (by kernel_rfl) (by kernel_rfl)
def zeroData (H : Type) : DataW H := .agg [.lit (.int .i64 0), .lit (.int .i64 0), .lit (.int .i64 0), .nil, .nil]
theorem reads (os : Os) {H : Type} (enc : TypeId × Value → H) : ∃ places, DataW.whole enc Tryd.prog ((laidWorld os).forCall (fun _ _ => 0) ⟨#[], wargs, []⟩).memory Tryd.f5.params.toList Rows.corePartsSpec.vars false wargs.toList 8 = some ([.lit (.int .i64 0), .lit (.int .i64 0), .nil, zeroData H, .lit (.int .i64 0)], [], places) :=
  ⟨[], by kernel_rfl⟩

set_option maxRecDepth 100000 in
theorem liftedUpto (os : Os) (started : os.Started) (H : Type) (enc : TypeId × Value → H) (F : Stop.Interp) :
    ReturnsInHanded {} Tryd.checked os 5 .any ((Rows.OpenSpec.upto Rows.corePartsSpec).preRow enc Tryd.prog Tryd.f5 Rows.corePartsUptoRow.domain false Rows.corePartsUptoRow.laid) (((Rows.OpenSpec.upto Rows.corePartsSpec).at F).post enc Tryd.prog Tryd.f5 false true false false) := by
  obtain ⟨places, hx⟩ := reads os enc
  refine returnsInHanded_of_row (C := Tryd.checked) (s := Rows.OpenSpec.upto Rows.corePartsSpec) own started (by kernel_rfl) Tryd.func5
    (witness_row_at (enc := enc) (C := Tryd.checked) false (laidWorld os) wargs rfl (by kernel_rfl) (by kernel_rfl) (by kernel_rfl)
      (OpenSpec.preRow_of_cond 8 hx (by kernel_rfl) (fun k hk => by cases hk; kernel_rfl) (by kernel_rfl) (laid_met os))) ?_
  intro W base args ds gs before hval hW _ hcond _ hL _ _
  exact contract H enc W base args ds gs before hval hW (hcond _ rfl) hL

theorem saidUpto : Rows.CorePartsUptoSaid :=
  OpenClaim.holds_of_cond 5 Tryd.f5 rfl rfl rfl rfl rfl rfl rfl ⟨rfl, rfl, rfl, rfl, rfl⟩ rfl rfl rfl rfl rfl (by kernel_rfl) Tryd.func5 (by kernel_rfl)
    (of_decide_eq_true (by kernel_rfl)) (by unfold Func.isWrapper; first | (rw [if_pos (by decide +kernel)]; kernel_rfl) | (rw [if_neg (by decide +kernel)]; exact ⟨rfl, rfl⟩))
    (fun os started H enc _ F => by rw [OpenClaim.pre_eq_preRow]; exact liftedUpto os started H enc F)

theorem plain (f : FuncId) (fn : Func) (hf : Tryd.pinned.checked.prog.funcNamed "spandrel/spandrellaw05.CoreParts" = some f) (hfn : Tryd.pinned.checked.prog.funcs[f]? = some fn) :
    true = Tryd.pinned.checked.prog.looks [] ∧ ∀ (j : Nat) t, fn.params[j]? = some t → Tryd.pinned.checked.prog.wantsStandIn t = false := by
  obtain rfl : f = 5 := Option.some.inj ((show Tryd.prog.funcNamed "spandrel/spandrellaw05.CoreParts" = some 5 by kernel_rfl).symm.trans hf) |>.symm
  obtain rfl : fn = Tryd.f5 := (Option.some.inj (Tryd.func5.symm.trans hfn)).symm
  refine ⟨by kernel_rfl, fun j t ht => ?_⟩
  rw [Tryd.params5] at ht
  have hall : ∀ t ∈ (#[3, 3, 34, 26, 3] : Array TypeId), Tryd.prog.wantsStandIn t = false := by decide +kernel
  exact hall t (Array.mem_of_getElem? ht)

/-- ████ THE CARD ████ -/
theorem cardUpto : Rows.CorePartsUptoCardSaid :=
  Claim7.holds_tied_plain_at .later [] _ _ _ _ saidUpto (fun _ h => by cases h) (by kernel_rfl) (fun _ h => by cases h) corePartsUpto_row_tie rfl ⟨rfl, rfl⟩ (by kernel_rfl) rfl plain (by kernel_rfl)
end Go.Proofs.YtajpkhkfffdclaaDoor.coreParts
