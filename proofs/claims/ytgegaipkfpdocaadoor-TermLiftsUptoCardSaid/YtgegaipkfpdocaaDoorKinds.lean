/-
  WHAT A ROW's LIST GIVES: the table of kinds lies in its block.
-/
import Derived.Test.YtgegaipkfpdocaaDoorTrod
import Derived.Lib.LaidTab
import Derived.Carry
namespace Go.Proofs.YtgegaipkfpdocaaDoor
open Go.ChangeShapes Go.WideShapes Go.Deep Go.RowKit

def kindRow (x : Bool × Bool × Int × Int × Int) : DataW Unit :=
  .agg [.lit (.bool x.1), .lit (.bool x.2.1), .lit (.int .i64 x.2.2.1), .lit (.int .i64 x.2.2.2.1), .lit (.int .i64 x.2.2.2.2)]
theorem gKinds : Tryd.prog.globalNamed "spandrel/term.kinds" = some 0 := by kernel_rfl
theorem gKindsType : (Tryd.prog.globals[0]?).map (·.type) = some 113 := by kernel_rfl

theorem lit_bool_inj {H : Type} {a b : Bool} (h : (DataW.lit (.bool a) : DataW H) = .lit (.bool b)) : a = b := by injection h with h; injection h
theorem lit_int_inj {H : Type} {k : IntKind} {a b : Int} (h : (DataW.lit (.int k a) : DataW H) = .lit (.int k b)) : a = b := by injection h with h; injection h

theorem kinds_of {W : World} {d : DataW Unit} (he : d = .agg (kindTab.map kindRow)) (h : laidMet Tryd.prog [("spandrel/term.kinds", d)] W) : Kinds W := by
  subst he
  obtain ⟨ps, ⟨g', t', cs, fuel, p, q, hg', ht', hvar, hd, _, _⟩, _⟩ := h
  obtain rfl := Option.some.inj (gKinds.symm.trans hg')
  obtain rfl := Option.some.inj (gKindsType.symm.trans ht')
  intro i x hx
  have hi : i < 25 := (List.getElem?_eq_some_iff.1 hx).1
  have hC : Tryd.prog.cellsOf 112 = 5 := by kernel_rfl
  cases fuel with
  | zero => simp [DataW.trod] at hd
  | succ fuel =>
    simp only [DataW.trod, Tryd.underlying113, hC] at hd
    split at hd
    · obtain ⟨xs, hm, hx'⟩ := Option.map_eq_some_iff.1 hd
      obtain ⟨b, hb, hf⟩ := Lib.mapM_at hm i i (by simp [hi])
      have hxs : xs.map (·.1) = kindTab.map kindRow := by
        have := congrArg Prod.fst hx'
        simpa using this
      have hb1 : b.1 = kindRow x := by
        have := congrArg (·[i]?) hxs
        simpa [hb, hx] using this
      obtain ⟨n, ys, hn, hl5, hx5, hyl, hfs⟩ := struct_at Tryd.underlying112 (by kernel_rfl) (by kernel_rfl) hf
      rw [hb1] at hx5
      simp only [kindRow, DataW.agg.injEq] at hx5
      subst hx5
      have cell : ∀ (j : Nat) v, j < 5 → (List.take 5 (List.drop (i * 5) cs.toList))[j]? = some v → W.cell? ⟨0, i * 5 + j, none⟩ = some v := fun j v hj hc => by
        rw [World.var?_cell gKinds hvar]
        simpa [List.getElem?_take, List.getElem?_drop, hj] using hc
      obtain ⟨v0, y0, p0, c0, e0, t0⟩ := hfs 0 _ rfl
      obtain ⟨v1, y1, p1, c1, e1, t1⟩ := hfs 1 _ rfl
      obtain ⟨v2, y2, p2, c2, e2, t2⟩ := hfs 2 _ rfl
      obtain ⟨v3, y3, p3, c3, e3, t3⟩ := hfs 3 _ rfl
      obtain ⟨v4, y4, p4, c4, e4, t4⟩ := hfs 4 _ rfl
      obtain ⟨z0, q0, r0⟩ := DataW.trod_bool Tryd.underlying4 t0
      obtain ⟨z1, q1, r1⟩ := DataW.trod_bool Tryd.underlying4 t1
      obtain ⟨z2, q2, r2, _⟩ := DataW.trod_int Tryd.underlying3 t2
      obtain ⟨z3, q3, r3, _⟩ := DataW.trod_int Tryd.underlying3 t3
      obtain ⟨z4, q4, r4, _⟩ := DataW.trod_int Tryd.underlying3 t4
      simp only [List.getElem?_cons_zero, List.getElem?_cons_succ, Option.some.injEq] at e0 e1 e2 e3 e4
      have s0 := lit_bool_inj (e0.trans (congrArg Prod.fst r0))
      have s1 := lit_bool_inj (e1.trans (congrArg Prod.fst r1))
      have s2 := lit_int_inj (e2.trans (congrArg Prod.fst r2))
      have s3 := lit_int_inj (e3.trans (congrArg Prod.fst r3))
      have s4 := lit_int_inj (e4.trans (congrArg Prod.fst r4))
      injection q0 with q0 _
      injection q1 with q1 _
      injection q2 with q2 _
      injection q3 with q3 _
      injection q4 with q4 _
      subst q0 q1 q2 q3 q4
      rw [s0, s1, s2, s3, s4]
      exact ⟨cell 0 _ (by omega) c0, cell 1 _ (by omega) c1, cell 2 _ (by omega) c2, cell 3 _ (by omega) c3, cell 4 _ (by omega) c4⟩
    · cases hd

theorem laid_out : laidOutB Tryd.prog = true := by kernel_rfl
/-- The arguments read behind the call as before it. -/
theorem args_below {H : Type} {enc : TypeId × Value → H} {W W' : World} (hb : Below W.heap.size W W') : ∀ {ts : List TypeId} {vs : List Value} {ds : List (DataW H)} {ps : List MemPlace}, (∀ t ∈ ts, t < Tryd.prog.types.size ∧ Tryd.prog.readableRec t = true) → DataW.TrodAll enc Tryd.prog W 0 (fun _ => true) true ts vs ds ps → (∀ p ∈ ps, p.block < W.heap.size) →
    ∀ sp : Nat → Bool, (∀ p ∈ ps, sp p.block = true) → DataW.TrodAll enc Tryd.prog W' 0 sp true ts vs ds ps
  | [], _, _, _, _, h, _, _, _ => by
    obtain ⟨rfl, rfl, rfl⟩ := trodAll_nil h
    rfl
  | t :: ts, _, _, _, hts, h, hl, sp, hsp => by
    obtain ⟨v, vs1, d, ds1, a, b, rfl, rfl, rfl, h1, h2⟩ := trodAll_cons h
    refine ⟨a, b, ?_, args_below hb (fun t ht => hts t (List.mem_cons_of_mem _ ht)) h2 (fun x hx => hl x (List.mem_append_right _ hx)) sp (fun x hx => hsp x (List.mem_append_right _ hx)), rfl⟩
    exact WideElems.Trod_stays laid_out (hts t (List.mem_cons_self ..)).2 (hts t (List.mem_cons_self ..)).1 h1 (fun x hx => hb.same (hl x (List.mem_append_left _ hx))) (fun x hx => hsp x (List.mem_append_left _ hx))

/-- The row's post, where the call has left all that lay in the old world as it was: its own argument is 'post_of_same', but that it asks of marks on old cells alone. -/
theorem post_below {H : Type} {enc : TypeId × Value → H} {P : Program} {f : Func} {s : ChangeSpec} {apart fresh handsOn again : Bool} {W W' : World} {args : Array Value} {v : Value} {ds gs : List (DataW H)} {before : List MemPlace}
    (hW : DataW.Whole enc P f.params.toList s.vars apart W args.toList ds gs before) (hB : Below W.heap.size W W')
    (hres : ∀ (b : Nat) (sp : Nat → Bool) (hd : Bool), DataW.TrodAll enc P W' b sp hd f.resultTypes.toList (v.resultList f.resultTypes.size) (s.fn H (ds ++ gs)).results [])
    (hargs : ∀ sp : Nat → Bool, (∀ p ∈ before, sp p.block = true) → DataW.TrodAll enc P W' 0 sp true f.params.toList args.toList (s.fn H (ds ++ gs)).args before)
    (hvars : ∀ sp : Nat → Bool, (∀ p ∈ before, sp p.block = true) → DataW.TrodVars enc P W' sp s.vars (s.fn H (ds ++ gs)).vars [])
    (hok : ∀ (j : Nat) (t : TypeId) (r : Value), f.resultTypes[j]? = some t → (v.resultList f.resultTypes.size)[j]? = some r → Value.okWide P W' .any 0 t r) :
    s.post enc P f apart fresh handsOn again W args v W' := by
  have hlt := hW.lt
  have hold : ∀ p ∈ before, (fun b => decide (b < W.heap.size)) p.block = true := fun p hp => by simpa using hlt p hp
  refine ⟨ds, gs, before, [], before, [], hW, hres _ _ _, hargs _ hold, hvars _ hold, World.keptBut_mono (fun p hp => ⟨hp, by simpa using hp⟩) (hB.frame _), fun _ => ?_⟩
  obtain ⟨_, _, _, _, _, hz, hn⟩ := hW
  refine ⟨hok, _, _, ([] ++ before) ++ [], ⟨[] ++ before, [], trodAll_append (hargs _ (fun _ _ => rfl)) (hres _ _ _), hvars _ (fun _ _ => rfl), rfl, ?_, ?_⟩, ?_⟩
  · intro b off hp
    have hp' : MemPlace.cell b off ∈ before := by simpa using hp
    rw [hB.frozen (p := ⟨b, off, none⟩) (hlt _ hp')]
    exact hz b off hp'
  · intro ha
    simpa using hn ha
  · intro p hp _
    simpa using hp

end Go.Proofs.YtgegaipkfpdocaaDoor
