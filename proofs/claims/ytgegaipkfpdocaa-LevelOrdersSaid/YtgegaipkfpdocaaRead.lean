/-
  FROM THE READING OF THE ARGUMENTS TO HOW LEVELS LIE, for whatever they hold: the form's own reach bounds each list.
-/
import Derived.Test.YtgegaipkfpdocaaInts
import Derived.Test.YtgegaipkfpdocaaRows
import Derived.Deep.Slices
import Derived.Deep.Fields
import Derived.ChangeSame
import Derived.OpenShut
import Derived.SizedLaws
namespace Go.Proofs.Ytgegaipkfpdocaa
open Go.ChangeShapes Go.WideShapes Go.Deep Go.RowKit

section
variable {H : Type} {enc : TypeId × Value → H} {w : World} {base : Nat} {spare : Nat → Bool} {held : Bool}

theorem struct_at {P : Program} {t : TypeId} {fs : Array Field} {fuel : Nat} {cs : List Value} {x : DataW H × List MemPlace} (ht : P.underlying t = some (.struct fs)) (hone : oneCellFields P fs = true) (hC : P.cellsOf t = fs.size) (h : DataW.trod enc P w base spare held fuel t cs = some x) :
    ∃ (n : Nat) (ys : List (DataW H)), fuel = n + 1 ∧ cs.length = fs.size ∧ x.1 = .agg ys ∧ ys.length = fs.size ∧ ∀ (j : Nat) (f : Field), fs[j]? = some f → ∃ v y pl, cs[j]? = some v ∧ ys[j]? = some y ∧ DataW.trod enc P w base spare held n f.type [v] = some (y, pl) := by
  obtain ⟨xs, n, hn, hx, hl, hlen, hf⟩ := DataW.trod_struct ht h
  refine ⟨n, xs.map (·.1), hn, hl.trans hC, by rw [hx], by simpa using hlen, fun j f hj => ?_⟩
  obtain ⟨ho, hk⟩ := hone_of hone j f hj
  have hjl : j < fs.size := (Array.getElem?_eq_some_iff.1 hj).1
  have h1 := hf j f hj
  rw [ho, hk] at h1
  have hone' : (cs.drop j).take 1 = [cs[j]'(by omega)] := by
    rw [List.drop_eq_getElem_cons (by omega)]; rfl
  rw [hone'] at h1
  have hys : xs[j]? = some (xs[j]'(by omega)) := List.getElem?_eq_getElem (by omega)
  exact ⟨_, _, (xs[j]'(by omega)).2, List.getElem?_eq_getElem (by omega), by simp [hys], h1.trans hys⟩

theorem slice_atW {P : Program} {t e : TypeId} {fuel : Nat} {cs : List Value} {x : DataW H × List MemPlace} (ht : P.underlying t = some (.slice e)) (hpos : 0 < P.cellsOf e) (h : DataW.trod enc P w base spare held fuel t cs = some x) (hw : ∀ n ∈ x.1.weights P t, n ≤ reachBytes) :
    ∃ (A : Option Addr) (len cap n : Nat) (es : List (DataW H)), fuel = n + 1 ∧ cs = [.slice A len cap] ∧ len ≤ cap ∧ (A = none → cap = 0) ∧ es.length = len ∧ len * P.bytesOf e ≤ reachBytes ∧ (∀ y ∈ es, ∀ n ∈ y.weights P e, n ≤ reachBytes) ∧
      (0 < len → ∃ b o, A = some ⟨b, o, none⟩ ∧ ∀ i y, es[i]? = some y → ∃ cs' pl, DataW.trod enc P w base spare held n e cs' = some (y, pl) ∧ ∀ j, j < P.cellsOf e → w.cell? ⟨b, o + (i * P.cellsOf e + j), none⟩ = cs'[j]?) := by
  cases fuel with
  | zero => simp [DataW.trod] at h
  | succ m =>
    rcases DataW.trod_slice ht h with ⟨rfl, rfl⟩ | ⟨a, len, cap, elems, rest, n, hn, rfl, rfl, hb, hl, hm, hlen, hel, _, _⟩
    · exact ⟨none, 0, 0, m, [], rfl, rfl, Nat.le_refl _, fun _ => rfl, rfl, (by simp), (fun _ h => nomatch h), fun h => by omega⟩
    · have hwt : (elems.length + rest.length) * P.bytesOf e ≤ reachBytes := by
        have := hw ((elems.length + rest.length) * P.bytesOf e) (by simp [DataW.weights, ht])
        exact this
      have hall : ∀ (l : List (DataW H)) y, y ∈ l → ∀ n ∈ y.weights P e, n ∈ DataW.weightsAll P e l := by
        intro l
        induction l with
        | nil => intro y hy; cases hy
        | cons z l ih =>
          intro y hy n hn
          simp only [DataW.weightsAll, List.mem_append]
          rcases List.mem_cons.1 hy with rfl | hy
          · exact .inl hn
          · exact .inr (ih y hy n hn)
      refine ⟨some a, len, cap, n, elems.map (·.1), hn, rfl, hl, fun h => by simp at h, by simpa using hlen, ?_, ?_, fun h0 => ?_⟩
      · refine Nat.le_trans (Nat.mul_le_mul_right _ ?_) hwt
        omega
      · intro y hy n hn
        refine hw n ?_
        simp only [DataW.weights, ht, List.mem_cons, List.mem_append]
        exact .inr (.inl (hall _ y hy n hn))
      · obtain ⟨b, off, spot⟩ := a
        have g : ∀ i z, elems[i]? = some z → i < len := fun i z hz => by
          have := (List.getElem?_eq_some_iff.1 hz).1
          omega
        have hspot : spot = none := by
          have h1 := hel 0 h0
          rw [List.getElem?_eq_getElem (by omega)] at h1
          obtain ⟨cs', hc, _⟩ := Option.bind_eq_some_iff.1 h1
          obtain ⟨_, hcl, hcell⟩ := World.cells?_some hc
          have h2 := hcell 0 hpos
          rw [List.getElem?_eq_getElem (by omega)] at h2
          simpa [Addr.add] using World.cell?_spot h2
        subst hspot
        refine ⟨b, off, rfl, fun i y hy => ?_⟩
        rw [List.getElem?_map] at hy
        obtain ⟨z, hz, rfl⟩ := Option.map_eq_some_iff.1 hy
        have h1 := hel i (g i z hz)
        rw [hz] at h1
        obtain ⟨cs', hc, ht'⟩ := Option.bind_eq_some_iff.1 h1
        obtain ⟨_, hcl, hcell⟩ := World.cells?_some hc
        refine ⟨cs', z.2, ht', fun j hj => ?_⟩
        rw [← hcell j hj, Go.Deep.add_add, add_plain]

theorem part_of {fuel : Nat} {cs : List Value} {x : DataW H × List MemPlace} (h : DataW.trod enc Try.prog w base spare held fuel 41 cs = some x) : ∃ p : Int × Int, cs = [.int .i64 p.1, .int .i64 p.2] := by
  obtain ⟨n, ys, hn, hl, hx, hyl, hf⟩ := struct_at Try.underlying41 (by kernel_rfl) (by kernel_rfl) h
  obtain ⟨v0, y0, p0, c0, e0, t0⟩ := hf 0 _ rfl
  obtain ⟨v1, y1, p1, c1, e1, t1⟩ := hf 1 _ rfl
  obtain ⟨a, ha, _, _⟩ := DataW.trod_int Try.underlying3 t0
  obtain ⟨b, hb, _, _⟩ := DataW.trod_int Try.underlying3 t1
  injection ha with ha _
  injection hb with hb _
  subst ha hb
  match cs, hl with
  | [x0, x1], _ =>
    simp at c0 c1
    subst c0 c1
    exact ⟨(a, b), rfl⟩

theorem parts_of {n b : Nat} : ∀ (es : List (DataW H)) (o : Nat), (∀ i y, es[i]? = some y → ∃ cs' pl, DataW.trod enc Try.prog w base spare held n 41 cs' = some (y, pl) ∧ ∀ j, j < 2 → w.cell? ⟨b, o + (i * 2 + j), none⟩ = cs'[j]?) →
    ∃ ps : Lv, ps.length = es.length ∧ RP w b o ps
  | [], _, _ => ⟨[], rfl, trivial⟩
  | y :: es, o, h => by
    obtain ⟨ps, hl, hr⟩ := parts_of es (o + 2) (fun i y hy => by
      obtain ⟨cs', pl, h1, h2⟩ := h (i + 1) y (by simpa using hy)
      exact ⟨cs', pl, h1, fun j hj => by rw [← h2 j hj]; congr 2; omega⟩)
    obtain ⟨cs', pl, h1, h2⟩ := h 0 y rfl
    obtain ⟨p, rfl⟩ := part_of h1
    exact ⟨p :: ps, by simp [hl], ⟨⟨by simpa using h2 0 (by omega), by simpa using h2 1 (by omega)⟩, hr⟩⟩

theorem level_ofW {fuel : Nat} {cs : List Value} {x : DataW H × List MemPlace} (h : DataW.trod enc Try.prog w base spare held fuel 24 cs = some x) (hw : ∀ n ∈ x.1.weights Try.prog 24, n ≤ reachBytes) :
    ∃ l v, cs = [v] ∧ RPv w l v ∧ (∀ n c, v = .slice none n c → c = 0) := by
  obtain ⟨n, ys, hn, hl, hx, hyl, hf⟩ := struct_at Try.underlying24 (by kernel_rfl) (by kernel_rfl) h
  obtain ⟨v0, y0, p0, c0, e0, t0⟩ := hf 0 _ rfl
  have hC : Try.prog.cellsOf 41 = 2 := by kernel_rfl
  have hBy : Try.prog.bytesOf 41 = 16 := by kernel_rfl
  have hw0 : ∀ n ∈ y0.weights Try.prog 22, n ≤ reachBytes := fun m hm => hw m (by
    rw [hx]
    simp only [DataW.weights, Try.underlying24]
    exact DataW.weights_mem_each (j := 0) rfl e0 m hm)
  obtain ⟨A, len, cap, n', es, hn', hv, hlc, hnil, hes, hbk, _, hget⟩ := slice_atW Try.underlying22 (by rw [hC]; omega) t0 hw0
  injection hv with hv _
  subst hv
  rw [hC] at hget
  rw [hBy] at hbk
  have hz : ∀ n c, Value.slice A len cap = .slice none n c → c = 0 := fun n c e => by obtain ⟨e1, e2, e3⟩ := Value.slice.inj e; subst e3; exact hnil e1
  match cs, hl with
  | [x0], _ =>
    simp at c0
    subst c0
    by_cases hp : 0 < len
    · obtain ⟨b, o, rfl, hg⟩ := hget hp
      obtain ⟨ps, hps, hr⟩ := parts_of es o hg
      obtain rfl : len = ps.length := by omega
      exact ⟨ps, _, rfl, ⟨_, _, rfl, hlc, by unfold reachBytes at hbk; omega, fun _ => ⟨b, o, rfl, hr⟩⟩, hz⟩
    · obtain rfl : len = 0 := by omega
      exact ⟨[], _, rfl, ⟨_, _, rfl, Nat.zero_le _, Nat.zero_le _, fun h => by simp at h⟩, hz⟩

theorem levels_inW {n b : Nat} : ∀ (es : List (DataW H)) (o : Nat), (∀ y ∈ es, ∀ n ∈ y.weights Try.prog 24, n ≤ reachBytes) → (∀ i y, es[i]? = some y → ∃ cs' pl, DataW.trod enc Try.prog w base spare held n 24 cs' = some (y, pl) ∧ ∀ j, j < 1 → w.cell? ⟨b, o + (i * 1 + j), none⟩ = cs'[j]?) →
    ∃ ls : List Lv, ls.length = es.length ∧ RL w b o ls
  | [], _, _, _ => ⟨[], rfl, trivial⟩
  | y :: es, o, hb, h => by
    obtain ⟨ls, hl, hr⟩ := levels_inW es (o + 1) (fun z hz => hb z (by simp [hz])) (fun i y hy => by
      obtain ⟨cs', pl, h1, h2⟩ := h (i + 1) y (by simpa using hy)
      exact ⟨cs', pl, h1, fun j hj => by rw [← h2 j hj]; congr 2; omega⟩)
    obtain ⟨cs', pl, h1, h2⟩ := h 0 y rfl
    obtain ⟨l, v, rfl, q1, _⟩ := level_ofW h1 (hb y (by simp))
    exact ⟨l :: ls, by simp [hl], ⟨⟨v, by simpa using h2 0 (by omega), q1⟩, hr⟩⟩

theorem ints_inW {n b : Nat} : ∀ (es : List (DataW H)) (o : Nat), (∀ i y, es[i]? = some y → ∃ cs' pl, DataW.trod enc Try.prog w base spare held n 3 cs' = some (y, pl) ∧ ∀ j, j < 1 → w.cell? ⟨b, o + (i * 1 + j), none⟩ = cs'[j]?) →
    ∃ xs : List Int, xs.length = es.length ∧ ∀ (i : Nat) x, xs[i]? = some x → w.cell? ⟨b, o + i, none⟩ = some (.int .i64 x)
  | [], _, _ => ⟨[], rfl, fun i x h => by simp at h⟩
  | y :: es, o, h => by
    obtain ⟨xs, hl, hr⟩ := ints_inW es (o + 1) (fun i y hy => by
      obtain ⟨cs', pl, h1, h2⟩ := h (i + 1) y (by simpa using hy)
      exact ⟨cs', pl, h1, fun j hj => by rw [← h2 j hj]; congr 2; omega⟩)
    obtain ⟨cs', pl, h1, h2⟩ := h 0 y rfl
    obtain ⟨z, rfl, _, _⟩ := DataW.trod_int Try.underlying3 h1
    refine ⟨z :: xs, by simp [hl], fun i x hi => ?_⟩
    cases i with
    | zero =>
      simp only [List.getElem?_cons_zero, Option.some.injEq] at hi
      subst hi
      simpa using h2 0 (by omega)
    | succ i =>
      have := hr i x (by simpa using hi)
      rwa [show o + 1 + i = o + (i + 1) by omega] at this

set_option maxRecDepth 100000 in
/-- An argument that is a Level. -/
theorem level_argW {r : Reach} {b0 : Nat} {v : Value} {d : DataW H} {p : List MemPlace} (hv : Value.okWide Try.prog w r b0 24 v) (h : DataW.Trod enc Try.prog w base spare held 24 v d p) (hw : ∀ n ∈ d.weights Try.prog 24, n ≤ reachBytes) :
    ∃ l u, v = .agg #[u] ∧ RPv w l u := by
  obtain ⟨cs, rfl, hsz⟩ := okWide_struct Try.underlying24 hv
  obtain ⟨fuel, hf⟩ := h
  obtain ⟨l, u, e, h1, _⟩ := level_ofW hf hw
  refine ⟨l, u, ?_, h1⟩
  obtain ⟨c⟩ := cs
  simp only [Value.cells] at e
  subst e
  rfl
set_option maxRecDepth 100000 in
theorem levels_argW {r : Reach} {b0 : Nat} {v : Value} {d : DataW H} {p : List MemPlace} (hv : Value.okWide Try.prog w r b0 32 v) (h : DataW.Trod enc Try.prog w base spare held 32 v d p) (hw : ∀ n ∈ d.weights Try.prog 32, n ≤ reachBytes) :
    ∃ ls, RLv w ls v ∧ (∀ n c, v = .slice none n c → c = 0) ∧ ls.length ≤ 5864062014634 := by
  obtain ⟨A, len, cap, rfl⟩ := okWide_slice Try.underlying32 hv
  obtain ⟨fuel, hf⟩ := h
  have hC : Try.prog.cellsOf 24 = 1 := by kernel_rfl
  have hBy : Try.prog.bytesOf 24 = 24 := by kernel_rfl
  obtain ⟨A', len', cap', n', es, hn', hv', hlc, hnil, hes, hbk, hws, hget⟩ := slice_atW Try.underlying32 (by rw [hC]; omega) hf hw
  simp only [Value.cells] at hv'
  injection hv' with hv' _
  obtain ⟨rfl, rfl, rfl⟩ := Value.slice.inj hv'
  rw [hC] at hget
  rw [hBy] at hbk
  unfold reachBytes at hbk
  have hz : ∀ n c, Value.slice A len cap = .slice none n c → c = 0 := fun n c e => by obtain ⟨e1, e2, e3⟩ := Value.slice.inj e; subst e3; exact hnil e1
  by_cases hp : 0 < len
  · obtain ⟨b, o, rfl, hg⟩ := hget hp
    obtain ⟨ls, hls, hr⟩ := levels_inW es o hws hg
    obtain rfl : len = ls.length := by omega
    exact ⟨ls, ⟨_, _, rfl, hlc, by omega, fun _ => ⟨b, o, rfl, hr⟩⟩, hz, by omega⟩
  · obtain rfl : len = 0 := by omega
    exact ⟨[], ⟨_, _, rfl, Nat.zero_le _, Nat.zero_le _, fun h => by simp at h⟩, hz, Nat.zero_le _⟩
set_option maxRecDepth 100000 in
theorem ints_argW {r : Reach} {b0 : Nat} {v : Value} {d : DataW H} {p : List MemPlace} (hv : Value.okWide Try.prog w r b0 25 v) (h : DataW.Trod enc Try.prog w base spare held 25 v d p) (hw : ∀ n ∈ d.weights Try.prog 25, n ≤ reachBytes) : ∃ xs, RIv w xs v := by
  obtain ⟨A, len, cap, rfl⟩ := okWide_slice Try.underlying25 hv
  obtain ⟨fuel, hf⟩ := h
  have hC : Try.prog.cellsOf 3 = 1 := by kernel_rfl
  have hBy : Try.prog.bytesOf 3 = 8 := by kernel_rfl
  obtain ⟨A', len', cap', n', es, hn', hv', hlc, hnil, hes, hbk, _, hget⟩ := slice_atW Try.underlying25 (by rw [hC]; omega) hf hw
  simp only [Value.cells] at hv'
  injection hv' with hv' _
  obtain ⟨rfl, rfl, rfl⟩ := Value.slice.inj hv'
  rw [hC] at hget
  rw [hBy] at hbk
  unfold reachBytes at hbk
  by_cases hp : 0 < len
  · obtain ⟨b, o, rfl, hg⟩ := hget hp
    obtain ⟨xs, hl, hr⟩ := ints_inW es o hg
    obtain rfl : len = xs.length := by omega
    exact ⟨xs, _, _, rfl, hlc, by omega, fun _ => ⟨b, o, rfl, hr⟩⟩
  · obtain rfl : len = 0 := by omega
    exact ⟨[], _, _, rfl, Nat.zero_le _, Nat.zero_le _, fun h => by simp at h⟩
/-- The reach, for each argument. -/
theorem weights_at {P : Program} {ts : List TypeId} {ds : List (DataW H)} (h : (DataW.weightsEach P ts ds).all (· ≤ reachBytes) = true) {j : Nat} {t : TypeId} {d : DataW H} (ht : ts[j]? = some t) (hd : ds[j]? = some d) : ∀ n ∈ d.weights P t, n ≤ reachBytes :=
  fun n hn => by simpa using List.all_eq_true.1 h n (DataW.weights_mem_each ht hd n hn)
end

theorem laid_out : laidOutB Try.prog = true := by kernel_rfl
/-- The arguments read behind the call as before it. -/
theorem args_below {H : Type} {enc : TypeId × Value → H} {W W' : World} (hb : Below W.heap.size W W') : ∀ {ts : List TypeId} {vs : List Value} {ds : List (DataW H)} {ps : List MemPlace}, (∀ t ∈ ts, t < Try.prog.types.size ∧ Try.prog.readableRec t = true) → DataW.TrodAll enc Try.prog W 0 (fun _ => true) true ts vs ds ps → (∀ p ∈ ps, p.block < W.heap.size) →
    ∀ sp : Nat → Bool, (∀ p ∈ ps, sp p.block = true) → DataW.TrodAll enc Try.prog W' 0 sp true ts vs ds ps
  | [], _, _, _, _, h, _, _, _ => by
    obtain ⟨rfl, rfl, rfl⟩ := trodAll_nil h
    rfl
  | t :: ts, _, _, _, hts, h, hl, sp, hsp => by
    obtain ⟨v, vs1, d, ds1, a, b, rfl, rfl, rfl, h1, h2⟩ := trodAll_cons h
    refine ⟨a, b, ?_, args_below hb (fun t ht => hts t (List.mem_cons_of_mem _ ht)) h2 (fun x hx => hl x (List.mem_append_right _ hx)) sp (fun x hx => hsp x (List.mem_append_right _ hx)), rfl⟩
    exact WideElems.Trod_stays laid_out (hts t (List.mem_cons_self ..)).2 (hts t (List.mem_cons_self ..)).1 h1 (fun x hx => hb.same (hl x (List.mem_append_left _ hx))) (fun x hx => hsp x (List.mem_append_left _ hx))

/-- The row's post, where the call has left all that lay in the old world as it was: its own argument is 'post_of_same', but that it asks of marks on old cells alone. -/
theorem post_below {H : Type} {enc : TypeId × Value → H} {P : Program} {f : Func} {s : ChangeSpec} {apart fresh handsOn again : Bool} {W W' : World} {args : Array Value} {v : Value} {ds gs : List (DataW H)} {before : List MemPlace}
    (hW : DataW.Whole enc P f.params.toList s.vars apart W args.toList ds gs before) (hB : Below W.heap.size W W')
    (hres : ∀ (b : Nat) (sp : Nat → Bool) (hd : Bool), DataW.TrodAll enc P W' b sp hd f.resultTypes.toList (v.resultList f.resultTypes.size) (s.fn H (ds ++ gs)).results [])
    (hargs : ∀ sp : Nat → Bool, (∀ p ∈ before, sp p.block = true) → DataW.TrodAll enc P W' 0 sp true f.params.toList args.toList (s.fn H (ds ++ gs)).args before)
    (hvars : ∀ sp : Nat → Bool, (∀ p ∈ before, sp p.block = true) → DataW.TrodVars enc P W' sp s.vars (s.fn H (ds ++ gs)).vars [])
    (hok : ∀ (j : Nat) (t : TypeId) (r : Value), f.resultTypes[j]? = some t → (v.resultList f.resultTypes.size)[j]? = some r → Value.okWide P W' .any 0 t r) :
    s.post enc P f apart fresh handsOn again W args v W' := by
  have hlt := hW.lt
  have hold : ∀ p ∈ before, (fun b => decide (b < W.heap.size)) p.block = true := fun p hp => by simpa using hlt p hp
  refine ⟨ds, gs, before, [], before, [], hW, hres _ _ _, hargs _ hold, hvars _ hold, World.keptBut_mono (fun p hp => ⟨hp, by simpa using hp⟩) (hB.frame _), fun _ => ?_⟩
  obtain ⟨_, _, _, _, _, hz, hn⟩ := hW
  refine ⟨hok, _, _, ([] ++ before) ++ [], ⟨[] ++ before, [], trodAll_append (hargs _ (fun _ _ => rfl)) (hres _ _ _), hvars _ (fun _ _ => rfl), rfl, ?_, ?_⟩, ?_⟩
  · intro b off hp
    have hp' : MemPlace.cell b off ∈ before := by simpa using hp
    rw [hB.frozen (p := ⟨b, off, none⟩) (hlt _ hp')]
    exact hz b off hp'
  · intro ha
    simpa using hn ha
  · intro p hp _
    simpa using hp

end Go.Proofs.Ytgegaipkfpdocaa
