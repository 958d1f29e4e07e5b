/-
  FROM THE READING OF THE ARGUMENTS TO HOW TERMS LIE: what 'DataW.trod' reads as a Term lies as 'RT' says, as a []Term as 'RKv' says; its bulk bounds its size.
-/
import Derived.Test.YtgegaipkfpdocaaDoorTermC
import Derived.Test.YtgegaipkfpdocaaDoorRows
import Derived.Deep.Slices
import Derived.Deep.Fields
import Derived.ChangeSame
import Derived.OpenShut
namespace Go.Proofs.YtgegaipkfpdocaaDoor
open Go.ChangeShapes Go.WideShapes Go.Deep Go.RowKit

section
variable {H : Type} {enc : TypeId × Value → H} {w : World} {base : Nat} {spare : Nat → Bool} {held : Bool}

theorem bulk_at {l : List (DataW H)} {i : Nat} {y : DataW H} (h : l[i]? = some y) : Rows.uptoBulk y ≤ Rows.uptoBulkAll l := by
  induction l generalizing i with
  | nil => simp at h
  | cons x r ih =>
    simp only [Rows.uptoBulkAll]
    cases i with
    | zero => simp only [List.getElem?_cons_zero, Option.some.injEq] at h; subst h; omega
    | succ i => have := ih (i := i) (by simpa using h); omega
theorem bulk_pos (d : DataW H) : 1 ≤ Rows.uptoBulk d := by
  cases d with
  | lit l => cases l <;> simp [Rows.uptoBulk]
  | _ => simp [Rows.uptoBulk]
theorem bulk_len (l : List (DataW H)) : l.length ≤ Rows.uptoBulkAll l := by
  induction l with
  | nil => simp [Rows.uptoBulkAll]
  | cons x r ih => have := bulk_pos x; simp only [Rows.uptoBulkAll, List.length_cons]; omega

theorem struct_at {P : Program} {t : TypeId} {fs : Array Field} {fuel : Nat} {cs : List Value} {x : DataW H × List MemPlace} (ht : P.underlying t = some (.struct fs)) (hone : oneCellFields P fs = true) (hC : P.cellsOf t = fs.size) (h : DataW.trod enc P w base spare held fuel t cs = some x) :
    ∃ (n : Nat) (ys : List (DataW H)), fuel = n + 1 ∧ cs.length = fs.size ∧ x.1 = .agg ys ∧ ys.length = fs.size ∧ ∀ (j : Nat) (f : Field), fs[j]? = some f → ∃ v y pl, cs[j]? = some v ∧ ys[j]? = some y ∧ DataW.trod enc P w base spare held n f.type [v] = some (y, pl) := by
  obtain ⟨xs, n, hn, hx, hl, hlen, hf⟩ := DataW.trod_struct ht h
  refine ⟨n, xs.map (·.1), hn, hl.trans hC, by rw [hx], by simpa using hlen, fun j f hj => ?_⟩
  obtain ⟨ho, hk⟩ := hone_of hone j f hj
  have hjl : j < fs.size := (Array.getElem?_eq_some_iff.1 hj).1
  have h1 := hf j f hj
  rw [ho, hk] at h1
  have hone' : (cs.drop j).take 1 = [cs[j]'(by omega)] := by
    rw [List.drop_eq_getElem_cons (by omega)]; rfl
  rw [hone'] at h1
  have hys : xs[j]? = some (xs[j]'(by omega)) := List.getElem?_eq_getElem (by omega)
  exact ⟨_, _, (xs[j]'(by omega)).2, List.getElem?_eq_getElem (by omega), by simp [hys], h1.trans hys⟩

theorem slice_at {P : Program} {t e : TypeId} {fuel : Nat} {cs : List Value} {x : DataW H × List MemPlace} (ht : P.underlying t = some (.slice e)) (hpos : 0 < P.cellsOf e) (h : DataW.trod enc P w base spare held fuel t cs = some x) :
    ∃ (A : Option Addr) (len cap n : Nat) (es : List (DataW H)), fuel = n + 1 ∧ cs = [.slice A len cap] ∧ len ≤ cap ∧ (A = none → cap = 0) ∧ es.length = len ∧ Rows.uptoBulkAll es + 1 ≤ Rows.uptoBulk x.1 ∧
      (0 < len → ∃ b o, A = some ⟨b, o, none⟩ ∧ ∀ i y, es[i]? = some y → ∃ cs' pl, DataW.trod enc P w base spare held n e cs' = some (y, pl) ∧ ∀ j, j < P.cellsOf e → w.cell? ⟨b, o + (i * P.cellsOf e + j), none⟩ = cs'[j]?) := by
  cases fuel with
  | zero => simp [DataW.trod] at h
  | succ m =>
    rcases DataW.trod_slice ht h with ⟨rfl, rfl⟩ | ⟨a, len, cap, elems, rest, n, hn, rfl, rfl, hb, hl, hm, hlen, hel, _, _⟩
    · exact ⟨none, 0, 0, m, [], rfl, rfl, Nat.le_refl _, fun _ => rfl, rfl, by simp [Rows.uptoBulk, Rows.uptoBulkAll], fun h => by omega⟩
    · refine ⟨some a, len, cap, n, elems.map (·.1), hn, rfl, hl, fun h => by simp at h, by simpa using hlen, by simp only [Rows.uptoBulk]; omega, fun h0 => ?_⟩
      obtain ⟨b, off, spot⟩ := a
      have g : ∀ i z, elems[i]? = some z → i < len := fun i z hz => by
        have := (List.getElem?_eq_some_iff.1 hz).1
        omega
      have hspot : spot = none := by
        have h1 := hel 0 h0
        rw [List.getElem?_eq_getElem (by omega)] at h1
        obtain ⟨cs', hc, _⟩ := Option.bind_eq_some_iff.1 h1
        obtain ⟨_, hcl, hcell⟩ := World.cells?_some hc
        have h2 := hcell 0 hpos
        rw [List.getElem?_eq_getElem (by omega)] at h2
        simpa [Addr.add] using World.cell?_spot h2
      subst hspot
      refine ⟨b, off, rfl, fun i y hy => ?_⟩
      rw [List.getElem?_map] at hy
      obtain ⟨z, hz, rfl⟩ := Option.map_eq_some_iff.1 hy
      have h1 := hel i (g i z hz)
      rw [hz] at h1
      obtain ⟨cs', hc, ht'⟩ := Option.bind_eq_some_iff.1 h1
      obtain ⟨_, hcl, hcell⟩ := World.cells?_some hc
      refine ⟨cs', z.2, ht', fun j hj => ?_⟩
      rw [← hcell j hj, Go.Deep.add_add, add_plain]

theorem part_of {fuel : Nat} {cs : List Value} {x : DataW H × List MemPlace} (h : DataW.trod enc Tryd.prog w base spare held fuel 39 cs = some x) : ∃ p : Int × Int, cs = [.int .i64 p.1, .int .i64 p.2] ∧ I64 p.1 ∧ I64 p.2 := by
  obtain ⟨n, ys, hn, hl, hx, hyl, hf⟩ := struct_at Tryd.underlying39 (by kernel_rfl) (by kernel_rfl) h
  obtain ⟨v0, y0, p0, c0, e0, t0⟩ := hf 0 _ rfl
  obtain ⟨v1, y1, p1, c1, e1, t1⟩ := hf 1 _ rfl
  obtain ⟨a, ha, _, wa⟩ := DataW.trod_int Tryd.underlying3 t0
  obtain ⟨b, hb, _, wb⟩ := DataW.trod_int Tryd.underlying3 t1
  injection ha with ha _
  injection hb with hb _
  subst ha hb
  match cs, hl with
  | [x0, x1], _ =>
    simp at c0 c1
    subst c0 c1
    exact ⟨(a, b), rfl, bounds_i64 wa, bounds_i64 wb⟩

theorem parts_of {n b : Nat} : ∀ (es : List (DataW H)) (o : Nat), (∀ i y, es[i]? = some y → ∃ cs' pl, DataW.trod enc Tryd.prog w base spare held n 39 cs' = some (y, pl) ∧ ∀ j, j < 2 → w.cell? ⟨b, o + (i * 2 + j), none⟩ = cs'[j]?) →
    ∃ ps : Lv, ps.length = es.length ∧ RP w b o ps ∧ ∀ p ∈ ps, I64 p.1 ∧ I64 p.2
  | [], _, _ => ⟨[], rfl, trivial, fun _ h => by cases h⟩
  | y :: es, o, h => by
    obtain ⟨ps, hl, hr, hi⟩ := parts_of es (o + 2) (fun i y hy => by
      obtain ⟨cs', pl, h1, h2⟩ := h (i + 1) y (by simpa using hy)
      exact ⟨cs', pl, h1, fun j hj => by rw [← h2 j hj]; congr 2; omega⟩)
    obtain ⟨cs', pl, h1, h2⟩ := h 0 y rfl
    obtain ⟨p, rfl, q1, q2⟩ := part_of h1
    refine ⟨p :: ps, by simp [hl], ⟨⟨by simpa using h2 0 (by omega), by simpa using h2 1 (by omega)⟩, hr⟩, fun p' hp => ?_⟩
    cases List.mem_cons.1 hp with
    | inl e => subst e; exact ⟨q1, q2⟩
    | inr e => exact hi p' e

/-- All numbers of levels are ints. -/
def rangedP (ls : List Lv) : Prop := ∀ l ∈ ls, ∀ p ∈ l, I64 p.1 ∧ I64 p.2

theorem level_of {fuel : Nat} {cs : List Value} {x : DataW H × List MemPlace} (h : DataW.trod enc Tryd.prog w base spare held fuel 37 cs = some x) (hb : Rows.uptoBulk x.1 ≤ 1048576) : ∃ l v, cs = [v] ∧ RPv w l v ∧ ∀ p ∈ l, I64 p.1 ∧ I64 p.2 := by
  obtain ⟨n, ys, hn, hl, hx, hyl, hf⟩ := struct_at Tryd.underlying37 (by kernel_rfl) (by kernel_rfl) h
  obtain ⟨v0, y0, p0, c0, e0, t0⟩ := hf 0 _ rfl
  have hC : Tryd.prog.cellsOf 39 = 2 := by kernel_rfl
  obtain ⟨A, len, cap, n', es, hn', hv, hlc, hnil, hes, hbk, hget⟩ := slice_at Tryd.underlying35 (by rw [hC]; omega) t0
  injection hv with hv _
  subst hv
  rw [hC] at hget
  rw [hx] at hb
  simp only [Rows.uptoBulk] at hb
  have hb0 := bulk_at e0
  have hlen := bulk_len es
  match cs, hl with
  | [x0], _ =>
    simp at c0
    subst c0
    by_cases hp : 0 < len
    · obtain ⟨b, o, rfl, hg⟩ := hget hp
      obtain ⟨ps, hps, hr, hi⟩ := parts_of es o hg
      obtain rfl : len = ps.length := by omega
      exact ⟨ps, _, rfl, ⟨_, _, rfl, hlc, by simp only at hbk hlen ⊢; omega, fun _ => ⟨b, o, rfl, hr⟩⟩, hi⟩
    · obtain rfl : len = 0 := by omega
      exact ⟨[], _, rfl, ⟨_, _, rfl, Nat.zero_le _, Nat.zero_le _, fun h => by simp at h⟩, fun _ h => by cases h⟩

theorem levels_in {n b : Nat} : ∀ (es : List (DataW H)) (o : Nat), Rows.uptoBulkAll es ≤ 1048576 → (∀ i y, es[i]? = some y → ∃ cs' pl, DataW.trod enc Tryd.prog w base spare held n 37 cs' = some (y, pl) ∧ ∀ j, j < 1 → w.cell? ⟨b, o + (i * 1 + j), none⟩ = cs'[j]?) →
    ∃ ls : List Lv, ls.length = es.length ∧ RL w b o ls ∧ rangedP ls
  | [], _, _, _ => ⟨[], rfl, trivial, fun _ h => by cases h⟩
  | y :: es, o, hb, h => by
    simp only [Rows.uptoBulkAll] at hb
    obtain ⟨ps, hl, hr, hi⟩ := levels_in es (o + 1) (by omega) (fun i y hy => by
      obtain ⟨cs', pl, h1, h2⟩ := h (i + 1) y (by simpa using hy)
      exact ⟨cs', pl, h1, fun j hj => by rw [← h2 j hj]; congr 2; omega⟩)
    obtain ⟨cs', pl, h1, h2⟩ := h 0 y rfl
    obtain ⟨l, v, rfl, q1, q2⟩ := level_of h1 (by simp only; omega)
    refine ⟨l :: ps, by simp [hl], ⟨⟨v, by simpa using h2 0 (by omega), q1⟩, hr⟩, fun p' hp => ?_⟩
    cases List.mem_cons.1 hp with
    | inl e => subst e; exact q2
    | inr e => exact hi p' e

set_option maxRecDepth 100000 in
theorem levels_of {fuel : Nat} {v : Value} {x : DataW H × List MemPlace} (h : DataW.trod enc Tryd.prog w base spare held fuel 24 [v] = some x) (hb : Rows.uptoBulk x.1 ≤ 1048576) : ∃ ls, RLv w ls v ∧ rangedP ls ∧ (∀ n c, v = .slice none n c → c = 0) ∧ ls.length ≤ 1048576 := by
  have hC : Tryd.prog.cellsOf 37 = 1 := by kernel_rfl
  obtain ⟨A, len, cap, n', es, hn', hv, hlc, hnil, hes, hbk, hget⟩ := slice_at Tryd.underlying24 (by rw [hC]; omega) h
  injection hv with hv _
  subst hv
  rw [hC] at hget
  have hlen := bulk_len es
  have hz : ∀ n c, Value.slice A len cap = .slice none n c → c = 0 := fun n c e => by obtain ⟨e1, e2, e3⟩ := Value.slice.inj e; subst e3; exact hnil e1
  by_cases hp : 0 < len
  · obtain ⟨b, o, rfl, hg⟩ := hget hp
    obtain ⟨ls, hls, hr, hi⟩ := levels_in es o (by omega) hg
    obtain rfl : len = ls.length := by omega
    exact ⟨ls, ⟨_, _, rfl, hlc, by omega, fun _ => ⟨b, o, rfl, hr⟩⟩, hi, hz, by omega⟩
  · obtain rfl : len = 0 := by omega
    exact ⟨[], ⟨_, _, rfl, Nat.zero_le _, Nat.zero_le _, fun h => by simp at h⟩, (fun _ h => by cases h), hz, Nat.zero_le _⟩

/-- What a Term's cells hold. -/
def TermAt (w : World) (n : Nat) (cs : List Value) (t : Tm) : Prop :=
  ∃ vl vk, cs = [.int .i64 t.kind, .int .i64 t.num, .int .i64 t.atN, vl, vk] ∧ RT w t vl vk ∧ ranged t ∧ size t ≤ n

theorem kids_of {n b : Nat} (ih : ∀ cs (x : DataW H × List MemPlace), DataW.trod enc Tryd.prog w base spare held n 27 cs = some x → Rows.uptoBulk x.1 ≤ 1048576 → ∃ t, TermAt w (Rows.uptoBulk x.1) cs t) :
    ∀ (es : List (DataW H)) (o : Nat), Rows.uptoBulkAll es ≤ 1048576 → (∀ i y, es[i]? = some y → ∃ cs' pl, DataW.trod enc Tryd.prog w base spare held n 27 cs' = some (y, pl) ∧ ∀ j, j < 5 → w.cell? ⟨b, o + (i * 5 + j), none⟩ = cs'[j]?) →
    ∃ ks : List Tm, ks.length = es.length ∧ RK w b o ks ∧ rangedL ks ∧ sizeL ks ≤ Rows.uptoBulkAll es
  | [], _, _, _ => ⟨[], rfl, by simp only [RK], by simp only [rangedL], by simp [sizeL]⟩
  | y :: es, o, hb, h => by
    simp only [Rows.uptoBulkAll] at hb
    obtain ⟨ks, hl, hr, hi, hs⟩ := kids_of ih es (o + 5) (by omega) (fun i y hy => by
      obtain ⟨cs', pl, h1, h2⟩ := h (i + 1) y (by simpa using hy)
      exact ⟨cs', pl, h1, fun j hj => by rw [← h2 j hj]; congr 2; omega⟩)
    obtain ⟨cs', pl, h1, h2⟩ := h 0 y rfl
    obtain ⟨t, vl, vk, rfl, q1, q2, q3⟩ := ih _ _ h1 (by simp only; omega)
    refine ⟨t :: ks, by simp [hl], ?_, ?_, ?_⟩
    · simp only [RK]
      exact ⟨⟨vl, vk, by simpa using h2 0 (by omega), by simpa using h2 1 (by omega), by simpa using h2 2 (by omega), by simpa using h2 3 (by omega), by simpa using h2 4 (by omega), q1⟩, hr⟩
    · simp only [rangedL]; exact ⟨q2, hi⟩
    · simp only [sizeL, Rows.uptoBulkAll] at q3 ⊢; omega

set_option maxRecDepth 100000 in
theorem kidsv_of {fuel : Nat} {v : Value} {x : DataW H × List MemPlace} (ih : ∀ n, n < fuel → ∀ cs (x : DataW H × List MemPlace), DataW.trod enc Tryd.prog w base spare held n 27 cs = some x → Rows.uptoBulk x.1 ≤ 1048576 → ∃ t, TermAt w (Rows.uptoBulk x.1) cs t)
    (h : DataW.trod enc Tryd.prog w base spare held fuel 25 [v] = some x) (hb : Rows.uptoBulk x.1 ≤ 1048576) : ∃ ks, RKv w ks v ∧ rangedL ks ∧ sizeL ks + 1 ≤ Rows.uptoBulk x.1 ∧ ∀ n c, v = .slice none n c → c = 0 := by
  have hC : Tryd.prog.cellsOf 27 = 5 := by kernel_rfl
  obtain ⟨A, len, cap, n', es, hn', hv, hlc, hnil, hes, hbk, hget⟩ := slice_at Tryd.underlying25 (by rw [hC]; omega) h
  injection hv with hv _
  subst hv
  rw [hC] at hget
  have hlen := bulk_len es
  have hz : ∀ n c, Value.slice A len cap = .slice none n c → c = 0 := fun n c e => by obtain ⟨e1, e2, e3⟩ := Value.slice.inj e; subst e3; exact hnil e1
  by_cases hp : 0 < len
  · obtain ⟨b, o, rfl, hg⟩ := hget hp
    obtain ⟨ks, hks, hr, hi, hs⟩ := kids_of (ih n' (by omega)) es o (by omega) hg
    obtain rfl : len = ks.length := by omega
    exact ⟨ks, ⟨_, _, rfl, hlc, by omega, fun _ => ⟨b, o, rfl, hr⟩⟩, hi, by omega, hz⟩
  · obtain rfl : len = 0 := by omega
    exact ⟨[], ⟨_, _, rfl, Nat.zero_le _, Nat.zero_le _, fun h => by simp at h⟩, by simp only [rangedL], by simp only [sizeL]; omega, hz⟩

theorem term_of (fuel : Nat) : ∀ cs (x : DataW H × List MemPlace), DataW.trod enc Tryd.prog w base spare held fuel 27 cs = some x → Rows.uptoBulk x.1 ≤ 1048576 → ∃ t, TermAt w (Rows.uptoBulk x.1) cs t := by
  induction fuel using Nat.strongRecOn with
  | _ fuel ih =>
    intro cs x h hb
    obtain ⟨n, ys, hn, hl, hx, hyl, hf⟩ := struct_at Tryd.underlying27 (by kernel_rfl) (by kernel_rfl) h
    obtain ⟨v0, y0, p0, c0, e0, t0⟩ := hf 0 _ rfl
    obtain ⟨v1, y1, p1, c1, e1, t1⟩ := hf 1 _ rfl
    obtain ⟨v2, y2, p2, c2, e2, t2⟩ := hf 2 _ rfl
    obtain ⟨v3, y3, p3, c3, e3, t3⟩ := hf 3 _ rfl
    obtain ⟨v4, y4, p4, c4, e4, t4⟩ := hf 4 _ rfl
    obtain ⟨k, hk, _, wk⟩ := DataW.trod_int Tryd.underlying23 t0
    obtain ⟨m, hm, _, wm⟩ := DataW.trod_int Tryd.underlying3 t1
    obtain ⟨a, ha, _, wa⟩ := DataW.trod_int Tryd.underlying3 t2
    injection hk with hk _
    injection hm with hm _
    injection ha with ha _
    subst hk hm ha
    rw [hx] at hb ⊢
    simp only [Rows.uptoBulk] at hb
    have b3 := bulk_at e3
    have b4 := bulk_at e4
    obtain ⟨ls, hls, _⟩ := levels_of t3 (by simp only; omega)
    obtain ⟨ks, hks, r1, r2, _⟩ := kidsv_of (fun n' hn' => ih n' (by omega)) t4 (by simp only; omega)
    match cs, hl with
    | [x0, x1, x2, x3, x4], _ =>
      simp at c0 c1 c2 c3 c4
      subst c0 c1 c2 c3 c4
      refine ⟨.node k m a ls ks, _, _, rfl, (RT_iff _ _ _ _ _ _ _ _).2 ⟨hls, hks⟩, ?_, ?_⟩
      · simp only [ranged]; exact ⟨⟨bounds_i64 wk, bounds_i64 wm, bounds_i64 wa⟩, r1⟩
      · simp only [size, Rows.uptoBulk] at r2 ⊢; omega

set_option maxRecDepth 100000 in
/-- An argument that is a Term. -/
theorem term_arg {r : Reach} {b0 : Nat} {v : Value} {d : DataW H} {p : List MemPlace} (hv : Value.okWide Tryd.prog w r b0 27 v) (h : DataW.Trod enc Tryd.prog w base spare held 27 v d p) (hb : Rows.uptoBulk d ≤ 1048576) :
    ∃ t vl vk, v = .agg #[.int .i64 t.kind, .int .i64 t.num, .int .i64 t.atN, vl, vk] ∧ RT w t vl vk ∧ ranged t ∧ size t ≤ Rows.uptoBulk d := by
  obtain ⟨cs, rfl, hsz⟩ := okWide_struct Tryd.underlying27 hv
  obtain ⟨fuel, hf⟩ := h
  obtain ⟨t, vl, vk, e, h1, h2, h3⟩ := term_of fuel _ _ hf hb
  refine ⟨t, vl, vk, ?_, h1, h2, h3⟩
  obtain ⟨l⟩ := cs
  simp only [Value.cells] at e
  subst e
  rfl
set_option maxRecDepth 100000 in
theorem terms_arg {r : Reach} {b0 : Nat} {v : Value} {d : DataW H} {p : List MemPlace} (hv : Value.okWide Tryd.prog w r b0 25 v) (h : DataW.Trod enc Tryd.prog w base spare held 25 v d p) (hb : Rows.uptoBulk d ≤ 1048576) :
    ∃ ks, RKv w ks v ∧ rangedL ks ∧ sizeL ks ≤ Rows.uptoBulk d ∧ ∀ n c, v = .slice none n c → c = 0 := by
  obtain ⟨A, len, cap, rfl⟩ := okWide_slice Tryd.underlying25 hv
  obtain ⟨fuel, hf⟩ := h
  obtain ⟨ks, h1, h2, h3, h4⟩ := kidsv_of (fun n _ => term_of n) hf hb
  exact ⟨ks, h1, h2, Nat.le_of_succ_le h3, h4⟩
set_option maxRecDepth 100000 in
theorem levels_arg {r : Reach} {b0 : Nat} {v : Value} {d : DataW H} {p : List MemPlace} (hv : Value.okWide Tryd.prog w r b0 24 v) (h : DataW.Trod enc Tryd.prog w base spare held 24 v d p) (hb : Rows.uptoBulk d ≤ 1048576) :
    ∃ ls, RLv w ls v ∧ rangedP ls ∧ (∀ n c, v = .slice none n c → c = 0) ∧ ls.length ≤ 1048576 := by
  obtain ⟨A, len, cap, rfl⟩ := okWide_slice Tryd.underlying24 hv
  obtain ⟨fuel, hf⟩ := h
  exact levels_of hf hb
end

end Go.Proofs.YtgegaipkfpdocaaDoor
