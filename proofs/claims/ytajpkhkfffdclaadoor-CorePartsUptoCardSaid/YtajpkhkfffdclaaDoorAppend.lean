/-
  append OF TERMS AT A STEP OF A REGION THAT DRAWS: what comes reads as both lists.
-/
import Derived.Test.YtajpkhkfffdclaaDoorAwake
namespace Go.Proofs.YtajpkhkfffdclaaDoor
open Go.RowKit

/-- Cells that read as terms. -/
def RXT (w : World) : List Tm → List Value → Prop
  | [], xs => xs = []
  | t :: ts, xs => ∃ vl vk xs', xs = .int .i64 t.kind :: .int .i64 t.num :: .int .i64 t.atN :: vl :: vk :: xs' ∧ RT w t vl vk ∧ RXT w ts xs'
theorem RXT.below {w w1 : World} (hb : Below w.heap.size w w1) : ∀ {ts : List Tm} {xs : List Value}, RXT w ts xs → RXT w1 ts xs
  | [], _, h => h
  | _ :: _, _, ⟨vl, vk, xs', e, h, h'⟩ => ⟨vl, vk, xs', e, h.below hb, h'.below hb⟩
theorem RXT.length {w : World} : ∀ {ts : List Tm} {xs : List Value}, RXT w ts xs → xs.length = ts.length * 5
  | [], _, h => by rw [show _ = [] from h]; rfl
  | _ :: ts, _, ⟨vl, vk, xs', e, _, h'⟩ => by subst e; simp only [List.length_cons, h'.length]; omega
theorem RXT.one {w : World} : ∀ {ts : List Tm} {xs : List Value}, RXT w ts xs → ∀ u ∈ xs, u.oneCell' = true
  | [], _, h => by rw [show _ = [] from h]; intro u hu; cases hu
  | _ :: ts, _, ⟨vl, vk, xs', e, h, h'⟩ => by
    subst e
    obtain ⟨A, n, c, A', n', c', rfl, rfl⟩ := h.forms
    intro u hu
    simp only [List.mem_cons] at hu
    rcases hu with rfl | rfl | rfl | rfl | rfl | hu
    · rfl
    · rfl
    · rfl
    · rfl
    · rfl
    · exact h'.one u hu
theorem RXT.app {w : World} {us : List Tm} {ys : List Value} (hu : RXT w us ys) : ∀ {ts : List Tm} {xs : List Value}, RXT w ts xs → RXT w (ts ++ us) (xs ++ ys)
  | [], _, h => by rw [show _ = [] from h]; exact hu
  | _ :: _, _, ⟨vl, vk, xs', e, h, h'⟩ => ⟨vl, vk, xs' ++ ys, by rw [e]; rfl, h, hu.app h'⟩
theorem RXT.reads {w : World} {b : Nat} : ∀ {ts : List Tm} {xs : List Value} {o : Nat}, RXT w ts xs → (∀ j u, xs[j]? = some u → w.cell? ⟨b, o + j, none⟩ = some u) → RK w b o ts
  | [], _, _, _, _ => by simp only [RK]
  | t :: ts, _, o, ⟨vl, vk, xs', e, h, h'⟩, hc => by
    subst e
    simp only [RK]
    refine ⟨⟨vl, vk, hc 0 _ rfl, hc 1 _ rfl, hc 2 _ rfl, hc 3 _ rfl, hc 4 _ rfl, h⟩, h'.reads fun j u hj => ?_⟩
    have := hc (j + 5) u (by simpa using hj)
    rwa [show o + (j + 5) = o + 5 + j from by omega] at this
theorem RK.cellsT {w : World} {b : Nat} : ∀ {ts : List Tm} {o : Nat}, RK w b o ts → ∃ xs, RXT w ts xs ∧ ∀ j u, xs[j]? = some u → w.cell? ⟨b, o + j, none⟩ = some u
  | [], _, _ => ⟨[], rfl, fun j u h => by simp at h⟩
  | t :: ts, o, h => by
    simp only [RK] at h
    obtain ⟨⟨vl, vk, h0, h1, h2, h3, h4, h5⟩, h6⟩ := h
    obtain ⟨xs, hx, hc⟩ := RK.cellsT h6
    refine ⟨_, ⟨vl, vk, xs, rfl, h5, hx⟩, fun j u hj => ?_⟩
    match j, hj with
    | 0, hj => simp at hj; subst hj; exact h0
    | 1, hj => simp at hj; subst hj; exact h1
    | 2, hj => simp at hj; subst hj; exact h2
    | 3, hj => simp at hj; subst hj; exact h3
    | 4, hj => simp at hj; subst hj; exact h4
    | j + 5, hj =>
      have := hc j u (by simpa using hj)
      rwa [show o + 5 + j = o + (j + 5) from by omega] at this
/-- A row that one owns reads. -/
theorem RKv_own {w w0 : World} {ts : List Tm} {xs : List Value} {v : Value} (hown : w.ownsRow w0.heap.size 26 5 v ts.length xs) (hx : RXT w0 ts xs) (hb : Below w0.heap.size w0 w) (hm : ts.length ≤ 1954687338268) : RKv w ts v := by
  obtain ⟨A, c, e, hc, _, hcell⟩ := own_form hown
  refine ⟨A, c, e, hc, hm, fun hp => ?_⟩
  obtain ⟨g, eA, h⟩ := hcell hp
  exact ⟨g, 0, eA, (hx.below hb).reads fun j u hj => by rw [Nat.zero_add]; exact h j u hj⟩

theorem wanted_wp {P : Program} {ops : Array Oper} {o : Oper} {a : Act} {w : World} {K : Act → World → Prop} {Q : Exit → Act → World → Prop} {E : Prop} (hw : Region.wanted o (yielded ops a.tmps) = true) (h : Oper.wp P o a w K Q) :
    if Region.wanted o (yielded ops a.tmps) = true then Oper.wp P o a w K Q else E := by rw [if_pos hw]; exact h

/-- append(ts.., bys...), ts one's own. -/
theorem append_kids {o : Oper} {a : Act} {w w0 : World} {K : Act → World → Prop} {Q : Exit → Act → World → Prop} (s x : Operand)
    (ho : o.op = .call { callee := .builtin .append, args := #[s, x], argTypes := #[24, 24] })
    (ts bys : List Tm) (v vb : Value) (xs : List Value) (hs : a.eval s = v) (hown : w.ownsRow w0.heap.size 26 5 v ts.length xs) (hx : RXT w0 ts xs) (hb0 : Below w0.heap.size w0 w)
    (hvb : a.eval x = vb) (hb : RKv w0 bys vb) (hnil : ∀ n c, vb = .slice none n c → c = 0) (hm : ts.length + bys.length ≤ 1900000000000)
    (h : ∀ A n c w', RKv w' (ts ++ bys) (.slice A n c) → Below w0.heap.size w0 w' → K (a.put o.dst (.slice A n c)) w') : o.wp Tryd.prog a w K Q := by
  obtain ⟨i0, hi, hz0, hz1, hz2⟩ := info_parts info_term
  obtain ⟨A, c, rfl, hc, hlb, hcp⟩ := hb
  cases A with
  | none =>
    obtain rfl := hnil _ _ rfl
    have hl : bys.length = 0 := by omega
    obtain rfl : bys = [] := List.eq_nil_of_length_eq_zero hl
    have hr := run_append_owned_none (P := Tryd.prog) (w := w) w0.heap.size 24 o.type 26 i0 5 Tryd.underlying24 hi v ts.length xs hown
    unfold Oper.wp execOp
    simp only [ho, resolve, invoke, builtin, Sem.run_bind, Sem.run_pure, Result.andThen_ok, List.map_toArray, List.map_cons, List.map_nil, hs, hvb, List.length_nil, hr]
    obtain ⟨A', c', e, _⟩ := own_form hown
    have hk := RKv_own hown hx hb0 (by omega)
    rw [e] at hk ⊢
    exact h _ _ _ w (by rw [List.append_nil]; exact hk) hb0
  | some ad =>
    obtain ⟨news, hnx, hnews⟩ : ∃ news, RXT w0 bys news ∧ ∀ j u, news[j]? = some u → w0.cell? (ad.add j) = some u := by
      by_cases h0 : 0 < bys.length
      · obtain ⟨b, of, e, hr⟩ := hcp h0
        injection e with e
        subst e
        obtain ⟨news, h1, h2⟩ := hr.cellsT
        exact ⟨news, h1, fun j u hj => by rw [Addr.add_lit]; exact h2 j u hj⟩
      · obtain rfl : bys = [] := List.eq_nil_of_length_eq_zero (by omega)
        exact ⟨[], rfl, fun j u hj => by simp at hj⟩
    have hnews' : ∀ j u, news[j]? = some u → w.cell? (ad.add j) = some u := fun j u hj => (hb0.cell (World.block_lt_of_cell? w0 _ (hnews j u hj))).trans (hnews j u hj)
    obtain ⟨v', w', hr, h2, h3, _⟩ := run_append_own_at (P := Tryd.prog) w w0.heap.size 24 o.type 26 i0 _ 5 72 Tryd.underlying24 hi hz0 hz1 hz2 rfl (by omega) v ts.length xs hown ad bys.length c news (by rw [hnx.length]) hnews' hnx.one (by unfold maxLen; omega) (by omega) hb0.size
    unfold Oper.wp execOp
    simp only [ho, resolve, invoke, builtin, Sem.run_bind, Sem.run_pure, Result.andThen_ok, List.map_toArray, List.map_cons, List.map_nil, hs, hvb, hr]
    have hb2 : Below w0.heap.size w0 w' := hb0.grown h3 hb0.size (fun q hq => (own_in hown q (by rw [hq]; simp)).1)
    have hl : ts.length + bys.length = (ts ++ bys).length := by rw [List.length_append]
    rw [hl] at h2
    obtain ⟨A', c', e, _⟩ := own_form h2
    have hk := RKv_own h2 (hnx.app hx) hb2 (by rw [List.length_append]; omega)
    rw [e] at hk ⊢
    exact h _ _ _ w' hk hb2

end Go.Proofs.YtajpkhkfffdclaaDoor
