/-
  APPENDING A ROW THAT CAME IN TO A ROW OF ONE'S OWN: levels.
-/
import Derived.Test.YtgegaipkfpdocaaLawA
namespace Go.Proofs.Ytgegaipkfpdocaa
open Go.RowKit Go.Maps
set_option linter.unusedSimpArgs false
set_option linter.unusedVariables false

theorem appendL_own {o : Oper} {a : Act} {w : World} {K : Act → World → Prop} {Q : Exit → Act → World → Prop} (B : Nat) (E T : TypeId) (size bytes : Nat) (i0 : TypeInfo) (z0 : Value)
    (hT : Try.prog.underlying T = some (.slice E)) (hi : Try.prog.info? E = some i0) (hz0 : i0.zero = some z0) (hz1 : i0.size = size) (hz2 : i0.bytes = bytes) (hz3 : z0.cells.size = size) (hsz : 0 < size)
    (s x : Operand) (ho : o.op = .call { callee := .builtin .append, args := #[s, x], argTypes := #[T, T] })
    (n m : Nat) (v vb : Value) (xs news : List Value) (hs : a.eval s = v) (hown : w.ownsRow B E size v n xs) (hvb : a.eval x = vb)
    (hb : (vb = .slice none 0 0 ∧ m = 0 ∧ news = []) ∨ ∃ ad c, vb = .slice (some ad) m c ∧ news.length = m * size ∧ (∀ j u, news[j]? = some u → w.cell? (ad.add j) = some u) ∧ ∀ u ∈ news, u.oneCell' = true)
    (h63 : n + m ≤ maxLen) (hbytes : (n + m) * bytes ≤ 140737488355328) (hB : B ≤ w.heap.size)
    (h : ∀ v' w', w'.ownsRow B E size v' (n + m) (xs ++ news) → w.grownBy w' v.ownBlock → K (a.put o.dst v') w') : o.wp Try.prog a w K Q := by
  rcases hb with ⟨rfl, rfl, rfl⟩ | ⟨ad, c, rfl, hl, hn, h1⟩
  · have hr := run_append_owned_none (P := Try.prog) (w := w) B T o.type E i0 size hT hi v n xs hown
    unfold Oper.wp execOp
    simp only [ho, resolve, invoke, builtin, Sem.run_bind, Sem.run_pure, Result.andThen_ok, List.map_toArray, List.map_cons, List.map_nil, hs, hvb, hr]
    exact h v w (by rw [List.append_nil]; exact hown) ⟨rfl, rfl, rfl, Nat.le_refl _, fun _ _ _ => rfl⟩
  · obtain ⟨v', w', hr, h2, h3, _⟩ := run_append_own_at (P := Try.prog) w B T o.type E i0 z0 size bytes hT hi hz0 hz1 hz2 hz3 hsz v n xs hown ad m c news hl hn h1 h63 hbytes hB
    unfold Oper.wp execOp
    simp only [ho, resolve, invoke, builtin, Sem.run_bind, Sem.run_pure, Result.andThen_ok, List.map_toArray, List.map_cons, List.map_nil, hs, hvb, hr]
    exact h v' w' h2 h3
theorem wpList_appendL {ops : Array Oper} {rest : List Oper} {o : Oper} {a : Act} {w : World} {Q : Exit → Act → World → Prop} (hgd : o.guard = none) (B : Nat) (E T : TypeId) (size bytes : Nat) (i0 : TypeInfo) (z0 : Value)
    (hT : Try.prog.underlying T = some (.slice E)) (hi : Try.prog.info? E = some i0) (hz0 : i0.zero = some z0) (hz1 : i0.size = size) (hz2 : i0.bytes = bytes) (hz3 : z0.cells.size = size) (hsz : 0 < size)
    (s x : Operand) (ho : o.op = .call { callee := .builtin .append, args := #[s, x], argTypes := #[T, T] })
    (n m : Nat) (v vb : Value) (xs news : List Value) (hs : a.eval s = v) (hown : w.ownsRow B E size v n xs) (hvb : a.eval x = vb)
    (hb : (vb = .slice none 0 0 ∧ m = 0 ∧ news = []) ∨ ∃ ad c, vb = .slice (some ad) m c ∧ news.length = m * size ∧ (∀ j u, news[j]? = some u → w.cell? (ad.add j) = some u) ∧ ∀ u ∈ news, u.oneCell' = true)
    (h63 : n + m ≤ maxLen) (hbytes : (n + m) * bytes ≤ 140737488355328) (hB : B ≤ w.heap.size)
    (h : ∀ v' w', w'.ownsRow B E size v' (n + m) (xs ++ news) → w.grownBy w' v.ownBlock → wpList Try.prog ops Q rest (a.put o.dst v') w') : wpList Try.prog ops Q (o :: rest) a w :=
  wpList_plain hgd fun K hK => appendL_own B E T size bytes i0 z0 hT hi hz0 hz1 hz2 hz3 hsz s x ho n m v vb xs news hs hown hvb hb h63 hbytes hB (fun v' w' h1 h2 => hK _ _ (h v' w' h1 h2))

theorem info_levL : (Try.prog.info? 24).map (fun i => (i.zero, i.size, i.bytes)) = some (some (.agg #[.slice none 0 0]), 1, 24) := by kernel_rfl
/-- The values of a row of levels. -/
def RXL (w : World) : List Lv → List Value → Prop
  | [], xs => xs = []
  | l :: ls, xs => ∃ v r, xs = v :: r ∧ RPv w l v ∧ RXL w ls r
theorem RXL.length {w : World} : ∀ {ls : List Lv} {xs : List Value}, RXL w ls xs → xs.length = ls.length
  | [], _, h => by subst h; rfl
  | l :: ls, _, ⟨v, r, e, _, h⟩ => by subst e; simp [RXL.length h]
theorem RXL.below {w w1 : World} (hb : Below w.heap.size w w1) : ∀ {ls : List Lv} {xs : List Value}, RXL w ls xs → RXL w1 ls xs
  | [], _, h => h
  | l :: ls, _, ⟨v, r, e, h1, h⟩ => ⟨v, r, e, h1.below hb, h.below hb⟩
theorem RXL.one {w : World} : ∀ {ls : List Lv} {xs : List Value}, RXL w ls xs → ∀ u ∈ xs, u.oneCell' = true
  | [], _, h => by subst h; intro u hu; cases hu
  | l :: ls, _, ⟨v, r, e, h1, h⟩ => by
    subst e
    intro u hu
    rcases List.mem_cons.1 hu with rfl | hu
    · obtain ⟨A, c, rfl, _⟩ := h1
      rfl
    · exact h.one u hu
theorem RXL.app {w : World} : ∀ {ls ms : List Lv} {xs ys : List Value}, RXL w ls xs → RXL w ms ys → RXL w (ls ++ ms) (xs ++ ys)
  | [], _, _, _, h, h' => by subst h; exact h'
  | l :: ls, _, _, _, ⟨v, r, e, h1, h⟩, h' => by subst e; exact ⟨v, r ++ _, rfl, h1, h.app h'⟩
theorem RL.cellsL {w : World} {b : Nat} : ∀ {ls : List Lv} {o : Nat}, RL w b o ls → ∃ xs, RXL w ls xs ∧ ∀ j u, xs[j]? = some u → w.cell? ⟨b, o + j, none⟩ = some u
  | [], o, _ => ⟨[], rfl, fun j u h => by simp at h⟩
  | l :: ls, o, ⟨⟨v, hc, hv⟩, h⟩ => by
    obtain ⟨xs, hx, hr⟩ := RL.cellsL h
    refine ⟨v :: xs, ⟨v, xs, rfl, hv, hx⟩, fun j u hj => ?_⟩
    cases j with
    | zero => simp only [List.getElem?_cons_zero, Option.some.injEq] at hj; subst hj; exact hc
    | succ j =>
      have := hr j u (by simpa using hj)
      rwa [show o + 1 + j = o + (j + 1) by omega] at this
theorem RL_of {w : World} {b : Nat} : ∀ {ls : List Lv} {xs : List Value} {o : Nat}, RXL w ls xs → (∀ j u, xs[j]? = some u → w.cell? ⟨b, o + j, none⟩ = some u) → RL w b o ls
  | [], _, _, _, _ => trivial
  | l :: ls, _, o, ⟨v, r, e, h1, h⟩, hc => by
    subst e
    exact ⟨⟨v, by simpa using hc 0 v rfl, h1⟩, RL_of h fun j u hj => by have := hc (j + 1) u (by simpa using hj); rwa [show o + (j + 1) = o + 1 + j by omega] at this⟩
/-- What append takes of a slice of levels. -/
theorem RLv.newsL {w : World} {ls : List Lv} {v : Value} (h : RLv w ls v) (hnil : ∀ n c, v = .slice none n c → c = 0) : ∃ news, RXL w ls news ∧
    ((v = .slice none 0 0 ∧ ls.length = 0 ∧ news = []) ∨ ∃ ad c, v = .slice (some ad) ls.length c ∧ news.length = ls.length * 1 ∧ (∀ j u, news[j]? = some u → w.cell? (ad.add j) = some u) ∧ ∀ u ∈ news, u.oneCell' = true) := by
  obtain ⟨A, c, rfl, h1, h2, h3⟩ := h
  cases A with
  | none =>
    obtain rfl := hnil _ _ rfl
    have hl : ls.length = 0 := by omega
    obtain rfl := List.eq_nil_of_length_eq_zero hl
    exact ⟨[], rfl, .inl ⟨rfl, rfl, rfl⟩⟩
  | some ad =>
    by_cases hp : 0 < ls.length
    · obtain ⟨b, o, e, hr⟩ := h3 hp
      injection e with e
      subst e
      obtain ⟨news, hx, hc⟩ := hr.cellsL
      exact ⟨news, hx, .inr ⟨_, c, rfl, by rw [hx.length, Nat.mul_one], fun j u hj => by rw [Addr.add_lit]; exact hc j u hj, hx.one⟩⟩
    · obtain rfl := List.eq_nil_of_length_eq_zero (by omega : ls.length = 0)
      exact ⟨[], rfl, .inr ⟨ad, c, rfl, rfl, fun j u hj => by simp at hj, fun u hu => by cases hu⟩⟩
/-- A row of levels that one owns reads. -/
theorem RLv_row {w : World} {B : Nat} {ls : List Lv} {v : Value} {n : Nat} {xs : List Value} (hn : n = ls.length) (hown : w.ownsRow B 24 1 v n xs) (hx : RXL w ls xs) (hm : ls.length ≤ 5864062014805) : RLv w ls v := by
  subst hn
  obtain ⟨A, c, e, hc, _, hcell⟩ := own_form hown
  refine ⟨A, c, e, hc, hm, fun hp => ?_⟩
  obtain ⟨b, hA, hj⟩ := hcell hp
  exact ⟨b, 0, hA, RL_of hx fun j u hu => by rw [Nat.zero_add]; exact hj j u hu⟩

end Go.Proofs.Ytgegaipkfpdocaa
