/-
  append AT A STEP OF A REGION THAT DRAWS, on a row of one's own, whatever the elements: what comes is one's own.
-/
import Derived.Test.YtajpkhkfffdclaaDoorCoreJ
import Derived.Test.YtajpkhkfffdclaaDoorAppend
namespace Go.Proofs.YtajpkhkfffdclaaDoor
open Go.RowKit
set_option linter.unusedSimpArgs false
set_option linter.unusedVariables false

theorem append_own {o : Oper} {a : Act} {w : World} {K : Act → World → Prop} {Q : Exit → Act → World → Prop} (B : Nat) (E T : TypeId) (size bytes : Nat) (i0 : TypeInfo) (z0 : Value)
    (hT : Tryd.prog.underlying T = some (.slice E)) (hi : Tryd.prog.info? E = some i0) (hz0 : i0.zero = some z0) (hz1 : i0.size = size) (hz2 : i0.bytes = bytes) (hz3 : z0.cells.size = size) (hsz : 0 < size)
    (s x : Operand) (ho : o.op = .call { callee := .builtin .append, args := #[s, x], argTypes := #[T, T] })
    (n m : Nat) (v vb : Value) (xs news : List Value) (hs : a.eval s = v) (hown : w.ownsRow B E size v n xs) (hvb : a.eval x = vb)
    (hb : (vb = .slice none 0 0 ∧ m = 0 ∧ news = []) ∨ ∃ ad c, vb = .slice (some ad) m c ∧ news.length = m * size ∧ (∀ j u, news[j]? = some u → w.cell? (ad.add j) = some u) ∧ ∀ u ∈ news, u.oneCell' = true)
    (h63 : n + m ≤ maxLen) (hbytes : (n + m) * bytes ≤ 140737488355328) (hB : B ≤ w.heap.size)
    (h : ∀ v' w', w'.ownsRow B E size v' (n + m) (xs ++ news) → w.grownBy w' v.ownBlock → K (a.put o.dst v') w') : o.wp Tryd.prog a w K Q := by
  rcases hb with ⟨rfl, rfl, rfl⟩ | ⟨ad, c, rfl, hl, hn, h1⟩
  · have hr := run_append_owned_none (P := Tryd.prog) (w := w) B T o.type E i0 size hT hi v n xs hown
    unfold Oper.wp execOp
    simp only [ho, resolve, invoke, builtin, Sem.run_bind, Sem.run_pure, Result.andThen_ok, List.map_toArray, List.map_cons, List.map_nil, hs, hvb, hr]
    exact h v w (by rw [List.append_nil]; exact hown) ⟨rfl, rfl, rfl, Nat.le_refl _, fun _ _ _ => rfl⟩
  · obtain ⟨v', w', hr, h2, h3, _⟩ := run_append_own_at (P := Tryd.prog) w B T o.type E i0 z0 size bytes hT hi hz0 hz1 hz2 hz3 hsz v n xs hown ad m c news hl hn h1 h63 hbytes hB
    unfold Oper.wp execOp
    simp only [ho, resolve, invoke, builtin, Sem.run_bind, Sem.run_pure, Result.andThen_ok, List.map_toArray, List.map_cons, List.map_nil, hs, hvb, hr]
    exact h v' w' h2 h3

theorem info_int : (Tryd.prog.info? 3).map (fun i => (i.zero, i.size, i.bytes)) = some (some (.int .i64 0), 1, 8) := by kernel_rfl
theorem ints_oneCell (xs : List Int) : ∀ u ∈ xs.map (Value.int .i64), u.oneCell' = true := fun u hu => by
  obtain ⟨x, _, rfl⟩ := List.mem_map.1 hu
  rfl
/-- A row of ints that one owns reads. -/
theorem RIv_own {w : World} {B : Nat} {xs : List Int} {v : Value} {n : Nat} (hn : n = xs.length) (hown : w.ownsRow B 3 1 v n (xs.map (Value.int .i64))) (hm : xs.length ≤ 17592186044416) : RIv w xs v := by
  subst hn
  obtain ⟨A, c, e, hc, _, hcell⟩ := own_form hown
  refine ⟨A, c, e, hc, hm, fun hp => ?_⟩
  obtain ⟨g, eA, h⟩ := hcell hp
  exact ⟨g, 0, eA, fun i x hi => by rw [Nat.zero_add]; exact h i _ (by simp [hi])⟩
/-- What append takes of a slice of ints. -/
theorem RIv.news {w : World} {xs : List Int} {v : Value} (h : RIv w xs v) (hnil : ∀ n c, v = .slice none n c → c = 0) :
    (v = .slice none 0 0 ∧ xs.length = 0 ∧ xs.map (Value.int .i64) = []) ∨ ∃ ad c, v = .slice (some ad) xs.length c ∧ (xs.map (Value.int .i64)).length = xs.length * 1 ∧ (∀ j u, (xs.map (Value.int .i64))[j]? = some u → w.cell? (ad.add j) = some u) ∧ ∀ u ∈ xs.map (Value.int .i64), u.oneCell' = true := by
  obtain ⟨A, c, rfl, h1, h2, h3⟩ := h
  cases A with
  | none =>
    obtain rfl := hnil _ _ rfl
    have hl : xs.length = 0 := by omega
    obtain rfl := List.eq_nil_of_length_eq_zero hl
    exact .inl ⟨rfl, rfl, rfl⟩
  | some ad =>
    refine .inr ⟨ad, c, rfl, by simp, fun j u hj => ?_, ints_oneCell xs⟩
    rw [List.getElem?_map] at hj
    obtain ⟨x, hx, rfl⟩ := Option.map_eq_some_iff.1 hj
    have hp : 0 < xs.length := by have := (List.getElem?_eq_some_iff.1 hx).1; omega
    obtain ⟨b, o, e, hc⟩ := h3 hp
    injection e with e
    subst e
    rw [Addr.add_lit]
    exact hc j x hx

end Go.Proofs.YtajpkhkfffdclaaDoor
