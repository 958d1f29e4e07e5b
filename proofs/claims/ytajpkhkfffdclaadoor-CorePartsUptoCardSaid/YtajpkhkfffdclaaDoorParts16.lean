/-
  CoreParts: what its last part wants of rows.
-/
import Derived.Test.YtajpkhkfffdclaaDoorParts15
namespace Go.Proofs.YtajpkhkfffdclaaDoor
open Go.RowKit
set_option linter.unusedSimpArgs false
set_option linter.unusedVariables false

theorem wpList_append_gen {ops : Array Oper} {rest : List Oper} {o : Oper} {a : Act} {w : World} {Q : Exit → Act → World → Prop} (hgd : o.guard = none) (B : Nat) (E T : TypeId) (size bytes : Nat) (i0 : TypeInfo) (z0 : Value)
    (hT : Tryd.prog.underlying T = some (.slice E)) (hi : Tryd.prog.info? E = some i0) (hz0 : i0.zero = some z0) (hz1 : i0.size = size) (hz2 : i0.bytes = bytes) (hz3 : z0.cells.size = size) (hsz : 0 < size)
    (s x : Operand) (ho : o.op = .call { callee := .builtin .append, args := #[s, x], argTypes := #[T, T] })
    (n m : Nat) (v vb : Value) (xs news : List Value) (hs : a.eval s = v) (hown : w.ownsRow B E size v n xs) (hvb : a.eval x = vb)
    (hb : (vb = .slice none 0 0 ∧ m = 0 ∧ news = []) ∨ ∃ ad c, vb = .slice (some ad) m c ∧ news.length = m * size ∧ (∀ j u, news[j]? = some u → w.cell? (ad.add j) = some u) ∧ ∀ u ∈ news, u.oneCell' = true)
    (h63 : n + m ≤ maxLen) (hbytes : (n + m) * bytes ≤ 140737488355328) (hB : B ≤ w.heap.size)
    (h : ∀ v' w', w'.ownsRow B E size v' (n + m) (xs ++ news) → w.grownBy w' v.ownBlock → wpList Tryd.prog ops Q rest (a.put o.dst v') w') : wpList Tryd.prog ops Q (o :: rest) a w :=
  wpList_plain hgd fun K hK => append_own B E T size bytes i0 z0 hT hi hz0 hz1 hz2 hz3 hsz s x ho n m v vb xs news hs hown hvb hb h63 hbytes hB (fun v' w' h1 h2 => hK _ _ (h v' w' h1 h2))

/-- What append takes of a slice of terms. -/
theorem RKv.news {w : World} {ts : List Tm} {v : Value} (h : RKv w ts v) (hnil : ∀ n c, v = .slice none n c → c = 0) : ∃ news, RXT w ts news ∧
    ((v = .slice none 0 0 ∧ ts.length = 0 ∧ news = []) ∨ ∃ ad c, v = .slice (some ad) ts.length c ∧ news.length = ts.length * 5 ∧ (∀ j u, news[j]? = some u → w.cell? (ad.add j) = some u) ∧ ∀ u ∈ news, u.oneCell' = true) := by
  obtain ⟨A, c, rfl, h1, h2, h3⟩ := h
  cases A with
  | none =>
    obtain rfl := hnil _ _ rfl
    have hl : ts.length = 0 := by omega
    obtain rfl := List.eq_nil_of_length_eq_zero hl
    exact ⟨[], rfl, .inl ⟨rfl, rfl, rfl⟩⟩
  | some ad =>
    by_cases hp : 0 < ts.length
    · obtain ⟨b, o, e, hr⟩ := h3 hp
      injection e with e
      subst e
      obtain ⟨news, hx, hc⟩ := hr.cellsT
      exact ⟨news, hx, .inr ⟨_, c, rfl, hx.length, fun j u hj => by rw [Addr.add_lit]; exact hc j u hj, hx.one⟩⟩
    · obtain rfl := List.eq_nil_of_length_eq_zero (by omega : ts.length = 0)
      exact ⟨[], rfl, .inr ⟨ad, c, rfl, rfl, fun j u hj => by simp at hj, fun u hu => by cases hu⟩⟩
theorem news_term {W : World} {b : Nat} {t : Tm} {vl vk : Value} (B : Box W b [.int .i64 t.kind, .int .i64 t.num, .int .i64 t.atN, vl, vk]) (h : RT W t vl vk) :
    RXT W [t] [.int .i64 t.kind, .int .i64 t.num, .int .i64 t.atN, vl, vk] ∧ ((Value.slice (some ⟨b, 0, none⟩) 1 1 = .slice none 0 0 ∧ 1 = 0 ∧ [Value.int .i64 t.kind, .int .i64 t.num, .int .i64 t.atN, vl, vk] = []) ∨
      ∃ ad c, Value.slice (some ⟨b, 0, none⟩) 1 1 = .slice (some ad) 1 c ∧ [Value.int .i64 t.kind, .int .i64 t.num, .int .i64 t.atN, vl, vk].length = 1 * 5 ∧ (∀ j u, [Value.int .i64 t.kind, .int .i64 t.num, .int .i64 t.atN, vl, vk][j]? = some u → W.cell? (ad.add j) = some u) ∧ ∀ u ∈ [Value.int .i64 t.kind, .int .i64 t.num, .int .i64 t.atN, vl, vk], u.oneCell' = true) := by
  have hx : RXT W [t] [.int .i64 t.kind, .int .i64 t.num, .int .i64 t.atN, vl, vk] := ⟨vl, vk, [], rfl, h, rfl⟩
  refine ⟨hx, .inr ⟨⟨b, 0, none⟩, 1, rfl, rfl, fun j u hj => ?_, hx.one⟩⟩
  rw [Addr.add_lit, Nat.zero_add]
  exact B.cell hj
/-- A row of terms that one owns reads. -/
theorem RKv_row {w : World} {B : Nat} {ts : List Tm} {xs : List Value} {v : Value} {n : Nat} (hn : n = ts.length) (hown : w.ownsRow B 26 5 v n xs) (hx : RXT w ts xs) (hm : ts.length ≤ 1954687338268) : RKv w ts v := by
  subst hn
  obtain ⟨A, c, e, hc, _, hcell⟩ := own_form hown
  refine ⟨A, c, e, hc, hm, fun hp => ?_⟩
  obtain ⟨g, eA, h⟩ := hcell hp
  exact ⟨g, 0, eA, hx.reads fun j u hj => by rw [Nat.zero_add]; exact h j u hj⟩
theorem RK_take {w : World} {b : Nat} : ∀ {ts : List Tm} {o n : Nat}, RK w b o ts → RK w b o (ts.take n)
  | [], _, _, _ => by simp only [List.take_nil, RK]
  | _ :: _, _, 0, _ => by simp only [List.take_zero, RK]
  | t :: ts, o, n + 1, h => by
    simp only [List.take_succ_cons, RK] at h ⊢
    exact ⟨h.1, RK_take h.2⟩
/-- Fewer of a slice's terms. -/
theorem RKv_take {w : World} {ts : List Tm} {A : Option Addr} {n c m : Nat} (h : RKv w ts (.slice A n c)) (hm : m ≤ n) : RKv w (ts.take m) (.slice A m c) := by
  obtain ⟨A', c', e, h1, h2, h3⟩ := h
  injection e with e1 e2 e3
  subst e1 e2 e3
  have hl : (ts.take m).length = m := by rw [List.length_take]; omega
  refine ⟨A, c, by rw [hl], by omega, by omega, fun hp => ?_⟩
  obtain ⟨b, o, e, hr⟩ := h3 (by omega)
  exact ⟨b, o, e, RK_take hr⟩

end Go.Proofs.YtajpkhkfffdclaaDoor
