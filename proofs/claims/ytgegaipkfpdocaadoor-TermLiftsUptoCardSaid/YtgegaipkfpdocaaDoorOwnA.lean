/-
  WHAT A CALL HAS MADE: parts and levels in blocks of their own ('OPv', 'OLv'): bs lists the blocks, all from lo on; how it moves from world to world; that it can be read.
-/
import Derived.Test.YtgegaipkfpdocaaDoorRep
namespace Go.Proofs.YtgegaipkfpdocaaDoor
open Go.RowKit

def cellsP : Lv → List Value
  | [] => []
  | p :: ps => .int .i64 p.1 :: .int .i64 p.2 :: cellsP ps
theorem cellsP_length (ps : Lv) : (cellsP ps).length = ps.length * 2 := by
  induction ps with
  | nil => rfl
  | cons p ps ih => simp only [cellsP, List.length_cons, ih]; omega
theorem cellsP_append (ps qs : Lv) : cellsP (ps ++ qs) = cellsP ps ++ cellsP qs := by
  induction ps with
  | nil => rfl
  | cons p ps ih => simp only [List.cons_append, cellsP, ih]
theorem cellsP_one (ps : Lv) : ∀ u ∈ cellsP ps, u.oneCell' = true := by
  induction ps with
  | nil => intro u h; cases h
  | cons p ps ih =>
    intro u h
    simp only [cellsP, List.mem_cons] at h
    rcases h with rfl | rfl | h
    · rfl
    · rfl
    · exact ih u h

/-- Parts of one's own. -/
def OPv (w : World) (lo : Nat) (bs : List Nat) (ps : Lv) (v : Value) : Prop :=
  w.ownsRow lo 39 2 v ps.length (cellsP ps) ∧ bs = v.ownBlock.toList ∧ ps.length ≤ 8796093022208
/-- Levels, value by value. -/
def OL (w : World) (lo : Nat) : List Nat → List Lv → List Value → Prop
  | bs, [], xs => xs = [] ∧ bs = []
  | bs, l :: ls, xs => ∃ b1 b2 x xs', xs = x :: xs' ∧ bs = b1 ++ b2 ∧ OPv w lo b1 l x ∧ OL w lo b2 ls xs'
def OLv (w : World) (lo : Nat) (bs : List Nat) (ls : List Lv) (v : Value) : Prop :=
  ∃ b2 xs, w.ownsRow lo 37 1 v ls.length xs ∧ OL w lo b2 ls xs ∧ bs = v.ownBlock.toList ++ b2 ∧ ls.length ≤ 5864062014805

/-! Movers: the blocks listed are as they were. -/
theorem own_move {w w1 : World} {base : Nat} {e : TypeId} {size n : Nat} {v : Value} {xs : List Value} (h : w.ownsRow base e size v n xs) (hm : ∀ k ∈ v.ownBlock.toList, w1.heap[k]? = w.heap[k]?) : w1.ownsRow base e size v n xs := by
  obtain ⟨h1, h2⟩ := h
  refine ⟨h1, ?_⟩
  rcases h2 with h2 | ⟨g, cap, cur, rfl, hg, hh, r⟩
  · exact .inl h2
  · exact .inr ⟨g, cap, cur, rfl, hg, (hm g (by simp [Value.ownBlock])).trans hh, r⟩
theorem own_in {w : World} {base : Nat} {e : TypeId} {size n : Nat} {v : Value} {xs : List Value} (h : w.ownsRow base e size v n xs) : ∀ k ∈ v.ownBlock.toList, base ≤ k ∧ k < w.heap.size := fun k hk => h.lt k (by simpa using hk)
theorem own_lower {w : World} {base base' : Nat} {e : TypeId} {size n : Nat} {v : Value} {xs : List Value} (h : w.ownsRow base e size v n xs) (hb : base' ≤ base) : w.ownsRow base' e size v n xs := by
  obtain ⟨h1, h2⟩ := h
  refine ⟨h1, ?_⟩
  rcases h2 with h2 | ⟨g, cap, cur, rfl, hg, r⟩
  · exact .inl h2
  · exact .inr ⟨g, cap, cur, rfl, Nat.le_trans hb hg, r⟩

section
variable {w w1 : World} {lo : Nat}
theorem OPv.move {bs : List Nat} {ps : Lv} {v : Value} (h : OPv w lo bs ps v) (hm : ∀ k ∈ bs, w1.heap[k]? = w.heap[k]?) : OPv w1 lo bs ps v := by
  obtain ⟨h1, rfl, h2⟩ := h
  exact ⟨own_move h1 hm, rfl, h2⟩
theorem OPv.inn {bs : List Nat} {ps : Lv} {v : Value} (h : OPv w lo bs ps v) : ∀ k ∈ bs, lo ≤ k ∧ k < w.heap.size := by
  obtain ⟨h1, rfl, h2⟩ := h
  exact own_in h1
theorem OPv.lower {lo' : Nat} {bs : List Nat} {ps : Lv} {v : Value} (h : OPv w lo bs ps v) (hb : lo' ≤ lo) : OPv w lo' bs ps v := by
  obtain ⟨h1, h2⟩ := h
  exact ⟨own_lower h1 hb, h2⟩
theorem OL.move : ∀ {bs : List Nat} {ls : List Lv} {xs : List Value}, OL w lo bs ls xs → (∀ k ∈ bs, w1.heap[k]? = w.heap[k]?) → OL w1 lo bs ls xs
  | _, [], _, h, _ => h
  | _, _ :: _, _, ⟨b1, b2, x, xs', e1, e2, h1, h2⟩, hm => ⟨b1, b2, x, xs', e1, e2, h1.move (fun k hk => hm k (by rw [e2]; simp [hk])), h2.move (fun k hk => hm k (by rw [e2]; simp [hk]))⟩
theorem OL.inn : ∀ {bs : List Nat} {ls : List Lv} {xs : List Value}, OL w lo bs ls xs → ∀ k ∈ bs, lo ≤ k ∧ k < w.heap.size
  | _, [], _, h, k, hk => by rw [h.2] at hk; cases hk
  | _, _ :: _, _, ⟨b1, b2, x, xs', e1, e2, h1, h2⟩, k, hk => by
    rw [e2, List.mem_append] at hk
    rcases hk with hk | hk
    · exact h1.inn k hk
    · exact h2.inn k hk
theorem OL.lower {lo' : Nat} (hb : lo' ≤ lo) : ∀ {bs : List Nat} {ls : List Lv} {xs : List Value}, OL w lo bs ls xs → OL w lo' bs ls xs
  | _, [], _, h => h
  | _, _ :: _, _, ⟨b1, b2, x, xs', e1, e2, h1, h2⟩ => ⟨b1, b2, x, xs', e1, e2, h1.lower hb, h2.lower hb⟩
theorem OLv.move {bs : List Nat} {ls : List Lv} {v : Value} (h : OLv w lo bs ls v) (hm : ∀ k ∈ bs, w1.heap[k]? = w.heap[k]?) : OLv w1 lo bs ls v := by
  obtain ⟨b2, xs, h1, h2, rfl, h3⟩ := h
  exact ⟨b2, xs, own_move h1 (fun k hk => hm k (by simp [hk])), h2.move (fun k hk => hm k (by simp [hk])), rfl, h3⟩
theorem OLv.inn {bs : List Nat} {ls : List Lv} {v : Value} (h : OLv w lo bs ls v) : ∀ k ∈ bs, lo ≤ k ∧ k < w.heap.size := by
  obtain ⟨b2, xs, h1, h2, rfl, h3⟩ := h
  intro k hk
  rw [List.mem_append] at hk
  rcases hk with hk | hk
  · exact own_in h1 k hk
  · exact h2.inn k hk
theorem OLv.lower {lo' : Nat} {bs : List Nat} {ls : List Lv} {v : Value} (h : OLv w lo bs ls v) (hb : lo' ≤ lo) : OLv w lo' bs ls v := by
  obtain ⟨b2, xs, h1, h2, rfl, h3⟩ := h
  exact ⟨b2, xs, own_lower h1 hb, h2.lower hb, rfl, h3⟩
end
theorem OLv.below {w w1 : World} {lo : Nat} {bs : List Nat} {ls : List Lv} {v : Value} (h : OLv w lo bs ls v) (hb : Below w.heap.size w w1) : OLv w1 lo bs ls v := h.move fun k hk => hb.block k (h.inn k hk).2
theorem OL.below {w w1 : World} {lo : Nat} {bs : List Nat} {ls : List Lv} {xs : List Value} (h : OL w lo bs ls xs) (hb : Below w.heap.size w w1) : OL w1 lo bs ls xs := h.move fun k hk => hb.block k (h.inn k hk).2
theorem OPv.below {w w1 : World} {lo : Nat} {bs : List Nat} {ps : Lv} {v : Value} (h : OPv w lo bs ps v) (hb : Below w.heap.size w w1) : OPv w1 lo bs ps v := h.move fun k hk => hb.block k (h.inn k hk).2
theorem own_below {w w1 : World} {base : Nat} {e : TypeId} {size n : Nat} {v : Value} {xs : List Value} (h : w.ownsRow base e size v n xs) (hb : Below w.heap.size w w1) : w1.ownsRow base e size v n xs := own_move h fun k hk => hb.block k (own_in h k hk).2

/-! What is owned can be read. -/
theorem own_form {w : World} {base : Nat} {e : TypeId} {size n : Nat} {v : Value} {xs : List Value} (h : w.ownsRow base e size v n xs) :
    ∃ A c, v = .slice A n c ∧ n ≤ c ∧ xs.length = n * size ∧ (0 < n → ∃ b, A = some ⟨b, 0, none⟩ ∧ ∀ j u, xs[j]? = some u → w.cell? ⟨b, j, none⟩ = some u) := by
  have hc := h
  obtain ⟨h1, h2⟩ := h
  rcases h2 with ⟨rfl, rfl⟩ | ⟨g, cap, cur, rfl, hg, hh, hle, r⟩
  · exact ⟨none, 0, rfl, Nat.le_refl _, h1, fun h => absurd h (Nat.lt_irrefl 0)⟩
  · refine ⟨_, cap, rfl, hle, h1, fun _ => ⟨g, rfl, fun j u hj => ?_⟩⟩
    have := hc.cells (g := g) rfl j u hj
    have ha : (⟨g, 0, none⟩ : Addr).add j = ⟨g, j, none⟩ := by unfold Addr.add; split <;> simp_all
    rwa [ha] at this
theorem RP_of_cells {w : World} {b : Nat} : ∀ {ps : Lv} {o : Nat}, (∀ j u, (cellsP ps)[j]? = some u → w.cell? ⟨b, o + j, none⟩ = some u) → RP w b o ps
  | [], _, _ => trivial
  | p :: ps, o, h => ⟨⟨by simpa using h 0 _ rfl, h 1 _ rfl⟩, RP_of_cells fun j u hj => by
      have := h (j + 2) u (by simpa [cellsP] using hj)
      have e : o + 2 + j = o + (j + 2) := by omega
      rwa [e]⟩
theorem OPv.reads {w : World} {lo : Nat} {bs : List Nat} {ps : Lv} {v : Value} (h : OPv w lo bs ps v) : RPv w ps v := by
  obtain ⟨h1, _, h2⟩ := h
  obtain ⟨A, c, rfl, hc, _, hcell⟩ := own_form h1
  refine ⟨A, c, rfl, hc, h2, fun hp => ?_⟩
  obtain ⟨b, rfl, hj⟩ := hcell hp
  exact ⟨b, 0, rfl, RP_of_cells fun j u hu => by rw [Nat.zero_add]; exact hj j u hu⟩
theorem OL.reads {w : World} {lo b : Nat} : ∀ {bs : List Nat} {ls : List Lv} {xs : List Value} {o : Nat}, OL w lo bs ls xs → (∀ j u, xs[j]? = some u → w.cell? ⟨b, o + j, none⟩ = some u) → RL w b o ls
  | _, [], _, _, _, _ => trivial
  | _, _ :: _, _, o, ⟨b1, b2, x, xs', rfl, _, h1, h2⟩, h => ⟨⟨x, by simpa using h 0 _ rfl, h1.reads⟩, OL.reads h2 fun j u hj => by
      have := h (j + 1) u (by simpa using hj)
      have e : o + 1 + j = o + (j + 1) := by omega
      rwa [e]⟩
theorem OLv.reads {w : World} {lo : Nat} {bs : List Nat} {ls : List Lv} {v : Value} (h : OLv w lo bs ls v) : RLv w ls v := by
  obtain ⟨b2, xs, h1, h2, _, h3⟩ := h
  obtain ⟨A, c, rfl, hc, _, hcell⟩ := own_form h1
  refine ⟨A, c, rfl, hc, h3, fun hp => ?_⟩
  obtain ⟨b, rfl, hj⟩ := hcell hp
  exact ⟨b, 0, rfl, h2.reads fun j u hu => by rw [Nat.zero_add]; exact hj j u hu⟩
/-! Rows that grow. -/
theorem OL.snoc {w : World} {lo : Nat} {x : Value} {b2 : List Nat} {l : Lv} (hx : OPv w lo b2 l x) : ∀ {bs : List Nat} {ls : List Lv} {xs : List Value}, OL w lo bs ls xs → OL w lo (bs ++ b2) (ls ++ [l]) (xs ++ [x])
  | _, [], _, ⟨rfl, rfl⟩ => ⟨b2, [], x, [], rfl, by simp, hx, rfl, rfl⟩
  | _, _ :: _, _, ⟨c1, c2, y, xs', rfl, rfl, h1, h2⟩ => ⟨c1, c2 ++ b2, y, xs' ++ [x], rfl, by rw [List.append_assoc], h1, h2.snoc hx⟩

end Go.Proofs.YtgegaipkfpdocaaDoor
