/-
  WHAT A CALL HAS MADE: levels and terms in blocks of their own ('OPv', 'OLv', 'OT', 'OK'): bs lists the blocks, all from lo on; how it moves from world to world; that it can be read.
-/
import Derived.Test.YtgegaipkfpdocaaDoorOwnA
namespace Go.Proofs.YtgegaipkfpdocaaDoor
open Go.RowKit

mutual
def OT (w : World) (lo : Nat) (bs : List Nat) : Tm → Value → Value → Prop
  | .node _ _ _ ls ks, vl, vk => ∃ b1 b2 b3 xs, bs = b1 ++ (b2 ++ b3) ∧ OLv w lo b1 ls vl ∧ w.ownsRow lo 27 5 vk ks.length xs ∧ b2 = vk.ownBlock.toList ∧ OK w lo b3 ks xs ∧ ks.length ≤ 1954687338268
def OK (w : World) (lo : Nat) (bs : List Nat) : List Tm → List Value → Prop
  | [], xs => xs = [] ∧ bs = []
  | t :: ts, xs => ∃ b1 b2 vl vk xs', xs = .int .i64 t.kind :: .int .i64 t.num :: .int .i64 t.atN :: vl :: vk :: xs' ∧ bs = b1 ++ b2 ∧ OT w lo b1 t vl vk ∧ OK w lo b2 ts xs'
end
def OKv (w : World) (lo : Nat) (bs : List Nat) (ks : List Tm) (v : Value) : Prop :=
  ∃ b2 xs, w.ownsRow lo 27 5 v ks.length xs ∧ OK w lo b2 ks xs ∧ bs = v.ownBlock.toList ++ b2 ∧ ks.length ≤ 1954687338268
theorem OT_iff (w : World) (lo : Nat) (bs : List Nat) (k n a : Int) (ls : List Lv) (ks : List Tm) (vl vk : Value) :
    OT w lo bs (.node k n a ls ks) vl vk ↔ ∃ b1 b2, bs = b1 ++ b2 ∧ OLv w lo b1 ls vl ∧ OKv w lo b2 ks vk := by
  simp only [OT, OKv]
  constructor
  · rintro ⟨b1, b2, b3, xs, rfl, h1, h2, rfl, h3, h4⟩
    exact ⟨b1, _, rfl, h1, b3, xs, h2, h3, rfl, h4⟩
  · rintro ⟨b1, b2, rfl, h1, b3, xs, h2, h3, rfl, h4⟩
    exact ⟨b1, _, b3, xs, rfl, h1, h2, rfl, h3, h4⟩

mutual
theorem OT.move {w w1 : World} {lo : Nat} {bs : List Nat} {t : Tm} {vl vk : Value} (h : OT w lo bs t vl vk) (hm : ∀ k ∈ bs, w1.heap[k]? = w.heap[k]?) : OT w1 lo bs t vl vk := by
  match t, h with
  | .node k n a ls ks, h =>
    simp only [OT] at h ⊢
    obtain ⟨b1, b2, b3, xs, rfl, h1, h2, rfl, h3, h4⟩ := h
    exact ⟨b1, _, b3, xs, rfl, h1.move (fun k hk => hm k (by simp [hk])), own_move h2 (fun k hk => hm k (by simp [hk])), rfl, OK.move h3 (fun k hk => hm k (by simp [hk])), h4⟩
theorem OK.move {w w1 : World} {lo : Nat} {bs : List Nat} {ts : List Tm} {xs : List Value} (h : OK w lo bs ts xs) (hm : ∀ k ∈ bs, w1.heap[k]? = w.heap[k]?) : OK w1 lo bs ts xs := by
  match ts, h with
  | [], h => simpa only [OK] using h
  | t :: ts, h =>
    simp only [OK] at h ⊢
    obtain ⟨b1, b2, vl, vk, xs', e1, rfl, h1, h2⟩ := h
    exact ⟨b1, b2, vl, vk, xs', e1, rfl, OT.move h1 (fun k hk => hm k (by simp [hk])), OK.move h2 (fun k hk => hm k (by simp [hk]))⟩
end
mutual
theorem OT.inn {w : World} {lo : Nat} {bs : List Nat} {t : Tm} {vl vk : Value} (h : OT w lo bs t vl vk) : ∀ k ∈ bs, lo ≤ k ∧ k < w.heap.size := by
  match t, h with
  | .node k n a ls ks, h =>
    simp only [OT] at h
    obtain ⟨b1, b2, b3, xs, rfl, h1, h2, rfl, h3, h4⟩ := h
    intro k hk
    simp only [List.mem_append] at hk
    rcases hk with hk | hk | hk
    · exact h1.inn k hk
    · exact own_in h2 k hk
    · exact OK.inn h3 k hk
theorem OK.inn {w : World} {lo : Nat} {bs : List Nat} {ts : List Tm} {xs : List Value} (h : OK w lo bs ts xs) : ∀ k ∈ bs, lo ≤ k ∧ k < w.heap.size := by
  match ts, h with
  | [], h => simp only [OK] at h; intro k hk; rw [h.2] at hk; cases hk
  | t :: ts, h =>
    simp only [OK] at h
    obtain ⟨b1, b2, vl, vk, xs', e1, rfl, h1, h2⟩ := h
    intro k hk
    rw [List.mem_append] at hk
    rcases hk with hk | hk
    · exact OT.inn h1 k hk
    · exact OK.inn h2 k hk
end
mutual
theorem OT.lower {w : World} {lo lo' : Nat} (hb : lo' ≤ lo) {bs : List Nat} {t : Tm} {vl vk : Value} (h : OT w lo bs t vl vk) : OT w lo' bs t vl vk := by
  match t, h with
  | .node k n a ls ks, h =>
    simp only [OT] at h ⊢
    obtain ⟨b1, b2, b3, xs, rfl, h1, h2, rfl, h3, h4⟩ := h
    exact ⟨b1, _, b3, xs, rfl, h1.lower hb, own_lower h2 hb, rfl, OK.lower hb h3, h4⟩
theorem OK.lower {w : World} {lo lo' : Nat} (hb : lo' ≤ lo) {bs : List Nat} {ts : List Tm} {xs : List Value} (h : OK w lo bs ts xs) : OK w lo' bs ts xs := by
  match ts, h with
  | [], h => simpa only [OK] using h
  | t :: ts, h =>
    simp only [OK] at h ⊢
    obtain ⟨b1, b2, vl, vk, xs', e1, rfl, h1, h2⟩ := h
    exact ⟨b1, b2, vl, vk, xs', e1, rfl, OT.lower hb h1, OK.lower hb h2⟩
end
theorem OKv.move {w w1 : World} {lo : Nat} {bs : List Nat} {ks : List Tm} {v : Value} (h : OKv w lo bs ks v) (hm : ∀ k ∈ bs, w1.heap[k]? = w.heap[k]?) : OKv w1 lo bs ks v := by
  obtain ⟨b2, xs, h1, h2, rfl, h3⟩ := h
  exact ⟨b2, xs, own_move h1 (fun k hk => hm k (by simp [hk])), h2.move (fun k hk => hm k (by simp [hk])), rfl, h3⟩
theorem OKv.inn {w : World} {lo : Nat} {bs : List Nat} {ks : List Tm} {v : Value} (h : OKv w lo bs ks v) : ∀ k ∈ bs, lo ≤ k ∧ k < w.heap.size := by
  obtain ⟨b2, xs, h1, h2, rfl, h3⟩ := h
  intro k hk
  rw [List.mem_append] at hk
  rcases hk with hk | hk
  · exact own_in h1 k hk
  · exact h2.inn k hk
theorem OKv.lower {w : World} {lo lo' : Nat} {bs : List Nat} {ks : List Tm} {v : Value} (h : OKv w lo bs ks v) (hb : lo' ≤ lo) : OKv w lo' bs ks v := by
  obtain ⟨b2, xs, h1, h2, rfl, h3⟩ := h
  exact ⟨b2, xs, own_lower h1 hb, h2.lower hb, rfl, h3⟩
/-- What was there stays there. -/
theorem OT.below {w w1 : World} {lo : Nat} {bs : List Nat} {t : Tm} {vl vk : Value} (h : OT w lo bs t vl vk) (hb : Below w.heap.size w w1) : OT w1 lo bs t vl vk := h.move fun k hk => hb.block k (h.inn k hk).2
theorem OK.below {w w1 : World} {lo : Nat} {bs : List Nat} {ts : List Tm} {xs : List Value} (h : OK w lo bs ts xs) (hb : Below w.heap.size w w1) : OK w1 lo bs ts xs := h.move fun k hk => hb.block k (h.inn k hk).2
theorem OKv.below {w w1 : World} {lo : Nat} {bs : List Nat} {ks : List Tm} {v : Value} (h : OKv w lo bs ks v) (hb : Below w.heap.size w w1) : OKv w1 lo bs ks v := h.move fun k hk => hb.block k (h.inn k hk).2
mutual
theorem OT.reads {w : World} {lo : Nat} {bs : List Nat} {t : Tm} {vl vk : Value} (h : OT w lo bs t vl vk) : RT w t vl vk := by
  match t, h with
  | .node k n a ls ks, h =>
    simp only [OT] at h
    simp only [RT]
    obtain ⟨b1, b2, b3, xs, rfl, h1, h2, rfl, h3, h4⟩ := h
    refine ⟨h1.reads, ?_⟩
    obtain ⟨A, c, rfl, hc, _, hcell⟩ := own_form h2
    refine ⟨A, c, rfl, hc, h4, fun hp => ?_⟩
    obtain ⟨b, rfl, hj⟩ := hcell hp
    exact ⟨b, 0, rfl, OK.reads h3 fun j u hu => by rw [Nat.zero_add]; exact hj j u hu⟩
theorem OK.reads {w : World} {lo b o : Nat} {bs : List Nat} {ts : List Tm} {xs : List Value} (h : OK w lo bs ts xs) (hc : ∀ j u, xs[j]? = some u → w.cell? ⟨b, o + j, none⟩ = some u) : RK w b o ts := by
  match ts, h with
  | [], _ => simp only [RK]
  | t :: ts, h =>
    simp only [OK] at h
    simp only [RK]
    obtain ⟨b1, b2, vl, vk, xs', rfl, rfl, h1, h2⟩ := h
    exact ⟨⟨vl, vk, by simpa using hc 0 _ rfl, hc 1 _ rfl, hc 2 _ rfl, hc 3 _ rfl, hc 4 _ rfl, OT.reads h1⟩, OK.reads h2 fun j u hj => by
      have := hc (j + 5) u (by simpa using hj)
      have e : o + 5 + j = o + (j + 5) := by omega
      rwa [e]⟩
end
theorem OKv.reads {w : World} {lo : Nat} {bs : List Nat} {ks : List Tm} {v : Value} (h : OKv w lo bs ks v) : RKv w ks v := by
  obtain ⟨b2, xs, h1, h2, _, h3⟩ := h
  obtain ⟨A, c, rfl, hc, _, hcell⟩ := own_form h1
  refine ⟨A, c, rfl, hc, h3, fun hp => ?_⟩
  obtain ⟨b, rfl, hj⟩ := hcell hp
  exact ⟨b, 0, rfl, h2.reads fun j u hu => by rw [Nat.zero_add]; exact hj j u hu⟩

theorem OK.snoc {w : World} {lo : Nat} {vl vk : Value} {b2 : List Nat} {t : Tm} (hx : OT w lo b2 t vl vk) {bs : List Nat} {ts : List Tm} {xs : List Value} (h : OK w lo bs ts xs) :
    OK w lo (bs ++ b2) (ts ++ [t]) (xs ++ [.int .i64 t.kind, .int .i64 t.num, .int .i64 t.atN, vl, vk]) := by
  induction ts generalizing bs xs with
  | nil =>
    simp only [OK] at h
    obtain ⟨rfl, rfl⟩ := h
    simp only [List.nil_append, OK]
    exact ⟨b2, [], vl, vk, [], rfl, by simp, hx, rfl, rfl⟩
  | cons u us ih =>
    simp only [OK] at h
    obtain ⟨c1, c2, ul, uk, xs', rfl, rfl, h1, h2⟩ := h
    simp only [List.cons_append, OK]
    exact ⟨c1, c2 ++ b2, ul, uk, xs' ++ _, rfl, by rw [List.append_assoc], h1, ih h2⟩
theorem OT.forms {w : World} {lo : Nat} {bs : List Nat} {t : Tm} {vl vk : Value} (h : OT w lo bs t vl vk) : ∃ A n c A' n' c', vl = .slice A n c ∧ vk = .slice A' n' c' := h.reads.forms

end Go.Proofs.YtgegaipkfpdocaaDoor
