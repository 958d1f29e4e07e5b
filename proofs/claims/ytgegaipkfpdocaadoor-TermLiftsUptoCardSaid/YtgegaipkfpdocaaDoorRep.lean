/-
  HOW LEVELS AND TERMS LIE IN MEMORY: what is read ('RPv', 'RLv', 'RT', 'RK') and how it moves from world to world. Plain definitions and lemmas.
-/
import Derived.Test.YtgegaipkfpdocaaDoorProg
import Derived.WalkKit
import Derived.WalkLawsBesides
import Derived.WalkSpells
import Derived.Deep.QuietTactic
import Derived.BigQuiet
import Derived.Lib.Hide
import Derived.Deep.RegionHeld3
import Derived.Deep.RegionWith
import Derived.Deep.LoopGhost
namespace Go.Proofs.YtgegaipkfpdocaaDoor
open Go.RowKit

abbrev Lv := List (Int × Int)

/-- A term. -/
inductive Tm where
  | node (k n a : Int) (ls : List Lv) (ks : List Tm)

def Tm.kind : Tm → Int | .node k _ _ _ _ => k
def Tm.num : Tm → Int | .node _ n _ _ _ => n
def Tm.atN : Tm → Int | .node _ _ a _ _ => a
def Tm.lvs : Tm → List Lv | .node _ _ _ ls _ => ls
def Tm.kids : Tm → List Tm | .node _ _ _ _ ks => ks

mutual
def size : Tm → Nat
  | .node _ _ _ _ ks => 1 + sizeL ks
def sizeL : List Tm → Nat
  | [] => 0
  | t :: ts => size t + sizeL ts
end
theorem size_pos (t : Tm) : 1 ≤ size t := by cases t; simp [size]
theorem size_at {ts : List Tm} {i : Nat} {t : Tm} (h : ts[i]? = some t) : size t ≤ sizeL ts := by
  induction ts generalizing i with
  | nil => simp at h
  | cons x xs ih =>
    simp only [sizeL]
    cases i with
    | zero => simp only [List.getElem?_cons_zero, Option.some.injEq] at h; subst h; omega
    | succ i => have := ih (i := i) (by simpa using h); omega

/-- Parts from offset o of block b on. -/
def RP (w : World) (b : Nat) : Nat → Lv → Prop
  | _, [] => True
  | o, p :: ps => (w.cell? ⟨b, o, none⟩ = some (.int .i64 p.1) ∧ w.cell? ⟨b, o + 1, none⟩ = some (.int .i64 p.2)) ∧ RP w b (o + 2) ps
/-- A slice of parts. -/
def RPv (w : World) (ps : Lv) (v : Value) : Prop :=
  ∃ A c, v = .slice A ps.length c ∧ ps.length ≤ c ∧ ps.length ≤ 8796093022208 ∧ (0 < ps.length → ∃ b o, A = some ⟨b, o, none⟩ ∧ RP w b o ps)
def RL (w : World) (b : Nat) : Nat → List Lv → Prop
  | _, [] => True
  | o, l :: ls => (∃ v, w.cell? ⟨b, o, none⟩ = some v ∧ RPv w l v) ∧ RL w b (o + 1) ls
/-- A slice of levels. -/
def RLv (w : World) (ls : List Lv) (v : Value) : Prop :=
  ∃ A c, v = .slice A ls.length c ∧ ls.length ≤ c ∧ ls.length ≤ 5864062014805 ∧ (0 < ls.length → ∃ b o, A = some ⟨b, o, none⟩ ∧ RL w b o ls)
mutual
/-- A term whose levels are vl, whose kids are vk. -/
def RT (w : World) : Tm → Value → Value → Prop
  | .node _ _ _ ls ks, vl, vk => RLv w ls vl ∧ ∃ A c, vk = .slice A ks.length c ∧ ks.length ≤ c ∧ ks.length ≤ 1954687338268 ∧ (0 < ks.length → ∃ b o, A = some ⟨b, o, none⟩ ∧ RK w b o ks)
def RK (w : World) (b : Nat) : Nat → List Tm → Prop
  | _, [] => True
  | o, t :: ts => (∃ vl vk, w.cell? ⟨b, o, none⟩ = some (.int .i64 t.kind) ∧ w.cell? ⟨b, o + 1, none⟩ = some (.int .i64 t.num) ∧ w.cell? ⟨b, o + 2, none⟩ = some (.int .i64 t.atN) ∧
      w.cell? ⟨b, o + 3, none⟩ = some vl ∧ w.cell? ⟨b, o + 4, none⟩ = some vk ∧ RT w t vl vk) ∧ RK w b (o + 5) ts
end
/-- A slice of terms. -/
def RKv (w : World) (ks : List Tm) (v : Value) : Prop :=
  ∃ A c, v = .slice A ks.length c ∧ ks.length ≤ c ∧ ks.length ≤ 1954687338268 ∧ (0 < ks.length → ∃ b o, A = some ⟨b, o, none⟩ ∧ RK w b o ks)
theorem RT_iff (w : World) (k n a : Int) (ls : List Lv) (ks : List Tm) (vl vk : Value) : RT w (.node k n a ls ks) vl vk ↔ RLv w ls vl ∧ RKv w ks vk := by simp only [RT, RKv]

/-- A term by value. -/
def tv (t : Tm) (vl vk : Value) : Value := .agg #[.int .i64 t.kind, .int .i64 t.num, .int .i64 t.atN, vl, vk]

theorem cell_lt {w : World} {b o : Nat} {v : Value} (h : w.cell? ⟨b, o, none⟩ = some v) : b < w.heap.size := World.block_lt_of_cell? w _ h
theorem cell_below {w w1 : World} (hb : Below w.heap.size w w1) {b o : Nat} {v : Value} (h : w.cell? ⟨b, o, none⟩ = some v) : w1.cell? ⟨b, o, none⟩ = some v :=
  (hb.cell (p := ⟨b, o, none⟩) (cell_lt h)).trans h

theorem RP.below {w w1 : World} (hb : Below w.heap.size w w1) {b : Nat} : ∀ {o : Nat} {ps : Lv}, RP w b o ps → RP w1 b o ps
  | _, [], _ => trivial
  | _, _ :: _, ⟨⟨h1, h2⟩, h3⟩ => ⟨⟨cell_below hb h1, cell_below hb h2⟩, RP.below hb h3⟩
theorem RPv.below {w w1 : World} (hb : Below w.heap.size w w1) {ps : Lv} {v : Value} (h : RPv w ps v) : RPv w1 ps v := by
  obtain ⟨A, c, e, h1, h2, h3⟩ := h
  refine ⟨A, c, e, h1, h2, fun hp => ?_⟩
  obtain ⟨b, o, eA, h⟩ := h3 hp
  exact ⟨b, o, eA, h.below hb⟩
theorem RL.below {w w1 : World} (hb : Below w.heap.size w w1) {b : Nat} : ∀ {o : Nat} {ls : List Lv}, RL w b o ls → RL w1 b o ls
  | _, [], _ => trivial
  | _, _ :: _, ⟨⟨v, h1, h2⟩, h3⟩ => ⟨⟨v, cell_below hb h1, h2.below hb⟩, RL.below hb h3⟩
theorem RLv.below {w w1 : World} (hb : Below w.heap.size w w1) {ls : List Lv} {v : Value} (h : RLv w ls v) : RLv w1 ls v := by
  obtain ⟨A, c, e, h1, h2, h3⟩ := h
  refine ⟨A, c, e, h1, h2, fun hp => ?_⟩
  obtain ⟨b, o, eA, h⟩ := h3 hp
  exact ⟨b, o, eA, h.below hb⟩
mutual
theorem RT.below {w w1 : World} (hb : Below w.heap.size w w1) {t : Tm} {vl vk : Value} (h : RT w t vl vk) : RT w1 t vl vk := by
  match t, h with
  | .node k n a ls ks, h =>
    simp only [RT] at h ⊢
    obtain ⟨hl, A, c, e, h1, h2, h3⟩ := h
    refine ⟨hl.below hb, A, c, e, h1, h2, fun hp => ?_⟩
    obtain ⟨b, o, eA, h⟩ := h3 hp
    exact ⟨b, o, eA, RK.below hb h⟩
theorem RK.below {w w1 : World} (hb : Below w.heap.size w w1) {b o : Nat} {ts : List Tm} (h : RK w b o ts) : RK w1 b o ts := by
  match ts, h with
  | [], _ => simp only [RK]
  | t :: ts, h =>
    simp only [RK] at h ⊢
    obtain ⟨⟨vl, vk, h1, h2, h3, h4, h5, h6⟩, h7⟩ := h
    exact ⟨⟨vl, vk, cell_below hb h1, cell_below hb h2, cell_below hb h3, cell_below hb h4, cell_below hb h5, RT.below hb h6⟩, RK.below hb h7⟩
end
theorem RKv.below {w w1 : World} (hb : Below w.heap.size w w1) {ks : List Tm} {v : Value} (h : RKv w ks v) : RKv w1 ks v := by
  obtain ⟨A, c, e, h1, h2, h3⟩ := h
  refine ⟨A, c, e, h1, h2, fun hp => ?_⟩
  obtain ⟨b, o, eA, h⟩ := h3 hp
  exact ⟨b, o, eA, RK.below hb h⟩

/-- What stands in the two last fields are slices. -/
theorem RT.forms {w : World} {t : Tm} {vl vk : Value} (h : RT w t vl vk) : ∃ A n c A' n' c', vl = .slice A n c ∧ vk = .slice A' n' c' := by
  match t, h with
  | .node k n a ls ks, h =>
    rw [RT_iff] at h
    obtain ⟨⟨A, c, e, _⟩, A', c', e', _⟩ := h
    exact ⟨A, _, c, A', _, c', e, e'⟩
theorem RPv.form {w : World} {ps : Lv} {v : Value} (h : RPv w ps v) : ∃ A n c, v = .slice A n c := by
  obtain ⟨A, c, e, _⟩ := h
  exact ⟨A, _, c, e⟩

/-- The element of a place. -/
theorem RP.get {w : World} {b : Nat} : ∀ {o : Nat} {ps : Lv} {i : Nat} {p : Int × Int}, RP w b o ps → ps[i]? = some p →
    w.cell? ⟨b, o + i * 2, none⟩ = some (.int .i64 p.1) ∧ w.cell? ⟨b, o + i * 2 + 1, none⟩ = some (.int .i64 p.2)
  | _, [], _, _, _, hi => by simp at hi
  | o, q :: qs, 0, p, h, hi => by
    simp only [List.getElem?_cons_zero, Option.some.injEq] at hi
    subst hi
    simpa using h.1
  | o, q :: qs, i + 1, p, h, hi => by
    have := RP.get (i := i) h.2 (by simpa using hi)
    have e : o + 2 + i * 2 = o + (i + 1) * 2 := by omega
    rwa [e] at this
theorem RL.get {w : World} {b : Nat} : ∀ {o : Nat} {ls : List Lv} {i : Nat} {l : Lv}, RL w b o ls → ls[i]? = some l → ∃ v, w.cell? ⟨b, o + i, none⟩ = some v ∧ RPv w l v
  | _, [], _, _, _, hi => by simp at hi
  | o, q :: qs, 0, p, h, hi => by
    simp only [List.getElem?_cons_zero, Option.some.injEq] at hi
    subst hi
    simpa using h.1
  | o, q :: qs, i + 1, p, h, hi => by
    have := RL.get (i := i) h.2 (by simpa using hi)
    have e : o + 1 + i = o + (i + 1) := by omega
    rwa [e] at this
theorem RK.get {w : World} {b : Nat} {o : Nat} {ts : List Tm} {i : Nat} {t : Tm} (h : RK w b o ts) (hi : ts[i]? = some t) :
    ∃ vl vk, w.cell? ⟨b, o + i * 5, none⟩ = some (.int .i64 t.kind) ∧ w.cell? ⟨b, o + i * 5 + 1, none⟩ = some (.int .i64 t.num) ∧ w.cell? ⟨b, o + i * 5 + 2, none⟩ = some (.int .i64 t.atN) ∧
      w.cell? ⟨b, o + i * 5 + 3, none⟩ = some vl ∧ w.cell? ⟨b, o + i * 5 + 4, none⟩ = some vk ∧ RT w t vl vk := by
  induction ts generalizing o i with
  | nil => simp at hi
  | cons q qs ih =>
    simp only [RK] at h
    cases i with
    | zero =>
      simp only [List.getElem?_cons_zero, Option.some.injEq] at hi
      subst hi
      simpa using h.1
    | succ i =>
      have := ih h.2 (i := i) (by simpa using hi)
      have e : o + 5 + i * 5 = o + (i + 1) * 5 := by omega
      rwa [e] at this

/-- Old cells and marks read as before. -/
theorem bcell {W w1 : World} (hb : Below W.heap.size W w1) : (∀ b o, b < W.heap.size → w1.cell? ⟨b, o, none⟩ = W.cell? ⟨b, o, none⟩) ∧ (∀ b o, b < W.heap.size → w1.frozen? ⟨b, o, none⟩ = W.frozen? ⟨b, o, none⟩) :=
  ⟨fun b o h => hb.cell (p := ⟨b, o, none⟩) h, fun b o h => hb.frozen (p := ⟨b, o, none⟩) h⟩
theorem below_drewN' {B : Nat} {a w : World} (h : Below B a w) (q : Nat) : Below B a (w.drewN q) := ⟨h.os, h.tape, h.output, h.size, h.block⟩
/-- A region that draws its order, whose operations read and whose callees leave all that lay in W as it was, each with one value whatever world of that kind it meets: walked once, in the order of the text. -/
theorem wp_region_below {P : Program} {id : Nat} {Q : Exit → Act → World → Prop} {a : Act} {w : World} {l : List Oper} (W : World) (hm : P.follows .mixedOrders = true) (hB : Region.lexB .any l.toArray = true) (hC : Below W.heap.size W w)
    (h : wpQuiet P l.toArray (Below W.heap.size W) (fun a' => ∀ w', Below W.heap.size W w' → Q .normal a' w') l a) : (Code.region id l.toArray true).wp P Q a w :=
  wp_region_quiet (C := Below W.heap.size W) hm hB (hC.trans ⟨rfl, rfl, rfl, Nat.le_refl _, fun _ _ => rfl⟩) (by simpa using h)
/-- A block that holds just these cells, none of them frozen. -/
def Box (w : World) (b : Nat) (vs : List Value) : Prop := ∃ t, w.heap[b]? = some (.cells vs.toArray t (0, 0))
theorem Box.lt {w : World} {b : Nat} {vs : List Value} (h : Box w b vs) : b < w.heap.size := by
  obtain ⟨t, h⟩ := h
  exact (Array.getElem?_eq_some_iff.1 h).1
theorem Box.cell {w : World} {b : Nat} {vs : List Value} (h : Box w b vs) {j : Nat} {v : Value} (hj : vs[j]? = some v) : w.cell? ⟨b, j, none⟩ = some v := by
  obtain ⟨t, h⟩ := h
  simp [World.cell?, h, hj]
theorem Box.frozen {w : World} {b : Nat} {vs : List Value} (h : Box w b vs) (j : Nat) : w.frozen? ⟨b, j, none⟩ = false := by
  obtain ⟨t, h⟩ := h
  simp [World.frozen?, h]
theorem Box.new (w : World) (vs : List Value) (t : TypeId) : Box (w.alloc (.cells vs.toArray t)) w.heap.size vs := ⟨t, heap_alloc_new w _⟩
theorem Box.new' (w : World) (vs : List Value) (t : TypeId) {b : Nat} (hb : b = w.heap.size) : Box (w.alloc (.cells vs.toArray t)) b vs := by subst hb; exact Box.new w vs t
theorem Box.move {w w1 : World} {b : Nat} {vs : List Value} (h : Box w b vs) (he : w1.heap[b]? = w.heap[b]?) : Box w1 b vs := by
  obtain ⟨t, h⟩ := h
  exact ⟨t, he.trans h⟩
theorem Box.below {w w1 : World} {b : Nat} {vs : List Value} (h : Box w b vs) (hb : Below w.heap.size w w1) : Box w1 b vs := h.move (hb.block b h.lt)
theorem Box.alloc {w : World} {b : Nat} {vs : List Value} (h : Box w b vs) (o : Obj) : Box (w.alloc o) b vs := h.below ((Below.refl _ _).alloc (Nat.le_refl _) o)
theorem Box.other {w : World} {b : Nat} {vs : List Value} (h : Box w b vs) {a : Addr} (hne : b ≠ a.block) (u : Value) : Box (w.setCell a u) b vs := h.move (Below.heap_setCell w a u b hne)
theorem Box.set {w : World} {b : Nat} {vs : List Value} (h : Box w b vs) (j : Nat) (u : Value) : Box (w.setCell ⟨b, j, none⟩ u) b (vs.set j u) := by
  obtain ⟨t, h⟩ := h
  refine ⟨t, ?_⟩
  rw [heap_setCell_same w b j vs.toArray t u h]
  simp
/-- Five cells of a block written. -/
theorem put5 {w : World} {b : Nat} {x0 x1 x2 x3 x4 : Value} (h : Box w b [x0, x1, x2, x3, x4]) (v0 v1 v2 v3 v4 : Value) :
    ∃ wf, ((((w.setCell ⟨b, 0, none⟩ v0).setCell ⟨b, 1, none⟩ v1).setCell ⟨b, 2, none⟩ v2).setCell ⟨b, 3, none⟩ v3).setCell ⟨b, 4, none⟩ v4 = wf ∧ Box wf b [v0, v1, v2, v3, v4] ∧ (∀ k, k ≠ b → wf.heap[k]? = w.heap[k]?) ∧ Below b w wf := by
  refine ⟨_, rfl, ((((h.set 0 v0).set 1 v1).set 2 v2).set 3 v3).set 4 v4, fun k hk => ?_, ?_⟩
  · rw [Below.heap_setCell _ _ _ _ hk, Below.heap_setCell _ _ _ _ hk, Below.heap_setCell _ _ _ _ hk, Below.heap_setCell _ _ _ _ hk, Below.heap_setCell _ _ _ _ hk]
  · exact (((((Below.refl b w).setCell (Nat.le_refl _) _).setCell (Nat.le_refl _) _).setCell (Nat.le_refl _) _).setCell (Nat.le_refl _) _).setCell (Nat.le_refl _) _
theorem Box.five {w : World} {b : Nat} {x0 x1 x2 x3 x4 : Value} (h : Box w b [x0, x1, x2, x3, x4]) :
    w.cell? ⟨b, 0, none⟩ = some x0 ∧ w.cell? ⟨b, 1, none⟩ = some x1 ∧ w.cell? ⟨b, 2, none⟩ = some x2 ∧ w.cell? ⟨b, 3, none⟩ = some x3 ∧ w.cell? ⟨b, 4, none⟩ = some x4 :=
  ⟨h.cell rfl, h.cell rfl, h.cell rfl, h.cell rfl, h.cell rfl⟩
theorem Box.thaw {w : World} {b : Nat} {vs : List Value} (h : Box w b vs) :
    w.frozen? ⟨b, 0, none⟩ = false ∧ w.frozen? ⟨b, 1, none⟩ = false ∧ w.frozen? ⟨b, 2, none⟩ = false ∧ w.frozen? ⟨b, 3, none⟩ = false ∧ w.frozen? ⟨b, 4, none⟩ = false :=
  ⟨h.frozen 0, h.frozen 1, h.frozen 2, h.frozen 3, h.frozen 4⟩
theorem ret_bool {a b : Bool} (h : a = b) : Ending.returned (.bool a) = .returned (.bool b) := by rw [h]
theorem ret_int {k : IntKind} {a b : Int} (h : a = b) : Ending.returned (.int k a) = .returned (.int k b) := by rw [h]

end Go.Proofs.YtgegaipkfpdocaaDoor
