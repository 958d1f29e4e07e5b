/-
  THE PLAIN LAW OF LEVELS: the normal form of a list of parts, what it is worth, its order.
  THE PLAIN LAW OF LEVELS, the rest: levels put, a level and one, values; what LevelDecides and LevelOrders say.
-/
import Derived.Test.YtgegaipkfpdocaaDoorRep
namespace Go.Proofs.YtgegaipkfpdocaaDoor
def vlP (ρ : Int → Int) (p : Int × Int) : Int := (if 0 < p.1 then ρ p.1 else 0) + p.2
def evP (ρ : Int → Int) : Lv → Int
  | [] => 0
  | p :: ps => max (vlP ρ p) (evP ρ ps)
theorem evP_nonneg (ρ : Int → Int) : ∀ ps : Lv, 0 ≤ evP ρ ps
  | [] => Int.le_refl _
  | p :: ps => by have := evP_nonneg ρ ps; simp only [evP]; omega
theorem evP_le {ρ : Int → Int} {x : Int} : ∀ {ps : Lv}, evP ρ ps ≤ x ↔ 0 ≤ x ∧ ∀ p ∈ ps, vlP ρ p ≤ x
  | [] => by simp [evP]
  | p :: ps => by
    have h := @evP_le ρ x ps
    simp only [evP, List.mem_cons, forall_eq_or_imp]
    constructor
    · intro h1
      obtain ⟨h2, h3⟩ := h.1 (by omega)
      exact ⟨h2, by omega, h3⟩
    · rintro ⟨h1, h2, h3⟩
      have := h.2 ⟨h1, h3⟩
      omega
theorem le_evP {ρ : Int → Int} {ps : Lv} {p : Int × Int} (h : p ∈ ps) : vlP ρ p ≤ evP ρ ps := (evP_le.1 (Int.le_refl _)).2 p h
theorem evP_append (ρ : Int → Int) : ∀ a b : Lv, evP ρ (a ++ b) = max (evP ρ a) (evP ρ b)
  | [], b => by have := evP_nonneg ρ b; simp only [List.nil_append, evP]; omega
  | p :: ps, b => by simp only [List.cons_append, evP, evP_append ρ ps b]; omega
theorem evP_snoc (ρ : Int → Int) (a : Lv) (p : Int × Int) : evP ρ (a ++ [p]) = max (evP ρ a) (vlP ρ p) := by
  have := evP_nonneg ρ a
  rw [evP_append]; simp only [evP]; omega

def badP (p : Int × Int) : Bool := decide (p.1 < 0) || decide (p.2 < 0) || decide (1048576 < p.1) || decide (1048576 < p.2)
theorem badP_false {p : Int × Int} : badP p = false ↔ 0 ≤ p.1 ∧ 0 ≤ p.2 ∧ p.1 ≤ 1048576 ∧ p.2 ≤ 1048576 := by
  simp only [badP, Bool.or_eq_false_iff, decide_eq_false_iff_not]
  omega
def GoodP (ps : Lv) : Prop := ∀ p ∈ ps, 0 ≤ p.1 ∧ 0 ≤ p.2 ∧ p.1 ≤ 1048576 ∧ p.2 ≤ 1048576
theorem goodP_iff {ps : Lv} : ps.any badP = false ↔ GoodP ps := by
  rw [List.any_eq_false]
  exact ⟨fun h p hp => badP_false.1 (by simpa using h p hp), fun h p hp => by simpa using badP_false.2 (h p hp)⟩

/-- A part put into a row that rises. -/
def insP (p : Int × Int) : Lv → Lv
  | [] => [p]
  | q :: qs => if q.1 < p.1 then q :: insP p qs else if q.1 = p.1 then (p.1, max p.2 q.2) :: qs else p :: q :: qs
def rowP (ps : Lv) : Lv := ps.foldl (fun r p => insP p r) []
def keepP (r : Lv) (p : Int × Int) : Bool := decide (0 < p.1) || (decide (0 < p.2) && !(r.any fun q => decide (0 < q.1) && decide (p.2 ≤ q.2)))
/-- The normal form. -/
def nfP (ps : Lv) : Lv := if ps.any badP then [] else (rowP ps).filter (keepP (rowP ps))
theorem rowP_snoc (ps : Lv) (p : Int × Int) : rowP (ps ++ [p]) = insP p (rowP ps) := by simp [rowP, List.foldl_append]

def RiseP (r : Lv) : Prop := r.Pairwise fun p q => p.1 < q.1
theorem insP_fst {p q : Int × Int} : ∀ {r : Lv}, q ∈ insP p r → q.1 = p.1 ∨ q ∈ r
  | [], h => by simp only [insP, List.mem_singleton] at h; exact .inl (by rw [h])
  | s :: r, h => by
    simp only [insP] at h
    split at h
    · rcases List.mem_cons.1 h with h | h
      · exact .inr (by simp [h])
      · rcases insP_fst h with h | h
        · exact .inl h
        · exact .inr (by simp [h])
    · split at h
      · rcases List.mem_cons.1 h with h | h
        · exact .inl (by rw [h])
        · exact .inr (by simp [h])
      · rcases List.mem_cons.1 h with h | h
        · exact .inl (by rw [h])
        · exact .inr h
theorem insP_rise {p : Int × Int} : ∀ {r : Lv}, RiseP r → RiseP (insP p r)
  | [], _ => by simp [insP, RiseP]
  | s :: r, h => by
    have h' := List.pairwise_cons.1 h
    simp only [insP]
    split
    · rename_i hlt
      refine List.pairwise_cons.2 ⟨fun q hq => ?_, insP_rise h'.2⟩
      rcases insP_fst hq with e | hq
      · omega
      · exact h'.1 q hq
    · split
      · rename_i he
        exact List.pairwise_cons.2 ⟨fun q hq => by have := h'.1 q hq; simp only; omega, h'.2⟩
      · refine List.pairwise_cons.2 ⟨fun q hq => ?_, h⟩
        rcases List.mem_cons.1 hq with rfl | hq
        · omega
        · have := h'.1 q hq; omega
theorem rowP_rise (ps : Lv) : RiseP (rowP ps) := by
  have : ∀ (ps r : Lv), RiseP r → RiseP (ps.foldl (fun r p => insP p r) r) := by
    intro ps
    induction ps with
    | nil => intro r h; exact h
    | cons p ps ih => intro r h; exact ih _ (insP_rise h)
  exact this ps [] List.Pairwise.nil
theorem RiseP.one {r : Lv} (h : RiseP r) {p q : Int × Int} (hp : p ∈ r) (hq : q ∈ r) (e : p.1 = q.1) : p = q := by
  induction r with
  | nil => cases hp
  | cons s r ih =>
    have h' := List.pairwise_cons.1 h
    rcases List.mem_cons.1 hp with hp1 | hp1
    · rcases List.mem_cons.1 hq with hq1 | hq1
      · rw [hp1, hq1]
      · have := h'.1 q hq1; rw [← hp1] at this; omega
    · rcases List.mem_cons.1 hq with hq1 | hq1
      · have := h'.1 p hp1; rw [← hq1] at this; omega
      · exact ih h'.2 hp1 hq1
/-- What the row is behind a part more. -/
theorem insP_other {p q : Int × Int} (hne : q.1 ≠ p.1) : ∀ {r : Lv}, q ∈ insP p r ↔ q ∈ r
  | [] => by simp only [insP, List.mem_singleton]; exact ⟨fun h => absurd (by rw [h]) hne, fun h => by cases h⟩
  | s :: r => by
    simp only [insP]
    split
    · simp only [List.mem_cons, insP_other hne (r := r)]
    · split
      · rename_i he
        simp only [List.mem_cons]
        refine ⟨fun h => h.elim (fun h => absurd (by rw [h]) hne) .inr, fun h => h.elim (fun h => absurd (by rw [h]; exact he) hne) .inr⟩
      · simp only [List.mem_cons]
        exact ⟨fun h => h.elim (fun h => absurd (by rw [h]) hne) id, .inr⟩
theorem insP_hit {p : Int × Int} {m : Int} : ∀ {r : Lv}, RiseP r → (p.1, m) ∈ r → (p.1, max p.2 m) ∈ insP p r
  | [], _, h => by cases h
  | s :: r, hr, h => by
    have h' := List.pairwise_cons.1 hr
    simp only [insP]
    rcases List.mem_cons.1 h with rfl | h
    · simp
    · have := h'.1 _ h
      rw [if_pos this]
      exact List.mem_cons_of_mem _ (insP_hit h'.2 h)
theorem insP_new {p : Int × Int} : ∀ {r : Lv}, (∀ q ∈ r, q.1 ≠ p.1) → p ∈ insP p r
  | [], _ => by simp [insP]
  | s :: r, h => by
    have hs := h s (by simp)
    simp only [insP, if_neg hs]
    split
    · exact List.mem_cons_of_mem _ (insP_new fun q hq => h q (by simp [hq]))
    · simp
theorem insP_has (p : Int × Int) : ∀ r : Lv, ∃ m, (p.1, m) ∈ insP p r
  | [] => ⟨p.2, by simp [insP]⟩
  | s :: r => by
    simp only [insP]
    split
    · obtain ⟨m, hm⟩ := insP_has p r; exact ⟨m, List.mem_cons_of_mem _ hm⟩
    · split
      · exact ⟨max p.2 s.2, by simp⟩
      · exact ⟨p.2, by simp⟩
theorem insP_all {P : Int × Int → Prop} {p : Int × Int} (hp : P p) (hm : ∀ q, P q → q.1 = p.1 → P (p.1, max p.2 q.2)) : ∀ {r : Lv}, (∀ q ∈ r, P q) → ∀ q ∈ insP p r, P q
  | [], _, q, hq => by simp only [insP, List.mem_singleton] at hq; subst hq; exact hp
  | s :: r, h, q, hq => by
    simp only [insP] at hq
    split at hq
    · rcases List.mem_cons.1 hq with rfl | hq
      · exact h _ (by simp)
      · exact insP_all hp hm (fun q hq => h q (by simp [hq])) q hq
    · split at hq
      · rename_i he
        rcases List.mem_cons.1 hq with rfl | hq
        · exact hm s (h s (by simp)) he
        · exact h q (by simp [hq])
      · rcases List.mem_cons.1 hq with rfl | hq
        · exact hp
        · exact h q hq
theorem rowP_all {P : Int × Int → Prop} (hm : ∀ p q, P p → P q → q.1 = p.1 → P (p.1, max p.2 q.2)) {ps : Lv} (h : ∀ p ∈ ps, P p) : ∀ q ∈ rowP ps, P q := by
  have : ∀ (ps r : Lv), (∀ p ∈ ps, P p) → (∀ p ∈ r, P p) → ∀ q ∈ ps.foldl (fun r p => insP p r) r, P q := by
    intro ps
    induction ps with
    | nil => intro r _ h; exact h
    | cons p ps ih => intro r h1 h2; exact ih _ (fun q hq => h1 q (by simp [hq])) (insP_all (h1 p (by simp)) (fun q hq e => hm p q (h1 p (by simp)) hq e) h2)
  exact this ps [] h (fun _ h => by cases h)
/-- Each bound of the parts is one of the normal form's. -/
theorem nfP_all {P : Int × Int → Prop} (hm : ∀ p q, P p → P q → q.1 = p.1 → P (p.1, max p.2 q.2)) {ps : Lv} (h : ∀ p ∈ ps, P p) : ∀ q ∈ nfP ps, P q := by
  unfold nfP
  split
  · intro q hq; cases hq
  · intro q hq; exact rowP_all hm h q (List.mem_filter.1 hq).1
theorem rowP_good {ps : Lv} (h : GoodP ps) : GoodP (rowP ps) := rowP_all (P := fun p => 0 ≤ p.1 ∧ 0 ≤ p.2 ∧ p.1 ≤ 1048576 ∧ p.2 ≤ 1048576) (by rintro ⟨a, b⟩ ⟨c, d⟩ h1 h2 e; simp only at *; omega) h

/-- A normal form. -/
structure NFP (x : Lv) : Prop where
  rise : RiseP x
  good : GoodP x
  zero : ∀ p ∈ x, p.1 = 0 → 0 < p.2 ∧ ∀ q ∈ x, 0 < q.1 → q.2 < p.2
theorem NFP.nil : NFP [] := ⟨List.Pairwise.nil, fun _ h => (by cases h), fun _ h => (by cases h)⟩
theorem keepP_true {r : Lv} {p : Int × Int} : keepP r p = true ↔ 0 < p.1 ∨ (0 < p.2 ∧ ∀ q ∈ r, 0 < q.1 → q.2 < p.2) := by
  simp only [keepP, Bool.or_eq_true, decide_eq_true_eq, Bool.and_eq_true, Bool.not_eq_true', List.any_eq_false]
  constructor
  · rintro (h | ⟨h1, h2⟩)
    · exact .inl h
    · exact .inr ⟨h1, fun q hq h0 => by have := h2 q hq; simp only [not_and] at this; have := this h0; omega⟩
  · rintro (h | ⟨h1, h2⟩)
    · exact .inl h
    · exact .inr ⟨h1, fun q hq => by rintro ⟨h3, h4⟩; have := h2 q hq h3; omega⟩
theorem nfP_nf (ps : Lv) : NFP (nfP ps) := by
  unfold nfP
  cases hb : ps.any badP with
  | true => exact NFP.nil
  | false =>
    have hg := rowP_good (goodP_iff.1 hb)
    rw [if_neg (by simp)]
    refine ⟨(rowP_rise ps).filter _, fun p hp => hg p (List.mem_filter.1 hp).1, fun p hp h0 => ?_⟩
    have := keepP_true.1 (List.mem_filter.1 hp).2
    rcases this with h | ⟨h1, h2⟩
    · omega
    · exact ⟨h1, fun q hq => h2 q (List.mem_filter.1 hq).1⟩
theorem insP_ev (ρ : Int → Int) (p : Int × Int) : ∀ r : Lv, evP ρ (insP p r) = max (vlP ρ p) (evP ρ r)
  | [] => rfl
  | s :: r => by
    simp only [insP]
    split
    · simp only [evP, insP_ev ρ p r]; omega
    · split
      · rename_i he
        obtain ⟨a, b⟩ := p
        obtain ⟨c, d⟩ := s
        simp only at he
        subst he
        simp only [evP, vlP]
        omega
      · simp only [evP]
theorem rowP_ev (ρ : Int → Int) (ps : Lv) : evP ρ (rowP ps) = evP ρ ps := by
  have : ∀ (ps r : Lv), evP ρ (ps.foldl (fun r p => insP p r) r) = max (evP ρ r) (evP ρ ps) := by
    intro ps
    induction ps with
    | nil => intro r; have := evP_nonneg ρ r; simp only [List.foldl_nil, evP]; omega
    | cons p ps ih => intro r; rw [List.foldl_cons, ih, insP_ev]; simp only [evP]; omega
  have h := this ps []
  have h0 := evP_nonneg ρ ps
  simp only [evP] at h
  unfold rowP
  omega
/-- The normal form is worth what the parts are. -/
theorem nfP_ev {ρ : Int → Int} (hρ : ∀ v, 0 ≤ ρ v) {ps : Lv} (h : GoodP ps) : evP ρ (nfP ps) = evP ρ ps := by
  have hg := rowP_good h
  unfold nfP
  rw [goodP_iff.2 h, if_neg (by simp), ← rowP_ev ρ ps]
  generalize rowP ps = r at *
  refine Int.le_antisymm (evP_le.2 ⟨evP_nonneg _ _, fun p hp => le_evP (List.mem_filter.1 hp).1⟩) (evP_le.2 ⟨evP_nonneg _ _, fun p hp => ?_⟩)
  cases hk : keepP r p with
  | true => exact le_evP (List.mem_filter.2 ⟨hp, hk⟩)
  | false =>
    have hk' : ¬ (0 < p.1 ∨ (0 < p.2 ∧ ∀ q ∈ r, 0 < q.1 → q.2 < p.2)) := by rw [← keepP_true, hk]; simp
    have h1 : ¬ 0 < p.1 := fun hh => hk' (.inl hh)
    have hv : vlP ρ p = p.2 := by simp [vlP, h1]
    rw [hv]
    by_cases h2 : 0 < p.2
    · obtain ⟨q, hq, hq0, hqp⟩ : ∃ q ∈ r, 0 < q.1 ∧ p.2 ≤ q.2 := by
        apply Classical.byContradiction
        intro hh
        exact hk' (.inr ⟨h2, fun q hq h0 => by
          apply Classical.byContradiction
          intro h3
          exact hh ⟨q, hq, h0, by omega⟩⟩)
      have := le_evP (ρ := ρ) (ps := r.filter (keepP r)) (List.mem_filter.2 ⟨hq, keepP_true.2 (.inl hq0)⟩)
      have h3 := hρ q.1
      simp only [vlP, if_pos hq0] at this
      omega
    · have := evP_nonneg ρ (r.filter (keepP r)); omega

/-- A row that rises is its own row. -/
theorem insP_last {p : Int × Int} : ∀ {r : Lv}, (∀ q ∈ r, q.1 < p.1) → insP p r = r ++ [p]
  | [], _ => rfl
  | s :: r, h => by
    have ih := insP_last (p := p) (r := r) fun q hq => h q (by simp [hq])
    simp only [insP, if_pos (h s (by simp)), List.cons_append, ih]
theorem rowP_self {x : Lv} (h : RiseP x) : rowP x = x := by
  have : ∀ (ps r : Lv), RiseP (r ++ ps) → ps.foldl (fun r p => insP p r) r = r ++ ps := by
    intro ps
    induction ps with
    | nil => intro r _; simp
    | cons p ps ih =>
      intro r h
      have h1 := List.pairwise_append.1 h
      rw [List.foldl_cons, insP_last fun q hq => h1.2.2 q hq p (by simp), ih _ (by simpa using h)]
      simp
  exact this x [] (by simpa using h)
theorem nfP_self {x : Lv} (h : NFP x) : nfP x = x := by
  unfold nfP
  rw [goodP_iff.2 h.good, if_neg (by simp), rowP_self h.rise]
  refine List.filter_eq_self.2 fun p hp => keepP_true.2 ?_
  by_cases h0 : 0 < p.1
  · exact .inl h0
  · exact .inr (h.zero p hp (by have := (h.good p hp).1; omega))

/-- The order, as it is asked. -/
def leqP (x y : Lv) : Bool := x.all fun p => y.any fun q => (decide (p.1 = 0) || decide (p.1 = q.1)) && decide (p.2 ≤ q.2)
theorem leqP_true {x y : Lv} : leqP x y = true ↔ ∀ p ∈ x, ∃ q ∈ y, (p.1 = 0 ∨ p.1 = q.1) ∧ p.2 ≤ q.2 := by
  simp [leqP]
theorem leqP_ev {x y : Lv} (hx : NFP x) (h : leqP x y = true) {ρ : Int → Int} (hρ : ∀ v, 0 ≤ ρ v) : evP ρ x ≤ evP ρ y := by
  refine evP_le.2 ⟨evP_nonneg _ _, fun p hp => ?_⟩
  obtain ⟨q, hq, h1, h2⟩ := leqP_true.1 h p hp
  refine Int.le_trans ?_ (le_evP hq)
  have h3 := hρ q.1
  have h4 := hρ p.1
  have h5 := (hx.good p hp).1
  simp only [vlP]
  rcases h1 with h1 | h1
  · rw [if_neg (by omega)]; split <;> omega
  · rw [h1]; omega
def oneAt (v B : Int) (u : Int) : Int := if u = v then B else 0
theorem leqP_no {x y : Lv} (hx : NFP x) (h : leqP x y = false) {B : Int} (hB0 : 0 < B) (hB : ∀ q ∈ y, q.2 < B) :
    evP (fun _ => 0) y < evP (fun _ => 0) x ∨ ∃ p ∈ x, 0 < p.1 ∧ evP (oneAt p.1 B) y < evP (oneAt p.1 B) x := by
  obtain ⟨p, hp, hn⟩ : ∃ p ∈ x, ∀ q ∈ y, (p.1 = 0 ∨ p.1 = q.1) → q.2 < p.2 := by
    apply Classical.byContradiction
    intro hh
    have : leqP x y = true := leqP_true.2 fun p hp => by
      apply Classical.byContradiction
      intro h2
      exact hh ⟨p, hp, fun q hq h3 => by
        apply Classical.byContradiction
        intro h4
        exact h2 ⟨q, hq, h3, by omega⟩⟩
    rw [h] at this; cases this
  have hg := hx.good p hp
  by_cases h0 : p.1 = 0
  · left
    have h1 := le_evP (ρ := fun _ => 0) hp
    have h2 := (hx.zero p hp h0).1
    have h3 : evP (fun _ => 0) y ≤ p.2 - 1 := evP_le.2 ⟨by omega, fun q hq => by have := hn q hq (.inl h0); simp only [vlP]; split <;> omega⟩
    simp only [vlP, if_neg (show ¬ 0 < p.1 by omega)] at h1
    omega
  · right
    refine ⟨p, hp, by omega, ?_⟩
    have h1 := le_evP (ρ := oneAt p.1 B) hp
    have h3 : evP (oneAt p.1 B) y ≤ B + p.2 - 1 := evP_le.2 ⟨by omega, fun q hq => by
      simp only [vlP, oneAt]
      have h5 := hB q hq
      by_cases he : q.1 = p.1
      · have := hn q hq (.inr he.symm)
        split <;> omega
      · split <;> omega⟩
    simp only [vlP, if_pos (show 0 < p.1 by omega), oneAt, if_pos] at h1
    omega
theorem leqP_iff {x y : Lv} (hx : NFP x) (hy : NFP y) : leqP x y = true ↔ ∀ ρ : Int → Int, (∀ v, 0 ≤ ρ v) → evP ρ x ≤ evP ρ y := by
  refine ⟨fun h ρ hρ => leqP_ev hx h hρ, fun h => ?_⟩
  cases hl : leqP x y with
  | true => rfl
  | false =>
    rcases leqP_no hx hl (B := 1048577) (by omega) (fun q hq => by have := (hy.good q hq).2.2.2; omega) with h1 | ⟨p, hp, h0, h1⟩
    · have := h (fun _ => 0) (fun _ => Int.le_refl _); omega
    · have := h (oneAt p.1 1048577) (fun u => by unfold oneAt; split <;> omega); omega
/-- Both ways: one. -/
theorem leqP_half {x y : Lv} (hx : NFP x) (hy : NFP y) (h1 : leqP x y = true) (h2 : leqP y x = true) : ∀ p ∈ x, p ∈ y := by
  intro p hp
  obtain ⟨q, hq, e1, l1⟩ := leqP_true.1 h1 p hp
  obtain ⟨r, hr, e2, l2⟩ := leqP_true.1 h2 q hq
  have hgq := (hy.good q hq).1
  have hgr := (hx.good r hr).1
  by_cases h0 : p.1 = 0
  · obtain ⟨z1, z2⟩ := hx.zero p hp h0
    by_cases hq0 : q.1 = 0
    · by_cases hr0 : r.1 = 0
      · have := hx.rise.one hp hr (by omega)
        subst this
        have : p = q := Prod.ext (by omega) (by omega)
        rw [this]; exact hq
      · have := z2 r hr (by omega); omega
    · rcases e2 with e2 | e2
      · omega
      · have := z2 r hr (by omega); omega
  · rcases e1 with e1 | e1
    · exact absurd e1 h0
    · rcases e2 with e2 | e2
      · omega
      · have := hx.rise.one hp hr (by omega)
        subst this
        have : p = q := Prod.ext (by omega) (by omega)
        rw [this]; exact hq
theorem rise_ext : ∀ {x y : Lv}, RiseP x → RiseP y → (∀ p, p ∈ x ↔ p ∈ y) → x = y
  | [], [], _, _, _ => rfl
  | [], q :: y, _, _, h => by have := (h q).2 (by simp); cases this
  | p :: x, [], _, _, h => by have := (h p).1 (by simp); cases this
  | p :: x, q :: y, hx, hy, h => by
    have hx' := List.pairwise_cons.1 hx
    have hy' := List.pairwise_cons.1 hy
    have e : p = q := by
      rcases List.mem_cons.1 ((h p).1 (by simp)) with e | h1
      · exact e
      · rcases List.mem_cons.1 ((h q).2 (by simp)) with e | h2
        · exact e.symm
        · have := hy'.1 p h1; have := hx'.1 q h2; omega
    subst e
    rw [rise_ext hx'.2 hy'.2 fun r => ⟨fun hr => by
      rcases List.mem_cons.1 ((h r).1 (by simp [hr])) with e | h1
      · have := hx'.1 r hr; rw [e] at this; omega
      · exact h1, fun hr => by
      rcases List.mem_cons.1 ((h r).2 (by simp [hr])) with e | h1
      · have := hy'.1 r hr; rw [e] at this; omega
      · exact h1⟩]
theorem leqP_anti {x y : Lv} (hx : NFP x) (hy : NFP y) (h1 : leqP x y = true) (h2 : leqP y x = true) : x = y :=
  rise_ext hx.rise hy.rise fun p => ⟨leqP_half hx hy h1 h2 p, leqP_half hy hx h2 h1 p⟩
theorem leqP_refl {x : Lv} (hx : NFP x) : leqP x x = true := (leqP_iff hx hx).2 fun _ _ => Int.le_refl _
theorem nf_ext {x y : Lv} (hx : NFP x) (hy : NFP y) (h : ∀ ρ : Int → Int, (∀ v, 0 ≤ ρ v) → evP ρ x = evP ρ y) : x = y :=
  leqP_anti hx hy ((leqP_iff hx hy).2 fun ρ hρ => by rw [h ρ hρ]; exact Int.le_refl _) ((leqP_iff hy hx).2 fun ρ hρ => by rw [h ρ hρ]; exact Int.le_refl _)

def lvAt (bs : List Lv) (v : Int) : Lv := if 0 < v then bs.getD (v - 1).toNat [] else []
def subP (bs : List Lv) (p : Int × Int) : Lv := if nfP (lvAt bs p.1) = [] then [(0, 0)] else nfP (lvAt bs p.1)
def addP (n : Int) (x : Lv) : Lv := x.map fun q => (q.1, q.2 + n)
def putsP (l : Lv) (bs : List Lv) : Lv := (nfP l).flatMap fun p => addP p.2 (subP bs p)
def putLv (l : Lv) (bs : List Lv) : Lv := nfP (putsP l bs)
def sucL (l : Lv) : Lv := if nfP l = [] then nfP [(0, 1)] else nfP (addP 1 (nfP l))
def numR (ns : List Int) (v : Int) : Int := if 0 < v ∧ v ≤ ns.length ∧ 0 ≤ ns.getD (v - 1).toNat 0 ∧ ns.getD (v - 1).toNat 0 ≤ 1048576 then ns.getD (v - 1).toNat 0 else 0
def valL (l : Lv) (ns : List Int) : Int := evP (numR ns) (nfP l)
def leqL (a b : Lv) : Bool := leqP (nfP a) (nfP b)
def SmP (l : Lv) : Prop := ∀ p ∈ l, 0 ≤ p.1 ∧ p.1 ≤ 200 ∧ 0 ≤ p.2 ∧ p.2 ≤ 262144
theorem numR_nonneg (ns : List Int) (v : Int) : 0 ≤ numR ns v := by unfold numR; split <;> omega
theorem numR_le (ns : List Int) (v : Int) : numR ns v ≤ 1048576 := by unfold numR; split <;> omega
theorem nfP_nil : nfP [] = [] := rfl
theorem SmP.good {l : Lv} (h : SmP l) : GoodP l := fun p hp => by have := h p hp; omega
theorem SmP.nf {l : Lv} (h : SmP l) : SmP (nfP l) :=
  nfP_all (P := fun p => 0 ≤ p.1 ∧ p.1 ≤ 200 ∧ 0 ≤ p.2 ∧ p.2 ≤ 262144) (by rintro ⟨a, b⟩ ⟨c, d⟩ h1 h2 e; simp only at *; omega) h
theorem SmP.append {a b : Lv} (ha : SmP a) (hb : SmP b) : SmP (a ++ b) := fun p hp => (List.mem_append.1 hp).elim (ha p) (hb p)
theorem lvAt_sm {bs : List Lv} (h : ∀ l ∈ bs, SmP l) (v : Int) : SmP (lvAt bs v) := by
  unfold lvAt
  split
  · rw [List.getD_eq_getElem?_getD]
    cases hg : bs[(v - 1).toNat]? with
    | none => intro p hp; cases hp
    | some l => exact h l (List.mem_of_getElem? hg)
  · intro p hp; cases hp
theorem subP_nonempty (bs : List Lv) (p : Int × Int) : subP bs p ≠ [] := by unfold subP; split <;> simp_all
theorem subP_sm {bs : List Lv} (h : ∀ l ∈ bs, SmP l) (p : Int × Int) : SmP (subP bs p) := by
  unfold subP
  split
  · intro q hq; simp only [List.mem_singleton] at hq; subst hq; simp
  · exact (lvAt_sm h _).nf
theorem evP_add {ρ : Int → Int} (n : Int) (hn : 0 ≤ n) : ∀ {x : Lv}, x ≠ [] → (∀ p ∈ x, 0 ≤ vlP ρ p) → evP ρ (addP n x) = evP ρ x + n
  | [], h, _ => absurd rfl h
  | [p], _, h => by
    have := h p (by simp)
    simp only [addP, List.map_cons, List.map_nil, evP, vlP] at *
    omega
  | p :: q :: x, _, h => by
    have ih := evP_add n hn (x := q :: x) (by simp) (fun r hr => h r (by simp [hr]))
    have e : addP n (p :: q :: x) = (p.1, p.2 + n) :: addP n (q :: x) := rfl
    rw [e]
    simp only [evP] at ih ⊢
    rw [ih]
    have e2 : vlP ρ (p.1, p.2 + n) = vlP ρ p + n := by simp only [vlP]; omega
    omega
theorem vlP_nonneg {ρ : Int → Int} (hρ : ∀ v, 0 ≤ ρ v) {p : Int × Int} (h : 0 ≤ p.2) : 0 ≤ vlP ρ p := by
  have := hρ p.1
  unfold vlP; split <;> omega
theorem evP_flat {ρ σ : Int → Int} {f : Int × Int → Lv} : ∀ {x : Lv}, (∀ p ∈ x, evP ρ (f p) = max 0 (vlP σ p)) → evP ρ (x.flatMap f) = evP σ x
  | [], _ => rfl
  | p :: x, h => by
    have ih := evP_flat (ρ := ρ) (σ := σ) (f := f) (x := x) fun q hq => h q (by simp [hq])
    have hp := h p (by simp)
    have h0 := evP_nonneg σ x
    rw [List.flatMap_cons, evP_append, ih, hp]
    simp only [evP]
    omega
theorem subP_ev {ρ : Int → Int} (bs : List Lv) (p : Int × Int) : evP ρ (subP bs p) = evP ρ (nfP (lvAt bs p.1)) := by
  unfold subP
  split
  · rename_i h; rw [h]; simp [evP, vlP]
  · rfl
/-- What a level with levels put is worth. -/
theorem putsP_ev {ρ : Int → Int} (hρ : ∀ v, 0 ≤ ρ v) (l : Lv) (bs : List Lv) : evP ρ (putsP l bs) = evP (fun v => evP ρ (nfP (lvAt bs v))) (nfP l) := by
  unfold putsP
  refine evP_flat fun p hp => ?_
  have hg := (nfP_nf l).good p hp
  have hs : ∀ q ∈ subP bs p, 0 ≤ q.2 := by
    unfold subP
    split
    · intro q hq; simp only [List.mem_singleton] at hq; subst hq; simp
    · intro q hq; exact ((nfP_nf _).good q hq).2.1
  rw [evP_add p.2 hg.2.1 (subP_nonempty bs p) (fun q hq => vlP_nonneg hρ (hs q hq)), subP_ev]
  have h0 := evP_nonneg ρ (nfP (lvAt bs p.1))
  simp only [vlP]
  split
  · omega
  · have : lvAt bs p.1 = [] := by unfold lvAt; rw [if_neg (by assumption)]
    rw [this, nfP_nil]; simp only [evP]; omega
theorem putsP_mem {l : Lv} {bs : List Lv} {q : Int × Int} (h : q ∈ putsP l bs) : ∃ p ∈ nfP l, ∃ r ∈ subP bs p, q = (r.1, r.2 + p.2) := by
  simp only [putsP, List.mem_flatMap, addP, List.mem_map] at h
  obtain ⟨p, hp, r, hr, rfl⟩ := h
  exact ⟨p, hp, r, hr, rfl⟩
theorem putsP_good {l : Lv} {bs : List Lv} (hl : SmP l) (hb : ∀ l ∈ bs, SmP l) : GoodP (putsP l bs) := by
  intro q hq
  obtain ⟨p, hp, r, hr, rfl⟩ := putsP_mem hq
  have h1 := hl.nf p hp
  have h2 := subP_sm hb p r hr
  simp only
  omega
theorem putLv_ev {l : Lv} {bs : List Lv} (hl : SmP l) (hb : ∀ l ∈ bs, SmP l) {ρ : Int → Int} (hρ : ∀ v, 0 ≤ ρ v) : evP ρ (putLv l bs) = evP (fun v => evP ρ (nfP (lvAt bs v))) (nfP l) := by
  unfold putLv
  rw [nfP_ev hρ (putsP_good hl hb), putsP_ev hρ]
theorem sucL_nf (l : Lv) : NFP (sucL l) := by unfold sucL; split <;> exact nfP_nf _
theorem sucL_ev {l : Lv} (hl : SmP l) {ρ : Int → Int} (hρ : ∀ v, 0 ≤ ρ v) : evP ρ (sucL l) = evP ρ (nfP l) + 1 := by
  unfold sucL
  split
  · rename_i h
    rw [h, nfP_ev hρ (by intro p hp; simp only [List.mem_singleton] at hp; subst hp; simp)]
    rfl
  · rename_i h
    rw [nfP_ev hρ (by
      intro q hq
      simp only [addP, List.mem_map] at hq
      obtain ⟨r, hr, rfl⟩ := hq
      have := hl.nf r hr
      simp only
      omega), evP_add 1 (by omega) h (fun p hp => vlP_nonneg hρ (hl.nf p hp).2.2.1)]

/-! LevelDecides. -/
theorem decides_yes {a b : Lv} (h : leqL a b = true) (ns : List Int) : valL a ns ≤ valL b ns := leqP_ev (nfP_nf a) h (numR_nonneg ns)
def bigAt (v : Nat) : List Int := (List.replicate 200 (0 : Int)).set v 524288
theorem bigAt_num {v : Nat} (hv : v < 200) (u : Int) : numR (bigAt v) u = oneAt ((v : Int) + 1) 524288 u := by
  have hl : (bigAt v).length = 200 := by unfold bigAt; rw [List.length_set, List.length_replicate]
  have hg : ∀ k, (bigAt v).getD k 0 = if k = v then 524288 else 0 := by
    intro k
    rw [List.getD_eq_getElem?_getD]
    unfold bigAt
    rw [List.getElem?_set]
    by_cases hk : v = k
    · subst hk; rw [if_pos rfl, if_pos (by rw [List.length_replicate]; exact hv), if_pos rfl]; rfl
    · rw [if_neg hk, if_neg (fun e => hk e.symm)]
      by_cases h : k < 200
      · rw [List.getElem?_replicate, if_pos h]; rfl
      · rw [List.getElem?_replicate, if_neg h]; rfl
  unfold numR oneAt
  rw [hl, hg]
  by_cases h0 : 0 < u
  · by_cases he : (u - 1).toNat = v
    · have hu : u = (v : Int) + 1 := by omega
      rw [if_pos he, if_pos hu, if_pos (by omega)]
    · have hu : ¬ u = (v : Int) + 1 := by omega
      rw [if_neg he, if_neg hu]; split <;> rfl
  · rw [if_neg (by omega), if_neg (by omega)]
theorem evP_congr {ρ σ : Int → Int} (h : ∀ v, ρ v = σ v) (x : Lv) : evP ρ x = evP σ x := by
  have : ρ = σ := funext h
  rw [this]
theorem numR_nil (v : Int) : numR [] v = 0 := by unfold numR; rw [if_neg]; simp only [List.length_nil]; omega
theorem decides_no {a b : Lv} (ha : SmP a) (hb : SmP b) (h : leqL a b = false) : valL b [] < valL a [] ∨ ∃ v < 200, valL b (bigAt v) < valL a (bigAt v) := by
  rcases leqP_no (nfP_nf a) h (B := 524288) (by omega) (fun q hq => by have := hb.nf q hq; omega) with h1 | ⟨p, hp, h0, h1⟩
  · left
    unfold valL
    rw [evP_congr numR_nil, evP_congr numR_nil]
    exact h1
  · right
    have hpb := ha.nf p hp
    have hv : (p.1 - 1).toNat < 200 := by omega
    refine ⟨(p.1 - 1).toNat, hv, ?_⟩
    have e : ((p.1 - 1).toNat : Int) + 1 = p.1 := by omega
    have hc : ∀ u, numR (bigAt (p.1 - 1).toNat) u = oneAt p.1 524288 u := fun u => by rw [bigAt_num hv, e]
    unfold valL
    rw [evP_congr hc, evP_congr hc]
    exact h1

/-! LevelOrders. -/
section
variable {a b c : Lv} {bs : List Lv}
theorem ord_refl : leqL a a = true := leqP_refl (nfP_nf a)
theorem ord_trans (h1 : leqL a b = true) (h2 : leqL b c = true) : leqL a c = true :=
  (leqP_iff (nfP_nf a) (nfP_nf c)).2 fun _ hρ => Int.le_trans (leqP_ev (nfP_nf a) h1 hρ) (leqP_ev (nfP_nf b) h2 hρ)
theorem ord_same : (leqL a b && leqL b a) = decide (nfP a = nfP b) := by
  rw [Bool.eq_iff_iff, Bool.and_eq_true, decide_eq_true_iff]
  refine ⟨fun ⟨h1, h2⟩ => leqP_anti (nfP_nf a) (nfP_nf b) h1 h2, fun h => ?_⟩
  unfold leqL
  rw [h]
  exact ⟨leqP_refl (nfP_nf b), leqP_refl (nfP_nf b)⟩
theorem nf_twice : nfP (nfP a) = nfP a := nfP_self (nfP_nf a)
theorem max_ev (ha : SmP a) (hb : SmP b) {ρ : Int → Int} (hρ : ∀ v, 0 ≤ ρ v) : evP ρ (nfP (nfP (a ++ b))) = max (evP ρ (nfP a)) (evP ρ (nfP b)) := by
  rw [nf_twice, nfP_ev hρ (ha.append hb).good, nfP_ev hρ ha.good, nfP_ev hρ hb.good, evP_append]
theorem ord_max_l (ha : SmP a) (hb : SmP b) : leqL a (nfP (a ++ b)) = true :=
  (leqP_iff (nfP_nf _) (nfP_nf _)).2 fun ρ hρ => by rw [max_ev ha hb hρ]; omega
theorem ord_max_r (ha : SmP a) (hb : SmP b) : leqL b (nfP (a ++ b)) = true :=
  (leqP_iff (nfP_nf _) (nfP_nf _)).2 fun ρ hρ => by rw [max_ev ha hb hρ]; omega
theorem ord_max (ha : SmP a) (hb : SmP b) (h1 : leqL a c = true) (h2 : leqL b c = true) : leqL (nfP (a ++ b)) c = true :=
  (leqP_iff (nfP_nf _) (nfP_nf _)).2 fun ρ hρ => by
    have h3 := leqP_ev (nfP_nf a) h1 hρ
    have h4 := leqP_ev (nfP_nf b) h2 hρ
    rw [max_ev ha hb hρ]; omega
theorem suc_ev (ha : SmP a) {ρ : Int → Int} (hρ : ∀ v, 0 ≤ ρ v) : evP ρ (nfP (sucL a)) = evP ρ (nfP a) + 1 := by rw [nfP_self (sucL_nf a), sucL_ev ha hρ]
theorem ord_suc (ha : SmP a) : leqL a (sucL a) = true := (leqP_iff (nfP_nf _) (nfP_nf _)).2 fun ρ hρ => by rw [suc_ev ha hρ]; omega
theorem ord_suc_no (ha : SmP a) : leqL (sucL a) a = false := by
  cases h : leqL (sucL a) a with
  | false => rfl
  | true =>
    have hρ : ∀ v : Int, (0 : Int) ≤ (fun _ => 0) v := fun _ => Int.le_refl _
    have := leqP_ev (nfP_nf _) h hρ
    rw [suc_ev ha hρ] at this
    omega
theorem put_ev (ha : SmP a) (hs : ∀ l ∈ bs, SmP l) {ρ : Int → Int} (hρ : ∀ v, 0 ≤ ρ v) : evP ρ (nfP (putLv a bs)) = evP (fun v => evP ρ (nfP (lvAt bs v))) (nfP a) := by
  rw [show nfP (putLv a bs) = putLv a bs from nf_twice, putLv_ev ha hs hρ]
theorem ord_put (ha : SmP a) (hb : SmP b) (hs : ∀ l ∈ bs, SmP l) (h : leqL a b = true) : leqL (putLv a bs) (putLv b bs) = true :=
  (leqP_iff (nfP_nf _) (nfP_nf _)).2 fun ρ hρ => by
    rw [put_ev ha hs hρ, put_ev hb hs hρ]
    exact leqP_ev (nfP_nf a) h fun v => evP_nonneg _ _
theorem ord_put_max (ha : SmP a) (hb : SmP b) (hs : ∀ l ∈ bs, SmP l) : nfP (putLv (nfP (a ++ b)) bs) = nfP (nfP (putLv a bs ++ putLv b bs)) := by
  refine nf_ext (nfP_nf _) (nfP_nf _) fun ρ hρ => ?_
  have hab := ha.append hb
  have hg : GoodP (putLv a bs ++ putLv b bs) := fun p hp => (List.mem_append.1 hp).elim ((nfP_nf _).good p) ((nfP_nf _).good p)
  have hσ : ∀ v, 0 ≤ (fun v => evP ρ (nfP (lvAt bs v))) v := fun v => evP_nonneg _ _
  rw [put_ev hab.nf hs hρ, nf_twice, nfP_ev hσ hab.good, nf_twice, nfP_ev hρ hg, evP_append, evP_append, putLv_ev ha hs hρ, putLv_ev hb hs hρ, nfP_ev hσ ha.good, nfP_ev hσ hb.good]
theorem val_max (ha : SmP a) (hb : SmP b) (ns : List Int) : valL (nfP (a ++ b)) ns = max (valL a ns) (valL b ns) := max_ev ha hb (numR_nonneg ns)
end

end Go.Proofs.YtgegaipkfpdocaaDoor
