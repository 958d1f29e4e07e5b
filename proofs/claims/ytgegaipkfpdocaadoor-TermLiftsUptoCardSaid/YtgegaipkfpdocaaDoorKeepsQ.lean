/-
  CoreKeeps IN PLAIN LEAN: what is right stays right lifted, and with right terms put.
  CoreKeeps IN PLAIN LEAN: what is right stays right with levels put.
  SIZES AND RANGES of what is lifted and put, in plain Lean.
-/
import Derived.Test.YtgegaipkfpdocaaDoorCoreP
import Derived.Test.YtgegaipkfpdocaaDoorPut
import Derived.Test.YtgegaipkfpdocaaDoorLevM
import Derived.Test.YtgegaipkfpdocaaDoorLevP
namespace Go.Proofs.YtgegaipkfpdocaaDoor
open Go.RowKit
set_option linter.unusedSimpArgs false
set_option linter.unusedVariables false

theorem wrap64_in {x : Int} (h : -9223372036854775808 ≤ x ∧ x ≤ 9223372036854775807) : wrap64 x = x := by unfold wrap64; omega
/-- A node asks of its number only where it is a variable. -/
theorem askB_num {n s s' : Int} {cs : List Int} {k m m' a : Int} {ls : List Lv} {c : Int} (h : askB n s cs k m a ls = some c) (hk : k ≠ 1 → m' = m) (hv : k = 1 → (0 ≤ m ∧ m < s → 0 ≤ m' ∧ m' < s')) : askB n s' cs k m' a ls = some c := by
  unfold askB at h ⊢
  by_cases h1 : k = 1
  · rw [if_pos h1] at h ⊢
    split at h
    · rename_i h2
      have := hv h1 ⟨h2.1, h2.2.1⟩
      rw [if_pos ⟨this.1, this.2, h2.2.2⟩]
      exact h
    · cases h
  · obtain rfl := hk h1
    rw [if_neg h1] at h ⊢
    exact h
mutual
theorem core_lift {n l f : Int} {cs : List Int} (hl : 0 ≤ l) (s d : Int) (t : Tm) (hb : s + l + size t ≤ 4611686018427387904) (h : coreB n cs s t = true) : coreB n cs (s + l) (lift l f d t) = true := by
  match t with
  | .node k m a ls ks =>
    have e : lift l f d (.node k m a ls ks) = .node k (liftNum l f d k m) a ls (mapL (liftStep l f) d k 0 ks) := by simp only [mapT, liftStep, Tm.kind, Tm.num, Tm.lvs]
    rw [e]
    simp only [coreB, Bool.and_eq_true, decide_eq_true_eq, size] at h hb ⊢
    have hlen : (mapL (liftStep l f) d k 0 ks).length = ks.length := mapL_length _ _ _ _ _
    rw [hlen]
    refine ⟨askB_num h.1 (fun hk => by unfold liftNum; rw [if_neg (fun h => hk h.1)]) (fun hk ⟨h0, h1⟩ => ?_), coreL_lift hl s d k 0 ks (by omega) h.2⟩
    unfold liftNum
    split
    · rw [wrap64_in (by omega)]; omega
    · omega
theorem coreL_lift {n l f : Int} {cs : List Int} (hl : 0 ≤ l) (s d k : Int) (i : Nat) (ts : List Tm) (hb : s + l + sizeL ts + 1 ≤ 4611686018427387904) (h : coreBL n cs s k i ts = true) : coreBL n cs (s + l) k i (mapL (liftStep l f) d k i ts) = true := by
  match ts with
  | [] => simp only [mapL, coreBL]
  | t :: ts =>
    simp only [mapL, coreBL, Bool.and_eq_true, sizeL] at h hb ⊢
    have h1 := inner_le k i s
    have hp := size_pos t
    rw [inner_add]
    have := core_lift (f := f) hl (inner k i s) (inner k i d) t (by omega) h.1
    exact ⟨this, coreL_lift hl s d k (i + 1) ts (by omega) h.2⟩
end

theorem inner_from (k : Int) (i : Nat) (a d : Int) : inner k i (a + d) = a + inner k i d := by
  unfold inner
  split <;> omega
mutual
theorem core_put {n : Int} {cs : List Int} (bys : List Tm) (s Z : Int) (hs : (bys.length : Int) ≤ s) (hby : ∀ u ∈ bys, coreB n cs (s - bys.length) u = true ∧ (size u : Int) ≤ Z) (d : Int) (hd : 0 ≤ d) (t : Tm) (hb : s + d + size t + Z ≤ 4611686018427387904) (h : coreB n cs (s + d) t = true) :
    coreB n cs (s - bys.length + d) (put bys d t) = true := by
  match t with
  | .node k m a ls ks =>
    simp only [size] at hb
    have h' := h
    simp only [coreB, Bool.and_eq_true, decide_eq_true_eq] at h
    have hkids := coreL_put bys s Z hs hby d hd k 0 ks (by omega) h.2
    have hlen : (mapL (putStep bys) d k 0 ks).length = ks.length := mapL_length _ _ _ _ _
    by_cases h1 : k = 1 ∧ d ≤ m
    · by_cases h2 : m - d < bys.length
      · have hst : putStep bys d (.node k m a ls ks) = .inl (lift d 0 0 ((bys[bys.length - 1 - (m - d).toNat]?).getD (.node 0 0 0 [] []))) := (if_pos h1).trans (if_pos h2)
        obtain ⟨u, hu⟩ : ∃ u, bys[bys.length - 1 - (m - d).toNat]? = some u := ⟨_, List.getElem?_eq_getElem (by omega)⟩
        have e : put bys d (.node k m a ls ks) = lift d 0 0 u := by simp only [put, mapT, hst, hu, Option.getD_some]
        rw [e]
        have hm := hby u (List.mem_of_getElem? hu)
        exact core_lift hd (s - bys.length) 0 u (by omega) hm.1
      · have hst : putStep bys d (.node k m a ls ks) = .inr (m - bys.length, ls) := (if_pos h1).trans (if_neg h2)
        have e : put bys d (.node k m a ls ks) = .node k (m - bys.length) a ls (mapL (putStep bys) d k 0 ks) := by simp only [put, mapT, hst]
        rw [e]
        simp only [coreB, Bool.and_eq_true, decide_eq_true_eq]
        rw [hlen]
        exact ⟨askB_num h.1 (fun hk => absurd h1.1 hk) (fun _ ⟨q0, q1⟩ => by omega), hkids⟩
    · have hst : putStep bys d (.node k m a ls ks) = .inr (m, ls) := if_neg h1
      have e : put bys d (.node k m a ls ks) = .node k m a ls (mapL (putStep bys) d k 0 ks) := by simp only [put, mapT, hst]
      rw [e]
      simp only [coreB, Bool.and_eq_true, decide_eq_true_eq]
      rw [hlen]
      exact ⟨askB_num h.1 (fun _ => rfl) (fun hk ⟨q0, q1⟩ => by omega), hkids⟩
theorem coreL_put {n : Int} {cs : List Int} (bys : List Tm) (s Z : Int) (hs : (bys.length : Int) ≤ s) (hby : ∀ u ∈ bys, coreB n cs (s - bys.length) u = true ∧ (size u : Int) ≤ Z) (d : Int) (hd : 0 ≤ d) (k : Int) (i : Nat) (ts : List Tm) (hb : s + d + sizeL ts + 1 + Z ≤ 4611686018427387904) (h : coreBL n cs (s + d) k i ts = true) :
    coreBL n cs (s - bys.length + d) k i (mapL (putStep bys) d k i ts) = true := by
  match ts with
  | [] => simp only [mapL, coreBL]
  | t :: ts =>
    simp only [mapL, coreBL, Bool.and_eq_true, sizeL] at h hb ⊢
    have h1 := inner_le k i d
    have hp := size_pos t
    rw [inner_from] at h ⊢
    exact ⟨core_put bys s Z hs hby (inner k i d) (by omega) t (by omega) h.1, coreL_put bys s Z hs hby d hd k (i + 1) ts (by omega) h.2⟩
end

open Go.RowKit
set_option linter.unusedSimpArgs false
set_option linter.unusedVariables false

theorem rises_of : ∀ {l : Lv}, RiseP l → risesB l = true
  | [], _ => rfl
  | [_], _ => rfl
  | p :: q :: r, h => by
    have h' := List.pairwise_cons.1 h
    simp only [risesB, Bool.and_eq_true, decide_eq_true_eq]
    exact ⟨h'.1 q (by simp), rises_of h'.2⟩
/-- Is no Plus above 400? -/
def lowLv (l : Lv) : Bool := l.all fun p => decide (p.2 ≤ 400)
mutual
def lowB : Tm → Bool
  | .node _ _ _ ls ks => ls.all lowLv && lowBL ks
def lowBL : List Tm → Bool
  | [] => true
  | t :: ts => lowB t && lowBL ts
end
theorem lowBL_at {ts : List Tm} {i : Nat} {t : Tm} (h : lowBL ts = true) (hi : ts[i]? = some t) : lowB t = true := by
  induction ts generalizing i with
  | nil => simp at hi
  | cons x xs ih =>
    simp only [lowBL, Bool.and_eq_true] at h
    cases i with
    | zero => simp only [List.getElem?_cons_zero, Option.some.injEq] at hi; subst hi; exact h.1
    | succ i => exact ih h.2 (i := i) (by simpa using hi)

/-- What is asked of the levels put. -/
def SmallBy (bs : List Lv) : Prop := ∀ l ∈ bs, lvRight 8 l = true ∧ lowLv l = true
theorem put_right {n : Int} {l : Lv} {bs : List Lv} (hl : lvRight n l = true) (hlow : lowLv l = true) (hb : SmallBy bs) : lvRight 8 (putLv l bs) = true := by
  simp only [lvRight, Bool.and_eq_true, List.all_eq_true, decide_eq_true_eq] at hl
  simp only [lowLv, List.all_eq_true, decide_eq_true_eq] at hlow
  have h1 : ∀ p ∈ nfP l, 0 ≤ p.2 ∧ p.2 ≤ 400 := nfP_all (P := fun p => 0 ≤ p.2 ∧ p.2 ≤ 400) (by rintro ⟨a, b⟩ ⟨c, d⟩ h1 h2 e; simp only at *; omega) fun p hp => by have := hl.2 p hp; have := hlow p hp; omega
  have h2 : ∀ v, ∀ p ∈ lvAt bs v, 0 ≤ p.1 ∧ p.1 ≤ 8 ∧ 0 ≤ p.2 ∧ p.2 ≤ 400 := by
    intro v p hp
    unfold lvAt at hp
    split at hp
    · rw [List.getD_eq_getElem?_getD] at hp
      cases hg : bs[(v - 1).toNat]? with
      | none => rw [hg] at hp; cases hp
      | some x =>
        rw [hg] at hp
        obtain ⟨q1, q2⟩ := hb x (List.mem_of_getElem? hg)
        simp only [lvRight, Bool.and_eq_true, List.all_eq_true, decide_eq_true_eq] at q1
        simp only [lowLv, List.all_eq_true, decide_eq_true_eq] at q2
        have := q1.2 p hp
        have := q2 p hp
        omega
    · cases hp
  have h3 : ∀ p, ∀ q ∈ subP bs p, 0 ≤ q.1 ∧ q.1 ≤ 8 ∧ 0 ≤ q.2 ∧ q.2 ≤ 400 := by
    intro p q hq
    unfold subP at hq
    split at hq
    · simp only [List.mem_singleton] at hq; subst hq; simp
    · exact nfP_all (P := fun p => 0 ≤ p.1 ∧ p.1 ≤ 8 ∧ 0 ≤ p.2 ∧ p.2 ≤ 400) (by rintro ⟨a, b⟩ ⟨c, d⟩ h1 h2 e; simp only at *; omega) (h2 p.1) q hq
  have h4 : ∀ q ∈ putLv l bs, 0 ≤ q.1 ∧ q.1 ≤ 8 ∧ 0 ≤ q.2 ∧ q.2 ≤ 800 := by
    unfold putLv
    refine nfP_all (P := fun p => 0 ≤ p.1 ∧ p.1 ≤ 8 ∧ 0 ≤ p.2 ∧ p.2 ≤ 800) (by rintro ⟨a, b⟩ ⟨c, d⟩ h1 h2 e; simp only at *; omega) fun q hq => ?_
    obtain ⟨p, hp, r, hr, rfl⟩ := putsP_mem hq
    have := h1 p hp
    have := h3 p r hr
    simp only
    omega
  have hr : RiseP (putLv l bs) := (nfP_nf _).rise
  have hlen := rise_length (lo := 0) (hi := 8) hr (fun p hp => by have := h4 p hp; omega) (by omega)
  simp only [lvRight, Bool.and_eq_true, List.all_eq_true, decide_eq_true_eq]
  exact ⟨⟨rises_of hr, by omega⟩, fun p hp => by have := h4 p hp; omega⟩

def lvsStep (bs : List Lv) : Step := fun _ t => .inr (t.num, t.lvs.map (putLv · bs))
/-- A term with levels put. -/
abbrev lvsT (bs : List Lv) (d : Int) (t : Tm) : Tm := mapT (lvsStep bs) d t
theorem askB_lvs {n s : Int} {cs : List Int} {k m a : Int} {ls : List Lv} {bs : List Lv} {c : Int} (h : askB n s cs k m a ls = some c) (hlow : ls.all lowLv = true) (hb : SmallBy bs) : askB 8 s cs k m a (ls.map (putLv · bs)) = some c := by
  have hall : ls.all (lvRight n) = true → (ls.map (putLv · bs)).all (lvRight 8) = true := by
    intro hr
    simp only [List.all_eq_true, List.mem_map] at hr hlow ⊢
    rintro x ⟨l, hl, rfl⟩
    exact put_right (hr l hl) (hlow l hl) hb
  unfold askB at h ⊢
  simp only [List.length_map]
  split at h
  · rename_i hk; rw [if_pos hk]; exact h
  rename_i hk1
  rw [if_neg hk1]
  split at h
  · rename_i hk
    rw [if_pos hk]
    split at h
    · rename_i h1
      rw [if_pos ⟨h1.1, h1.2.1, h1.2.2.1, hall h1.2.2.2⟩]
      exact h
    · cases h
  rename_i hk2
  rw [if_neg hk2]
  split at h
  · rename_i hk
    rw [if_pos hk]
    split at h
    · rename_i h1
      rw [if_pos ⟨h1.1, h1.2.1, h1.2.2.1, h1.2.2.2.1, hall h1.2.2.2.2⟩]
      exact h
    · cases h
  rename_i hk3
  rw [if_neg hk3]
  exact h
mutual
theorem core_lvs {n : Int} {cs : List Int} {bs : List Lv} (hb : SmallBy bs) (s d : Int) (t : Tm) (hl : lowB t = true) (h : coreB n cs s t = true) : coreB 8 cs s (lvsT bs d t) = true := by
  match t with
  | .node k m a ls ks =>
    have e : lvsT bs d (.node k m a ls ks) = .node k m a (ls.map (putLv · bs)) (mapL (lvsStep bs) d k 0 ks) := by simp only [lvsT, mapT, lvsStep, Tm.num, Tm.lvs]
    rw [e]
    simp only [lowB, Bool.and_eq_true] at hl
    simp only [coreB, Bool.and_eq_true, decide_eq_true_eq] at h ⊢
    have hlen : (mapL (lvsStep bs) d k 0 ks).length = ks.length := mapL_length _ _ _ _ _
    rw [hlen]
    exact ⟨askB_lvs h.1 hl.1 hb, coreL_lvs hb s d k 0 ks hl.2 h.2⟩
theorem coreL_lvs {n : Int} {cs : List Int} {bs : List Lv} (hb : SmallBy bs) (s d k : Int) (i : Nat) (ts : List Tm) (hl : lowBL ts = true) (h : coreBL n cs s k i ts = true) : coreBL 8 cs s k i (mapL (lvsStep bs) d k i ts) = true := by
  match ts with
  | [] => simp only [mapL, coreBL]
  | t :: ts =>
    simp only [lowBL, Bool.and_eq_true] at hl
    simp only [mapL, coreBL, Bool.and_eq_true] at h ⊢
    exact ⟨core_lvs hb _ _ t hl.1 h.1, coreL_lvs hb s d k (i + 1) ts hl.2 h.2⟩
end

open Go.RowKit

theorem wrap_I64 (x : Int) : I64 (wrap64 x) := by unfold I64 wrap64; omega
mutual
theorem lift_fits (n f d : Int) (t : Tm) : size (lift n f d t) = size t ∧ (ranged t → ranged (lift n f d t)) := by
  match t with
  | .node k m a ls ks =>
    have h := liftL_fits n f d k 0 ks
    have e : lift n f d (.node k m a ls ks) = .node k (liftNum n f d k m) a ls (mapL (liftStep n f) d k 0 ks) := by simp only [mapT, liftStep, Tm.kind, Tm.num, Tm.lvs]
    rw [e]
    simp only [size, ranged, h.1]
    refine ⟨trivial, fun ⟨⟨h1, h2, h3⟩, h4⟩ => ⟨⟨h1, ?_, h3⟩, h.2 h4⟩⟩
    unfold liftNum
    split
    · exact wrap_I64 _
    · exact h2
theorem liftL_fits (n f d k : Int) (i : Nat) (ts : List Tm) : sizeL (mapL (liftStep n f) d k i ts) = sizeL ts ∧ (rangedL ts → rangedL (mapL (liftStep n f) d k i ts)) := by
  match ts with
  | [] => simp only [mapL, sizeL, rangedL]; exact ⟨trivial, fun _ => trivial⟩
  | t :: ts =>
    have h1 := lift_fits n f (inner k i d) t
    have h2 := liftL_fits n f d k (i + 1) ts
    simp only [mapL, sizeL, rangedL, h2.1]
    exact ⟨by rw [h1.1], fun ⟨a, b⟩ => ⟨h1.2 a, h2.2 b⟩⟩
end
theorem rangedL_get {ts : List Tm} {i : Nat} {t : Tm} (h : rangedL ts) (hi : ts[i]? = some t) : ranged t := ranged_at h hi
mutual
theorem put_fits (bys : List Tm) (d : Int) (hd : 0 ≤ d) (t : Tm) : size (put bys d t) ≤ size t * (sizeL bys + 1) ∧ (rangedL bys → ranged t → ranged (put bys d t)) := by
  match t with
  | .node k m a ls ks =>
    have h := putL_fits bys d hd k 0 ks
    have hn : ∀ m', size (Tm.node k m' a ls (mapL (putStep bys) d k 0 ks)) ≤ size (.node k m a ls ks) * (sizeL bys + 1) := fun m' => by
      simp only [size]
      have := h.1
      rw [Nat.add_mul]
      omega
    by_cases h1 : k = 1 ∧ d ≤ m
    · by_cases h2 : m - d < bys.length
      · have hs : putStep bys d (.node k m a ls ks) = .inl (lift d 0 0 ((bys[bys.length - 1 - (m - d).toNat]?).getD (.node 0 0 0 [] []))) := (if_pos h1).trans (if_pos h2)
        obtain ⟨u, hu⟩ : ∃ u, bys[bys.length - 1 - (m - d).toNat]? = some u := ⟨_, List.getElem?_eq_getElem (by omega)⟩
        have e : put bys d (.node k m a ls ks) = lift d 0 0 u := by simp only [put, mapT, hs, hu, Option.getD_some]
        rw [e]
        have hl := lift_fits d 0 0 u
        have hz := size_at hu
        refine ⟨?_, fun hb _ => hl.2 (rangedL_get hb hu)⟩
        rw [hl.1]
        simp only [size]
        rw [Nat.add_mul]
        omega
      · have hs : putStep bys d (.node k m a ls ks) = .inr (m - bys.length, ls) := (if_pos h1).trans (if_neg h2)
        have e : put bys d (.node k m a ls ks) = .node k (m - bys.length) a ls (mapL (putStep bys) d k 0 ks) := by simp only [put, mapT, hs]
        rw [e]
        refine ⟨hn _, ?_⟩
        simp only [ranged]
        rintro hb ⟨⟨q1, q2, q3⟩, q4⟩
        exact ⟨⟨q1, by unfold I64 at q2 ⊢; omega, q3⟩, h.2 hb q4⟩
    · have hs : putStep bys d (.node k m a ls ks) = .inr (m, ls) := if_neg h1
      have e : put bys d (.node k m a ls ks) = .node k m a ls (mapL (putStep bys) d k 0 ks) := by simp only [put, mapT, hs]
      rw [e]
      refine ⟨hn _, ?_⟩
      simp only [ranged]
      rintro hb ⟨q1, q4⟩
      exact ⟨q1, h.2 hb q4⟩
theorem putL_fits (bys : List Tm) (d : Int) (hd : 0 ≤ d) (k : Int) (i : Nat) (ts : List Tm) : sizeL (mapL (putStep bys) d k i ts) ≤ sizeL ts * (sizeL bys + 1) ∧ (rangedL bys → rangedL ts → rangedL (mapL (putStep bys) d k i ts)) := by
  match ts with
  | [] => simp only [mapL, sizeL, rangedL]; exact ⟨by omega, fun _ _ => trivial⟩
  | t :: ts =>
    have h1 := put_fits bys (inner k i d) (by have := inner_le k i d; omega) t
    have h2 := putL_fits bys d hd k (i + 1) ts
    simp only [mapL, sizeL, rangedL]
    refine ⟨?_, fun hb ⟨a, b⟩ => ⟨h1.2 hb a, h2.2 hb b⟩⟩
    have := h1.1
    have := h2.1
    simp only [put] at *
    rw [Nat.add_mul]
    omega
end

mutual
theorem lvs_size (bs : List Lv) (d : Int) (t : Tm) : size (lvsT bs d t) = size t := by
  match t with
  | .node k m a ls ks =>
    have e : lvsT bs d (.node k m a ls ks) = .node k m a (ls.map (putLv · bs)) (mapL (lvsStep bs) d k 0 ks) := by simp only [lvsT, mapT, lvsStep, Tm.num, Tm.lvs]
    rw [e]
    simp only [size, lvsL_size bs d k 0 ks]
theorem lvsL_size (bs : List Lv) (d k : Int) (i : Nat) (ts : List Tm) : sizeL (mapL (lvsStep bs) d k i ts) = sizeL ts := by
  match ts with
  | [] => rfl
  | t :: ts =>
    have h1 := lvs_size bs (inner k i d) t
    have h2 := lvsL_size bs d k (i + 1) ts
    simp only [lvsT] at h1
    simp only [mapL, sizeL, h1, h2]
end

end Go.Proofs.YtgegaipkfpdocaaDoor
