/-
  WHAT IS RIGHT IN THE CORE, IN PLAIN LEAN, and what CoreParts says of it.
-/
import Derived.Test.YtgegaipkfpdocaaDoorWalk
namespace Go.Proofs.YtgegaipkfpdocaaDoor
open Go.RowKit
set_option linter.unusedSimpArgs false
set_option linter.unusedVariables false

/-- Do variables rise? -/
def risesB : Lv → Bool
  | [] => true
  | [_] => true
  | p :: q :: r => decide (p.1 < q.1) && risesB (q :: r)
/-- Is a level right among n variables? -/
def lvRight (n : Int) (l : Lv) : Bool := risesB l && decide (l.length ≤ 9) && l.all fun p => decide (0 ≤ p.1 ∧ p.1 ≤ n ∧ 0 ≤ p.2 ∧ p.2 ≤ 1000)
theorem lvRight_mono {n m : Int} (h : n ≤ m) {l : Lv} (hl : lvRight n l = true) : lvRight m l = true := by
  simp only [lvRight, Bool.and_eq_true, List.all_eq_true, decide_eq_true_eq] at hl ⊢
  exact ⟨hl.1, fun p hp => by have := hl.2 p hp; omega⟩
theorem lvRights_mono {n m : Int} (h : n ≤ m) {ls : List Lv} (hl : ls.all (lvRight n) = true) : ls.all (lvRight m) = true := by
  simp only [List.all_eq_true] at hl ⊢
  exact fun l hm => lvRight_mono h (hl l hm)

/-- How many kids a kind has that has nothing else. -/
def bareKids (k : Int) : Option Int :=
  if k = 4 ∨ k = 5 ∨ k = 6 ∨ k = 12 ∨ k = 13 ∨ k = 16 ∨ k = 17 then some 2 else if k = 7 ∨ k = 19 then some 3 else if k = 14 ∨ k = 15 then some 1 else if k = 18 then some 5 else if k = 20 then some 0 else if k = 21 then some 6 else none
/-- How many kids a node is to have; none: it is wrong. -/
def askB (n s : Int) (cs : List Int) (k m a : Int) (ls : List Lv) : Option Int :=
  if k = 1 then (if 0 ≤ m ∧ m < s ∧ a = 0 ∧ ls.length = 0 then some 0 else none)
  else if k = 2 then (if m = 0 ∧ a = 0 ∧ ls.length = 1 ∧ ls.all (lvRight n) = true then some 0 else none)
  else if k = 3 then (if 0 ≤ m ∧ m < cs.length ∧ a = 0 ∧ (ls.length : Int) = cs.getD m.toNat 0 ∧ ls.all (lvRight n) = true then some 0 else none)
  else if k = 22 then (if 0 ≤ m ∧ a = 0 ∧ ls.length = 0 then some 0 else none)
  else if k = 23 then (if 0 ≤ m ∧ m < a ∧ ls.length = 0 then some 0 else none)
  else if k = 24 then (if m = 0 ∧ 0 ≤ a ∧ ls.length = 0 then some (wrap64 (a + 2)) else none)
  else match bareKids k with
    | some c => if m = 0 ∧ a = 0 ∧ ls.length = 0 then some c else none
    | none => none
mutual
/-- Is a term right in the core, among n level variables, below s binders? -/
def coreB (n : Int) (cs : List Int) (s : Int) : Tm → Bool
  | .node k m a ls ks => decide (askB n s cs k m a ls = some (ks.length : Int)) && coreBL n cs s k 0 ks
def coreBL (n : Int) (cs : List Int) (s : Int) (k : Int) (i : Nat) : List Tm → Bool
  | [] => true
  | t :: ts => coreB n cs (inner k i s) t && coreBL n cs s k (i + 1) ts
end

theorem askB_more {n s more : Int} {cs : List Int} {k m a : Int} {ls : List Lv} {c : Int} (hm : 0 ≤ more) (h : askB n s cs k m a ls = some c) : askB (n + more) (s + more) (cs ++ [more]) k m a ls = some c := by
  unfold askB at h ⊢
  split at h
  · rename_i hk
    rw [if_pos hk]
    split at h
    · rename_i h1
      rw [if_pos (by omega)]
      exact h
    · cases h
  rename_i hk1
  rw [if_neg hk1]
  split at h
  · rename_i hk
    rw [if_pos hk]
    split at h
    · rename_i h1
      rw [if_pos ⟨h1.1, h1.2.1, h1.2.2.1, lvRights_mono (by omega) h1.2.2.2⟩]
      exact h
    · cases h
  rename_i hk2
  rw [if_neg hk2]
  split at h
  · rename_i hk
    rw [if_pos hk]
    split at h
    · rename_i h1
      have hlt : m.toNat < cs.length := by omega
      have he : (cs ++ [more]).getD m.toNat 0 = cs.getD m.toNat 0 := by simp [List.getD, List.getElem?_append_left hlt]
      rw [if_pos ⟨h1.1, by simp only [List.length_append, List.length_cons, List.length_nil]; omega, h1.2.2.1, by rw [he]; exact h1.2.2.2.1, lvRights_mono (by omega) h1.2.2.2.2⟩]
      exact h
    · cases h
  rename_i hk3
  rw [if_neg hk3]
  exact h
theorem inner_add (k : Int) (i : Nat) (s m : Int) : inner k i (s + m) = inner k i s + m := by
  unfold inner
  split <;> omega
mutual
theorem core_more {n more : Int} {cs : List Int} (hm : 0 ≤ more) (s : Int) (t : Tm) (h : coreB n cs s t = true) : coreB (n + more) (cs ++ [more]) (s + more) t = true := by
  match t with
  | .node k m a ls ks =>
    simp only [coreB, Bool.and_eq_true, decide_eq_true_eq] at h ⊢
    exact ⟨askB_more hm h.1, coreL_more hm s k 0 ks h.2⟩
theorem coreL_more {n more : Int} {cs : List Int} (hm : 0 ≤ more) (s k : Int) (i : Nat) (ts : List Tm) (h : coreBL n cs s k i ts = true) : coreBL (n + more) (cs ++ [more]) (s + more) k i ts = true := by
  match ts with
  | [] => simp only [coreBL]
  | t :: ts =>
    simp only [coreBL, Bool.and_eq_true] at h ⊢
    rw [inner_add]
    exact ⟨core_more hm _ t h.1, coreL_more hm s k (i + 1) ts h.2⟩
end
theorem coreL_at {n : Int} {cs : List Int} {s k : Int} : ∀ {i : Nat} {ts : List Tm}, coreBL n cs s k i ts = true → ∀ (j : Nat) (t : Tm), ts[j]? = some t → coreB n cs (inner k (i + j) s) t = true
  | _, [], _, _, _, hj => by simp at hj
  | i, x :: ts, h, 0, t, hj => by
    simp only [coreBL, Bool.and_eq_true] at h
    simp only [List.getElem?_cons_zero, Option.some.injEq] at hj
    subst hj
    exact h.1
  | i, x :: ts, h, j + 1, t, hj => by
    simp only [coreBL, Bool.and_eq_true] at h
    have := coreL_at h.2 j t (by simpa using hj)
    rwa [show i + 1 + j = i + (j + 1) by omega] at this
theorem core_kids {n : Int} {cs : List Int} {s k m a : Int} {ls : List Lv} {ks : List Tm} (h : coreB n cs s (.node k m a ls ks) = true) (j : Nat) (t : Tm) (hj : ks[j]? = some t) : coreB n cs (inner k j s) t = true := by
  simp only [coreB, Bool.and_eq_true] at h
  simpa using coreL_at h.2 j t hj
theorem core_long {n : Int} {cs : List Int} {s k m a : Int} {ls : List Lv} {ks ks' : List Tm} (h : coreB n cs s (.node k m a ls ks) = true) (hl : ks'.length ≠ ks.length) : coreB n cs s (.node k m a ls ks') = false := by
  simp only [coreB, Bool.and_eq_true, decide_eq_true_eq] at h ⊢
  rw [h.1]
  have : ¬ some (ks.length : Int) = some (ks'.length : Int) := fun e => hl (by injection e with e; omega)
  simp [this]
theorem core_odd {n : Int} {cs : List Int} {s k a : Int} {ls : List Lv} {ks : List Tm} : coreB n cs s (.node k (-1) a ls ks) = false := by
  have h : askB n s cs k (-1) a ls = none := by
    unfold askB
    repeat' split
    all_goals first | rfl | omega
  simp only [coreB, h]
  simp

end Go.Proofs.YtgegaipkfpdocaaDoor
