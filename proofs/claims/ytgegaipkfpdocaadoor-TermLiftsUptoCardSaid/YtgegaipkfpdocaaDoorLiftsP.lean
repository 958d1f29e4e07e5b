/-
  TermLifts IN PLAIN LEAN.
-/
import Derived.Test.YtgegaipkfpdocaaDoorFree
import Derived.Test.YtgegaipkfpdocaaDoorTSame
import Derived.Test.YtgegaipkfpdocaaDoorKeepsQ
import Derived.Test.YtgegaipkfpdocaaDoorSize
namespace Go.Proofs.YtgegaipkfpdocaaDoor
open Go.RowKit
set_option linter.unusedSimpArgs false
set_option linter.unusedVariables false
set_option linter.unusedSectionVars false

theorem tame_node {k m a : Int} {ls : List Lv} {ks : List Tm} (h : tame (.node k m a ls ks) = true) : (k = 1 → 0 ≤ m ∧ m ≤ 1000) ∧ tameL ks = true := by
  simp only [tame, Bool.not_eq_true', Bool.or_eq_false_iff, Bool.and_eq_false_iff, beq_eq_false_iff_ne, decide_eq_false_iff_not, Bool.not_eq_false'] at h
  refine ⟨fun hk => ?_, h.2⟩
  rcases h.1 with h1 | h1
  · exact absurd hk h1
  · omega
theorem lift_node (n f d k m a : Int) (ls : List Lv) (ks : List Tm) : mapT (liftStep n f) d (.node k m a ls ks) = .node k (liftNum n f d k m) a ls (mapL (liftStep n f) d k 0 ks) := by simp only [mapT, liftStep, Tm.kind, Tm.num, Tm.lvs]
theorem wrap64_small {x : Int} (h : -9223372036854775808 ≤ x ∧ x ≤ 9223372036854775807) : wrap64 x = x := by unfold wrap64; omega
theorem inner_ge (k : Int) (i : Nat) {d : Int} (h : 0 ≤ d) : 0 ≤ inner k i d := by unfold inner; split <;> omega

section
variable {n m f : Int} (hn : 0 ≤ n ∧ n ≤ 1000) (hm : 0 ≤ m ∧ m ≤ 1000) (hf : 0 ≤ f ∧ f ≤ 1000)
include hn hm hf
mutual
theorem lift_twice (d : Int) (hd : 0 ≤ d) (t : Tm) (h : tame t = true) : mapT (liftStep m f) d (mapT (liftStep n f) d t) = mapT (liftStep (n + m) f) d t := by
  match t with
  | .node k x a ls ks =>
    obtain ⟨h1, h2⟩ := tame_node h
    rw [lift_node, lift_node, lift_node, liftL_twice d hd k 0 ks h2]
    congr 1
    by_cases hk : k = 1
    · have hx := h1 hk
      by_cases hc : d ≤ x ∧ f ≤ x - d
      · have e1 : liftNum n f d k x = x + n := (if_pos ⟨hk, hc.1, hc.2⟩).trans (wrap64_small (by omega))
        have e2 : liftNum m f d k (x + n) = x + n + m := (if_pos ⟨hk, by omega, by omega⟩).trans (wrap64_small (by omega))
        have e3 : liftNum (n + m) f d k x = x + (n + m) := (if_pos ⟨hk, hc.1, hc.2⟩).trans (wrap64_small (by omega))
        rw [e1, e2, e3]
        omega
      · have e : ∀ n', liftNum n' f d k x = x := fun n' => if_neg (fun h => hc ⟨h.2.1, h.2.2⟩)
        rw [e, e, e]
    · have e : ∀ n' x', liftNum n' f d k x' = x' := fun n' x' => if_neg (fun h => hk h.1)
      rw [e, e, e]
theorem liftL_twice (d : Int) (hd : 0 ≤ d) (k : Int) (i : Nat) (ts : List Tm) (h : tameL ts = true) : mapL (liftStep m f) d k i (mapL (liftStep n f) d k i ts) = mapL (liftStep (n + m) f) d k i ts := by
  match ts with
  | [] => rfl
  | t :: ts =>
    simp only [tameL, Bool.and_eq_true] at h
    simp only [mapL]
    rw [lift_twice (inner k i d) (inner_ge k i hd) t h.1, liftL_twice d hd k (i + 1) ts h.2]
end
end
section
variable {n f : Int} (hn : 0 ≤ n ∧ n ≤ 1000) (hf : 0 ≤ f ∧ f ≤ 1000)
include hn hf
/-- What is told of a variable, lifted. -/
theorem liftNum_free (d k x : Int) (hd : 0 ≤ d) (hx : k = 1 → 0 ≤ x ∧ x ≤ 1000) :
    (decide (k = 1 ∧ d ≤ liftNum n f d k x ∧ f ≤ liftNum n f d k x - d ∧ liftNum n f d k x - d < f + n) = false) ∧
    (decide (k = 1 ∧ d ≤ x ∧ f ≤ x - d ∧ x - d < 5000) = decide (k = 1 ∧ d ≤ liftNum n f d k x ∧ f + n ≤ liftNum n f d k x - d ∧ liftNum n f d k x - d < 6000)) ∧
    (decide (k = 1 ∧ d ≤ x ∧ 0 ≤ x - d ∧ x - d < f) = decide (k = 1 ∧ d ≤ liftNum n f d k x ∧ 0 ≤ liftNum n f d k x - d ∧ liftNum n f d k x - d < f)) := by
  unfold liftNum
  by_cases hk : k = 1
  · have := hx hk
    by_cases hc : d ≤ x ∧ f ≤ x - d
    · rw [if_pos ⟨hk, hc.1, hc.2⟩, wrap64_small (x := x + n) (by omega)]
      refine ⟨decide_eq_false (fun h => by omega), ?_, ?_⟩
      · rw [decide_eq_true ⟨hk, by omega, by omega, by omega⟩, decide_eq_true ⟨hk, by omega, by omega, by omega⟩]
      · rw [decide_eq_false (fun h => by omega), decide_eq_false (fun h => by omega)]
    · rw [if_neg (fun h => hc ⟨h.2.1, h.2.2⟩)]
      refine ⟨decide_eq_false (fun h => hc ⟨h.2.1, h.2.2.1⟩), ?_, rfl⟩
      rw [decide_eq_false (fun h => hc ⟨h.2.1, h.2.2.1⟩), decide_eq_false (fun h => hc ⟨h.2.1, by omega⟩)]
  · rw [if_neg (fun h => hk h.1)]
    refine ⟨decide_eq_false (fun h => hk h.1), ?_, rfl⟩
    rw [decide_eq_false (fun h => hk h.1), decide_eq_false (fun h => hk h.1)]
mutual
theorem lift_free (d : Int) (hd : 0 ≤ d) (t : Tm) (h : tame t = true) :
    freeB f (f + n) d (mapT (liftStep n f) d t) = false ∧ freeB f 5000 d t = freeB (f + n) 6000 d (mapT (liftStep n f) d t) ∧ freeB 0 f d t = freeB 0 f d (mapT (liftStep n f) d t) := by
  match t with
  | .node k x a ls ks =>
    obtain ⟨h1, h2⟩ := tame_node h
    obtain ⟨e1, e2, e3⟩ := liftNum_free hn hf d k x hd h1
    obtain ⟨g1, g2, g3⟩ := liftL_free d hd k 0 ks h2
    rw [lift_node]
    simp only [freeB]
    rw [e1, g1, e2, g2, e3, g3]
    exact ⟨rfl, rfl, rfl⟩
theorem liftL_free (d : Int) (hd : 0 ≤ d) (k : Int) (i : Nat) (ts : List Tm) (h : tameL ts = true) :
    freeL f (f + n) d k i (mapL (liftStep n f) d k i ts) = false ∧ freeL f 5000 d k i ts = freeL (f + n) 6000 d k i (mapL (liftStep n f) d k i ts) ∧ freeL 0 f d k i ts = freeL 0 f d k i (mapL (liftStep n f) d k i ts) := by
  match ts with
  | [] => simp only [mapL, freeL]; exact ⟨trivial, trivial, trivial⟩
  | t :: ts =>
    simp only [tameL, Bool.and_eq_true] at h
    obtain ⟨e1, e2, e3⟩ := lift_free (inner k i d) (inner_ge k i hd) t h.1
    obtain ⟨g1, g2, g3⟩ := liftL_free d hd k (i + 1) ts h.2
    simp only [mapL, freeL]
    rw [e1, g1, e2, g2, e3, g3]
    exact ⟨rfl, rfl, rfl⟩
end
end
mutual
theorem lift_none (d : Int) (t : Tm) (h : ranged t) : mapT (liftStep 0 0) d t = t := by
  match t with
  | .node k x a ls ks =>
    simp only [ranged] at h
    rw [lift_node, liftL_none d k 0 ks h.2]
    congr 1
    unfold liftNum
    obtain ⟨q1, q2⟩ := h.1.2.1
    split
    · rw [Int.add_zero, wrap64_small ⟨q1, q2⟩]
    · rfl
theorem liftL_none (d k : Int) (i : Nat) (ts : List Tm) (h : rangedL ts) : mapL (liftStep 0 0) d k i ts = ts := by
  match ts with
  | [] => rfl
  | t :: ts =>
    simp only [rangedL] at h
    simp only [mapL]
    rw [lift_none (inner k i d) t h.1, liftL_none d k (i + 1) ts h.2]
end

mutual
theorem can_lift (n f d : Int) (t : Tm) : canT (mapT (liftStep n f) d t) = mapT (liftStep n f) d (canT t) := by
  match t with
  | .node k x a ls ks =>
    rw [lift_node]
    simp only [canT]
    rw [lift_node, can_liftL n f d k 0 ks]
theorem can_liftL (n f d k : Int) (i : Nat) (ts : List Tm) : canL (mapL (liftStep n f) d k i ts) = mapL (liftStep n f) d k i (canL ts) := by
  match ts with
  | [] => rfl
  | t :: ts =>
    simp only [mapL, canL]
    rw [can_lift n f (inner k i d) t, can_liftL n f d k (i + 1) ts]
end
mutual
theorem can_put (bys : List Tm) (d : Int) (t : Tm) : canT (mapT (putStep bys) d t) = mapT (putStep (bys.map canT)) d (canT t) := by
  match t with
  | .node k m a ls ks =>
    have hk := can_putL bys d k 0 ks
    by_cases h1 : k = 1 ∧ d ≤ m
    · by_cases h2 : m - d < bys.length
      · have hs : putStep bys d (.node k m a ls ks) = .inl (lift d 0 0 ((bys[bys.length - 1 - (m - d).toNat]?).getD (.node 0 0 0 [] []))) := (if_pos h1).trans (if_pos h2)
        have hs2 : putStep (bys.map canT) d (.node k m a (ls.map nfP) (canL ks)) = .inl (lift d 0 0 (((bys.map canT)[(bys.map canT).length - 1 - (m - d).toNat]?).getD (.node 0 0 0 [] []))) := (if_pos h1).trans (if_pos (by rw [List.length_map]; exact h2))
        obtain ⟨u, hu⟩ : ∃ u, bys[bys.length - 1 - (m - d).toNat]? = some u := ⟨_, List.getElem?_eq_getElem (by omega)⟩
        simp only [canT, mapT, hs, hs2, List.length_map, List.getElem?_map, hu, Option.map_some, Option.getD_some]
        exact can_lift d 0 0 u
      · have hs : putStep bys d (.node k m a ls ks) = .inr (m - bys.length, ls) := (if_pos h1).trans (if_neg h2)
        have hs2 : putStep (bys.map canT) d (.node k m a (ls.map nfP) (canL ks)) = .inr (m - (bys.map canT).length, ls.map nfP) := (if_pos h1).trans (if_neg (by rw [List.length_map]; exact h2))
        simp only [canT, mapT, hs, hs2, List.length_map]
        rw [hk]
    · have hs : putStep bys d (.node k m a ls ks) = .inr (m, ls) := if_neg h1
      have hs2 : putStep (bys.map canT) d (.node k m a (ls.map nfP) (canL ks)) = .inr (m, ls.map nfP) := if_neg h1
      simp only [canT, mapT, hs, hs2]
      rw [hk]
theorem can_putL (bys : List Tm) (d k : Int) (i : Nat) (ts : List Tm) : canL (mapL (putStep bys) d k i ts) = mapL (putStep (bys.map canT)) d k i (canL ts) := by
  match ts with
  | [] => rfl
  | t :: ts =>
    simp only [mapL, canL]
    rw [can_put bys (inner k i d) t, can_putL bys d k (i + 1) ts]
end
theorem putLv_nf (l : Lv) (bs : List Lv) : putLv (nfP l) bs = putLv l bs := by unfold putLv putsP; rw [nf_twice]
mutual
theorem can_lvs (bs : List Lv) (d : Int) (t : Tm) : lvsT bs d (canT t) = lvsT bs d t := by
  match t with
  | .node k m a ls ks =>
    have hk := can_lvsL bs d k 0 ks
    simp only [lvsT, canT, mapT, lvsStep, Tm.num, Tm.lvs, List.map_map]
    rw [hk]
    congr 1
    exact List.map_congr_left fun l _ => putLv_nf l bs
theorem can_lvsL (bs : List Lv) (d k : Int) (i : Nat) (ts : List Tm) : mapL (lvsStep bs) d k i (canL ts) = mapL (lvsStep bs) d k i ts := by
  match ts with
  | [] => rfl
  | t :: ts =>
    have h1 := can_lvs bs (inner k i d) t
    simp only [lvsT] at h1
    simp only [mapL, canL]
    rw [h1, can_lvsL bs d k (i + 1) ts]
end
mutual
theorem can_size (t : Tm) : size (canT t) = size t := by
  match t with
  | .node k m a ls ks => simp only [canT, size, canL_size ks]
theorem canL_size (ts : List Tm) : sizeL (canL ts) = sizeL ts := by
  match ts with
  | [] => rfl
  | t :: ts => simp only [canL, sizeL, can_size t, canL_size ts]
end

end Go.Proofs.YtgegaipkfpdocaaDoor
