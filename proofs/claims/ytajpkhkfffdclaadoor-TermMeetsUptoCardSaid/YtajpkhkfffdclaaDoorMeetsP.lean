/-
  PLAIN FACTS FOR TermMeets: sizes and ranges of what is lifted and put; the law itself for tame terms.
-/
import Derived.Test.YtajpkhkfffdclaaDoorPure
import Derived.Test.YtajpkhkfffdclaaDoorAppend
namespace Go.Proofs.YtajpkhkfffdclaaDoor
open Go.RowKit

theorem wrap_I64 (x : Int) : I64 (wrap64 x) := by unfold I64 wrap64; omega
mutual
theorem lift_fits (n f d : Int) (t : Tm) : size (lift n f d t) = size t ∧ (ranged t → ranged (lift n f d t)) := by
  match t with
  | .node k m a ls ks =>
    have h := liftL_fits n f d k 0 ks
    have e : lift n f d (.node k m a ls ks) = .node k (liftNum n f d k m) a ls (mapL (liftStep n f) d k 0 ks) := by simp only [mapT, liftStep, Tm.kind, Tm.num, Tm.lvs]
    rw [e]
    simp only [size, ranged, h.1]
    refine ⟨trivial, fun ⟨⟨h1, h2, h3⟩, h4⟩ => ⟨⟨h1, ?_, h3⟩, h.2 h4⟩⟩
    unfold liftNum
    split
    · exact wrap_I64 _
    · exact h2
theorem liftL_fits (n f d k : Int) (i : Nat) (ts : List Tm) : sizeL (mapL (liftStep n f) d k i ts) = sizeL ts ∧ (rangedL ts → rangedL (mapL (liftStep n f) d k i ts)) := by
  match ts with
  | [] => simp only [mapL, sizeL, rangedL]; exact ⟨trivial, fun _ => trivial⟩
  | t :: ts =>
    have h1 := lift_fits n f (inner k i d) t
    have h2 := liftL_fits n f d k (i + 1) ts
    simp only [mapL, sizeL, rangedL, h2.1]
    exact ⟨by rw [h1.1], fun ⟨a, b⟩ => ⟨h1.2 a, h2.2 b⟩⟩
end
theorem rangedL_get {ts : List Tm} {i : Nat} {t : Tm} (h : rangedL ts) (hi : ts[i]? = some t) : ranged t := ranged_at h hi
mutual
theorem put_fits (bys : List Tm) (d : Int) (hd : 0 ≤ d) (t : Tm) : size (put bys d t) ≤ size t * (sizeL bys + 1) ∧ (rangedL bys → ranged t → ranged (put bys d t)) := by
  match t with
  | .node k m a ls ks =>
    have h := putL_fits bys d hd k 0 ks
    have hn : ∀ m', size (Tm.node k m' a ls (mapL (putStep bys) d k 0 ks)) ≤ size (.node k m a ls ks) * (sizeL bys + 1) := fun m' => by
      simp only [size]
      have := h.1
      rw [Nat.add_mul]
      omega
    by_cases h1 : k = 1 ∧ d ≤ m
    · by_cases h2 : m - d < bys.length
      · have hs : putStep bys d (.node k m a ls ks) = .inl (lift d 0 0 ((bys[bys.length - 1 - (m - d).toNat]?).getD (.node 0 0 0 [] []))) := (if_pos h1).trans (if_pos h2)
        obtain ⟨u, hu⟩ : ∃ u, bys[bys.length - 1 - (m - d).toNat]? = some u := ⟨_, List.getElem?_eq_getElem (by omega)⟩
        have e : put bys d (.node k m a ls ks) = lift d 0 0 u := by simp only [put, mapT, hs, hu, Option.getD_some]
        rw [e]
        have hl := lift_fits d 0 0 u
        have hz := size_at hu
        refine ⟨?_, fun hb _ => hl.2 (rangedL_get hb hu)⟩
        rw [hl.1]
        simp only [size]
        rw [Nat.add_mul]
        omega
      · have hs : putStep bys d (.node k m a ls ks) = .inr (m - bys.length, ls) := (if_pos h1).trans (if_neg h2)
        have e : put bys d (.node k m a ls ks) = .node k (m - bys.length) a ls (mapL (putStep bys) d k 0 ks) := by simp only [put, mapT, hs]
        rw [e]
        refine ⟨hn _, ?_⟩
        simp only [ranged]
        rintro hb ⟨⟨q1, q2, q3⟩, q4⟩
        exact ⟨⟨q1, by unfold I64 at q2 ⊢; omega, q3⟩, h.2 hb q4⟩
    · have hs : putStep bys d (.node k m a ls ks) = .inr (m, ls) := if_neg h1
      have e : put bys d (.node k m a ls ks) = .node k m a ls (mapL (putStep bys) d k 0 ks) := by simp only [put, mapT, hs]
      rw [e]
      refine ⟨hn _, ?_⟩
      simp only [ranged]
      rintro hb ⟨q1, q4⟩
      exact ⟨q1, h.2 hb q4⟩
theorem putL_fits (bys : List Tm) (d : Int) (hd : 0 ≤ d) (k : Int) (i : Nat) (ts : List Tm) : sizeL (mapL (putStep bys) d k i ts) ≤ sizeL ts * (sizeL bys + 1) ∧ (rangedL bys → rangedL ts → rangedL (mapL (putStep bys) d k i ts)) := by
  match ts with
  | [] => simp only [mapL, sizeL, rangedL]; exact ⟨by omega, fun _ _ => trivial⟩
  | t :: ts =>
    have h1 := put_fits bys (inner k i d) (by have := inner_le k i d; omega) t
    have h2 := putL_fits bys d hd k (i + 1) ts
    simp only [mapL, sizeL, rangedL]
    refine ⟨?_, fun hb ⟨a, b⟩ => ⟨h1.2 hb a, h2.2 hb b⟩⟩
    have := h1.1
    have := h2.1
    simp only [put] at *
    rw [Nat.add_mul]
    omega
end

mutual
theorem tame_is (t : Tm) (h : tame t = true) : Pure.tame 1000 t := by
  match t with
  | .node k m a ls ks =>
    simp [tame] at h
    simp only [Pure.tame]
    exact ⟨fun hk => by have := h.1; omega, tameL_is ks h.2⟩
theorem tameL_is (ts : List Tm) (h : tameL ts = true) : Pure.tameL 1000 ts := by
  match ts with
  | [] => simp only [Pure.tameL]
  | t :: ts =>
    simp only [tameL, Bool.and_eq_true] at h
    simp only [Pure.tameL]
    exact ⟨tame_is t h.1, tameL_is ts h.2⟩
end

theorem meets1 (bys : List Tm) (t : Tm) (hb : bys.length ≤ 1000000) (h : tame t = true) : put bys 0 (lift bys.length 0 0 t) = lift 0 0 0 t := by
  simp only [put, lift, Pure.put_is, Pure.lift_is]
  rw [Pure.put_lift bys 0 (by omega) hb t (tame_is t h), Pure.lift_zero 0 0 t (tame_is t h)]
theorem meets2 (t a b : Tm) (ht : tame t = true) (ha : tame a = true) (hb : tame b = true) (hs : size t ≤ 1000000) (hs' : size a ≤ 1000000) : put [b] 0 (put [a] 0 t) = put [b, put [b] 0 a] 0 t := by
  simp only [put, Pure.put_is]
  exact Pure.put_put 1000 1000000 a b (tame_is a ha) (tame_is b hb) 0 (by omega) (by omega) t (by omega) (tame_is t ht)

end Go.Proofs.YtajpkhkfffdclaaDoor
