/-
  HOW GREAT TERMS ARE: the counts of the kit (they stop where a bound is passed), as plain functions, and what they say.
-/
import Derived.Test.YtgegaipkfpdocaaDoorRep
namespace Go.Proofs.YtgegaipkfpdocaaDoor
open Go.RowKit

def lvOf (m : Int) (l : Lv) : Int := min (1 + (l.length : Int)) (m + 1)
def lvsOf (m n : Int) : List Lv → Int
  | [] => n
  | l :: ls => if n ≤ m then lvsOf m (n + lvOf m l) ls else n
mutual
def tmOf (m : Int) : Tm → Int
  | .node _ _ _ ls ks => 1 + lvsOf m 0 ls + tmsOf m 0 ks
def tmsOf (m n : Int) : List Tm → Int
  | [] => n
  | t :: ts => if n ≤ m then tmsOf m (n + tmOf (m - n) t) ts else n
end
mutual
def depth : Tm → Nat
  | .node _ _ _ _ ks => 1 + depthL ks
def depthL : List Tm → Nat
  | [] => 0
  | t :: ts => max (depth t) (depthL ts)
end
def lvw : List Lv → Nat
  | [] => 0
  | l :: ls => 1 + l.length + lvw ls
mutual
/-- Nodes, levels and parts. -/
def wt : Tm → Nat
  | .node _ _ _ ls ks => 1 + lvw ls + wtL ks
def wtL : List Tm → Nat
  | [] => 0
  | t :: ts => wt t + wtL ts
end

theorem lvOf_bd (m : Int) (hm : 0 ≤ m) (l : Lv) : 0 ≤ lvOf m l ∧ lvOf m l ≤ m + 1 := by unfold lvOf; omega
theorem lvsOf_le (m : Int) (hm : 0 ≤ m) : ∀ (ls : List Lv) (n : Int), 0 ≤ n → n ≤ 2 * m + 1 → n ≤ lvsOf m n ls ∧ lvsOf m n ls ≤ 2 * m + 1
  | [], n, h0, h => by simp only [lvsOf]; omega
  | l :: ls, n, h0, h => by
    simp only [lvsOf]
    have h1 := lvOf_bd m hm l
    split
    · have := lvsOf_le m hm ls (n + lvOf m l) (by omega) (by omega)
      omega
    · omega
mutual
theorem tmOf_bd (m : Int) (hm : 0 ≤ m) (t : Tm) : 1 ≤ tmOf m t ∧ tmOf m t ≤ (3 * m + 2) * depth t := by
  match t with
  | .node k n a ls ks =>
    simp only [tmOf, depth]
    have h1 := lvsOf_le m hm ls 0 (by omega) (by omega)
    have h2 := tmsOf_bd2 m hm ks 0 (by omega)
    have h3 : 0 ≤ (3 * m + 2) * (depthL ks : Int) := Int.mul_nonneg (by omega) (by omega)
    have e : (3 * m + 2) * ((1 + depthL ks : Nat) : Int) = (3 * m + 2) + (3 * m + 2) * (depthL ks : Int) := by rw [Int.natCast_add, Int.mul_add]; simp
    omega
/-- Wherever the count stands. -/
theorem tmsOf_bd2 (m : Int) (hm : 0 ≤ m) (ts : List Tm) (n : Int) (h0 : 0 ≤ n) : n ≤ tmsOf m n ts ∧ tmsOf m n ts ≤ max n (m + (3 * m + 2) * depthL ts) := by
  match ts with
  | [] => simp only [tmsOf]; omega
  | t :: ts =>
    simp only [tmsOf]
    have hd : (3 * m + 2) * (depthL (t :: ts) : Int) ≥ (3 * m + 2) * (depth t : Int) ∧ (3 * m + 2) * (depthL (t :: ts) : Int) ≥ (3 * m + 2) * (depthL ts : Int) := by
      simp only [depthL]
      exact ⟨Int.mul_le_mul_of_nonneg_left (by omega) (by omega), Int.mul_le_mul_of_nonneg_left (by omega) (by omega)⟩
    split
    · rename_i hle
      have h1 := tmOf_bd (m - n) (by omega) t
      have h1' : (3 * (m - n) + 2) * (depth t : Int) ≤ (3 * m + 2) * (depth t : Int) := Int.mul_le_mul_of_nonneg_right (by omega) (by omega)
      have h2 := tmsOf_bd2 m hm ts (n + tmOf (m - n) t) (by omega)
      omega
    · omega
end

/-- Below the bound the counts are exact. -/
theorem lvsOf_exact (m : Int) (hm : 0 ≤ m) : ∀ (ls : List Lv) (n : Int), 0 ≤ n → lvsOf m n ls ≤ m → lvsOf m n ls = n + lvw ls
  | [], n, h0, h => by simp [lvsOf, lvw]
  | l :: ls, n, h0, h => by
    simp only [lvsOf, lvw] at h ⊢
    have h1 := lvOf_bd m hm l
    split at h
    · rename_i hle
      rw [if_pos hle]
      have hge : n + lvOf m l ≤ lvsOf m (n + lvOf m l) ls := by
        clear h
        have : ∀ (ls : List Lv) (k : Int), k ≤ lvsOf m k ls := by
          intro ls
          induction ls with
          | nil => intro k; simp [lvsOf]
          | cons x xs ih => intro k; simp only [lvsOf]; have := lvOf_bd m hm x; have := ih (k + lvOf m x); split <;> omega
        exact this _ _
      have := lvsOf_exact m hm ls (n + lvOf m l) (by omega) h
      rw [this]
      have e : lvOf m l = 1 + (l.length : Int) := by
        have h3 : lvOf m l ≤ m := by omega
        unfold lvOf at h3 ⊢
        omega
      omega
    · omega
mutual
theorem tmOf_exact (m : Int) (hm : 0 ≤ m) (t : Tm) (h : tmOf m t ≤ m) : tmOf m t = wt t := by
  match t, h with
  | .node k n a ls ks, h =>
    simp only [tmOf, wt] at h ⊢
    have h1 := lvsOf_le m hm ls 0 (by omega) (by omega)
    have h2 := (tmsOf_bd2 m hm ks 0 (by omega)).1
    have e1 := lvsOf_exact m hm ls 0 (by omega) (by omega)
    have e2 := tmsOf_exact m hm ks 0 (by omega) (by omega)
    omega
theorem tmsOf_exact (m : Int) (hm : 0 ≤ m) (ts : List Tm) (n : Int) (h0 : 0 ≤ n) (h : tmsOf m n ts ≤ m) : tmsOf m n ts = n + wtL ts := by
  match ts, h with
  | [], h => simp [tmsOf, wtL]
  | t :: ts, h =>
    simp only [tmsOf, wtL] at h ⊢
    split at h
    · rename_i hle
      rw [if_pos hle]
      have h1 := (tmOf_bd (m - n) (by omega) t).1
      have h2 := (tmsOf_bd2 m hm ts (n + tmOf (m - n) t) (by omega)).1
      rw [tmsOf_exact m hm ts (n + tmOf (m - n) t) (by omega) h]
      rw [tmOf_exact (m - n) (by omega) t (by omega)]
      omega
    · omega
end

mutual
theorem size_wt (t : Tm) : size t ≤ wt t := by
  match t with
  | .node k n a ls ks => have := sizeL_wt ks; simp only [size, wt]; omega
theorem sizeL_wt (ts : List Tm) : sizeL ts ≤ wtL ts := by
  match ts with
  | [] => simp [sizeL, wtL]
  | t :: ts => have := size_wt t; have := sizeL_wt ts; simp only [sizeL, wtL]; omega
end
mutual
theorem depth_size (t : Tm) : depth t ≤ size t := by
  match t with
  | .node k n a ls ks => have := depthL_size ks; simp only [size, depth]; omega
theorem depthL_size (ts : List Tm) : depthL ts ≤ sizeL ts := by
  match ts with
  | [] => simp [sizeL, depthL]
  | t :: ts => have := depth_size t; have := depthL_size ts; simp only [sizeL, depthL]; omega
end
theorem length_sizeL (ts : List Tm) : ts.length ≤ sizeL ts := by
  induction ts with
  | nil => simp
  | cons t ts ih => have := size_pos t; simp only [sizeL, List.length_cons]; omega
theorem sizeL_append (ts us : List Tm) : sizeL (ts ++ us) = sizeL ts + sizeL us := by
  induction ts with
  | nil => simp [sizeL]
  | cons t ts ih => simp only [List.cons_append, sizeL, ih]; omega
theorem wtL_append (ts us : List Tm) : wtL (ts ++ us) = wtL ts + wtL us := by
  induction ts with
  | nil => simp [wtL]
  | cons t ts ih => simp only [List.cons_append, wtL, ih]; omega
theorem depth_at {ts : List Tm} {i : Nat} {t : Tm} (h : ts[i]? = some t) : depth t ≤ depthL ts := by
  induction ts generalizing i with
  | nil => simp at h
  | cons x xs ih =>
    simp only [depthL]
    cases i with
    | zero => simp only [List.getElem?_cons_zero, Option.some.injEq] at h; subst h; omega
    | succ i => have := ih (i := i) (by simpa using h); omega
theorem depthL_append (ts us : List Tm) : depthL (ts ++ us) = max (depthL ts) (depthL us) := by
  induction ts with
  | nil => simp [depthL]
  | cons t ts ih => simp only [List.cons_append, depthL, ih]; omega

/-- One step more of a count. -/
theorem lvsOf_take {m : Int} {ls : List Lv} {k : Nat} {l : Lv} (h : ls[k]? = some l) (n : Int) : lvsOf m n (ls.drop k) = if n ≤ m then lvsOf m (n + lvOf m l) (ls.drop (k + 1)) else n := by
  have hk : k < ls.length := (List.getElem?_eq_some_iff.1 h).1
  rw [List.drop_eq_getElem_cons hk, lvsOf]
  rw [List.getElem?_eq_getElem hk, Option.some.injEq] at h
  rw [h]
theorem tmsOf_take {m : Int} {ts : List Tm} {k : Nat} {t : Tm} (h : ts[k]? = some t) (n : Int) : tmsOf m n (ts.drop k) = if n ≤ m then tmsOf m (n + tmOf (m - n) t) (ts.drop (k + 1)) else n := by
  have hk : k < ts.length := (List.getElem?_eq_some_iff.1 h).1
  rw [List.drop_eq_getElem_cons hk, tmsOf]
  rw [List.getElem?_eq_getElem hk, Option.some.injEq] at h
  rw [h]

end Go.Proofs.YtgegaipkfpdocaaDoor
