/-
  THE PLAIN LAW OF TermMeets: lifting, then putting, gives the term back; putting twice is putting both.
-/
import Derived.Test.YtajpkhkfffdclaaDoorPut
namespace Go.Proofs.YtajpkhkfffdclaaDoor.Pure
open Go.RowKit

def w64 (n : Int) : Int := (n + 9223372036854775808) % 18446744073709551616 - 9223372036854775808

mutual
def lift (n f d : Int) : Tm → Tm
  | .node k m a ls ks => .node k (if k = 1 ∧ d ≤ m ∧ f ≤ m - d then w64 (m + n) else m) a ls (liftL n f d k 0 ks)
def liftL (n f d k : Int) : Nat → List Tm → List Tm
  | _, [] => []
  | i, t :: ts => lift n f (inner k i d) t :: liftL n f d k (i + 1) ts
end

mutual
def put (by_ : List Tm) (d : Int) : Tm → Tm
  | .node k m a ls ks =>
    if k = 1 ∧ d ≤ m then
      if m - d < by_.length then lift d 0 0 ((by_[by_.length - 1 - (m - d).toNat]?).getD (.node 0 0 0 [] []))
      else .node k (m - by_.length) a ls (putL by_ d k 0 ks)
    else .node k m a ls (putL by_ d k 0 ks)
def putL (by_ : List Tm) (d k : Int) : Nat → List Tm → List Tm
  | _, [] => []
  | i, t :: ts => put by_ (inner k i d) t :: putL by_ d k (i + 1) ts
end

mutual
/-- Variables lie in [0, M], and at most h deep. -/
def tame (M : Int) : Tm → Prop
  | .node k m _ _ ks => (k = 1 → 0 ≤ m ∧ m ≤ M) ∧ tameL M ks
def tameL (M : Int) : List Tm → Prop
  | [] => True
  | t :: ts => tame M t ∧ tameL M ts
end

theorem inner_add (k : Int) (i : Nat) (d e : Int) : inner k i (d + e) = inner k i d + e := by unfold inner; split <;> omega

theorem w64_id {x : Int} (h0 : -9223372036854775808 ≤ x) (h1 : x ≤ 9223372036854775807) : w64 x = x := by unfold w64; omega

mutual
theorem lift_zero (f d : Int) (t : Tm) (h : tame 1000 t) : lift 0 f d t = t := by
  match t, h with
  | .node k m a ls ks, h =>
    simp only [tame] at h
    simp only [lift, liftL_zero f d k 0 ks h.2]
    congr 1
    split
    · rename_i hk
      have := h.1 hk.1
      rw [w64_id (by omega) (by omega)]; omega
    · rfl
theorem liftL_zero (f d k : Int) (i : Nat) (ts : List Tm) (h : tameL 1000 ts) : liftL 0 f d k i ts = ts := by
  match ts, h with
  | [], _ => rfl
  | t :: ts, h =>
    simp only [tameL] at h
    simp only [liftL, lift_zero f _ t h.1, liftL_zero f d k (i + 1) ts h.2]
end

mutual
theorem put_lift (by_ : List Tm) (d : Int) (hd : 0 ≤ d) (hb : by_.length ≤ 1000000) (t : Tm) (h : tame 1000 t) : put by_ d (lift by_.length 0 d t) = t := by
  match t, h with
  | .node k m a ls ks, h =>
    simp only [tame] at h
    have ih := putL_lift by_ d k hd hb 0 ks h.2
    simp only [lift]
    by_cases hk : k = 1
    · have hm := h.1 hk
      by_cases hdm : d ≤ m
      · rw [if_pos ⟨hk, hdm, by omega⟩, w64_id (by omega) (by omega)]
        simp only [put]
        rw [if_pos ⟨hk, by omega⟩, if_neg (by omega), ih]
        congr 1
        omega
      · rw [if_neg (by omega)]
        simp only [put]
        rw [if_neg (by omega), ih]
    · rw [if_neg (by omega)]
      simp only [put]
      rw [if_neg (by omega), ih]
theorem putL_lift (by_ : List Tm) (d k : Int) (hd : 0 ≤ d) (hb : by_.length ≤ 1000000) (i : Nat) (ts : List Tm) (h : tameL 1000 ts) : putL by_ d k i (liftL by_.length 0 d k i ts) = ts := by
  match ts, h with
  | [], _ => rfl
  | t :: ts, h =>
    simp only [tameL] at h
    have := inner_le k i d
    have h2 := put_lift by_ (inner k i d) (by omega) hb t h.1
    simp only [liftL, putL, putL_lift by_ d k hd hb (i + 1) ts h.2]
    rw [h2]
end

mutual
/-- Lifting by e, then by d at a depth up to e higher, is lifting by both. -/
theorem lift_lift (M d e f : Int) (hf : 0 ≤ f) (he : 0 ≤ e) (hd : 0 ≤ d) (g : Int) (hg0 : 0 ≤ g) (hge : g ≤ e) (hM : M + e + d ≤ 4611686018427387904) (t : Tm) (h : tame M t) :
    lift d 0 (g + f) (lift e 0 f t) = lift (e + d) 0 f t := by
  match t, h with
  | .node k m a ls ks, h =>
    simp only [tame] at h
    have ih := liftL_lift M d e f k hf he hd g hg0 hge hM 0 ks h.2
    simp only [lift, ih]
    congr 1
    by_cases hk : k = 1
    · have hm := h.1 hk
      by_cases hfm : f ≤ m
      · rw [if_pos (c := k = 1 ∧ f ≤ m ∧ 0 ≤ m - f) ⟨hk, hfm, by omega⟩, w64_id (x := m + e) (by omega) (by omega), if_pos ⟨hk, by omega, by omega⟩, if_pos ⟨hk, hfm, by omega⟩]
        congr 1
        omega
      · rw [if_neg (c := k = 1 ∧ f ≤ m ∧ 0 ≤ m - f) (by omega), if_neg (by omega), if_neg (by omega)]
    · rw [if_neg (c := k = 1 ∧ f ≤ m ∧ 0 ≤ m - f) (by omega), if_neg (by omega), if_neg (by omega)]
theorem liftL_lift (M d e f k : Int) (hf : 0 ≤ f) (he : 0 ≤ e) (hd : 0 ≤ d) (g : Int) (hg0 : 0 ≤ g) (hge : g ≤ e) (hM : M + e + d ≤ 4611686018427387904) (i : Nat) (ts : List Tm) (h : tameL M ts) :
    liftL d 0 (g + f) k i (liftL e 0 f k i ts) = liftL (e + d) 0 f k i ts := by
  match ts, h with
  | [], _ => rfl
  | t :: ts, h =>
    simp only [tameL] at h
    have h1 := inner_le k i f
    have h2 := lift_lift M d e (inner k i f) (by omega) he hd g hg0 hge hM t h.1
    have h3 : inner k i (g + f) = g + inner k i f := by rw [Int.add_comm g f, inner_add]; omega
    simp only [liftL, h3, h2, liftL_lift M d e f k hf he hd g hg0 hge hM (i + 1) ts h.2]
end

mutual
/-- Putting below what was lifted. -/
theorem put_under (M D : Int) (b : Tm) (hb : tame M b) (d e : Int) (he : 0 ≤ e) (hd : 0 ≤ d) (hM : M + D + d ≤ 4611686018427387904) (t : Tm) (hD : e + size t ≤ D) (h : tame M t) :
    put [b] (d + e) (lift d 0 e t) = lift d 0 e (put [b] e t) := by
  match t, h with
  | .node k m a ls ks, h =>
    simp only [tame] at h
    simp only [size] at hD
    have ih := putL_under M D b hb d e k he hd hM 0 ks (by omega) h.2
    simp only [lift, put, List.length_singleton]
    by_cases hk : k = 1
    · have hm := h.1 hk
      by_cases hem : e ≤ m
      · rw [if_pos (c := k = 1 ∧ e ≤ m ∧ 0 ≤ m - e) ⟨hk, hem, by omega⟩, w64_id (x := m + d) (by omega) (by omega), if_pos ⟨hk, by omega⟩, if_pos (c := k = 1 ∧ e ≤ m) ⟨hk, hem⟩]
        by_cases h1 : m - e < 1
        · have h2 : m = e := by omega
          subst h2
          rw [if_pos (by omega), if_pos (by omega)]
          have e1 : (1 - 1 - (m + d - (d + m)).toNat) = 0 := by omega
          have e2 : (1 - 1 - (m - m).toNat) = 0 := by omega
          rw [e1, e2]
          simp only [List.getElem?_cons_zero, Option.getD_some]
          have := lift_lift M d m 0 (by omega) he hd m he (by omega) (by omega) b hb
          rw [Int.add_zero] at this
          rw [this, Int.add_comm]
        · rw [if_neg (by omega), if_neg (by omega)]
          simp only [lift, ih]
          congr 1
          rw [if_pos ⟨hk, by omega, by omega⟩, w64_id (by omega) (by omega)]
          omega
      · rw [if_neg (c := k = 1 ∧ e ≤ m ∧ 0 ≤ m - e) (by omega), if_neg (by omega), if_neg (by omega)]
        simp only [lift, ih]
        congr 1
        rw [if_neg (by omega)]
    · rw [if_neg (c := k = 1 ∧ e ≤ m ∧ 0 ≤ m - e) (by omega), if_neg (by omega), if_neg (by omega)]
      simp only [lift, ih]
      congr 1
      rw [if_neg (by omega)]
theorem putL_under (M D : Int) (b : Tm) (hb : tame M b) (d e k : Int) (he : 0 ≤ e) (hd : 0 ≤ d) (hM : M + D + d ≤ 4611686018427387904) (i : Nat) (ts : List Tm) (hD : e + (1 + sizeL ts : Nat) ≤ D) (h : tameL M ts) :
    putL [b] (d + e) k i (liftL d 0 e k i ts) = liftL d 0 e k i (putL [b] e k i ts) := by
  match ts, h with
  | [], _ => rfl
  | t :: ts, h =>
    simp only [tameL] at h
    simp only [sizeL] at hD
    have h1 := inner_le k i e
    have h3 : inner k i (d + e) = d + inner k i e := by rw [Int.add_comm d e, inner_add]; omega
    have h4 := size_pos t
    simp only [liftL, putL, h3, put_under M D b hb d (inner k i e) (by omega) hd hM t (by omega) h.1, putL_under M D b hb d e k he hd hM (i + 1) ts (by omega) h.2]
end

mutual
theorem put_put (M D : Int) (a b : Tm) (ha : tame M a) (hb : tame M b) (d : Int) (hd : 0 ≤ d) (hM : M + (size a) + D ≤ 4611686018427387904) (t : Tm) (hD : d + size t ≤ D) (h : tame M t) :
    put [b] d (put [a] d t) = put [b, put [b] 0 a] d t := by
  match t, h with
  | .node k m x ls ks, h =>
    simp only [tame] at h
    simp only [size] at hD
    have ih := putL_put M D a b ha hb d k hd hM 0 ks (by omega) h.2
    simp only [put, List.length_cons, List.length_nil]
    by_cases hk : k = 1 ∧ d ≤ m
    · rw [if_pos hk, if_pos hk]
      have hm := h.1 hk.1
      by_cases h1 : m - d < 1
      · have e1 : m = d := by omega
        subst e1
        rw [if_pos (by omega), if_pos (by omega)]
        have e1 : (1 - 1 - (m - m).toNat) = 0 := by omega
        have e2 : (0 + 1 + 1 - 1 - (m - m).toNat) = 1 := by omega
        rw [e1, e2]
        simp only [List.getElem?_cons_zero, List.getElem?_cons_succ, Option.getD_some]
        have := put_under M (0 + size a) b hb m 0 (by omega) hd (by omega) a (by omega) ha
        rw [Int.add_zero] at this
        exact this
      · rw [if_neg (by omega)]
        simp only [put, List.length_singleton]
        rw [if_pos ⟨hk.1, by omega⟩]
        by_cases h2 : m - d < 2
        · have e1 : m = d + 1 := by omega
          subst e1
          rw [if_pos (by omega), if_pos (by omega)]
          have e1 : (1 - 1 - (d + 1 - 1 - d).toNat) = 0 := by omega
          have e2 : (0 + 1 + 1 - 1 - (d + 1 - d).toNat) = 0 := by omega
          have e3 : (1 - 1 - (d + 1 - (1 : Nat) - d).toNat) = 0 := by omega
          simp only [e2, e3, List.getElem?_cons_zero, Option.getD_some]
        · rw [if_neg (by omega), if_neg (by omega), ih]
          congr 1
          omega
    · rw [if_neg hk, if_neg hk]
      simp only [put, List.length_singleton]
      rw [if_neg hk, ih]
theorem putL_put (M D : Int) (a b : Tm) (ha : tame M a) (hb : tame M b) (d k : Int) (hd : 0 ≤ d) (hM : M + (size a) + D ≤ 4611686018427387904) (i : Nat) (ts : List Tm) (hD : d + (1 + sizeL ts : Nat) ≤ D) (h : tameL M ts) :
    putL [b] d k i (putL [a] d k i ts) = putL [b, put [b] 0 a] d k i ts := by
  match ts, h with
  | [], _ => rfl
  | t :: ts, h =>
    simp only [tameL] at h
    simp only [sizeL] at hD
    have h1 := inner_le k i d
    have h4 := size_pos t
    simp only [putL, put_put M D a b ha hb (inner k i d) (by omega) hM t (by omega) h.1, putL_put M D a b ha hb d k hd hM (i + 1) ts (by omega) h.2]
end

/-! The same functions, as the walks name them. -/
theorem w64_is (x : Int) : w64 x = wrap64 x := by simp only [w64, wrap64]
mutual
theorem lift_is (n f d : Int) (t : Tm) : mapT (liftStep n f) d t = lift n f d t := by
  match t with
  | .node k m a ls ks =>
    have h := liftL_is n f d k 0 ks
    simp only [mapT, liftStep, lift, h, Tm.kind, Tm.num, Tm.lvs, liftNum, w64_is]
    rfl
theorem liftL_is (n f d k : Int) (i : Nat) (ts : List Tm) : mapL (liftStep n f) d k i ts = liftL n f d k i ts := by
  match ts with
  | [] => simp only [mapL, liftL]
  | t :: ts =>
    have h := lift_is n f (inner k i d) t
    have h' := liftL_is n f d k (i + 1) ts
    simp only [mapL, liftL, h, h']
end
mutual
theorem put_is (bys : List Tm) (d : Int) (t : Tm) : mapT (putStep bys) d t = put bys d t := by
  match t with
  | .node k m a ls ks =>
    have h := putL_is bys d k 0 ks
    by_cases h1 : k = 1 ∧ d ≤ m
    · by_cases h2 : m - d < bys.length
      · have hs : putStep bys d (.node k m a ls ks) = .inl (mapT (liftStep d 0) 0 ((bys[bys.length - 1 - (m - d).toNat]?).getD (.node 0 0 0 [] []))) := (if_pos h1).trans (if_pos h2)
        simp only [mapT, hs, put, if_pos h1, if_pos h2, lift_is]
      · have hs : putStep bys d (.node k m a ls ks) = .inr (m - bys.length, ls) := (if_pos h1).trans (if_neg h2)
        simp only [mapT, hs, put, if_pos h1, if_neg h2, h]
    · have hs : putStep bys d (.node k m a ls ks) = .inr (m, ls) := if_neg h1
      simp only [mapT, hs, put, if_neg h1, h]
theorem putL_is (bys : List Tm) (d k : Int) (i : Nat) (ts : List Tm) : mapL (putStep bys) d k i ts = putL bys d k i ts := by
  match ts with
  | [] => simp only [mapL, putL]
  | t :: ts =>
    have h := put_is bys (inner k i d) t
    have h' := putL_is bys d k (i + 1) ts
    simp only [mapL, putL, h, h']
end

end Go.Proofs.YtajpkhkfffdclaaDoor.Pure
