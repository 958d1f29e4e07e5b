/-
  THE PLAIN LAW OF LEVELS, the rest: levels put, a level and one, values; what LevelDecides and LevelOrders say.
-/
import Derived.Test.YtgegaipkfpdocaaLevP
namespace Go.Proofs.Ytgegaipkfpdocaa

def lvAt (bs : List Lv) (v : Int) : Lv := if 0 < v then bs.getD (v - 1).toNat [] else []
def subP (bs : List Lv) (p : Int × Int) : Lv := if nfP (lvAt bs p.1) = [] then [(0, 0)] else nfP (lvAt bs p.1)
def addP (n : Int) (x : Lv) : Lv := x.map fun q => (q.1, q.2 + n)
def putsP (l : Lv) (bs : List Lv) : Lv := (nfP l).flatMap fun p => addP p.2 (subP bs p)
def putLv (l : Lv) (bs : List Lv) : Lv := nfP (putsP l bs)
def sucL (l : Lv) : Lv := if nfP l = [] then nfP [(0, 1)] else nfP (addP 1 (nfP l))
def numR (ns : List Int) (v : Int) : Int := if 0 < v ∧ v ≤ ns.length ∧ 0 ≤ ns.getD (v - 1).toNat 0 ∧ ns.getD (v - 1).toNat 0 ≤ 1048576 then ns.getD (v - 1).toNat 0 else 0
def valL (l : Lv) (ns : List Int) : Int := evP (numR ns) (nfP l)
def leqL (a b : Lv) : Bool := leqP (nfP a) (nfP b)
def SmP (l : Lv) : Prop := ∀ p ∈ l, 0 ≤ p.1 ∧ p.1 ≤ 200 ∧ 0 ≤ p.2 ∧ p.2 ≤ 262144
theorem numR_nonneg (ns : List Int) (v : Int) : 0 ≤ numR ns v := by unfold numR; split <;> omega
theorem numR_le (ns : List Int) (v : Int) : numR ns v ≤ 1048576 := by unfold numR; split <;> omega
theorem nfP_nil : nfP [] = [] := rfl
theorem SmP.good {l : Lv} (h : SmP l) : GoodP l := fun p hp => by have := h p hp; omega
theorem SmP.nf {l : Lv} (h : SmP l) : SmP (nfP l) :=
  nfP_all (P := fun p => 0 ≤ p.1 ∧ p.1 ≤ 200 ∧ 0 ≤ p.2 ∧ p.2 ≤ 262144) (by rintro ⟨a, b⟩ ⟨c, d⟩ h1 h2 e; simp only at *; omega) h
theorem SmP.append {a b : Lv} (ha : SmP a) (hb : SmP b) : SmP (a ++ b) := fun p hp => (List.mem_append.1 hp).elim (ha p) (hb p)
theorem lvAt_sm {bs : List Lv} (h : ∀ l ∈ bs, SmP l) (v : Int) : SmP (lvAt bs v) := by
  unfold lvAt
  split
  · rw [List.getD_eq_getElem?_getD]
    cases hg : bs[(v - 1).toNat]? with
    | none => intro p hp; cases hp
    | some l => exact h l (List.mem_of_getElem? hg)
  · intro p hp; cases hp
theorem subP_nonempty (bs : List Lv) (p : Int × Int) : subP bs p ≠ [] := by unfold subP; split <;> simp_all
theorem subP_sm {bs : List Lv} (h : ∀ l ∈ bs, SmP l) (p : Int × Int) : SmP (subP bs p) := by
  unfold subP
  split
  · intro q hq; simp only [List.mem_singleton] at hq; subst hq; simp
  · exact (lvAt_sm h _).nf
theorem evP_add {ρ : Int → Int} (n : Int) (hn : 0 ≤ n) : ∀ {x : Lv}, x ≠ [] → (∀ p ∈ x, 0 ≤ vlP ρ p) → evP ρ (addP n x) = evP ρ x + n
  | [], h, _ => absurd rfl h
  | [p], _, h => by
    have := h p (by simp)
    simp only [addP, List.map_cons, List.map_nil, evP, vlP] at *
    omega
  | p :: q :: x, _, h => by
    have ih := evP_add n hn (x := q :: x) (by simp) (fun r hr => h r (by simp [hr]))
    have e : addP n (p :: q :: x) = (p.1, p.2 + n) :: addP n (q :: x) := rfl
    rw [e]
    simp only [evP] at ih ⊢
    rw [ih]
    have e2 : vlP ρ (p.1, p.2 + n) = vlP ρ p + n := by simp only [vlP]; omega
    omega
theorem vlP_nonneg {ρ : Int → Int} (hρ : ∀ v, 0 ≤ ρ v) {p : Int × Int} (h : 0 ≤ p.2) : 0 ≤ vlP ρ p := by
  have := hρ p.1
  unfold vlP; split <;> omega
theorem evP_flat {ρ σ : Int → Int} {f : Int × Int → Lv} : ∀ {x : Lv}, (∀ p ∈ x, evP ρ (f p) = max 0 (vlP σ p)) → evP ρ (x.flatMap f) = evP σ x
  | [], _ => rfl
  | p :: x, h => by
    have ih := evP_flat (ρ := ρ) (σ := σ) (f := f) (x := x) fun q hq => h q (by simp [hq])
    have hp := h p (by simp)
    have h0 := evP_nonneg σ x
    rw [List.flatMap_cons, evP_append, ih, hp]
    simp only [evP]
    omega
theorem subP_ev {ρ : Int → Int} (bs : List Lv) (p : Int × Int) : evP ρ (subP bs p) = evP ρ (nfP (lvAt bs p.1)) := by
  unfold subP
  split
  · rename_i h; rw [h]; simp [evP, vlP]
  · rfl
/-- What a level with levels put is worth. -/
theorem putsP_ev {ρ : Int → Int} (hρ : ∀ v, 0 ≤ ρ v) (l : Lv) (bs : List Lv) : evP ρ (putsP l bs) = evP (fun v => evP ρ (nfP (lvAt bs v))) (nfP l) := by
  unfold putsP
  refine evP_flat fun p hp => ?_
  have hg := (nfP_nf l).good p hp
  have hs : ∀ q ∈ subP bs p, 0 ≤ q.2 := by
    unfold subP
    split
    · intro q hq; simp only [List.mem_singleton] at hq; subst hq; simp
    · intro q hq; exact ((nfP_nf _).good q hq).2.1
  rw [evP_add p.2 hg.2.1 (subP_nonempty bs p) (fun q hq => vlP_nonneg hρ (hs q hq)), subP_ev]
  have h0 := evP_nonneg ρ (nfP (lvAt bs p.1))
  simp only [vlP]
  split
  · omega
  · have : lvAt bs p.1 = [] := by unfold lvAt; rw [if_neg (by assumption)]
    rw [this, nfP_nil]; simp only [evP]; omega
theorem putsP_mem {l : Lv} {bs : List Lv} {q : Int × Int} (h : q ∈ putsP l bs) : ∃ p ∈ nfP l, ∃ r ∈ subP bs p, q = (r.1, r.2 + p.2) := by
  simp only [putsP, List.mem_flatMap, addP, List.mem_map] at h
  obtain ⟨p, hp, r, hr, rfl⟩ := h
  exact ⟨p, hp, r, hr, rfl⟩
theorem putsP_good {l : Lv} {bs : List Lv} (hl : SmP l) (hb : ∀ l ∈ bs, SmP l) : GoodP (putsP l bs) := by
  intro q hq
  obtain ⟨p, hp, r, hr, rfl⟩ := putsP_mem hq
  have h1 := hl.nf p hp
  have h2 := subP_sm hb p r hr
  simp only
  omega
theorem putLv_ev {l : Lv} {bs : List Lv} (hl : SmP l) (hb : ∀ l ∈ bs, SmP l) {ρ : Int → Int} (hρ : ∀ v, 0 ≤ ρ v) : evP ρ (putLv l bs) = evP (fun v => evP ρ (nfP (lvAt bs v))) (nfP l) := by
  unfold putLv
  rw [nfP_ev hρ (putsP_good hl hb), putsP_ev hρ]
theorem sucL_nf (l : Lv) : NFP (sucL l) := by unfold sucL; split <;> exact nfP_nf _
theorem sucL_ev {l : Lv} (hl : SmP l) {ρ : Int → Int} (hρ : ∀ v, 0 ≤ ρ v) : evP ρ (sucL l) = evP ρ (nfP l) + 1 := by
  unfold sucL
  split
  · rename_i h
    rw [h, nfP_ev hρ (by intro p hp; simp only [List.mem_singleton] at hp; subst hp; simp)]
    rfl
  · rename_i h
    rw [nfP_ev hρ (by
      intro q hq
      simp only [addP, List.mem_map] at hq
      obtain ⟨r, hr, rfl⟩ := hq
      have := hl.nf r hr
      simp only
      omega), evP_add 1 (by omega) h (fun p hp => vlP_nonneg hρ (hl.nf p hp).2.2.1)]

/-! LevelDecides. -/
theorem decides_yes {a b : Lv} (h : leqL a b = true) (ns : List Int) : valL a ns ≤ valL b ns := leqP_ev (nfP_nf a) h (numR_nonneg ns)
def bigAt (v : Nat) : List Int := (List.replicate 200 (0 : Int)).set v 524288
theorem bigAt_num {v : Nat} (hv : v < 200) (u : Int) : numR (bigAt v) u = oneAt ((v : Int) + 1) 524288 u := by
  have hl : (bigAt v).length = 200 := by unfold bigAt; rw [List.length_set, List.length_replicate]
  have hg : ∀ k, (bigAt v).getD k 0 = if k = v then 524288 else 0 := by
    intro k
    rw [List.getD_eq_getElem?_getD]
    unfold bigAt
    rw [List.getElem?_set]
    by_cases hk : v = k
    · subst hk; rw [if_pos rfl, if_pos (by rw [List.length_replicate]; exact hv), if_pos rfl]; rfl
    · rw [if_neg hk, if_neg (fun e => hk e.symm)]
      by_cases h : k < 200
      · rw [List.getElem?_replicate, if_pos h]; rfl
      · rw [List.getElem?_replicate, if_neg h]; rfl
  unfold numR oneAt
  rw [hl, hg]
  by_cases h0 : 0 < u
  · by_cases he : (u - 1).toNat = v
    · have hu : u = (v : Int) + 1 := by omega
      rw [if_pos he, if_pos hu, if_pos (by omega)]
    · have hu : ¬ u = (v : Int) + 1 := by omega
      rw [if_neg he, if_neg hu]; split <;> rfl
  · rw [if_neg (by omega), if_neg (by omega)]
theorem evP_congr {ρ σ : Int → Int} (h : ∀ v, ρ v = σ v) (x : Lv) : evP ρ x = evP σ x := by
  have : ρ = σ := funext h
  rw [this]
theorem numR_nil (v : Int) : numR [] v = 0 := by unfold numR; rw [if_neg]; simp only [List.length_nil]; omega
theorem decides_no {a b : Lv} (ha : SmP a) (hb : SmP b) (h : leqL a b = false) : valL b [] < valL a [] ∨ ∃ v < 200, valL b (bigAt v) < valL a (bigAt v) := by
  rcases leqP_no (nfP_nf a) h (B := 524288) (by omega) (fun q hq => by have := hb.nf q hq; omega) with h1 | ⟨p, hp, h0, h1⟩
  · left
    unfold valL
    rw [evP_congr numR_nil, evP_congr numR_nil]
    exact h1
  · right
    have hpb := ha.nf p hp
    have hv : (p.1 - 1).toNat < 200 := by omega
    refine ⟨(p.1 - 1).toNat, hv, ?_⟩
    have e : ((p.1 - 1).toNat : Int) + 1 = p.1 := by omega
    have hc : ∀ u, numR (bigAt (p.1 - 1).toNat) u = oneAt p.1 524288 u := fun u => by rw [bigAt_num hv, e]
    unfold valL
    rw [evP_congr hc, evP_congr hc]
    exact h1

/-! LevelOrders. -/
section
variable {a b c : Lv} {bs : List Lv}
theorem ord_refl : leqL a a = true := leqP_refl (nfP_nf a)
theorem ord_trans (h1 : leqL a b = true) (h2 : leqL b c = true) : leqL a c = true :=
  (leqP_iff (nfP_nf a) (nfP_nf c)).2 fun _ hρ => Int.le_trans (leqP_ev (nfP_nf a) h1 hρ) (leqP_ev (nfP_nf b) h2 hρ)
theorem ord_same : (leqL a b && leqL b a) = decide (nfP a = nfP b) := by
  rw [Bool.eq_iff_iff, Bool.and_eq_true, decide_eq_true_iff]
  refine ⟨fun ⟨h1, h2⟩ => leqP_anti (nfP_nf a) (nfP_nf b) h1 h2, fun h => ?_⟩
  unfold leqL
  rw [h]
  exact ⟨leqP_refl (nfP_nf b), leqP_refl (nfP_nf b)⟩
theorem nf_twice : nfP (nfP a) = nfP a := nfP_self (nfP_nf a)
theorem max_ev (ha : SmP a) (hb : SmP b) {ρ : Int → Int} (hρ : ∀ v, 0 ≤ ρ v) : evP ρ (nfP (nfP (a ++ b))) = max (evP ρ (nfP a)) (evP ρ (nfP b)) := by
  rw [nf_twice, nfP_ev hρ (ha.append hb).good, nfP_ev hρ ha.good, nfP_ev hρ hb.good, evP_append]
theorem ord_max_l (ha : SmP a) (hb : SmP b) : leqL a (nfP (a ++ b)) = true :=
  (leqP_iff (nfP_nf _) (nfP_nf _)).2 fun ρ hρ => by rw [max_ev ha hb hρ]; omega
theorem ord_max_r (ha : SmP a) (hb : SmP b) : leqL b (nfP (a ++ b)) = true :=
  (leqP_iff (nfP_nf _) (nfP_nf _)).2 fun ρ hρ => by rw [max_ev ha hb hρ]; omega
theorem ord_max (ha : SmP a) (hb : SmP b) (h1 : leqL a c = true) (h2 : leqL b c = true) : leqL (nfP (a ++ b)) c = true :=
  (leqP_iff (nfP_nf _) (nfP_nf _)).2 fun ρ hρ => by
    have h3 := leqP_ev (nfP_nf a) h1 hρ
    have h4 := leqP_ev (nfP_nf b) h2 hρ
    rw [max_ev ha hb hρ]; omega
theorem suc_ev (ha : SmP a) {ρ : Int → Int} (hρ : ∀ v, 0 ≤ ρ v) : evP ρ (nfP (sucL a)) = evP ρ (nfP a) + 1 := by rw [nfP_self (sucL_nf a), sucL_ev ha hρ]
theorem ord_suc (ha : SmP a) : leqL a (sucL a) = true := (leqP_iff (nfP_nf _) (nfP_nf _)).2 fun ρ hρ => by rw [suc_ev ha hρ]; omega
theorem ord_suc_no (ha : SmP a) : leqL (sucL a) a = false := by
  cases h : leqL (sucL a) a with
  | false => rfl
  | true =>
    have hρ : ∀ v : Int, (0 : Int) ≤ (fun _ => 0) v := fun _ => Int.le_refl _
    have := leqP_ev (nfP_nf _) h hρ
    rw [suc_ev ha hρ] at this
    omega
theorem put_ev (ha : SmP a) (hs : ∀ l ∈ bs, SmP l) {ρ : Int → Int} (hρ : ∀ v, 0 ≤ ρ v) : evP ρ (nfP (putLv a bs)) = evP (fun v => evP ρ (nfP (lvAt bs v))) (nfP a) := by
  rw [show nfP (putLv a bs) = putLv a bs from nf_twice, putLv_ev ha hs hρ]
theorem ord_put (ha : SmP a) (hb : SmP b) (hs : ∀ l ∈ bs, SmP l) (h : leqL a b = true) : leqL (putLv a bs) (putLv b bs) = true :=
  (leqP_iff (nfP_nf _) (nfP_nf _)).2 fun ρ hρ => by
    rw [put_ev ha hs hρ, put_ev hb hs hρ]
    exact leqP_ev (nfP_nf a) h fun v => evP_nonneg _ _
theorem ord_put_max (ha : SmP a) (hb : SmP b) (hs : ∀ l ∈ bs, SmP l) : nfP (putLv (nfP (a ++ b)) bs) = nfP (nfP (putLv a bs ++ putLv b bs)) := by
  refine nf_ext (nfP_nf _) (nfP_nf _) fun ρ hρ => ?_
  have hab := ha.append hb
  have hg : GoodP (putLv a bs ++ putLv b bs) := fun p hp => (List.mem_append.1 hp).elim ((nfP_nf _).good p) ((nfP_nf _).good p)
  have hσ : ∀ v, 0 ≤ (fun v => evP ρ (nfP (lvAt bs v))) v := fun v => evP_nonneg _ _
  rw [put_ev hab.nf hs hρ, nf_twice, nfP_ev hσ hab.good, nf_twice, nfP_ev hρ hg, evP_append, evP_append, putLv_ev ha hs hρ, putLv_ev hb hs hρ, nfP_ev hσ ha.good, nfP_ev hσ hb.good]
theorem val_max (ha : SmP a) (hb : SmP b) (ns : List Int) : valL (nfP (a ++ b)) ns = max (valL a ns) (valL b ns) := max_ev ha hb (numR_nonneg ns)
end

end Go.Proofs.Ytgegaipkfpdocaa
