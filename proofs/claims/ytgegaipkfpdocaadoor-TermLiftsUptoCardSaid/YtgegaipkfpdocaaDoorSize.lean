/-
  THE WALKS OF Size, tame, great, times, Deep.
-/
import Derived.Test.YtgegaipkfpdocaaDoorCount
namespace Go.Proofs.YtgegaipkfpdocaaDoor
open Go.RowKit

theorem sizeL_take {ts : List Tm} {k : Nat} {t : Tm} (h : ts[k]? = some t) : sizeL (ts.take (k + 1)) = sizeL (ts.take k) + size t := by
  rw [List.take_add_one, h, sizeL_append]; simp [sizeL]
theorem sizeL_take_le (ts : List Tm) (k : Nat) : sizeL (ts.take k) ≤ sizeL ts := by
  conv => rhs; rw [← List.take_append_drop k ts, sizeL_append]
  omega

def SizeAt (M : Nat) : Prop := ∀ (t : Tm) (vl vk : Value) (w : World), size t ≤ M → RT w t vl vk → size t ≤ 1000000000000 →
    Calls Tryd.prog 17 #[.agg #[.int .i64 t.kind, .int .i64 t.num, .int .i64 t.atN, vl, vk]] w fun e w' => e = .returned (.int .i64 (size t)) ∧ Below w.heap.size w w'

set_option maxRecDepth 100000 in
set_option maxHeartbeats 800000 in
theorem size_of {M : Nat} (HS : SizeAt M) : SizeAt (M + 1) := by
  rintro ⟨k, nn, a, ls, ks⟩ vl vk w hM hp h0
  rw [RT_iff] at hp
  simp only [size] at hM h0
  obtain ⟨hp1, A, c, rfl, hc, hl, hcp⟩ := hp
  simp only [Tm.kind, Tm.num, Tm.atN, size]
  generalize hnp : ks.length = n at *
  have HP := Lib.hid hnp; clear hnp
  have HCP := Lib.hid hcp; clear hcp hp1
  go_enter Tryd.func17, Tryd.ntmps17
  go_wp2_with fail
  go_loopw [3, 9] (fun x i wr => ∃ (k : Nat), k ≤ n ∧ i = .int .i64 k ∧ x = .int .i64 (1 + (sizeL (ks.take k) : Int)) ∧ Below w.heap.size w wr) (fun _ i _ => n - (intOf i).toNat)
  case atStart => exact ⟨0, Nat.zero_le _, rfl, by simp [sizeL], (Below.refl _ _).alloc (Nat.le_refl _) _⟩
  case round =>
    obtain ⟨j, hk, rfl, rfl, hb⟩ := hrel
    have hle := sizeL_take_le ks j
    by_cases hlt : j < n
    · obtain ⟨b, o, rfl, hcp⟩ := HCP.out (by omega)
      obtain ⟨p, hpk⟩ : ∃ p, ks[j]? = some p := ⟨_, List.getElem?_eq_getElem (by have := HP.out; omega)⟩
      obtain ⟨x, x', c1, c2, c3, c4, c5, hx⟩ := (hcp.below hb).get hpk
      obtain ⟨A1, n1, k1, A2, n2, k2, rfl, rfl⟩ := hx.forms
      have hlt' : (j : Int) < (n : Int) := by omega
      have hk0 : (0 : Int) ≤ (j : Int) := by omega
      have hsz := size_at hpk
      have hst := sizeL_take hpk
      have hle2 := sizeL_take_le ks (j + 1)
      have hcall := fun W (hb' : Below wr.heap.size wr W) => HS p _ _ W (by omega) (hx.below hb') (by omega)
      have HST := Lib.hid hst
      have hle3 : sizeL (List.take j ks) + size p ≤ sizeL ks := by omega
      clear hcp HCP hx hpk HS hst hle2
      generalize size p = z at *
      generalize sizeL (List.take j ks) = y at *
      go_wp2_with fail
      refine (hcall _ ?_).mono ?_
      · exact (Below.refl _ _).alloc (Nat.le_refl _) _
      rintro e w1 ⟨rfl, hb1⟩
      have HB : Below w.heap.size w w1 := (hb.alloc hb.size _).trans (hb1.mono (by have := hb.size; simp; omega))
      clear hb1 hcall
      go_wp2_with fail
      go_roundw
      case rel => exact ⟨j + 1, by omega, by go_num, by rw [HST.out]; push_cast; rw [Int.add_assoc], HB⟩
      case measure => simp [intOf]; omega
    · obtain rfl : j = n := by omega
      have hd : sizeL (ks.take j) = sizeL ks := by rw [List.take_of_length_le (by have := HP.out; omega)]
      have HD := Lib.hid hd; clear hd HCP HS
      go_wp2_with fail
      go_ret
      exact ⟨ret_int (by rw [HD.out]; push_cast; rfl), hb⟩

theorem size_all : ∀ M, SizeAt M
  | 0 => fun t _ _ _ h => absurd (size_pos t) (by omega)
  | M + 1 => size_of (size_all M)
theorem size_any (t : Tm) (vl vk : Value) (w : World) (h : RT w t vl vk) (hs : size t ≤ 1000000000000) :
    Calls Tryd.prog 17 #[.agg #[.int .i64 t.kind, .int .i64 t.num, .int .i64 t.atN, vl, vk]] w fun e w' => e = .returned (.int .i64 (size t)) ∧ Below w.heap.size w w' :=
  size_all _ t vl vk w (Nat.le_refl _) h hs

mutual
/-- All variables are from 0 to 1000. -/
def tame : Tm → Bool
  | .node k m _ _ ks => !(k == 1 && (decide (m < 0) || decide (1000 < m)) || !tameL ks)
def tameL : List Tm → Bool
  | [] => true
  | t :: ts => tame t && tameL ts
end
theorem tameL_take {ts : List Tm} {k : Nat} {t : Tm} (h : ts[k]? = some t) : tameL (ts.take (k + 1)) = (tameL (ts.take k) && tame t) := by
  have ha : ∀ us vs : List Tm, tameL (us ++ vs) = (tameL us && tameL vs) := by
    intro us
    induction us with
    | nil => intro vs; simp [tameL]
    | cons u us ih => intro vs; simp only [List.cons_append, tameL, ih, Bool.and_assoc]
  rw [List.take_add_one, h, ha]; simp [tameL]
theorem tameL_false {ts : List Tm} {k : Nat} {t : Tm} (h : ts[k]? = some t) (hf : tame t = false) : tameL ts = false := by
  induction ts generalizing k with
  | nil => simp at h
  | cons u us ih =>
    simp only [tameL]
    cases k with
    | zero => simp only [List.getElem?_cons_zero, Option.some.injEq] at h; subst h; simp [hf]
    | succ k => have := ih (k := k) (by simpa using h); simp [this]

def TameAt (M : Nat) : Prop := ∀ (ts : List Tm) (v : Value) (w : World), sizeL ts ≤ M → RKv w ts v →
    Calls Tryd.prog 15 #[v] w fun e w' => e = .returned (.bool (tameL ts)) ∧ Below w.heap.size w w'

set_option maxRecDepth 100000 in
set_option maxHeartbeats 800000 in
theorem tame_of {M : Nat} (HS : ∀ m, m < M → TameAt m) : TameAt M := by
  intro ls v w hM h
  obtain ⟨A, c, rfl, hc, hl, hcp⟩ := h
  generalize hnp : ls.length = n at *
  have HP := Lib.hid hnp; clear hnp
  have HCP := Lib.hid hcp; clear hcp
  go_enter Tryd.func15, Tryd.ntmps15
  go_wp2_with fail
  go_loopw [3] (fun i wr => ∃ (k : Nat), k ≤ n ∧ i = .int .i64 k ∧ Hid (tameL (ls.take k) = true) ∧ Below w.heap.size w wr) (fun i _ => n - (intOf i).toNat)
  case atStart => exact ⟨0, Nat.zero_le _, rfl, (by simp [tameL] : tameL (ls.take 0) = true), Below.refl _ _⟩
  case round =>
    obtain ⟨k, hk, rfl, ht, hb⟩ := hrel
    by_cases hlt : k < n
    · obtain ⟨b, o, rfl, hcp⟩ := HCP.out (by omega)
      obtain ⟨⟨kk, nn, aa, pl, ks⟩, hpk⟩ : ∃ p, ls[k]? = some p := ⟨_, List.getElem?_eq_getElem (by have := HP.out; omega)⟩
      obtain ⟨x, x', c1, c2, c3, c4, c5, hx⟩ := (hcp.below hb).get hpk
      rw [RT_iff] at hx
      simp only [Tm.kind, Tm.num, Tm.atN] at c1 c2 c3
      have hlt' : (k : Int) < (n : Int) := by omega
      have hk0 : (0 : Int) ≤ (k : Int) := by omega
      have hsz := size_at hpk
      simp only [size] at hsz
      have hcall := HS (sizeL ks) (by omega) ks x' wr (Nat.le_refl _) hx.2
      have HTK := Lib.hid (tameL_take hpk)
      have HTF := Lib.hid (tameL_false hpk)
      have HT : Hid (tame (.node kk nn aa pl ks) = !(kk == 1 && (decide (nn < 0) || decide (1000 < nn)) || !tameL ks)) := by simp only [Hid, tame]
      clear hcp HCP hx hpk HS hsz
      by_cases hbad : kk = 1 ∧ (nn < 0 ∨ 1000 < nn)
      · have HF : Hid (tameL ls = false) := HTF.out (by rw [HT.out]; simp only [Bool.not_eq_false', Bool.or_eq_true, Bool.and_eq_true, beq_iff_eq, decide_eq_true_eq]; exact .inl hbad)
        obtain ⟨rfl, hbad⟩ := hbad
        clear hcall HTK HTF HT
        rcases hbad with hbad | hbad
        · go_wp2_with fail
          go_ret
          exact ⟨ret_bool HF.out.symm, hb⟩
        · have hnb : ¬ nn < 0 := by omega
          go_wp2_with fail
          go_ret
          exact ⟨ret_bool HF.out.symm, hb⟩
      · have HG : Hid (tame (.node kk nn aa pl ks) = tameL ks) := by
          have : (kk == 1 && (decide (nn < 0) || decide (1000 < nn))) = false := by
            cases h : (kk == 1 && (decide (nn < 0) || decide (1000 < nn)))
            · rfl
            · simp only [Bool.and_eq_true, Bool.or_eq_true, beq_iff_eq, decide_eq_true_eq] at h; exact absurd h hbad
          rw [Hid, HT.out, this]; simp
        clear HT
        generalize tameL ks = r at *
        have hparts : (kk == 1) = false ∨ (kk = 1 ∧ ¬ nn < 0 ∧ ¬ 1000 < nn) := by
          by_cases h : kk = 1
          · exact .inr ⟨h, by omega, by omega⟩
          · exact .inl (by simpa using h)
        clear hbad
        rcases hparts with h1 | ⟨rfl, h1, h2⟩
        all_goals
          go_wp2_with fail
          refine hcall.mono ?_
          rintro e w1 ⟨rfl, hb1⟩
          have HB := hb.trans (hb1.mono hb.size)
          clear hb1 hcall
          cases r with
          | true =>
            go_wp2_with fail
            go_roundw
            case rel => exact ⟨k + 1, by omega, by go_num, (by rw [HTK.out, ht.out, HG.out]; rfl : tameL (ls.take (k + 1)) = true), HB⟩
            case measure => simp [intOf]; omega
          | false =>
            have HF := Lib.hid (HTF.out HG.out)
            go_wp2_with fail
            go_ret
            exact ⟨ret_bool HF.out.symm, HB⟩
    · obtain rfl : k = n := by omega
      have hd : tameL ls = true := by have := ht.out; rwa [List.take_of_length_le (by have := HP.out; omega)] at this
      have HD := Lib.hid hd; clear hd HCP HS
      go_wp2_with fail
      go_ret
      exact ⟨ret_bool HD.out.symm, hb⟩
theorem tame_all : ∀ N M, M ≤ N → TameAt M
  | 0, M, h => tame_of fun m hm => absurd hm (by omega)
  | N + 1, M, h => tame_of fun m hm => tame_all N m (by omega)
theorem tame_any (ts : List Tm) (v : Value) (w : World) (h : RKv w ts v) : Calls Tryd.prog 15 #[v] w fun e w' => e = .returned (.bool (tameL ts)) ∧ Below w.heap.size w w' :=
  tame_all _ _ (Nat.le_refl _) ts v w (Nat.le_refl _) h

end Go.Proofs.YtgegaipkfpdocaaDoor
