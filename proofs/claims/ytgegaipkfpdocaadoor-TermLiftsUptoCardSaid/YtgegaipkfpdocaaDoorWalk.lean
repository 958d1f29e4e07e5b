/-
  THE WALK OF (term.walk).term, for whatever turn.
-/
import Derived.Test.YtgegaipkfpdocaaDoorTermC
import Derived.Deep.AppendLies
namespace Go.Proofs.YtgegaipkfpdocaaDoor
open Go.RowKit
set_option linter.unusedSimpArgs false
set_option linter.unusedVariables false

/-- What becomes of a node: it is done, or it has a new number and new levels. -/
abbrev Step := Int → Tm → Tm ⊕ (Int × List Lv)
mutual
def mapT (s : Step) (d : Int) : Tm → Tm
  | .node k m a ls ks => match s d (.node k m a ls ks) with
    | .inl u => u
    | .inr (m', ls') => .node k m' a ls' (mapL s d k 0 ks)
def mapL (s : Step) (d k : Int) : Nat → List Tm → List Tm
  | _, [] => []
  | i, t :: ts => mapT s (inner k i d) t :: mapL s d k (i + 1) ts
end
theorem mapL_length (s : Step) (d k : Int) : ∀ (i : Nat) (ts : List Tm), (mapL s d k i ts).length = ts.length
  | _, [] => by simp [mapL]
  | i, t :: ts => by simp [mapL, mapL_length s d k (i + 1) ts]
theorem mapL_snoc (s : Step) (d k : Int) (t : Tm) : ∀ (i : Nat) (ts : List Tm), mapL s d k i (ts ++ [t]) = mapL s d k i ts ++ [mapT s (inner k (i + ts.length : Nat) d) t]
  | i, [] => by simp [mapL]
  | i, u :: ts => by
    have e : i + 1 + ts.length = i + (ts.length + 1) := by omega
    simp only [List.cons_append, mapL, mapL_snoc s d k t (i + 1) ts, List.length_cons, e]

/-- A term in new memory. -/
def MadeT (u : Tm) (w : World) (e : Ending) (w' : World) : Prop :=
  ∃ vl vk bs, e = .returned (.agg #[.int .i64 u.kind, .int .i64 u.num, .int .i64 u.atN, vl, vk]) ∧ OT w' w.heap.size bs u vl vk ∧ bs.Nodup ∧ Below w.heap.size w w'
/-- What a turn leaves. -/
def TurnedBy (k a : Int) (vk : Value) (r : Tm ⊕ (Int × List Lv)) (w : World) (e : Ending) (w' : World) : Prop :=
  match r with
  | .inl u => ∃ vl vk' bs, e = .returned (.tuple #[.agg #[.int .i64 u.kind, .int .i64 u.num, .int .i64 u.atN, vl, vk'], .bool true]) ∧ OT w' w.heap.size bs u vl vk' ∧ bs.Nodup ∧ Below w.heap.size w w'
  | .inr (m, ls) => Turned k m a ls vk w e w'

/-- What is asked of a turn. -/
def TurnOk (w0 : World) (g : FuncId) (lb : Array Value) (s : Step) (G : Int → Tm → Prop) : Prop :=
  ∀ (d k m a : Int) (ls : List Lv) (ks : List Tm) (vl : Value) (A3 : Option Addr) (n3 c3 : Nat) (W : World), Below w0.heap.size w0 W → RT W (.node k m a ls ks) vl (.slice A3 n3 c3) → G d (.node k m a ls ks) →
    Calls Tryd.prog g (#[.agg #[.int .i64 d, .func (.func g) #[] lb], .agg #[.int .i64 k, .int .i64 m, .int .i64 a, vl, .slice A3 n3 c3]] ++ lb) W (TurnedBy k a (.slice A3 n3 c3) (s d (.node k m a ls ks)) W)

def WalkAt (w0 : World) (g : FuncId) (lb : Array Value) (s : Step) (G : Int → Tm → Prop) (M : Nat) : Prop :=
  ∀ (d : Int) (t : Tm) (vl vk : Value) (W : World), size t ≤ M → Below w0.heap.size w0 W → RT W t vl vk → G d t →
    Calls Tryd.prog 32 #[.agg #[.int .i64 d, .func (.func g) #[] lb], .agg #[.int .i64 t.kind, .int .i64 t.num, .int .i64 t.atN, vl, vk]] W (MadeT (mapT s d t) W)

/-- A round of the walk: one kid more. -/
theorem walk_step {w1 w2 w3 : World} {lo j : Nat} {v v3 : Value} {bs bs' : List Nat} {us : List Tm} {u : Tm} {xs : List Value} {vl vk : Value}
    (hrow : w1.ownsRow lo 27 5 v j xs) (hus : OK w1 lo bs us xs) (hnd : (v.ownBlock.toList ++ bs).Nodup) (hlo : lo ≤ w1.heap.size) (hb : Below w1.heap.size w1 w2) (hu : OT w2 w1.heap.size bs' u vl vk) (hnd' : bs'.Nodup)
    (hg : w2.grownBy w3 v.ownBlock) (hat : v3.ownBlock = v.ownBlock ∨ ∃ b, v3.ownBlock = some b ∧ w2.heap.size ≤ b) :
    OK w3 lo (bs ++ bs') (us ++ [u]) (xs ++ [.int .i64 u.kind, .int .i64 u.num, .int .i64 u.atN, vl, vk]) ∧ (v3.ownBlock.toList ++ (bs ++ bs')).Nodup := by
  have hbs : ∀ q ∈ bs, q < w1.heap.size := fun q hq => (hus.inn q hq).2
  have hbs' : ∀ q ∈ bs', w1.heap.size ≤ q ∧ q < w2.heap.size := fun q hq => hu.inn q hq
  have hv : ∀ q ∈ v.ownBlock.toList, q < w1.heap.size := fun q hq => (own_in hrow q hq).2
  rw [List.nodup_append] at hnd
  obtain ⟨hn1, hn2, hn3⟩ := hnd
  have h1 : OK w3 lo bs us xs := (hus.below hb).move fun q hq => hg.block q (by have := hbs q hq; have := hb.size; omega) (fun he => hn3 q (by rw [← he]; simp) q hq rfl)
  have h2 : OT w3 lo bs' u vl vk := (OT.lower hlo hu).move fun q hq => hg.block q (hbs' q hq).2 (fun he => by have := hv q (by rw [← he]; simp); have := (hbs' q hq).1; omega)
  refine ⟨h1.snoc h2, ?_⟩
  rw [List.nodup_append]
  refine ⟨by cases v3.ownBlock <;> simp, ?_, fun x hx y hy => ?_⟩
  · rw [List.nodup_append]
    exact ⟨hn2, hnd', fun x hx y hy => by have := hbs x hx; have := (hbs' y hy).1; omega⟩
  · rcases hat with hat | ⟨b, hat, hle⟩
    · rw [hat] at hx
      rcases List.mem_append.1 hy with hy | hy
      · exact hn3 x hx y hy
      · have := hv x hx; have := (hbs' y hy).1; omega
    · rw [hat] at hx
      simp at hx
      subst hx
      rcases List.mem_append.1 hy with hy | hy
      · have := hbs y hy; have := hb.size; omega
      · have := (hbs' y hy).2; omega

theorem cell_other {w : World} {b o : Nat} {a : Addr} {v u : Value} (h : w.cell? ⟨b, o, none⟩ = some v) (hne : b ≠ a.block) : (w.setCell a u).cell? ⟨b, o, none⟩ = some v :=
  (World.cell?_of_block (a := ⟨b, o, none⟩) (Below.heap_setCell w a u b hne)).trans h

set_option maxRecDepth 100000 in
set_option maxHeartbeats 4000000 in
theorem walk_of {w0 : World} {g : FuncId} {lb : Array Value} {s : Step} {G : Int → Tm → Prop} {M : Nat} (hK : Kinds w0) (eg : ∀ args w, (callFunc g args).run Tryd.prog w = .ok (.enter g args) w) (hT : TurnOk w0 g lb s G)
    (hG : ∀ d k m a ls ks i t, G d (.node k m a ls ks) → ks[i]? = some t → G (inner k i d) t) (hD : ∀ d t, G d t → 0 ≤ d ∧ d ≤ 4611686018427387904) (HS : WalkAt w0 g lb s G M) : WalkAt w0 g lb s G (M + 1) := by
  rintro d ⟨k, m, a, ls, ks⟩ vl vk W hM hb0 hr hg
  obtain ⟨A2, n2, c2, A3, n3, c3, rfl, rfl⟩ := hr.forms
  obtain ⟨hd0, hd1⟩ := hD _ _ hg
  have hturn := fun W' (hb : Below W.heap.size W W') => hT d k m a ls ks _ A3 n3 c3 W' (hb0.trans (hb.mono hb0.size)) (hr.below hb) hg
  simp only [Tm.kind, Tm.num, Tm.atN]
  have hmap : mapT s d (.node k m a ls ks) = match s d (.node k m a ls ks) with | .inl u => u | .inr (m', ls') => .node k m' a ls' (mapL s d k 0 ks) := by simp only [mapT]
  cases hs : s d (.node k m a ls ks) with
  | inl u =>
    rw [hs] at hmap
    simp only at hmap
    rw [hmap]
    simp only [hs] at hturn
    clear hT hG hD HS hmap hs hg hr hK
    go_enter Tryd.func32, Tryd.ntmps32
    go_wp2_with fail
    refine (hturn _ ?_).mono ?_
    · exact (((Below.refl _ _).alloc (Nat.le_refl _) _).alloc (by simp) _).alloc (by simp; omega) _
    rintro e w1 ⟨vl, vk', bs, rfl, ho, hnd, hb1⟩
    obtain ⟨A5, n5, c5, A6, n6, c6, rfl, rfl⟩ := ho.forms
    have b1 : Below W.heap.size W w1 := ((((Below.refl _ _).alloc (Nat.le_refl _) _).alloc (by simp) _).alloc (by simp; omega) _).trans (hb1.mono (by simp; omega))
    have B2 : Box w1 (W.heap.size + 2) [.int .i64 0, .int .i64 0, .int .i64 0, .slice none 0 0, .slice none 0 0] := Box.below (Box.new' ((W.alloc _).alloc _) [_, _, _, _, _] _ (by simp)) hb1
    have hlo : ∀ q ∈ bs, W.heap.size + 2 < q ∧ q < w1.heap.size := fun q hq => by have := ho.inn q hq; simp at this; omega
    have hwl : W.heap.size + 2 < w1.heap.size := B2.lt
    have HO := Lib.hid ho
    have HN := Lib.hid hnd
    clear ho hnd hb1 hturn
    generalize hw2 : w1.alloc (.cells #[.int .i64 u.kind, .int .i64 u.num, .int .i64 u.atN, .slice A5 n5 c5, .slice A6 n6 c6] 27) = w2
    have O2 : Box w2 w1.heap.size [.int .i64 u.kind, .int .i64 u.num, .int .i64 u.atN, .slice A5 n5 c5, .slice A6 n6 c6] := by rw [← hw2]; exact Box.new w1 [_, _, _, _, _] _
    have b2 : Below w1.heap.size w1 w2 := by rw [← hw2]; exact (Below.refl _ _).alloc (Nat.le_refl _) _
    have B3 := B2.below b2
    have HW2 := Lib.hid hw2
    clear B2
    obtain ⟨o0, o1, o2, o3, o4⟩ := O2.five
    obtain ⟨s0, s1, s2, s3, s4⟩ := B3.five
    obtain ⟨r0, r1, r2, r3, r4⟩ := B3.thaw
    go_wp2_with fail
    obtain ⟨wf, ewf, F, hmv, hbf⟩ := put5 B3 (.int .i64 u.kind) (.int .i64 u.num) (.int .i64 u.atN) (.slice A5 n5 c5) (.slice A6 n6 c6)
    rw [ewf]
    obtain ⟨z0, z1, z2, z3, z4⟩ := F.five
    refine bodyPost_ret (v := .agg #[.int .i64 u.kind, .int .i64 u.num, .int .i64 u.atN, .slice A5 n5 c5, .slice A6 n6 c6]) (by simp [results, Tryd.results32, go_sem, z0, z1, z2, z3, z4]) rfl ?_
    exact ⟨_, _, bs, rfl, OT.lower (by simp; omega) (HO.out.move fun q hq => (hmv q (by have := hlo q hq; omega)).trans (b2.block q (hlo q hq).2)), HN.out, (b1.trans (b2.mono b1.size)).trans (hbf.mono (by omega))⟩
  | inr p =>
    obtain ⟨m', ls'⟩ := p
    rw [hs] at hmap
    simp only at hmap
    rw [hmap]
    simp only [hs] at hturn
    go_enter Tryd.func32, Tryd.ntmps32
    go_wp2_with fail
    refine (hturn _ ?_).mono ?_
    · exact (((Below.refl _ _).alloc (Nat.le_refl _) _).alloc (by simp) _).alloc (by simp; omega) _
    rintro e w1 ⟨vl, bl, rfl, ho, hnl, hb1⟩
    obtain ⟨A5, n5, c5, rfl⟩ : ∃ A n c, vl = .slice A n c := by obtain ⟨A, c, e, _⟩ := ho.reads; exact ⟨A, _, c, e⟩
    have b1 : Below W.heap.size W w1 := ((((Below.refl _ _).alloc (Nat.le_refl _) _).alloc (by simp) _).alloc (by simp; omega) _).trans (hb1.mono (by simp; omega))
    have B0 : Box w1 W.heap.size [.int .i64 d, .func (.func g) #[] lb] := Box.below ((Box.alloc (Box.new W [_, _] _) _).alloc _) hb1
    have B1 : Box w1 (W.heap.size + 1) [.int .i64 k, .int .i64 m, .int .i64 a, .slice A2 n2 c2, .slice A3 n3 c3] := Box.below ((Box.new' (W.alloc _) [_, _, _, _, _] _ (by simp)).alloc _) hb1
    have B2 : Box w1 (W.heap.size + 2) [.int .i64 0, .int .i64 0, .int .i64 0, .slice none 0 0, .slice none 0 0] := Box.below (Box.new' ((W.alloc _).alloc _) [_, _, _, _, _] _ (by simp)) hb1
    have hbl : ∀ q ∈ bl, W.heap.size + 2 < q ∧ q < w1.heap.size := fun q hq => by have := ho.inn q hq; simp at this; omega
    have ho' : OLv w1 W.heap.size bl ls' (.slice A5 n5 c5) := ho.lower (by simp; omega)
    have hwl : W.heap.size + 2 < w1.heap.size := B2.lt
    have HNL := Lib.hid hnl
    have HBL := Lib.hid hbl
    rw [RT_iff] at hr
    obtain ⟨A, c, ek, hkc, hkm, hcp⟩ := RKv.below b1 hr.2
    injection ek with e1 e2 e3
    subst e1 e2 e3
    have hks : sizeL ks ≤ M := by simp only [size] at hM; omega
    have hgk := fun i t h => hG d k m a ls ks i t hg h
    have hK1 : Kinds w1 := (hK.below hb0).below b1
    clear ho hnl hb1 hturn hbl hr hT hG hD hmap hs hg hM
    have HC := Lib.hid hcp
    have HKM := Lib.hid hkm
    clear hcp hkm
    generalize hnn : ks.length = n at *
    have HNN := Lib.hid hnn; clear hnn
    generalize hw2 : w1.alloc (.cells #[.int .i64 k, .int .i64 m', .int .i64 a, .slice A5 n5 c5, .slice A3 n c3] 27) = w2
    have O2 : Box w2 w1.heap.size [.int .i64 k, .int .i64 m', .int .i64 a, .slice A5 n5 c5, .slice A3 n c3] := by rw [← hw2]; exact Box.new w1 [_, _, _, _, _] _
    have b2 : Below w1.heap.size w1 w2 := by rw [← hw2]; exact (Below.refl _ _).alloc (Nat.le_refl _) _
    have hs2 : w2.heap.size = w1.heap.size + 1 := by rw [← hw2]; simp
    generalize hw3 : w2.setCell ⟨w1.heap.size, 4, none⟩ (.slice none 0 0) = w3
    have O3 : Box w3 w1.heap.size [.int .i64 k, .int .i64 m', .int .i64 a, .slice A5 n5 c5, .slice none 0 0] := by rw [← hw3]; exact O2.set 4 _
    have b3 : Below w1.heap.size w1 w3 := by rw [← hw3]; exact b2.setCell (Nat.le_refl _) _
    have hs3 : w1.heap.size + 1 ≤ w3.heap.size := by rw [← hw3]; simp [hs2]
    have C0 := Lib.hid B0
    have C1 := Lib.hid B1
    have C2 := Lib.hid B2
    have HO := Lib.hid ho'
    have HK1 := Lib.hid hK1
    obtain ⟨o0, o1, o2, o3, o4⟩ := O2.five
    have f4 := O2.frozen 4
    clear B0 B1 B2 hK1 ho' O2
    have HO3 := Lib.hid O3
    have HW2 := Lib.hid hw2
    have HW3 := Lib.hid hw3
    clear O3
    go_wp2_with fail
    clear o0 o1 o2 o3 o4 f4 hw2 hw3 HW2 HW3 b2 hs2 hK eg
    go_loopw [8, 9, 25] (fun _ _ i wr => ∃ (j : Nat) (bs : List Nat) (xs : List Value) (vr : Value), j ≤ n ∧ i = .int .i64 j ∧ Hid (Box wr w1.heap.size [.int .i64 k, .int .i64 m', .int .i64 a, .slice A5 n5 c5, vr]) ∧
      Hid (wr.ownsRow (w1.heap.size + 1) 27 5 vr j xs) ∧ Hid (OK wr (w1.heap.size + 1) bs (mapL s d k 0 (ks.take j)) xs) ∧ Hid ((vr.ownBlock.toList ++ bs).Nodup) ∧ w1.heap.size + 1 ≤ wr.heap.size ∧ Below w1.heap.size w1 wr) (fun _ _ i _ => n - (intOf i).toNat)
    case atStart => exact ⟨0, [], [], _, Nat.zero_le _, rfl, HO3, World.ownsRow_nil _ _ _ _, (by simp [mapL, OK] : OK w3 (w1.heap.size + 1) [] (mapL s d k 0 (ks.take 0)) []), List.nodup_nil, hs3, b3⟩
    case round =>
      obtain ⟨j, bs, xs, vr, hj, rfl, h1, h2, h3, h4, h5, hb⟩ := hrel
      clear b3 hs3 HO3
      obtain ⟨A8, c8, rfl, -, -, -⟩ := own_form h2.out
      by_cases hlt : j < n
      · obtain ⟨b, o, rfl, hcp⟩ := HC.out (by omega)
        obtain ⟨t, ht⟩ : ∃ t, ks[j]? = some t := ⟨_, List.getElem?_eq_getElem (by have := HNN.out; omega)⟩
        obtain ⟨kl, kv, x1, x2, x3, x4, x5, hx⟩ := (RK.below hb hcp).get ht
        obtain ⟨A6, n6, c6, A7, n7, c7, rfl, rfl⟩ := hx.forms
        have hlt' : (j : Int) < (n : Int) := by omega
        have hj0 : (0 : Int) ≤ (j : Int) := by omega
        generalize hw4 : wr.alloc (.cells #[.int .i64 t.kind, .int .i64 t.num, .int .i64 t.atN, .slice A6 n6 c6, .slice A7 n7 c7] 27) = w4
        have b4 : Below wr.heap.size wr w4 := by rw [← hw4]; exact (Below.refl _ _).alloc (Nat.le_refl _) _
        have hs4 : w4.heap.size = wr.heap.size + 1 := by rw [← hw4]; simp
        have B4 : Box w4 wr.heap.size [.int .i64 t.kind, .int .i64 t.num, .int .i64 t.atN, .slice A6 n6 c6, .slice A7 n7 c7] := by rw [← hw4]; exact Box.new wr [_, _, _, _, _] _
        have hb14 : Below w1.heap.size w1 w4 := hb.trans (b4.mono hb.size)
        have hbel := fun (W' : World) (h : Below w4.heap.size w4 W') => below_any d (.func (.func g) #[] lb) k j W' (HK1.out.below (hb14.trans (h.mono hb14.size))) hd0 hd1 g lb rfl
        have hterm := fun (W' : World) (h : Below w4.heap.size w4 W') => HS (inner k j d) t _ _ W' (Nat.le_trans (size_at ht) hks) (hb0.trans ((b1.trans ((hb14.trans (h.mono hb14.size)).mono b1.size)).mono hb0.size)) ((hx.below b4).below h) (hgk j t ht)
        have hin := own_in h2.out
        have hq : ∀ W' : World, (∀ q, q < w4.heap.size → some q ≠ (Value.slice A8 j c8).ownBlock → W'.heap[q]? = w4.heap[q]?) →
            (W'.cell? ⟨W.heap.size, 0, none⟩ = some (.int .i64 d) ∧ W'.cell? ⟨W.heap.size, 1, none⟩ = some (.func (.func g) #[] lb) ∧ W'.cell? ⟨W.heap.size + 1, 0, none⟩ = some (.int .i64 k) ∧
            W'.cell? ⟨wr.heap.size, 0, none⟩ = some (.int .i64 t.kind) ∧ W'.cell? ⟨wr.heap.size, 1, none⟩ = some (.int .i64 t.num) ∧ W'.cell? ⟨wr.heap.size, 2, none⟩ = some (.int .i64 t.atN) ∧
            W'.cell? ⟨wr.heap.size, 3, none⟩ = some (.slice A6 n6 c6) ∧ W'.cell? ⟨wr.heap.size, 4, none⟩ = some (.slice A7 n7 c7)) ∧ W'.cell? ⟨w1.heap.size, 4, none⟩ = some (.slice A8 j c8) ∧ W'.frozen? ⟨w1.heap.size, 4, none⟩ = false := by
          intro W' h
          have hne : ∀ q, q ≤ w1.heap.size ∨ wr.heap.size ≤ q → some q ≠ (Value.slice A8 j c8).ownBlock := fun q hq e => by
            have := hin q (by rw [← e]; simp)
            omega
          have D0 : Box W' W.heap.size _ := ((C0.out.below hb14)).move (h _ (by have := hb14.size; omega) (hne _ (by omega)))
          have D1 : Box W' (W.heap.size + 1) _ := ((C1.out.below hb14)).move (h _ (by have := hb14.size; omega) (hne _ (by omega)))
          have D4 : Box W' wr.heap.size _ := B4.move (h _ (by omega) (hne _ (by omega)))
          have DO : Box W' w1.heap.size _ := (h1.out.below b4).move (h _ (by omega) (hne _ (by omega)))
          exact ⟨⟨D0.cell rfl, D0.cell rfl, D1.cell rfl, D4.cell rfl, D4.cell rfl, D4.cell rfl, D4.cell rfl, D4.cell rfl⟩, DO.cell rfl, DO.frozen 4⟩
        have HQ := Lib.hid hq
        have HX := Lib.hid hx
        have HT := Lib.hid ht
        have HIN := Lib.hid hin
        have HB4 := Lib.hid b4
        have HB14 := Lib.hid hb14
        have HW4 := Lib.hid hw4
        clear hq hx ht hin B4 hcp b4 hb14
        obtain ⟨i0, hi, hz0, hz1, hz2⟩ := info_parts info_term
        go_wp2_with fail
        have hrow6 := fun (W' : World) (h : Below w4.heap.size w4 W') => own_below (own_below h2.out HB4.out) h
        have hjm : j + 1 ≤ maxLen := by have := HKM.out; unfold maxLen; omega
        have hjb : (j + 1) * 72 ≤ 140737488355328 := by have := HKM.out; omega
        have hv0 : W.heap.size ≠ w1.heap.size := by omega
        have hv1 : W.heap.size + 1 ≠ w1.heap.size := by omega
        have hv2 : wr.heap.size ≠ w1.heap.size := by omega
        generalize hu : mapT s (inner k j d) t = u at hterm
        have HU := Lib.hid hu
        clear hu
        have hq4 := HQ.out w4 (fun _ _ _ => rfl)
        obtain ⟨⟨p1, p2, p3, p4, p5, p6, p7, p8⟩, p9, p10⟩ := hq4
        have d9 : w4.drew.cell? ⟨w1.heap.size, 4, none⟩ = some (.slice A8 j c8) := p9
        refine wp_region_held_drew (S := (fun w' => w'.cell? ⟨W.heap.size, 0, none⟩ = some (.int .i64 d) ∧ w'.cell? ⟨W.heap.size, 1, none⟩ = some (.func (.func g) #[] lb) ∧ w'.cell? ⟨W.heap.size + 1, 0, none⟩ = some (.int .i64 k) ∧ w'.cell? ⟨wr.heap.size, 0, none⟩ = some (.int .i64 t.kind) ∧ w'.cell? ⟨wr.heap.size, 1, none⟩ = some (.int .i64 t.num) ∧ w'.cell? ⟨wr.heap.size, 2, none⟩ = some (.int .i64 t.atN) ∧ w'.cell? ⟨wr.heap.size, 3, none⟩ = some (.slice A6 n6 c6) ∧ w'.cell? ⟨wr.heap.size, 4, none⟩ = some (.slice A7 n7 c7))) (by kernel_rfl) ⟨p1, p2, p3, p4, p5, p6, p7, p8⟩ (fun hHeld => ?_)
        refine wpAnyH_take (i := 0) (v := ?v0n1) rfl (by kernel_rfl) (by kernel_rfl) (by kernel_rfl) (fun _ _ _ h => h) (Or.inl ⟨by rfl, ?hy0n1⟩) (by assumption) ?rest0n1
        case hy0n1 => intro w hSw; (try dsimp only at hSw); go_simp; try with_reducible rfl
        (try simp only [List.getElem_toArray, List.getElem_cons_succ, List.getElem_cons_zero, Act.put, List.setIfInBounds_toArray, List.set_cons_zero, List.set_cons_succ])
        refine wpAnyH_take (i := 2) (v := ?v2n2) rfl (by kernel_rfl) (by kernel_rfl) (by kernel_rfl) (fun _ _ _ h => h) (Or.inl ⟨by rfl, ?hy2n2⟩) (by assumption) ?rest2n2
        case hy2n2 => intro w hSw; (try dsimp only at hSw); go_simp; try with_reducible rfl
        (try simp only [List.getElem_toArray, List.getElem_cons_succ, List.getElem_cons_zero, Act.put, List.setIfInBounds_toArray, List.set_cons_zero, List.set_cons_succ])
        refine wpAnyH_take (i := 3) (v := ?v3n3) rfl (by kernel_rfl) (by kernel_rfl) (by kernel_rfl) (fun _ _ _ h => h) (Or.inl ⟨by rfl, ?hy3n3⟩) (by assumption) ?rest3n3
        case hy3n3 => intro w hSw; (try dsimp only at hSw); go_simp; try with_reducible rfl
        (try simp only [List.getElem_toArray, List.getElem_cons_succ, List.getElem_cons_zero, Act.put, List.setIfInBounds_toArray, List.set_cons_zero, List.set_cons_succ])
        refine wpAnyH_take (i := 4) (v := ?v4n4) rfl (by kernel_rfl) (by kernel_rfl) (by kernel_rfl) (fun _ _ _ h => h) (Or.inl ⟨by rfl, ?hy4n4⟩) (by assumption) ?rest4n4
        case hy4n4 => intro w hSw; (try dsimp only at hSw); go_simp; try with_reducible rfl
        (try simp only [List.getElem_toArray, List.getElem_cons_succ, List.getElem_cons_zero, Act.put, List.setIfInBounds_toArray, List.set_cons_zero, List.set_cons_succ])
        refine wpAnyH_take (i := 5) (v := ?v5n5) rfl (by kernel_rfl) (by kernel_rfl) (by kernel_rfl) (fun _ _ _ h => h) (Or.inl ⟨by rfl, ?hy5n5⟩) (by assumption) ?rest5n5
        case hy5n5 => intro w hSw; (try dsimp only at hSw); go_simp; try with_reducible rfl
        (try simp only [List.getElem_toArray, List.getElem_cons_succ, List.getElem_cons_zero, Act.put, List.setIfInBounds_toArray, List.set_cons_zero, List.set_cons_succ])
        refine wpAnyH_take (i := 7) (v := ?v7n6) rfl (by kernel_rfl) (by kernel_rfl) (by kernel_rfl) (fun _ _ _ h => h) (Or.inl ⟨by rfl, ?hy7n6⟩) (by assumption) ?rest7n6
        case hy7n6 => intro w hSw; (try dsimp only at hSw); go_simp; try with_reducible rfl
        (try simp only [List.getElem_toArray, List.getElem_cons_succ, List.getElem_cons_zero, Act.put, List.setIfInBounds_toArray, List.set_cons_zero, List.set_cons_succ])
        refine wpAnyH_ready (rs := [1, 6]) (by kernel_rfl) (by simp) ?_
        refine (AllReadyH.cons rfl (fun K hK => ?_) (AllReadyH.cons rfl (fun K hK => ?_) AllReadyH.nil))
        · go_simp
          refine hK.out _ _ ⟨p1, p2, p3, p4, p5, p6, p7, p8⟩ (fun hHeld => ?_)
          clear hK K
          (try simp only [List.getElem_toArray, List.getElem_cons_succ, List.getElem_cons_zero, Act.put, List.setIfInBounds_toArray, List.set_cons_zero, List.set_cons_succ])
          refine wpAnyH_ready (rs := [6]) (by kernel_rfl) (by simp) ?_
          refine (AllReadyH.cons rfl (fun K hK => ?_) AllReadyH.nil)
          · go_simp
            refine (hbel _ ?_).mono ?_
            exact (Below.refl _ _).drew
            rintro e w5 ⟨rfl, hb5⟩
            have hb5' : Below w4.heap.size w4 w5 := (Below.refl _ _).drew.trans hb5
            obtain ⟨hqS, q9, q10⟩ := HQ.out w5 (fun q h _ => hb5'.block q h)
            refine hK.out _ _ hqS (fun hHeld => ?_)
            clear hK K
            (try simp only [List.getElem_toArray, List.getElem_cons_succ, List.getElem_cons_zero, Act.put, List.setIfInBounds_toArray, List.set_cons_zero, List.set_cons_succ])
            refine wpAnyH_ready (rs := [8]) (by kernel_rfl) (by simp) ?_
            refine (AllReadyH.cons rfl (fun K hK => ?_) AllReadyH.nil)
            · go_simp
              refine (hterm _ ?_).mono ?_
              exact hb5'
              rintro e w6 ⟨ul, uk, bs6, rfl, ho6, hn6, hb6⟩
              obtain ⟨A9, n9, c9, A10, n10, c10, rfl, rfl⟩ := ho6.forms
              have hb6' : Below w4.heap.size w4 w6 := hb5'.trans (hb6.mono hb5'.size)
              obtain ⟨hqS, r9, r10⟩ := HQ.out w6 (fun q h _ => hb6'.block q h)
              have r11 : ∀ o, (w6.alloc o).cell? ⟨w1.heap.size, 4, none⟩ = some (.slice A8 j c8) := fun o => (HQ.out _ (fun q h _ => (hb6'.alloc hb6'.size o).block q h)).2.1
              refine hK.out _ _ hqS (fun hHeld => ?_)
              clear hK K
              (try simp only [List.getElem_toArray, List.getElem_cons_succ, List.getElem_cons_zero, Act.put, List.setIfInBounds_toArray, List.set_cons_zero, List.set_cons_succ])
              refine wpAnyH_ready (rs := [9]) (by kernel_rfl) (by simp) ?_
              refine (AllReadyH.cons rfl (fun K hK => ?_) AllReadyH.nil)
              · go_simp
                refine hK.out _ _ (HQ.out _ (fun q h _ => (hb6'.alloc hb6'.size _).block q h)).1 (fun hHeld => ?_)
                clear hK K
                (try simp only [List.getElem_toArray, List.getElem_cons_succ, List.getElem_cons_zero, Act.put, List.setIfInBounds_toArray, List.set_cons_zero, List.set_cons_succ])
                refine wpAnyH_ready (rs := [10]) (by kernel_rfl) (by simp) ?_
                refine (AllReadyH.cons rfl (fun K hK => ?_) AllReadyH.nil)
                · refine step_append_lies _ (by rfl) _ _ _ (by rfl) (w1.heap.size + 1) 27 i0 _ 5 72 Tryd.underlying25 hi hz0 hz1 hz2 rfl (by omega) (.slice A8 j c8) j xs (by rfl) (own_below (hrow6 w6 hb6') ((Below.refl _ _).alloc (Nat.le_refl _) _))
                    ⟨w6.heap.size, 0, none⟩ 1 1 [.int .i64 u.kind, .int .i64 u.num, .int .i64 u.atN, .slice A9 n9 c9, .slice A10 n10 c10] (by rfl) (by rfl)
                    (World.news_of_block (cs := #[.int .i64 u.kind, .int .i64 u.num, .int .i64 u.atN, .slice A9 n9 c9, .slice A10 n10 c10]) (t := 27) (fr := (0, 0)) (heap_alloc_new w6 _)) (by simp [Value.oneCell'])
                    (by omega) hjm hjb (by have := hb6'.size; simp; omega) (w6.heap.size + 1) (by simp) ?_
                  intro g7 cap7 w7 hrow7 hgrow hat hlt7
                  obtain ⟨hqS, t9, t10⟩ := HQ.out w7 (fun q h hne => (hgrow.block q (by have := hb6'.size; simp; omega) hne).trans ((hb6'.alloc hb6'.size _).block q h))
                  refine hK.out _ _ hqS (fun hHeld => ?_)
                  clear hK K
                  (try simp only [List.getElem_toArray, List.getElem_cons_succ, List.getElem_cons_zero, Act.put, List.setIfInBounds_toArray, List.set_cons_zero, List.set_cons_succ])
                  refine wpAnyH_take (i := 11) (v := ?v11n7) rfl (by kernel_rfl) (by kernel_rfl) (by kernel_rfl) (fun _ _ _ h => h) (Or.inl ⟨by rfl, ?hy11n7⟩) (by assumption) ?rest11n7
                  case hy11n7 => intro w hSw; (try dsimp only at hSw); go_simp; try with_reducible rfl
                  (try simp only [List.getElem_toArray, List.getElem_cons_succ, List.getElem_cons_zero, Act.put, List.setIfInBounds_toArray, List.set_cons_zero, List.set_cons_succ])
                  refine wpAnyH_ready (rs := [12]) (by kernel_rfl) (by simp) ?_
                  refine AllReadyH.cons rfl (fun K hK => ?_) AllReadyH.nil
                  go_simp
                  refine hK.out _ _ ⟨cell_other hqS.1 hv0, cell_other hqS.2.1 hv0, cell_other hqS.2.2.1 hv1, cell_other hqS.2.2.2.1 hv2, cell_other hqS.2.2.2.2.1 hv2, cell_other hqS.2.2.2.2.2.1 hv2, cell_other hqS.2.2.2.2.2.2.1 hv2, cell_other hqS.2.2.2.2.2.2.2 hv2⟩ (fun hHeld => ?_)
                  clear hK K
                  (try simp only [List.getElem_toArray, List.getElem_cons_succ, List.getElem_cons_zero, Act.put, List.setIfInBounds_toArray, List.set_cons_zero, List.set_cons_succ])
                  refine wpAnyH_done (by kernel_rfl) ?_ _
                  clear hHeld
                  have hg67 : w6.grownBy w7 (Value.slice A8 j c8).ownBlock := ⟨hgrow.os, hgrow.tape, hgrow.output, Nat.le_trans (by simp) hgrow.size, fun i hi hne => (hgrow.block i (by simp; omega) hne).trans (((Below.refl w6.heap.size w6).alloc (Nat.le_refl _) _).block i hi)⟩
                  have hat7 : (Value.slice (some ⟨g7, 0, none⟩) (j + 1) cap7).ownBlock = (Value.slice A8 j c8).ownBlock ∨ ∃ b, (Value.slice (some ⟨g7, 0, none⟩) (j + 1) cap7).ownBlock = some b ∧ w6.heap.size ≤ b := by
                    rcases hat with hat | hat
                    · exact .inl (by rw [hat]; rfl)
                    · exact .inr ⟨g7, rfl, by omega⟩
                  obtain ⟨e1, e2⟩ := walk_step (own_below (own_below h2.out HB4.out) hb5') (OK.below (OK.below h3.out HB4.out) hb5') h4.out (by have := hb5'.size; omega) hb6 ho6 hn6 hg67 hat7
                  have hB7 : Below w1.heap.size w1 w7 := ((HB14.out.trans (hb6'.mono HB14.out.size)).alloc (by have := hb6'.size; omega) _).grown hgrow (by have := hb6'.size; simp; omega) (fun q hq => by have := HIN.out q (by rw [hq]; simp); omega)
                  have hB8 : Below w1.heap.size w1 (w7.setCell ⟨w1.heap.size, 4, none⟩ (.slice (some ⟨g7, 0, none⟩) (j + 1) cap7)) := hB7.setCell (Nat.le_refl _) _
                  have hmv : ∀ q, w1.heap.size + 1 ≤ q → (w7.setCell ⟨w1.heap.size, 4, none⟩ (.slice (some ⟨g7, 0, none⟩) (j + 1) cap7)).heap[q]? = w7.heap[q]? := fun q hq => Below.heap_setCell _ _ _ _ (by show q ≠ w1.heap.size; omega)
                  have hO7 : Box w7 w1.heap.size [.int .i64 k, .int .i64 m', .int .i64 a, .slice A5 n5 c5, .slice A8 j c8] := h1.out.move ((hg67.block _ (by have := hb6'.size; omega) (fun e => by have := HIN.out w1.heap.size (by rw [← e]; simp); omega)).trans ((hb6'.block _ (by omega)).trans (HB4.out.block _ (by omega))))
                  have hO8 := hO7.set 4 (.slice (some ⟨g7, 0, none⟩) (j + 1) cap7)
                  have hs8 : w1.heap.size + 1 ≤ (w7.setCell ⟨w1.heap.size, 4, none⟩ (.slice (some ⟨g7, 0, none⟩) (j + 1) cap7)).heap.size := by have := hg67.size; have := hb6'.size; simp; omega
                  have hk8 : mapL s d k 0 (ks.take (j + 1)) = mapL s d k 0 (ks.take j) ++ [u] := by
                    have hl : (ks.take j).length = j := by rw [List.length_take]; have := HNN.out; omega
                    rw [List.take_add_one, HT.out, Option.toList_some, mapL_snoc, hl, Nat.zero_add, HU.out]
                  have E1 := Lib.hid (own_move hrow7 fun q hq => hmv q (own_in hrow7 q hq).1)
                  have E2 := Lib.hid (e1.move fun q hq => hmv q (e1.inn q hq).1)
                  rw [← hk8] at E2
                  have E3 := Lib.hid e2
                  have E4 := Lib.hid hO8
                  clear hqS t9 t10 hg67 hat7 hB7 hmv hO7 hO8 e1 e2 hat hk8
                  go_wp2_with fail
                  go_roundw
                  case rel => exact ⟨j + 1, bs ++ bs6, _, _, by omega, by go_num, E4, E1, E2, E3, hs8, hB8⟩
                  case measure => simp [intOf]; omega
        · go_simp
          refine (hbel _ ?_).mono ?_
          exact (Below.refl _ _).drew
          rintro e w5 ⟨rfl, hb5⟩
          have hb5' : Below w4.heap.size w4 w5 := (Below.refl _ _).drew.trans hb5
          obtain ⟨hqS, q9, q10⟩ := HQ.out w5 (fun q h _ => hb5'.block q h)
          refine hK.out _ _ hqS (fun hHeld => ?_)
          clear hK K
          (try simp only [List.getElem_toArray, List.getElem_cons_succ, List.getElem_cons_zero, Act.put, List.setIfInBounds_toArray, List.set_cons_zero, List.set_cons_succ])
          refine wpAnyH_ready (rs := [1, 8]) (by kernel_rfl) (by simp) ?_
          refine (AllReadyH.cons rfl (fun K hK => ?_) (AllReadyH.cons rfl (fun K hK => ?_) AllReadyH.nil))
          · go_simp
            refine hK.out _ _ hqS (fun hHeld => ?_)
            clear hK K
            (try simp only [List.getElem_toArray, List.getElem_cons_succ, List.getElem_cons_zero, Act.put, List.setIfInBounds_toArray, List.set_cons_zero, List.set_cons_succ])
            refine wpAnyH_ready (rs := [8]) (by kernel_rfl) (by simp) ?_
            refine (AllReadyH.cons rfl (fun K hK => ?_) AllReadyH.nil)
            · go_simp
              refine (hterm _ ?_).mono ?_
              exact hb5'
              rintro e w6 ⟨ul, uk, bs6, rfl, ho6, hn6, hb6⟩
              obtain ⟨A9, n9, c9, A10, n10, c10, rfl, rfl⟩ := ho6.forms
              have hb6' : Below w4.heap.size w4 w6 := hb5'.trans (hb6.mono hb5'.size)
              obtain ⟨hqS, r9, r10⟩ := HQ.out w6 (fun q h _ => hb6'.block q h)
              have r11 : ∀ o, (w6.alloc o).cell? ⟨w1.heap.size, 4, none⟩ = some (.slice A8 j c8) := fun o => (HQ.out _ (fun q h _ => (hb6'.alloc hb6'.size o).block q h)).2.1
              refine hK.out _ _ hqS (fun hHeld => ?_)
              clear hK K
              (try simp only [List.getElem_toArray, List.getElem_cons_succ, List.getElem_cons_zero, Act.put, List.setIfInBounds_toArray, List.set_cons_zero, List.set_cons_succ])
              refine wpAnyH_ready (rs := [9]) (by kernel_rfl) (by simp) ?_
              refine (AllReadyH.cons rfl (fun K hK => ?_) AllReadyH.nil)
              · go_simp
                refine hK.out _ _ (HQ.out _ (fun q h _ => (hb6'.alloc hb6'.size _).block q h)).1 (fun hHeld => ?_)
                clear hK K
                (try simp only [List.getElem_toArray, List.getElem_cons_succ, List.getElem_cons_zero, Act.put, List.setIfInBounds_toArray, List.set_cons_zero, List.set_cons_succ])
                refine wpAnyH_ready (rs := [10]) (by kernel_rfl) (by simp) ?_
                refine (AllReadyH.cons rfl (fun K hK => ?_) AllReadyH.nil)
                · refine step_append_lies _ (by rfl) _ _ _ (by rfl) (w1.heap.size + 1) 27 i0 _ 5 72 Tryd.underlying25 hi hz0 hz1 hz2 rfl (by omega) (.slice A8 j c8) j xs (by rfl) (own_below (hrow6 w6 hb6') ((Below.refl _ _).alloc (Nat.le_refl _) _))
                    ⟨w6.heap.size, 0, none⟩ 1 1 [.int .i64 u.kind, .int .i64 u.num, .int .i64 u.atN, .slice A9 n9 c9, .slice A10 n10 c10] (by rfl) (by rfl)
                    (World.news_of_block (cs := #[.int .i64 u.kind, .int .i64 u.num, .int .i64 u.atN, .slice A9 n9 c9, .slice A10 n10 c10]) (t := 27) (fr := (0, 0)) (heap_alloc_new w6 _)) (by simp [Value.oneCell'])
                    (by omega) hjm hjb (by have := hb6'.size; simp; omega) (w6.heap.size + 1) (by simp) ?_
                  intro g7 cap7 w7 hrow7 hgrow hat hlt7
                  obtain ⟨hqS, t9, t10⟩ := HQ.out w7 (fun q h hne => (hgrow.block q (by have := hb6'.size; simp; omega) hne).trans ((hb6'.alloc hb6'.size _).block q h))
                  refine hK.out _ _ hqS (fun hHeld => ?_)
                  clear hK K
                  (try simp only [List.getElem_toArray, List.getElem_cons_succ, List.getElem_cons_zero, Act.put, List.setIfInBounds_toArray, List.set_cons_zero, List.set_cons_succ])
                  refine wpAnyH_take (i := 11) (v := ?v11n8) rfl (by kernel_rfl) (by kernel_rfl) (by kernel_rfl) (fun _ _ _ h => h) (Or.inl ⟨by rfl, ?hy11n8⟩) (by assumption) ?rest11n8
                  case hy11n8 => intro w hSw; (try dsimp only at hSw); go_simp; try with_reducible rfl
                  (try simp only [List.getElem_toArray, List.getElem_cons_succ, List.getElem_cons_zero, Act.put, List.setIfInBounds_toArray, List.set_cons_zero, List.set_cons_succ])
                  refine wpAnyH_ready (rs := [12]) (by kernel_rfl) (by simp) ?_
                  refine AllReadyH.cons rfl (fun K hK => ?_) AllReadyH.nil
                  go_simp
                  refine hK.out _ _ ⟨cell_other hqS.1 hv0, cell_other hqS.2.1 hv0, cell_other hqS.2.2.1 hv1, cell_other hqS.2.2.2.1 hv2, cell_other hqS.2.2.2.2.1 hv2, cell_other hqS.2.2.2.2.2.1 hv2, cell_other hqS.2.2.2.2.2.2.1 hv2, cell_other hqS.2.2.2.2.2.2.2 hv2⟩ (fun hHeld => ?_)
                  clear hK K
                  (try simp only [List.getElem_toArray, List.getElem_cons_succ, List.getElem_cons_zero, Act.put, List.setIfInBounds_toArray, List.set_cons_zero, List.set_cons_succ])
                  refine wpAnyH_done (by kernel_rfl) ?_ _
                  clear hHeld
                  have hg67 : w6.grownBy w7 (Value.slice A8 j c8).ownBlock := ⟨hgrow.os, hgrow.tape, hgrow.output, Nat.le_trans (by simp) hgrow.size, fun i hi hne => (hgrow.block i (by simp; omega) hne).trans (((Below.refl w6.heap.size w6).alloc (Nat.le_refl _) _).block i hi)⟩
                  have hat7 : (Value.slice (some ⟨g7, 0, none⟩) (j + 1) cap7).ownBlock = (Value.slice A8 j c8).ownBlock ∨ ∃ b, (Value.slice (some ⟨g7, 0, none⟩) (j + 1) cap7).ownBlock = some b ∧ w6.heap.size ≤ b := by
                    rcases hat with hat | hat
                    · exact .inl (by rw [hat]; rfl)
                    · exact .inr ⟨g7, rfl, by omega⟩
                  obtain ⟨e1, e2⟩ := walk_step (own_below (own_below h2.out HB4.out) hb5') (OK.below (OK.below h3.out HB4.out) hb5') h4.out (by have := hb5'.size; omega) hb6 ho6 hn6 hg67 hat7
                  have hB7 : Below w1.heap.size w1 w7 := ((HB14.out.trans (hb6'.mono HB14.out.size)).alloc (by have := hb6'.size; omega) _).grown hgrow (by have := hb6'.size; simp; omega) (fun q hq => by have := HIN.out q (by rw [hq]; simp); omega)
                  have hB8 : Below w1.heap.size w1 (w7.setCell ⟨w1.heap.size, 4, none⟩ (.slice (some ⟨g7, 0, none⟩) (j + 1) cap7)) := hB7.setCell (Nat.le_refl _) _
                  have hmv : ∀ q, w1.heap.size + 1 ≤ q → (w7.setCell ⟨w1.heap.size, 4, none⟩ (.slice (some ⟨g7, 0, none⟩) (j + 1) cap7)).heap[q]? = w7.heap[q]? := fun q hq => Below.heap_setCell _ _ _ _ (by show q ≠ w1.heap.size; omega)
                  have hO7 : Box w7 w1.heap.size [.int .i64 k, .int .i64 m', .int .i64 a, .slice A5 n5 c5, .slice A8 j c8] := h1.out.move ((hg67.block _ (by have := hb6'.size; omega) (fun e => by have := HIN.out w1.heap.size (by rw [← e]; simp); omega)).trans ((hb6'.block _ (by omega)).trans (HB4.out.block _ (by omega))))
                  have hO8 := hO7.set 4 (.slice (some ⟨g7, 0, none⟩) (j + 1) cap7)
                  have hs8 : w1.heap.size + 1 ≤ (w7.setCell ⟨w1.heap.size, 4, none⟩ (.slice (some ⟨g7, 0, none⟩) (j + 1) cap7)).heap.size := by have := hg67.size; have := hb6'.size; simp; omega
                  have hk8 : mapL s d k 0 (ks.take (j + 1)) = mapL s d k 0 (ks.take j) ++ [u] := by
                    have hl : (ks.take j).length = j := by rw [List.length_take]; have := HNN.out; omega
                    rw [List.take_add_one, HT.out, Option.toList_some, mapL_snoc, hl, Nat.zero_add, HU.out]
                  have E1 := Lib.hid (own_move hrow7 fun q hq => hmv q (own_in hrow7 q hq).1)
                  have E2 := Lib.hid (e1.move fun q hq => hmv q (e1.inn q hq).1)
                  rw [← hk8] at E2
                  have E3 := Lib.hid e2
                  have E4 := Lib.hid hO8
                  clear hqS t9 t10 hg67 hat7 hB7 hmv hO7 hO8 e1 e2 hat hk8
                  go_wp2_with fail
                  go_roundw
                  case rel => exact ⟨j + 1, bs ++ bs6, _, _, by omega, by go_num, E4, E1, E2, E3, hs8, hB8⟩
                  case measure => simp [intOf]; omega
          · go_simp
            refine (hterm _ ?_).mono ?_
            exact hb5'
            rintro e w6 ⟨ul, uk, bs6, rfl, ho6, hn6, hb6⟩
            obtain ⟨A9, n9, c9, A10, n10, c10, rfl, rfl⟩ := ho6.forms
            have hb6' : Below w4.heap.size w4 w6 := hb5'.trans (hb6.mono hb5'.size)
            obtain ⟨hqS, r9, r10⟩ := HQ.out w6 (fun q h _ => hb6'.block q h)
            have r11 : ∀ o, (w6.alloc o).cell? ⟨w1.heap.size, 4, none⟩ = some (.slice A8 j c8) := fun o => (HQ.out _ (fun q h _ => (hb6'.alloc hb6'.size o).block q h)).2.1
            refine hK.out _ _ hqS (fun hHeld => ?_)
            clear hK K
            (try simp only [List.getElem_toArray, List.getElem_cons_succ, List.getElem_cons_zero, Act.put, List.setIfInBounds_toArray, List.set_cons_zero, List.set_cons_succ])
            refine wpAnyH_ready (rs := [1, 9]) (by kernel_rfl) (by simp) ?_
            refine (AllReadyH.cons rfl (fun K hK => ?_) (AllReadyH.cons rfl (fun K hK => ?_) AllReadyH.nil))
            · go_simp
              refine hK.out _ _ hqS (fun hHeld => ?_)
              clear hK K
              (try simp only [List.getElem_toArray, List.getElem_cons_succ, List.getElem_cons_zero, Act.put, List.setIfInBounds_toArray, List.set_cons_zero, List.set_cons_succ])
              refine wpAnyH_ready (rs := [9]) (by kernel_rfl) (by simp) ?_
              refine (AllReadyH.cons rfl (fun K hK => ?_) AllReadyH.nil)
              · go_simp
                refine hK.out _ _ (HQ.out _ (fun q h _ => (hb6'.alloc hb6'.size _).block q h)).1 (fun hHeld => ?_)
                clear hK K
                (try simp only [List.getElem_toArray, List.getElem_cons_succ, List.getElem_cons_zero, Act.put, List.setIfInBounds_toArray, List.set_cons_zero, List.set_cons_succ])
                refine wpAnyH_ready (rs := [10]) (by kernel_rfl) (by simp) ?_
                refine (AllReadyH.cons rfl (fun K hK => ?_) AllReadyH.nil)
                · refine step_append_lies _ (by rfl) _ _ _ (by rfl) (w1.heap.size + 1) 27 i0 _ 5 72 Tryd.underlying25 hi hz0 hz1 hz2 rfl (by omega) (.slice A8 j c8) j xs (by rfl) (own_below (hrow6 w6 hb6') ((Below.refl _ _).alloc (Nat.le_refl _) _))
                    ⟨w6.heap.size, 0, none⟩ 1 1 [.int .i64 u.kind, .int .i64 u.num, .int .i64 u.atN, .slice A9 n9 c9, .slice A10 n10 c10] (by rfl) (by rfl)
                    (World.news_of_block (cs := #[.int .i64 u.kind, .int .i64 u.num, .int .i64 u.atN, .slice A9 n9 c9, .slice A10 n10 c10]) (t := 27) (fr := (0, 0)) (heap_alloc_new w6 _)) (by simp [Value.oneCell'])
                    (by omega) hjm hjb (by have := hb6'.size; simp; omega) (w6.heap.size + 1) (by simp) ?_
                  intro g7 cap7 w7 hrow7 hgrow hat hlt7
                  obtain ⟨hqS, t9, t10⟩ := HQ.out w7 (fun q h hne => (hgrow.block q (by have := hb6'.size; simp; omega) hne).trans ((hb6'.alloc hb6'.size _).block q h))
                  refine hK.out _ _ hqS (fun hHeld => ?_)
                  clear hK K
                  (try simp only [List.getElem_toArray, List.getElem_cons_succ, List.getElem_cons_zero, Act.put, List.setIfInBounds_toArray, List.set_cons_zero, List.set_cons_succ])
                  refine wpAnyH_take (i := 11) (v := ?v11n9) rfl (by kernel_rfl) (by kernel_rfl) (by kernel_rfl) (fun _ _ _ h => h) (Or.inl ⟨by rfl, ?hy11n9⟩) (by assumption) ?rest11n9
                  case hy11n9 => intro w hSw; (try dsimp only at hSw); go_simp; try with_reducible rfl
                  (try simp only [List.getElem_toArray, List.getElem_cons_succ, List.getElem_cons_zero, Act.put, List.setIfInBounds_toArray, List.set_cons_zero, List.set_cons_succ])
                  refine wpAnyH_ready (rs := [12]) (by kernel_rfl) (by simp) ?_
                  refine AllReadyH.cons rfl (fun K hK => ?_) AllReadyH.nil
                  go_simp
                  refine hK.out _ _ ⟨cell_other hqS.1 hv0, cell_other hqS.2.1 hv0, cell_other hqS.2.2.1 hv1, cell_other hqS.2.2.2.1 hv2, cell_other hqS.2.2.2.2.1 hv2, cell_other hqS.2.2.2.2.2.1 hv2, cell_other hqS.2.2.2.2.2.2.1 hv2, cell_other hqS.2.2.2.2.2.2.2 hv2⟩ (fun hHeld => ?_)
                  clear hK K
                  (try simp only [List.getElem_toArray, List.getElem_cons_succ, List.getElem_cons_zero, Act.put, List.setIfInBounds_toArray, List.set_cons_zero, List.set_cons_succ])
                  refine wpAnyH_done (by kernel_rfl) ?_ _
                  clear hHeld
                  have hg67 : w6.grownBy w7 (Value.slice A8 j c8).ownBlock := ⟨hgrow.os, hgrow.tape, hgrow.output, Nat.le_trans (by simp) hgrow.size, fun i hi hne => (hgrow.block i (by simp; omega) hne).trans (((Below.refl w6.heap.size w6).alloc (Nat.le_refl _) _).block i hi)⟩
                  have hat7 : (Value.slice (some ⟨g7, 0, none⟩) (j + 1) cap7).ownBlock = (Value.slice A8 j c8).ownBlock ∨ ∃ b, (Value.slice (some ⟨g7, 0, none⟩) (j + 1) cap7).ownBlock = some b ∧ w6.heap.size ≤ b := by
                    rcases hat with hat | hat
                    · exact .inl (by rw [hat]; rfl)
                    · exact .inr ⟨g7, rfl, by omega⟩
                  obtain ⟨e1, e2⟩ := walk_step (own_below (own_below h2.out HB4.out) hb5') (OK.below (OK.below h3.out HB4.out) hb5') h4.out (by have := hb5'.size; omega) hb6 ho6 hn6 hg67 hat7
                  have hB7 : Below w1.heap.size w1 w7 := ((HB14.out.trans (hb6'.mono HB14.out.size)).alloc (by have := hb6'.size; omega) _).grown hgrow (by have := hb6'.size; simp; omega) (fun q hq => by have := HIN.out q (by rw [hq]; simp); omega)
                  have hB8 : Below w1.heap.size w1 (w7.setCell ⟨w1.heap.size, 4, none⟩ (.slice (some ⟨g7, 0, none⟩) (j + 1) cap7)) := hB7.setCell (Nat.le_refl _) _
                  have hmv : ∀ q, w1.heap.size + 1 ≤ q → (w7.setCell ⟨w1.heap.size, 4, none⟩ (.slice (some ⟨g7, 0, none⟩) (j + 1) cap7)).heap[q]? = w7.heap[q]? := fun q hq => Below.heap_setCell _ _ _ _ (by show q ≠ w1.heap.size; omega)
                  have hO7 : Box w7 w1.heap.size [.int .i64 k, .int .i64 m', .int .i64 a, .slice A5 n5 c5, .slice A8 j c8] := h1.out.move ((hg67.block _ (by have := hb6'.size; omega) (fun e => by have := HIN.out w1.heap.size (by rw [← e]; simp); omega)).trans ((hb6'.block _ (by omega)).trans (HB4.out.block _ (by omega))))
                  have hO8 := hO7.set 4 (.slice (some ⟨g7, 0, none⟩) (j + 1) cap7)
                  have hs8 : w1.heap.size + 1 ≤ (w7.setCell ⟨w1.heap.size, 4, none⟩ (.slice (some ⟨g7, 0, none⟩) (j + 1) cap7)).heap.size := by have := hg67.size; have := hb6'.size; simp; omega
                  have hk8 : mapL s d k 0 (ks.take (j + 1)) = mapL s d k 0 (ks.take j) ++ [u] := by
                    have hl : (ks.take j).length = j := by rw [List.length_take]; have := HNN.out; omega
                    rw [List.take_add_one, HT.out, Option.toList_some, mapL_snoc, hl, Nat.zero_add, HU.out]
                  have E1 := Lib.hid (own_move hrow7 fun q hq => hmv q (own_in hrow7 q hq).1)
                  have E2 := Lib.hid (e1.move fun q hq => hmv q (e1.inn q hq).1)
                  rw [← hk8] at E2
                  have E3 := Lib.hid e2
                  have E4 := Lib.hid hO8
                  clear hqS t9 t10 hg67 hat7 hB7 hmv hO7 hO8 e1 e2 hat hk8
                  go_wp2_with fail
                  go_roundw
                  case rel => exact ⟨j + 1, bs ++ bs6, _, _, by omega, by go_num, E4, E1, E2, E3, hs8, hB8⟩
                  case measure => simp [intOf]; omega
            · go_simp
              refine hK.out _ _ (HQ.out _ (fun q h _ => (hb6'.alloc hb6'.size _).block q h)).1 (fun hHeld => ?_)
              clear hK K
              (try simp only [List.getElem_toArray, List.getElem_cons_succ, List.getElem_cons_zero, Act.put, List.setIfInBounds_toArray, List.set_cons_zero, List.set_cons_succ])
              refine wpAnyH_ready (rs := [1]) (by kernel_rfl) (by simp) ?_
              refine (AllReadyH.cons rfl (fun K hK => ?_) AllReadyH.nil)
              · go_simp
                refine hK.out _ _ (HQ.out _ (fun q h _ => (hb6'.alloc hb6'.size _).block q h)).1 (fun hHeld => ?_)
                clear hK K
                (try simp only [List.getElem_toArray, List.getElem_cons_succ, List.getElem_cons_zero, Act.put, List.setIfInBounds_toArray, List.set_cons_zero, List.set_cons_succ])
                refine wpAnyH_ready (rs := [10]) (by kernel_rfl) (by simp) ?_
                refine (AllReadyH.cons rfl (fun K hK => ?_) AllReadyH.nil)
                · refine step_append_lies _ (by rfl) _ _ _ (by rfl) (w1.heap.size + 1) 27 i0 _ 5 72 Tryd.underlying25 hi hz0 hz1 hz2 rfl (by omega) (.slice A8 j c8) j xs (by rfl) (own_below (hrow6 w6 hb6') ((Below.refl _ _).alloc (Nat.le_refl _) _))
                    ⟨w6.heap.size, 0, none⟩ 1 1 [.int .i64 u.kind, .int .i64 u.num, .int .i64 u.atN, .slice A9 n9 c9, .slice A10 n10 c10] (by rfl) (by rfl)
                    (World.news_of_block (cs := #[.int .i64 u.kind, .int .i64 u.num, .int .i64 u.atN, .slice A9 n9 c9, .slice A10 n10 c10]) (t := 27) (fr := (0, 0)) (heap_alloc_new w6 _)) (by simp [Value.oneCell'])
                    (by omega) hjm hjb (by have := hb6'.size; simp; omega) (w6.heap.size + 1) (by simp) ?_
                  intro g7 cap7 w7 hrow7 hgrow hat hlt7
                  obtain ⟨hqS, t9, t10⟩ := HQ.out w7 (fun q h hne => (hgrow.block q (by have := hb6'.size; simp; omega) hne).trans ((hb6'.alloc hb6'.size _).block q h))
                  refine hK.out _ _ hqS (fun hHeld => ?_)
                  clear hK K
                  (try simp only [List.getElem_toArray, List.getElem_cons_succ, List.getElem_cons_zero, Act.put, List.setIfInBounds_toArray, List.set_cons_zero, List.set_cons_succ])
                  refine wpAnyH_take (i := 11) (v := ?v11n10) rfl (by kernel_rfl) (by kernel_rfl) (by kernel_rfl) (fun _ _ _ h => h) (Or.inl ⟨by rfl, ?hy11n10⟩) (by assumption) ?rest11n10
                  case hy11n10 => intro w hSw; (try dsimp only at hSw); go_simp; try with_reducible rfl
                  (try simp only [List.getElem_toArray, List.getElem_cons_succ, List.getElem_cons_zero, Act.put, List.setIfInBounds_toArray, List.set_cons_zero, List.set_cons_succ])
                  refine wpAnyH_ready (rs := [12]) (by kernel_rfl) (by simp) ?_
                  refine AllReadyH.cons rfl (fun K hK => ?_) AllReadyH.nil
                  go_simp
                  refine hK.out _ _ ⟨cell_other hqS.1 hv0, cell_other hqS.2.1 hv0, cell_other hqS.2.2.1 hv1, cell_other hqS.2.2.2.1 hv2, cell_other hqS.2.2.2.2.1 hv2, cell_other hqS.2.2.2.2.2.1 hv2, cell_other hqS.2.2.2.2.2.2.1 hv2, cell_other hqS.2.2.2.2.2.2.2 hv2⟩ (fun hHeld => ?_)
                  clear hK K
                  (try simp only [List.getElem_toArray, List.getElem_cons_succ, List.getElem_cons_zero, Act.put, List.setIfInBounds_toArray, List.set_cons_zero, List.set_cons_succ])
                  refine wpAnyH_done (by kernel_rfl) ?_ _
                  clear hHeld
                  have hg67 : w6.grownBy w7 (Value.slice A8 j c8).ownBlock := ⟨hgrow.os, hgrow.tape, hgrow.output, Nat.le_trans (by simp) hgrow.size, fun i hi hne => (hgrow.block i (by simp; omega) hne).trans (((Below.refl w6.heap.size w6).alloc (Nat.le_refl _) _).block i hi)⟩
                  have hat7 : (Value.slice (some ⟨g7, 0, none⟩) (j + 1) cap7).ownBlock = (Value.slice A8 j c8).ownBlock ∨ ∃ b, (Value.slice (some ⟨g7, 0, none⟩) (j + 1) cap7).ownBlock = some b ∧ w6.heap.size ≤ b := by
                    rcases hat with hat | hat
                    · exact .inl (by rw [hat]; rfl)
                    · exact .inr ⟨g7, rfl, by omega⟩
                  obtain ⟨e1, e2⟩ := walk_step (own_below (own_below h2.out HB4.out) hb5') (OK.below (OK.below h3.out HB4.out) hb5') h4.out (by have := hb5'.size; omega) hb6 ho6 hn6 hg67 hat7
                  have hB7 : Below w1.heap.size w1 w7 := ((HB14.out.trans (hb6'.mono HB14.out.size)).alloc (by have := hb6'.size; omega) _).grown hgrow (by have := hb6'.size; simp; omega) (fun q hq => by have := HIN.out q (by rw [hq]; simp); omega)
                  have hB8 : Below w1.heap.size w1 (w7.setCell ⟨w1.heap.size, 4, none⟩ (.slice (some ⟨g7, 0, none⟩) (j + 1) cap7)) := hB7.setCell (Nat.le_refl _) _
                  have hmv : ∀ q, w1.heap.size + 1 ≤ q → (w7.setCell ⟨w1.heap.size, 4, none⟩ (.slice (some ⟨g7, 0, none⟩) (j + 1) cap7)).heap[q]? = w7.heap[q]? := fun q hq => Below.heap_setCell _ _ _ _ (by show q ≠ w1.heap.size; omega)
                  have hO7 : Box w7 w1.heap.size [.int .i64 k, .int .i64 m', .int .i64 a, .slice A5 n5 c5, .slice A8 j c8] := h1.out.move ((hg67.block _ (by have := hb6'.size; omega) (fun e => by have := HIN.out w1.heap.size (by rw [← e]; simp); omega)).trans ((hb6'.block _ (by omega)).trans (HB4.out.block _ (by omega))))
                  have hO8 := hO7.set 4 (.slice (some ⟨g7, 0, none⟩) (j + 1) cap7)
                  have hs8 : w1.heap.size + 1 ≤ (w7.setCell ⟨w1.heap.size, 4, none⟩ (.slice (some ⟨g7, 0, none⟩) (j + 1) cap7)).heap.size := by have := hg67.size; have := hb6'.size; simp; omega
                  have hk8 : mapL s d k 0 (ks.take (j + 1)) = mapL s d k 0 (ks.take j) ++ [u] := by
                    have hl : (ks.take j).length = j := by rw [List.length_take]; have := HNN.out; omega
                    rw [List.take_add_one, HT.out, Option.toList_some, mapL_snoc, hl, Nat.zero_add, HU.out]
                  have E1 := Lib.hid (own_move hrow7 fun q hq => hmv q (own_in hrow7 q hq).1)
                  have E2 := Lib.hid (e1.move fun q hq => hmv q (e1.inn q hq).1)
                  rw [← hk8] at E2
                  have E3 := Lib.hid e2
                  have E4 := Lib.hid hO8
                  clear hqS t9 t10 hg67 hat7 hB7 hmv hO7 hO8 e1 e2 hat hk8
                  go_wp2_with fail
                  go_roundw
                  case rel => exact ⟨j + 1, bs ++ bs6, _, _, by omega, by go_num, E4, E1, E2, E3, hs8, hB8⟩
                  case measure => simp [intOf]; omega
      · obtain rfl : j = n := by omega
        have D2 : Box wr (W.heap.size + 2) _ := C2.out.below hb
        obtain ⟨d0, d1, d2, d3, d4⟩ := D2.five
        obtain ⟨g0, g1, g2, g3, g4⟩ := D2.thaw
        obtain ⟨o0, o1, o2, o3, o4⟩ := h1.out.five
        go_wp2_with fail
        obtain ⟨wf, ewf, F, hmv, hbf⟩ := put5 D2 (.int .i64 k) (.int .i64 m') (.int .i64 a) (.slice A5 n5 c5) (.slice A8 j c8)
        rw [ewf]
        obtain ⟨z0, z1, z2, z3, z4⟩ := F.five
        have hkt : ks.take j = ks := List.take_of_length_le (by have := HNN.out; omega)
        have h3' := h3.out
        rw [hkt] at h3'
        have hlen : (mapL s d k 0 ks).length = j := by rw [mapL_length]; exact HNN.out
        have e1 : wf.ownsRow (w1.heap.size + 1) 27 5 (.slice A8 j c8) j xs := own_move h2.out fun q hq => hmv q (by have := (own_in h2.out q hq).1; omega)
        have e2 : OK wf (w1.heap.size + 1) bs (mapL s d k 0 ks) xs := h3'.move fun q hq => hmv q (by have := (h3'.inn q hq).1; omega)
        have e3 : OKv wf (w1.heap.size + 1) ((Value.slice A8 j c8).ownBlock.toList ++ bs) (mapL s d k 0 ks) (.slice A8 j c8) := ⟨bs, xs, by rw [hlen]; exact e1, e2, rfl, by rw [hlen]; exact HKM.out⟩
        have e4 : OLv wf W.heap.size bl ls' (.slice A5 n5 c5) := HO.out.move fun q hq => (hmv q (by have := HBL.out q hq; omega)).trans (hb.block q (HBL.out q hq).2)
        refine bodyPost_ret (v := .agg #[.int .i64 k, .int .i64 m', .int .i64 a, .slice A5 n5 c5, .slice A8 j c8]) (by simp [results, Tryd.results32, go_sem, z0, z1, z2, z3, z4]) rfl ?_
        refine ⟨_, _, bl ++ ((Value.slice A8 j c8).ownBlock.toList ++ bs), rfl, (OT_iff _ _ _ _ _ _ _ _ _ _).2 ⟨bl, _, rfl, e4, e3.lower (by omega)⟩, ?_, (b1.trans (hb.mono b1.size)).trans (hbf.mono (by omega))⟩
        rw [List.nodup_append]
        exact ⟨HNL.out, h4.out, fun x hx y hy => by have := HBL.out x hx; have := e3.inn y hy; omega⟩

end Go.Proofs.YtgegaipkfpdocaaDoor
