/-
  THE WALKS OF term.Lift AND OF THE CLOSURE OF term.Put.
-/
import Derived.Test.YtgegaipkfpdocaaDoorWalk
namespace Go.Proofs.YtgegaipkfpdocaaDoor
open Go.RowKit

theorem walk_all {w0 : World} {g : FuncId} {lb : Array Value} {s : Step} {G : Int → Tm → Prop} (hK : Kinds w0) (eg : ∀ args w, (callFunc g args).run Tryd.prog w = .ok (.enter g args) w) (hT : TurnOk w0 g lb s G)
    (hG : ∀ d k m a ls ks i t, G d (.node k m a ls ks) → ks[i]? = some t → G (inner k i d) t) (hD : ∀ d t, G d t → 0 ≤ d ∧ d ≤ 4611686018427387904) : ∀ M, WalkAt w0 g lb s G M
  | 0 => fun _ t _ _ _ h => absurd (size_pos t) (by omega)
  | M + 1 => walk_of hK eg hT hG hD (walk_all hK eg hT hG hD M)

def liftStep (n f : Int) : Step := fun d t => .inr (liftNum n f d t.kind t.num, t.lvs)
/-- A term lifted. -/
abbrev lift (n f d : Int) (t : Tm) : Tm := mapT (liftStep n f) d t
theorem inner_le (k : Int) (i : Nat) (d : Int) : d ≤ inner k i d ∧ inner k i d ≤ d + 1 := by unfold inner; split <;> omega

/-- The walk with the closure of Lift, at whatever depth. -/
theorem liftw_any (n f d : Int) (t : Tm) (vl vk : Value) (bf bn : Nat) (w : World) (hK : Kinds w) (hr : RT w t vl vk) (hg : ranged t) (h0 : 0 ≤ d) (h1 : d + size t ≤ 4611686018427387904)
    (hf : w.cell? ⟨bf, 0, none⟩ = some (.int .i64 f)) (hn : w.cell? ⟨bn, 0, none⟩ = some (.int .i64 n)) :
    Calls Tryd.prog 32 #[.agg #[.int .i64 d, .func (.func 29) #[] #[.pointer (some ⟨bf, 0, none⟩), .pointer (some ⟨bn, 0, none⟩)]], .agg #[.int .i64 t.kind, .int .i64 t.num, .int .i64 t.atN, vl, vk]] w (MadeT (lift n f d t) w) := by
  refine walk_all (w0 := w) (s := liftStep n f) (G := fun d t => 0 ≤ d ∧ d + size t ≤ 4611686018427387904 ∧ ranged t) hK Tryd.call29 ?_ ?_ ?_ (size t) d t vl vk w (Nat.le_refl _) (Below.refl _ _) hr ⟨h0, h1, hg⟩
  · rintro d k m a ls ks vl A3 n3 c3 W hb hr ⟨h0, h1, hg⟩
    rw [RT_iff] at hr
    simp only [ranged] at hg
    exact lift1_any n f d k m a ls vl A3 n3 c3 _ _ bf bn W hr.1 hg.1.2.1 h0 (cell_below hb hf) (cell_below hb hn)
  · rintro d k m a ls ks i t ⟨h0, h1, hg⟩ hi
    simp only [ranged] at hg
    simp only [size] at h1
    have := size_at hi
    have := inner_le k i d
    exact ⟨by omega, by omega, ranged_at hg.2 hi⟩
  · rintro d t ⟨h0, h1, _⟩
    exact ⟨h0, by omega⟩

set_option maxRecDepth 100000 in
set_option maxHeartbeats 1600000 in
theorem lift_any (n f : Int) (t : Tm) (vl vk : Value) (w : World) (hK : Kinds w) (hr : RT w t vl vk) (hg : ranged t) (h1 : size t ≤ 1000000000000) :
    Calls Tryd.prog 8 #[.agg #[.int .i64 t.kind, .int .i64 t.num, .int .i64 t.atN, vl, vk], .int .i64 n, .int .i64 f] w (MadeT (lift n f 0 t) w) := by
  obtain ⟨A2, n2, c2, A3, n3, c3, rfl, rfl⟩ := hr.forms
  have hcall := fun W (hb : Below w.heap.size w W) (hf : W.cell? ⟨w.heap.size + 2, 0, none⟩ = some (.int .i64 f)) (hn : W.cell? ⟨w.heap.size + 1, 0, none⟩ = some (.int .i64 n)) => liftw_any n f 0 t _ _ (w.heap.size + 2) (w.heap.size + 1) W (hK.below hb) (hr.below hb) hg (by omega) (by omega) hf hn
  clear hr hg hK h1
  generalize lift n f 0 t = u at *
  go_enter Tryd.func8, Tryd.ntmps8
  go_wp2_with fail
  refine (hcall _ ?_ ?_ ?_).mono ?_
  · exact ((((Below.refl _ _).alloc (Nat.le_refl _) _).alloc (by simp) _).alloc (by simp; omega) _).alloc (by simp; omega) _
  · exact (Box.alloc (Box.new' ((w.alloc _).alloc _) [.int .i64 f] _ (by simp)) _).cell rfl
  · exact (Box.alloc (Box.alloc (Box.new' (w.alloc _) [.int .i64 n] _ (by simp)) _) _).cell rfl
  rintro e w1 ⟨vl, vk, bs, rfl, ho, hnd, hb1⟩
  obtain ⟨A5, n5, c5, A6, n6, c6, rfl, rfl⟩ := ho.forms
  have b1 : Below w.heap.size w w1 := (((((Below.refl _ _).alloc (Nat.le_refl _) _).alloc (by simp) _).alloc (by simp; omega) _).alloc (by simp; omega) _).trans (hb1.mono (by simp; omega))
  have B3 : Box w1 (w.heap.size + 3) [.int .i64 0, .int .i64 0, .int .i64 0, .slice none 0 0, .slice none 0 0] := Box.below (Box.new' (((w.alloc _).alloc _).alloc _) [_, _, _, _, _] _ (by simp)) hb1
  have hin : ∀ q ∈ bs, w.heap.size + 3 < q := fun q hq => by have := (ho.inn q hq).1; simp at this; omega
  have hsz := hb1.size
  simp at hsz
  have HO := Lib.hid ho
  have HN := Lib.hid hnd
  have HI := Lib.hid hin
  clear ho hnd hb1 hcall hin
  obtain ⟨s0, s1, s2, s3, s4⟩ := B3.five
  obtain ⟨r0, r1, r2, r3, r4⟩ := B3.thaw
  go_wp2_with fail
  obtain ⟨wf, ewf, F, hmv, hbf⟩ := put5 B3 (.int .i64 u.kind) (.int .i64 u.num) (.int .i64 u.atN) (.slice A5 n5 c5) (.slice A6 n6 c6)
  rw [ewf]
  obtain ⟨z0, z1, z2, z3, z4⟩ := F.five
  refine bodyPost_ret (v := .agg #[.int .i64 u.kind, .int .i64 u.num, .int .i64 u.atN, .slice A5 n5 c5, .slice A6 n6 c6]) (by simp [results, Tryd.results8, go_sem, z0, z1, z2, z3, z4]) rfl ?_
  exact ⟨_, _, bs, rfl, OT.lower (by simp; omega) (HO.out.move fun q hq => hmv q (by have := HI.out q hq; omega)), HN.out, b1.trans (hbf.mono (by omega))⟩

end Go.Proofs.YtgegaipkfpdocaaDoor
