/-
  THE WALK OF core.kinds; what its map tells.
-/
import Derived.Test.YtgegaipkfpdocaaDoorCoreB
import Derived.Carry
import Derived.MapKept
namespace Go.Proofs.YtgegaipkfpdocaaDoor
open Go.RowKit
set_option linter.unusedSimpArgs false
set_option linter.unusedVariables false
set_option maxRecDepth 100000

/-- Which function a kind asks. -/
def askFns : List (Int × Nat) :=
  [(1, 53), (2, 54), (3, 55), (4, 56), (5, 56), (6, 56), (7, 57),
   (12, 56), (13, 56), (14, 58), (15, 58), (16, 56), (17, 56), (18, 59), (19, 57),
   (20, 60), (21, 61), (22, 62), (23, 63), (24, 64)]
def entriesOf : List (Int × Nat) → Nat → List MapEntry
  | [], _ => []
  | x :: xs, i => { key := .int .i64 x.1, val := .func (.func x.2) #[] #[], born := i } :: entriesOf xs (i + 1)
/-- The map's entries when so many are laid. -/
def kindsAt (i : Nat) : Array MapEntry := (entriesOf (askFns.take i) 0).toArray

theorem run_insert (w : World) (i : Nat) (n : Int) (f : Nat) (hf : Instr.findNow (.int .i64) (.int .i64 n) (kindsAt i).toList 0 = some none) (hp : (kindsAt i).push { key := .int .i64 n, val := .func (.func f) #[] #[], born := i } = kindsAt (i + 1)) :
    (Instr.mapUpdate 57 (.map (some w.heap.size)) (.int .i64 n) (.func (.func f) #[] #[])).run Tryd.prog (w.alloc (.map (kindsAt i) i)) = .ok () (w.alloc (.map (kindsAt (i + 1)) (i + 1))) := by
  have hb : (w.alloc (.map (kindsAt i) i)).heap[w.heap.size]? = some (.map (kindsAt i) i) := (MapKept.heap_alloc w _).1
  have hc : (Instr.checkKey false 10000 23 (.int .i64 n)).run Tryd.prog (w.alloc (.map (kindsAt i) i)) = .ok () (w.alloc (.map (kindsAt i) i)) := MapKept.run_checkKey (k := .int .i64 n) Tryd.underlying23 (by simp [MapKept.IsKey]) false 9999
  have hs : ({ (w.alloc (.map (kindsAt i) i)) with heap := (w.alloc (.map (kindsAt i) i)).heap.setIfInBounds w.heap.size (.map (kindsAt (i + 1)) (i + 1)) } : World) = w.alloc (.map (kindsAt (i + 1)) (i + 1)) := by
    simp only [World.alloc]
    congr 1
    apply Array.ext_getElem?
    intro j
    by_cases hj : j = w.heap.size
    · subst hj; simp
    · simp [Array.getElem?_setIfInBounds, Array.getElem?_push, Ne.symm hj, hj]
  simp [Instr.mapUpdate, run_underlying Tryd.underlying57, MapKept.run_getObj_map hb, hc, MapKept.run_findKey Tryd.underlying23 hf, MapKept.run_setObj_map _ hb, Result.andThen, hp]
  exact hs

theorem kinds_any (w : World) : Calls Tryd.prog 27 #[] w fun e w' => e = .returned (.map (some w.heap.size)) ∧ w' = w.alloc (.map (kindsAt 20) 20) := by
  have hmm : ∀ t, Sem.run Tryd.prog (Instr.makeMap t none) w = .ok (.map (some w.heap.size)) (w.alloc (.map (kindsAt 0) 0)) := fun t => @run_makeMap Tryd.prog t w
  have h0 := run_insert w 0 1 53 (by kernel_rfl) rfl
  have h1 := run_insert w 1 2 54 (by kernel_rfl) rfl
  have h2 := run_insert w 2 3 55 (by kernel_rfl) rfl
  have h3 := run_insert w 3 4 56 (by kernel_rfl) rfl
  have h4 := run_insert w 4 5 56 (by kernel_rfl) rfl
  have h5 := run_insert w 5 6 56 (by kernel_rfl) rfl
  have h6 := run_insert w 6 7 57 (by kernel_rfl) rfl
  have h7 := run_insert w 7 12 56 (by kernel_rfl) rfl
  have h8 := run_insert w 8 13 56 (by kernel_rfl) rfl
  have h9 := run_insert w 9 14 58 (by kernel_rfl) rfl
  have h10 := run_insert w 10 15 58 (by kernel_rfl) rfl
  have h11 := run_insert w 11 16 56 (by kernel_rfl) rfl
  have h12 := run_insert w 12 17 56 (by kernel_rfl) rfl
  have h13 := run_insert w 13 18 59 (by kernel_rfl) rfl
  have h14 := run_insert w 14 19 57 (by kernel_rfl) rfl
  have h15 := run_insert w 15 20 60 (by kernel_rfl) rfl
  have h16 := run_insert w 16 21 61 (by kernel_rfl) rfl
  have h17 := run_insert w 17 22 62 (by kernel_rfl) rfl
  have h18 := run_insert w 18 23 63 (by kernel_rfl) rfl
  have h19 := run_insert w 19 24 64 (by kernel_rfl) rfl
  simp only [Nat.reduceAdd] at h0 h1 h2 h3 h4 h5 h6 h7 h8 h9 h10 h11 h12 h13 h14 h15 h16 h17 h18 h19
  go_enter Tryd.func27, Tryd.ntmps27
  go_wp2_with fail
  go_ret
  exact ⟨rfl, rfl⟩

theorem find_entries (k : Int) : ∀ (xs : List (Int × Nat)) (b i : Nat), ∃ r, Instr.findNow (.int .i64) (.int .i64 k) (entriesOf xs b) i = some r ∧
    match xs.find? (fun x => x.1 == k) with | some x => ∃ j, r = some (j, .func (.func x.2) #[] #[]) | none => r = none
  | [], _, _ => ⟨none, rfl, rfl⟩
  | x :: xs, b, i => by
    by_cases h : x.1 = k
    · refine ⟨some (i, .func (.func x.2) #[] #[]), by simp [entriesOf, Instr.findNow, Instr.sameNow, h], ?_⟩
      simp [h]
    · obtain ⟨r, h1, h2⟩ := find_entries k xs (b + 1) (i + 1)
      refine ⟨r, ?_, ?_⟩
      · have : (k == x.1) = false := by simp [Ne.symm h]
        simp [entriesOf, Instr.findNow, Instr.sameNow, this, h1]
      · have : (x.1 == k) = false := by simp [h]
        simpa [this] using h2

/-- What the map tells of a kind. -/
def askVal (k : Int) : Value := match askFns.find? (fun x => x.1 == k) with | some x => .func (.func x.2) #[] #[] | none => .nilFunc
def askHas (k : Int) : Bool := (askFns.find? (fun x => x.1 == k)).isSome

theorem zero_fn (w : World) : (zeroValue 85).run Tryd.prog w = .ok .nilFunc w := by
  kernel_rfl

theorem run_ask (w : World) (b : Nat) (k : Int) (hb : w.heap[b]? = some (.map (kindsAt 20) 20)) :
    (Instr.lookup 57 (.map (some b)) (.int .i64 k) true).run Tryd.prog w = .ok (.tuple #[askVal k, .bool (askHas k)]) w := by
  obtain ⟨r, h1, h2⟩ := find_entries k askFns 0 0
  have hl : (kindsAt 20).toList = entriesOf askFns 0 := rfl
  have he : (kindsAt 20).isEmpty = false := by decide +kernel
  have hc : (Instr.checkKey false 10000 23 (.int .i64 k)).run Tryd.prog w = .ok () w := MapKept.run_checkKey (k := .int .i64 k) Tryd.underlying23 (by simp [MapKept.IsKey]) false 9999
  have hf := MapKept.run_findKey (w := w) Tryd.underlying23 (by rw [hl]; exact h1 : Instr.findNow (.int .i64) (.int .i64 k) (kindsAt 20).toList 0 = some r)
  unfold askVal askHas
  cases hfd : askFns.find? (fun x => x.1 == k) with
  | some x =>
    rw [hfd] at h2
    obtain ⟨j, rfl⟩ := h2
    simp [Instr.lookup, run_underlying Tryd.underlying57, MapKept.run_getObj_map hb, he, hc, hf, Result.andThen]
  | none =>
    rw [hfd] at h2
    simp only at h2
    subst h2
    simp [Instr.lookup, run_underlying Tryd.underlying57, MapKept.run_getObj_map hb, he, hc, hf, zero_fn, Result.andThen]

end Go.Proofs.YtgegaipkfpdocaaDoor
