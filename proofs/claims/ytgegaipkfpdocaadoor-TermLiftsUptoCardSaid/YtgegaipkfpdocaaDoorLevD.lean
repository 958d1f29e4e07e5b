/-
  THE WALK OF level.made, for whatever puts parts.
-/
import Derived.Test.YtgegaipkfpdocaaDoorLevC
import Derived.Defers
import Derived.Recover
import Derived.Laws.Pointers
namespace Go.Proofs.YtgegaipkfpdocaaDoor
open Go.RowKit Go.Maps
set_option linter.unusedSimpArgs false
set_option linter.unusedVariables false
set_option maxRecDepth 100000

theorem none_is (w : World) : (Instr.typeAssert (.iface 114 (.agg #[])) 20 114 true).run Tryd.prog w = .ok (.tuple #[.agg #[], .bool true]) w := by
  kernel_rfl

theorem caught (b : Nat) (x : Value) (older : List PanicEntry) (w : World) (hB : Box w b [x]) :
    CallsD Tryd.prog 86 #[.pointer (some ⟨b, 0, none⟩)] (.panicking ({ v := .iface 114 (.agg #[]), recovered := false } :: older)) w fun e u' w' =>
      e = .returned (.tuple #[]) ∧ u' = .panicking ({ v := .iface 114 (.agg #[]), recovered := true } :: older) ∧ Box w' b [.slice none 0 0] ∧ Below b w w' := by
  have hc := hB.cell (j := 0) rfl
  have hz := hB.frozen 0
  have hw := none_is w
  have hb0 : Below w.heap.size w (w.alloc (.cells #[] 114)) := (Below.refl _ _).alloc (Nat.le_refl _) _
  have hB1 := hB.below hb0
  have hc1 := hB1.cell (j := 0) rfl
  have hz1 := hB1.frozen 0
  have hbb : Below b w (w.alloc (.cells #[] 114)) := hb0.mono (Nat.le_of_lt hB.lt)
  refine callsD_of_wpS Tryd.func86 rfl fun c₀ cs hu => ?_
  simp only [Tryd.ntmps86, List.size_toArray, List.length_cons, List.length_nil, Nat.reduceAdd, Nat.reduceSub, Array.replicate_succ, Array.replicate_zero, List.append_toArray, List.cons_append, List.nil_append, Array.push_empty, List.push_toArray]
  apply wpS_seq
  apply wpS_region
  simp [wpOpsS, go_sem, recoverD, hu, Tryd.ntmps86, Exit.thenS]
  refine wpS_of_wp ?_
  go_wp2_with fail
  simp [bodyPostS, results, Tryd.results86, hu]
  exact ⟨hB1.set 0 _, hbb.setCell (Nat.le_refl _) _⟩

theorem not_caught (b : Nat) (w : World) :
    CallsD Tryd.prog 86 #[.pointer (some ⟨b, 0, none⟩)] .returning w fun e u' w' => e = .returned (.tuple #[]) ∧ u' = .returning ∧ w' = w := by
  refine callsD_of_wpS Tryd.func86 rfl fun c₀ cs hu => ?_
  simp only [Tryd.ntmps86, List.size_toArray, List.length_cons, List.length_nil, Nat.reduceAdd, Nat.reduceSub, Array.replicate_succ, Array.replicate_zero, List.append_toArray, List.cons_append, List.nil_append, Array.push_empty, List.push_toArray]
  apply wpS_seq
  apply wpS_region
  simp [wpOpsS, go_sem, recoverD, hu, Tryd.ntmps86, Exit.thenS]
  refine wpS_of_wp ?_
  go_wp2_with fail
  cases c₀
  simp_all [bodyPostS, results, Tryd.results86]

/-- A level in new memory. -/
def MadeL (l : Lv) (w : World) (e : Ending) (w' : World) : Prop := ∃ v bs, e = .returned (.agg #[v]) ∧ OPv w' w.heap.size bs l v ∧ Below w.heap.size w w'
/-- What is asked of what puts. -/
def PutsOk (f : FuncId) (caps : Array Value) (ps : Lv) (W : World) : Prop :=
  ∀ mb W', Below W.heap.size W W' → W.heap.size ≤ mb → MapR W' mb [] → Calls Tryd.prog f (#[.agg #[.map (some mb)]] ++ caps) W' (PutEnd mb [] ps W')
theorem OPv_nil (w : World) (lo : Nat) : OPv w lo [] [] (.slice none 0 0) := ⟨World.ownsRow_nil _ _ _ _, rfl, by simp⟩

theorem made_any (f : FuncId) (caps : Array Value) (ps : Lv) (W : World) (ef : ∀ args w, (callFunc f args).run Tryd.prog w = .ok (.enter f args) w) (h : PutsOk f caps ps W) :
    Calls Tryd.prog 72 #[.func (.func f) #[] caps] W (MadeL (nfP ps) W) := by
  have hmf : ∀ (fn : Fn) (first cap : Array Value) (w : World), (Instr.makeFunc fn first cap).run Tryd.prog w = .ok (.func fn first cap) w := fun _ _ _ _ => rfl
  have hmm := @run_makeMap Tryd.prog
  obtain ⟨w0, hw0⟩ : ∃ w0, ((W.alloc (.cells #[.slice none 0 0] 37)).alloc (.map #[] 0)).alloc (.cells #[.map (some (W.heap.size + 1))] 100) = w0 := ⟨_, rfl⟩
  have hs0 : w0.heap.size = W.heap.size + 3 := by rw [← hw0]; simp
  have hb0 : Below W.heap.size W w0 := by rw [← hw0]; exact (((Below.refl _ _).alloc (Nat.le_refl _) _).alloc (by simp) _).alloc (by simp; omega) _
  have B0 : Box w0 W.heap.size [.slice none 0 0] := by rw [← hw0]; exact ((Box.new W [_] _).alloc _).alloc _
  have B2 : Box w0 (W.heap.size + 2) [.map (some (W.heap.size + 1))] := by rw [← hw0]; exact Box.new' _ [_] _ (by simp)
  have hM0 : MapR w0 (W.heap.size + 1) [] := by
    rw [← hw0]
    have h := MapR.made (W.alloc (.cells #[.slice none 0 0] 37))
    have e : (W.alloc (.cells #[.slice none 0 0] 37)).heap.size = W.heap.size + 1 := by simp
    rw [e] at h
    exact h.alloc _
  have hputs := h (W.heap.size + 1) w0 hb0 (by omega) hM0
  have HB0 := Lib.hid B0
  have HB2 := Lib.hid B2
  have p0 : w0.cell? ⟨W.heap.size + 1 + 1, 0, none⟩ = some (.map (some (W.heap.size + 1))) := B2.cell (j := 0) rfl
  clear h hM0 B0 B2
  cases hb : ps.any badP with
  | false =>
    have hn : nfP ps = lwP (rowP ps) := by unfold nfP; rw [hb, if_neg (by simp)]; rfl
    rw [hn]
    have HB := Lib.hid hb
    clear hn hb
    go_enter_defers Tryd.func72, Tryd.ntmps72
    go_wp2_with fail
    refine hputs.mono ?_
    rintro e w1 ⟨hT, hg, -⟩
    obtain ⟨rfl, hM⟩ := hg HB.out
    have C0 := HB0.out.turn hT (by omega)
    have C2 := HB2.out.turn hT (by omega)
    have q2 : w1.cell? ⟨W.heap.size + 1 + 1, 0, none⟩ = some (.map (some (W.heap.size + 1))) := C2.cell (j := 0) rfl
    have hts := hT.size
    have hb1 : Below W.heap.size W w1 := hb0.grown hT hb0.size (fun k e => by injection e with e; omega)
    have hlev := level_any (W.heap.size + 1) (rowP ps) w1 hM
    clear hM hg hputs hw0 hT
    go_wp2_with fail
    refine hlev.mono ?_
    rintro e w2 ⟨v, bs, rfl, hO, hb2⟩
    have D0 := C0.below hb2
    have z0 := D0.cell (j := 0) rfl
    have z1 := D0.frozen 0
    have hb3 : Below W.heap.size W w2 := hb1.trans (hb2.mono hb1.size)
    have hin := Lib.hid hO.inn
    have HO := Lib.hid (hO.lower (lo' := W.heap.size) hb1.size)
    obtain ⟨A, n, c, rfl⟩ := hO.reads.form
    clear hO hb2 hlev
    go_wp2_with fail
    refine leaves_cons (f := 86) (args := #[.pointer (some ⟨W.heap.size, 0, none⟩)]) (by simp) (by simp [go_sem]) ?_
    refine (not_caught W.heap.size _).mono ?_
    rintro e u' w3 ⟨rfl, rfl, rfl⟩
    have z2 := (D0.set 0 (.slice A n c)).cell (j := 0) rfl
    simp [Leaves, settle, results, Tryd.results72, go_sem, z2]
    exact ⟨_, bs, rfl, HO.out.move fun j hj => Below.heap_setCell _ _ _ _ (by have := hin.out j hj; show j ≠ W.heap.size; omega), hb3.setCell (Nat.le_refl _) _⟩
  | true =>
    have hn : nfP ps = [] := by unfold nfP; rw [hb, if_pos rfl]
    rw [hn]
    have HB := Lib.hid hb
    clear hn hb
    go_enter_defers Tryd.func72, Tryd.ntmps72
    go_wp2_with fail
    refine hputs.mono ?_
    rintro e w1 ⟨hT, -, hg⟩
    obtain rfl := hg HB.out
    have C0 := HB0.out.turn hT (by omega)
    have hb1 : Below W.heap.size W w1 := hb0.grown hT hb0.size (fun k e => by injection e with e; omega)
    clear hg hputs hw0 hT
    go_wp2_with fail
    refine leaves_cons (f := 86) (args := #[.pointer (some ⟨W.heap.size, 0, none⟩)]) (by simp) (by simp [go_sem]) ?_
    refine (caught W.heap.size _ [] _ C0).mono ?_
    rintro e u' w2 ⟨rfl, rfl, hB, hb⟩
    have z0 := hB.cell (j := 0) rfl
    simp [Leaves, settle, results, Tryd.results72, go_sem, z0]
    exact ⟨_, [], rfl, OPv_nil _ _, hb1.trans hb⟩

end Go.Proofs.YtgegaipkfpdocaaDoor
