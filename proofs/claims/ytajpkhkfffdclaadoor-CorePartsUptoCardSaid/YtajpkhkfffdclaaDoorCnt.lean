/-
  THE WALKS OF term.count AND term.Right.
-/
import Derived.Test.YtajpkhkfffdclaaDoorNode
namespace Go.Proofs.YtajpkhkfffdclaaDoor
open Go.RowKit

mutual
/-- What count tells, and where its counter stands then. -/
def cnt (lok : Lv → Bool) (deep : Int) : Tm → Int → Bool × Int
  | .node k m a ls ks, n => if deep ≤ 400 ∧ n + 1 ≤ 20000 ∧ nodeB lok (.node k m a ls ks) = true then cntL lok (deep + 1) ks (n + 1) else (false, n + 1)
def cntL (lok : Lv → Bool) (deep : Int) : List Tm → Int → Bool × Int
  | [], n => (true, n)
  | t :: ts, n => if (cnt lok deep t n).1 = true then cntL lok deep ts (cnt lok deep t n).2 else (false, (cnt lok deep t n).2)
end
/-- Is a term right? -/
def rightB (lok : Lv → Bool) (t : Tm) : Bool := (cnt lok 1 t 0).1

theorem grown_setCell (w : World) (a : Addr) (u : Value) : w.grownBy (w.setCell a u) (some a.block) :=
  ⟨rfl, rfl, rfl, by simp, fun i _ hne => Below.heap_setCell w a u i (fun e => hne (by rw [e]))⟩
theorem Box.far {w w' : World} {b : Nat} {vs : List Value} {row : Option Nat} (h : Box w b vs) (hg : w.grownBy w' row) (hne : some b ≠ row) : Box w' b vs := h.move (hg.block b h.lt hne)

mutual
/-- All levels of a term. -/
def lvAll : Tm → List Lv
  | .node _ _ _ ls ks => ls ++ lvAllL ks
def lvAllL : List Tm → List Lv
  | [] => []
  | t :: ts => lvAll t ++ lvAllL ts
end
theorem lvAll_at {ts : List Tm} {i : Nat} {t : Tm} (h : ts[i]? = some t) : ∀ l ∈ lvAll t, l ∈ lvAllL ts := by
  induction ts generalizing i with
  | nil => simp at h
  | cons x xs ih =>
    intro l hl
    simp only [lvAllL, List.mem_append]
    cases i with
    | zero => simp only [List.getElem?_cons_zero, Option.some.injEq] at h; subst h; exact .inl hl
    | succ i => exact .inr (ih (i := i) (by simpa using h) l hl)

mutual
theorem cnt_bd (lok : Lv → Bool) (deep : Int) (t : Tm) (n : Int) (h0 : 0 ≤ n) (h1 : n ≤ 20000) : 0 ≤ (cnt lok deep t n).2 ∧ (cnt lok deep t n).2 ≤ 20001 ∧ ((cnt lok deep t n).1 = true → (cnt lok deep t n).2 ≤ 20000) := by
  match t with
  | .node k m a ls ks =>
    simp only [cnt]
    split
    · rename_i h
      exact cntL_bd lok (deep + 1) ks (n + 1) (by omega) (by omega)
    · exact ⟨by simp only; omega, by simp only; omega, fun h => by cases h⟩
theorem cntL_bd (lok : Lv → Bool) (deep : Int) (ts : List Tm) (n : Int) (h0 : 0 ≤ n) (h1 : n ≤ 20000) : 0 ≤ (cntL lok deep ts n).2 ∧ (cntL lok deep ts n).2 ≤ 20001 ∧ ((cntL lok deep ts n).1 = true → (cntL lok deep ts n).2 ≤ 20000) := by
  match ts with
  | [] => simp only [cntL]; exact ⟨h0, by omega, fun _ => h1⟩
  | t :: ts =>
    have ht := cnt_bd lok deep t n h0 h1
    simp only [cntL]
    split
    · rename_i h
      exact cntL_bd lok deep ts _ ht.1 (ht.2.2 h)
    · exact ⟨ht.1, ht.2.1, fun h => by cases h⟩
end

/-- What a count leaves: its answer, its counter; all else as it was. -/
def Counted (bn : Nat) (r : Bool × Int) (w : World) (e : Ending) (w' : World) : Prop := e = .returned (.bool r.1) ∧ Box w' bn [.int .i64 r.2] ∧ w.grownBy w' (some bn)

def CountAt (w0 : World) (lok : Lv → Bool) (M : Nat) : Prop := ∀ (deep : Int) (t : Tm) (vl vk : Value) (n : Int) (bn : Nat) (W : World), size t ≤ M → Below w0.heap.size w0 W → w0.heap.size ≤ bn → RT w0 t vl vk → LevelOk (lvAll t) lok w0 →
  Box W bn [.int .i64 n] → 0 ≤ n → n ≤ 20000 → 0 ≤ deep → deep ≤ 401 →
  Calls Tryd.prog 68 #[.agg #[.int .i64 t.kind, .int .i64 t.num, .int .i64 t.atN, vl, vk], .int .i64 deep, .pointer (some ⟨bn, 0, none⟩)] W (Counted bn (cnt lok deep t n) W)

set_option maxRecDepth 100000 in
theorem count1_of {w0 : World} {lok : Lv → Bool} {M : Nat} (HS : CountAt w0 lok M) (deep : Int) (t : Tm) (vl vk : Value) (n : Int) (bn bd bp : Nat) (W : World) (hM : size t ≤ M) (hb : Below w0.heap.size w0 W) (hbn : w0.heap.size ≤ bn)
    (hr : RT w0 t vl vk) (hL : LevelOk (lvAll t) lok w0) (B : Box W bn [.int .i64 n]) (hD : W.cell? ⟨bd, 0, none⟩ = some (.int .i64 deep)) (hP : W.cell? ⟨bp, 0, none⟩ = some (.pointer (some ⟨bn, 0, none⟩))) (h0 : 0 ≤ n) (h1 : n ≤ 20000) (hd0 : 0 ≤ deep) (hd1 : deep ≤ 400) :
    Calls Tryd.prog 104 #[.agg #[.int .i64 t.kind, .int .i64 t.num, .int .i64 t.atN, vl, vk], .pointer (some ⟨bd, 0, none⟩), .pointer (some ⟨bp, 0, none⟩)] W
      (Counted bn (!(cnt lok (deep + 1) t n).1, (cnt lok (deep + 1) t n).2) W) := by
  obtain ⟨A2, n2, c2, A3, n3, c3, rfl, rfl⟩ := hr.forms
  have hcall := fun W' (hb' : Below w0.heap.size w0 W') (B' : Box W' bn [.int .i64 n]) => HS (deep + 1) t _ _ n bn W' hM hb' hbn hr hL B' h0 h1 (by omega) (by omega)
  have hw : IntKind.i64.wrap (deep + 1) = deep + 1 := IntWalk.i64_in _ (by omega)
  have hd := cell_lt hD
  have hp := cell_lt hP
  generalize cnt lok (deep + 1) t n = r at *
  clear HS hr hL
  have HB := Lib.hid B
  have HHB := Lib.hid hb
  clear B hb
  go_enter Tryd.func104, Tryd.ntmps104
  go_wp2_with fail
  refine (hcall _ ?_ ?_).mono ?_
  · exact HHB.out.alloc HHB.out.size _
  · exact HB.out.alloc _
  rintro e w1 ⟨rfl, hB, hg⟩
  clear hcall
  have hg' := (World.grownBy_alloc W _ _).trans hg
  clear hg
  have HBB := Lib.hid hB
  have HG := Lib.hid hg'
  clear hB hg'
  go_wp2_with fail
  go_ret
  exact ⟨rfl, HBB.out, HG.out⟩

end Go.Proofs.YtajpkhkfffdclaaDoor
