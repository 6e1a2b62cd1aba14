/- Data and how it lies in memory, for a calculus of Go's statements over plain data: definitions and that they stay true as memory grows. No condition. -/
import Derived.WalkKit
import Derived.Laws.AppendOwn
import Derived.Below
import Derived.ChangeKeysEq
set_option linter.unusedVariables false
set_option linter.unusedSimpArgs false
namespace Go.Avc
open Go

/-- A datum of one cell: a number, a bool, a string, a slice whose elements are rows of cells. -/
inductive D where
  | int (k : IntKind) (n : Int)
  | bool (b : Bool)
  | str (s : ByteArray)
  | sl (l : List (List D))

/-- A datum that a slot holds: one cell, or a struct's cells. -/
inductive DV where
  | d (x : D)
  | ag (l : List D)

/-- Value v reads as datum x in world w; the blocks of its slices are such as ok tells. -/
inductive Rd (ok : Nat → Prop) (w : World) : D → Value → Prop
  | int (k : IntKind) (n : Int) : Rd ok w (.int k n) (.int k n)
  | bool (b : Bool) : Rd ok w (.bool b) (.bool b)
  | str (s : ByteArray) : Rd ok w (.str s) (.string s)
  | nil (A : Option Addr) (c : Nat) : Rd ok w (.sl []) (.slice A 0 c)
  | sl (l : List (List D)) (z b o c : Nat) (u : Nat → Nat → Value) (hc : l.length ≤ c) (hb : ok b) (hlt : b < w.heap.size)
      (hz : ∀ (i : Nat) (x : List D), l[i]? = some x → x.length = z)
      (hu : ∀ (i : Nat) (x : List D), l[i]? = some x → ∀ (j : Nat) (y : D), x[j]? = some y → w.cell? ⟨b, o + i * z + j, none⟩ = some (u i j))
      (hr : ∀ (i : Nat) (x : List D), l[i]? = some x → ∀ (j : Nat) (y : D), x[j]? = some y → Rd ok w y (u i j)) : Rd ok w (.sl l) (.slice (some ⟨b, o, none⟩) l.length c)

theorem cell_congr {w w' : World} {a : Addr} (h : w'.heap[a.block]? = w.heap[a.block]?) : w'.cell? a = w.cell? a := by
  unfold World.cell?
  rw [h]

theorem Rd.mono {ok ok' : Nat → Prop} {w w' : World} {x : D} {v : Value} (h : Rd ok w x v) (hs : w.heap.size ≤ w'.heap.size)
    (hk : ∀ b, ok b → b < w.heap.size → ok' b) (hw : ∀ b, ok b → b < w.heap.size → w'.heap[b]? = w.heap[b]?) : Rd ok' w' x v := by
  induction h with
  | int k n => exact .int k n
  | bool b => exact .bool b
  | str s => exact .str s
  | nil A c => exact .nil A c
  | sl l z b o c u hc hb hlt hz hu hr ih =>
    exact .sl l z b o c u hc (hk b hb hlt) (by omega) hz (fun i x hi j y hj => (cell_congr (hw b hb hlt)).trans (hu i x hi j y hj)) ih

/-- Cells in a row. -/
def RdL (ok : Nat → Prop) (w : World) (l : List D) (cs : List Value) : Prop := l.length = cs.length ∧ ∀ (j : Nat) (x : D) (v : Value), l[j]? = some x → cs[j]? = some v → Rd ok w x v

theorem RdL.mono {ok ok' : Nat → Prop} {w w' : World} {l : List D} {cs : List Value} (h : RdL ok w l cs) (hs : w.heap.size ≤ w'.heap.size)
    (hk : ∀ b, ok b → b < w.heap.size → ok' b) (hw : ∀ b, ok b → b < w.heap.size → w'.heap[b]? = w.heap[b]?) : RdL ok' w' l cs :=
  ⟨h.1, fun j x v hx hv => (h.2 j x v hx hv).mono hs hk hw⟩

theorem RdL.nil {ok : Nat → Prop} {w : World} : RdL ok w [] [] := ⟨rfl, fun j x v hx => by simp at hx⟩
theorem RdL.one {ok : Nat → Prop} {w : World} {x : D} {v : Value} (h : Rd ok w x v) : RdL ok w [x] [v] := by
  refine ⟨rfl, fun j y u hy hu => ?_⟩
  cases j with
  | zero => simp only [List.getElem?_cons_zero, Option.some.injEq] at hy hu; subst hy; subst hu; exact h
  | succ j => simp at hy
theorem RdL.append {ok : Nat → Prop} {w : World} {l m : List D} {cs ds : List Value} (h : RdL ok w l cs) (k : RdL ok w m ds) : RdL ok w (l ++ m) (cs ++ ds) := by
  refine ⟨by rw [List.length_append, List.length_append, h.1, k.1], fun j x v hx hv => ?_⟩
  by_cases hj : j < l.length
  · rw [List.getElem?_append_left hj] at hx
    rw [List.getElem?_append_left (by rw [← h.1]; exact hj)] at hv
    exact h.2 j x v hx hv
  · rw [List.getElem?_append_right (by omega)] at hx
    rw [List.getElem?_append_right (by rw [← h.1]; omega), ← h.1] at hv
    exact k.2 _ x v hx hv
theorem RdL.slice {ok : Nat → Prop} {w : World} {l : List D} {cs : List Value} (h : RdL ok w l cs) (a n : Nat) : RdL ok w ((l.drop a).take n) ((cs.drop a).take n) := by
  refine ⟨by simp [h.1], fun j x v hx hv => ?_⟩
  rw [List.getElem?_take] at hx hv
  by_cases hj : j < n
  · rw [if_pos hj, List.getElem?_drop] at hx hv
    exact h.2 _ x v hx hv
  · rw [if_neg hj] at hx
    cases hx
theorem RdL.get {ok : Nat → Prop} {w : World} {l : List D} {cs : List Value} (h : RdL ok w l cs) {j : Nat} {x : D} (hx : l[j]? = some x) : ∃ v, cs[j]? = some v ∧ Rd ok w x v := by
  have hj : j < l.length := (List.getElem?_eq_some_iff.1 hx).1
  have hc : cs[j]? = some (cs[j]'(by rw [← h.1]; exact hj)) := List.getElem?_eq_getElem _
  exact ⟨_, hc, h.2 j x _ hx hc⟩

def RdV (ok : Nat → Prop) (w : World) : DV → Value → Prop
  | .d x, v => Rd ok w x v
  | .ag l, v => ∃ cs : List Value, v = .agg cs.toArray ∧ RdL ok w l cs

theorem RdV.mono {ok ok' : Nat → Prop} {w w' : World} {x : DV} {v : Value} (h : RdV ok w x v) (hs : w.heap.size ≤ w'.heap.size)
    (hk : ∀ b, ok b → b < w.heap.size → ok' b) (hw : ∀ b, ok b → b < w.heap.size → w'.heap[b]? = w.heap[b]?) : RdV ok' w' x v := by
  cases x with
  | d x => exact Rd.mono h hs hk hw
  | ag l => obtain ⟨cs, hv, hc⟩ := h; exact ⟨cs, hv, hc.mono hs hk hw⟩

def DV.cells : DV → List D
  | .d x => [x]
  | .ag l => l

theorem Rd.one {ok : Nat → Prop} {w : World} {x : D} {v : Value} (h : Rd ok w x v) : v.cells = #[v] ∧ v.oneCell' = true := by
  cases h <;> exact ⟨rfl, rfl⟩

theorem RdV.cells {ok : Nat → Prop} {w : World} {x : DV} {v : Value} (h : RdV ok w x v) : RdL ok w x.cells v.cells.toList := by
  cases x with
  | d x =>
    rw [(Rd.one h).1]
    exact RdL.one h
  | ag l =>
    obtain ⟨cs, rfl, hc⟩ := h
    exact hc

theorem RdL.oneCell {ok : Nat → Prop} {w : World} {l : List D} {cs : List Value} (h : RdL ok w l cs) : ∀ u ∈ cs, u.oneCell' = true := by
  intro u hu
  obtain ⟨j, hj, rfl⟩ := List.mem_iff_getElem.1 hu
  have hl : j < l.length := by rw [h.1]; exact hj
  exact (h.2 j l[j] cs[j] (List.getElem?_eq_getElem hl) (List.getElem?_eq_getElem hj)).one.2

/-! ### The world grows: all blocks that were there are as they were, but for the stream's. -/
structure Gr (g : Option Nat) (w w' : World) : Prop where
  os : w'.os = w.os
  tape : w'.tape = w.tape
  output : w'.output = w.output
  size : w.heap.size ≤ w'.heap.size
  block : ∀ b, b < w.heap.size → g ≠ some b → w'.heap[b]? = w.heap[b]?

theorem Gr.refl (g : Option Nat) (w : World) : Gr g w w := ⟨rfl, rfl, rfl, Nat.le_refl _, fun _ _ _ => rfl⟩
theorem Gr.trans {g : Option Nat} {a b c : World} (h : Gr g a b) (k : Gr g b c) : Gr g a c :=
  ⟨k.os.trans h.os, k.tape.trans h.tape, k.output.trans h.output, Nat.le_trans h.size k.size, fun i hi hg => (k.block i (Nat.lt_of_lt_of_le hi h.size) hg).trans (h.block i hi hg)⟩
theorem Gr.drew (g : Option Nat) (w : World) : Gr g w w.drew := ⟨rfl, rfl, rfl, Nat.le_refl _, fun _ _ _ => rfl⟩
theorem Gr.alloc (g : Option Nat) (w : World) (o : Obj) : Gr g w (w.alloc o) :=
  ⟨rfl, rfl, rfl, by show w.heap.size ≤ (w.heap.push o).size; simp, fun b hb _ => by
    show (w.heap.push o)[b]? = _
    rw [Array.getElem?_push, if_neg (Nat.ne_of_lt hb)]⟩

/-- What stands fast while a function runs: the program, the stream's block and its numbers, its type, the package-level variables that are read. -/
structure Cx where
  P : Program
  g : Option Nat
  L : List Int
  ST : TypeId
  ng : Nat
  glob : Nat → Option (List D)

/-- The stream lies at its block, its count between 0 and N. -/
def StAt (cx : Cx) (N : Nat) (w : World) : Prop := ∀ b, cx.g = some b → cx.ng ≤ b ∧ ∃ (A : Option Addr) (c : Nat) (n : Int),
  w.heap[b]? = some (.cells #[.slice A cx.L.length c, .int .i64 n] cx.ST (0, 0)) ∧ 0 ≤ n ∧ n ≤ N ∧ Rd (fun k => k < b) w (.sl (cx.L.map fun x => [.int .i64 x])) (.slice A cx.L.length c)
/-- The package-level variables hold what they hold. -/
def GlAt (cx : Cx) (w : World) : Prop := ∀ k l, cx.glob k = some l → k < cx.ng ∧ k < w.heap.size ∧ ∃ cs : List Value, (∀ (j : Nat) (u : Value), cs[j]? = some u → w.cell? ⟨k, j, none⟩ = some u) ∧ RdL (fun b => b < cx.ng) w l cs

theorem StAt.le {cx : Cx} {N M : Nat} {w : World} (h : StAt cx N w) (hm : N ≤ M) : StAt cx M w := fun b hb => by
  obtain ⟨h0, A, c, n, h1, h2, h3, h4⟩ := h b hb
  exact ⟨h0, A, c, n, h1, h2, by omega, h4⟩
theorem StAt.lt {cx : Cx} {N : Nat} {w : World} (h : StAt cx N w) {b : Nat} (hb : cx.g = some b) : b < w.heap.size := by
  obtain ⟨_, A, c, n, h1, _⟩ := h b hb
  exact (Array.getElem?_eq_some_iff.1 h1).1
theorem StAt.keep2 {cx : Cx} {N : Nat} {w w' : World} (h : StAt cx N w) (hs : w.heap.size ≤ w'.heap.size) (hw : ∀ b b', cx.g = some b → b' ≤ b → w'.heap[b']? = w.heap[b']?) : StAt cx N w' := fun b hb => by
  obtain ⟨h0, A, c, n, h1, h2, h3, h4⟩ := h b hb
  exact ⟨h0, A, c, n, (hw b b hb (Nat.le_refl _)).trans h1, h2, h3, h4.mono hs (fun _ h _ => h) (fun k hk _ => hw b k hb (Nat.le_of_lt hk))⟩
theorem StAt.keep {cx : Cx} {N : Nat} {w w' : World} (h : StAt cx N w) (hs : w.heap.size ≤ w'.heap.size) (hw : ∀ b, b < w.heap.size → w'.heap[b]? = w.heap[b]?) : StAt cx N w' :=
  h.keep2 hs fun b b' hb hle => hw b' (Nat.lt_of_le_of_lt hle (h.lt hb))
theorem GlAt.keep {cx : Cx} {N : Nat} {w w' : World} (h : GlAt cx w) (hst : StAt cx N w) (hg : Gr cx.g w w') : GlAt cx w' := fun k l hk => by
  obtain ⟨h0, h1, cs, h2, h3⟩ := h k l hk
  have hne : ∀ b, b < cx.ng → cx.g ≠ some b := fun b hb e => by have := (hst b e).1; omega
  exact ⟨h0, by have := hg.size; omega, cs, fun j u hj => (cell_congr (a := ⟨k, j, none⟩) (hg.block k h1 (hne k h0))).trans (h2 j u hj), h3.mono hg.size (fun _ h _ => h) (fun b hb hlt => hg.block b hlt (hne b hb))⟩
end Go.Avc
