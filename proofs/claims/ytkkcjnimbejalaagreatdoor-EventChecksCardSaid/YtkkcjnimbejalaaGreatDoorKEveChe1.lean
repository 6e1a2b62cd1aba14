/- Data and how it lies in memory, for a calculus of Go's statements over plain data: definitions and that they stay true as memory grows. No condition. -/
import Derived.WalkKit
import Derived.Laws.AppendOwn
import Derived.Below
import Derived.ChangeKeysEq
import Derived.Lib.AppendStr
import Derived.Laws.Cells
import Derived.Laws.StructEq
import Derived.Laws.Slices
import Derived.Laws.BytesArg
import Derived.Laws.Rows
import Derived.Laws.Tables
import Derived.MapKept
import Derived.WideKeyRuns
import Derived.Maps.AppendAt
import Derived.Laws.CopyRow
import Derived.Laws.MakeOwn
import Derived.Deep.OwnRows
set_option linter.unusedVariables false
set_option linter.unusedSimpArgs false
namespace Go.Avc
open Go

/-- A datum of one cell: a number, a bool, a string, a slice whose elements are rows of cells. -/
inductive D where
  | int (k : IntKind) (n : Int)
  | bool (b : Bool)
  | str (s : ByteArray)
  | sl (l : List (List D))

/-- A datum that a slot holds: one cell, or a struct's cells. -/
inductive DV where
  | d (x : D)
  | ag (l : List D)

/-- Value v reads as datum x in world w; the blocks of its slices are such as ok tells. -/
inductive Rd (ok : Nat → Prop) (w : World) : D → Value → Prop
  | int (k : IntKind) (n : Int) : Rd ok w (.int k n) (.int k n)
  | bool (b : Bool) : Rd ok w (.bool b) (.bool b)
  | str (s : ByteArray) : Rd ok w (.str s) (.string s)
  | nil (A : Option Addr) (c : Nat) : Rd ok w (.sl []) (.slice A 0 c)
  | sl (l : List (List D)) (z b o c : Nat) (u : Nat → Nat → Value) (hc : l.length ≤ c) (hb : ok b) (hlt : b < w.heap.size)
      (hz : ∀ (i : Nat) (x : List D), l[i]? = some x → x.length = z)
      (hu : ∀ (i : Nat) (x : List D), l[i]? = some x → ∀ (j : Nat) (y : D), x[j]? = some y → w.cell? ⟨b, o + i * z + j, none⟩ = some (u i j))
      (hr : ∀ (i : Nat) (x : List D), l[i]? = some x → ∀ (j : Nat) (y : D), x[j]? = some y → Rd ok w y (u i j)) : Rd ok w (.sl l) (.slice (some ⟨b, o, none⟩) l.length c)

theorem cell_congr {w w' : World} {a : Addr} (h : w'.heap[a.block]? = w.heap[a.block]?) : w'.cell? a = w.cell? a := by
  unfold World.cell?
  rw [h]

theorem Rd.mono {ok ok' : Nat → Prop} {w w' : World} {x : D} {v : Value} (h : Rd ok w x v) (hs : w.heap.size ≤ w'.heap.size)
    (hk : ∀ b, ok b → b < w.heap.size → ok' b) (hw : ∀ b, ok b → b < w.heap.size → w'.heap[b]? = w.heap[b]?) : Rd ok' w' x v := by
  induction h with
  | int k n => exact .int k n
  | bool b => exact .bool b
  | str s => exact .str s
  | nil A c => exact .nil A c
  | sl l z b o c u hc hb hlt hz hu hr ih =>
    exact .sl l z b o c u hc (hk b hb hlt) (by omega) hz (fun i x hi j y hj => (cell_congr (hw b hb hlt)).trans (hu i x hi j y hj)) ih

/-- Cells in a row. -/
def RdL (ok : Nat → Prop) (w : World) (l : List D) (cs : List Value) : Prop := l.length = cs.length ∧ ∀ (j : Nat) (x : D) (v : Value), l[j]? = some x → cs[j]? = some v → Rd ok w x v

theorem RdL.mono {ok ok' : Nat → Prop} {w w' : World} {l : List D} {cs : List Value} (h : RdL ok w l cs) (hs : w.heap.size ≤ w'.heap.size)
    (hk : ∀ b, ok b → b < w.heap.size → ok' b) (hw : ∀ b, ok b → b < w.heap.size → w'.heap[b]? = w.heap[b]?) : RdL ok' w' l cs :=
  ⟨h.1, fun j x v hx hv => (h.2 j x v hx hv).mono hs hk hw⟩

theorem RdL.nil {ok : Nat → Prop} {w : World} : RdL ok w [] [] := ⟨rfl, fun j x v hx => by simp at hx⟩
theorem RdL.one {ok : Nat → Prop} {w : World} {x : D} {v : Value} (h : Rd ok w x v) : RdL ok w [x] [v] := by
  refine ⟨rfl, fun j y u hy hu => ?_⟩
  cases j with
  | zero => simp only [List.getElem?_cons_zero, Option.some.injEq] at hy hu; subst hy; subst hu; exact h
  | succ j => simp at hy
theorem RdL.append {ok : Nat → Prop} {w : World} {l m : List D} {cs ds : List Value} (h : RdL ok w l cs) (k : RdL ok w m ds) : RdL ok w (l ++ m) (cs ++ ds) := by
  refine ⟨by rw [List.length_append, List.length_append, h.1, k.1], fun j x v hx hv => ?_⟩
  by_cases hj : j < l.length
  · rw [List.getElem?_append_left hj] at hx
    rw [List.getElem?_append_left (by rw [← h.1]; exact hj)] at hv
    exact h.2 j x v hx hv
  · rw [List.getElem?_append_right (by omega)] at hx
    rw [List.getElem?_append_right (by rw [← h.1]; omega), ← h.1] at hv
    exact k.2 _ x v hx hv
theorem RdL.slice {ok : Nat → Prop} {w : World} {l : List D} {cs : List Value} (h : RdL ok w l cs) (a n : Nat) : RdL ok w ((l.drop a).take n) ((cs.drop a).take n) := by
  refine ⟨by simp [h.1], fun j x v hx hv => ?_⟩
  rw [List.getElem?_take] at hx hv
  by_cases hj : j < n
  · rw [if_pos hj, List.getElem?_drop] at hx hv
    exact h.2 _ x v hx hv
  · rw [if_neg hj] at hx
    cases hx
theorem RdL.get {ok : Nat → Prop} {w : World} {l : List D} {cs : List Value} (h : RdL ok w l cs) {j : Nat} {x : D} (hx : l[j]? = some x) : ∃ v, cs[j]? = some v ∧ Rd ok w x v := by
  have hj : j < l.length := (List.getElem?_eq_some_iff.1 hx).1
  have hc : cs[j]? = some (cs[j]'(by rw [← h.1]; exact hj)) := List.getElem?_eq_getElem _
  exact ⟨_, hc, h.2 j x _ hx hc⟩

def RdV (ok : Nat → Prop) (w : World) : DV → Value → Prop
  | .d x, v => Rd ok w x v
  | .ag l, v => ∃ cs : List Value, v = .agg cs.toArray ∧ RdL ok w l cs

theorem RdV.mono {ok ok' : Nat → Prop} {w w' : World} {x : DV} {v : Value} (h : RdV ok w x v) (hs : w.heap.size ≤ w'.heap.size)
    (hk : ∀ b, ok b → b < w.heap.size → ok' b) (hw : ∀ b, ok b → b < w.heap.size → w'.heap[b]? = w.heap[b]?) : RdV ok' w' x v := by
  cases x with
  | d x => exact Rd.mono h hs hk hw
  | ag l => obtain ⟨cs, hv, hc⟩ := h; exact ⟨cs, hv, hc.mono hs hk hw⟩

def DV.cells : DV → List D
  | .d x => [x]
  | .ag l => l

theorem Rd.one {ok : Nat → Prop} {w : World} {x : D} {v : Value} (h : Rd ok w x v) : v.cells = #[v] ∧ v.oneCell' = true := by
  cases h <;> exact ⟨rfl, rfl⟩

theorem RdV.cells {ok : Nat → Prop} {w : World} {x : DV} {v : Value} (h : RdV ok w x v) : RdL ok w x.cells v.cells.toList := by
  cases x with
  | d x =>
    rw [(Rd.one h).1]
    exact RdL.one h
  | ag l =>
    obtain ⟨cs, rfl, hc⟩ := h
    exact hc

theorem RdL.oneCell {ok : Nat → Prop} {w : World} {l : List D} {cs : List Value} (h : RdL ok w l cs) : ∀ u ∈ cs, u.oneCell' = true := by
  intro u hu
  obtain ⟨j, hj, rfl⟩ := List.mem_iff_getElem.1 hu
  have hl : j < l.length := by rw [h.1]; exact hj
  exact (h.2 j l[j] cs[j] (List.getElem?_eq_getElem hl) (List.getElem?_eq_getElem hj)).one.2

/-! ### The world grows: all blocks that were there are as they were, but for the stream's. -/
structure Gr (g : Option Nat) (w w' : World) : Prop where
  os : w'.os = w.os
  tape : w'.tape = w.tape
  output : w'.output = w.output
  size : w.heap.size ≤ w'.heap.size
  block : ∀ b, b < w.heap.size → g ≠ some b → w'.heap[b]? = w.heap[b]?

theorem Gr.refl (g : Option Nat) (w : World) : Gr g w w := ⟨rfl, rfl, rfl, Nat.le_refl _, fun _ _ _ => rfl⟩
theorem Gr.trans {g : Option Nat} {a b c : World} (h : Gr g a b) (k : Gr g b c) : Gr g a c :=
  ⟨k.os.trans h.os, k.tape.trans h.tape, k.output.trans h.output, Nat.le_trans h.size k.size, fun i hi hg => (k.block i (Nat.lt_of_lt_of_le hi h.size) hg).trans (h.block i hi hg)⟩
theorem Gr.alloc (g : Option Nat) (w : World) (o : Obj) : Gr g w (w.alloc o) :=
  ⟨rfl, rfl, rfl, by show w.heap.size ≤ (w.heap.push o).size; simp, fun b hb _ => by
    show (w.heap.push o)[b]? = _
    rw [Array.getElem?_push, if_neg (Nat.ne_of_lt hb)]⟩

/-- What stands fast while a function runs: the program, the stream's block and its numbers, its type, the package-level variables that are read. -/
structure Cx where
  P : Program
  g : Option Nat
  L : List Int
  ST : TypeId
  ng : Nat
  glob : Nat → Option (List D)

/-- The stream lies at its block, its count between 0 and N. -/
def StAt (cx : Cx) (N : Nat) (w : World) : Prop := ∀ b, cx.g = some b → cx.ng ≤ b ∧ ∃ (A : Option Addr) (c : Nat) (n : Int),
  w.heap[b]? = some (.cells #[.slice A cx.L.length c, .int .i64 n] cx.ST (0, 0)) ∧ 0 ≤ n ∧ n ≤ N ∧ Rd (fun k => k < b) w (.sl (cx.L.map fun x => [.int .i64 x])) (.slice A cx.L.length c)
/-- The package-level variables hold what they hold. -/
def GlAt (cx : Cx) (w : World) : Prop := ∀ k l, cx.glob k = some l → k < cx.ng ∧ k < w.heap.size ∧ ∃ cs : List Value, (∀ (j : Nat) (u : Value), cs[j]? = some u → w.cell? ⟨k, j, none⟩ = some u) ∧ RdL (fun b => b < cx.ng) w l cs

theorem StAt.le {cx : Cx} {N M : Nat} {w : World} (h : StAt cx N w) (hm : N ≤ M) : StAt cx M w := fun b hb => by
  obtain ⟨h0, A, c, n, h1, h2, h3, h4⟩ := h b hb
  exact ⟨h0, A, c, n, h1, h2, by omega, h4⟩
theorem StAt.lt {cx : Cx} {N : Nat} {w : World} (h : StAt cx N w) {b : Nat} (hb : cx.g = some b) : b < w.heap.size := by
  obtain ⟨_, A, c, n, h1, _⟩ := h b hb
  exact (Array.getElem?_eq_some_iff.1 h1).1
theorem StAt.keep2 {cx : Cx} {N : Nat} {w w' : World} (h : StAt cx N w) (hs : w.heap.size ≤ w'.heap.size) (hw : ∀ b b', cx.g = some b → b' ≤ b → w'.heap[b']? = w.heap[b']?) : StAt cx N w' := fun b hb => by
  obtain ⟨h0, A, c, n, h1, h2, h3, h4⟩ := h b hb
  exact ⟨h0, A, c, n, (hw b b hb (Nat.le_refl _)).trans h1, h2, h3, h4.mono hs (fun _ h _ => h) (fun k hk _ => hw b k hb (Nat.le_of_lt hk))⟩
theorem StAt.keep {cx : Cx} {N : Nat} {w w' : World} (h : StAt cx N w) (hs : w.heap.size ≤ w'.heap.size) (hw : ∀ b, b < w.heap.size → w'.heap[b]? = w.heap[b]?) : StAt cx N w' :=
  h.keep2 hs fun b b' hb hle => hw b' (Nat.lt_of_le_of_lt hle (h.lt hb))
theorem GlAt.keep {cx : Cx} {N : Nat} {w w' : World} (h : GlAt cx w) (hst : StAt cx N w) (hg : Gr cx.g w w') : GlAt cx w' := fun k l hk => by
  obtain ⟨h0, h1, cs, h2, h3⟩ := h k l hk
  have hne : ∀ b, b < cx.ng → cx.g ≠ some b := fun b hb e => by have := (hst b e).1; omega
  exact ⟨h0, by have := hg.size; omega, cs, fun j u hj => (cell_congr (a := ⟨k, j, none⟩) (hg.block k h1 (hne k h0))).trans (h2 j u hj), h3.mono hg.size (fun _ h _ => h) (fun b hb hlt => hg.block b hlt (hne b hb))⟩
end Go.Avc

namespace Go.Avc
open Go

/-- What a function value does, over data. -/
structure FSpec where
  pre : List DV → Prop
  post : List DV → DV → Prop

inductive AV where
  | dv (x : DV)
  | own (k : Nat)
  | ptr (k off : Nat)
  | eptr (k i z off : Nat)
  | dp (l : List D)
  | st
  | fn (f : FuncId) (ks : List Nat)
  | fv (sp : FSpec)
  | nil
  | lit (e : TypeId) (l : List (List D))
  | sv (l : List (List D)) (A : Option Addr) (c : Nat)
  | agz (l : List D) (zs : List Nat)
  | ago (l : List D) (j k : Nat)
  | agv (t : AV)
  | tnil
  | tcons (a t : AV)
  | un

inductive Ob where
  | box (T : TypeId) (cs : List AV)
  | arr (e : TypeId) (z : Nat) (l : List (List D))
  | bld (T : TypeId) (k : Nat)
  | mp (T : TypeId) (l : List (D × D))

/-- Abstract frame: slots, objects, how often the stream was asked at most. -/
structure St where
  s : Nat → AV
  o : Nat → Option Ob
  c : Nat

def upd {α : Type} (s : Nat → α) (d : Nat) (r : α) : Nat → α := fun t => if t = d then r else s t
theorem upd_apply {α : Type} (s : Nat → α) (d t : Nat) (r : α) : upd s d r t = if t = d then r else s t := rfl
def St.put (σ : St) : Option Tmp → AV → St
  | some d, r => { σ with s := upd σ.s d r }
  | none, _ => σ

/-- f has a Go body. -/
def Enters (P : Program) (f : FuncId) : Prop := ∃ fn, P.funcs[f]? = some fn ∧ (fn.name == "runtime.NumGoroutine") = false ∧ fn.body.isNone = false

/-- N: how often the stream was asked at most when the function began; B: how often it may ask; n: its slots. -/
structure Fr where
  cx : Cx
  w0 : World
  ok : Nat → Prop
  N : Nat
  B : Nat
  n : Nat
  w1 : World
  ex : Nat → Prop

structure Fr.Wf (F : Fr) : Prop where
  ok : ∀ b, F.ok b → b < F.w0.heap.size ∧ F.cx.g ≠ some b
  gl : ∀ b, b < F.cx.ng → F.ok b
  g : ∀ b, F.cx.g = some b → b < F.w0.heap.size
  nb : F.N + F.B ≤ 4611686018427387904

/-- Called in a later world with data that meet pre, it returns a datum as post says. -/
def Callable (cx : Cx) (w0 : World) (sp : FSpec) (v : Value) : Prop := ∃ (f : FuncId) (caps : Array Value), v = .func (.func f) #[] caps ∧ Enters cx.P f ∧
  ∀ (w' : World) (N : Nat) (ok : Nat → Prop) (as : List DV) (vals : List Value), Gr cx.g w0 w' → StAt cx N w' → GlAt cx w' → N ≤ 4611686018427387904 → (∀ b, ok b → b < w'.heap.size ∧ cx.g ≠ some b) → (∀ b, b < cx.ng → ok b) →
    as.length = vals.length → (∀ (i : Nat) (a : DV) (u : Value), as[i]? = some a → vals[i]? = some u → RdV ok w' a u) → sp.pre as →
    Calls cx.P f (vals.toArray ++ caps) w' fun e w'' => ∃ v r, e = .returned v ∧ sp.post as r ∧ RdV (fun b => ok b ∨ w'.heap.size ≤ b) w'' r v ∧ Gr cx.g w' w'' ∧ StAt cx N w''

theorem Callable.later {cx : Cx} {w0 w1 : World} {sp : FSpec} {v : Value} (h : Callable cx w0 sp v) (hg : Gr cx.g w0 w1) : Callable cx w1 sp v := by
  obtain ⟨f, caps, hv, hen, hc⟩ := h
  exact ⟨f, caps, hv, hen, fun w' N ok as vals h1 => hc w' N ok as vals (hg.trans h1)⟩

/-- A slice just written out: its room is its length, and its row is new (of type e). -/
def litR (w0 : World) (ok : Nat → Prop) (w : World) (e : TypeId) (l : List (List D)) (v : Value) : Prop :=
  (∃ A, v = .slice A l.length l.length) ∧ Rd ok w (.sl l) v ∧ (l = [] ∨ ∃ (b : Nat) (vs : Array Value) (z : Nat), v = .slice (some ⟨b, 0, none⟩) l.length l.length ∧ w0.heap.size ≤ b ∧ ok b ∧ b < w.heap.size ∧ w.heap[b]? = some (.cells vs e (0, 0)) ∧ vs.size = l.length * z ∧ l.length ≤ 16777216 ∧ (∀ (i : Nat) (x : List D), l[i]? = some x → x.length = z) ∧ RdL ok w l.flatten vs.toList)
theorem litR.mono {w0 : World} {ok ok' : Nat → Prop} {w w' : World} {e : TypeId} {l : List (List D)} {v : Value} (h : litR w0 ok w e l v) (hs : w.heap.size ≤ w'.heap.size) (hk : ∀ b, ok b → b < w.heap.size → ok' b)
    (hw : ∀ b, ok b → b < w.heap.size → w'.heap[b]? = w.heap[b]?) : litR w0 ok' w' e l v :=
  ⟨h.1, h.2.1.mono hs hk hw, h.2.2.imp id fun ⟨b, vs, z, h1, h2, h3, h4, h5, h6, h7, h8, h9⟩ => ⟨b, vs, z, h1, h2, hk b h3 h4, by omega, (hw b h3 h4).trans h5, h6, h7, h8, h9.mono hs hk hw⟩⟩
def rel0 (cx : Cx) (w0 : World) (ok : Nat → Prop) (ρ : Nat → Value) (w : World) : AV → Value → Prop
  | .dv x, v => RdV ok w x v
  | .own k, v => v = ρ k
  | .ptr k off, v => ∃ b, ρ k = .pointer (some ⟨b, 0, none⟩) ∧ v = .pointer (some ⟨b, off, none⟩)
  | .eptr k i z off, v => ∃ b n c, ρ k = .slice (some ⟨b, 0, none⟩) n c ∧ v = .pointer (some ⟨b, i * z + off, none⟩)
  | .dp l, v => ∃ (b o : Nat) (cs : List Value), v = .pointer (some ⟨b, o, none⟩) ∧ ok b ∧ b < w.heap.size ∧ (∀ (j : Nat) (u : Value), cs[j]? = some u → w.cell? ⟨b, o + j, none⟩ = some u) ∧ RdL ok w l cs
  | .st, v => ∃ b, cx.g = some b ∧ v = .pointer (some ⟨b, 0, none⟩)
  | .fn f ks, v => v = .func (.func f) #[] (ks.map ρ).toArray
  | .fv sp, v => Callable cx w0 sp v
  | .nil, v => v = .slice none 0 0
  | .lit e l, v => litR w0 ok w e l v
  | .sv l A c, v => v = .slice A l.length c ∧ Rd ok w (.sl l) v
  | .agz l zs, v => RdV ok w (.ag l) v ∧ ∀ j ∈ zs, (j < 1000 ∧ v.cells[j]? = some (.slice none 0 0)) ∨ ∃ i e m u, j = 1000 * (e + 1) + i ∧ i < 1000 ∧ v.cells[i]? = some u ∧ l[i]? = some (.sl m) ∧ litR w0 ok w e m u
  | .ago l j k, v => ∃ cs : List Value, v = .agg cs.toArray ∧ l.length = cs.length ∧ (∀ u, cs[j]? = some u → u = ρ k) ∧ ∀ (i : Nat) (x : D) (u : Value), i ≠ j → l[i]? = some x → cs[i]? = some u → Rd ok w x u
  | .un, _ => True
  | _, _ => False

def relT (cx : Cx) (w0 : World) (ok : Nat → Prop) (ρ : Nat → Value) (w : World) : AV → List Value → Prop
  | .tnil, vs => vs = []
  | .tcons a t, vs => ∃ v r, vs = v :: r ∧ rel0 cx w0 ok ρ w a v ∧ relT cx w0 ok ρ w t r
  | _, _ => False

def relA (cx : Cx) (w0 : World) (ok : Nat → Prop) (ρ : Nat → Value) (w : World) : AV → Value → Prop
  | .tnil, v => v = .tuple #[]
  | .tcons a t, v => ∃ vs : List Value, v = .tuple vs.toArray ∧ relT cx w0 ok ρ w (.tcons a t) vs
  | .agv t, v => ∃ vs : List Value, v = .agg vs.toArray ∧ relT cx w0 ok ρ w t vs
  | a, v => rel0 cx w0 ok ρ w a v

def AV.tup : AV → Bool
  | .tnil | .tcons _ _ | .agv _ => true
  | _ => false
theorem relA_eq {cx : Cx} {w0 : World} {ok : Nat → Prop} {ρ : Nat → Value} {w : World} {a : AV} (h : a.tup = false) (v : Value) : relA cx w0 ok ρ w a v = rel0 cx w0 ok ρ w a v := by
  cases a <;> first | rfl | cases h
theorem relA_of0 {cx : Cx} {w0 : World} {ok : Nat → Prop} {ρ : Nat → Value} {w : World} {a : AV} {v : Value} (h : rel0 cx w0 ok ρ w a v) : relA cx w0 ok ρ w a v := by
  cases a <;> first | exact h | cases h

section
variable {cx : Cx} {w0 : World} {ok ok' : Nat → Prop} {ρ : Nat → Value} {w w' : World}

theorem rel0.mono {a : AV} {v : Value} (h : rel0 cx w0 ok ρ w a v) (h1 : Gr cx.g w0 w0) (hs : w.heap.size ≤ w'.heap.size) (hk : ∀ b, ok b → b < w.heap.size → ok' b)
    (hw : ∀ b, ok b → b < w.heap.size → w'.heap[b]? = w.heap[b]?) : rel0 cx w0 ok' ρ w' a v := by
  cases a with
  | dv x => exact RdV.mono h hs hk hw
  | dp l =>
    obtain ⟨b, o, cs, hv, hb, hlt, hc, hl⟩ := h
    exact ⟨b, o, cs, hv, hk b hb hlt, by omega, fun j u hj => (cell_congr (hw b hb hlt)).trans (hc j u hj), hl.mono hs hk hw⟩
  | fv sp => exact Callable.later h h1
  | lit e l => exact litR.mono h hs hk hw
  | sv l A c => exact ⟨h.1, h.2.mono hs hk hw⟩
  | agz l zs => exact ⟨RdV.mono h.1 hs hk hw, fun j hj => (h.2 j hj).imp id fun ⟨i, e, m, u, e1, e2, e3, e4, e5⟩ => ⟨i, e, m, u, e1, e2, e3, e4, e5.mono hs hk hw⟩⟩
  | ago l j k =>
    obtain ⟨cs, h1, h2, h3, h4⟩ := h
    exact ⟨cs, h1, h2, h3, fun i x u hi hx hu => (h4 i x u hi hx hu).mono hs hk hw⟩
  | _ => exact h

theorem relT.mono : ∀ {a : AV} {vs : List Value}, relT cx w0 ok ρ w a vs → Gr cx.g w0 w0 → w.heap.size ≤ w'.heap.size → (∀ b, ok b → b < w.heap.size → ok' b) →
    (∀ b, ok b → b < w.heap.size → w'.heap[b]? = w.heap[b]?) → relT cx w0 ok' ρ w' a vs
  | .tnil, _, h, _, _, _, _ => h
  | .tcons _ _, _, h, h1, hs, hk, hw => by
    obtain ⟨v, r, hv, ha, ht⟩ := h
    exact ⟨v, r, hv, ha.mono h1 hs hk hw, relT.mono ht h1 hs hk hw⟩

theorem relA.mono {a : AV} {v : Value} (h : relA cx w0 ok ρ w a v) (h1 : Gr cx.g w0 w0) (hs : w.heap.size ≤ w'.heap.size) (hk : ∀ b, ok b → b < w.heap.size → ok' b)
    (hw : ∀ b, ok b → b < w.heap.size → w'.heap[b]? = w.heap[b]?) : relA cx w0 ok' ρ w' a v := by
  cases a with
  | tnil => exact h
  | tcons a t => obtain ⟨vs, hv, ht⟩ := h; exact ⟨vs, hv, ht.mono h1 hs hk hw⟩
  | agv t => obtain ⟨vs, hv, ht⟩ := h; exact ⟨vs, hv, ht.mono h1 hs hk hw⟩
  | dv x => exact rel0.mono (ρ := ρ) (a := .dv x) h h1 hs hk hw
  | dp l => exact rel0.mono (ρ := ρ) (a := .dp l) h h1 hs hk hw
  | fv sp => exact rel0.mono (ρ := ρ) (a := .fv sp) h h1 hs hk hw
  | lit e l => exact rel0.mono (ρ := ρ) (a := .lit e l) h h1 hs hk hw
  | sv l A c => exact rel0.mono (ρ := ρ) (a := .sv l A c) h h1 hs hk hw
  | agz l zs => exact rel0.mono (ρ := ρ) (a := .agz l zs) h h1 hs hk hw
  | ago l j k => exact rel0.mono (ρ := ρ) (a := .ago l j k) h h1 hs hk hw
  | _ => exact h
end

def okM (F : Fr) (M : Nat → Prop) (b : Nat) : Prop := (F.ok b ∨ F.w0.heap.size ≤ b) ∧ ¬ M b

/-- Kinds of cells. -/
inductive EK where
  | i (k : IntKind)
  | b
  | s
  | n
deriving DecidableEq
def D.ek : D → EK
  | .int k _ => .i k
  | .bool _ => .b
  | .str _ => .s
  | .sl _ => .n
def EK.ok : EK → Bool
  | .n => false
  | _ => true
/-- The kinds of a struct's cells, if it can be compared cell by cell. -/
def eqF (P : Program) (rec : TypeId → Option (List EK)) : List Field → Nat → Option (List EK)
  | [], _ => some []
  | f :: r, o => if f.name ≠ "_" ∧ f.offset = o then (match rec f.type with
    | some ks => if P.cellsOf f.type = ks.length ∧ ks ≠ [] then (match eqF P rec r (o + ks.length) with
      | some ls => some (ks ++ ls)
      | none => none) else none
    | none => none) else none
def eqK (P : Program) : Nat → TypeId → Option (List EK)
  | 0, _ => none
  | d + 1, t => match P.underlying t with
    | some (.int k) => some [.i k]
    | some .bool => some [.b]
    | some .string => some [.s]
    | some (.struct fs) => if P.stoodInHeld t = true then none else eqF P (eqK P d) fs.toList 0
    | _ => none
def eqT (P : Program) (t : TypeId) : Option (List EK) := if P.eqGuardType P.depth t = true then none else match P.underlying t with
  | some (.struct _) => eqK P 8 t
  | _ => none
def vD : D → Value
  | .int k n => .int k n
  | .bool b => .bool b
  | .str s => .string s
  | .sl _ => undef
/-- A flat datum, as a value; a key that is a struct is told as a row of one. -/
def mV : D → Value
  | .int k n => .int k n
  | .bool b => .bool b
  | .str s => .string s
  | .sl [l] => .agg (l.map vD).toArray
  | .sl _ => .tuple #[]
def mFlat : D → Bool
  | .sl _ => false
  | _ => true
/-- Is it a key of such a type? -/
def keyD (d : TypeDesc) : D → Bool
  | .str _ => (match d with
    | .string => true
    | _ => false)
  | .int k _ => (match d with
    | .int k' => decide (k = k')
    | _ => false)
  | _ => false
/-- Is it a struct with such cells? -/
def keyS (o : Option (List EK)) : D → Bool
  | .sl [l] => (match o with
    | some ks => decide (l.map D.ek = ks)
    | none => false)
  | _ => false
/-- A key, as a datum. -/
def dK : DV → D
  | .d (.sl _) => .sl []
  | .d x => x
  | .ag l => .sl [l]
def mKey (P : Program) (T : TypeId) (x : D) : Bool := match P.underlying T with
  | some (.map K _) => (match P.underlying K with
    | some (.struct _) => keyS (eqT P K) x
    | some d => keyD d x
    | none => false)
  | _ => false
def blkOf : Value → Option Nat
  | .map (some b) => some b
  | .slice (some a) _ _ => some a.block
  | .pointer (some a) => some a.block
  | _ => none

def ObR (F : Fr) (M : Nat → Prop) (ρ : Nat → Value) (w : World) : Ob → Value → Prop
  | .box T cs, v => ∃ (b : Nat) (vs : Array Value), v = .pointer (some ⟨b, 0, none⟩) ∧ M b ∧ w.heap[b]? = some (.cells vs T (0, 0)) ∧ cs.length = vs.size ∧
      ∀ (j : Nat) (a : AV) (u : Value), cs[j]? = some a → vs[j]? = some u → u.oneCell' = true ∧ relA F.cx F.w0 (okM F M) ρ w a u
  | .arr e z l, v => ∃ cs : List Value, w.ownsRow F.w0.heap.size e z v l.length cs ∧ (∀ b, v.ownBlock = some b → M b) ∧ (∀ (i : Nat) (x : List D), l[i]? = some x → x.length = z) ∧ RdL (okM F M) w l.flatten cs
  | .bld T k', v => ∃ (b : Nat) (p : Value), v = .pointer (some ⟨b, 0, none⟩) ∧ M b ∧ w.heap[b]? = some (.cells #[p, ρ k'] T (0, 0)) ∧ (p = .pointer none ∨ p = .pointer (some ⟨b, 0, none⟩)) ∧ (ρ k').oneCell' = true
  | .mp T l, v => ∃ (b : Nat) (es : Array MapEntry) (clk : Nat), v = .map (some b) ∧ M b ∧ w.heap[b]? = some (.map es clk) ∧ es.toList.map (fun e => (e.key, e.val)) = l.map (fun p => (mV p.1, mV p.2)) ∧ (l.all fun p => mKey F.cx.P T p.1 && mFlat p.2) = true

/-- What was there when the walk began stays, but the blocks told. -/
def KxP (F : Fr) (M : Nat → Prop) (w : World) : Prop := F.w1.heap.size ≤ w.heap.size ∧ (∀ b, ¬ F.ex b → F.cx.g ≠ some b → b < F.w1.heap.size → w.heap[b]? = F.w1.heap[b]?) ∧ ∀ b, M b → F.ex b ∨ F.w1.heap.size ≤ b
theorem KxP.grow {F : Fr} {M : Nat → Prop} {w w' : World} (h : KxP F M w) (hg : Gr F.cx.g w w') : KxP F M w' :=
  ⟨Nat.le_trans h.1 hg.size, fun b hx hn hb => (hg.block b (Nat.lt_of_lt_of_le hb h.1) hn).trans (h.2.1 b hx hn hb), h.2.2⟩
theorem KxP.less {F : Fr} {M M' : Nat → Prop} {w : World} (h : KxP F M w) (hm : ∀ b, M' b → M b) : KxP F M' w := ⟨h.1, h.2.1, fun b hb => h.2.2 b (hm b hb)⟩

structure Rel1 (F : Fr) (M : Nat → Prop) (ρ : Nat → Value) (σ : St) (a : Act) (w : World) : Prop where
  gr : Gr F.cx.g F.w0 w
  st : StAt F.cx (F.N + σ.c) w
  gl : GlAt F.cx w
  mb : ∀ b, M b → F.w0.heap.size ≤ b ∧ b < w.heap.size
  sl : ∀ t, relA F.cx F.w0 (okM F M) ρ w (σ.s t) (a.tmps.getD t undef)
  ob : ∀ k o, σ.o k = some o → ObR F M ρ w o (ρ k)
  ne : ∀ k k' o o', σ.o k = some o → σ.o k' = some o' → k ≠ k' → ∀ b, blkOf (ρ k) = some b → blkOf (ρ k') ≠ some b
  df : a.defers = []
  nt : F.n ≤ a.tmps.size
  kx : KxP F M w

def Rel (F : Fr) (σ : St) (a : Act) (w : World) : Prop := ∃ M ρ, Rel1 F M ρ σ a w


theorem okM_ne {F : Fr} (hF : F.Wf) {M : Nat → Prop} {b : Nat} (h : okM F M b) : F.cx.g ≠ some b := by
  rcases h.1 with h | h
  · exact (hF.ok b h).2
  · intro e
    have := hF.g b e
    omega

theorem M_ne {F : Fr} (hF : F.Wf) {b : Nat} (h : F.w0.heap.size ≤ b) : F.cx.g ≠ some b := by
  intro e
  have := hF.g b e
  omega

section
variable {F : Fr} {M : Nat → Prop} {ρ : Nat → Value} {σ : St} {a : Act} {w w' : World}

theorem ObR.grow (hF : F.Wf) {o : Ob} {v : Value} (h : ObR F M ρ w o v) (hm : ∀ b, M b → F.w0.heap.size ≤ b ∧ b < w.heap.size) (hg : Gr F.cx.g w w') : ObR F M ρ w' o v := by
  have hok : ∀ b, okM F M b → b < w.heap.size → w'.heap[b]? = w.heap[b]? := fun b hb hlt => hg.block b hlt (okM_ne hF hb)
  cases o with
  | box T cs =>
    obtain ⟨b, vs, hv, hb, hh, hl, hc⟩ := h
    exact ⟨b, vs, hv, hb, (hg.block b (hm b hb).2 (M_ne hF (hm b hb).1)).trans hh, hl, fun j x u hx hu => ⟨(hc j x u hx hu).1, (hc j x u hx hu).2.mono (Gr.refl _ _) hg.size (fun _ h _ => h) hok⟩⟩
  | bld T k' =>
    obtain ⟨b, p, hv, hb, hh, hp, h1⟩ := h
    exact ⟨b, p, hv, hb, (hg.block b (hm b hb).2 (M_ne hF (hm b hb).1)).trans hh, hp, h1⟩
  | mp T l =>
    obtain ⟨b, es, clk, hv, hb, hh, hl⟩ := h
    exact ⟨b, es, clk, hv, hb, (hg.block b (hm b hb).2 (M_ne hF (hm b hb).1)).trans hh, hl⟩
  | arr e z l =>
    obtain ⟨cs, ho, hb, hz, hl⟩ := h
    refine ⟨cs, ⟨ho.1, ?_⟩, hb, hz, hl.mono hg.size (fun _ h _ => h) hok⟩
    rcases ho.2 with h | ⟨g, cap, cur, h1, h2, h3, h4⟩
    · exact .inl h
    · have hM := hb g (by rw [h1]; rfl)
      exact .inr ⟨g, cap, cur, h1, h2, (hg.block g (hm g hM).2 (M_ne hF (hm g hM).1)).trans h3, h4⟩

theorem Rel1.grow (hF : F.Wf) (h : Rel1 F M ρ σ a w) (hg : Gr F.cx.g w w') {k : Nat} (hst : StAt F.cx (F.N + (σ.c + k)) w') : Rel1 F M ρ { σ with c := σ.c + k } a w' where
  gr := h.gr.trans hg
  st := hst
  gl := h.gl.keep h.st hg
  mb := fun b hb => ⟨(h.mb b hb).1, by have := (h.mb b hb).2; have := hg.size; omega⟩
  sl := fun t => (h.sl t).mono (Gr.refl _ _) hg.size (fun _ h _ => h) (fun b hb hlt => hg.block b hlt (okM_ne hF hb))
  ob := fun k o hk => (h.ob k o hk).grow hF h.mb hg
  ne := h.ne
  df := h.df
  nt := h.nt
  kx := h.kx.grow hg

theorem getD_put {a : Act} {d t : Nat} {v : Value} (hd : d < a.tmps.size) : (a.put (some d) v).tmps.getD t undef = if t = d then v else a.tmps.getD t undef := by
  simp only [Act.put, Array.getD_eq_getD_getElem?, Array.getElem?_setIfInBounds]
  by_cases h : d = t
  · subst h
    simp [hd]
  · rw [if_neg h, if_neg (fun e => h e.symm)]

theorem Rel1.put (h : Rel1 F M ρ σ a w) {dst : Option Tmp} (hd : ∀ d, dst = some d → d < F.n) {r : AV} {v : Value} (hr : relA F.cx F.w0 (okM F M) ρ w r v) : Rel1 F M ρ (σ.put dst r) (a.put dst v) w := by
  cases dst with
  | none => exact h
  | some d =>
    have hlt : d < a.tmps.size := Nat.lt_of_lt_of_le (hd d rfl) h.nt
    exact ⟨h.gr, h.st, h.gl, h.mb, fun t => by
      rw [getD_put hlt]
      show relA _ _ _ _ _ (upd σ.s d r t) _
      rw [upd_apply]
      by_cases e : t = d
      · rw [if_pos e, if_pos e]; exact hr
      · rw [if_neg e, if_neg e]; exact h.sl t, h.ob, h.ne, h.df, by simp [Act.put]; exact h.nt, h.kx⟩
end

/-- What a function may answer: data, pointers to data, several of them. -/
def AV.plain : AV → Bool
  | .dv _ | .dp _ | .un | .tnil => true
  | .tcons a t => a.plain && t.plain
  | _ => false
theorem rel0_plain {cx : Cx} {w0 w1 : World} {ok : Nat → Prop} {ρ ρ' : Nat → Value} {w : World} {a : AV} {v : Value} (hp : a.plain = true) (h : rel0 cx w0 ok ρ w a v) : rel0 cx w1 ok ρ' w a v := by
  cases a <;> first | exact h | cases hp
theorem relT_plain {cx : Cx} {w0 w1 : World} {ok : Nat → Prop} {ρ ρ' : Nat → Value} {w : World} : ∀ {a : AV} {vs : List Value}, a.plain = true → relT cx w0 ok ρ w a vs → relT cx w1 ok ρ' w a vs
  | .tnil, _, _, h => h
  | .tcons _ _, _, hp, h => by
    simp only [AV.plain, Bool.and_eq_true] at hp
    obtain ⟨v, r, hv, h1, h2⟩ := h
    exact ⟨v, r, hv, rel0_plain hp.1 h1, relT_plain hp.2 h2⟩
theorem relA_plain {cx : Cx} {w0 w1 : World} {ok : Nat → Prop} {ρ ρ' : Nat → Value} {w : World} {a : AV} {v : Value} (hp : a.plain = true) (h : relA cx w0 ok ρ w a v) : relA cx w1 ok ρ' w a v := by
  cases a with
  | tnil => exact h
  | tcons b t => obtain ⟨vs, hv, ht⟩ := h; exact ⟨vs, hv, relT_plain hp ht⟩
  | dv x => exact h
  | dp l => exact h
  | un => exact h
  | _ => cases hp

/-- A contract: what a function asks of its arguments, what it answers, how often it asks the stream, whether its slices lie in new memory alone. -/
structure Spec where
  pre : List AV → Prop
  post : List AV → AV → Prop
  cost : List AV → Nat
  fresh : Bool

def resOk (F : Fr) (fresh : Bool) (b : Nat) : Prop := (fresh = false ∧ F.ok b) ∨ F.w0.heap.size ≤ b

def Ctr (cx : Cx) (f : FuncId) (sp : Spec) : Prop :=
  Enters cx.P f ∧ (∀ as, sp.pre as → ∃ r, sp.post as r) ∧
  ∀ (F : Fr) (as : List AV) (vals : List Value), F.cx = cx → F.Wf → StAt cx F.N F.w0 → GlAt cx F.w0 → sp.cost as ≤ F.B → as.length = vals.length →
    (∀ (i : Nat) (a : AV) (u : Value), as[i]? = some a → vals[i]? = some u → rel0 cx F.w0 F.ok (fun _ => undef) F.w0 a u) → sp.pre as →
    Calls cx.P f vals.toArray F.w0 fun e w' => ∃ v r, e = .returned v ∧ Gr cx.g F.w0 w' ∧ StAt cx (F.N + sp.cost as) w' ∧ sp.post as r ∧ r.plain = true ∧ relA cx F.w0 (resOk F sp.fresh) (fun _ => undef) w' r v
end Go.Avc

namespace Go.Avc
open Go
abbrev bT : TypeId := 198
abbrev bE : TypeId := 5
abbrev fWB : FuncId := 999996
abbrev fWS : FuncId := 168
abbrev fSt : FuncId := 170
abbrev fLn : FuncId := 169
/-- Is it a function of the builder's? -/
def bF (f : FuncId) : Bool := f == fWB || f == fWS || f == fSt || f == fLn
/-- Functions whose answer is a row that the caller may go on with as its own. -/
abbrev fO1 : FuncId := 999998
abbrev fO2 : FuncId := 67
/-- Functions that write into a row that is handed to them. -/
def mF (f : FuncId) : Bool := f == 37 || f == 60 || f == 93 || f == 97 || f == 99 || f == 155
/-- further functions that hand over a row of their own -/
def hF (f : FuncId) : Bool := false || f == 38
def oF (f : FuncId) : Bool := f == fO1 || f == fO2 || hF f || mF f
/-- The reference's function that asks functions one after the other; the types of the list and of a function. -/
abbrev fFi : FuncId := 121
abbrev tFi : TypeId := 193
abbrev eFi : TypeId := 164
/-- What is to be shown of functions that are asked one after the other, up to the first error. -/
def FK : List FSpec → (Int → Prop) → Prop
  | [], K => K 0
  | sp :: r, K => sp.pre [] ∧ (∃ y, sp.post [] y) ∧ ∀ y, sp.post [] y → ∃ e : Int, y = .d (.int .i64 e) ∧ (e ≠ 0 → K e) ∧ (e = 0 → FK r K)
structure FirstOk (P : Program) : Prop where
  en : Enters P fFi
  ty : P.underlying tFi = some (.slice eFi)
  one : P.cellsOf eFi = 1
  zero : ∃ z : Value, z.cells.size = 1 ∧ ∀ w, (zeroValue eFi).run P w = .ok z w
  walk : ∀ (cx : Cx) (sps : List FSpec) (vs : List Value) (K : Int → Prop) (N b : Nat) (w : World), cx.P = P → ∀ {n : Nat}, vs.length = n → sps.length = n → n ≤ 1000 → (∀ (j : Nat) (sp : FSpec) (v : Value), sps[j]? = some sp → vs[j]? = some v → Callable cx w sp v) →
    (∀ (j : Nat) (v : Value), vs[j]? = some v → w.cell? ⟨b, j, none⟩ = some v) → b < w.heap.size → cx.g ≠ some b → StAt cx N w → GlAt cx w → N ≤ 4611686018427387904 → (∀ b, b < cx.ng → b < w.heap.size ∧ cx.g ≠ some b) → FK sps K →
    Calls P fFi #[.slice (some ⟨b, 0, none⟩) n n] w fun e w' => ∃ c : Int, e = .returned (.int .i64 c) ∧ K c ∧ Gr cx.g w w' ∧ StAt cx N w'
/-- A builder in block b with buffer v. -/
def Bld (w : World) (b : Nat) (v : Value) : Prop := ∃ p, (p = .pointer none ∨ p = .pointer (some ⟨b, 0, none⟩)) ∧ w.heap[b]? = some (.cells #[p, v] bT (0, 0))
/-- What a write into a builder leaves: the builder with a new buffer, all else as it was. -/
def Wrote (B b : Nat) (w : World) (v : Value) (bs : List Value) (w' : World) : Prop := ∃ v', w'.heap[b]? = some (.cells #[.pointer (some ⟨b, 0, none⟩), v'] bT (0, 0)) ∧ w'.ownsRow B bE 1 v' bs.length bs ∧ (v'.ownBlock = none ∨ v'.ownBlock = v.ownBlock ∨ ∃ k, v'.ownBlock = some k ∧ w.heap.size ≤ k ∧ k < w'.heap.size) ∧
  w'.os = w.os ∧ w'.tape = w.tape ∧ w'.output = w.output ∧ w.heap.size ≤ w'.heap.size ∧ ∀ k, k < w.heap.size → k ≠ b → v.ownBlock ≠ some k → w'.heap[k]? = w.heap[k]?
/-- All blocks but one are as they were. -/
def Else (w : World) (k0 : Option Nat) (w' : World) : Prop := w'.os = w.os ∧ w'.tape = w.tape ∧ w'.output = w.output ∧ w.heap.size ≤ w'.heap.size ∧ ∀ k, k < w.heap.size → k0 ≠ some k → w'.heap[k]? = w.heap[k]?
/-- What the program's builder does. -/
structure BldOk (P : Program) : Prop where
  mix : P.follows .mixedOrders = true
  fi : fFi = 999995 ∨ FirstOk P
  eb : fWB = 999996 ∨ Enters P fWB
  es : Enters P fWS
  et : Enters P fSt
  el : fLn = 999999 ∨ Enters P fLn
  al : ∃ i, P.info? bT = some i ∧ i.zero = some (.agg #[.pointer none, .slice none 0 0])
  wb : fWB = 999996 ∨ ∀ (B b : Nat) (bs : List Value) (c : Int) (w : World) (v : Value), Bld w b v → w.ownsRow B bE 1 v bs.length bs → bs.length + 1 ≤ 140737488355328 → B ≤ w.heap.size →
    Calls P fWB #[.pointer (some ⟨b, 0, none⟩), .int .u8 c] w fun e w' => e = .returned .nilIface ∧ Wrote B b w v (bs ++ [.int .u8 c]) w'
  ws : ∀ (B b : Nat) (bs : List Value) (s : ByteArray) (w : World) (v : Value), Bld w b v → w.ownsRow B bE 1 v bs.length bs → bs.length + s.size ≤ 140737488355328 → B ≤ w.heap.size →
    Calls P fWS #[.pointer (some ⟨b, 0, none⟩), .string s] w fun e w' => e = .returned (.tuple #[.int .i64 s.size, .nilIface]) ∧ Wrote B b w v (bs ++ Lib.strCells s) w'
  st : ∀ (B b : Nat) (l : List UInt8) (w : World) (v : Value), Bld w b v → w.ownsRow B bE 1 v l.length (l.map fun x => .int .u8 x.toNat) → B ≤ w.heap.size →
    Calls P fSt #[.pointer (some ⟨b, 0, none⟩)] w fun e w' => e = .returned (.string ⟨l.toArray⟩) ∧ Else w v.ownBlock w'
  ln : fLn = 999999 ∨ ∀ (B b : Nat) (bs : List Value) (w : World) (v : Value), Bld w b v → w.ownsRow B bE 1 v bs.length bs →
    Calls P fLn #[.pointer (some ⟨b, 0, none⟩)] w fun e w' => e = .returned (.int .i64 bs.length) ∧ w' = w
end Go.Avc

namespace Go.Avc
open Go

/-- Is a type a struct or an array (true), another known type (false)? -/
def Tk (P : Program) (t : TypeId) : Option Bool := match P.underlying t with
  | some (.struct _) => some true
  | some (.array _ _) => some true
  | some _ => some false
  | none => none

theorem Tk_agg {P : Program} {t : TypeId} {b : Bool} (h : Tk P t = some b) (w : World) : (isAgg t).run P w = .ok b w := by
  unfold Tk at h
  cases hu : P.underlying t with
  | none => rw [hu] at h; cases h
  | some d =>
    rw [hu] at h
    cases d <;> simp only [Option.some.injEq] at h <;> subst h <;> simp [isAgg, run_underlying hu]
theorem size_run {P : Program} {t : TypeId} (h : P.cellsOf t ≠ 0) (w : World) : (sizeOf t).run P w = .ok (P.cellsOf t) w := by
  unfold Program.cellsOf at h
  cases hi : P.info? t with
  | none => rw [hi] at h; simp at h
  | some i => exact run_sizeOf w hi


def eq1 : D → D → Bool
  | .int _ a, .int _ b => a == b
  | .bool a, .bool b => a == b
  | .str a, .str b => a.toList == b.toList
  | _, _ => false
def eqC : List D → List D → Bool
  | [], [] => true
  | x :: r, y :: t => eq1 x y && eqC r t
  | _, _ => false
theorem eqC_app : ∀ {a b c d : List D}, a.length = b.length → eqC (a ++ c) (b ++ d) = (eqC a b && eqC c d)
  | [], [], c, d, _ => by simp [eqC]
  | x :: a, y :: b, c, d, h => by
    simp only [List.cons_append, eqC]
    rw [eqC_app (by simpa using h), Bool.and_assoc]
theorem rd_vD {ok : Nat → Prop} {w : World} {x : D} {v : Value} (h : Rd ok w x v) (hk : x.ek.ok = true) : v = vD x := by
  cases h <;> first | rfl | cases hk
theorem rdL_vD {ok : Nat → Prop} {w : World} {l : List D} {cs : List Value} (h : RdL ok w l cs) (hk : (l.map D.ek).all EK.ok = true) : cs = l.map vD := by
  refine List.ext_getElem? fun j => ?_
  rw [List.getElem?_map]
  cases hl : l[j]? with
  | none =>
    rw [List.getElem?_eq_none_iff] at hl
    exact List.getElem?_eq_none (by rw [← h.1]; exact hl)
  | some x =>
    obtain ⟨v, hv, hr⟩ := h.get hl
    rw [hv, rd_vD hr (List.all_eq_true.1 hk _ (List.mem_map.2 ⟨x, List.mem_of_getElem? hl, rfl⟩))]
    rfl
theorem eqK_ok {P : Program} : ∀ {d : Nat} {t : TypeId} {ks : List EK}, eqK P d t = some ks → ks.all EK.ok = true
  | 0, _, _, h => by cases h
  | d + 1, t, ks, h => by
    have hF : ∀ (fs : List Field) (o : Nat) (ks : List EK), eqF P (eqK P d) fs o = some ks → ks.all EK.ok = true := by
      intro fs
      induction fs with
      | nil => intro o ks h; cases h; rfl
      | cons f r ih =>
        intro o ks h
        unfold eqF at h
        split at h
        · split at h
          · rename_i k1 e1
            split at h
            · split at h
              · rename_i k2 e2
                cases h
                rw [List.all_append, eqK_ok e1, ih _ _ e2]; rfl
              · cases h
            · cases h
          · cases h
        · cases h
    unfold eqK at h
    split at h
    · cases h; rfl
    · cases h; rfl
    · cases h; rfl
    · split at h
      · cases h
      · exact hF _ _ _ h
    · cases h
section
variable {P : Program} (w : World)
def EqOk (P : Program) (w : World) (d : Nat) : Prop := ∀ t ks, eqK P d t = some ks → ∀ n,
  (∀ l m : List D, l.map D.ek = ks → m.map D.ek = ks → Tk P t = some true → (Op.equalIn (d + n) t (.agg (l.map vD).toArray) (.agg (m.map vD).toArray)).run P w = .ok (eqC l m) w) ∧
  (∀ x y : D, [x.ek] = ks → [y.ek] = ks → Tk P t = some false → (Op.equalIn (d + n) t (vD x) (vD y)).run P w = .ok (eq1 x y) w)
theorem eqK_Tk {d : Nat} {t : TypeId} {ks : List EK} (h : eqK P d t = some ks) : Tk P t = some true ∨ (Tk P t = some false ∧ ks.length = 1) := by
  cases d with
  | zero => cases h
  | succ d =>
    unfold eqK at h
    unfold Tk
    split at h <;> rename_i hu
    · cases h; right; rw [hu]; exact ⟨rfl, rfl⟩
    · cases h; right; rw [hu]; exact ⟨rfl, rfl⟩
    · cases h; right; rw [hu]; exact ⟨rfl, rfl⟩
    · left; rw [hu]
    · cases h
theorem eqF_run {d : Nat} (H : EqOk P w d) (n : Nat) (l m : List D) : ∀ (fs : List Field) (o : Nat) (ks : List EK), eqF P (eqK P d) fs o = some ks → (l.drop o).map D.ek = ks → (m.drop o).map D.ek = ks →
    (Op.eqFields (d + n) (l.map vD).toArray (m.map vD).toArray fs).run P w = .ok (eqC (l.drop o) (m.drop o)) w
  | [], o, ks, h, hl, hm => by
    cases h
    rw [List.map_eq_nil_iff] at hl hm
    rw [hl, hm]
    simp [Op.eqFields, eqC]
  | f :: r, o, ks, h, hl, hm => by
    unfold eqF at h
    split at h
    · rename_i hf
      obtain ⟨hnm, hof⟩ := hf
      split at h
      · rename_i k1 e1
        split at h
        · rename_i hc
          obtain ⟨hc, hk1⟩ := hc
          split at h
          · rename_i k2 e2
            cases h
            have hlen : 0 < k1.length := List.length_pos_iff.2 hk1
            have prt : ∀ q : List D, (q.drop o).map D.ek = k1 ++ k2 → ((q.drop o).take k1.length).map D.ek = k1 ∧ (q.drop (o + k1.length)).map D.ek = k2 := fun q hq => by
              rw [List.map_take, hq, ← List.drop_drop, List.map_drop, hq]
              simp
            obtain ⟨l1, l2⟩ := prt l hl
            obtain ⟨m1, m2⟩ := prt m hm
            have run : ∀ q : List D, ((q.drop o).take k1.length).map D.ek = k1 → Tk P f.type = some true → (part f.type (q.map vD).toArray f.offset).run P w = .ok (.agg (((q.drop o).take k1.length).map vD).toArray) w := fun q _ ht => by
              have hn : P.cellsOf f.type ≠ 0 := by omega
              simp only [Go.part, Sem.run_bind, Tk_agg ht, Result.andThen_ok, if_true, size_run hn, Sem.run_pure, hof, hc]
              congr 2
              apply Array.ext'
              simp [List.extract_eq_take_drop, List.map_take, List.map_drop]
            have run1 : ∀ q : List D, ((q.drop o).take k1.length).map D.ek = k1 → Tk P f.type = some false → k1.length = 1 → ∃ x, (q.drop o).take k1.length = [x] ∧ (part f.type (q.map vD).toArray f.offset).run P w = .ok (vD x) w := fun q hq ht h1 => by
              have hll : ((q.drop o).take k1.length).length = 1 := by
                have := congrArg List.length hq
                rw [List.length_map] at this
                omega
              obtain ⟨x, hx⟩ := List.length_eq_one_iff.1 hll
              refine ⟨x, hx, ?_⟩
              have h0 : (q.drop o)[0]? = some x := by
                have := congrArg (fun z : List D => z[0]?) hx
                simp only [List.getElem?_cons_zero] at this
                rwa [List.getElem?_take_of_lt (by omega)] at this
              rw [List.getElem?_drop, Nat.add_zero] at h0
              simp only [Go.part, Sem.run_bind, Tk_agg ht, Result.andThen_ok, Bool.false_eq_true, if_false, hof, List.getElem?_toArray, List.getElem?_map, h0, Option.map_some, Sem.run_pure]
            have hsp : eqC (l.drop o) (m.drop o) = (eqC ((l.drop o).take k1.length) ((m.drop o).take k1.length) && eqC (l.drop (o + k1.length)) (m.drop (o + k1.length))) := by
              rw [← eqC_app (by have := congrArg List.length (l1.trans m1.symm); rwa [List.length_map, List.length_map] at this), ← List.drop_drop, ← List.drop_drop, List.take_append_drop, List.take_append_drop]
            have ih := eqF_run H n l m r (o + k1.length) k2 e2 l2 m2
            rw [hsp]
            simp only [Op.eqFields, if_pos hnm, Sem.run_bind]
            obtain ⟨H1, H2⟩ := H _ _ e1 n
            rcases eqK_Tk e1 with ht | ⟨ht, h1⟩
            · rw [run l l1 ht, Result.andThen_ok, run m m1 ht, Result.andThen_ok, H1 _ _ l1 m1 ht, Result.andThen_ok]
              cases eqC ((l.drop o).take k1.length) ((m.drop o).take k1.length) with
              | false => simp
              | true => simpa using ih
            · obtain ⟨x, x1, x2⟩ := run1 l l1 ht h1
              obtain ⟨y, y1, y2⟩ := run1 m m1 ht h1
              rw [x2, Result.andThen_ok, y2, Result.andThen_ok, H2 x y (by rw [← l1, x1]; rfl) (by rw [← m1, y1]; rfl) ht, Result.andThen_ok, x1, y1]
              simp only [eqC, Bool.and_true]
              cases eq1 x y with
              | false => simp
              | true => simpa using ih
          · cases h
        · cases h
      · cases h
    · cases h
theorem eqK_run : ∀ d, EqOk P w d
  | 0 => fun t ks h => by cases h
  | d + 1 => fun t ks h n => by
    have hd : d + 1 + n = (d + n) + 1 := by omega
    rw [hd]
    unfold eqK at h
    split at h <;> rename_i hu
    · rename_i k
      cases h
      refine ⟨fun l m _ _ ht => (by unfold Tk at ht; rw [hu] at ht; cases ht), fun x y hx hy _ => ?_⟩
      cases x <;> simp only [D.ek, List.cons.injEq, EK.i.injEq, and_true, reduceCtorEq] at hx
      cases y <;> simp only [D.ek, List.cons.injEq, EK.i.injEq, and_true, reduceCtorEq] at hy
      subst hx hy
      exact run_equalIn_int w _ t _ _ _ _ hu
    · cases h
      refine ⟨fun l m _ _ ht => (by unfold Tk at ht; rw [hu] at ht; cases ht), fun x y hx hy _ => ?_⟩
      cases x <;> simp only [D.ek, List.cons.injEq, and_true, reduceCtorEq] at hx
      cases y <;> simp only [D.ek, List.cons.injEq, and_true, reduceCtorEq] at hy
      exact run_equalIn_bool' w _ t _ _ hu
    · cases h
      refine ⟨fun l m _ _ ht => (by unfold Tk at ht; rw [hu] at ht; cases ht), fun x y hx hy _ => ?_⟩
      cases x <;> simp only [D.ek, List.cons.injEq, and_true, reduceCtorEq] at hx
      cases y <;> simp only [D.ek, List.cons.injEq, and_true, reduceCtorEq] at hy
      exact run_equalIn_string w _ t _ _ hu
    · rename_i fs
      split at h
      · cases h
      · rename_i hst
        simp only [Bool.not_eq_true] at hst
        have hfo : P.fieldsOf t = fs := by unfold Program.fieldsOf; rw [hu]
        refine ⟨fun l m hl hm _ => ?_, fun x y _ _ ht => by unfold Tk at ht; rw [hu] at ht; cases ht⟩
        rw [run_equalIn_struct w (d + n) t _ _ (by rw [hfo]; exact hu) hst, hfo]
        have := eqF_run w (eqK_run d) n l m fs.toList 0 ks h (by rw [List.drop_zero]; exact hl) (by rw [List.drop_zero]; exact hm)
        rwa [List.drop_zero, List.drop_zero] at this
    · cases h
end
/-- Two structs, compared. -/
def aggBin (op : BinOp) (l m : List D) (ks : List EK) : Option (Prop × AV) := match op with
  | .eql => some (l.map D.ek = ks ∧ m.map D.ek = ks, .dv (.d (.bool (eqC l m))))
  | .neq => some (l.map D.ek = ks ∧ m.map D.ek = ks, .dv (.d (.bool (!eqC l m))))
  | _ => none
theorem aggBin_run {P : Program} {op : BinOp} {t : TypeId} {x y : Operand} {l m : List D} {ks : List EK} (ht : eqT P t = some ks) {p : Prop} {r : AV} (hv : aggBin op l m ks = some (p, r)) (hp : p) {ok ok' : Nat → Prop} {w0 w1 : World} {u v : Value} (hu : RdV ok w0 (.ag l) u) (hv' : RdV ok' w1 (.ag m) v) :
    ∃ z, (∀ w, (eqGuard op t x y u v).run P w = .ok () w ∧ (binOp op t u v).run P w = .ok z w) ∧ ∀ cx w0 ok ρ w, relA cx w0 ok ρ w r z := by
  unfold eqT at ht
  split at ht
  · cases ht
  · rename_i hg
    simp only [Bool.not_eq_true] at hg
    split at ht
    · rename_i fs hus
      have hk := eqK_ok ht
      have hpk : l.map D.ek = ks ∧ m.map D.ek = ks := by
        unfold aggBin at hv
        split at hv
        · cases hv; exact hp
        · cases hv; exact hp
        · cases hv
      obtain ⟨cs, rfl, hcs⟩ := hu
      obtain ⟨ds, rfl, hds⟩ := hv'
      have e1 := rdL_vD hcs (by rw [hpk.1]; exact hk)
      have e2 := rdL_vD hds (by rw [hpk.2]; exact hk)
      subst e1 e2
      have hT : Tk P t = some true := by unfold Tk; rw [hus]
      have he : ∀ w, (Op.equalIn 10000 t (.agg (l.map vD).toArray) (.agg (m.map vD).toArray)).run P w = .ok (eqC l m) w := fun w => (eqK_run w 8 t ks ht 9992).1 l m hpk.1 hpk.2 hT
      unfold aggBin at hv
      split at hv
      · cases hv
        exact ⟨.bool (eqC l m), fun w => ⟨run_eqGuard_agg w _ t x y _ _ hg, by rw [run_eql_struct, he]; rfl⟩, fun _ _ _ _ _ => Rd.bool _⟩
      · cases hv
        exact ⟨.bool (!eqC l m), fun w => ⟨run_eqGuard_agg w _ t x y _ _ hg, by rw [run_neq_struct, he]; rfl⟩, fun _ _ _ _ _ => Rd.bool _⟩
      · cases hv
    · cases ht
end Go.Avc

namespace Go.Avc
open Go

def Tagg (P : Program) (t : TypeId) : Bool := match P.underlying t with
  | some (.struct _) => true
  | some (.array _ _) => true
  | _ => false
def Tfld (P : Program) (t : TypeId) (j : Nat) : Option (Nat × TypeId) := match P.underlying t with
  | some (.struct fs) => (fs[j]?).map fun f => (f.offset, f.type)
  | _ => none

abbrev AV.i (n : Int) : AV := .dv (.d (.int .i64 n))
abbrev AV.b (b : Bool) : AV := .dv (.d (.bool b))
abbrev AV.str (s : ByteArray) : AV := .dv (.d (.str s))
abbrev AV.sl (l : List (List D)) : AV := .dv (.d (.sl l))

def cv : Value → AV
  | .int k n => .dv (.d (.int k n))
  | .bool b => .b b
  | .string s => .str s
  | .slice none 0 0 => .nil
  | _ => .un

/-- A slice that is known to be nil, or to have no room, as data. -/
def nrm : AV → AV
  | .nil => .sl []
  | .lit _ l => .sl l
  | .sv l _ _ => .sl l
  | .agz l _ => .dv (.ag l)
  | r => r

def ev0 (cx : Cx) (σ : St) : Operand → AV
  | .tmp t => σ.s t
  | .const v => cv v
  | .global g => match cx.glob g with
    | some l => .dp l
    | none => .un
  | .func f => .fn f []
def ev (cx : Cx) (σ : St) (x : Operand) : AV := nrm (ev0 cx σ x)

section
variable {F : Fr} {M : Nat → Prop} {ρ : Nat → Value} {σ : St} {a : Act} {w : World}

theorem cv_rel {ok : Nat → Prop} (v : Value) : relA F.cx F.w0 ok ρ w (cv v) v := by
  cases v with
  | int k n => exact Rd.int k n
  | bool b => exact Rd.bool b
  | string s => exact Rd.str s
  | slice A n c =>
    unfold cv
    split
    · rename_i e; cases e
    · rename_i e; cases e
    · rename_i e; cases e
    · rename_i e; cases e; exact rfl
    · exact trivial
  | _ => exact trivial

theorem nrm_rel {ok : Nat → Prop} {x : AV} {v : Value} (h : relA F.cx F.w0 ok ρ w x v) : relA F.cx F.w0 ok ρ w (nrm x) v := by
  cases x with
  | nil => rw [show v = _ from h]; exact Rd.nil _ _
  | lit e l => exact h.2.1
  | sv l A c => exact h.2
  | agz l zs => exact h.1
  | _ => exact h

theorem ev0_rel (hF : F.Wf) (h : Rel1 F M ρ σ a w) (x : Operand) : relA F.cx F.w0 (okM F M) ρ w (ev0 F.cx σ x) (a.eval x) := by
  cases x with
  | tmp t => exact h.sl t
  | const v => exact cv_rel v
  | global g =>
    simp only [ev0]
    cases hg : F.cx.glob g with
    | none => exact trivial
    | some l =>
      obtain ⟨h1, h2, cs, h3, h4⟩ := h.gl g l hg
      have hok : ∀ b, b < F.cx.ng → okM F M b := fun b hb => ⟨.inl (hF.gl b hb), fun hM => by have := (h.mb b hM).1; have := (hF.ok b (hF.gl b hb)).1; omega⟩
      exact ⟨g, 0, cs, rfl, hok g h1, h2, fun j u hj => by rw [Nat.zero_add]; exact h3 j u hj, h4.mono (Nat.le_refl _) (fun b hb _ => hok b hb) (fun _ _ _ => rfl)⟩
  | func f => exact rfl

theorem ev_rel (hF : F.Wf) (h : Rel1 F M ρ σ a w) (x : Operand) : relA F.cx F.w0 (okM F M) ρ w (ev F.cx σ x) (a.eval x) := nrm_rel (ev0_rel hF h x)

/-- The operation computes v and leaves the world alone. -/
def Runs (P : Program) (a : Act) (w : World) (o : Oper) (v : Value) : Prop := (execOp a.eval o).run P w = .ok (.value v) w

def vMove (cx : Cx) (σ : St) (x : Operand) : Option (Prop × AV) := some (True, ev0 cx σ x)
theorem vMove_sound (hF : F.Wf) (h : Rel1 F M ρ σ a w) {o : Oper} {x : Operand} (ho : o.op = .move x ∨ o.op = .assign x) {p : Prop} {r : AV} (hv : vMove F.cx σ x = some (p, r)) (hp : p) :
    ∃ v, Runs F.cx.P a w o v ∧ relA F.cx F.w0 (okM F M) ρ w r v := by
  simp only [vMove, Option.some.injEq, Prod.mk.injEq] at hv
  obtain ⟨_, rfl⟩ := hv
  refine ⟨a.eval x, ?_, ev0_rel hF h x⟩
  rcases ho with ho | ho <;> simp [Runs, execOp, ho]

def vPick (cx : Cx) (σ : St) (c x y : Operand) : Option (Prop × AV) := match ev cx σ c with
  | .dv (.d (.bool t)) => some (True, if t = true then ev0 cx σ x else ev0 cx σ y)
  | _ => none
theorem vPick_sound (hF : F.Wf) (h : Rel1 F M ρ σ a w) {o : Oper} {c x y : Operand} (ho : o.op = .pick c x y) {p : Prop} {r : AV} (hv : vPick F.cx σ c x y = some (p, r)) (hp : p) :
    ∃ v, Runs F.cx.P a w o v ∧ relA F.cx F.w0 (okM F M) ρ w r v := by
  unfold vPick at hv
  have hc := ev_rel hF h c
  split at hv
  · rename_i t e
    rw [e] at hc
    obtain ⟨v, hv'⟩ : ∃ v, a.eval c = v := ⟨_, rfl⟩
    rw [hv'] at hc
    simp only [Option.some.injEq, Prod.mk.injEq] at hv
    obtain ⟨_, rfl⟩ := hv
    cases (show Rd _ _ (.bool t) v from hc)
    refine ⟨if t = true then a.eval x else a.eval y, by simp [Runs, execOp, ho, hv', asBool], ?_⟩
    cases t
    · exact ev0_rel hF h y
    · exact ev0_rel hF h x
  · cases hv

def vNil (cx : Cx) (σ : St) (x : Operand) : Option (Prop × AV) := match ev cx σ x with
  | .ptr k o => some (True, .ptr k o)
  | .eptr k i z o => some (True, .eptr k i z o)
  | .dp l => some (True, .dp l)
  | .st => some (True, .st)
  | .fn f ks => some (True, .fn f ks)
  | .fv sp => some (True, .fv sp)
  | _ => none
theorem vNil_sound (hF : F.Wf) (h : Rel1 F M ρ σ a w) {o : Oper} {x : Operand} (ho : o.op = .nilCheck x) {p : Prop} {r : AV} (hv : vNil F.cx σ x = some (p, r)) (hp : p) :
    ∃ v, Runs F.cx.P a w o v ∧ relA F.cx F.w0 (okM F M) ρ w r v := by
  unfold vNil at hv
  have hc := ev_rel hF h x
  refine ⟨a.eval x, ?_, ?_⟩
  · split at hv <;> rename_i e <;> (try (rw [e] at hc)) <;> (try cases hv)
    · obtain ⟨b, _, hb⟩ := hc; simp [Runs, execOp, ho, hb]
    · obtain ⟨b, n, c, _, hb⟩ := hc; simp [Runs, execOp, ho, hb]
    · obtain ⟨b, o', cs, hb, _⟩ := hc; simp [Runs, execOp, ho, hb]
    · obtain ⟨b, _, hb⟩ := hc; simp [Runs, execOp, ho, hb]
    · have hb := (show a.eval x = _ from hc); simp [Runs, execOp, ho, hb]
    · obtain ⟨f, caps, hb, _, _⟩ := (show Callable _ _ _ _ from hc); simp [Runs, execOp, ho, hb]
  · split at hv <;> rename_i e <;> (try (rw [e] at hc)) <;> (try cases hv) <;> exact hc

def intBin (op : BinOp) (k : IntKind) (x y : Int) : Option (Prop × AV) := match op with
  | .add => some (True, .dv (.d (.int k (k.wrap (x + y)))))
  | .sub => some (True, .dv (.d (.int k (k.wrap (x - y)))))
  | .mul => some (True, .dv (.d (.int k (k.wrap (x * y)))))
  | .quo => some (y ≠ 0, .dv (.d (.int k (k.wrap (x.tdiv y)))))
  | .rem => some (y ≠ 0, .dv (.d (.int k (x.tmod y))))
  | .eql => some (True, .b (x == y))
  | .neq => some (True, .b (x != y))
  | .lss => some (True, .b (decide (x < y)))
  | .leq => some (True, .b (decide (x ≤ y)))
  | .gtr => some (True, .b (decide (x > y)))
  | .geq => some (True, .b (decide (x ≥ y)))
  | .shr => some (y = 1, .dv (.d (.int k (x / 2))))
  | _ => none
theorem shr_one {P : Program} (t : TypeId) (k : IntKind) (m : Int) (w : World) : (binOp .shr t (.int k m) (.int k 1)).run P w = .ok (.int k (m / 2)) w := by
  have hb : min (1 : Int).toNat k.bits = 1 := by cases k <;> rfl
  simp only [binOp, Op.shift, hb, Nat.pow_one]
  rw [if_neg (by decide)]
  rw [show ((2 : Int) ^ 1) = 2 by decide, Int.fdiv_eq_ediv_of_nonneg m (by decide)]
  rfl
def strBin (op : BinOp) (x y : ByteArray) : Option (Prop × AV) := match op with
  | .add => some (x.size + y.size ≤ 9223372036854775807, .str (x ++ y))
  | .eql => some (True, .b (x.toList == y.toList))
  | .neq => some (True, .b (!(x.toList == y.toList)))
  | .lss => some (True, .b (Op.bytesLess x.toList y.toList))
  | .leq => some (True, .b (Op.bytesLess x.toList y.toList || x.toList == y.toList))
  | .gtr => some (True, .b (!(Op.bytesLess x.toList y.toList || x.toList == y.toList)))
  | .geq => some (True, .b (!Op.bytesLess x.toList y.toList))
  | _ => none
def boolBin (op : BinOp) (x y : Bool) : Option (Prop × AV) := match op with
  | .eql => some (True, .b (x == y))
  | .neq => some (True, .b (!(x == y)))
  | _ => none

def vBin (cx : Cx) (σ : St) (op : BinOp) (t : TypeId) (x y : Operand) : Option (Prop × AV) := match ev cx σ x, ev cx σ y with
  | .dv (.d (.int k m)), .dv (.d (.int k' n)) => if k = k' then intBin op k m n else none
  | .dv (.d (.str m)), .dv (.d (.str n)) => strBin op m n
  | .dv (.d (.bool m)), .dv (.d (.bool n)) => (match cx.P.underlying t with
    | some .bool => boolBin op m n
    | _ => none)
  | .dv (.ag l), .dv (.ag m) => (match eqT cx.P t with
    | some ks => aggBin op l m ks
    | none => none)
  | _, _ => none

theorem eqGuard_scalar {P : Program} {op : BinOp} {t : TypeId} {x y : Operand} {u v : Value} (hu : u.oneCell' = true) (hn : u ≠ .nilIface) (w : World) : (eqGuard op t x y u v).run P w = .ok () w := by
  unfold eqGuard
  cases u <;> first | (simp [Value.oneCell'] at hu; done) | (simp at hn; done) | (cases op <;> simp)

theorem intBin_run {P : Program} {op : BinOp} {t : TypeId} {k : IntKind} {m n : Int} {p : Prop} {r : AV} (hv : intBin op k m n = some (p, r)) (hp : p) (w : World) :
    ∃ v, (binOp op t (.int k m) (.int k n)).run P w = .ok v w ∧ ∀ cx w0 ok ρ, relA cx w0 ok ρ w r v := by
  cases op with
  | quo =>
    simp only [intBin, Option.some.injEq, Prod.mk.injEq] at hv
    obtain ⟨rfl, rfl⟩ := hv
    exact ⟨.int k (k.wrap (m.tdiv n)), by simp only [binOp, ne_eq, not_true_eq_false, if_false, Op.intDiv]; rw [if_neg hp]; rfl, fun _ _ _ _ => Rd.int _ _⟩
  | rem =>
    simp only [intBin, Option.some.injEq, Prod.mk.injEq] at hv
    obtain ⟨rfl, rfl⟩ := hv
    exact ⟨.int k (m.tmod n), by simp only [binOp, ne_eq, not_true_eq_false, if_false, Op.intDiv]; rw [if_neg hp]; rfl, fun _ _ _ _ => Rd.int _ _⟩
  | add | sub | mul =>
    simp only [intBin, Option.some.injEq, Prod.mk.injEq] at hv
    obtain ⟨rfl, rfl⟩ := hv
    exact ⟨_, by simp only [binOp, ne_eq, not_true_eq_false, if_false, Op.intArith]; rfl, fun _ _ _ _ => Rd.int _ _⟩
  | eql | neq | lss | leq | gtr | geq =>
    simp only [intBin, Option.some.injEq, Prod.mk.injEq] at hv
    obtain ⟨rfl, rfl⟩ := hv
    exact ⟨_, by simp only [binOp, ne_eq, not_true_eq_false, if_false, Op.intCmp]; rfl, fun _ _ _ _ => Rd.bool _⟩
  | shr =>
    simp only [intBin, Option.some.injEq, Prod.mk.injEq] at hv
    obtain ⟨rfl, rfl⟩ := hv
    obtain rfl : n = 1 := hp
    exact ⟨.int k (m / 2), shr_one t k m w, fun _ _ _ _ => Rd.int _ _⟩
  | _ => cases hv

theorem strBin_run {P : Program} {op : BinOp} {t : TypeId} {m n : ByteArray} {p : Prop} {r : AV} (hv : strBin op m n = some (p, r)) (hp : p) (w : World) :
    ∃ v, (binOp op t (.string m) (.string n)).run P w = .ok v w ∧ ∀ cx w0 ok ρ, relA cx w0 ok ρ w r v := by
  cases op <;> simp only [strBin, Option.some.injEq, Prod.mk.injEq, reduceCtorEq] at hv
  all_goals (obtain ⟨rfl, rfl⟩ := hv)
  all_goals first
    | exact ⟨_, by simp [binOp, Op.stringOp], fun _ _ _ _ => Rd.bool _⟩
    | (refine ⟨.string (m ++ n), ?_, fun _ _ _ _ => Rd.str _⟩
       simp only [binOp, Op.stringOp]
       have hmx : IntKind.i64.max = 9223372036854775807 := by decide
       rw [if_neg (by rw [hmx]; omega)]
       rfl)

theorem boolBin_run {P : Program} {op : BinOp} {t : TypeId} (ht : P.underlying t = some .bool) {m n : Bool} {p : Prop} {r : AV} (hv : boolBin op m n = some (p, r)) (w : World) :
    ∃ v, (binOp op t (.bool m) (.bool n)).run P w = .ok v w ∧ ∀ cx w0 ok ρ, relA cx w0 ok ρ w r v := by
  have he : (Op.equal t (.bool m) (.bool n)).run P w = .ok (m == n) w := by
    have hd : ∀ d, (Op.equalIn (d + 1) t (.bool m) (.bool n)).run P w = .ok (m == n) w := fun d => by
      simp only [Op.equalIn, Sem.run_bind, run_underlying ht, Result.andThen_ok, Sem.run_pure]
    exact hd 9999
  cases op with
  | eql =>
    simp only [boolBin, Option.some.injEq, Prod.mk.injEq] at hv
    obtain ⟨_, rfl⟩ := hv
    exact ⟨.bool (m == n), by simp only [binOp, Sem.run_bind, he, Result.andThen_ok, Sem.run_pure], fun _ _ _ _ => Rd.bool _⟩
  | neq =>
    simp only [boolBin, Option.some.injEq, Prod.mk.injEq] at hv
    obtain ⟨_, rfl⟩ := hv
    exact ⟨.bool (!(m == n)), by simp only [binOp, Sem.run_bind, he, Result.andThen_ok, Sem.run_pure], fun _ _ _ _ => Rd.bool _⟩
  | _ => cases hv

theorem vBin_sound (hF : F.Wf) (h : Rel1 F M ρ σ a w) {o : Oper} {op : BinOp} {t u : TypeId} {x y : Operand} (ho : o.op = .binOp op t x y u) {p : Prop} {r : AV} (hv : vBin F.cx σ op t x y = some (p, r)) (hp : p) :
    ∃ v, Runs F.cx.P a w o v ∧ relA F.cx F.w0 (okM F M) ρ w r v := by
  unfold vBin at hv
  have hx := ev_rel hF h x
  have hy := ev_rel hF h y
  obtain ⟨vx, ex⟩ : ∃ v, a.eval x = v := ⟨_, rfl⟩
  obtain ⟨vy, ey⟩ : ∃ v, a.eval y = v := ⟨_, rfl⟩
  rw [ex] at hx
  rw [ey] at hy
  split at hv
  · rename_i k m k' n e1 e2
    rw [e1] at hx
    rw [e2] at hy
    cases (show Rd _ _ (.int k m) vx from hx)
    cases (show Rd _ _ (.int k' n) vy from hy)
    split at hv
    · rename_i hk
      subst hk
      obtain ⟨v, h1, h2⟩ := intBin_run (P := F.cx.P) (t := t) hv hp w
      exact ⟨v, by simp [Runs, execOp, ho, ex, ey, eqGuard_scalar (u := .int k m) rfl (by simp), h1], h2 _ _ _ _⟩
    · cases hv
  · rename_i m n e1 e2
    rw [e1] at hx
    rw [e2] at hy
    cases (show Rd _ _ (.str m) vx from hx)
    cases (show Rd _ _ (.str n) vy from hy)
    obtain ⟨v, h1, h2⟩ := strBin_run (P := F.cx.P) (t := t) hv hp w
    exact ⟨v, by simp [Runs, execOp, ho, ex, ey, eqGuard_scalar (u := .string m) rfl (by simp), h1], h2 _ _ _ _⟩
  · rename_i m n e1 e2
    rw [e1] at hx
    rw [e2] at hy
    cases (show Rd _ _ (.bool m) vx from hx)
    cases (show Rd _ _ (.bool n) vy from hy)
    split at hv
    · rename_i ht
      obtain ⟨v, h1, h2⟩ := boolBin_run ht hv w
      exact ⟨v, by simp [Runs, execOp, ho, ex, ey, eqGuard_scalar (u := .bool m) rfl (by simp), h1], h2 _ _ _ _⟩
    · cases hv
  · rename_i l m e1 e2
    rw [e1] at hx
    rw [e2] at hy
    split at hv
    · rename_i ks ht
      obtain ⟨v, h1, h2⟩ := aggBin_run (x := x) (y := y) ht hv hp (show RdV _ _ (.ag l) vx from hx) (show RdV _ _ (.ag m) vy from hy)
      exact ⟨v, by simp [Runs, execOp, ho, ex, ey, (h1 _).1, (h1 _).2], h2 _ _ _ _ _⟩
    · cases hv
  · cases hv

def vUn (cx : Cx) (σ : St) (op : UnOp) (x : Operand) : Option (Prop × AV) := match op, ev cx σ x with
  | .not, .dv (.d (.bool b)) => some (True, .b (!b))
  | .neg, .dv (.d (.int k n)) => some (True, .dv (.d (.int k (k.wrap (0 - n)))))
  | _, _ => none
theorem vUn_sound (hF : F.Wf) (h : Rel1 F M ρ σ a w) {o : Oper} {op : UnOp} {t : TypeId} {x : Operand} (ho : o.op = .unOp op t x) {p : Prop} {r : AV} (hv : vUn F.cx σ op x = some (p, r)) (hp : p) :
    ∃ v, Runs F.cx.P a w o v ∧ relA F.cx F.w0 (okM F M) ρ w r v := by
  unfold vUn at hv
  have hx := ev_rel hF h x
  obtain ⟨vx, ex⟩ : ∃ v, a.eval x = v := ⟨_, rfl⟩
  rw [ex] at hx
  split at hv
  · rename_i b e
    rw [e] at hx
    cases (show Rd _ _ (.bool b) vx from hx)
    simp only [Option.some.injEq, Prod.mk.injEq] at hv
    obtain ⟨_, rfl⟩ := hv
    exact ⟨_, by simp [Runs, execOp, ho, ex, Op.unary], Rd.bool _⟩
  · rename_i k n e
    rw [e] at hx
    cases (show Rd _ _ (.int k n) vx from hx)
    simp only [Option.some.injEq, Prod.mk.injEq] at hv
    obtain ⟨_, rfl⟩ := hv
    exact ⟨_, by simp [Runs, execOp, ho, ex, Op.unary, Op.intArith], Rd.int _ _⟩
  · cases hv
end
end Go.Avc

namespace Go.Avc
open Go

def cvD : Value → Option D
  | .int k n => some (.int k n)
  | .bool b => some (.bool b)
  | .string s => some (.str s)
  | .slice _ 0 _ => some (.sl [])
  | _ => none
/-- A type's zero value, as cells. -/
def Tzero (P : Program) (t : TypeId) : Option (List D) := match P.info? t with
  | some i => match i.zero with
    | some z => z.cells.toList.mapM cvD
    | none => none
  | none => none
/-- The cells of a type's zero value. -/
def zRow (P : Program) (t : TypeId) : List D := match Tzero P t with
  | some z => z
  | none => []
/-- The first cell of a type's zero value. -/
def zD (P : Program) (t : TypeId) : D := match Tzero P t with
  | some (x :: _) => x
  | _ => .bool false
/-- The part of type t at the head of some cells. -/
def partD (P : Program) (t : TypeId) (l : List D) : Option (Prop × DV) := match Tk P t with
  | some true => some (P.cellsOf t ≠ 0 ∧ P.cellsOf t ≤ l.length, .ag (l.take (P.cellsOf t)))
  | some false => some (l ≠ [], .d (l.headD (zD P t)))
  | none => none

section
variable {F : Fr} {M : Nat → Prop} {ρ : Nat → Value} {σ : St} {a : Act} {w : World} {ok : Nat → Prop}

theorem RdL.take {l : List D} {cs : List Value} (h : RdL ok w l cs) (n : Nat) : RdL ok w (l.take n) (cs.take n) := by
  have := h.slice 0 n
  simpa using this
theorem RdL.drop {l : List D} {cs : List Value} (h : RdL ok w l cs) (n : Nat) : RdL ok w (l.drop n) (cs.drop n) := by
  have := h.slice n l.length
  rw [List.take_of_length_le (by simp), List.take_of_length_le (by simp [h.1])] at this
  exact this

theorem part_run {P : Program} {t : TypeId} {l : List D} {cs : List Value} {off : Nat} (hl : RdL ok w l cs) {p : Prop} {x : DV} (h : partD P t (l.drop off) = some (p, x)) (hp : p) :
    ∃ v, (part t cs.toArray off).run P w = .ok v w ∧ RdV ok w x v := by
  unfold partD at h
  have hd := hl.drop off
  split at h
  · rename_i hk
    simp only [Option.some.injEq, Prod.mk.injEq] at h
    obtain ⟨rfl, rfl⟩ := h
    refine ⟨.agg (cs.toArray.extract off (off + P.cellsOf t)), by simp [part, Tk_agg hk, size_run hp.1], (cs.drop off).take (P.cellsOf t), ?_, hd.take _⟩
    congr 1
    apply Array.ext'
    simp [List.extract_eq_take_drop]
  · rename_i hk
    simp only [Option.some.injEq, Prod.mk.injEq] at h
    obtain ⟨rfl, rfl⟩ := h
    cases e : l.drop off with
    | nil => exact absurd e hp
    | cons y r =>
      rw [List.headD_cons]
      have h0 : l[off]? = some y := by
        have := List.getElem?_drop (xs := l) (i := off) (j := 0)
        rw [e] at this
        simpa using this.symm
      obtain ⟨v, hv, hr⟩ := hl.get h0
      exact ⟨v, by simp [part, Tk_agg hk, hv], hr⟩
  · cases h

theorem load_run {P : Program} {t : TypeId} {l : List D} {cs : List Value} {b o : Nat} (hl : RdL ok w l cs) (hc : ∀ (j : Nat) (u : Value), cs[j]? = some u → w.cell? ⟨b, o + j, none⟩ = some u)
    {p : Prop} {x : DV} (h : partD P t l = some (p, x)) (hp : p) : ∃ v, (loadVar t ⟨b, o, none⟩).run P w = .ok v w ∧ RdV ok w x v := by
  unfold partD at h
  split at h
  · rename_i hk
    simp only [Option.some.injEq, Prod.mk.injEq] at h
    obtain ⟨rfl, rfl⟩ := h
    have hr := run_loadCells_list (P := P) w ⟨b, o, none⟩ (cs.take (P.cellsOf t)) (fun j v hj => by
      rw [Addr.add_lit]
      rw [List.getElem?_take] at hj
      split at hj
      · exact hc j v hj
      · cases hj)
    rw [List.length_take, ← hl.1, Nat.min_eq_left hp.2] at hr
    exact ⟨.agg (cs.take (P.cellsOf t)).toArray, by simp [loadVar, Tk_agg hk, size_run hp.1, hr], _, rfl, hl.take _⟩
  · rename_i hk
    simp only [Option.some.injEq, Prod.mk.injEq] at h
    obtain ⟨rfl, rfl⟩ := h
    cases l with
    | nil => exact absurd rfl hp
    | cons y r =>
      obtain ⟨v, hv, hr⟩ := hl.get (j := 0) (x := y) rfl
      have hcell := hc 0 v hv
      rw [Nat.add_zero] at hcell
      exact ⟨v, by simp [loadVar, Tk_agg hk, hcell], hr⟩
  · cases h


/-! ### Fields -/
def vField (cx : Cx) (σ : St) (t : TypeId) (x : Operand) (j : Nat) : Option (Prop × AV) := match ev cx σ x, Tfld cx.P t j with
  | .dv (.ag l), some (off, ft) => match partD cx.P ft (l.drop off) with
    | some (p, y) => some (p, .dv y)
    | none => none
  | _, _ => none
theorem vField_sound (hF : F.Wf) (h : Rel1 F M ρ σ a w) {o : Oper} {t : TypeId} {x : Operand} {j : Nat} (ho : o.op = .field t x j) {p : Prop} {r : AV} (hv : vField F.cx σ t x j = some (p, r)) (hp : p) :
    ∃ v, Runs F.cx.P a w o v ∧ relA F.cx F.w0 (okM F M) ρ w r v := by
  unfold vField at hv
  have hx := ev_rel hF h x
  obtain ⟨vx, ex⟩ : ∃ v, a.eval x = v := ⟨_, rfl⟩
  rw [ex] at hx
  split at hv
  · rename_i l off ft e1 e2
    rw [e1] at hx
    obtain ⟨cs, rfl, hl⟩ := hx
    split at hv
    · rename_i q y hq
      simp only [Option.some.injEq, Prod.mk.injEq] at hv
      obtain ⟨rfl, rfl⟩ := hv
      obtain ⟨v, h1, h2⟩ := part_run (P := F.cx.P) hl hq hp
      unfold Tfld at e2
      split at e2
      · rename_i fs hu
        rw [Option.map_eq_some_iff] at e2
        obtain ⟨f, hf, hfe⟩ := e2
        simp only [Prod.mk.injEq] at hfe
        obtain ⟨rfl, rfl⟩ := hfe
        exact ⟨v, by simp [Runs, execOp, ho, ex, Instr.field, run_underlying hu, hf, asAgg, h1], h2⟩
      · cases e2
    · cases hv
  · cases hv

def vFaddr (cx : Cx) (σ : St) (t : TypeId) (x : Operand) (j : Nat) : Option (Prop × AV) := match Tfld cx.P t j with
  | some (off, ft) => match ev cx σ x with
    | .ptr k o => some (cx.P.cellsOf ft ≠ 0, .ptr k (o + off))
    | .eptr k i z o => some (cx.P.cellsOf ft ≠ 0, .eptr k i z (o + off))
    | .dp l => some (cx.P.cellsOf ft ≠ 0, .dp (l.drop off))
    | _ => none
  | none => none
theorem faddr_run {P : Program} {t ft : TypeId} {j off b o : Nat} (he : Tfld P t j = some (off, ft)) (hs : P.cellsOf ft ≠ 0) : (Instr.fieldAt t (.pointer (some ⟨b, o, none⟩)) j).run P w = .ok (.pointer (some ⟨b, o + off, none⟩)) w := by
  unfold Tfld at he
  split at he
  · rename_i fs hu
    rw [Option.map_eq_some_iff] at he
    obtain ⟨f, hf, hfe⟩ := he
    simp only [Prod.mk.injEq] at hfe
    obtain ⟨rfl, rfl⟩ := hfe
    simp [Instr.fieldAt, run_underlying hu, hf, Instr.sureAddr, fieldPlace, size_run hs, hs, Addr.add_lit]
  · cases he
theorem vFaddr_sound (hF : F.Wf) (h : Rel1 F M ρ σ a w) {o : Oper} {t : TypeId} {x : Operand} {j : Nat} (ho : o.op = .fieldAddr t x j) {p : Prop} {r : AV} (hv : vFaddr F.cx σ t x j = some (p, r)) (hp : p) :
    ∃ v, Runs F.cx.P a w o v ∧ relA F.cx F.w0 (okM F M) ρ w r v := by
  unfold vFaddr at hv
  have hx := ev_rel hF h x
  obtain ⟨vx, ex⟩ : ∃ v, a.eval x = v := ⟨_, rfl⟩
  rw [ex] at hx
  split at hv
  · rename_i off ft he
    split at hv <;> rename_i e <;> (try cases hv) <;> rw [e] at hx
    · obtain ⟨b, h1, rfl⟩ := hx
      exact ⟨_, by simp [Runs, execOp, ho, ex, faddr_run he hp], b, h1, rfl⟩
    · obtain ⟨b, n, c, h1, rfl⟩ := hx
      exact ⟨_, (by simp [Runs, execOp, ho, ex, faddr_run he hp]; rfl), b, n, c, h1, by rw [Nat.add_assoc]⟩
    · obtain ⟨b, o', cs, rfl, hb, hlt, hc, hl⟩ := hx
      refine ⟨.pointer (some ⟨b, o' + off, none⟩), by simp [Runs, execOp, ho, ex, faddr_run he hp], b, o' + off, cs.drop off, rfl, hb, hlt, fun i u hi => ?_, hl.drop _⟩
      rw [List.getElem?_drop] at hi
      have := hc _ u hi
      rwa [← Nat.add_assoc] at this
  · cases hv

/-! ### A byte of a string -/
def bt (s : ByteArray) (i : Int) : Int := ((s.data.toList.getD i.toNat 0).toNat : Int)
def vIndex (cx : Cx) (σ : St) (t : TypeId) (x i : Operand) : Option (Prop × AV) := match cx.P.underlying t, ev cx σ x, ev cx σ i with
  | some .string, .dv (.d (.str s)), .dv (.d (.int _ n)) => some (0 ≤ n ∧ n < s.size, .dv (.d (.int .u8 (bt s n))))
  | some (.array m e), .dv (.ag l), .dv (.d (.int _ n)) => match Tk cx.P e with
    | some false => some (0 ≤ n ∧ n < (m : Int) ∧ n < (l.length : Int) ∧ cx.P.cellsOf e = 1, .dv (.d (l.getD n.toNat (zD cx.P e))))
    | _ => none
  | _, _, _ => none
theorem vIndex_sound (hF : F.Wf) (h : Rel1 F M ρ σ a w) {o : Oper} {t : TypeId} {x i : Operand} (ho : o.op = .index t x i) {p : Prop} {r : AV} (hv : vIndex F.cx σ t x i = some (p, r)) (hp : p) :
    ∃ v, Runs F.cx.P a w o v ∧ relA F.cx F.w0 (okM F M) ρ w r v := by
  unfold vIndex at hv
  have hx := ev_rel hF h x
  have hi := ev_rel hF h i
  obtain ⟨vx, ex⟩ : ∃ v, a.eval x = v := ⟨_, rfl⟩
  obtain ⟨vi, ei⟩ : ∃ v, a.eval i = v := ⟨_, rfl⟩
  rw [ex] at hx
  rw [ei] at hi
  split at hv
  · rename_i s k n hu e1 e2
    rw [e1] at hx
    rw [e2] at hi
    cases (show Rd _ _ (.str s) vx from hx)
    cases (show Rd _ _ (.int k n) vi from hi)
    simp only [Option.some.injEq, Prod.mk.injEq] at hv
    obtain ⟨rfl, rfl⟩ := hv
    have hlt : n.toNat < s.size := by omega
    refine ⟨.int .u8 (bt s n), ?_, Rd.int _ _⟩
    have hb : s[n.toNat]? = some (s.data.toList.getD n.toNat 0) := by
      rw [getElem?_pos s n.toNat hlt]
      congr 1
      have hlt' : n.toNat < s.data.toList.length := by simpa using hlt
      rw [List.getD_eq_getElem?_getD, List.getElem?_eq_getElem hlt']
      rfl
    simp [Runs, execOp, ho, ex, ei, Instr.index, run_underlying hu, asIntOf, hp.1, hb, bt]
  · rename_i m e l k n hu e1 e2
    rw [e1] at hx
    rw [e2] at hi
    split at hv
    · rename_i hk
      cases (show Rd _ _ (.int k n) vi from hi)
      obtain ⟨cs, rfl, hl⟩ := hx
      simp only [Option.some.injEq, Prod.mk.injEq] at hv
      obtain ⟨rfl, rfl⟩ := hv
      obtain ⟨p1, p2, p3, p4⟩ := hp
      have hlt : n.toNat < l.length := by omega
      obtain ⟨v, hv1, hr⟩ := hl.get (x := l.getD n.toNat (zD F.cx.P e)) (by rw [List.getD_eq_getElem?_getD, List.getElem?_eq_getElem hlt]; rfl)
      have hs := size_run (P := F.cx.P) (t := e) (by omega) w
      rw [p4] at hs
      exact ⟨v, by simp [Runs, execOp, ho, ex, ei, Instr.index, run_underlying hu, asIntOf, p1, p2, hs, part, Tk_agg hk, hv1], hr⟩
    · cases hv
  · cases hv

/-! ### The address of an element -/
def vIdxA (cx : Cx) (σ : St) (t : TypeId) (x i : Operand) : Option (Prop × AV) := match ev cx σ i with
  | .dv (.d (.int _ n)) => match cx.P.underlying t, ev cx σ x with
    | some (.slice e), .dv (.d (.sl l)) => some (0 ≤ n ∧ n < (l.length : Int) ∧ cx.P.cellsOf e ≠ 0 ∧ (l.getD n.toNat (zRow cx.P e)).length = cx.P.cellsOf e, .dp (l.getD n.toNat (zRow cx.P e)))
    | some (.slice e), .own k => match σ.o k with
      | some (.arr _ z l) => some (0 ≤ n ∧ n < (l.length : Int) ∧ cx.P.cellsOf e ≠ 0 ∧ cx.P.cellsOf e = z, .eptr k n.toNat z 0)
      | _ => none
    | some (.array m e), .dp l => some (0 ≤ n ∧ n < (m : Int) ∧ cx.P.cellsOf e ≠ 0, .dp (l.drop (n.toNat * cx.P.cellsOf e)))
    | some (.array m e), .ptr k o => some (0 ≤ n ∧ n < (m : Int) ∧ cx.P.cellsOf e ≠ 0, .ptr k (o + n.toNat * cx.P.cellsOf e))
    | _, _ => none
  | _ => none

theorem flatten_get {l : List (List D)} {z : Nat} (hz : ∀ (i : Nat) (x : List D), l[i]? = some x → x.length = z) : ∀ {i : Nat} {x : List D}, l[i]? = some x → (l.flatten.drop (i * z)).take z = x := by
  induction l with
  | nil => intro i x h; simp at h
  | cons y r ih =>
    intro i x h
    have hy : y.length = z := hz 0 y rfl
    have hr : ∀ (i : Nat) (x : List D), r[i]? = some x → x.length = z := fun i x h => hz (i + 1) x (by simpa using h)
    cases i with
    | zero =>
      simp only [List.getElem?_cons_zero, Option.some.injEq] at h
      subst h
      simp only [Nat.zero_mul, List.drop_zero, List.flatten_cons]
      rw [← hy, List.take_left]
    | succ i =>
      simp only [List.getElem?_cons_succ] at h
      rw [List.flatten_cons, Nat.succ_mul, List.drop_append, hy, show i * z + z - z = i * z by omega, List.drop_eq_nil_of_le (by omega), List.nil_append]
      exact ih hr h

theorem getD_some {l : List (List D)} {i : Nat} {d : List D} (h : i < l.length) : l[i]? = some (l.getD i d) := by
  rw [List.getD_eq_getElem?_getD, List.getElem?_eq_getElem h]
  rfl

theorem vIdxA_sound (hF : F.Wf) (h : Rel1 F M ρ σ a w) {o : Oper} {t : TypeId} {x i : Operand} (ho : o.op = .indexAddr t x i) {p : Prop} {r : AV} (hv : vIdxA F.cx σ t x i = some (p, r)) (hp : p) :
    ∃ v, Runs F.cx.P a w o v ∧ relA F.cx F.w0 (okM F M) ρ w r v := by
  unfold vIdxA at hv
  have hx := ev_rel hF h x
  have hi := ev_rel hF h i
  obtain ⟨vx, ex⟩ : ∃ v, a.eval x = v := ⟨_, rfl⟩
  obtain ⟨vi, ei⟩ : ∃ v, a.eval i = v := ⟨_, rfl⟩
  rw [ex] at hx
  rw [ei] at hi
  split at hv
  · rename_i k n e2
    rw [e2] at hi
    cases (show Rd _ _ (.int k n) vi from hi)
    split at hv
    · rename_i e l hu e1
      rw [e1] at hx
      simp only [Option.some.injEq, Prod.mk.injEq] at hv
      obtain ⟨rfl, rfl⟩ := hv
      obtain ⟨h0, h1, h2, h3⟩ := hp
      have hlt : n.toNat < l.length := by omega
      cases (show Rd _ _ (.sl l) vx from hx) with
      | nil A c => simp at hlt
      | sl _ z b o' c u hc hb hblt hz hu' hr =>
        have hgi := getD_some (d := zRow F.cx.P e) hlt
        have hzz : z = F.cx.P.cellsOf e := (hz _ _ hgi).symm.trans h3
        subst hzz
        refine ⟨.pointer (some ⟨b, o' + n.toNat * F.cx.P.cellsOf e, none⟩), by simp [Runs, execOp, ho, ex, ei, Instr.indexAt, asIntOf, run_underlying hu, h0, h1, size_run h2, Addr.add_lit],
          b, o' + n.toNat * F.cx.P.cellsOf e, (List.range (F.cx.P.cellsOf e)).map (u n.toNat), rfl, hb, hblt, fun j v hj => ?_, ?_, fun j y v hy hv => ?_⟩
        · rw [List.getElem?_map, Option.map_eq_some_iff] at hj
          obtain ⟨q, hq, rfl⟩ := hj
          obtain ⟨hq1, hq2⟩ := List.getElem?_eq_some_iff.1 hq
          simp only [List.length_range] at hq1
          simp only [List.getElem_range] at hq2
          subst hq2
          exact hu' _ _ hgi j _ (List.getElem?_eq_getElem (by rw [h3]; exact hq1))
        · rw [List.length_map, List.length_range, h3]
        · rw [List.getElem?_map, Option.map_eq_some_iff] at hv
          obtain ⟨q, hq, rfl⟩ := hv
          obtain ⟨hq1, hq2⟩ := List.getElem?_eq_some_iff.1 hq
          simp only [List.getElem_range] at hq2
          subst hq2
          exact hr _ _ hgi j y hy
    · rename_i e k' hu e1
      rw [e1] at hx
      split at hv
      · rename_i e' z l hk
        simp only [Option.some.injEq, Prod.mk.injEq] at hv
        obtain ⟨rfl, rfl⟩ := hv
        obtain ⟨h0, h1, h2, h3⟩ := hp
        obtain ⟨cs, ho', hM, hz, hl⟩ := h.ob k' _ hk
        have hvx : vx = ρ k' := hx
        rcases ho'.2 with ⟨hnil, hn⟩ | ⟨g, cap, cur, hg, _⟩
        · exfalso; omega
        · refine ⟨.pointer (some ⟨g, n.toNat * z + 0, none⟩), ?_, g, l.length, cap, hg, rfl⟩
          rw [hg] at hvx
          subst hvx
          simp [Runs, execOp, ho, ex, ei, Instr.indexAt, asIntOf, run_underlying hu, h0, h1, size_run h2, Addr.add_lit, h3]
      · cases hv
    · rename_i m e l hu e1
      rw [e1] at hx
      simp only [Option.some.injEq, Prod.mk.injEq] at hv
      obtain ⟨rfl, rfl⟩ := hv
      obtain ⟨h0, h1, h2⟩ := hp
      obtain ⟨b, o', cs, rfl, hb, hlt, hc, hl⟩ := hx
      refine ⟨.pointer (some ⟨b, o' + n.toNat * F.cx.P.cellsOf e, none⟩), by simp [Runs, execOp, ho, ex, ei, Instr.indexAt, asIntOf, run_underlying hu, h0, h1, size_run h2, Addr.add_lit, Instr.sureAddr],
        b, _, cs.drop (n.toNat * F.cx.P.cellsOf e), rfl, hb, hlt, fun j u hj => ?_, hl.drop _⟩
      rw [List.getElem?_drop] at hj
      have := hc _ u hj
      rwa [← Nat.add_assoc] at this
    · rename_i m e k' o' hu e1
      rw [e1] at hx
      simp only [Option.some.injEq, Prod.mk.injEq] at hv
      obtain ⟨rfl, rfl⟩ := hv
      obtain ⟨h0, h1, h2⟩ := hp
      obtain ⟨b, h3, rfl⟩ := hx
      exact ⟨.pointer (some ⟨b, o' + n.toNat * F.cx.P.cellsOf e, none⟩), by simp [Runs, execOp, ho, ex, ei, Instr.indexAt, asIntOf, run_underlying hu, h0, h1, size_run h2, Addr.add_lit, Instr.sureAddr], b, h3, rfl⟩
    · cases hv
  · cases hv
end
end Go.Avc

namespace Go.Avc
open Go
section
variable {F : Fr} {M : Nat → Prop} {ρ : Nat → Value} {σ : St} {a : Act} {w : World} {ok : Nat → Prop}

/-- All of these cells are data. -/
def allD : List AV → Option (List D)
  | [] => some []
  | c :: r => match nrm c, allD r with
    | .dv (.d x), some l => some (x :: l)
    | _, _ => none

theorem allD_rd {F : Fr} : ∀ {cs : List AV} {l : List D} {vs : List Value}, allD cs = some l → cs.length = vs.length → (∀ (j : Nat) (x : AV) (u : Value), cs[j]? = some x → vs[j]? = some u → relA F.cx F.w0 ok ρ w x u) → RdL ok w l vs
  | [], l, vs, h, hl, _ => by
    simp only [allD, Option.some.injEq] at h
    subst h
    have : vs = [] := List.eq_nil_of_length_eq_zero hl.symm
    subst this
    exact RdL.nil
  | c :: r, l, vs, h, hl, hr => by
    cases vs with
    | nil => simp at hl
    | cons v vs =>
      unfold allD at h
      split at h
      · rename_i x l' e1 e2
        simp only [Option.some.injEq] at h
        subst h
        have h1 := allD_rd e2 (vs := vs) (by simpa using hl) (fun j x u hx hu => hr (j + 1) x u (by simpa using hx) (by simpa using hu))
        have h0 := nrm_rel (F := F) (hr 0 c v rfl rfl)
        rw [e1] at h0
        have := (RdL.one (show Rd ok w x v from h0)).append h1
        simpa using this
      · cases h

/-- Where cells hold slices just written out. -/
def litZ : List AV → Nat → List Nat
  | [], _ => []
  | .lit e _ :: r, i => if i < 1000 then (1000 * (e + 1) + i) :: litZ r (i + 1) else litZ r (i + 1)
  | _ :: r, i => litZ r (i + 1)
def agA (l : List D) : List Nat → AV
  | [] => .dv (.ag l)
  | z :: zs => .agz l (z :: zs)
theorem litZ_mem : ∀ {cs : List AV} {i k : Nat}, k ∈ litZ cs i → ∃ n e m, cs[n]? = some (.lit e m) ∧ i + n < 1000 ∧ k = 1000 * (e + 1) + (i + n)
  | [], i, k, h => by cases h
  | c :: r, i, k, h => by
    have rc : k ∈ litZ r (i + 1) → ∃ n e m, (c :: r)[n]? = some (.lit e m) ∧ i + n < 1000 ∧ k = 1000 * (e + 1) + (i + n) := fun h => by
      obtain ⟨n, e, m, h1, h2, h3⟩ := litZ_mem h
      exact ⟨n + 1, e, m, by simpa using h1, by omega, by omega⟩
    cases c with
    | lit e m =>
      simp only [litZ] at h
      split at h
      · rename_i hi
        rcases List.mem_cons.1 h with rfl | h
        · exact ⟨0, e, m, rfl, by omega, by omega⟩
        · exact rc h
      · exact rc h
    | _ => exact rc (by simpa only [litZ] using h)
theorem allD_get : ∀ {cs : List AV} {l : List D} {n : Nat} {c : AV}, allD cs = some l → cs[n]? = some c → ∃ x, nrm c = .dv (.d x) ∧ l[n]? = some x
  | [], l, n, c, h, hc => by simp at hc
  | d :: r, l, n, c, h, hc => by
    unfold allD at h
    split at h
    · rename_i x m e1 e2
      cases h
      cases n with
      | zero =>
        simp only [List.getElem?_cons_zero, Option.some.injEq] at hc
        subst hc
        exact ⟨x, e1, rfl⟩
      | succ n =>
        obtain ⟨x', g1, g2⟩ := allD_get (n := n) (c := c) e2 (by simpa using hc)
        exact ⟨x', g1, by simpa using g2⟩
    · cases h
theorem agA_rel {F : Fr} {cs : List AV} {l : List D} {us : List Value} (hD : allD cs = some l) (hl : RdL ok w l us) (hr : ∀ (n : Nat) (x : AV) (u : Value), cs[n]? = some x → us[n]? = some u → relA F.cx F.w0 ok ρ w x u) : relA F.cx F.w0 ok ρ w (agA l (litZ cs 0)) (.agg us.toArray) := by
  have h0 : RdV ok w (.ag l) (.agg us.toArray) := ⟨us, rfl, hl⟩
  have hm := fun k => litZ_mem (cs := cs) (i := 0) (k := k)
  generalize litZ cs 0 = zs at hm
  cases zs with
  | nil => exact h0
  | cons z zs =>
    refine ⟨h0, fun j hj => .inr ?_⟩
    obtain ⟨n, e, m, h1, h2, h3⟩ := hm j hj
    obtain ⟨x, h4, h5⟩ := allD_get hD h1
    have hx : x = .sl m := by
      have : AV.dv (.d (.sl m)) = .dv (.d x) := h4
      injection this with this
      injection this with this
      exact this.symm
    subst hx
    have hn : n < us.length := by
      rw [← hl.1]
      exact (List.getElem?_eq_some_iff.1 h5).1
    have hu := List.getElem?_eq_getElem hn
    have h6 := hr n _ _ h1 hu
    exact ⟨n, e, m, us[n], by omega, by omega, by show us.toArray[n]? = _; simp, h5, h6⟩
/-- Cells of which just one holds a row of the call's own. -/
def oneOwn : List AV → Nat → Option (List D × Nat × Nat)
  | [], _ => none
  | .own k :: r, i => match allD r with
    | some l => some (.sl [] :: l, i, k)
    | none => none
  | c :: r, i => match nrm c, oneOwn r (i + 1) with
    | .dv (.d x), some (l, j, k) => some (x :: l, j, k)
    | _, _ => none
theorem oneOwn_rd {F : Fr} : ∀ {cs : List AV} {i : Nat} {l : List D} {j k : Nat} {us : List Value}, oneOwn cs i = some (l, j, k) → cs.length = us.length → (∀ (n : Nat) (x : AV) (u : Value), cs[n]? = some x → us[n]? = some u → relA F.cx F.w0 ok ρ w x u) →
    l.length = us.length ∧ i ≤ j ∧ (∀ u, us[j - i]? = some u → u = ρ k) ∧ ∀ (n : Nat) (x : D) (u : Value), i + n ≠ j → l[n]? = some x → us[n]? = some u → Rd ok w x u
  | [], i, l, j, k, us, h, _, _ => by cases h
  | c :: r, i, l, j, k, [], h, hl, _ => by cases hl
  | c :: r, i, l, j, k, v :: us, h, hl, hr => by
    have hl' : r.length = us.length := by simpa using hl
    have hr' : ∀ (n : Nat) (x : AV) (u : Value), r[n]? = some x → us[n]? = some u → relA F.cx F.w0 ok ρ w x u := fun n x u hx hu => hr (n + 1) x u (by simpa using hx) (by simpa using hu)
    unfold oneOwn at h
    split at h
    · rename_i e; cases e
    · rename_i k' r' e
      cases e
      split at h
      · rename_i m hm
        cases h
        have := allD_rd (F := F) (ρ := ρ) hm hl' hr'
        refine ⟨by rw [List.length_cons, List.length_cons, this.1], Nat.le_refl _, fun u hu => ?_, fun n x u hn hx hu => ?_⟩
        · rw [Nat.sub_self] at hu
          exact hr 0 _ u rfl hu
        · cases n with
          | zero => exact absurd rfl hn
          | succ n => exact this.2 n x u (by simpa using hx) (by simpa using hu)
      · cases h
    · rename_i i' _ _ c' r' _ e
      cases e
      split at h
      · rename_i x m j' k' hx hm
        cases h
        obtain ⟨g1, g2, g3, g4⟩ := oneOwn_rd hm hl' hr'
        refine ⟨by rw [List.length_cons, List.length_cons, g1], by omega, fun u hu => ?_, fun n y u hn hy hu => ?_⟩
        · refine g3 u ?_
          rw [show j - i' = (j - (i' + 1)) + 1 by omega] at hu
          simpa using hu
        · cases n with
          | zero =>
            simp only [List.getElem?_cons_zero, Option.some.injEq] at hy hu
            subst hy
            subst hu
            have := nrm_rel (hr 0 c v rfl rfl)
            rw [hx] at this
            exact this
          | succ n => exact g4 n y u (by omega) (by simpa using hy) (by simpa using hu)
      · cases h
def vLoad (cx : Cx) (σ : St) (t : TypeId) (x : Operand) : Option (Prop × AV) := match ev cx σ x with
  | .dp l => match partD cx.P t l with
    | some (p, y) => some (p, .dv y)
    | none => none
  | .ptr k o => match σ.o k with
    | some (.box _ cs) => match Tk cx.P t with
      | some true => match allD ((cs.drop o).take (cx.P.cellsOf t)) with
        | some l => some (cx.P.cellsOf t ≠ 0 ∧ cx.P.cellsOf t ≤ l.length, agA l (litZ ((cs.drop o).take (cx.P.cellsOf t)) 0))
        | none => match oneOwn ((cs.drop o).take (cx.P.cellsOf t)) 0 with
          | some (l, j, k2) => some (cx.P.cellsOf t ≠ 0 ∧ cx.P.cellsOf t ≤ l.length, .ago l j k2)
          | none => none
      | some false => match cs.drop o with
        | c :: _ => some (True, c)
        | [] => none
      | none => none
    | _ => none
  | .eptr k i z o => match σ.o k with
    | some (.arr e z' l) => match partD cx.P t ((l.getD i (zRow cx.P e)).drop o) with
      | some (p, y) => some (z = z' ∧ i < l.length ∧ p, .dv y)
      | none => none
    | _ => none
  | _ => none

theorem ownsRow_cells {base : Nat} {e : TypeId} {z : Nat} {v : Value} {n : Nat} {xs : List Value} (h : w.ownsRow base e z v n xs) {g c m : Nat} (hg : v = .slice (some ⟨g, 0, none⟩) m c) :
    ∀ j u, xs[j]? = some u → w.cell? ⟨g, j, none⟩ = some u := by
  intro j u hj
  have := h.cells (g := g) (by rw [hg]; rfl) j u hj
  rwa [Addr.add_lit, Nat.zero_add] at this

theorem vLoad_sound (hF : F.Wf) (h : Rel1 F M ρ σ a w) {o : Oper} {t : TypeId} {x : Operand} (ho : o.op = .load t x) {p : Prop} {r : AV} (hv : vLoad F.cx σ t x = some (p, r)) (hp : p) :
    ∃ v, Runs F.cx.P a w o v ∧ relA F.cx F.w0 (okM F M) ρ w r v := by
  unfold vLoad at hv
  have hx := ev_rel hF h x
  obtain ⟨vx, ex⟩ : ∃ v, a.eval x = v := ⟨_, rfl⟩
  rw [ex] at hx
  split at hv
  · rename_i l e
    rw [e] at hx
    split at hv
    · rename_i q y hq
      simp only [Option.some.injEq, Prod.mk.injEq] at hv
      obtain ⟨rfl, rfl⟩ := hv
      obtain ⟨b, o', cs, rfl, hb, hlt, hc, hl⟩ := hx
      obtain ⟨v, h1, h2⟩ := load_run (P := F.cx.P) hl hc hq hp
      exact ⟨v, by simp [Runs, execOp, ho, ex, Instr.loadAt, Instr.sureAddr, h1], h2⟩
    · cases hv
  · rename_i k o' e
    rw [e] at hx
    obtain ⟨b, hk0, rfl⟩ := hx
    split at hv
    · rename_i T cs hk
      obtain ⟨b', vs, hk1, hM, hh, hl, hc⟩ := h.ob k _ hk
      rw [hk0] at hk1
      simp only [Value.pointer.injEq, Option.some.injEq, Addr.mk.injEq, and_true, true_and] at hk1
      subst hk1
      have hcell : ∀ j u, vs[j]? = some u → w.cell? ⟨b, j, none⟩ = some u := fun j u hj => by
        unfold World.cell?
        rw [hh]
        simpa using hj
      split at hv
      · rename_i hT
        split at hv
        · rename_i l hD
          simp only [Option.some.injEq, Prod.mk.injEq] at hv
          obtain ⟨rfl, rfl⟩ := hv
          have hus : ∀ (j : Nat) (u : Value), ((vs.toList.drop o').take (F.cx.P.cellsOf t))[j]? = some u → vs[o' + j]? = some u := fun j u hu => by
            rw [List.getElem?_take] at hu
            split at hu
            · rw [List.getElem?_drop, Array.getElem?_toList] at hu
              exact hu
            · cases hu
          have hrel : ∀ (j : Nat) (y : AV) (u : Value), ((cs.drop o').take (F.cx.P.cellsOf t))[j]? = some y → ((vs.toList.drop o').take (F.cx.P.cellsOf t))[j]? = some u → relA F.cx F.w0 (okM F M) ρ w y u := fun j y u hy hu => by
            rw [List.getElem?_take] at hy
            split at hy
            · rw [List.getElem?_drop] at hy
              exact (hc _ y u hy (hus j u hu)).2
            · cases hy
          have hR : RdL (okM F M) w l ((vs.toList.drop o').take (F.cx.P.cellsOf t)) := allD_rd (F := F) (ρ := ρ) hD (by simp [hl]) hrel
          have hr := run_loadCells_list (P := F.cx.P) w ⟨b, o', none⟩ ((vs.toList.drop o').take (F.cx.P.cellsOf t)) (fun j v hj => by
            rw [Addr.add_lit]
            exact hcell _ v (hus j v hj))
          have hlen : ((vs.toList.drop o').take (F.cx.P.cellsOf t)).length = F.cx.P.cellsOf t := by
            have := hp.2
            rw [hR.1] at this
            have h2 : ((vs.toList.drop o').take (F.cx.P.cellsOf t)).length ≤ F.cx.P.cellsOf t := by
              rw [List.length_take]; omega
            omega
          rw [hlen] at hr
          exact ⟨.agg ((vs.toList.drop o').take (F.cx.P.cellsOf t)).toArray, by simp [Runs, execOp, ho, ex, Instr.loadAt, Instr.sureAddr, loadVar, Tk_agg hT, size_run hp.1, hr], agA_rel hD hR hrel⟩
        · split at hv
          · rename_i l j k2 hO
            simp only [Option.some.injEq, Prod.mk.injEq] at hv
            obtain ⟨rfl, rfl⟩ := hv
            have hus : ∀ (j : Nat) (u : Value), ((vs.toList.drop o').take (F.cx.P.cellsOf t))[j]? = some u → vs[o' + j]? = some u := fun j u hu => by
              rw [List.getElem?_take] at hu
              split at hu
              · rw [List.getElem?_drop, Array.getElem?_toList] at hu
                exact hu
              · cases hu
            obtain ⟨g1, _, g3, g4⟩ := oneOwn_rd (F := F) (ρ := ρ) (ok := okM F M) (w := w) (us := (vs.toList.drop o').take (F.cx.P.cellsOf t)) hO (by simp [hl]) (fun j y u hy hu => by
              rw [List.getElem?_take] at hy
              split at hy
              · rw [List.getElem?_drop] at hy
                exact (hc _ y u hy (hus j u hu)).2
              · cases hy)
            have hr := run_loadCells_list (P := F.cx.P) w ⟨b, o', none⟩ ((vs.toList.drop o').take (F.cx.P.cellsOf t)) (fun j v hj => by
              rw [Addr.add_lit]
              exact hcell _ v (hus j v hj))
            have hlen : ((vs.toList.drop o').take (F.cx.P.cellsOf t)).length = F.cx.P.cellsOf t := by
              have := hp.2
              rw [g1] at this
              have h2 : ((vs.toList.drop o').take (F.cx.P.cellsOf t)).length ≤ F.cx.P.cellsOf t := by
                rw [List.length_take]; omega
              omega
            rw [hlen] at hr
            refine ⟨.agg ((vs.toList.drop o').take (F.cx.P.cellsOf t)).toArray, by simp [Runs, execOp, ho, ex, Instr.loadAt, Instr.sureAddr, loadVar, Tk_agg hT, size_run hp.1, hr], _, rfl, g1, fun u hu => g3 u (by simpa using hu), fun i x u hi hx hu => g4 i x u (by omega) hx hu⟩
          · cases hv
      · rename_i hT
        split at hv
        · rename_i c rr e2
          simp only [Option.some.injEq, Prod.mk.injEq] at hv
          obtain ⟨_, rfl⟩ := hv
          have h0 : cs[o']? = some c := by
            have := List.getElem?_drop (xs := cs) (i := o') (j := 0)
            rw [e2] at this
            simpa using this.symm
          have hlt : o' < vs.size := by
            have := (List.getElem?_eq_some_iff.1 h0).1
            omega
          have hu : vs[o']? = some vs[o'] := Array.getElem?_eq_getElem hlt
          exact ⟨vs[o'], by simp [Runs, execOp, ho, ex, Instr.loadAt, Instr.sureAddr, loadVar, Tk_agg hT, hcell _ _ hu], (hc _ _ _ h0 hu).2⟩
        · cases hv
      · cases hv
    · cases hv
  · rename_i k i z o' e
    rw [e] at hx
    obtain ⟨b, n, c, hk0, rfl⟩ := hx
    split at hv
    · rename_i T z' l hk
      split at hv
      · rename_i q y hq
        simp only [Option.some.injEq, Prod.mk.injEq] at hv
        obtain ⟨rfl, rfl⟩ := hv
        obtain ⟨rfl, hlt, hp⟩ := hp
        obtain ⟨cs, hown, hM, hz, hl⟩ := h.ob k _ hk
        have hrow : RdL (okM F M) w ((l.getD i (zRow F.cx.P T)).drop o') (((cs.drop (i * z)).take z).drop o') := by
          rw [← flatten_get hz (getD_some hlt)]
          exact (hl.slice _ _).drop _
        obtain ⟨v, h1, h2⟩ := load_run (P := F.cx.P) (b := b) (o := i * z + o') hrow (fun j u hj => by
          rw [List.getElem?_drop, List.getElem?_take] at hj
          split at hj
          · rw [List.getElem?_drop] at hj
            have := ownsRow_cells hown hk0 _ u hj
            rwa [← Nat.add_assoc] at this
          · cases hj) hq hp
        exact ⟨v, by simp [Runs, execOp, ho, ex, Instr.loadAt, Instr.sureAddr, h1], h2⟩
      · cases hv
    · cases hv
  · cases hv

/-! ### A result taken apart -/
def nthT : AV → Nat → Option AV
  | .tcons a _, 0 => some a
  | .tcons _ t, i + 1 => nthT t i
  | _, _ => none
theorem nthT_rel {cx : Cx} {w0 : World} : ∀ {t : AV} {i : Nat} {r : AV} {vs : List Value}, nthT t i = some r → relT cx w0 ok ρ w t vs → ∃ v, vs[i]? = some v ∧ rel0 cx w0 ok ρ w r v
  | .tcons a t, 0, r, vs, h, hr => by
    obtain ⟨v, q, rfl, ha, _⟩ := hr
    simp only [nthT, Option.some.injEq] at h
    subst h
    exact ⟨v, rfl, ha⟩
  | .tcons a t, i + 1, r, vs, h, hr => by
    obtain ⟨v, q, rfl, _, ht⟩ := hr
    obtain ⟨u, h1, h2⟩ := nthT_rel (i := i) h ht
    exact ⟨u, by simpa using h1, h2⟩
def vExtract (cx : Cx) (σ : St) (x : Operand) (i : Nat) : Option (Prop × AV) := match nthT (ev cx σ x) i with
  | some r => some (True, r)
  | none => none
theorem vExtract_sound (hF : F.Wf) (h : Rel1 F M ρ σ a w) {o : Oper} {x : Operand} {i : Nat} (ho : o.op = .extract x i) {p : Prop} {r : AV} (hv : vExtract F.cx σ x i = some (p, r)) (hp : p) :
    ∃ v, Runs F.cx.P a w o v ∧ relA F.cx F.w0 (okM F M) ρ w r v := by
  unfold vExtract at hv
  have hx := ev_rel hF h x
  obtain ⟨vx, ex⟩ : ∃ v, a.eval x = v := ⟨_, rfl⟩
  rw [ex] at hx
  split at hv
  · rename_i q e
    simp only [Option.some.injEq, Prod.mk.injEq] at hv
    obtain ⟨_, rfl⟩ := hv
    cases hA : ev F.cx σ x with
    | tcons b t =>
      rw [hA] at hx e
      obtain ⟨vs, rfl, ht⟩ := hx
      obtain ⟨v, h1, h2⟩ := nthT_rel e ht
      exact ⟨v, by simp [Runs, execOp, ho, ex, Instr.extract, h1], relA_of0 h2⟩
    | _ => rw [hA] at e; simp [nthT] at e
  · cases hv

/-! ### Lengths -/
/-- What a slot holds, as data: a slice of the call's own as a slice. -/
def toD (σ : St) : AV → AV
  | .own k => match σ.o k with
    | some (.arr _ _ l) => .sl l
    | _ => .un
  | r => r

def vLen (cx : Cx) (σ : St) (t : TypeId) (x : Operand) : Option (Prop × AV) := match cx.P.underlying t, toD σ (ev cx σ x) with
  | some .string, .dv (.d (.str s)) => some (True, .i s.size)
  | some (.slice _), .dv (.d (.sl l)) => some (True, .i l.length)
  | _, _ => none
theorem sl_form {l : List (List D)} {v : Value} (h : Rd ok w (.sl l) v) : ∃ A c, v = .slice A l.length c := by
  cases h with
  | nil A c => exact ⟨A, c, rfl⟩
  | sl _ z b o c u => exact ⟨_, c, rfl⟩
theorem vLen_sound (hF : F.Wf) (h : Rel1 F M ρ σ a w) {o : Oper} {t : TypeId} {x : Operand} (ho : o.op = .call { callee := .builtin .len, args := #[x], argTypes := #[t] }) {p : Prop} {r : AV} (hv : vLen F.cx σ t x = some (p, r)) (hp : p) :
    ∃ v, Runs F.cx.P a w o v ∧ relA F.cx F.w0 (okM F M) ρ w r v := by
  unfold vLen at hv
  have hx := ev_rel hF h x
  obtain ⟨vx, ex⟩ : ∃ v, a.eval x = v := ⟨_, rfl⟩
  rw [ex] at hx
  split at hv
  · rename_i s hu e
    simp only [Option.some.injEq, Prod.mk.injEq] at hv
    obtain ⟨_, rfl⟩ := hv
    have e' : ev F.cx σ x = .dv (.d (.str s)) := by
      cases hA : ev F.cx σ x with
      | own k =>
        rw [hA] at e
        simp only [toD] at e
        split at e <;> cases e
      | _ => rw [hA] at e; exact e
    rw [e'] at hx
    cases (show Rd _ _ (.str s) vx from hx)
    exact ⟨.int .i64 s.size, by simp [Runs, execOp, ho, ex, resolve, invoke, builtin, Builtin.len_, run_underlying hu, goInt], Rd.int _ _⟩
  · rename_i e' l hu e
    simp only [Option.some.injEq, Prod.mk.injEq] at hv
    obtain ⟨_, rfl⟩ := hv
    have hf : ∃ A c, vx = .slice A l.length c := by
      cases hA : ev F.cx σ x with
      | own k =>
        rw [hA] at e hx
        simp only [toD] at e
        split at e
        · rename_i hk
          cases e
          obtain ⟨cs, hown, _⟩ := h.ob k _ hk
          have hvx : vx = ρ k := hx
          rcases hown.2 with ⟨h1, h2⟩ | ⟨g, cap, cur, hg, _⟩
          · exact ⟨none, 0, by rw [hvx, h1, h2]⟩
          · exact ⟨_, cap, by rw [hvx, hg]⟩
        · cases e
      | dv y =>
        rw [hA] at e hx
        cases y with
        | ag m => simp [toD] at e
        | d y =>
          simp only [toD, AV.dv.injEq, DV.d.injEq] at e
          subst e
          exact sl_form hx
      | _ => rw [hA] at e; simp [toD] at e
    obtain ⟨A, c, rfl⟩ := hf
    exact ⟨.int .i64 l.length, by simp [Runs, execOp, ho, ex, resolve, invoke, builtin, Builtin.len_, run_underlying hu, goInt], Rd.int _ _⟩
  · cases hv

/-! ### The greater, the less of two -/
def vMax (cx : Cx) (σ : St) (x y : Operand) : Option (Prop × AV) := match ev cx σ x, ev cx σ y with
  | .dv (.d (.int k m)), .dv (.d (.int k' n)) => some (True, .dv (.d (.int k (if m < n then n else m))))
  | _, _ => none
def vMin (cx : Cx) (σ : St) (x y : Operand) : Option (Prop × AV) := match ev cx σ x, ev cx σ y with
  | .dv (.d (.int k m)), .dv (.d (.int k' n)) => some (True, .dv (.d (.int k (if n < m then n else m))))
  | _, _ => none
theorem vMax_sound (hF : F.Wf) (h : Rel1 F M ρ σ a w) {o : Oper} {x y : Operand} {ts : Array TypeId} (ho : o.op = .call { callee := .builtin .max, args := #[x, y], argTypes := ts }) {p : Prop} {r : AV} (hv : vMax F.cx σ x y = some (p, r)) (hp : p) :
    ∃ v, Runs F.cx.P a w o v ∧ relA F.cx F.w0 (okM F M) ρ w r v := by
  unfold vMax at hv
  have hx := ev_rel hF h x
  have hy := ev_rel hF h y
  obtain ⟨vx, ex⟩ : ∃ v, a.eval x = v := ⟨_, rfl⟩
  obtain ⟨vy, ey⟩ : ∃ v, a.eval y = v := ⟨_, rfl⟩
  rw [ex] at hx
  rw [ey] at hy
  split at hv
  · rename_i k m k' n e1 e2
    rw [e1] at hx
    rw [e2] at hy
    cases (show Rd _ _ (.int k m) vx from hx)
    cases (show Rd _ _ (.int k' n) vy from hy)
    simp only [Option.some.injEq, Prod.mk.injEq] at hv
    obtain ⟨_, rfl⟩ := hv
    exact ⟨.int k (if m < n then n else m), by simp [Runs, execOp, ho, ex, ey, resolve, invoke, builtin, Builtin.max_, Builtin.max2], Rd.int _ _⟩
  · cases hv
theorem vMin_sound (hF : F.Wf) (h : Rel1 F M ρ σ a w) {o : Oper} {x y : Operand} {ts : Array TypeId} (ho : o.op = .call { callee := .builtin .min, args := #[x, y], argTypes := ts }) {p : Prop} {r : AV} (hv : vMin F.cx σ x y = some (p, r)) (hp : p) :
    ∃ v, Runs F.cx.P a w o v ∧ relA F.cx F.w0 (okM F M) ρ w r v := by
  unfold vMin at hv
  have hx := ev_rel hF h x
  have hy := ev_rel hF h y
  obtain ⟨vx, ex⟩ : ∃ v, a.eval x = v := ⟨_, rfl⟩
  obtain ⟨vy, ey⟩ : ∃ v, a.eval y = v := ⟨_, rfl⟩
  rw [ex] at hx
  rw [ey] at hy
  split at hv
  · rename_i k m k' n e1 e2
    rw [e1] at hx
    rw [e2] at hy
    cases (show Rd _ _ (.int k m) vx from hx)
    cases (show Rd _ _ (.int k' n) vy from hy)
    simp only [Option.some.injEq, Prod.mk.injEq] at hv
    obtain ⟨_, rfl⟩ := hv
    exact ⟨.int k (if n < m then n else m), by simp [Runs, execOp, ho, ex, ey, resolve, invoke, builtin, Builtin.min_, Builtin.min2], Rd.int _ _⟩
  · cases hv

def vMin3 (cx : Cx) (σ : St) (x y z : Operand) : Option (Prop × AV) := match ev cx σ x, ev cx σ y, ev cx σ z with
  | .dv (.d (.int k m)), .dv (.d (.int _ n)), .dv (.d (.int _ q)) => some (True, .dv (.d (.int k (if q < (if n < m then n else m) then q else (if n < m then n else m)))))
  | _, _, _ => none
theorem vMin3_sound (hF : F.Wf) (h : Rel1 F M ρ σ a w) {o : Oper} {x y z : Operand} {ts : Array TypeId} (ho : o.op = .call { callee := .builtin .min, args := #[x, y, z], argTypes := ts }) {p : Prop} {r : AV} (hv : vMin3 F.cx σ x y z = some (p, r)) (hp : p) :
    ∃ v, Runs F.cx.P a w o v ∧ relA F.cx F.w0 (okM F M) ρ w r v := by
  unfold vMin3 at hv
  have hx := ev_rel hF h x
  have hy := ev_rel hF h y
  have hz := ev_rel hF h z
  obtain ⟨vx, ex⟩ : ∃ v, a.eval x = v := ⟨_, rfl⟩
  obtain ⟨vy, ey⟩ : ∃ v, a.eval y = v := ⟨_, rfl⟩
  obtain ⟨vz, ez⟩ : ∃ v, a.eval z = v := ⟨_, rfl⟩
  rw [ex] at hx
  rw [ey] at hy
  rw [ez] at hz
  split at hv
  · rename_i k m k' n k'' q e1 e2 e3
    rw [e1] at hx
    rw [e2] at hy
    rw [e3] at hz
    cases (show Rd _ _ (.int k m) vx from hx)
    cases (show Rd _ _ (.int k' n) vy from hy)
    cases (show Rd _ _ (.int k'' q) vz from hz)
    simp only [Option.some.injEq, Prod.mk.injEq] at hv
    obtain ⟨_, rfl⟩ := hv
    exact ⟨.int k (if q < (if n < m then n else m) then q else (if n < m then n else m)), by simp [Runs, execOp, ho, ex, ey, ez, resolve, invoke, builtin, Builtin.min_, Builtin.min2], Rd.int _ _⟩
  · cases hv

def vMax3 (cx : Cx) (σ : St) (x y z : Operand) : Option (Prop × AV) := match ev cx σ x, ev cx σ y, ev cx σ z with
  | .dv (.d (.int k m)), .dv (.d (.int _ n)), .dv (.d (.int _ q)) => some (True, .dv (.d (.int k (if (if m < n then n else m) < q then q else (if m < n then n else m)))))
  | _, _, _ => none
theorem vMax3_sound (hF : F.Wf) (h : Rel1 F M ρ σ a w) {o : Oper} {x y z : Operand} {ts : Array TypeId} (ho : o.op = .call { callee := .builtin .max, args := #[x, y, z], argTypes := ts }) {p : Prop} {r : AV} (hv : vMax3 F.cx σ x y z = some (p, r)) (hp : p) :
    ∃ v, Runs F.cx.P a w o v ∧ relA F.cx F.w0 (okM F M) ρ w r v := by
  unfold vMax3 at hv
  have hx := ev_rel hF h x
  have hy := ev_rel hF h y
  have hz := ev_rel hF h z
  obtain ⟨vx, ex⟩ : ∃ v, a.eval x = v := ⟨_, rfl⟩
  obtain ⟨vy, ey⟩ : ∃ v, a.eval y = v := ⟨_, rfl⟩
  obtain ⟨vz, ez⟩ : ∃ v, a.eval z = v := ⟨_, rfl⟩
  rw [ex] at hx
  rw [ey] at hy
  rw [ez] at hz
  split at hv
  · rename_i k m k' n k'' q e1 e2 e3
    rw [e1] at hx
    rw [e2] at hy
    rw [e3] at hz
    cases (show Rd _ _ (.int k m) vx from hx)
    cases (show Rd _ _ (.int k' n) vy from hy)
    cases (show Rd _ _ (.int k'' q) vz from hz)
    simp only [Option.some.injEq, Prod.mk.injEq] at hv
    obtain ⟨_, rfl⟩ := hv
    exact ⟨.int k (if (if m < n then n else m) < q then q else (if m < n then n else m)), by simp [Runs, execOp, ho, ex, ey, ez, resolve, invoke, builtin, Builtin.max_, Builtin.max2], Rd.int _ _⟩
  · cases hv

/-! ### Cuts -/
def bnd (cx : Cx) (σ : St) (d : Int) : Option Operand → Option Int
  | none => some d
  | some x => match ev cx σ x with
    | .dv (.d (.int _ n)) => some n
    | _ => none
def vSlice (cx : Cx) (σ : St) (t : TypeId) (x : Operand) (lo hi : Option Operand) : Option (Prop × AV) := match cx.P.underlying t, toD σ (ev cx σ x) with
  | some .string, .dv (.d (.str s)) => match bnd cx σ 0 lo, bnd cx σ s.size hi with
    | some l, some h => some (0 ≤ l ∧ l ≤ h ∧ h ≤ s.size, .str (s.extract l.toNat h.toNat))
    | _, _ => none
  | some (.slice e), .dv (.d (.sl xs)) => match ev cx σ x with
    | .dv _ => match bnd cx σ 0 lo, bnd cx σ xs.length hi with
      | some l, some h => some (0 ≤ l ∧ l ≤ h ∧ h ≤ (xs.length : Int) ∧ cx.P.cellsOf e ≠ 0 ∧ ∀ x ∈ xs, x.length = cx.P.cellsOf e, .sl ((xs.take h.toNat).drop l.toNat))
      | _, _ => none
    | _ => none
  | _, _ => none

theorem bnd_run (hF : F.Wf) (h : Rel1 F M ρ σ a w) {d n : Int} {x : Option Operand} (hx : bnd F.cx σ d x = some n) : (x = none ∧ n = d) ∨ ∃ y k, x = some y ∧ a.eval y = .int k n := by
  cases x with
  | none =>
    simp only [bnd, Option.some.injEq] at hx
    exact .inl ⟨rfl, hx.symm⟩
  | some y =>
    simp only [bnd] at hx
    have hy := ev_rel hF h y
    split at hx
    · rename_i k m e
      rw [e] at hy
      simp only [Option.some.injEq] at hx
      subst hx
      refine .inr ⟨y, k, rfl, ?_⟩
      obtain ⟨v, ev'⟩ : ∃ v, a.eval y = v := ⟨_, rfl⟩
      rw [ev'] at hy ⊢
      cases (show Rd _ _ (.int k m) v from hy)
      rfl
    · cases hx

theorem Rd.cut {xs : List (List D)} {A : Option Addr} {n c : Nat} (hr : Rd ok w (.sl xs) (.slice A n c)) {l h z : Nat} (hlh : l ≤ h) (hh : h ≤ xs.length) (hz : ∀ x ∈ xs, x.length = z) :
    Rd ok w (.sl ((xs.take h).drop l)) (.slice (if c = l then A else A.map (·.add (l * z))) (h - l) (c - l)) := by
  have hlen : ((xs.take h).drop l).length = h - l := by simp; omega
  cases hr with
  | nil A c =>
    have : h = 0 := by simpa using hh
    subst this
    have : l = 0 := by omega
    subst this
    simpa using Rd.nil (ok := ok) (w := w) _ (c - 0)
  | sl _ z' b o c u hc hb hlt hz' hu hr =>
    by_cases hhl : h - l = 0
    · have he : (xs.take h).drop l = [] := List.eq_nil_of_length_eq_zero (by omega)
      rw [he, hhl]
      exact Rd.nil _ _
    · have hzz : z' = z := by
        have h0 : 0 < xs.length := by omega
        exact (hz' 0 _ (List.getElem?_eq_getElem h0)).symm.trans (hz _ (List.getElem_mem h0))
      subst hzz
      rw [if_neg (by omega)]
      have key := Rd.sl (ok := ok) (w := w) ((xs.take h).drop l) z' b (o + l * z') (c - l) (fun i j => u (l + i) j) (by omega) hb hlt
        (fun i x hi => by
          rw [List.getElem?_drop, List.getElem?_take] at hi
          split at hi
          · exact hz' _ x hi
          · cases hi)
        (fun i x hi j y hj => by
          rw [List.getElem?_drop, List.getElem?_take] at hi
          split at hi
          · have := hu _ x hi j y hj
            rwa [Nat.add_mul, ← Nat.add_assoc] at this
          · cases hi)
        (fun i x hi j y hj => by
          rw [List.getElem?_drop, List.getElem?_take] at hi
          split at hi
          · exact hr _ x hi j y hj
          · cases hi)
      rw [hlen] at key
      simpa [Addr.add_lit] using key

theorem vSlice_sound (hF : F.Wf) (h : Rel1 F M ρ σ a w) {o : Oper} {t : TypeId} {x : Operand} {lo hi : Option Operand} (ho : o.op = .slice t x lo hi none) {p : Prop} {r : AV} (hv : vSlice F.cx σ t x lo hi = some (p, r)) (hp : p) :
    ∃ v, Runs F.cx.P a w o v ∧ relA F.cx F.w0 (okM F M) ρ w r v := by
  unfold vSlice at hv
  have hx := ev_rel hF h x
  obtain ⟨vx, ex⟩ : ∃ v, a.eval x = v := ⟨_, rfl⟩
  rw [ex] at hx
  split at hv
  · rename_i s hu e
    have e' : ev F.cx σ x = .dv (.d (.str s)) := by
      cases hA : ev F.cx σ x with
      | own k =>
        rw [hA] at e
        simp only [toD] at e
        split at e <;> cases e
      | _ => rw [hA] at e; exact e
    rw [e'] at hx
    cases (show Rd _ _ (.str s) vx from hx)
    split at hv
    · rename_i l hh e1 e2
      simp only [Option.some.injEq, Prod.mk.injEq] at hv
      obtain ⟨rfl, rfl⟩ := hv
      obtain ⟨p1, p2, p3⟩ := hp
      refine ⟨.string (s.extract l.toNat hh.toNat), ?_, Rd.str _⟩
      rcases bnd_run hF h e1 with ⟨rfl, rfl⟩ | ⟨y1, k1, rfl, ey1⟩ <;> rcases bnd_run hF h e2 with ⟨rfl, rfl⟩ | ⟨y2, k2, rfl, ey2⟩
      · simp [Runs, execOp, ho, ex, Instr.sliceAt, Instr.slice, Instr.sliceBounds, Instr.sliceBound, asIntOf, run_underlying hu]
      · simp [Runs, execOp, ho, ex, ey2, Instr.sliceAt, Instr.slice, Instr.sliceBounds, Instr.sliceBound, asIntOf, run_underlying hu, p3, show 0 ≤ hh by omega]
      · simp [Runs, execOp, ho, ex, ey1, Instr.sliceAt, Instr.slice, Instr.sliceBounds, Instr.sliceBound, asIntOf, run_underlying hu, p1, p2]
      · have hm : max hh 0 = hh := by omega
        simp [Runs, execOp, ho, ex, ey1, ey2, Instr.sliceAt, Instr.slice, Instr.sliceBounds, Instr.sliceBound, asIntOf, run_underlying hu, p1, p2, p3, hm, show 0 ≤ hh by omega]
    · cases hv
  · rename_i e0 xs hu e
    split at hv
    · rename_i y0 e3
      rw [e3] at e hx
      have e4 : y0 = .d (.sl xs) := by simpa [toD] using e
      subst e4
      split at hv
      · rename_i l hh e1 e2
        simp only [Option.some.injEq, Prod.mk.injEq] at hv
        obtain ⟨rfl, rfl⟩ := hv
        obtain ⟨p1, p2, p3, p4, p5⟩ := hp
        obtain ⟨A, c, rfl⟩ := sl_form (show Rd _ _ (.sl xs) vx from hx)
        have hc : xs.length ≤ c ∨ xs.length = 0 := by
          cases (show Rd _ _ (.sl xs) _ from hx) with
          | nil A c => exact .inr rfl
          | sl _ _ _ _ _ _ hc => exact .inl hc
        have hres := Rd.cut (show Rd (okM F M) w (.sl xs) _ from hx) (l := l.toNat) (h := hh.toNat) (by omega) (by omega) p5
        refine ⟨_, ?_, hres⟩
        have q1 : hh ≤ (c : Int) := by omega
        rcases bnd_run hF h e1 with ⟨rfl, rfl⟩ | ⟨y1, k1, rfl, ey1⟩ <;> rcases bnd_run hF h e2 with ⟨rfl, rfl⟩ | ⟨y2, k2, rfl, ey2⟩
        · simp [Runs, execOp, ho, ex, Instr.sliceAt, Instr.slice, Instr.sliceBounds, Instr.sliceBound, asIntOf, run_underlying hu, size_run p4]
        · simp [Runs, execOp, ho, ex, ey2, Instr.sliceAt, Instr.slice, Instr.sliceBounds, Instr.sliceBound, asIntOf, run_underlying hu, size_run p4, q1, show 0 ≤ hh by omega]
        · simp [Runs, execOp, ho, ex, ey1, Instr.sliceAt, Instr.slice, Instr.sliceBounds, Instr.sliceBound, asIntOf, run_underlying hu, size_run p4, p1, p2]
        · have hm : max hh 0 = hh := by omega
          simp [Runs, execOp, ho, ex, ey1, ey2, Instr.sliceAt, Instr.slice, Instr.sliceBounds, Instr.sliceBound, asIntOf, run_underlying hu, size_run p4, p1, p2, q1, hm, show 0 ≤ hh by omega]
      · cases hv
    · cases hv
  · cases hv
end
end Go.Avc

namespace Go.Avc
open Go

/-- l with x laid over its cells from off on. -/
def spl {α : Type} (l : List α) (off : Nat) (x : List α) : List α := l.take off ++ x ++ l.drop (off + x.length)

theorem spl_set {α : Type} (l : List α) (off : Nat) (y : α) (x : List α) (h : off + (x.length + 1) ≤ l.length) : spl (l.set off y) (off + 1) x = spl l off (y :: x) := by
  unfold spl
  apply List.ext_getElem?
  intro i
  simp only [List.getElem?_append, List.length_take, List.length_set, List.getElem?_take, List.getElem?_set, List.length_append, List.getElem?_drop, List.length_cons, List.getElem?_cons]
  by_cases h1 : i < off
  · have : i < min (off + 1) l.length := by omega
    have h2 : i < min off l.length := by omega
    simp [this, h2, show i < off + 1 by omega, h1, show ¬ off = i by omega, show i < min (off + 1) l.length + x.length by omega, show i < min off l.length + (x.length + 1) by omega]
  · by_cases h2 : i = off
    · subst h2
      have a1 : i < min (i + 1) l.length := by omega
      have a2 : ¬ i < min i l.length := by omega
      have a3 : i < l.length := by omega
      simp [a1, a2, a3, show i < min (i + 1) l.length + x.length by omega, show i < min i l.length + (x.length + 1) by omega, show i - min i l.length = 0 by omega]
    · by_cases h3 : i < off + 1 + x.length
      · have a1 : ¬ i < min (off + 1) l.length := by omega
        have a2 : ¬ i < min off l.length := by omega
        simp [a1, a2, show i < min (off + 1) l.length + x.length by omega, show i < min off l.length + (x.length + 1) by omega, show ¬ i - min off l.length = 0 by omega, show i - min off l.length - 1 = i - min (off + 1) l.length by omega]
      · have a1 : ¬ i < min (off + 1) l.length + x.length := by omega
        have a2 : ¬ i < min off l.length + (x.length + 1) := by omega
        simp [a1, a2, show ¬ off = off + (x.length + 1) + (i - (min off l.length + (x.length + 1))) by omega, show ¬ off = off + 1 + x.length + (i - (min (off + 1) l.length + x.length)) by omega, show off + 1 + x.length + (i - (min (off + 1) l.length + x.length)) = off + (x.length + 1) + (i - (min off l.length + (x.length + 1))) by omega]

theorem spl_nil {α : Type} (l : List α) (off : Nat) : spl l off [] = l := by simp [spl]

theorem foldl_spl (l : List Value) : ∀ (k off : Nat) (cells : Array Value), off + k + l.length ≤ cells.size →
    ((l.zipIdx k).foldl (fun cs p => cs.setIfInBounds (off + p.2) p.1) cells).toList = spl cells.toList (off + k) l := by
  induction l with
  | nil => intro k off cells _; simp [spl_nil]
  | cons y r ih =>
    intro k off cells h
    simp only [List.length_cons] at h
    rw [List.zipIdx_cons, List.foldl_cons, ih (k + 1) off _ (by simp; omega), Array.toList_setIfInBounds, ← Nat.add_assoc, spl_set _ _ _ _ (by rw [Array.length_toList]; omega)]

section
variable {F : Fr} {M : Nat → Prop} {ρ : Nat → Value} {σ : St} {a : Act} {w : World} {ok : Nat → Prop}

theorem RdL.spl {l x : List D} {cs vs : List Value} (h : RdL ok w l cs) (k : RdL ok w x vs) (off : Nat) : RdL ok w (spl l off x) (Avc.spl cs off vs) := by
  unfold Avc.spl
  rw [← k.1]
  exact ((h.take off).append k).append (h.drop _)

def fillD (place : Nat → Option (Nat × Nat)) : List D → List (Nat × DV) → Option (List D)
  | l, [] => some l
  | l, (i, x) :: r => match place i with
    | none => none
    | some (off, size) => if x.cells.length = size ∧ off + size ≤ l.length then fillD place (spl l off x.cells) r else none

theorem fill_rd {place : Nat → Option (Nat × Nat)} : ∀ {ps : List (Nat × DV)} {l l' : List D} {cs : Array Value} {vs : List (Nat × Value)}, fillD place l ps = some l' → RdL ok w l cs.toList →
    ps.length = vs.length → (∀ (j : Nat) (p : Nat × DV) (v : Nat × Value), ps[j]? = some p → vs[j]? = some v → p.1 = v.1 ∧ RdV ok w p.2 v.2) → ∃ cs', Instr.fill place cs vs = some cs' ∧ RdL ok w l' cs'.toList
  | [], l, l', cs, vs, h, hl, hlen, _ => by
    have : vs = [] := List.eq_nil_of_length_eq_zero hlen.symm
    subst this
    simp only [fillD, Option.some.injEq] at h
    subst h
    exact ⟨cs, rfl, hl⟩
  | (i, x) :: r, l, l', cs, vs, h, hl, hlen, hr => by
    cases vs with
    | nil => simp at hlen
    | cons v vs =>
      obtain ⟨e1, hx⟩ := hr 0 _ _ rfl rfl
      obtain ⟨j, u⟩ := v
      simp only at e1 hx
      subst e1
      unfold fillD at h
      unfold Instr.fill
      split at h
      · cases h
      · rename_i off size hp
        rw [hp]
        split at h
        · rename_i hc
          have hcells := hx.cells
          have hsz : u.cells.size = size := ((Array.length_toList (xs := u.cells)).symm.trans hcells.1.symm).trans hc.1
          have hcs : cs.size = l.length := (Array.length_toList (xs := cs)).symm.trans hl.1.symm
          have hcond : (decide (u.cells.size ≠ size) || decide (off + u.cells.size > cs.size)) = false := by
            simp only [Bool.or_eq_false_iff, decide_eq_false_iff_not]
            omega
          simp only [hcond, Bool.false_eq_true, if_false]
          refine fill_rd h ?_ (by simpa using hlen) (fun k p v hp hv => hr (k + 1) p v (by simpa using hp) (by simpa using hv))
          have hfold := foldl_spl u.cells.toList 0 off cs (by rw [Array.length_toList]; omega)
          have hz : (u.cells.zipIdx.foldl (fun cs p => cs.setIfInBounds (off + p.2) p.1) cs) = ((u.cells.toList.zipIdx 0).foldl (fun cs p => cs.setIfInBounds (off + p.2) p.1) cs) := by
            rw [← Array.foldl_toList]
            simp
          have hz2 : (Array.foldl (fun cs x => match x with | (c, j) => cs.setIfInBounds (off + j) c) cs u.cells.zipIdx) = (u.cells.zipIdx.foldl (fun cs p => cs.setIfInBounds (off + p.2) p.1) cs) := rfl
          rw [hz2, hz, hfold, Nat.add_zero]
          exact hl.spl hcells off
        · cases h

theorem cvD_rd : ∀ {cs : List Value} {l : List D}, cs.mapM cvD = some l → RdL ok w l cs
  | [], l, h => by
    simp at h
    subst h
    exact RdL.nil
  | c :: r, l, h => by
    simp only [List.mapM_cons, Option.bind_eq_bind, Option.pure_def] at h
    cases hc : cvD c with
    | none => simp [hc] at h
    | some x =>
      cases hr : r.mapM cvD with
      | none => simp [hc, hr] at h
      | some l' =>
        simp [hc, hr] at h
        subst h
        have h0 : Rd ok w x c := by
          cases c <;> simp only [cvD, Option.some.injEq, reduceCtorEq] at hc
          · subst hc; exact .bool _
          · subst hc; exact .int _ _
          · subst hc; exact .str _
          · rename_i A n c
            cases n with
            | zero => simp only [Option.some.injEq] at hc; subst hc; exact .nil _ _
            | succ n => simp at hc
        have := (RdL.one h0).append (cvD_rd hr)
        simpa using this

/-- Where the parts of a struct or an array lie. -/
def Tplc (P : Program) (t : TypeId) : Option (List (Nat × Nat)) := match P.underlying t with
  | some (.struct fields) => fields.toList.mapM (fun f => (P.info? f.type).map fun i => (f.offset, i.size))
  | some (.array n e) => (P.info? e).map fun i => (List.range n).map fun j => (j * i.size, i.size)
  | _ => none

def argsD (cx : Cx) (σ : St) : List (Nat × Operand) → Option (List (Nat × DV))
  | [] => some []
  | (i, x) :: r => match toD σ (ev cx σ x), argsD cx σ r with
    | .dv y, some l => some ((i, y) :: l)
    | _, _ => none

/-- No slice of the call's own is among these operands. -/
def noOwn (cx : Cx) (σ : St) : List (Nat × Operand) → Bool
  | [] => true
  | (_, x) :: r => (match ev cx σ x with
    | .dv _ => true
    | _ => false) && noOwn cx σ r

theorem argsD_rd (hF : F.Wf) (h : Rel1 F M ρ σ a w) : ∀ {ps : List (Nat × Operand)} {l : List (Nat × DV)}, argsD F.cx σ ps = some l → noOwn F.cx σ ps = true → l.length = (ps.map fun p => (p.1, a.eval p.2)).length ∧
    ∀ (j : Nat) (p : Nat × DV) (v : Nat × Value), l[j]? = some p → (ps.map fun p => (p.1, a.eval p.2))[j]? = some v → p.1 = v.1 ∧ RdV (okM F M) w p.2 v.2
  | [], l, h, _ => by
    simp only [argsD, Option.some.injEq] at h
    subst h
    exact ⟨rfl, fun j p v hp => by simp at hp⟩
  | (i, x) :: r, l, hl, hn => by
    unfold argsD at hl
    unfold noOwn at hn
    rw [Bool.and_eq_true] at hn
    split at hl
    · rename_i y l' e1 e2
      simp only [Option.some.injEq] at hl
      subst hl
      obtain ⟨h1, h2⟩ := argsD_rd hF h e2 hn.2
      have hx := ev_rel hF h x
      have hy : ev F.cx σ x = .dv y := by
        have h3 := hn.1
        split at h3
        · rename_i z e
          rw [e] at e1
          rw [e]
          simpa [toD] using e1
        · cases h3
      rw [hy] at hx
      refine ⟨by simp [h1], fun j p v hp hv => ?_⟩
      cases j with
      | zero =>
        simp only [List.getElem?_cons_zero, Option.some.injEq, List.map_cons] at hp hv
        subst hp
        subst hv
        exact ⟨rfl, hx⟩
      | succ j => exact h2 j p v (by simpa using hp) (by simpa using hv)
    · cases hl

/-- Cells that stay as the zero value has them: the nil slices among them. -/
def cov (pl : List (Nat × Nat)) : List Nat → Nat → Bool
  | [], _ => false
  | i :: is, j => match pl[i]? with
    | some p => if p.1 ≤ j ∧ j < p.1 + p.2 then true else cov pl is j
    | none => true
def nilsF (pl : List (Nat × Nat)) (is : List Nat) : List AV → Nat → List Nat
  | [], _ => []
  | .nil :: r, j => if cov pl is j = true ∨ 1000 ≤ j then nilsF pl is r (j + 1) else j :: nilsF pl is r (j + 1)
  | _ :: r, j => nilsF pl is r (j + 1)
def zeroAV (P : Program) (t : TypeId) : List AV := match P.info? t with
  | some i => match i.zero with
    | some z => z.cells.toList.map cv
    | none => []
  | none => []
theorem nilsF_mem {pl : List (Nat × Nat)} {is : List Nat} : ∀ {l : List AV} {j k : Nat}, k ∈ nilsF pl is l j → j ≤ k ∧ l[k - j]? = some .nil ∧ cov pl is k = false ∧ k < 1000
  | [], j, k, h => by cases h
  | x :: r, j, k, h => by
    have rc : k ∈ nilsF pl is r (j + 1) → j ≤ k ∧ (x :: r)[k - j]? = some .nil ∧ cov pl is k = false ∧ k < 1000 := fun h => by
      obtain ⟨h1, h2, h3⟩ := nilsF_mem h
      refine ⟨by omega, ?_, h3⟩
      rw [show k - j = (k - (j + 1)) + 1 by omega]
      exact h2
    unfold nilsF at h
    split at h
    · rename_i e; cases e
    · rename_i r' e
      cases e
      split at h
      · exact rc h
      · rename_i hc
        rcases List.mem_cons.1 h with rfl | h
        · rw [not_or] at hc
          exact ⟨Nat.le_refl _, by rw [Nat.sub_self]; rfl, by simpa using hc.1, by omega⟩
        · exact rc h
    · rename_i e
      cases e
      exact rc h
theorem cov_spec {pl : List (Nat × Nat)} : ∀ {is : List Nat} {j : Nat}, cov pl is j = false → ∀ i ∈ is, ∀ off size, pl[i]? = some (off, size) → j < off ∨ off + size ≤ j
  | [], j, h, i, hi, off, size, hp => by cases hi
  | x :: is, j, h, i, hi, off, size, hp => by
    unfold cov at h
    split at h
    · rename_i p e
      split at h
      · cases h
      · rename_i hc
        rcases List.mem_cons.1 hi with rfl | hi
        · rw [e] at hp
          cases hp
          simp only at hc
          omega
        · exact cov_spec h i hi off size hp
    · cases h
theorem fold_keep {off j : Nat} : ∀ (l : List (Value × Nat)) (cs : Array Value), (∀ p ∈ l, off + p.2 ≠ j) → (l.foldl (fun cs p => cs.setIfInBounds (off + p.2) p.1) cs)[j]? = cs[j]?
  | [], cs, h => rfl
  | p :: l, cs, h => by
    rw [List.foldl_cons, fold_keep l _ (fun q hq => h q (List.mem_cons_of_mem _ hq)), Array.getElem?_setIfInBounds, if_neg (h p List.mem_cons_self)]
theorem fill_keep {place : Nat → Option (Nat × Nat)} : ∀ {vs : List (Nat × Value)} {cs cs' : Array Value}, Instr.fill place cs vs = some cs' → ∀ j, (∀ p ∈ vs, ∀ off size, place p.1 = some (off, size) → j < off ∨ off + size ≤ j) → cs'[j]? = cs[j]?
  | [], cs, cs', h, j, _ => by
    unfold Instr.fill at h
    cases h
    rfl
  | (i, u) :: r, cs, cs', h, j, hj => by
    unfold Instr.fill at h
    split at h
    · cases h
    · rename_i off size hp
      split at h
      · cases h
      · rename_i hc
        rw [fill_keep h j (fun p hp => hj p (List.mem_cons_of_mem _ hp))]
        have hz2 : (Array.foldl (fun cs x => match x with | (c, j) => cs.setIfInBounds (off + j) c) cs u.cells.zipIdx) = (u.cells.zipIdx.foldl (fun cs p => cs.setIfInBounds (off + p.2) p.1) cs) := rfl
        rw [hz2, ← Array.foldl_toList]
        refine fold_keep _ _ fun p hp2 => ?_
        have hsz : u.cells.size = size := by
          simp only [Bool.or_eq_true, decide_eq_true_eq, not_or, ne_eq, Decidable.not_not] at hc
          exact hc.1
        have := hj (i, u) List.mem_cons_self off size hp
        have hlt : p.2 < u.cells.size := by
          rw [Array.toList_zipIdx] at hp2
          have := List.snd_lt_of_mem_zipIdx hp2
          simpa using this
        omega
/-- Where a part is a slice that was just written out, and no later part lies there: its cell, told by 1000 more. -/
def litsF (cx : Cx) (σ : St) (pl : List (Nat × Nat)) : List (Nat × Operand) → List Nat
  | [] => []
  | (i, x) :: r => match ev0 cx σ x, pl[i]? with
    | .lit e _, some (off, 1) => if cov pl (r.map (·.1)) off = true ∨ 1000 ≤ off then litsF cx σ pl r else (1000 * (e + 1) + off) :: litsF cx σ pl r
    | _, _ => litsF cx σ pl r
theorem litsF_mem {cx : Cx} {σ : St} {pl : List (Nat × Nat)} {k : Nat} : ∀ {ps : List (Nat × Operand)}, k ∈ litsF cx σ pl ps → ∃ pre i x r off e l, ps = pre ++ (i, x) :: r ∧ ev0 cx σ x = .lit e l ∧ pl[i]? = some (off, 1) ∧ cov pl (r.map (·.1)) off = false ∧ off < 1000 ∧ k = 1000 * (e + 1) + off
  | [], h => by cases h
  | (i, x) :: r, h => by
    have rc : k ∈ litsF cx σ pl r → ∃ pre i' x' r' off e l, (i, x) :: r = pre ++ (i', x') :: r' ∧ ev0 cx σ x' = .lit e l ∧ pl[i']? = some (off, 1) ∧ cov pl (r'.map (·.1)) off = false ∧ off < 1000 ∧ k = 1000 * (e + 1) + off := fun h => by
      obtain ⟨pre, i', x', r', off, e, l, h1, h2⟩ := litsF_mem h
      exact ⟨(i, x) :: pre, i', x', r', off, e, l, by rw [h1]; rfl, h2⟩
    unfold litsF at h
    split at h
    · rename_i e l off e1 e2
      split at h
      · exact rc h
      · rename_i hc
        rw [not_or] at hc
        rcases List.mem_cons.1 h with rfl | h
        · exact ⟨[], i, x, r, off, e, l, rfl, e1, e2, by simpa using hc.1, by omega, rfl⟩
        · exact rc h
    · exact rc h
theorem fill_at {place : Nat → Option (Nat × Nat)} {i off : Nat} {u : Value} {r : List (Nat × Value)} (hp : place i = some (off, 1)) (hr : ∀ p ∈ r, ∀ o s, place p.1 = some (o, s) → off < o ∨ o + s ≤ off) (hu : u.cells = #[u]) :
    ∀ {pre : List (Nat × Value)} {cs cs' : Array Value}, Instr.fill place cs (pre ++ (i, u) :: r) = some cs' → cs'[off]? = some u
  | [], cs, cs', h => by
    rw [List.nil_append] at h
    unfold Instr.fill at h
    rw [hp] at h
    simp only at h
    split at h
    · cases h
    · rename_i hc
      rw [fill_keep h off hr, hu]
      simp only [Bool.or_eq_true, decide_eq_true_eq, not_or, ne_eq, Decidable.not_not, hu] at hc
      have hlt : off < cs.size := by
        have := hc.2
        simp at this
        omega
      simp [hlt]
  | (j, v) :: pre, cs, cs', h => by
    rw [List.cons_append] at h
    unfold Instr.fill at h
    split at h
    · cases h
    · split at h
      · cases h
      · exact fill_at hp hr hu h
theorem argsD_fst {cx : Cx} {σ : St} : ∀ {ps : List (Nat × Operand)} {l : List (Nat × DV)}, argsD cx σ ps = some l → l.map (·.1) = ps.map (·.1)
  | [], l, h => by cases h; rfl
  | (i, x) :: r, l, h => by
    unfold argsD at h
    split at h
    · rename_i y m e1 e2
      cases h
      rw [List.map_cons, List.map_cons, argsD_fst e2]
    · cases h
theorem spl_get {l : List D} {off : Nat} {x : List D} (h : off + x.length ≤ l.length) (j : Nat) (hj : j < off ∨ off + x.length ≤ j) : (spl l off x)[j]? = l[j]? := by
  unfold spl
  rcases hj with hj | hj
  · rw [List.append_assoc, List.getElem?_append_left (by rw [List.length_take]; omega), List.getElem?_take, if_pos hj]
  · rw [List.getElem?_append_right (by rw [List.length_append, List.length_take]; omega), List.getElem?_drop, List.length_append, List.length_take]
    congr 1
    omega
theorem spl_at {l : List D} {off : Nat} {y : D} (h : off + 1 ≤ l.length) : (spl l off [y])[off]? = some y := by
  unfold spl
  rw [List.append_assoc, List.getElem?_append_right (by rw [List.length_take]; omega), List.length_take, show off - min off l.length = 0 by omega]
  rfl
theorem fillD_keep {place : Nat → Option (Nat × Nat)} : ∀ {ps : List (Nat × DV)} {l l' : List D}, fillD place l ps = some l' → ∀ j, (∀ p ∈ ps, ∀ off size, place p.1 = some (off, size) → j < off ∨ off + size ≤ j) → l'[j]? = l[j]?
  | [], l, l', h, j, _ => by
    cases h
    rfl
  | (i, x) :: r, l, l', h, j, hj => by
    unfold fillD at h
    split at h
    · cases h
    · rename_i off size hp
      split at h
      · rename_i hc
        rw [fillD_keep h j (fun p hp => hj p (List.mem_cons_of_mem _ hp))]
        have := hj (i, x) List.mem_cons_self off size hp
        exact spl_get (by omega) j (by omega)
      · cases h
theorem fillD_at {place : Nat → Option (Nat × Nat)} {i off : Nat} {x : D} {r : List (Nat × DV)} (hp : place i = some (off, 1)) (hr : ∀ p ∈ r, ∀ o s, place p.1 = some (o, s) → off < o ∨ o + s ≤ off) :
    ∀ {pre : List (Nat × DV)} {l l' : List D}, fillD place l (pre ++ (i, .d x) :: r) = some l' → l'[off]? = some x
  | [], l, l', h => by
    rw [List.nil_append] at h
    unfold fillD at h
    rw [hp] at h
    simp only at h
    split at h
    · rename_i hc
      rw [fillD_keep h off hr]
      exact spl_at hc.2
    · cases h
  | (j, v) :: pre, l, l', h => by
    rw [List.cons_append] at h
    unfold fillD at h
    split at h
    · cases h
    · split at h
      · exact fillD_at hp hr h
      · cases h
theorem argsD_split {cx : Cx} {σ : St} {i : Nat} {x : Operand} {r : List (Nat × Operand)} : ∀ {pre : List (Nat × Operand)} {ps : List (Nat × DV)}, argsD cx σ (pre ++ (i, x) :: r) = some ps → ∃ pre' y r', ps = pre' ++ (i, y) :: r' ∧ toD σ (ev cx σ x) = .dv y ∧ r'.map (·.1) = r.map (·.1)
  | [], ps, h => by
    rw [List.nil_append] at h
    unfold argsD at h
    split at h
    · rename_i y m e1 e2
      cases h
      exact ⟨[], y, m, rfl, e1, argsD_fst e2⟩
    · cases h
  | (j, v) :: pre, ps, h => by
    rw [List.cons_append] at h
    unfold argsD at h
    split at h
    · rename_i y m e1 e2
      cases h
      obtain ⟨pre', y', r', h1, h2⟩ := argsD_split e2
      exact ⟨(j, y) :: pre', y', r', by rw [h1]; rfl, h2⟩
    · cases h
/-! A struct whose cells are told one by one. -/
def LRel (Q : AV → Value → Prop) (l : List AV) (cs : List Value) : Prop := l.length = cs.length ∧ ∀ (j : Nat) (x : AV) (v : Value), l[j]? = some x → cs[j]? = some v → Q x v
theorem LRel.append {Q : AV → Value → Prop} {l m : List AV} {cs ds : List Value} (h : LRel Q l cs) (k : LRel Q m ds) : LRel Q (l ++ m) (cs ++ ds) := by
  refine ⟨by rw [List.length_append, List.length_append, h.1, k.1], fun j x v hx hv => ?_⟩
  by_cases hj : j < l.length
  · rw [List.getElem?_append_left hj] at hx
    rw [List.getElem?_append_left (by rw [← h.1]; exact hj)] at hv
    exact h.2 j x v hx hv
  · rw [List.getElem?_append_right (by omega)] at hx
    rw [List.getElem?_append_right (by rw [← h.1]; omega), ← h.1] at hv
    exact k.2 _ x v hx hv
theorem LRel.take {Q : AV → Value → Prop} {l : List AV} {cs : List Value} (h : LRel Q l cs) (n : Nat) : LRel Q (l.take n) (cs.take n) := by
  refine ⟨by simp [h.1], fun j x v hx hv => ?_⟩
  rw [List.getElem?_take] at hx hv
  by_cases hj : j < n
  · rw [if_pos hj] at hx hv
    exact h.2 _ x v hx hv
  · rw [if_neg hj] at hx
    cases hx
theorem LRel.drop {Q : AV → Value → Prop} {l : List AV} {cs : List Value} (h : LRel Q l cs) (n : Nat) : LRel Q (l.drop n) (cs.drop n) := by
  refine ⟨by simp [h.1], fun j x v hx hv => ?_⟩
  rw [List.getElem?_drop] at hx hv
  exact h.2 _ x v hx hv
theorem LRel.spl {Q : AV → Value → Prop} {l x : List AV} {cs vs : List Value} (h : LRel Q l cs) (k : LRel Q x vs) (off : Nat) : LRel Q (Avc.spl l off x) (Avc.spl cs off vs) := by
  unfold Avc.spl
  rw [← k.1]
  exact ((h.take off).append k).append (h.drop _)
def tlA : List AV → AV
  | [] => .tnil
  | x :: r => .tcons x (tlA r)
theorem tlA_rel {cx : Cx} {w0 : World} : ∀ {l : List AV} {vs : List Value}, LRel (rel0 cx w0 ok ρ w) l vs → relT cx w0 ok ρ w (tlA l) vs
  | [], vs, h => List.eq_nil_of_length_eq_zero h.1.symm
  | x :: r, [], h => by have := h.1; simp at this
  | x :: r, v :: vs, h => ⟨v, vs, rfl, h.2 0 x v rfl rfl, tlA_rel ⟨by have := h.1; simpa using this, fun j y u hy hu => h.2 (j + 1) y u (by simpa using hy) (by simpa using hu)⟩⟩
def fillA (place : Nat → Option (Nat × Nat)) : List AV → List (Nat × List AV) → Option (List AV)
  | l, [] => some l
  | l, (i, x) :: r => match place i with
    | none => none
    | some (off, size) => if x.length = size ∧ off + size ≤ l.length then fillA place (spl l off x) r else none
theorem fill_rdA {Q : AV → Value → Prop} {place : Nat → Option (Nat × Nat)} : ∀ {ps : List (Nat × List AV)} {l l' : List AV} {cs : Array Value} {vs : List (Nat × Value)}, fillA place l ps = some l' → LRel Q l cs.toList →
    ps.length = vs.length → (∀ (j : Nat) (p : Nat × List AV) (v : Nat × Value), ps[j]? = some p → vs[j]? = some v → p.1 = v.1 ∧ LRel Q p.2 v.2.cells.toList) → ∃ cs', Instr.fill place cs vs = some cs' ∧ LRel Q l' cs'.toList
  | [], l, l', cs, vs, h, hl, hlen, _ => by
    have : vs = [] := List.eq_nil_of_length_eq_zero hlen.symm
    subst this
    simp only [fillA, Option.some.injEq] at h
    subst h
    exact ⟨cs, rfl, hl⟩
  | (i, x) :: r, l, l', cs, vs, h, hl, hlen, hr => by
    cases vs with
    | nil => simp at hlen
    | cons v vs =>
      obtain ⟨e1, hx⟩ := hr 0 _ _ rfl rfl
      obtain ⟨j, u⟩ := v
      simp only at e1 hx
      subst e1
      unfold fillA at h
      unfold Instr.fill
      split at h
      · cases h
      · rename_i off size hp
        rw [hp]
        split at h
        · rename_i hc
          have hsz : u.cells.size = size := ((Array.length_toList (xs := u.cells)).symm.trans hx.1.symm).trans hc.1
          have hcs : cs.size = l.length := (Array.length_toList (xs := cs)).symm.trans hl.1.symm
          have hcond : (decide (u.cells.size ≠ size) || decide (off + u.cells.size > cs.size)) = false := by
            simp only [Bool.or_eq_false_iff, decide_eq_false_iff_not]
            omega
          simp only [hcond, Bool.false_eq_true, if_false]
          refine fill_rdA h ?_ (by simpa using hlen) (fun k p v hp hv => hr (k + 1) p v (by simpa using hp) (by simpa using hv))
          have hfold := foldl_spl u.cells.toList 0 off cs (by rw [Array.length_toList]; omega)
          have hz : (u.cells.zipIdx.foldl (fun cs p => cs.setIfInBounds (off + p.2) p.1) cs) = ((u.cells.toList.zipIdx 0).foldl (fun cs p => cs.setIfInBounds (off + p.2) p.1) cs) := by
            rw [← Array.foldl_toList]
            simp
          have hz2 : (Array.foldl (fun cs x => match x with | (c, j) => cs.setIfInBounds (off + j) c) cs u.cells.zipIdx) = (u.cells.zipIdx.foldl (fun cs p => cs.setIfInBounds (off + p.2) p.1) cs) := rfl
          rw [hz2, hz, hfold, Nat.add_zero]
          exact hl.spl hx off
        · cases h
/-- The cells of a part: the call's own row, or data. -/
def partC (cx : Cx) (σ : St) (x : Operand) : Option (List AV) := match ev cx σ x with
  | .own k => match σ.o k with
    | some (.arr _ _ _) => some [.own k]
    | _ => none
  | .dv (.d y) => some [.dv (.d y)]
  | .dv (.ag l) => some (l.map fun y => .dv (.d y))
  | _ => none
def partsC (cx : Cx) (σ : St) : List (Nat × Operand) → Option (List (Nat × List AV))
  | [] => some []
  | (i, x) :: r => match partC cx σ x, partsC cx σ r with
    | some y, some l => some ((i, y) :: l)
    | _, _ => none
theorem partC_rel (hF : F.Wf) (h : Rel1 F M ρ σ a w) {x : Operand} {cs : List AV} (hc : partC F.cx σ x = some cs) : LRel (rel0 F.cx F.w0 (okM F M) ρ w) cs (a.eval x).cells.toList := by
  have hx := ev_rel hF h x
  unfold partC at hc
  split at hc
  · rename_i k e
    rw [e] at hx
    split at hc
    · rename_i hk
      cases hc
      obtain ⟨ds, hown, _⟩ := h.ob k _ hk
      have hv : a.eval x = ρ k := hx
      have hone : (a.eval x).cells.toList = [a.eval x] := by
        rw [hv]
        rcases hown.2 with ⟨h1, _⟩ | ⟨g, cap, cur, h1, _⟩
        · rw [h1]; rfl
        · rw [h1]; rfl
      rw [hone]
      refine ⟨rfl, fun j y u hy hu => ?_⟩
      cases j with
      | zero =>
        simp only [List.getElem?_cons_zero, Option.some.injEq] at hy hu
        subst hy
        subst hu
        exact hx
      | succ j => simp at hy
    · cases hc
  · rename_i y e
    rw [e] at hx
    cases hc
    have hR := RdV.cells (x := .d y) (ok := okM F M) (w := w) (v := a.eval x) hx
    exact ⟨hR.1, fun j y u hy hu => by
      cases j with
      | zero =>
        simp only [List.getElem?_cons_zero, Option.some.injEq] at hy
        subst hy
        exact hR.2 0 _ u rfl hu
      | succ j => simp at hy⟩
  · rename_i l e
    rw [e] at hx
    cases hc
    have hR := RdV.cells (x := .ag l) (ok := okM F M) (w := w) (v := a.eval x) hx
    exact ⟨by rw [List.length_map]; exact hR.1, fun j y u hy hu => by
      rw [List.getElem?_map, Option.map_eq_some_iff] at hy
      obtain ⟨z, hz, rfl⟩ := hy
      exact hR.2 j z u hz hu⟩
  · cases hc
theorem partsC_rel (hF : F.Wf) (h : Rel1 F M ρ σ a w) : ∀ {ps : List (Nat × Operand)} {l : List (Nat × List AV)}, partsC F.cx σ ps = some l → l.length = (ps.map fun p => (p.1, a.eval p.2)).length ∧
    ∀ (j : Nat) (p : Nat × List AV) (v : Nat × Value), l[j]? = some p → (ps.map fun p => (p.1, a.eval p.2))[j]? = some v → p.1 = v.1 ∧ LRel (rel0 F.cx F.w0 (okM F M) ρ w) p.2 v.2.cells.toList
  | [], l, h => by
    simp only [partsC, Option.some.injEq] at h
    subst h
    exact ⟨rfl, fun j p v hp => by simp at hp⟩
  | (i, x) :: r, l, hl => by
    unfold partsC at hl
    split at hl
    · rename_i y l' e1 e2
      simp only [Option.some.injEq] at hl
      subst hl
      obtain ⟨h1, h2⟩ := partsC_rel hF h e2
      refine ⟨by simp [h1], fun j p v hp hv => ?_⟩
      cases j with
      | zero =>
        simp only [List.getElem?_cons_zero, Option.some.injEq, List.map_cons] at hp hv
        subst hp
        subst hv
        exact ⟨rfl, partC_rel hF h e1⟩
      | succ j => exact h2 j p v (by simpa using hp) (by simpa using hv)
    · cases hl
theorem cv_tup (v : Value) : (cv v).tup = false := by
  unfold cv
  split <;> rfl
theorem cv_LRel {cs : List Value} : LRel (rel0 F.cx F.w0 ok ρ w) (cs.map cv) cs := ⟨by rw [List.length_map], fun j x v hx hv => by
  rw [List.getElem?_map, hv] at hx
  cases hx
  rw [← relA_eq (cv_tup v)]
  exact cv_rel v⟩
def vBuild (cx : Cx) (σ : St) (t : TypeId) (parts : Array (Nat × Operand)) : Option (Prop × AV) := match Tzero cx.P t, Tplc cx.P t, argsD cx σ parts.toList with
  | some z, some pl, some ps => if noOwn cx σ parts.toList = true then (match fillD (fun i : Nat => pl[i]?) z ps with
    | some l => some (True, .agz l (nilsF pl (parts.toList.map (·.1)) (zeroAV cx.P t) 0 ++ litsF cx σ pl parts.toList))
    | none => none) else (match partsC cx σ parts.toList with
    | some qs => (match fillA (fun i : Nat => pl[i]?) (zeroAV cx.P t) qs with
      | some l => some (True, .agv (tlA l))
      | none => none)
    | none => none)
  | _, _, _ => none

theorem fill_place {p q : Nat → Option (Nat × Nat)} : ∀ {ps : List (Nat × Value)} {cs cs' : Array Value}, (∀ i x, p i = some x → q i = some x) → Instr.fill p cs ps = some cs' → Instr.fill q cs ps = some cs'
  | [], cs, cs', _, h => h
  | (i, v) :: r, cs, cs', hpq, h => by
    unfold Instr.fill at h ⊢
    split at h
    · cases h
    · rename_i off size hp
      rw [hpq _ _ hp]
      simp only at h ⊢
      split at h
      · cases h
      · rename_i hc
        simp only [hc, Bool.false_eq_true, if_false]
        exact fill_place hpq h

theorem built_of {t : TypeId} {parts : Array (Nat × Operand)} {i : TypeInfo} {zv : Value} {pl : List (Nat × Nat)} {cs' : Array Value} (hi : F.cx.P.info? t = some i) (hzv : i.zero = some zv) (hpl : Tplc F.cx.P t = some pl)
    (hf : Instr.fill (fun i : Nat => pl[i]?) zv.cells (parts.toList.map fun p => (p.1, a.eval p.2)) = some cs') : F.cx.P.built t (parts.map fun (i, x) => (i, a.eval x)).toList = some cs' := by
  unfold Program.built
  unfold Tplc at hpl
  rw [hi]
  have hpt : (parts.map fun (i, x) => (i, a.eval x)).toList = parts.toList.map fun p => (p.1, a.eval p.2) := by rw [Array.toList_map]
  rw [hpt]
  split at hpl
  · rename_i fields hu
    rw [hu]
    simp only [hzv, hpl]
    have : (fun i : Nat => pl[i]?) = (pl.toArray[·]?) := by funext i; simp
    rw [← this]
    exact hf
  · rename_i n e hu
    rw [hu]
    rw [Option.map_eq_some_iff] at hpl
    obtain ⟨ie, hie, rfl⟩ := hpl
    simp only [hzv, hie]
    refine fill_place (fun i x hx => ?_) hf
    rw [List.getElem?_map, Option.map_eq_some_iff] at hx
    obtain ⟨j, hj, rfl⟩ := hx
    have := (List.getElem?_eq_some_iff.1 hj).2
    simp only [List.getElem_range] at this
    rw [this]
  · cases hpl
theorem vBuild_sound (hF : F.Wf) (h : Rel1 F M ρ σ a w) {o : Oper} {t : TypeId} {parts : Array (Nat × Operand)} (ho : o.op = .build t parts) {p : Prop} {r : AV} (hv : vBuild F.cx σ t parts = some (p, r)) (hp : p) :
    ∃ v, Runs F.cx.P a w o v ∧ relA F.cx F.w0 (okM F M) ρ w r v := by
  unfold vBuild at hv
  split at hv
  · rename_i z pl ps hz hpl hps
    split at hv
    · rename_i hn
      split at hv
      · rename_i l hl
        simp only [Option.some.injEq, Prod.mk.injEq] at hv
        obtain ⟨_, rfl⟩ := hv
        obtain ⟨h1, h2⟩ := argsD_rd hF h hps hn
        unfold Tzero at hz
        split at hz
        · rename_i i hi
          split at hz
          · rename_i zv hzv
            obtain ⟨cs', hf, hr⟩ := fill_rd (ok := okM F M) (w := w) (cs := zv.cells) hl (cvD_rd hz) h1 h2
            have hb := built_of hi hzv hpl hf
            refine ⟨.agg cs', by simp [Runs, execOp, ho, run_build w t _ cs' hb], ⟨cs'.toList, rfl, hr⟩, fun j hj => ?_⟩
            rcases List.mem_append.1 hj with hj | hj
            case inr =>
              obtain ⟨pre, i', x, r', off, e, m, q1, q2, q3, q4, q5, rfl⟩ := litsF_mem hj
              right
              have hA : litR F.w0 (okM F M) w e m (a.eval x) := by
                have := ev0_rel hF h x
                rw [q2] at this
                exact this
              have hat : cs'[off]? = some (a.eval x) := by
                have hf' := hf
                rw [q1, List.map_append, List.map_cons] at hf'
                obtain ⟨⟨A, hA⟩, _⟩ := hA
                refine fill_at q3 (fun p hp o s ho => ?_) (by rw [hA]; rfl) hf'
                obtain ⟨q, hq, rfl⟩ := List.mem_map.1 hp
                exact cov_spec q4 q.1 (List.mem_map_of_mem hq) o s ho
              have hlm : l[off]? = some (.sl m) := by
                rw [q1] at hps
                obtain ⟨pre', y, r2, hs1, hs2, hs3⟩ := argsD_split hps
                have hy : y = .d (.sl m) := by
                  have e0 : ev F.cx σ x = .sl m := by unfold ev; rw [q2]; rfl
                  rw [e0] at hs2
                  simp only [toD] at hs2
                  exact (AV.dv.inj hs2).symm
                subst hy
                rw [hs1] at hl
                refine fillD_at q3 (fun p hp o s ho => ?_) hl
                have : p.1 ∈ r'.map (·.1) := by rw [← hs3]; exact List.mem_map_of_mem hp
                exact cov_spec q4 p.1 this o s ho
              exact ⟨off, e, m, a.eval x, rfl, q5, hat, hlm, hA⟩
            left
            obtain ⟨_, hj2, hj3, hj4⟩ := nilsF_mem hj
            refine ⟨hj4, ?_⟩
            have hza : zeroAV F.cx.P t = zv.cells.toList.map cv := by
              unfold zeroAV
              simp only [hi, hzv]
            rw [hza, Nat.sub_zero, List.getElem?_map, Option.map_eq_some_iff] at hj2
            obtain ⟨v0, hv0, hcv⟩ := hj2
            have hnil : v0 = .slice none 0 0 := by
              unfold cv at hcv
              split at hcv <;> first | (exfalso; cases hcv; done) | rfl
            subst hnil
            show cs'[j]? = _
            rw [fill_keep hf j (fun p hp off size hpl2 => ?_), ← Array.getElem?_toList]
            · exact hv0
            · obtain ⟨q, hq, rfl⟩ := List.mem_map.1 hp
              exact cov_spec hj3 q.1 (List.mem_map_of_mem hq) off size hpl2
          · cases hz
        · cases hz
      · cases hv
    · split at hv
      · rename_i qs hqs
        split at hv
        · rename_i l hl
          simp only [Option.some.injEq, Prod.mk.injEq] at hv
          obtain ⟨_, rfl⟩ := hv
          obtain ⟨h1, h2⟩ := partsC_rel hF h hqs
          unfold Tzero at hz
          split at hz
          · rename_i i hi
            split at hz
            · rename_i zv hzv
              have hza : zeroAV F.cx.P t = zv.cells.toList.map cv := by
                unfold zeroAV
                simp only [hi, hzv]
              rw [hza] at hl
              obtain ⟨cs', hf, hr⟩ := fill_rdA (cs := zv.cells) hl cv_LRel h1 h2
              have hb := built_of hi hzv hpl hf
              exact ⟨.agg cs', by simp [Runs, execOp, ho, run_build w t _ cs' hb], cs'.toList, rfl, tlA_rel hr⟩
            · cases hz
          · cases hz
        · cases hv
      · cases hv
  · cases hv

/-! ### Conversions -/
def numsOf (l : List (List D)) : List Int := l.map fun x => match x with
  | [.int _ n] => n
  | _ => 0
def vConv (cx : Cx) (σ : St) (s t : TypeId) (x : Operand) : Option (Prop × AV) := match cx.P.underlying s, cx.P.underlying t, toD σ (ev cx σ x) with
  | some (.int _), some (.int k), .dv (.d (.int _ n)) => some (True, .dv (.d (.int k (k.wrap n))))
  | some (.int _), some .string, .dv (.d (.int _ n)) => some (True, .str (Utf8.encode n))
  | some .string, some .string, .dv (.d (.str b)) => some (True, .str b)
  | some (.slice e), some .string, .dv (.d (.sl l)) => match cx.P.underlying e with
    | some (.int .u8) => some (∀ x ∈ l, ∃ n, x = [D.int .u8 n], .str (strOfNums (numsOf l)))
    | _ => none
  | _, _, _ => none

theorem toD_int {k : IntKind} {n : Int} {r : AV} (h : toD σ r = .dv (.d (.int k n))) : r = .dv (.d (.int k n)) := by
  cases r with
  | own k' => simp only [toD] at h; split at h <;> cases h
  | _ => exact h
theorem toD_str {s : ByteArray} {r : AV} (h : toD σ r = .dv (.d (.str s))) : r = .dv (.d (.str s)) := by
  cases r with
  | own k' => simp only [toD] at h; split at h <;> cases h
  | _ => exact h

theorem bytes_run {P : Program} {s e t : TypeId} (hs : P.underlying s = some (.slice e)) (he : P.underlying e = some (.int .u8)) (ht : P.underlying t = some .string) {l : List (List D)} (hl : ∀ x ∈ l, ∃ n, x = [D.int .u8 n])
    {A : Option Addr} {c : Nat} (hA : l.length ≠ 0 → ∃ b o, A = some ⟨b, o, none⟩ ∧ ∀ i, i < l.length → w.cell? ⟨b, o + i, none⟩ = some (.int .u8 ((numsOf l).getD i 0))) :
    (convert s t (.slice A l.length c)).run P w = .ok (.string (strOfNums (numsOf l))) w := by
  by_cases h0 : l.length = 0
  · have : l = [] := List.eq_nil_of_length_eq_zero h0
    subst this
    cases A with
    | none => exact run_convert_bytes_nil w s e hs he 0 c t ht
    | some a =>
      rw [run_convert_bytes_string w s t e _ _ _ hs he ht]
      simp [Conv.bytesToString, loadCells, loadCellsFrom, numsOf, strOfNums]
      rfl
  · obtain ⟨b, o, rfl, hc⟩ := hA h0
    exact run_convert_bytes_arg w s e hs he b o l.length c (numsOf l) (by simp [numsOf]) hc t ht

theorem vConv_sound (hF : F.Wf) (h : Rel1 F M ρ σ a w) {o : Oper} {s t : TypeId} {x : Operand} (ho : o.op = .convert s t x) {p : Prop} {r : AV} (hv : vConv F.cx σ s t x = some (p, r)) (hp : p) :
    ∃ v, Runs F.cx.P a w o v ∧ relA F.cx F.w0 (okM F M) ρ w r v := by
  unfold vConv at hv
  have hx := ev_rel hF h x
  obtain ⟨vx, ex⟩ : ∃ v, a.eval x = v := ⟨_, rfl⟩
  rw [ex] at hx
  split at hv
  · rename_i k0 k k1 n h1 h2 e
    rw [toD_int e] at hx
    cases (show Rd _ _ (.int k1 n) vx from hx)
    simp only [Option.some.injEq, Prod.mk.injEq] at hv
    obtain ⟨_, rfl⟩ := hv
    exact ⟨.int k (k.wrap n), by simp [Runs, execOp, ho, ex, convert, run_underlying h1, run_underlying h2, Conv.intToInt], Rd.int _ _⟩
  · rename_i k0 k1 n h1 h2 e
    rw [toD_int e] at hx
    cases (show Rd _ _ (.int k1 n) vx from hx)
    simp only [Option.some.injEq, Prod.mk.injEq] at hv
    obtain ⟨_, rfl⟩ := hv
    exact ⟨.string (Utf8.encode n), by simp [Runs, execOp, ho, ex, convert, run_underlying h1, run_underlying h2, Conv.intToString], Rd.str _⟩
  · rename_i b h1 h2 e
    rw [toD_str e] at hx
    cases (show Rd _ _ (.str b) vx from hx)
    simp only [Option.some.injEq, Prod.mk.injEq] at hv
    obtain ⟨_, rfl⟩ := hv
    exact ⟨.string b, by simp [Runs, execOp, ho, ex, convert, run_underlying h1, run_underlying h2], Rd.str _⟩
  · rename_i e0 l h1 h2 e
    split at hv
    · rename_i he
      simp only [Option.some.injEq, Prod.mk.injEq] at hv
      obtain ⟨rfl, rfl⟩ := hv
      have key : ∃ A c, vx = .slice A l.length c ∧ (l.length ≠ 0 → ∃ b o, A = some ⟨b, o, none⟩ ∧ ∀ i, i < l.length → w.cell? ⟨b, o + i, none⟩ = some (.int .u8 ((numsOf l).getD i 0))) := by
        have hrow : ∀ i, i < l.length → l[i]? = some [.int .u8 ((numsOf l).getD i 0)] := fun i hi => by
          obtain ⟨n, hn⟩ := hp _ (List.getElem_mem hi)
          rw [List.getElem?_eq_getElem hi, hn]
          simp [numsOf, List.getD_eq_getElem?_getD, List.getElem?_map, List.getElem?_eq_getElem hi, hn]
        cases hA : ev F.cx σ x with
        | own k =>
          rw [hA] at e hx
          simp only [toD] at e
          split at e
          · rename_i e' z l' hk
            simp only [AV.dv.injEq, DV.d.injEq, D.sl.injEq] at e
            subst e
            obtain ⟨cs, hown, hM, hz, hl⟩ := h.ob k _ hk
            have hvx : vx = ρ k := hx
            rcases hown.2 with ⟨h3, h4⟩ | ⟨g, cap, cur, hg, _⟩
            · exact ⟨none, 0, by rw [hvx, h3, h4], fun h5 => absurd h4 h5⟩
            · refine ⟨some ⟨g, 0, none⟩, cap, by rw [hvx, hg], fun _ => ⟨g, 0, rfl, fun i hi => ?_⟩⟩
              have hz1 : z = 1 := by
                have h6 := hz i _ (hrow i hi)
                simpa using h6.symm
              subst hz1
              have h7 := flatten_get hz (hrow i hi)
              have h8 : l'.flatten[i]? = some (.int .u8 ((numsOf l').getD i 0)) := by
                have := congrArg (fun q : List D => q[0]?) h7
                simpa [List.getElem?_take, List.getElem?_drop] using this
              obtain ⟨v, h9, h10⟩ := hl.get h8
              cases h10
              have := ownsRow_cells hown hg i _ h9
              rwa [Nat.zero_add]
          · cases e
        | dv y =>
          rw [hA] at e hx
          cases y with
          | ag m => simp [toD] at e
          | d y =>
            simp only [toD, AV.dv.injEq, DV.d.injEq] at e
            subst e
            cases (show Rd _ _ (.sl l) vx from hx) with
            | nil A c => exact ⟨A, c, rfl, fun h5 => absurd rfl h5⟩
            | sl _ z b o' c u hc hb hlt hz hu hr =>
              refine ⟨_, c, rfl, fun _ => ⟨b, o', rfl, fun i hi => ?_⟩⟩
              have h1 := hz i _ (hrow i hi)
              have h2 := hu i _ (hrow i hi) 0 _ rfl
              have h3 := hr i _ (hrow i hi) 0 _ rfl
              simp only [List.length_cons, List.length_nil] at h1
              subst h1
              have h2' : w.cell? ⟨b, o' + i, none⟩ = some (u i 0) := by simpa using h2
              rw [h2']
              cases h3e : u i 0 with
              | int k n =>
                rw [h3e] at h3
                cases h3
                rfl
              | _ => rw [h3e] at h3; cases h3
        | _ => rw [hA] at e; simp [toD] at e
      obtain ⟨A, c, rfl, hA⟩ := key
      exact ⟨_, by simp [Runs, execOp, ho, ex, bytes_run h1 he h2 hp hA], Rd.str _⟩
    · cases hv
  · cases hv
end
end Go.Avc

namespace Go.Avc
open Go

/-- An operation's meaning: what it asks, what it yields, how often it asks the stream. -/
structure GO where
  pre : Prop
  post : AV → Prop
  cost : Nat

section
variable {F : Fr} {M : Nat → Prop} {ρ : Nat → Value} {σ : St} {a : Act} {w : World} {ok : Nat → Prop}

/-- The operation does what g says, all that was staying as it was. -/
def Does (F : Fr) (M : Nat → Prop) (ρ : Nat → Value) (σ : St) (a : Act) (w : World) (o : Oper) (g : GO) : Prop :=
  g.pre → ∀ (K : Act → World → Prop) (Q : Exit → Act → World → Prop), (∀ r v w', g.post r → Gr F.cx.g w w' → StAt F.cx (F.N + (σ.c + g.cost)) w' → relA F.cx F.w0 (okM F M) ρ w' r v → K (a.put o.dst v) w') → Oper.wp F.cx.P o a w K Q

def lift : Option (Prop × AV) → Option GO
  | some (p, r) => some ⟨p, fun x => x = r, 0⟩
  | none => none

theorem Does.of_runs (h : Rel1 F M ρ σ a w) {o : Oper} {p : Prop} {r : AV} (hr : p → ∃ v, Runs F.cx.P a w o v ∧ relA F.cx F.w0 (okM F M) ρ w r v) : Does F M ρ σ a w o ⟨p, fun x => x = r, 0⟩ := by
  intro hp
  intro K Q hK
  obtain ⟨v, h1, h2⟩ := hr hp
  unfold Oper.wp
  rw [show (execOp a.eval o).run F.cx.P w = _ from h1]
  exact hK r v w rfl (Gr.refl _ _) h.st h2

theorem Does.of_lift (h : Rel1 F M ρ σ a w) {o : Oper} {x : Option (Prop × AV)} {g : GO} (hg : lift x = some g) (hr : ∀ p r, x = some (p, r) → p → ∃ v, Runs F.cx.P a w o v ∧ relA F.cx F.w0 (okM F M) ρ w r v) : Does F M ρ σ a w o g := by
  unfold lift at hg
  split at hg
  · rename_i p r
    simp only [Option.some.injEq] at hg
    subst hg
    exact Does.of_runs h (hr p r rfl)
  · cases hg

/-! ### Rows of data in a block -/
theorem flat_at {l : List (List D)} {z : Nat} (hz : ∀ (i : Nat) (x : List D), l[i]? = some x → x.length = z) {i : Nat} {x : List D} (hi : l[i]? = some x) {j : Nat} {y : D} (hj : x[j]? = some y) : l.flatten[i * z + j]? = some y := by
  have h1 := flatten_get hz hi
  rw [← h1, List.getElem?_take] at hj
  split at hj
  · rw [List.getElem?_drop] at hj
    exact hj
  · cases hj

theorem Rd.of_flat {l : List (List D)} {z b c : Nat} {cs : List Value} (hz : ∀ (i : Nat) (x : List D), l[i]? = some x → x.length = z) (hl : RdL ok w l.flatten cs)
    (hc : ∀ (j : Nat) (u : Value), cs[j]? = some u → w.cell? ⟨b, j, none⟩ = some u) (hb : ok b) (hlt : b < w.heap.size) (hcap : l.length ≤ c) : Rd ok w (.sl l) (.slice (some ⟨b, 0, none⟩) l.length c) := by
  refine .sl l z b 0 c (fun i j => cs.getD (i * z + j) undef) hcap hb hlt hz (fun i x hi j y hj => ?_) (fun i x hi j y hj => ?_)
  · obtain ⟨v, h1, _⟩ := hl.get (flat_at hz hi hj)
    rw [Nat.zero_add, hc _ v h1, List.getD_eq_getElem?_getD, h1]
    rfl
  · obtain ⟨v, h1, h2⟩ := hl.get (flat_at hz hi hj)
    rw [List.getD_eq_getElem?_getD, h1]
    exact h2

theorem own_data (hF : F.Wf) {e : TypeId} {z : Nat} {l : List (List D)} {v : Value} (h : ObR F M ρ w (.arr e z l) v) {ok' : Nat → Prop} (hm : ∀ b, M b → F.w0.heap.size ≤ b ∧ b < w.heap.size) (hk : ∀ b, okM F M b → ok' b) (hM : ∀ b, v.ownBlock = some b → M b → ok' b) : Rd ok' w (.sl l) v := by
  obtain ⟨cs, hown, hb, hz, hl⟩ := h
  have hl' : RdL ok' w l.flatten cs := hl.mono (Nat.le_refl _) (fun b h _ => hk b h) (fun _ _ _ => rfl)
  rcases hown.2 with ⟨rfl, hn⟩ | ⟨g, cap, cur, hg, _, _, hcap, _⟩
  · have : l = [] := List.eq_nil_of_length_eq_zero hn
    subst this
    exact .nil _ _
  · have hMg := hb g (by rw [hg]; rfl)
    rw [hg]
    exact Rd.of_flat hz hl' (ownsRow_cells hown hg) (hM g (by rw [hg]; rfl) hMg) (hm g hMg).2 hcap

/-! ### A slice written out -/
def idxOk : Nat → List (Nat × DV) → Bool
  | _, [] => true
  | k, (i, _) :: r => (i == k) && idxOk (k + 1) r
def gBuildS (cx : Cx) (σ : St) (t : TypeId) (n : Nat) (parts : Array (Nat × Operand)) : Option GO := match cx.P.underlying t, argsD cx σ parts.toList with
  | some (.slice e), some ps => match Tzero cx.P e with
    | some z => if noOwn cx σ parts.toList && idxOk 0 ps && (ps.length == n) && decide (n * cx.P.cellsOf e ≤ 16777216) && (z.length == cx.P.cellsOf e) && (cx.P.cellsOf e != 0) then
        some ⟨∀ p ∈ ps, p.2.cells.length = cx.P.cellsOf e, fun r => r = .lit e (ps.map fun p => p.2.cells), 0⟩ else none
    | none => none
  | _, _ => none

theorem fillD_all {z : Nat} : ∀ {ps : List (Nat × DV)} {k : Nat} {l : List D}, idxOk k ps = true → (∀ p ∈ ps, p.2.cells.length = z) → l.length = (k + ps.length) * z →
    fillD (fun i => some (i * z, z)) l ps = some (l.take (k * z) ++ (ps.map fun p => p.2.cells).flatten)
  | [], k, l, _, _, hl => by
    simp only [fillD, List.map_nil, List.flatten_nil, List.append_nil, Option.some.injEq]
    rw [List.take_of_length_le (by rw [hl]; simp)]
  | (i, x) :: r, k, l, hk, hz, hl => by
    unfold idxOk at hk
    rw [Bool.and_eq_true, beq_iff_eq] at hk
    obtain ⟨rfl, hk⟩ := hk
    have hx : x.cells.length = z := hz _ List.mem_cons_self
    simp only [List.length_cons] at hl
    have h1 : i * z + z ≤ l.length := by
      rw [hl, show i + (r.length + 1) = (i + 1) + r.length by omega, Nat.add_mul, Nat.succ_mul]
      omega
    have hs : (spl l (i * z) x.cells).length = (i + 1 + r.length) * z := by
      simp only [spl, List.length_append, List.length_take, List.length_drop, hx]
      rw [Nat.min_eq_left (by omega)]
      have : (i + 1 + r.length) * z = l.length := by rw [hl]; congr 1; omega
      omega
    unfold fillD
    simp only [hx, true_and, h1, if_true]
    rw [fillD_all hk (fun p hp => hz p (List.mem_cons_of_mem _ hp)) hs]
    congr 1
    rw [List.map_cons, List.flatten_cons, ← List.append_assoc]
    congr 1
    have ht : (l.take (i * z)).length = i * z := by rw [List.length_take, Nat.min_eq_left (by omega)]
    simp only [spl, hx]
    rw [Nat.succ_mul, List.append_assoc, List.take_append, ht, List.take_of_length_le (l := l.take (i * z)) (i := i * z + z) (by rw [ht]; omega), show i * z + z - i * z = z by omega, List.take_append, hx, Nat.sub_self, List.take_zero, List.append_nil,
      List.take_of_length_le (l := x.cells) (i := z) (by rw [hx]; exact Nat.le_refl _)]

theorem flatten_len (z : Nat) : ∀ l : List (List D), (∀ (i : Nat) (x : List D), l[i]? = some x → x.length = z) → l.flatten.length = l.length * z
  | [], _ => by simp
  | x :: r, h => by
    rw [List.flatten_cons, List.length_append, h 0 x rfl, flatten_len z r (fun i y hy => h (i + 1) y (by simpa using hy)), List.length_cons, Nat.succ_mul, Nat.add_comm]
theorem gBuildS_sound (hF : F.Wf) (h : Rel1 F M ρ σ a w) {o : Oper} {t : TypeId} {n : Nat} {parts : Array (Nat × Operand)} (ho : o.op = .buildSlice t n parts) {g : GO} (hg : gBuildS F.cx σ t n parts = some g) : Does F M ρ σ a w o g := by
  unfold gBuildS at hg
  split at hg
  · rename_i e ps hu hps
    split at hg
    · rename_i z hz
      split at hg
      · rename_i hc
        simp only [Bool.and_eq_true, beq_iff_eq, bne_iff_ne, decide_eq_true_eq] at hc
        obtain ⟨⟨⟨⟨⟨hn, hi⟩, hlen⟩, hsz⟩, hzl⟩, hs0⟩ := hc
        simp only [Option.some.injEq] at hg
        subst hg
        intro hp
        intro K Q hK
        obtain ⟨h1, h2⟩ := argsD_rd hF h hps hn
        unfold Tzero at hz
        split at hz
        · rename_i ie hie
          split at hz
          · rename_i zv hzv
            have hzr : RdL (okM F M) w z zv.cells.toList := cvD_rd hz
            have hzs : zv.cells.size = F.cx.P.cellsOf e := by
              rw [← hzl, hzr.1, Array.length_toList]
            have hce : ie.size = F.cx.P.cellsOf e := by simp [Program.cellsOf, hie]
            have hrows : RdL (okM F M) w (List.replicate n z).flatten ((Array.range (n * F.cx.P.cellsOf e)).map ((if n * F.cx.P.cellsOf e = 0 then #[] else zv.cells)[· % (if n * F.cx.P.cellsOf e = 0 then #[] else zv.cells).size]!)).toList := by
              by_cases hn0 : n = 0
              · subst hn0
                simp
                exact RdL.nil
              · have hne : ¬ n * F.cx.P.cellsOf e = 0 := by
                  rw [Nat.mul_eq_zero]
                  omega
                rw [if_neg hne]
                refine ⟨by simp [hzl], fun j x v hx hv => ?_⟩
                rw [Array.getElem?_toList, Array.getElem?_map, Option.map_eq_some_iff] at hv
                obtain ⟨q, hq, rfl⟩ := hv
                have hq2 := (Array.getElem?_eq_some_iff.1 hq)
                obtain ⟨hq3, hq4⟩ := hq2
                simp only [Array.getElem_range] at hq4
                subst hq4
                simp only [Array.size_range] at hq3
                have hpos : 0 < F.cx.P.cellsOf e := by omega
                have hmod : j % F.cx.P.cellsOf e < F.cx.P.cellsOf e := Nat.mod_lt _ hpos
                have hdiv : j / F.cx.P.cellsOf e < n := Nat.div_lt_of_lt_mul (by rw [Nat.mul_comm]; exact hq3)
                have hrep : (List.replicate n z)[j / F.cx.P.cellsOf e]? = some z := by simp [hdiv]
                have hz' : ∀ (i : Nat) (x : List D), (List.replicate n z)[i]? = some x → x.length = F.cx.P.cellsOf e := fun i x hx => by
                  rw [List.getElem?_replicate] at hx
                  split at hx
                  · cases hx; exact hzl
                  · cases hx
                have hx0 : z[j % F.cx.P.cellsOf e]? = some (z[j % F.cx.P.cellsOf e]'(by omega)) := List.getElem?_eq_getElem _
                have h3 := flat_at hz' hrep hx0
                rw [Nat.div_add_mod' j] at h3
                rw [h3] at hx
                cases hx
                obtain ⟨v, h4, h5⟩ := hzr.get hx0
                rw [hzs]
                have h6 : zv.cells[j % F.cx.P.cellsOf e]! = v := by
                  rw [Array.getElem?_toList] at h4
                  simp [getElem!_def, h4]
                rw [h6]
                exact h5
            have hfd := fillD_all (z := F.cx.P.cellsOf e) (k := 0) (l := (List.replicate n z).flatten) hi hp (by simp [hzl, hlen])
            simp only [Nat.zero_mul, List.take_zero, List.nil_append] at hfd
            obtain ⟨cs', hf, hr⟩ := fill_rd hfd hrows h1 h2
            have hz3 : ∀ (i : Nat) (x : List D), (ps.map fun p => p.2.cells)[i]? = some x → x.length = F.cx.P.cellsOf e := fun i x hx => by
              rw [List.getElem?_map, Option.map_eq_some_iff] at hx
              obtain ⟨p, hp1, rfl⟩ := hx
              exact hp p (List.mem_of_getElem? hp1)
            have hnew : okM F M w.heap.size := ⟨.inr h.gr.size, fun hM => by have := (h.mb _ hM).2; omega⟩
            have hgr := Gr.alloc F.cx.g w (.cells cs' e)
            have hres : Rd (okM F M) (w.alloc (.cells cs' e)) (.sl (ps.map fun p => p.2.cells)) (.slice (some ⟨w.heap.size, 0, none⟩) n n) := by
              have := Rd.of_flat (b := w.heap.size) (c := n) (w := w.alloc (.cells cs' e)) hz3 (hr.mono hgr.size (fun _ h _ => h) (fun b hb hlt => hgr.block b hlt (okM_ne hF hb)))
                (fun j u hj => by
                  unfold World.cell?
                  have : (w.alloc (.cells cs' e)).heap[w.heap.size]? = some (.cells cs' e (0, 0)) := heap_alloc_new w _
                  rw [this]
                  simpa using hj) hnew (by show w.heap.size < (w.heap.push _).size; simp) (by simp [hlen])
              simpa [hlen] using this
            have hpt : (parts.map fun (i, x) => (i, a.eval x)).toList = parts.toList.map fun p => (p.1, a.eval p.2) := by rw [Array.toList_map]
            have hrun : (Instr.buildSlice t n (parts.map fun (i, x) => (i, a.eval x))).run F.cx.P w = .ok (.slice (some ⟨w.heap.size, 0, none⟩) n n) (w.alloc (.cells cs' e)) := by
              unfold Instr.buildSlice
              simp only [Sem.run_bind, run_underlying hu, Result.andThen_ok, size_run hs0]
              rw [if_neg (by omega)]
              by_cases hz0 : n * F.cx.P.cellsOf e = 0
              · simp only [hz0, if_true] at hf ⊢
                simp only [Sem.run_bind, Sem.run_pure, Result.andThen_ok]
                rw [hpt, hf]
                simp only [newRow, Sem.run_bind, run_newObj, Sem.run_pure, Result.andThen_ok]
                rfl
              · simp only [hz0, if_false] at hf ⊢
                have hzv' : (zeroValue e).run F.cx.P w = .ok zv w := by simp [zeroValue, typeInfo, hie, hzv]
                simp only [Sem.run_bind, hzv', Sem.run_pure, Result.andThen_ok]
                rw [hpt, hf]
                simp only [newRow, Sem.run_bind, run_newObj, Sem.run_pure, Result.andThen_ok]
                rfl
            have hcsz : cs'.size = (ps.map fun p => p.2.cells).length * F.cx.P.cellsOf e := by
              have := hr.1.symm
              rw [flatten_len _ _ hz3, Array.length_toList] at this
              exact this
            have hfew : (ps.map fun p => p.2.cells).length ≤ 16777216 := by
              rw [List.length_map, hlen]
              exact Nat.le_trans (Nat.le_mul_of_pos_right n (by omega)) hsz
            unfold Oper.wp
            have hex : (execOp a.eval o).run F.cx.P w = .ok (.value (.slice (some ⟨w.heap.size, 0, none⟩) n n)) (w.alloc (.cells cs' e)) := by
              simp only [execOp, ho, Sem.run_bind, hrun, Result.andThen_ok, Sem.run_pure]
            rw [hex]
            exact hK _ _ _ rfl hgr (h.st.keep hgr.size (fun b hb => (Gr.alloc none w (.cells cs' e)).block b hb (by simp))) ⟨⟨_, by rw [List.length_map, hlen]⟩, hres, .inr ⟨w.heap.size, cs', F.cx.P.cellsOf e, by rw [List.length_map, hlen], h.gr.size, hnew, by show w.heap.size < (w.heap.push _).size; simp, heap_alloc_new w _, hcsz, hfew, hz3, hr.mono hgr.size (fun _ h _ => h) (fun b hb hlt => hgr.block b hlt (okM_ne hF hb))⟩⟩
          · cases hz
        · cases hz
      · cases hg
    · cases hg
  · cases hg
end
end Go.Avc

namespace Go.Avc
open Go

/-- A closure's contract, out of what it does over data (caps: what its captured variables hold). -/
def clo (φ : List (List D) → FSpec) (caps : List (List D)) : Spec where
  pre as := ∃ xs : List DV, as = xs.map .dv ++ caps.map .dp ∧ (φ caps).pre xs
  post as r := ∃ (xs : List DV) (y : DV), as = xs.map .dv ++ caps.map .dp ∧ r = .dv y ∧ (φ caps).post xs y
  cost _ := 0
  fresh := true

/-- What is handed over: a row in new memory that nobody else has (z cells each); or a struct whose cell z / 1000 - 1 is such a row (z % 1000 cells each), its other cells flat. -/
def Hands (ok : Nat → Prop) (w : World) (base : Nat) (e : TypeId) (z : Nat) (v : Value) (r : AV) : Prop :=
  (∃ (l : List (List D)) (xs : List Value), z < 1000 ∧ r = .sl l ∧ w.ownsRow base e z v l.length xs ∧ (∀ (i : Nat) (x : List D), l[i]? = some x → x.length = z) ∧ RdL (fun b => ok b ∧ v.ownBlock ≠ some b) w l.flatten xs) ∨
  ∃ (cs : List Value) (u : Value) (L : List D) (l : List (List D)) (xs : List Value), 1000 ≤ z ∧ r = .dv (.ag L) ∧ v = .agg cs.toArray ∧ L.length = cs.length ∧ L[z / 1000 - 1]? = some (.sl l) ∧ cs[z / 1000 - 1]? = some u ∧
    w.ownsRow base e (z % 1000) u l.length xs ∧ (∀ (i : Nat) (x : List D), l[i]? = some x → x.length = z % 1000) ∧ RdL (fun _ => False) w l.flatten xs ∧
    ∀ (i : Nat) (x : D) (y : Value), i ≠ z / 1000 - 1 → L[i]? = some x → cs[i]? = some y → Rd (fun _ => False) w x y
/-- A contract of a function that writes into a row that is handed to it (its first argument, z cells each): afterwards the row holds what the contract says. -/
def CtrM (cx : Cx) (f : FuncId) (sp : Spec) (e : TypeId) (z : Nat) : Prop :=
  ∀ (F : Fr) (base : Nat) (l : List (List D)) (xs : List Value) (v : Value) (as : List AV) (vals : List Value), F.cx = cx → F.Wf → StAt cx F.N F.w0 → GlAt cx F.w0 → as.length = vals.length →
    (∀ (i : Nat) (a : AV) (u : Value), as[i]? = some a → vals[i]? = some u → rel0 cx F.w0 F.ok (fun _ => undef) F.w0 a u) →
    base ≤ F.w0.heap.size → F.w0.ownsRow base e z v l.length xs → (∀ b, v.ownBlock = some b → ¬ F.ok b ∧ cx.g ≠ some b) → (∀ (i : Nat) (x : List D), l[i]? = some x → x.length = z) → RdL F.ok F.w0 l.flatten xs → sp.pre (.sl l :: as) →
    Calls cx.P f (v :: vals).toArray F.w0 fun e' w' => ∃ (l' : List (List D)) (xs' : List Value), e' = .returned (.tuple #[]) ∧ sp.post (.sl l :: as) (.sl l') ∧ Else F.w0 v.ownBlock w' ∧ w'.ownsRow base e z v l'.length xs' ∧ (∀ (i : Nat) (x : List D), l'[i]? = some x → x.length = z) ∧ RdL F.ok w' l'.flatten xs'
/-- Called in a later world in which one block may hold something else. -/
def GrX (g B : Option Nat) (w w' : World) : Prop := w.heap.size ≤ w'.heap.size ∧ w'.os = w.os ∧ w'.tape = w.tape ∧ w'.output = w.output ∧ ∀ b, b < w.heap.size → g ≠ some b → B ≠ some b → w'.heap[b]? = w.heap[b]?
def CallableX (cx : Cx) (w0 : World) (B : Option Nat) (sp : FSpec) (v : Value) : Prop := ∃ (f : FuncId) (caps : Array Value), v = .func (.func f) #[] caps ∧ Enters cx.P f ∧
  ∀ (w' : World) (N : Nat) (ok : Nat → Prop) (as : List DV) (vals : List Value), GrX cx.g B w0 w' → StAt cx N w' → GlAt cx w' → N ≤ 4611686018427387904 → (∀ b, ok b → b < w'.heap.size ∧ cx.g ≠ some b) → (∀ b, b < cx.ng → ok b) →
    as.length = vals.length → (∀ (i : Nat) (a : DV) (u : Value), as[i]? = some a → vals[i]? = some u → RdV ok w' a u) → sp.pre as →
    Calls cx.P f (vals.toArray ++ caps) w' fun e w'' => ∃ v r, e = .returned v ∧ sp.post as r ∧ RdV (fun b => ok b ∨ w'.heap.size ≤ b) w'' r v ∧ Gr cx.g w' w'' ∧ StAt cx N w''
def relX (cx : Cx) (w : World) (B : Option Nat) (ok : Nat → Prop) : AV → Value → Prop
  | .fv sp, u => CallableX cx w B sp u
  | a, u => rel0 cx w ok (fun _ => undef) w a u
/-- A contract of a function that takes a row over and answers a row in its stead (in its memory, or in new memory). -/
def CtrC (cx : Cx) (f : FuncId) (sp : Spec) (e : TypeId) (z : Nat) : Prop :=
  ∀ (F : Fr) (base : Nat) (l : List (List D)) (xs : List Value) (v : Value) (as : List AV) (vals : List Value), F.cx = cx → F.Wf → StAt cx F.N F.w0 → GlAt cx F.w0 → as.length = vals.length →
    (∀ (i : Nat) (a : AV) (u : Value), as[i]? = some a → vals[i]? = some u → relX cx F.w0 v.ownBlock F.ok a u) →
    base ≤ F.w0.heap.size → (∀ b, cx.g = some b → b < base) → F.w0.ownsRow base e z v l.length xs → (∀ b, v.ownBlock = some b → ¬ F.ok b ∧ cx.g ≠ some b) → (∀ (i : Nat) (x : List D), l[i]? = some x → x.length = z) → RdL F.ok F.w0 l.flatten xs → sp.pre (.sl l :: as) →
    Calls cx.P f (v :: vals).toArray F.w0 fun e' w' => ∃ (v' : Value) (l' : List (List D)) (xs' : List Value), e' = .returned v' ∧ sp.post (.sl l :: as) (.sl l') ∧ GrX cx.g v.ownBlock F.w0 w' ∧ StAt cx F.N w' ∧ (v'.ownBlock = none ∨ v'.ownBlock = v.ownBlock ∨ ∃ k, v'.ownBlock = some k ∧ F.w0.heap.size ≤ k) ∧
      w'.ownsRow base e z v' l'.length xs' ∧ (∀ (i : Nat) (x : List D), l'[i]? = some x → x.length = z) ∧ RdL F.ok w' l'.flatten xs'
/-- A contract of a function whose answer is a row in new memory that nobody else has; or (z from 1000000 on) that writes into a row that is handed to it; or (z from 2000000 on) that answers a row in its stead. -/
def CtrO (cx : Cx) (f : FuncId) (sp : Spec) (e : TypeId) (z : Nat) : Prop :=
  Enters cx.P f ∧
  (z < 1000000 → ∀ (F : Fr) (as : List AV) (vals : List Value), F.cx = cx → F.Wf → StAt cx F.N F.w0 → GlAt cx F.w0 → sp.cost as ≤ F.B → as.length = vals.length →
    (∀ (i : Nat) (a : AV) (u : Value), as[i]? = some a → vals[i]? = some u → rel0 cx F.w0 F.ok (fun _ => undef) F.w0 a u) → sp.pre as →
    Calls cx.P f vals.toArray F.w0 fun e' w' => ∃ (v : Value) (r : AV), e' = .returned v ∧ Gr cx.g F.w0 w' ∧ StAt cx (F.N + sp.cost as) w' ∧ sp.post as r ∧ Hands (resOk F sp.fresh) w' F.w0.heap.size e z v r) ∧
  (1000000 ≤ z → (z < 2000000 → CtrM cx f sp e (z - 1000000)) ∧ (2000000 ≤ z → CtrC cx f sp e (z - 2000000)))
/-- Contracts of functions, and of closures. -/
structure Env where
  Γ : FuncId → Option Spec
  Φ : FuncId → Option (List (List D) → FSpec)
  Ω : FuncId → Option (Spec × TypeId × Nat)
structure EnvOk (cx : Cx) (E : Env) : Prop where
  bld : BldOk cx.P
  fn : ∀ f sp, E.Γ f = some sp → Ctr cx f sp
  cl : ∀ f φ caps, E.Φ f = some φ → Ctr cx f (clo φ caps)
  ow : ∀ f sp e z, E.Ω f = some (sp, e, z) → CtrO cx f sp e z

def boxD (σ : St) (k : Nat) : Option (List D) := match σ.o k with
  | some (.box _ cs) => allD cs
  | _ => none
def capsD (σ : St) : List Nat → Option (List (List D))
  | [] => some []
  | k :: r => match boxD σ k, capsD σ r with
    | some l, some m => some (l :: m)
    | _, _ => none

/-- What is handed to a callee. -/
def argA (E : Env) (σ : St) : AV → AV
  | .own k => toD σ (.own k)
  | .ptr k off => match boxD σ k with
    | some l => .dp (l.drop off)
    | none => .un
  | .eptr _ _ _ _ => .un
  | .fn f [] => match E.Φ f with
    | some φ => .fv (φ [])
    | none => .fn f []
  | .fn f (k :: ks) => match E.Φ f, capsD σ (k :: ks) with
    | some φ, some caps => .fv (φ caps)
    | _, _ => .un
  | .nil => .sl []
  | .lit _ l => .sl l
  | .sv l _ _ => .sl l
  | .agz l _ => .dv (.ag l)
  | .ago _ _ _ => .un
  | .agv _ => .un
  | .tnil => .un
  | .tcons _ _ => .un
  | r => r
def lent : AV → Bool
  | .own _ => true
  | .ptr _ _ => true
  | .fn _ (_ :: _) => true
  | _ => false

/-- May it not be handed over beside a row that is taken over? -/
def lentX : AV → Bool
  | .own _ => true
  | .ptr _ _ => true
  | _ => false

def dvs : List AV → Option (List DV)
  | [] => some []
  | .dv x :: r => match dvs r with
    | some l => some (x :: l)
    | none => none
  | _ :: _ => none

def gCall (cx : Cx) (E : Env) (σ : St) (f : Operand) (args : Array Operand) : Option GO :=
  match ev cx σ f with
  | .fn g [] => match E.Γ g with
    | some sp => some ⟨sp.pre (args.toList.map fun x => argA E σ (ev cx σ x)) ∧ ((args.toList.any fun x => lent (ev cx σ x)) = true → sp.fresh = true), sp.post (args.toList.map fun x => argA E σ (ev cx σ x)), sp.cost (args.toList.map fun x => argA E σ (ev cx σ x))⟩
    | none => none
  | .fv sp => match dvs (args.toList.map (ev cx σ)) with
    | some xs => some ⟨sp.pre xs ∧ ∃ y, sp.post xs y, fun r => ∃ y, r = .dv y ∧ sp.post xs y, 0⟩
    | none => none
  | .fn g (k :: ks) => match E.Γ g with
    | some sp => some ⟨sp.pre ((args.toList.map fun x => argA E σ (ev cx σ x)) ++ (k :: ks).map fun k => argA E σ (.ptr k 0)) ∧ sp.fresh = true, sp.post ((args.toList.map fun x => argA E σ (ev cx σ x)) ++ (k :: ks).map fun k => argA E σ (.ptr k 0)), sp.cost ((args.toList.map fun x => argA E σ (ev cx σ x)) ++ (k :: ks).map fun k => argA E σ (.ptr k 0))⟩
    | none => match E.Φ g, capsD σ (k :: ks), dvs (args.toList.map (ev cx σ)) with
      | some φ, some caps, some xs => some ⟨(φ caps).pre xs ∧ ∃ y, (φ caps).post xs y, fun r => ∃ y, r = .dv y ∧ (φ caps).post xs y, 0⟩
      | _, _, _ => none
  | _ => none

section
variable {F : Fr} {M : Nat → Prop} {ρ : Nat → Value} {σ : St} {a : Act} {w : World} {ok : Nat → Prop} {E : Env}

def okC (F : Fr) (M : Nat → Prop) (w : World) (l : Bool) (b : Nat) : Prop := ((F.ok b ∨ F.w0.heap.size ≤ b) ∧ (l = false → ¬ M b)) ∧ b < w.heap.size ∧ F.cx.g ≠ some b

theorem okC_of (hF : F.Wf) {l : Bool} {b : Nat} (h : okM F M b) (hb : b < w.heap.size) : okC F M w l b := ⟨⟨h.1, fun _ => h.2⟩, hb, okM_ne hF h⟩

theorem box_dp (hF : F.Wf) (h : Rel1 F M ρ σ a w) {k : Nat} {l : List D} (hk : boxD σ k = some l) (off : Nat) : ∃ b cs, ρ k = .pointer (some ⟨b, 0, none⟩) ∧ M b ∧ b < w.heap.size ∧
    (∀ (j : Nat) (u : Value), cs[j]? = some u → w.cell? ⟨b, off + j, none⟩ = some u) ∧ RdL (okM F M) w (l.drop off) cs := by
  unfold boxD at hk
  split at hk
  · rename_i T cs hc
    obtain ⟨b, vs, h1, h2, h3, h4, h5⟩ := h.ob k _ hc
    have hR := allD_rd (F := F) (ok := okM F M) (ρ := ρ) hk (vs := vs.toList) (by rw [Array.length_toList]; exact h4) (fun j x u hx hu => (h5 j x u hx (by rwa [Array.getElem?_toList] at hu)).2)
    refine ⟨b, vs.toList.drop off, h1, h2, (h.mb b h2).2, fun j u hj => ?_, hR.drop off⟩
    rw [List.getElem?_drop, Array.getElem?_toList] at hj
    unfold World.cell?
    rw [h3]
    simpa using hj
  · cases hk

theorem caps_dp (hF : F.Wf) (h : Rel1 F M ρ σ a w) : ∀ {ks : List Nat} {caps : List (List D)}, capsD σ ks = some caps → ks.length = caps.length ∧ ∀ (i k : Nat) (l : List D), ks[i]? = some k → caps[i]? = some l →
    ∃ b cs, ρ k = .pointer (some ⟨b, 0, none⟩) ∧ M b ∧ b < w.heap.size ∧ (∀ (j : Nat) (u : Value), cs[j]? = some u → w.cell? ⟨b, 0 + j, none⟩ = some u) ∧ RdL (okM F M) w l cs
  | [], caps, hc => by
    simp only [capsD, Option.some.injEq] at hc
    subst hc
    exact ⟨rfl, fun i k l hk => by simp at hk⟩
  | k :: r, caps, hc => by
    unfold capsD at hc
    split at hc
    · rename_i l m e1 e2
      simp only [Option.some.injEq] at hc
      subst hc
      obtain ⟨h1, h2⟩ := caps_dp hF h e2
      refine ⟨by simp [h1], fun i k' l' hk hl => ?_⟩
      cases i with
      | zero =>
        simp only [List.getElem?_cons_zero, Option.some.injEq] at hk hl
        subst hk
        subst hl
        have := box_dp hF h e1 0
        rwa [List.drop_zero] at this
      | succ i => exact h2 i k' l' (by simpa using hk) (by simpa using hl)
    · cases hc

/-- A closure over variables that hold data is a function value that does what its contract says. -/
theorem clo_callable (hE : EnvOk F.cx E) (hF : F.Wf) (h : Rel1 F M ρ σ a w) {f : FuncId} {ks : List Nat} {φ : List (List D) → FSpec} {caps : List (List D)} (hφ : E.Φ f = some φ) (hc : capsD σ ks = some caps) :
    Callable F.cx w (φ caps) (.func (.func f) #[] (ks.map ρ).toArray) := by
  obtain ⟨hen, _, hct⟩ := hE.cl f φ caps hφ
  obtain ⟨hlen, hcap⟩ := caps_dp hF h hc
  refine ⟨f, _, rfl, hen, fun w' N ok as vals hg hst hgl hN hok hng hal hrel hpre => ?_⟩
  let F' : Fr := ⟨F.cx, w', fun b => b < w'.heap.size ∧ F.cx.g ≠ some b, N, 0, 0, w', fun _ => False⟩
  have hF' : F'.Wf := ⟨fun b hb => hb, fun b hb => hok b (hng b hb), fun b hb => hst.lt hb, by show N + 0 ≤ _; omega⟩
  have hcall := hct F' (as.map .dv ++ caps.map .dp) (vals ++ ks.map ρ) rfl hF' hst hgl (Nat.zero_le _) (by simp [hal, hlen]) (fun i x u hx hu => ?_) ⟨as, rfl, hpre⟩
  · rw [show (vals ++ ks.map ρ).toArray = vals.toArray ++ (ks.map ρ).toArray by simp] at hcall
    refine hcall.mono fun e w'' ⟨v, r, he, hg2, hst2, ⟨xs, y, hxs, hr, hpost⟩, _, hv⟩ => ?_
    have hxy : xs = as := by
      have h1 := congrArg (fun l : List AV => l.take as.length) hxs
      have h2 : xs.length = as.length := by
        have := congrArg List.length hxs
        simp at this
        omega
      simp only [List.take_append_of_le_length (show as.length ≤ (as.map AV.dv).length by simp)] at h1
      rw [List.take_append_of_le_length (by simp [h2])] at h1
      rw [List.take_of_length_le (by simp), List.take_of_length_le (by simp [h2])] at h1
      have h3 : ∀ (p q : List DV), p.map AV.dv = q.map AV.dv → q = p := by
        intro p
        induction p with
        | nil => intro q hq; cases q with
          | nil => rfl
          | cons y r => cases hq
        | cons x r ih => intro q hq; cases q with
          | nil => cases hq
          | cons y r' =>
            simp only [List.map_cons, List.cons.injEq, AV.dv.injEq] at hq
            rw [hq.1, ih r' hq.2]
      exact h3 _ _ h1
    subst hxy
    subst hr
    refine ⟨v, y, he, hpost, RdV.mono hv (Nat.le_refl _) (fun b hb _ => ?_) (fun _ _ _ => rfl), hg2, hst2⟩
    rcases hb with ⟨hb, _⟩ | hb
    · cases hb
    · exact .inr hb
  · by_cases hi : i < as.length
    · rw [List.getElem?_append_left (by simpa using hi), List.getElem?_map, Option.map_eq_some_iff] at hx
      rw [List.getElem?_append_left (by omega)] at hu
      obtain ⟨y, hy, rfl⟩ := hx
      exact RdV.mono (hrel i y u hy hu) (Nat.le_refl _) (fun b hb _ => hok b hb) (fun _ _ _ => rfl)
    · rw [List.getElem?_append_right (by simpa using hi), List.getElem?_map, Option.map_eq_some_iff] at hx
      rw [List.getElem?_append_right (by omega), List.getElem?_map, Option.map_eq_some_iff] at hu
      obtain ⟨l, hl, rfl⟩ := hx
      obtain ⟨k, hk, rfl⟩ := hu
      rw [List.length_map, hal] at hl
      obtain ⟨b, cs, h1, h2, h3, h4, h5⟩ := hcap _ k l hk hl
      have hgne : F.cx.g ≠ some b := M_ne hF (h.mb b h2).1
      have hlt : b < w'.heap.size := by have := hg.size; omega
      exact ⟨b, 0, cs, h1, ⟨hlt, hgne⟩, hlt, fun j u hj => (cell_congr (a := ⟨b, 0 + j, none⟩) (hg.block b h3 hgne)).trans (h4 j u hj),
        h5.mono hg.size (fun b hb hlt => ⟨by have := hg.size; omega, okM_ne hF hb⟩) (fun b hb hlt => hg.block b hlt (okM_ne hF hb))⟩

theorem argA_rel (hE : EnvOk F.cx E) (hF : F.Wf) (h : Rel1 F M ρ σ a w) {x : AV} {v : Value} (hx : relA F.cx F.w0 (okM F M) ρ w x v) {l : Bool} (hl : lent x = true → l = true) : rel0 F.cx w (okC F M w l) (fun _ => undef) w (argA E σ x) v := by
  have hkeep : ∀ b, okM F M b → b < w.heap.size → okC F M w l b := fun b hb hlt => okC_of hF hb hlt
  have hMC : l = true → ∀ b, M b → okC F M w l b := fun e b hb => ⟨⟨.inr (h.mb b hb).1, fun e' => by rw [e] at e'; cases e'⟩, (h.mb b hb).2, M_ne hF (h.mb b hb).1⟩
  cases x with
  | dv y => exact RdV.mono (show RdV _ _ _ _ from hx) (Nat.le_refl _) hkeep (fun _ _ _ => rfl)
  | own k =>
    have e := hl rfl
    simp only [argA, toD]
    split
    · rename_i e' z m hk
      have hv : v = ρ k := hx
      subst hv
      have h0 := h.ob k _ hk
      obtain ⟨cs, hown, hb, hz, hR⟩ := h0
      have hR' : RdL (okC F M w l) w m.flatten cs := hR.mono (Nat.le_refl _) hkeep (fun _ _ _ => rfl)
      rcases hown.2 with ⟨h1, hn⟩ | ⟨g, cap, cur, hg, _, _, hcap, _⟩
      · have : m = [] := List.eq_nil_of_length_eq_zero hn
        subst this
        rw [h1]
        exact Rd.nil _ _
      · have hMg := hb g (by rw [hg]; rfl)
        have := Rd.of_flat (w := w) hz hR' (ownsRow_cells hown hg) (hMC e g hMg) (h.mb g hMg).2 hcap
        rw [hg]
        exact this
    · exact trivial
  | ptr k off =>
    have e := hl rfl
    simp only [argA]
    split
    · rename_i m hk
      obtain ⟨b, cs, h1, h2, h3, h4, h5⟩ := box_dp hF h hk off
      obtain ⟨b', h6, rfl⟩ := hx
      rw [h1] at h6
      simp only [Value.pointer.injEq, Option.some.injEq, Addr.mk.injEq, and_true, true_and] at h6
      subst h6
      exact ⟨b, off, cs, rfl, hMC e b h2, h3, h4, h5.mono (Nat.le_refl _) hkeep (fun _ _ _ => rfl)⟩
    · exact trivial
  | eptr k i z off => exact trivial
  | dp m =>
    obtain ⟨b, o, cs, h1, h2, h3, h4, h5⟩ := hx
    exact ⟨b, o, cs, h1, hkeep b h2 h3, h3, h4, h5.mono (Nat.le_refl _) hkeep (fun _ _ _ => rfl)⟩
  | st => exact hx
  | fn f ks =>
    cases ks with
    | nil =>
      simp only [argA]
      split
      · rename_i φ hφ
        have := clo_callable (ks := []) hE hF h hφ rfl
        rw [show v = _ from hx]
        exact this
      · exact hx
    | cons k ks =>
      simp only [argA]
      split
      · rename_i φ caps hφ hc
        have := clo_callable hE hF h hφ hc
        rw [show v = _ from hx]
        exact this
      · exact trivial
  | fv sp => exact Callable.later (show Callable _ _ _ _ from hx) h.gr
  | nil => rw [show v = _ from hx]; exact Rd.nil _ _
  | lit e m => exact Rd.mono (show Rd _ _ _ _ from hx.2.1) (Nat.le_refl _) hkeep (fun _ _ _ => rfl)
  | sv m A c => exact Rd.mono (show Rd _ _ _ _ from hx.2) (Nat.le_refl _) hkeep (fun _ _ _ => rfl)
  | agz m zs => exact RdV.mono (x := .ag m) hx.1 (Nat.le_refl _) hkeep (fun _ _ _ => rfl)
  | ago m j k => exact trivial
  | agv t => exact trivial
  | tnil => exact trivial
  | tcons b t => exact trivial
  | un => exact trivial

theorem callFunc_run {P : Program} {f : FuncId} (h : Enters P f) (args : Array Value) (w : World) : (callFunc f args).run P w = .ok (.enter f args) w := by
  obtain ⟨fn, hf, hn, hb⟩ := h
  simp only [callFunc, Sem.run_bind, run_program, Result.andThen_ok, hf, hn, hb, Bool.false_eq_true, if_false]
  rfl

/-- A function value that does what its contract says, called. -/
theorem callable_does (hF : F.Wf) (h : Rel1 F M ρ σ a w) {o : Oper} {f : Operand} {args : Array Operand} {ts : Array TypeId} (ho : o.op = .call { callee := .value f, args := args, argTypes := ts }) {sp : FSpec} {vf : Value} (ef : a.eval f = vf)
    (hf : Callable F.cx w sp vf) {xs : List DV} (hxs : dvs (args.toList.map (ev F.cx σ)) = some xs) (hB : σ.c + 0 ≤ F.B) : Does F M ρ σ a w o ⟨sp.pre xs ∧ ∃ y, sp.post xs y, fun r => ∃ y, r = .dv y ∧ sp.post xs y, 0⟩ := by
  have hargs : ∀ (i : Nat) (x : Operand), args.toList[i]? = some x → (args.map a.eval).toList[i]? = some (a.eval x) := fun i x hx => by simp [hx]
  obtain ⟨f', caps, rfl, hen, hct⟩ := hf
  rintro ⟨hpre, _⟩ K Q hK
  have hdv : ∀ {l : List AV} {xs : List DV}, dvs l = some xs → l = xs.map .dv := by
    intro l
    induction l with
    | nil => intro xs h; simp only [dvs, Option.some.injEq] at h; subst h; rfl
    | cons y r ih =>
      intro xs h
      unfold dvs at h
      split at h
      · rename_i e; cases e
      · rename_i x r' e
        simp only [List.cons.injEq] at e
        obtain ⟨rfl, rfl⟩ := e
        split at h
        · rename_i l' e2
          simp only [Option.some.injEq] at h
          subst h
          rw [ih e2]
          rfl
        · cases h
      · cases h
  have hmap := hdv hxs
  have hlen : xs.length = (args.map a.eval).toList.length := by
    have := congrArg List.length hmap
    simp at this
    simp [this]
  have hcall := hct w (F.N + σ.c) (okC F M w false) xs (args.map a.eval).toList (Gr.refl _ _) h.st h.gl (by have := hF.nb; omega) (fun b hb => hb.2)
    (fun b hb => okC_of hF ⟨.inl (hF.gl b hb), fun hM => by have := (h.mb b hM).1; have := (hF.ok b (hF.gl b hb)).1; omega⟩ (by have := (hF.ok b (hF.gl b hb)).1; have := h.gr.size; omega)) hlen
    (fun i x u hx hu => by
      have h1 : (args.toList.map (ev F.cx σ))[i]? = some (.dv x) := by rw [hmap]; simp [hx]
      rw [List.getElem?_map, Option.map_eq_some_iff] at h1
      obtain ⟨y, hy, hyx⟩ := h1
      rw [hargs i y hy] at hu
      cases hu
      have h2 := ev_rel hF h y
      rw [hyx] at h2
      exact RdV.mono (show RdV _ _ _ _ from h2) (Nat.le_refl _) (fun b hb hlt => okC_of hF hb hlt) (fun _ _ _ => rfl)) hpre
  have hrun : (execOp a.eval o).run F.cx.P w = .ok (.enter f' (args.map a.eval ++ caps)) w := by
    simp only [execOp, ho, resolve, Deferred.ofValue, ef, Sem.run_bind, Sem.run_pure, Result.andThen_ok, invoke, callFunc_run hen]
    simp
  unfold Oper.wp
  rw [hrun]
  show Calls _ _ _ _ _
  have hlist : (args.map a.eval).toList.toArray = args.map a.eval := Array.toArray_toList ..
  rw [hlist] at hcall
  refine hcall.mono fun e w' ⟨v, r, he, hpost, hv, hg2, hst2⟩ => ?_
  subst he
  refine hK (.dv r) v w' ⟨r, rfl, hpost⟩ hg2 (by rw [← Nat.add_assoc]; exact hst2) (RdV.mono hv (Nat.le_refl _) (fun b hb _ => ?_) (fun _ _ _ => rfl))
  rcases hb with hb | hb
  · exact ⟨hb.1.1, hb.1.2 rfl⟩
  · exact ⟨.inr (by have := h.gr.size; omega), fun hM => by have := (h.mb b hM).2; omega⟩
theorem gCall_sound (hE : EnvOk F.cx E) (hF : F.Wf) (h : Rel1 F M ρ σ a w) {o : Oper} {f : Operand} {args : Array Operand} {ts : Array TypeId} (ho : o.op = .call { callee := .value f, args := args, argTypes := ts })
    {g : GO} (hg : gCall F.cx E σ f args = some g) (hB : σ.c + g.cost ≤ F.B) : Does F M ρ σ a w o g := by
  unfold gCall at hg
  have hf := ev_rel hF h f
  obtain ⟨vf, ef⟩ : ∃ v, a.eval f = v := ⟨_, rfl⟩
  rw [ef] at hf
  have hargs : ∀ (i : Nat) (x : Operand), args.toList[i]? = some x → (args.map a.eval).toList[i]? = some (a.eval x) := fun i x hx => by simp [hx]
  split at hg
  · rename_i g' e
    rw [e] at hf
    have hvf : vf = .func (.func g') #[] #[] := hf
    subst hvf
    split at hg
    · rename_i sp hsp
      obtain ⟨hen, hne, hct⟩ := hE.fn g' sp hsp
      simp only [Option.some.injEq] at hg
      subst hg
      rintro ⟨hpre, hfresh⟩ K Q hK
      let l : Bool := args.toList.any fun x => lent (ev F.cx σ x)
      let as : List AV := args.toList.map fun x => argA E σ (ev F.cx σ x)
      let F' : Fr := ⟨F.cx, w, okC F M w l, F.N + σ.c, sp.cost as, 0, w, fun _ => False⟩
      have hF' : F'.Wf := ⟨fun b hb => hb.2, fun b hb => okC_of hF ⟨.inl (hF.gl b hb), fun hM => by have := (h.mb b hM).1; have := (hF.ok b (hF.gl b hb)).1; omega⟩ (by have := (hF.ok b (hF.gl b hb)).1; have := h.gr.size; omega),
        fun b hb => h.st.lt hb, by show F.N + σ.c + sp.cost as ≤ _; have := hF.nb; have : σ.c + sp.cost as ≤ F.B := hB; omega⟩
      have hcall := hct F' as (args.map a.eval).toList rfl hF' h.st h.gl (Nat.le_refl _) (by simp [as]) (fun i x u hx hu => by
        rw [List.getElem?_map, Option.map_eq_some_iff] at hx
        obtain ⟨y, hy, rfl⟩ := hx
        rw [hargs i y hy] at hu
        cases hu
        exact argA_rel hE hF h (ev_rel hF h y) (fun hl => List.any_eq_true.2 ⟨y, List.mem_of_getElem? hy, hl⟩)) hpre
      have hrun : (execOp a.eval o).run F.cx.P w = .ok (.enter g' (args.map a.eval)) w := by
        simp only [execOp, ho, resolve, Deferred.ofValue, ef, Sem.run_bind, Sem.run_pure, Result.andThen_ok, invoke, callFunc_run hen]
        simp
      unfold Oper.wp
      rw [hrun]
      show Calls _ _ _ _ _
      have hlist : (args.map a.eval).toList.toArray = args.map a.eval := Array.toArray_toList ..
      rw [hlist] at hcall
      refine hcall.mono fun e w' ⟨v, r, he, hg2, hst2, hpost, hpl, hv⟩ => ?_
      subst he
      refine hK r v w' hpost hg2 (by rw [← Nat.add_assoc]; exact hst2) (relA_plain hpl (hv.mono (Gr.refl _ _) (Nat.le_refl _) (fun b hb _ => ?_) (fun _ _ _ => rfl)))
      rcases hb with ⟨hfr, hb⟩ | hb
      · refine ⟨hb.1.1, hb.1.2 ?_⟩
        cases hl : l with
        | false => rfl
        | true => rw [hfresh hl] at hfr; cases hfr
      · exact ⟨.inr (by have := h.gr.size; have : w.heap.size ≤ b := hb; omega), fun hM => by have := (h.mb b hM).2; have : w.heap.size ≤ b := hb; omega⟩
    · cases hg
  · rename_i sp e
    rw [e] at hf
    have hf : Callable F.cx F.w0 sp vf := hf
    split at hg
    · rename_i xs hxs
      simp only [Option.some.injEq] at hg
      subst hg
      exact callable_does hF h ho ef (Callable.later hf h.gr) hxs hB
    · cases hg
  · rename_i g' k ks e
    rw [e] at hf
    have hvf : vf = .func (.func g') #[] ((k :: ks).map ρ).toArray := hf
    subst hvf
    split at hg
    · rename_i sp hsp
      obtain ⟨hen, hne, hct⟩ := hE.fn g' sp hsp
      simp only [Option.some.injEq] at hg
      subst hg
      rintro ⟨hpre, hfresh⟩ K Q hK
      let as : List AV := (args.toList.map fun x => argA E σ (ev F.cx σ x)) ++ (k :: ks).map fun k => argA E σ (.ptr k 0)
      let F' : Fr := ⟨F.cx, w, okC F M w true, F.N + σ.c, sp.cost as, 0, w, fun _ => False⟩
      have hF' : F'.Wf := ⟨fun b hb => hb.2, fun b hb => okC_of hF ⟨.inl (hF.gl b hb), fun hM => by have := (h.mb b hM).1; have := (hF.ok b (hF.gl b hb)).1; omega⟩ (by have := (hF.ok b (hF.gl b hb)).1; have := h.gr.size; omega),
        fun b hb => h.st.lt hb, by show F.N + σ.c + sp.cost as ≤ _; have := hF.nb; have : σ.c + sp.cost as ≤ F.B := hB; omega⟩
      have hcap : ∀ k', rel0 F.cx w (okC F M w true) (fun _ => undef) w (argA E σ (.ptr k' 0)) (ρ k') := fun k' => by
        cases hk : boxD σ k' with
        | none => simp only [argA, hk]; exact trivial
        | some m =>
          obtain ⟨b, cs, h1, h2, h3, h4, h5⟩ := box_dp hF h hk 0
          exact argA_rel hE hF h (x := .ptr k' 0) ⟨b, h1, h1⟩ (l := true) (fun _ => rfl)
      have hal : as.length = ((args.map a.eval).toList ++ (k :: ks).map ρ).length := by simp [as]
      have hcall := hct F' as ((args.map a.eval).toList ++ (k :: ks).map ρ) rfl hF' h.st h.gl (Nat.le_refl _) hal (fun i x u hx hu => by
        by_cases hi : i < args.toList.length
        · rw [List.getElem?_append_left (by simpa using hi), List.getElem?_map, Option.map_eq_some_iff] at hx
          rw [List.getElem?_append_left (by simpa using hi)] at hu
          obtain ⟨y, hy, rfl⟩ := hx
          rw [hargs i y hy] at hu
          cases hu
          exact argA_rel hE hF h (ev_rel hF h y) (fun _ => rfl)
        · rw [List.getElem?_append_right (by simpa using hi), List.getElem?_map, Option.map_eq_some_iff] at hx
          rw [List.getElem?_append_right (by simpa using hi), List.getElem?_map, Option.map_eq_some_iff] at hu
          obtain ⟨k1, hk1, rfl⟩ := hx
          obtain ⟨k2, hk2, rfl⟩ := hu
          simp only [List.length_map, Array.length_toList, Array.size_map] at hk1 hk2
          rw [hk1] at hk2
          cases hk2
          exact hcap k1) hpre
      have hrun : (execOp a.eval o).run F.cx.P w = .ok (.enter g' (args.map a.eval ++ ((k :: ks).map ρ).toArray)) w := by
        simp only [execOp, ho, resolve, Deferred.ofValue, ef, Sem.run_bind, Sem.run_pure, Result.andThen_ok, invoke, callFunc_run hen]
        simp
      unfold Oper.wp
      rw [hrun]
      show Calls _ _ _ _ _
      have hlist : ((args.map a.eval).toList ++ (k :: ks).map ρ).toArray = args.map a.eval ++ ((k :: ks).map ρ).toArray := by simp
      rw [hlist] at hcall
      refine hcall.mono fun e w' ⟨v, r, he, hg2, hst2, hpost, hpl, hv⟩ => ?_
      subst he
      refine hK r v w' hpost hg2 (by rw [← Nat.add_assoc]; exact hst2) (relA_plain hpl (hv.mono (Gr.refl _ _) (Nat.le_refl _) (fun b hb _ => ?_) (fun _ _ _ => rfl)))
      rcases hb with ⟨hfr, hb⟩ | hb
      · rw [hfresh] at hfr; cases hfr
      · exact ⟨.inr (by have := h.gr.size; have : w.heap.size ≤ b := hb; omega), fun hM => by have := (h.mb b hM).2; have : w.heap.size ≤ b := hb; omega⟩
    split at hg
    · rename_i φ caps xs hφ hc hxs
      simp only [Option.some.injEq] at hg
      subst hg
      exact callable_does hF h ho ef (clo_callable hE hF h hφ hc) hxs hB
    · cases hg
  · cases hg
end
end Go.Avc

namespace Go.Avc
open Go

def mEq : D → D → Bool
  | .str a, .str b => decide (a = b)
  | .int k a, .int k' b => decide (k = k') && decide (a = b)
  | .sl [a], .sl [b] => (a.map D.ek).all EK.ok && decide (a.map D.ek = b.map D.ek) && eqC b a
  | _, _ => false
def mget : List (D × D) → D → Option D
  | [], _ => none
  | p :: r, x => if mEq p.1 x = true then some p.2 else mget r x
def mput : List (D × D) → D → D → List (D × D)
  | [], x, v => [(x, v)]
  | p :: r, x, v => if mEq p.1 x = true then (x, v) :: r else p :: mput r x v
/-- A type's zero value, if it has one cell; and its bytes. -/
def Tone (P : Program) (t : TypeId) : Option (D × Nat) := match P.info? t with
  | some i => match i.zero with
    | some z => if i.size = 1 then (match cvD z with
      | some x => some (x, i.bytes)
      | none => none) else none
    | none => none
  | none => none
theorem mEq_eq {d : TypeDesc} {a x : D} (ha : keyD d a = true) (hx : keyD d x = true) : Instr.sameNow d (mV x) (mV a) = some (mEq a x) := by
  cases a <;> cases x <;> cases d <;> simp_all [keyD, mV, Instr.sameNow, mEq]
  all_goals first
    | (rw [Bool.eq_iff_iff, Go.MapKept.bytes_beq, decide_eq_true_eq]; exact eq_comm)
    | (rw [Bool.eq_iff_iff]; simp only [beq_iff_eq, decide_eq_true_eq]; exact eq_comm)
    | skip
theorem eq1_is {a b : D} (h : a.ek.ok = true) (he : a.ek = b.ek) (h1 : eq1 b a = true) : a = b := by
  cases a <;> cases b <;> simp_all [D.ek, EK.ok, eq1]
  rename_i s t
  have e := (beq_toListBytes t s)
  have e2 : (t == s) = true := by rw [e]; simpa using h1
  exact ((Go.MapKept.bytes_beq _ _).1 e2).symm
theorem eqC_is : ∀ {a b : List D}, (a.map D.ek).all EK.ok = true → a.map D.ek = b.map D.ek → eqC b a = true → a = b
  | [], [], _, _, _ => rfl
  | [], _ :: _, _, h, _ => by cases h
  | _ :: _, [], _, h, _ => by cases h
  | x :: a, y :: b, h1, h2, h3 => by
    simp only [List.map_cons, List.all_cons, Bool.and_eq_true, List.cons.injEq, eqC] at h1 h2 h3
    rw [eq1_is h1.1 h2.1 h3.1, eqC_is h1.2 h2.2 h3.2]
theorem mEq_mV {a x : D} (h : mEq a x = true) : a = x := by
  unfold mEq at h
  split at h
  · rw [of_decide_eq_true h]
  · simp only [Bool.and_eq_true, decide_eq_true_eq] at h
    rw [h.1, h.2]
  · simp only [Bool.and_eq_true, decide_eq_true_eq] at h
    rw [eqC_is h.1.1 h.1.2 h.2]
  · cases h
theorem find_spec {d : TypeDesc} {x : D} (hx : keyD d x = true) (v : D) : ∀ (l : List (D × D)) (es : List MapEntry) (i : Nat), es.map (fun e => (e.key, e.val)) = l.map (fun p => (mV p.1, mV p.2)) → (∀ p ∈ l, keyD d p.1 = true) →
    (mget l x = none ∧ Instr.findNow d (mV x) es i = some none ∧ mput l x v = l ++ [(x, v)]) ∨ ∃ j u, mget l x = some u ∧ Instr.findNow d (mV x) es i = some (some (i + j, mV u)) ∧ l[j]? = some (x, u) ∧ mput l x v = l.set j (x, v)
  | [], es, i, he, _ => by
    obtain rfl : es = [] := List.map_eq_nil_iff.1 he
    exact .inl ⟨rfl, rfl, rfl⟩
  | p :: r, es, i, he, hk => by
    obtain ⟨e, es, rfl⟩ : ∃ e q, es = e :: q := by cases es with | nil => cases he | cons e q => exact ⟨e, q, rfl⟩
    rw [List.map_cons, List.map_cons, List.cons.injEq] at he
    obtain ⟨h1, h2⟩ := he
    have hp := hk p List.mem_cons_self
    have hs := mEq_eq hp hx
    have hek : e.key = mV p.1 := congrArg Prod.fst h1
    have hev : e.val = mV p.2 := congrArg Prod.snd h1
    unfold mget mput Instr.findNow
    rw [hek, hs]
    cases hm : mEq p.1 x with
    | true =>
      refine .inr ⟨0, p.2, by simp, by simp [hev], ?_, by simp⟩
      have := mEq_mV hm
      rw [← this]
      rfl
    | false =>
      simp only [Bool.false_eq_true, if_false]
      rcases find_spec hx v r es (i + 1) h2 (fun q hq => hk q (List.mem_cons_of_mem _ hq)) with ⟨g1, g2, g3⟩ | ⟨j, u, g1, g2, g3, g4⟩
      · exact .inl ⟨g1, g2, by rw [g3]; rfl⟩
      · exact .inr ⟨j + 1, u, g1, by rw [g2]; congr 3; omega, by simpa using g3, by rw [g4]; rfl⟩
theorem key_is {d : TypeDesc} {x : D} (hx : keyD d x = true) : MapKept.IsKey d (mV x) := by
  cases x <;> cases d <;> simp_all [keyD, mV, MapKept.IsKey]
theorem mV_rel {ok : Nat → Prop} {w : World} {x : D} (h : mFlat x = true) : Rd ok w x (mV x) := by
  cases x with
  | int k n => exact .int k n
  | bool b => exact .bool b
  | str s => exact .str s
  | sl l => cases h
theorem rd_mV {ok : Nat → Prop} {w : World} {x : D} {v : Value} (h : Rd ok w x v) (hx : mFlat x = true) : v = mV x := by
  cases h with
  | int k n => rfl
  | bool b => rfl
  | str s => rfl
  | nil A c => cases hx
  | sl => cases hx
theorem keyD_flat {d : TypeDesc} {x : D} (h : keyD d x = true) : mFlat x = true := by
  cases x with
  | sl l => cases h
  | _ => rfl
/-- Is x a key of the type K? -/
def KeyOk (P : Program) (K : TypeId) (x : D) : Prop := (∃ d, P.underlying K = some d ∧ keyD d x = true) ∨ ∃ fs ks l, P.underlying K = some (.struct fs) ∧ eqT P K = some ks ∧ x = .sl [l] ∧ l.map D.ek = ks
theorem keyS_spec {o : Option (List EK)} {x : D} (h : keyS o x = true) : ∃ ks l, o = some ks ∧ x = .sl [l] ∧ l.map D.ek = ks := by
  unfold keyS at h
  split at h
  · rename_i l
    split at h
    · rename_i ks
      exact ⟨ks, l, rfl, rfl, of_decide_eq_true h⟩
    · cases h
  · cases h
theorem mKey_spec {P : Program} {T : TypeId} {x : D} (h : mKey P T x = true) : ∃ K V, P.underlying T = some (.map K V) ∧ KeyOk P K x := by
  unfold mKey at h
  split at h
  · rename_i K V e
    refine ⟨K, V, e, ?_⟩
    split at h
    · rename_i fs e2
      obtain ⟨ks, l, h1, h2, h3⟩ := keyS_spec h
      exact .inr ⟨fs, ks, l, e2, h1, h2, h3⟩
    · rename_i d _ e2; exact .inl ⟨d, e2, h⟩
    · cases h
  · cases h
theorem mKey_ok {P : Program} {T K V : TypeId} {x : D} (h : mKey P T x = true) (hu : P.underlying T = some (.map K V)) : KeyOk P K x := by
  obtain ⟨K', V', u, k⟩ := mKey_spec h
  rw [hu] at u
  simp only [Option.some.injEq, TypeDesc.map.injEq] at u
  obtain ⟨rfl, rfl⟩ := u
  exact k
theorem eqT_K {P : Program} {t : TypeId} {ks : List EK} (h : eqT P t = some ks) : eqK P 8 t = some ks ∧ Tk P t = some true := by
  unfold eqT at h
  split at h
  · cases h
  · split at h
    · rename_i fs hu
      exact ⟨h, by unfold Tk; rw [hu]⟩
    · cases h
theorem eqT_run {P : Program} {t : TypeId} {ks : List EK} (h : eqT P t = some ks) {l m : List D} (hl : l.map D.ek = ks) (hm : m.map D.ek = ks) (w : World) : (Op.equal t (.agg (l.map vD).toArray) (.agg (m.map vD).toArray)).run P w = .ok (eqC l m) w := by
  obtain ⟨h1, h2⟩ := eqT_K h
  exact (eqK_run w 8 t ks h1 9992).1 l m hl hm h2

/-! ### A struct's cells may be a key -/
def ChkOk (P : Program) (w : World) (em : Bool) (d : Nat) : Prop := ∀ t ks, eqK P d t = some ks → ∀ n,
  (∀ l : List D, l.map D.ek = ks → Tk P t = some true → (Instr.checkKey em (d + n) t (.agg (l.map vD).toArray)).run P w = .ok () w) ∧
  (∀ x : D, [x.ek] = ks → Tk P t = some false → (Instr.checkKey em (d + n) t (vD x)).run P w = .ok () w)
theorem chkF_run {P : Program} {w : World} {em : Bool} {d : Nat} (H : ChkOk P w em d) (n : Nat) (l : List D) : ∀ (fs : List Field) (o : Nat) (ks : List EK), eqF P (eqK P d) fs o = some ks → (l.drop o).map D.ek = ks →
    ∀ f ∈ fs, f.name ≠ "_" ∧ ∃ a, (part f.type (l.map vD).toArray f.offset).run P w = .ok a w ∧ (Instr.checkKey em (d + n) f.type a).run P w = .ok () w
  | [], o, ks, h, hl => fun f hf => by cases hf
  | f :: r, o, ks, h, hl => by
    unfold eqF at h
    split at h
    · rename_i hf
      obtain ⟨hnm, hof⟩ := hf
      split at h
      · rename_i k1 e1
        split at h
        · rename_i hc
          obtain ⟨hc, hk1⟩ := hc
          split at h
          · rename_i k2 e2
            cases h
            have hlen : 0 < k1.length := List.length_pos_iff.2 hk1
            have prt : ∀ q : List D, (q.drop o).map D.ek = k1 ++ k2 → ((q.drop o).take k1.length).map D.ek = k1 ∧ (q.drop (o + k1.length)).map D.ek = k2 := fun q hq => by
              rw [List.map_take, hq, ← List.drop_drop, List.map_drop, hq]
              simp
            obtain ⟨l1, l2⟩ := prt l hl
            have run : ∀ q : List D, ((q.drop o).take k1.length).map D.ek = k1 → Tk P f.type = some true → (part f.type (q.map vD).toArray f.offset).run P w = .ok (.agg (((q.drop o).take k1.length).map vD).toArray) w := fun q _ ht => by
              have hn : P.cellsOf f.type ≠ 0 := by omega
              simp only [Go.part, Sem.run_bind, Tk_agg ht, Result.andThen_ok, if_true, size_run hn, Sem.run_pure, hof, hc]
              congr 2
              apply Array.ext'
              simp [List.extract_eq_take_drop, List.map_take, List.map_drop]
            have run1 : ∀ q : List D, ((q.drop o).take k1.length).map D.ek = k1 → Tk P f.type = some false → k1.length = 1 → ∃ x, (q.drop o).take k1.length = [x] ∧ (part f.type (q.map vD).toArray f.offset).run P w = .ok (vD x) w := fun q hq ht h1 => by
              have hll : ((q.drop o).take k1.length).length = 1 := by
                have := congrArg List.length hq
                rw [List.length_map] at this
                omega
              obtain ⟨x, hx⟩ := List.length_eq_one_iff.1 hll
              refine ⟨x, hx, ?_⟩
              have h0 : (q.drop o)[0]? = some x := by
                have := congrArg (fun z : List D => z[0]?) hx
                simp only [List.getElem?_cons_zero] at this
                rwa [List.getElem?_take_of_lt (by omega)] at this
              rw [List.getElem?_drop, Nat.add_zero] at h0
              simp only [Go.part, Sem.run_bind, Tk_agg ht, Result.andThen_ok, Bool.false_eq_true, if_false, hof, List.getElem?_toArray, List.getElem?_map, h0, Option.map_some, Sem.run_pure]
            have ih := chkF_run H n l r (o + k1.length) k2 e2 l2
            have step : ∃ a, (part f.type (l.map vD).toArray f.offset).run P w = .ok a w ∧ (Instr.checkKey em (d + n) f.type a).run P w = .ok () w := by
              obtain ⟨H1, H2⟩ := H _ _ e1 n
              rcases eqK_Tk e1 with ht | ⟨ht, h1⟩
              · exact ⟨_, run l l1 ht, H1 _ l1 ht⟩
              · obtain ⟨x, x1, x2⟩ := run1 l l1 ht h1
                exact ⟨_, x2, H2 x (by rw [← l1, x1]; rfl) ht⟩
            intro g hg
            rcases List.mem_cons.1 hg with rfl | hg
            · exact ⟨hnm, step⟩
            · exact ih g hg
          · cases h
        · cases h
      · cases h
    · cases h
theorem chkK_run {P : Program} {w : World} {em : Bool} : ∀ d, ChkOk P w em d
  | 0 => fun t ks h => by cases h
  | d + 1 => fun t ks h n => by
    have hd : d + 1 + n = (d + n) + 1 := by omega
    rw [hd]
    unfold eqK at h
    split at h <;> rename_i hu
    · rename_i k
      cases h
      refine ⟨fun l _ ht => (by unfold Tk at ht; rw [hu] at ht; cases ht), fun x hx _ => ?_⟩
      cases x <;> simp only [D.ek, List.cons.injEq, EK.i.injEq, and_true, reduceCtorEq] at hx
      unfold Instr.checkKey
      simp [run_underlying hu, vD]
    · cases h
      refine ⟨fun l _ ht => (by unfold Tk at ht; rw [hu] at ht; cases ht), fun x hx _ => ?_⟩
      cases x <;> simp only [D.ek, List.cons.injEq, and_true, reduceCtorEq] at hx
      unfold Instr.checkKey
      simp [run_underlying hu, vD]
    · cases h
      refine ⟨fun l _ ht => (by unfold Tk at ht; rw [hu] at ht; cases ht), fun x hx _ => ?_⟩
      cases x <;> simp only [D.ek, List.cons.injEq, and_true, reduceCtorEq] at hx
      unfold Instr.checkKey
      simp [run_underlying hu, vD]
    · rename_i fs
      split at h
      · cases h
      · refine ⟨fun l hl _ => ?_, fun x _ ht => by unfold Tk at ht; rw [hu] at ht; cases ht⟩
        have := chkF_run (chkK_run (P := P) (w := w) (em := em) d) n l fs.toList 0 ks h (by rw [List.drop_zero]; exact hl)
        rw [Instr.checkKey]
        simp only [Sem.run_bind, run_underlying hu, Result.andThen_ok]
        rw [← Array.forIn_toList]
        clear h
        generalize fs.toList = L at this
        induction L with
        | nil => simp
        | cons f L ih =>
          obtain ⟨hn, a, p1, p2⟩ := this f List.mem_cons_self
          simp only [List.forIn_cons, Sem.run_bind, hn, ne_eq, not_false_eq_true, if_true, Result.andThen_ok, p1, p2, Sem.run_pure]
          exact ih (fun y hy => this y (List.mem_cons_of_mem _ hy))
    · cases h
theorem key_check {P : Program} {K : TypeId} {x : D} (h : KeyOk P K x) (w : World) (em : Bool) : (Instr.checkKey em 10000 K (mV x)).run P w = .ok () w := by
  rcases h with ⟨d, h1, h2⟩ | ⟨fs, ks, l, h1, h2, rfl, h4⟩
  · exact MapKept.run_checkKey h1 (key_is h2) em 9999
  · obtain ⟨g1, g2⟩ := eqT_K h2
    exact (chkK_run (P := P) (w := w) (em := em) 8 K ks g1 9992).1 l h4 g2
theorem key_stays {P : Program} {K : TypeId} {x : D} (h : KeyOk P K x) : Instr.sameBits 10000 (mV x) (mV x) = true := by
  rcases h with ⟨d, h1, h2⟩ | ⟨fs, ks, l, h1, h2, rfl, h4⟩
  · have := keyD_flat h2
    cases x with
    | int k n => simp [mV, Instr.sameBits]
    | str s => simp [mV, Instr.sameBits, MapKept.bytes_beq]
    | bool b => simp [mV, Instr.sameBits]
    | sl l => cases this
  · have hk := eqK_ok (eqT_K h2).1
    show Instr.sameBits (9999 + 1) (.agg (l.map vD).toArray) (.agg (l.map vD).toArray) = true
    simp only [Instr.sameBits, beq_self_eq_true, Bool.true_and, List.all_eq_true]
    intro p hp
    obtain ⟨i, hi, e⟩ := List.getElem_of_mem hp
    rw [List.getElem_zip] at e
    rw [← e]
    simp only [List.getElem_map]
    have hx : (l[i]'(by simpa using hi)).ek.ok = true := List.all_eq_true.1 hk _ (by rw [← h4]; exact List.mem_map.2 ⟨_, List.getElem_mem _, rfl⟩)
    generalize l[i]'(by simpa using hi) = y at hx
    cases y with
    | int k n => simp [vD, Instr.sameBits]
    | str s => simp [vD, Instr.sameBits, MapKept.bytes_beq]
    | bool b => simp [vD, Instr.sameBits]
    | sl l => cases hx
theorem key_val {P : Program} {K : TypeId} {x : DV} (h : KeyOk P K (dK x)) {ok : Nat → Prop} {w : World} {v : Value} (hr : RdV ok w x v) : v = mV (dK x) := by
  rcases h with ⟨d, h1, h2⟩ | ⟨fs, ks, l, h1, h2, h3, h4⟩
  · cases x with
    | ag l => cases h2
    | d y =>
      cases y with
      | sl l => cases h2
      | int k n => exact rd_mV (x := .int k n) hr rfl
      | bool b => exact rd_mV (x := .bool b) hr rfl
      | str s => exact rd_mV (x := .str s) hr rfl
  · cases x with
    | d y => cases y <;> cases h3
    | ag m =>
      simp only [dK, D.sl.injEq, List.cons.injEq, and_true] at h3
      subst h3
      obtain ⟨cs, rfl, hcs⟩ := hr
      rw [rdL_vD hcs (by rw [h4]; exact eqK_ok (eqT_K h2).1)]
      rfl
theorem mEq_sl {P : Program} {K : TypeId} {ks : List EK} {l m : List D} (h : eqT P K = some ks) (hl : l.map D.ek = ks) (hm : m.map D.ek = ks) : mEq (.sl [l]) (.sl [m]) = eqC m l := by
  have hk := eqK_ok (eqT_K h).1
  show (((l.map D.ek).all EK.ok && decide (l.map D.ek = m.map D.ek)) && eqC m l) = _
  rw [hl, hk, hm, decide_eq_true rfl]
  rfl
theorem ask_spec {P : Program} {K : TypeId} {fs : Array Field} {ks : List EK} {m : List D} (hT : eqT P K = some ks) (hu : P.underlying K = some (.struct fs)) (hm : m.map D.ek = ks) (v : D) (w : World) : ∀ (l : List (D × D)) (es : List MapEntry) (i : Nat), es.map (fun e => (e.key, e.val)) = l.map (fun p => (mV p.1, mV p.2)) → (∀ p ∈ l, KeyOk P K p.1) →
    (mget l (.sl [m]) = none ∧ (Instr.findAsking K (mV (.sl [m])) es i).run P w = .ok none w ∧ mput l (.sl [m]) v = l ++ [(.sl [m], v)]) ∨ ∃ j u, mget l (.sl [m]) = some u ∧ (Instr.findAsking K (mV (.sl [m])) es i).run P w = .ok (some (i + j, mV u)) w ∧ l[j]? = some (.sl [m], u) ∧ mput l (.sl [m]) v = l.set j (.sl [m], v)
  | [], es, i, he, _ => by
    obtain rfl : es = [] := List.map_eq_nil_iff.1 he
    exact .inl ⟨rfl, by simp [Instr.findAsking], rfl⟩
  | p :: r, es, i, he, hk => by
    obtain ⟨e, es, rfl⟩ : ∃ e q, es = e :: q := by cases es with | nil => cases he | cons e q => exact ⟨e, q, rfl⟩
    rw [List.map_cons, List.map_cons, List.cons.injEq] at he
    obtain ⟨h1, h2⟩ := he
    obtain ⟨a, ha, hak⟩ : ∃ a, p.1 = .sl [a] ∧ a.map D.ek = ks := by
      rcases hk p List.mem_cons_self with ⟨d, k1, k2⟩ | ⟨fs', ks', a, k1, k2, k3, k4⟩
      · rw [hu] at k1
        cases k1
        cases hx : p.1 <;> rw [hx] at k2 <;> cases k2
      · rw [hT] at k2
        cases k2
        exact ⟨a, k3, k4⟩
    have hek : e.key = mV p.1 := congrArg Prod.fst h1
    have hev : e.val = mV p.2 := congrArg Prod.snd h1
    have hrun : (Op.equal K (mV (.sl [m])) e.key).run P w = .ok (mEq p.1 (.sl [m])) w := by
      rw [hek, ha, mEq_sl hT hak hm]
      exact eqT_run hT hm hak w
    unfold mget mput Instr.findAsking
    cases hmm : mEq p.1 (.sl [m]) with
    | true =>
      rw [hmm] at hrun
      refine .inr ⟨0, p.2, by simp, by simp [hrun, hev], ?_, by simp⟩
      have := mEq_mV hmm
      rw [← this]
      rfl
    | false =>
      rw [hmm] at hrun
      simp only [Bool.false_eq_true, if_false]
      rcases ask_spec hT hu hm v w r es (i + 1) h2 (fun q hq => hk q (List.mem_cons_of_mem _ hq)) with ⟨g1, g2, g3⟩ | ⟨j, u, g1, g2, g3, g4⟩
      · exact .inl ⟨g1, by simp [hrun, g2], by rw [g3]; rfl⟩
      · exact .inr ⟨j + 1, u, g1, by simp [hrun, g2]; omega, by simpa using g3, by rw [g4]; rfl⟩
theorem key_find {P : Program} {K : TypeId} {x : D} (h : KeyOk P K x) (v : D) (w : World) (l : List (D × D)) (es : List MapEntry) (he : es.map (fun e => (e.key, e.val)) = l.map (fun p => (mV p.1, mV p.2))) (hk : ∀ p ∈ l, KeyOk P K p.1) :
    (mget l x = none ∧ (Instr.findKey K (mV x) es).run P w = .ok none w ∧ mput l x v = l ++ [(x, v)]) ∨ ∃ j u, mget l x = some u ∧ (Instr.findKey K (mV x) es).run P w = .ok (some (j, mV u)) w ∧ l[j]? = some (x, u) ∧ mput l x v = l.set j (x, v) := by
  rcases h with ⟨d, h1, h2⟩ | ⟨fs, ks, m, h1, h2, rfl, h4⟩
  · have hk' : ∀ p ∈ l, keyD d p.1 = true := fun p hp => by
      rcases hk p hp with ⟨d', k1, k2⟩ | ⟨fs', ks', a, k1, k2, k3, k4⟩
      · rw [h1] at k1
        cases k1
        exact k2
      · rw [h1] at k1
        cases k1
        cases x <;> cases h2
    rcases find_spec h2 v l es 0 he hk' with ⟨f1, f2, f3⟩ | ⟨j, u, f1, f2, f3, f4⟩
    · exact .inl ⟨f1, MapKept.run_findKey h1 f2, f3⟩
    · exact .inr ⟨j, u, f1, by simpa using MapKept.run_findKey h1 f2, f3, f4⟩
  · rw [run_findKey_eq w (by rw [h1])]
    rcases ask_spec h2 h1 h4 v w l es 0 he hk with ⟨f1, f2, f3⟩ | ⟨j, u, f1, f2, f3, f4⟩
    · exact .inl ⟨f1, f2, f3⟩
    · exact .inr ⟨j, u, f1, by simpa using f2, f3, f4⟩
/-- Looking up. -/
def vLook (cx : Cx) (σ : St) (t : TypeId) (x i : Operand) (ok : Bool) : Option (Prop × AV) := match cx.P.underlying t, ev cx σ x, ev cx σ i with
  | some (.map _ V), .own k, .dv key => match σ.o k, Tone cx.P V with
    | some (.mp t' l), some (z, _) => some (t' = t ∧ mKey cx.P t (dK key) = true, if ok = true then .tcons (.dv (.d ((mget l (dK key)).getD z))) (.tcons (.dv (.d (.bool (mget l (dK key)).isSome))) .tnil) else .dv (.d ((mget l (dK key)).getD z)))
    | _, _ => none
  | _, _, _ => none
section
variable {F : Fr} {M : Nat → Prop} {ρ : Nat → Value} {σ : St} {a : Act} {w : World} {E : Env}
theorem all_key {P : Program} {T : TypeId} {l : List (D × D)} {K V : TypeId} (h : (l.all fun p => mKey P T p.1 && mFlat p.2) = true) (h1 : P.underlying T = some (.map K V)) : ∀ p ∈ l, KeyOk P K p.1 ∧ mFlat p.2 = true := fun p hp => by
  have := List.all_eq_true.1 h p hp
  rw [Bool.and_eq_true] at this
  exact ⟨mKey_ok this.1 h1, this.2⟩
theorem vLook_sound (hF : F.Wf) (h : Rel1 F M ρ σ a w) {o : Oper} {t : TypeId} {x i : Operand} {ok : Bool} (ho : o.op = .lookup t x i ok) {p : Prop} {r : AV} (hv : vLook F.cx σ t x i ok = some (p, r)) (hp : p) :
    ∃ v, Runs F.cx.P a w o v ∧ relA F.cx F.w0 (okM F M) ρ w r v := by
  unfold vLook at hv
  split at hv
  · rename_i K V k key hu e1 e2
    split at hv
    · rename_i t' l z by' e3 e4
      simp only [Option.some.injEq, Prod.mk.injEq] at hv
      obtain ⟨rfl, rfl⟩ := hv
      obtain ⟨rfl, hk⟩ := hp
      have u3 := mKey_ok hk hu
      have hx := ev_rel hF h x
      rw [e1] at hx
      have hx : a.eval x = ρ k := hx
      have hi := ev_rel hF h i
      rw [e2] at hi
      have hi : a.eval i = mV (dK key) := key_val u3 (show RdV (okM F M) w key (a.eval i) from hi)
      obtain ⟨b, es, clk, g1, g2, g3, g4, g5⟩ := h.ob k _ e3
      have hz : ∃ zv, (∀ w', (zeroValue V).run F.cx.P w' = .ok zv w') ∧ Rd (okM F M) w z zv := by
        unfold Tone at e4
        split at e4
        · rename_i i0 hi0
          split at e4
          · rename_i zv hzv
            split at e4
            · split at e4
              · rename_i x0 hx0
                simp only [Option.some.injEq, Prod.mk.injEq] at e4
                refine ⟨zv, fun w' => by simp only [zeroValue, run_typeInfo w' hi0, hzv, Sem.run_bind, Result.andThen_ok]; rfl, ?_⟩
                have := cvD_rd (ok := okM F M) (w := w) (cs := [zv]) (l := [x0]) (by simp [hx0])
                rw [← e4.1]
                obtain ⟨v, hv, hr⟩ := this.get (j := 0) (x := x0) rfl
                simp only [List.getElem?_cons_zero, Option.some.injEq] at hv
                rw [hv]
                exact hr
              · cases e4
            · cases e4
          · cases e4
        · cases e4
      obtain ⟨zv, hz1, hz2⟩ := hz
      have hall := all_key g5 hu
      have hrun : ∃ v, (Instr.findKey K (mV (dK key)) es.toList).run F.cx.P w = .ok v w ∧ ((v = none ∧ mget l (dK key) = none) ∨ ∃ j u, v = some (j, mV u) ∧ mget l (dK key) = some u ∧ mFlat u = true) := by
        rcases key_find u3 (.bool true) w l es.toList g4 (fun p hp => (hall p hp).1) with ⟨f1, f2, _⟩ | ⟨j, u, f1, f2, f3, _⟩
        · exact ⟨_, f2, .inl ⟨rfl, f1⟩⟩
        · exact ⟨_, f2, .inr ⟨_, u, rfl, f1, (hall _ (List.mem_of_getElem? f3)).2⟩⟩
      obtain ⟨fv, hf1, hf2⟩ := hrun
      have hck := key_check u3 w es.isEmpty
      have hlook : ∃ v, (Instr.lookup t' (a.eval x) (a.eval i) ok).run F.cx.P w = .ok (if ok = true then .tuple #[v, .bool (mget l (dK key)).isSome] else v) w ∧ Rd (okM F M) w ((mget l (dK key)).getD z) v := by
        rw [hx, hi, g1]
        rcases hf2 with ⟨rfl, f2⟩ | ⟨j, u, rfl, f2, f3⟩
        · refine ⟨zv, ?_, by rw [f2]; exact hz2⟩
          rw [f2]
          cases ok <;> simp [Instr.lookup, run_underlying hu, MapKept.run_getObj_map g3, hck, hf1, hz1, Result.andThen]
        · refine ⟨mV u, ?_, by rw [f2]; exact mV_rel f3⟩
          rw [f2]
          cases ok <;> simp [Instr.lookup, run_underlying hu, MapKept.run_getObj_map g3, hck, hf1, Result.andThen]
      obtain ⟨v, h1, h2⟩ := hlook
      refine ⟨if ok = true then .tuple #[v, .bool (mget l (dK key)).isSome] else v, by show (execOp a.eval o).run F.cx.P w = _; simp only [execOp, ho, Sem.run_bind, h1, Result.andThen_ok, Sem.run_pure], ?_⟩
      cases ok with
      | false => exact h2
      | true => exact ⟨[v, .bool (mget l (dK key)).isSome], rfl, v, _, rfl, h2, .bool (mget l (dK key)).isSome, [], rfl, Rd.bool _, rfl⟩
    · cases hv
  · cases hv
end
end Go.Avc

namespace Go.Avc
open Go

def ksOf (cx : Cx) (σ : St) : List Operand → Option (List Nat)
  | [] => some []
  | x :: r => match ev cx σ x, ksOf cx σ r with
    | .ptr k 0, some l => some (k :: l)
    | _, _ => none
def vFunc (cx : Cx) (σ : St) (f : FuncId) (caps : Array Operand) : Option (Prop × AV) := match ksOf cx σ caps.toList with
  | some ks => some (True, .fn f ks)
  | none => none

def gop (cx : Cx) (E : Env) (σ : St) (o : Oper) : Option GO := match o.op with
  | .move x => lift (vMove cx σ x)
  | .assign x => lift (vMove cx σ x)
  | .pick c x y => lift (vPick cx σ c x y)
  | .nilCheck x => lift (vNil cx σ x)
  | .binOp op t x y _ => lift (vBin cx σ op t x y)
  | .unOp op _ x => lift (vUn cx σ op x)
  | .convert s t x => lift (vConv cx σ s t x)
  | .field t x j => lift (vField cx σ t x j)
  | .fieldAddr t x j => lift (vFaddr cx σ t x j)
  | .index t x i => lift (vIndex cx σ t x i)
  | .indexAddr t x i => lift (vIdxA cx σ t x i)
  | .load t x => lift (vLoad cx σ t x)
  | .extract x i => lift (vExtract cx σ x i)
  | .lookup t x i ok => lift (vLook cx σ t x i ok)
  | .build t ps => lift (vBuild cx σ t ps)
  | .slice t x lo hi none => lift (vSlice cx σ t x lo hi)
  | .buildSlice t n ps => gBuildS cx σ t n ps
  | .makeFunc (.func f) first caps => if first.size = 0 then lift (vFunc cx σ f caps) else none
  | .call c => match c.callee with
    | .value f => gCall cx E σ f c.args
    | .builtin .len => match c.args.toList, c.argTypes.toList with
      | [x], [t] => lift (vLen cx σ t x)
      | _, _ => none
    | .builtin .max => match c.args.toList with
      | [x, y] => lift (vMax cx σ x y)
      | [x, y, z] => lift (vMax3 cx σ x y z)
      | _ => none
    | .builtin .min => match c.args.toList with
      | [x, y] => lift (vMin cx σ x y)
      | [x, y, z] => lift (vMin3 cx σ x y z)
      | _ => none
    | _ => none
  | _ => none

section
variable {F : Fr} {M : Nat → Prop} {ρ : Nat → Value} {σ : St} {a : Act} {w : World} {E : Env}

theorem vFunc_sound (hF : F.Wf) (h : Rel1 F M ρ σ a w) {o : Oper} {f : FuncId} {first caps : Array Operand} (h0 : first.size = 0) (ho : o.op = .makeFunc (.func f) first caps) {p : Prop} {r : AV} (hv : vFunc F.cx σ f caps = some (p, r)) (hp : p) :
    ∃ v, Runs F.cx.P a w o v ∧ relA F.cx F.w0 (okM F M) ρ w r v := by
  unfold vFunc at hv
  split at hv
  · rename_i ks hk
    simp only [Option.some.injEq, Prod.mk.injEq] at hv
    obtain ⟨_, rfl⟩ := hv
    have h1 : first = #[] := Array.eq_empty_of_size_eq_zero h0
    subst h1
    refine ⟨.func (.func f) #[] (caps.map a.eval), by simp [Runs, execOp, ho, Instr.makeFunc], ?_⟩
    have key : ∀ (l : List Operand) (ks : List Nat), ksOf F.cx σ l = some ks → l.map a.eval = ks.map ρ := by
      intro l
      induction l with
      | nil => intro ks h; simp only [ksOf, Option.some.injEq] at h; subst h; rfl
      | cons x r ih =>
        intro ks hk
        unfold ksOf at hk
        split at hk
        · rename_i k l' e1 e2
          simp only [Option.some.injEq] at hk
          subst hk
          have hx := ev_rel hF h x
          rw [e1] at hx
          obtain ⟨b, h2, h3⟩ := hx
          rw [List.map_cons, List.map_cons, ih l' e2, h3, h2]
        · cases hk
    show _ = _
    congr 1
    have := key _ _ hk
    rw [← this]
    apply Array.ext'
    simp
  · cases hv

theorem lift_ne {x : Option (Prop × AV)} {g : GO} (h : lift x = some g) : ∃ r, g.post r := by
  unfold lift at h
  split at h
  · simp only [Option.some.injEq] at h
    subst h
    exact ⟨_, rfl⟩
  · cases h

theorem gop_ne {cx : Cx} (hE : EnvOk cx E) {o : Oper} {g : GO} (h : gop cx E σ o = some g) (hp : g.pre) : ∃ r, g.post r := by
  unfold gop at h
  split at h
  all_goals first
    | exact lift_ne h
    | (cases h; done)
    | skip
  · unfold gBuildS at h
    split at h
    · split at h
      · split at h
        · simp only [Option.some.injEq] at h
          subst h
          exact ⟨_, rfl⟩
        · cases h
      · cases h
    · cases h
  · split at h
    · exact lift_ne h
    · cases h
  · split at h
    · unfold gCall at h
      split at h
      · split at h
        · rename_i sp hsp
          simp only [Option.some.injEq] at h
          subst h
          exact (hE.fn _ _ hsp).2.1 _ hp.1
        · cases h
      · split at h
        · simp only [Option.some.injEq] at h
          subst h
          obtain ⟨_, y, hy⟩ := hp
          exact ⟨.dv y, y, rfl, hy⟩
        · cases h
      · split at h
        · rename_i sp hsp
          simp only [Option.some.injEq] at h
          subst h
          exact (hE.fn _ _ hsp).2.1 _ hp.1
        split at h
        · simp only [Option.some.injEq] at h
          subst h
          obtain ⟨_, y, hy⟩ := hp
          exact ⟨.dv y, y, rfl, hy⟩
        · cases h
      · cases h
    all_goals first
      | (split at h <;> first | exact lift_ne h | (cases h; done))
      | (cases h; done)

theorem gop_sound (hE : EnvOk F.cx E) (hF : F.Wf) (h : Rel1 F M ρ σ a w) {o : Oper} {g : GO} (hg : gop F.cx E σ o = some g) (hB : σ.c + g.cost ≤ F.B) : Does F M ρ σ a w o g := by
  unfold gop at hg
  split at hg
  · rename_i x ho; exact Does.of_lift h hg fun p r hv hp => vMove_sound hF h (.inl ho) hv hp
  · rename_i x ho; exact Does.of_lift h hg fun p r hv hp => vMove_sound hF h (.inr ho) hv hp
  · rename_i ho; exact Does.of_lift h hg fun p r hv hp => vPick_sound hF h ho hv hp
  · rename_i ho; exact Does.of_lift h hg fun p r hv hp => vNil_sound hF h ho hv hp
  · rename_i ho; exact Does.of_lift h hg fun p r hv hp => vBin_sound hF h ho hv hp
  · rename_i ho; exact Does.of_lift h hg fun p r hv hp => vUn_sound hF h ho hv hp
  · rename_i ho; exact Does.of_lift h hg fun p r hv hp => vConv_sound hF h ho hv hp
  · rename_i ho; exact Does.of_lift h hg fun p r hv hp => vField_sound hF h ho hv hp
  · rename_i ho; exact Does.of_lift h hg fun p r hv hp => vFaddr_sound hF h ho hv hp
  · rename_i ho; exact Does.of_lift h hg fun p r hv hp => vIndex_sound hF h ho hv hp
  · rename_i ho; exact Does.of_lift h hg fun p r hv hp => vIdxA_sound hF h ho hv hp
  · rename_i ho; exact Does.of_lift h hg fun p r hv hp => vLoad_sound hF h ho hv hp
  · rename_i ho; exact Does.of_lift h hg fun p r hv hp => vExtract_sound hF h ho hv hp
  · rename_i ho; exact Does.of_lift h hg fun p r hv hp => vLook_sound hF h ho hv hp
  · rename_i ho; exact Does.of_lift h hg fun p r hv hp => vBuild_sound hF h ho hv hp
  · rename_i ho; exact Does.of_lift h hg fun p r hv hp => vSlice_sound hF h ho hv hp
  · rename_i ho; exact gBuildS_sound hF h ho hg
  · rename_i ho
    split at hg
    · rename_i h0
      exact Does.of_lift h hg fun p r hv hp => vFunc_sound hF h h0 ho hv hp
    · cases hg
  · rename_i c ho
    obtain ⟨cal, args, ts⟩ := c
    simp only at hg
    split at hg
    · exact gCall_sound hE hF h ho hg hB
    · split at hg
      · rename_i x t e1 e2
        have h1 : args = #[x] := by apply Array.ext'; exact e1
        have h2 : ts = #[t] := by apply Array.ext'; exact e2
        subst h1
        subst h2
        exact Does.of_lift h hg fun p r hv hp => vLen_sound hF h ho hv hp
      · cases hg
    · split at hg
      · rename_i x y e1
        have h1 : args = #[x, y] := by apply Array.ext'; exact e1
        subst h1
        exact Does.of_lift h hg fun p r hv hp => vMax_sound hF h ho hv hp
      · rename_i x y z e1
        have h1 : args = #[x, y, z] := by apply Array.ext'; exact e1
        subst h1
        exact Does.of_lift h hg fun p r hv hp => vMax3_sound hF h ho hv hp
      · cases hg
    · split at hg
      · rename_i x y e1
        have h1 : args = #[x, y] := by apply Array.ext'; exact e1
        subst h1
        exact Does.of_lift h hg fun p r hv hp => vMin_sound hF h ho hv hp
      · rename_i x y z e1
        have h1 : args = #[x, y, z] := by apply Array.ext'; exact e1
        subst h1
        exact Does.of_lift h hg fun p r hv hp => vMin3_sound hF h ho hv hp
      · cases hg
    · cases hg
  · cases hg
end

/-! ### What an operation reads -/
def tmpOf : Operand → List Tmp
  | .tmp t => [t]
  | _ => []
def readsOf (o : Oper) : List Tmp := o.op.operands.toList.flatMap tmpOf

section
variable {cx : Cx} {E : Env} {σ σ' : St}

theorem ev0_congr {o : Oper} (hs : ∀ t ∈ readsOf o, σ.s t = σ'.s t) {x : Operand} (hx : x ∈ o.op.operands.toList) : ev0 cx σ x = ev0 cx σ' x := by
  cases x with
  | tmp t => exact hs t (List.mem_flatMap.2 ⟨_, hx, List.mem_cons_self⟩)
  | _ => rfl
theorem ev_congr {o : Oper} (hs : ∀ t ∈ readsOf o, σ.s t = σ'.s t) {x : Operand} (hx : x ∈ o.op.operands.toList) : ev cx σ x = ev cx σ' x := by
  unfold ev
  rw [ev0_congr hs hx]
theorem toD_congr (ho : σ.o = σ'.o) (r : AV) : toD σ r = toD σ' r := by
  cases r <;> simp only [toD, ho]
theorem bnd_congr {d : Int} {x : Option Operand} (h : ∀ y, x = some y → ev cx σ y = ev cx σ' y) : bnd cx σ d x = bnd cx σ' d x := by
  cases x with
  | none => rfl
  | some y => simp only [bnd, h y rfl]
theorem argsD_congr (ho : σ.o = σ'.o) : ∀ {ps : List (Nat × Operand)}, (∀ p ∈ ps, ev cx σ p.2 = ev cx σ' p.2) → argsD cx σ ps = argsD cx σ' ps ∧ noOwn cx σ ps = noOwn cx σ' ps
  | [], _ => ⟨rfl, rfl⟩
  | (i, x) :: r, h => by
    have h1 := argsD_congr ho (ps := r) (fun p hp => h p (List.mem_cons_of_mem _ hp))
    have h2 : ev cx σ x = ev cx σ' x := h (i, x) List.mem_cons_self
    simp only [argsD, noOwn, h1.1, h1.2, h2, toD_congr ho, and_self]
theorem partsC_congr (ho : σ.o = σ'.o) : ∀ {ps : List (Nat × Operand)}, (∀ p ∈ ps, ev cx σ p.2 = ev cx σ' p.2) → partsC cx σ ps = partsC cx σ' ps
  | [], _ => rfl
  | (i, x) :: r, h => by
    have h1 := partsC_congr ho (ps := r) (fun p hp => h p (List.mem_cons_of_mem _ hp))
    have h2 : ev cx σ x = ev cx σ' x := h (i, x) List.mem_cons_self
    simp only [partsC, partC, h1, h2, ho]
theorem litsF_congr {pl : List (Nat × Nat)} : ∀ {ps : List (Nat × Operand)}, (∀ p ∈ ps, ev0 cx σ p.2 = ev0 cx σ' p.2) → litsF cx σ pl ps = litsF cx σ' pl ps
  | [], _ => rfl
  | (i, x) :: r, h => by
    have h1 := litsF_congr (pl := pl) (ps := r) (fun p hp => h p (List.mem_cons_of_mem _ hp))
    have h2 : ev0 cx σ x = ev0 cx σ' x := h (i, x) List.mem_cons_self
    simp only [litsF, h1, h2]
theorem boxD_congr (ho : σ.o = σ'.o) (k : Nat) : boxD σ k = boxD σ' k := by simp only [boxD, ho]
theorem capsD_congr (ho : σ.o = σ'.o) : ∀ ks : List Nat, capsD σ ks = capsD σ' ks
  | [] => rfl
  | k :: r => by simp only [capsD, boxD_congr ho, capsD_congr ho r]
theorem argA_congr (ho : σ.o = σ'.o) (r : AV) : argA E σ r = argA E σ' r := by
  cases r with
  | fn f ks => cases ks <;> simp only [argA, capsD_congr ho]
  | _ => simp only [argA, toD_congr ho, boxD_congr ho]
theorem ksOf_congr : ∀ {l : List Operand}, (∀ x ∈ l, ev cx σ x = ev cx σ' x) → ksOf cx σ l = ksOf cx σ' l
  | [], _ => rfl
  | x :: r, h => by simp only [ksOf, h x List.mem_cons_self, ksOf_congr (l := r) (fun y hy => h y (List.mem_cons_of_mem _ hy))]

theorem gop_congr {o : Oper} (ho : σ.o = σ'.o) (hs : ∀ t ∈ readsOf o, σ.s t = σ'.s t) : gop cx E σ o = gop cx E σ' o := by
  have he : ∀ x ∈ o.op.operands.toList, ev cx σ x = ev cx σ' x := fun x hx => ev_congr hs hx
  have he0 : ∀ x ∈ o.op.operands.toList, ev0 cx σ x = ev0 cx σ' x := fun x hx => ev0_congr hs hx
  unfold gop
  split <;> rename_i hop <;> simp only [hop, Op.operands] at he he0
  case h_15 =>
    have h1 := argsD_congr (cx := cx) (ps := (by assumption : Array (Nat × Operand)).toList) ho (fun p hp => he p.2 (List.mem_map_of_mem (f := fun q : Nat × Operand => q.2) hp))
    have h2 := fun pl => litsF_congr (cx := cx) (pl := pl) (ps := (by assumption : Array (Nat × Operand)).toList) (fun p hp => he0 p.2 (List.mem_map_of_mem (f := fun q : Nat × Operand => q.2) hp))
    have h3 := partsC_congr (cx := cx) (ps := (by assumption : Array (Nat × Operand)).toList) ho (fun p hp => he p.2 (List.mem_map_of_mem (f := fun q : Nat × Operand => q.2) hp))
    simp only [vBuild, h1.1, h1.2, h2, h3]
  case h_17 =>
    have h1 := argsD_congr (cx := cx) (ps := (by assumption : Array (Nat × Operand)).toList) ho (fun p hp => he p.2 (List.mem_map_of_mem (f := fun q : Nat × Operand => q.2) hp))
    simp only [gBuildS, h1.1, h1.2]
  case h_16 t x lo hi =>
    have hx : ev cx σ x = ev cx σ' x := he x (by simp)
    have h1 : ∀ d, bnd cx σ d lo = bnd cx σ' d lo := fun d => bnd_congr (fun y hy => he y (by subst hy; simp))
    have h2 : ∀ d, bnd cx σ d hi = bnd cx σ' d hi := fun d => bnd_congr (fun y hy => he y (by subst hy; simp))
    simp only [vSlice, hx, h1, h2, toD_congr ho]
  case h_18 f first caps =>
    have h1 : ksOf cx σ caps.toList = ksOf cx σ' caps.toList := ksOf_congr (fun x hx => he x (by simp only [Array.toList_append, List.mem_append]; exact .inr hx))
    simp only [vFunc, h1]
  case h_19 c =>
    have h2 : ∀ x ∈ c.args.toList, ev cx σ x = ev cx σ' x := fun x hx => he x (by simp only [Call.operands, Array.toList_append, List.mem_append]; exact .inr hx)
    split
    · rename_i f hf
      have h1 : ev cx σ f = ev cx σ' f := he f (by simp [Call.operands, hf])
      have h3 : (c.args.toList.map fun x => argA E σ (ev cx σ x)) = (c.args.toList.map fun x => argA E σ' (ev cx σ' x)) := List.map_congr_left (fun x hx => by rw [h2 x hx, argA_congr ho])
      have h4 : (c.args.toList.any fun x => lent (ev cx σ x)) = (c.args.toList.any fun x => lent (ev cx σ' x)) := by
        rw [Bool.eq_iff_iff, List.any_eq_true, List.any_eq_true]
        exact ⟨fun ⟨x, hx, hl⟩ => ⟨x, hx, by rw [← h2 x hx]; exact hl⟩, fun ⟨x, hx, hl⟩ => ⟨x, hx, by rw [h2 x hx]; exact hl⟩⟩
      have h5 : c.args.toList.map (ev cx σ) = c.args.toList.map (ev cx σ') := List.map_congr_left h2
      have h6 : ∀ ks : List Nat, (ks.map fun k => argA E σ (.ptr k 0)) = (ks.map fun k => argA E σ' (.ptr k 0)) := fun ks => List.map_congr_left fun k _ => argA_congr ho _
      simp only [gCall, h1, h3, h4, h5, h6, capsD_congr ho]
    · split
      · rename_i x t e1 e2
        simp only [vLen, h2 x (by rw [e1]; simp), toD_congr ho]
      · rfl
    · split
      · rename_i x y e1
        simp only [vMax, h2 x (by rw [e1]; simp), h2 y (by rw [e1]; simp)]
      · rename_i x y z e1
        simp only [vMax3, h2 x (by rw [e1]; simp), h2 y (by rw [e1]; simp), h2 z (by rw [e1]; simp)]
      · rfl
    · split
      · rename_i x y e1
        simp only [vMin, h2 x (by rw [e1]; simp), h2 y (by rw [e1]; simp)]
      · rename_i x y z e1
        simp only [vMin3, h2 x (by rw [e1]; simp), h2 y (by rw [e1]; simp), h2 z (by rw [e1]; simp)]
      · rfl
    · rfl
  all_goals first
    | rfl
    | (simp only [List.mem_cons, List.not_mem_nil, or_false, forall_eq, forall_eq_or_imp] at he he0
       simp only [he0, vMove, vPick, vNil, vBin, vUn, vConv, vField, vFaddr, vIndex, vIdxA, vLoad, vExtract, vLook, he, ho, toD_congr ho])
end
end Go.Avc

namespace Go.Avc
open Go

def purgeA (d : Nat) : AV → AV
  | .own k => if k = d then .un else .own k
  | .ptr k o => if k = d then .un else .ptr k o
  | .eptr k i z o => if k = d then .un else .eptr k i z o
  | .fn f ks => if ks.contains d = true then .un else .fn f ks
  | .ago l j k => if k = d then .un else .ago l j k
  | .tcons a t => .tcons (purgeA d a) (purgeA d t)
  | .agv t => .agv (purgeA d t)
  | r => r
def purgeO (d : Nat) : Ob → Ob
  | .box T cs => .box T (cs.map (purgeA d))
  | .arr e z l => .arr e z l
  | .bld T k => if k = d then .box T [.un, .un] else .bld T k
  | .mp T l => .mp T l
/-- Nothing speaks of object d any more. -/
def St.del (σ : St) (d : Nat) : St := { σ with s := fun t => purgeA d (σ.s t), o := fun k => if k = d then none else (σ.o k).map (purgeO d) }
def St.newOb (σ : St) (d : Nat) (dst : Nat) (r : AV) (ob : Ob) : St := { σ.del d with s := upd (σ.del d).s dst r, o := upd (σ.del d).o d (some ob) }

section
variable {F : Fr} {M : Nat → Prop} {ρ ρ' : Nat → Value} {σ : St} {a : Act} {w w' : World} {E : Env} {d : Nat} {ok : Nat → Prop}

theorem rel0_del {cx : Cx} {w0 : World} {x : AV} {v : Value} (h : rel0 cx w0 ok ρ w x v) (hρ : ∀ k, k ≠ d → ρ' k = ρ k) : rel0 cx w0 ok ρ' w (purgeA d x) v := by
  cases x with
  | own k =>
    simp only [purgeA]
    split
    · exact trivial
    · rename_i hk; show v = ρ' k; rw [hρ k hk]; exact h
  | ptr k o =>
    simp only [purgeA]
    split
    · exact trivial
    · rename_i hk; obtain ⟨b, h1, h2⟩ := h; exact ⟨b, by rw [hρ k hk]; exact h1, h2⟩
  | eptr k i z o =>
    simp only [purgeA]
    split
    · exact trivial
    · rename_i hk; obtain ⟨b, n, c, h1, h2⟩ := h; exact ⟨b, n, c, by rw [hρ k hk]; exact h1, h2⟩
  | fn f ks =>
    simp only [purgeA]
    split
    · exact trivial
    · rename_i hk
      have : ks.map ρ' = ks.map ρ := List.map_congr_left (fun k hk' => hρ k (fun e => hk (by rw [List.contains_iff_mem]; exact e ▸ hk')))
      show v = _
      rw [this]
      exact h
  | ago l j k =>
    simp only [purgeA]
    split
    · exact trivial
    · rename_i hk
      obtain ⟨cs, h1, h2, h3, h4⟩ := h
      exact ⟨cs, h1, h2, fun u hu => by rw [hρ k hk]; exact h3 u hu, h4⟩
  | tcons b t => exact h.elim
  | _ => exact h
theorem relT_del {cx : Cx} {w0 : World} (hρ : ∀ k, k ≠ d → ρ' k = ρ k) : ∀ {x : AV} {vs : List Value}, relT cx w0 ok ρ w x vs → relT cx w0 ok ρ' w (purgeA d x) vs
  | .tnil, _, h => h
  | .tcons _ _, _, h => by
    obtain ⟨v, r, h1, h2, h3⟩ := h
    exact ⟨v, r, h1, rel0_del h2 hρ, relT_del hρ h3⟩
theorem relA_del {cx : Cx} {w0 : World} {x : AV} {v : Value} (h : relA cx w0 ok ρ w x v) (hρ : ∀ k, k ≠ d → ρ' k = ρ k) : relA cx w0 ok ρ' w (purgeA d x) v := by
  cases x with
  | tnil => exact h
  | tcons b t => obtain ⟨vs, h1, h2⟩ := h; exact ⟨vs, h1, relT_del hρ h2⟩
  | agv t => obtain ⟨vs, h1, h2⟩ := h; exact ⟨vs, h1, relT_del hρ h2⟩
  | _ => exact relA_of0 (rel0_del (ρ := ρ) (by rw [← relA_eq rfl]; exact h) hρ)

theorem Rel1.del (h : Rel1 F M ρ σ a w) (hρ : ∀ k, k ≠ d → ρ' k = ρ k) : Rel1 F M ρ' (σ.del d) a w where
  gr := h.gr
  st := h.st
  gl := h.gl
  mb := h.mb
  sl := fun t => relA_del (h.sl t) hρ
  ob := fun k o hk => by
    simp only [St.del] at hk
    split at hk
    · cases hk
    · rename_i hkd
      rw [Option.map_eq_some_iff] at hk
      obtain ⟨o', ho', rfl⟩ := hk
      have h0 := h.ob k o' ho'
      rw [hρ k hkd]
      cases o' with
      | box T cs =>
        obtain ⟨b, vs, h1, h2, h3, h4, h5⟩ := h0
        refine ⟨b, vs, h1, h2, h3, by rw [List.length_map]; exact h4, fun j x u hx hu => ?_⟩
        rw [List.getElem?_map, Option.map_eq_some_iff] at hx
        obtain ⟨y, hy, rfl⟩ := hx
        exact ⟨(h5 j y u hy hu).1, relA_del (h5 j y u hy hu).2 hρ⟩
      | arr e z l => exact h0
      | mp T l => exact h0
      | bld T k' =>
        obtain ⟨b, p, h1, h2, h3, h4, h5⟩ := h0
        simp only [purgeO]
        split
        · refine ⟨b, #[p, ρ k'], h1, h2, h3, rfl, fun j y u hy hu => ?_⟩
          have hp : p.oneCell' = true := by rcases h4 with rfl | rfl <;> rfl
          match j, hy, hu with
          | 0, hy, hu => simp at hy hu; subst hy; subst hu; exact ⟨hp, trivial⟩
          | 1, hy, hu => simp at hy hu; subst hy; subst hu; exact ⟨h5, trivial⟩
          | j + 2, hy, hu => simp at hy
        · rename_i hk'
          exact ⟨b, p, h1, h2, by rw [hρ k' hk']; exact h3, h4, by rw [hρ k' hk']; exact h5⟩
  ne := fun k k' o o' hk hk' hne => by
    simp only [St.del] at hk hk'
    split at hk
    · cases hk
    · rename_i e1
      split at hk'
      · cases hk'
      · rename_i e2
        rw [Option.map_eq_some_iff] at hk hk'
        obtain ⟨p, hp, _⟩ := hk
        obtain ⟨q, hq, _⟩ := hk'
        rw [hρ k e1, hρ k' e2]
        exact h.ne k k' p q hp hq hne
  df := h.df
  nt := h.nt
  kx := h.kx


theorem ObR.blk {o : Ob} {v : Value} (h : ObR F M ρ w o v) {b : Nat} (hb : blkOf v = some b) : M b := by
  cases o with
  | box T cs =>
    obtain ⟨b', vs, h1, h2, _⟩ := h
    rw [h1] at hb
    simp only [blkOf, Option.some.injEq] at hb
    exact hb ▸ h2
  | bld T k' =>
    obtain ⟨b', p, h1, h2, _⟩ := h
    rw [h1] at hb
    simp only [blkOf, Option.some.injEq] at hb
    exact hb ▸ h2
  | mp T l =>
    obtain ⟨b', es, clk, h1, h2, _⟩ := h
    rw [h1] at hb
    simp only [blkOf, Option.some.injEq] at hb
    exact hb ▸ h2
  | arr e z l =>
    obtain ⟨cs, hown, h2, _⟩ := h
    refine h2 b ?_
    rcases hown.2 with ⟨h1, _⟩ | ⟨g, cap, cur, h1, _⟩
    · rw [h1] at hb; simp [blkOf] at hb
    · rw [h1] at hb ⊢; exact hb

/-- Object k is replaced: its block alone may have changed, or it lies in a new one. -/
theorem Rel1.repl (hF : F.Wf) (h : Rel1 F M ρ σ a w) (k : Nat) {B0 : Option Nat} {ob : Ob} (hB : ∀ b, B0 = some b → M b ∧ ∀ k' o', σ.o k' = some o' → k' ≠ k → blkOf (ρ k') ≠ some b)
    (hos : w'.os = w.os) (htp : w'.tape = w.tape) (hout : w'.output = w.output) (hsz : w.heap.size ≤ w'.heap.size) (hw : ∀ b, b < w.heap.size → B0 ≠ some b → w'.heap[b]? = w.heap[b]?)
    (hv : ∀ b, blkOf (ρ k) = some b → (B0 = some b ∨ w.heap.size ≤ b) ∧ b < w'.heap.size) (hob : ObR F (fun b => M b ∨ blkOf (ρ k) = some b) ρ w' ob (ρ k)) :
    Rel1 F (fun b => M b ∨ blkOf (ρ k) = some b) ρ { σ with o := upd σ.o k (some ob) } a w' := by
  have hM : ∀ b, B0 = some b → F.w0.heap.size ≤ b := fun b hb => (h.mb b (hB b hb).1).1
  have hlow : ∀ b, b < F.w0.heap.size → w'.heap[b]? = w.heap[b]? := fun b hb => hw b (by have := h.gr.size; omega) (fun e => by have := hM b e; omega)
  have hok : ∀ b, okM F M b → b < w.heap.size → okM F (fun b => M b ∨ blkOf (ρ k) = some b) b := fun b hb hlt => ⟨hb.1, fun e => by
    rcases e with e | e
    · exact hb.2 e
    · rcases (hv b e).1 with e2 | e2
      · exact hb.2 (hB b e2).1
      · omega⟩
  have hun : ∀ b, okM F M b → b < w.heap.size → w'.heap[b]? = w.heap[b]? := fun b hb hlt => hw b hlt (fun e => hb.2 (hB b e).1)
  refine ⟨⟨hos.trans h.gr.os, htp.trans h.gr.tape, hout.trans h.gr.output, by have := h.gr.size; omega, fun b hb hg => (hlow b hb).trans (h.gr.block b hb hg)⟩,
    h.st.keep2 hsz (fun b b' hb hle => hlow b' (by have := hF.g b hb; omega)), ?_, fun b hb => ?_, fun t => (h.sl t).mono (Gr.refl _ _) hsz hok hun, fun k' o' hk' => ?_, fun k1 k2 o1 o2 h1 h2 hne => ?_, h.df, h.nt, ?_⟩
  · intro k' l hk'
    obtain ⟨h0, h1, cs, h2, h3⟩ := h.gl k' l hk'
    have hl : ∀ b, b < F.cx.ng → w'.heap[b]? = w.heap[b]? := fun b hb => hlow b (hF.ok b (hF.gl b hb)).1
    exact ⟨h0, by omega, cs, fun j u hj => (cell_congr (a := ⟨k', j, none⟩) (hl k' h0)).trans (h2 j u hj), h3.mono hsz (fun _ h _ => h) (fun b hb _ => hl b hb)⟩
  · rcases hb with hb | hb
    · exact ⟨(h.mb b hb).1, by have := (h.mb b hb).2; omega⟩
    · refine ⟨?_, (hv b hb).2⟩
      rcases (hv b hb).1 with e | e
      · exact hM b e
      · have := h.gr.size; omega
  · simp only [upd_apply] at hk'
    split at hk'
    · rename_i e
      cases hk'
      rw [e]
      exact hob
    · rename_i e
      have h0 := h.ob k' o' hk'
      cases o' with
      | box T cs =>
        obtain ⟨b, vs, h1, h2, h3, h4, h5⟩ := h0
        exact ⟨b, vs, h1, .inl h2, (hw b (h.mb b h2).2 (fun e2 => (hB b e2).2 k' _ hk' e (by rw [h1]; rfl))).trans h3, h4, fun j x u hx hu => ⟨(h5 j x u hx hu).1, (h5 j x u hx hu).2.mono (Gr.refl _ _) hsz hok hun⟩⟩
      | bld T k2 =>
        obtain ⟨b, p, h1, h2, h3, h4, h5⟩ := h0
        exact ⟨b, p, h1, .inl h2, (hw b (h.mb b h2).2 (fun e2 => (hB b e2).2 k' _ hk' e (by rw [h1]; rfl))).trans h3, h4, h5⟩
      | mp T l =>
        obtain ⟨b, es, clk, h1, h2, h3, h4⟩ := h0
        exact ⟨b, es, clk, h1, .inl h2, (hw b (h.mb b h2).2 (fun e2 => (hB b e2).2 k' _ hk' e (by rw [h1]; rfl))).trans h3, h4⟩
      | arr e' z l =>
        obtain ⟨cs, hown, h2, h3, h4⟩ := h0
        refine ⟨cs, ⟨hown.1, ?_⟩, fun b hb => .inl (h2 b hb), h3, h4.mono hsz hok hun⟩
        rcases hown.2 with h5 | ⟨g, cap, cur, h5, h6, h7, h8⟩
        · exact .inl h5
        · have hMg := h2 g (by rw [h5]; rfl)
          exact .inr ⟨g, cap, cur, h5, h6, (hw g (h.mb g hMg).2 (fun e2 => (hB g e2).2 k' _ hk' e (by rw [h5]; rfl))).trans h7, h8⟩
  · simp only [upd_apply] at h1 h2
    intro b hb1 hb2
    split at h1
    · rename_i e1
      subst e1
      split at h2
      · rename_i e2; exact hne e2.symm
      · rename_i e2
        rcases (hv b hb1).1 with e3 | e3
        · exact (hB b e3).2 k2 o2 h2 e2 hb2
        · have := (h.mb b ((h.ob k2 o2 h2).blk hb2)).2; omega
    · rename_i e1
      split at h2
      · rename_i e2
        subst e2
        rcases (hv b hb2).1 with e3 | e3
        · exact (hB b e3).2 k1 o1 h1 e1 hb1
        · have := (h.mb b ((h.ob k1 o1 h1).blk hb1)).2; omega
      · exact h.ne k1 k2 o1 o2 h1 h2 hne b hb1 hb2
  · refine ⟨Nat.le_trans h.kx.1 hsz, fun b hx hn hb => ?_, fun b hb => ?_⟩
    · refine (hw b (Nat.lt_of_lt_of_le hb h.kx.1) fun e => ?_).trans (h.kx.2.1 b hx hn hb)
      rcases h.kx.2.2 b (hB b e).1 with e2 | e2
      · exact hx e2
      · omega
    · rcases hb with hb | hb
      · exact h.kx.2.2 b hb
      · rcases (hv b hb).1 with e | e
        · exact h.kx.2.2 b (hB b e).1
        · exact .inr (Nat.le_trans h.kx.1 e)

/-! ### Cells of a value -/

def memN : List Nat → Nat → Bool
  | [], _ => false
  | u :: r, j => if u = j then true else memN r j
theorem memN_mem : ∀ {zs : List Nat} {j : Nat}, memN zs j = true → j ∈ zs
  | [], _, h => by cases h
  | u :: r, j, h => by
    unfold memN at h
    split at h
    · rename_i e; rw [e]; exact List.mem_cons_self
    · exact List.mem_cons_of_mem _ (memN_mem h)
def litc (e : TypeId) : D → AV
  | .sl l => .lit e l
  | x => .dv (.d x)
/-- The type of the row that was written out for cell j. -/
def litE : List Nat → Nat → Option TypeId
  | [], _ => none
  | u :: r, j => if 1000 ≤ u ∧ u % 1000 = j then some (u / 1000 - 1) else litE r j
theorem litE_mem : ∀ {zs : List Nat} {j : Nat} {e : TypeId}, litE zs j = some e → 1000 * (e + 1) + j ∈ zs ∧ j < 1000
  | [], _, _, h => by cases h
  | u :: r, j, e, h => by
    unfold litE at h
    split at h
    · rename_i c
      obtain ⟨c1, c2⟩ := c
      cases h
      have : 1000 * (u / 1000 - 1 + 1) + j = u := by omega
      rw [this]
      exact ⟨List.mem_cons_self, by omega⟩
    · exact ⟨List.mem_cons_of_mem _ (litE_mem h).1, (litE_mem h).2⟩
/-- A struct's cells, nil slices known as such, and slices just written out. -/
def zcells (zs : List Nat) : List D → Nat → List AV
  | [], _ => []
  | x :: r, j => (if memN zs j = true ∧ j < 1000 then .nil else match litE zs j with
    | some e => litc e x
    | none => .dv (.d x)) :: zcells zs r (j + 1)
theorem zcells_length (zs : List Nat) : ∀ (l : List D) (j : Nat), (zcells zs l j).length = l.length
  | [], _ => rfl
  | _ :: r, j => congrArg Nat.succ (zcells_length zs r (j + 1))
theorem zcells_get (zs : List Nat) : ∀ (l : List D) (j k : Nat) (y : AV), (zcells zs l j)[k]? = some y → (y = .nil ∧ j + k ∈ zs ∧ j + k < 1000) ∨ (∃ m e, l[k]? = some (.sl m) ∧ y = .lit e m ∧ 1000 * (e + 1) + (j + k) ∈ zs ∧ j + k < 1000) ∨ ∃ x, l[k]? = some x ∧ y = .dv (.d x)
  | [], _, k, y, h => by simp [zcells] at h
  | x :: r, j, 0, y, h => by
    simp only [zcells, List.getElem?_cons_zero, Option.some.injEq] at h
    split at h
    · rename_i hc
      exact .inl ⟨h.symm, by rw [Nat.add_zero]; exact memN_mem hc.1, by rw [Nat.add_zero]; exact hc.2⟩
    · split at h
      · rename_i e hc
        cases x with
        | sl m => exact .inr (.inl ⟨m, e, rfl, h.symm, by rw [Nat.add_zero]; exact (litE_mem hc).1, by rw [Nat.add_zero]; exact (litE_mem hc).2⟩)
        | _ => exact .inr (.inr ⟨_, rfl, h.symm⟩)
      · exact .inr (.inr ⟨x, rfl, h.symm⟩)
  | x :: r, j, k + 1, y, h => by
    simp only [zcells, List.getElem?_cons_succ] at h
    rcases zcells_get zs r (j + 1) k y h with ⟨h1, h2⟩ | ⟨m, e, h1, h2, h3⟩ | h1
    · exact .inl ⟨h1, by rw [show j + (k + 1) = j + 1 + k by omega]; exact h2⟩
    · exact .inr (.inl ⟨m, e, h1, h2, by rw [show j + (k + 1) = j + 1 + k by omega]; exact h3⟩)
    · exact .inr (.inr h1)
def cellsA : AV → Option (List AV)
  | .dv (.d x) => some [.dv (.d x)]
  | .dv (.ag l) => some (l.map fun x => .dv (.d x))
  | .ptr k o => some [.ptr k o]
  | .eptr k i z o => some [.eptr k i z o]
  | .dp l => some [.dp l]
  | .st => some [.st]
  | .fn f ks => some [.fn f ks]
  | .fv sp => some [.fv sp]
  | .nil => some [.nil]
  | .lit e l => some [.lit e l]
  | .agz l zs => some (zcells zs l 0)
  | _ => none

theorem one_cells {P : AV → Value → Prop} {x : AV} {v : Value} (h1 : v.cells = #[v]) (h2 : v.oneCell' = true) (h : P x v) : [x].length = v.cells.size ∧ ∀ (j : Nat) (y : AV) (u : Value), [x][j]? = some y → v.cells[j]? = some u → u.oneCell' = true ∧ P y u := by
  rw [h1]
  refine ⟨rfl, fun j y u hy hu => ?_⟩
  cases j with
  | zero =>
    simp at hy hu
    subst hy
    subst hu
    exact ⟨h2, h⟩
  | succ j => simp at hy

theorem cellsA_rel {x : AV} {cs : List AV} {v : Value} (hc : cellsA x = some cs) (h : relA F.cx F.w0 ok ρ w x v) : cs.length = v.cells.size ∧ ∀ (j : Nat) (y : AV) (u : Value), cs[j]? = some y → v.cells[j]? = some u → u.oneCell' = true ∧ relA F.cx F.w0 ok ρ w y u := by
  cases x with
  | dv y =>
    cases y with
    | d y =>
      simp only [cellsA, Option.some.injEq] at hc
      subst hc
      have hr : Rd ok w y v := h
      exact one_cells (P := fun x v => relA F.cx F.w0 ok ρ w x v) hr.one.1 hr.one.2 h
    | ag l =>
      simp only [cellsA, Option.some.injEq] at hc
      subst hc
      obtain ⟨vs, rfl, hl⟩ := h
      refine ⟨by rw [List.length_map, hl.1]; simp [Value.cells], fun j y u hy hu => ?_⟩
      rw [List.getElem?_map, Option.map_eq_some_iff] at hy
      obtain ⟨z, hz, rfl⟩ := hy
      have hu' : vs[j]? = some u := by simpa [Value.cells] using hu
      have hr := hl.2 j z u hz hu'
      exact ⟨hr.one.2, hr⟩
  | agz l zs =>
    simp only [cellsA, Option.some.injEq] at hc
    subst hc
    obtain ⟨⟨vs, rfl, hl⟩, hz⟩ := h
    refine ⟨by rw [zcells_length, hl.1]; simp [Value.cells], fun j y u hy hu => ?_⟩
    have hu' : vs[j]? = some u := by simpa [Value.cells] using hu
    rcases zcells_get zs l 0 j y hy with ⟨rfl, h2, h3⟩ | ⟨m, e, hm, rfl, h3, h4⟩ | ⟨x, hx, rfl⟩
    · rcases hz j (by rw [Nat.zero_add] at h2; exact h2) with ⟨_, this⟩ | ⟨i, e, m, u2, e1, e2, _⟩
      · rw [hu] at this
        cases this
        exact ⟨rfl, rfl⟩
      · omega
    · have hr := hl.2 j (.sl m) u hm hu'
      refine ⟨hr.one.2, ?_⟩
      rcases hz (1000 * (e + 1) + j) (by rw [Nat.zero_add] at h3; exact h3) with ⟨this, _⟩ | ⟨i, e2, m2, u2, e3, e4, e5, e6, e7⟩
      · omega
      · have hee : e2 = e ∧ i = j := by omega
        obtain ⟨rfl, rfl⟩ := hee
        rw [hu] at e5
        cases e5
        rw [hm] at e6
        cases e6
        exact e7
    · have hr := hl.2 j x u hx hu'
      exact ⟨hr.one.2, hr⟩
  | ptr k o =>
    simp only [cellsA, Option.some.injEq] at hc
    subst hc
    have h' := h
    obtain ⟨b, _, rfl⟩ := h'
    exact one_cells (P := fun x v => relA F.cx F.w0 ok ρ w x v) rfl rfl h
  | eptr k i z o =>
    simp only [cellsA, Option.some.injEq] at hc
    subst hc
    have h' := h
    obtain ⟨b, n, c, _, rfl⟩ := h'
    exact one_cells (P := fun x v => relA F.cx F.w0 ok ρ w x v) rfl rfl h
  | dp l =>
    simp only [cellsA, Option.some.injEq] at hc
    subst hc
    have h' := h
    obtain ⟨b, o, cs, rfl, _⟩ := h'
    exact one_cells (P := fun x v => relA F.cx F.w0 ok ρ w x v) rfl rfl h
  | st =>
    simp only [cellsA, Option.some.injEq] at hc
    subst hc
    have h' := h
    obtain ⟨b, _, rfl⟩ := h'
    exact one_cells (P := fun x v => relA F.cx F.w0 ok ρ w x v) rfl rfl h
  | fn f ks =>
    simp only [cellsA, Option.some.injEq] at hc
    subst hc
    have h' : v = _ := h
    exact one_cells (P := fun x v => relA F.cx F.w0 ok ρ w x v) (by rw [h']; rfl) (by rw [h']; rfl) h
  | fv sp =>
    simp only [cellsA, Option.some.injEq] at hc
    subst hc
    have h' : Callable _ _ _ _ := h
    obtain ⟨f, caps, hv, _⟩ := h'
    exact one_cells (P := fun x v => relA F.cx F.w0 ok ρ w x v) (by rw [hv]; rfl) (by rw [hv]; rfl) h
  | nil =>
    simp only [cellsA, Option.some.injEq] at hc
    subst hc
    have h' : v = _ := h
    exact one_cells (P := fun x v => relA F.cx F.w0 ok ρ w x v) (by rw [h']; rfl) (by rw [h']; rfl) h
  | lit e l =>
    simp only [cellsA, Option.some.injEq] at hc
    subst hc
    have h' := h
    obtain ⟨⟨A, hv⟩, _⟩ := h'
    exact one_cells (P := fun x v => relA F.cx F.w0 ok ρ w x v) (by rw [hv]; rfl) (by rw [hv]; rfl) h
  | _ => simp [cellsA] at hc

/-- The cells of a struct whose cell j is row k. -/
def ocells : List D → Nat → Nat → Nat → List AV
  | [], _, _, _ => []
  | x :: r, j, k, i => (if i = j then .own k else .dv (.d x)) :: ocells r j k (i + 1)
theorem ocells_length : ∀ (l : List D) (j k i : Nat), (ocells l j k i).length = l.length
  | [], _, _, _ => rfl
  | x :: r, j, k, i => by rw [ocells, List.length_cons, List.length_cons, ocells_length r]
theorem ocells_get : ∀ (l : List D) (j k i n : Nat) (y : AV), (ocells l j k i)[n]? = some y → (i + n = j ∧ y = .own k) ∨ (i + n ≠ j ∧ ∃ x, l[n]? = some x ∧ y = .dv (.d x))
  | [], _, _, _, n, y, h => by simp [ocells] at h
  | x :: r, j, k, i, 0, y, h => by
    simp only [ocells, List.getElem?_cons_zero, Option.some.injEq] at h
    split at h
    · rename_i e; exact .inl ⟨e, h.symm⟩
    · rename_i e; exact .inr ⟨e, x, rfl, h.symm⟩
  | x :: r, j, k, i, n + 1, y, h => by
    simp only [ocells, List.getElem?_cons_succ] at h
    rcases ocells_get r j k (i + 1) n y h with ⟨h1, h2⟩ | ⟨h1, h2⟩
    · exact .inl ⟨by omega, h2⟩
    · exact .inr ⟨by omega, h2⟩
/-- A cell of a struct that is told cell by cell. -/
def cellO (σ : St) : AV → Bool
  | .dv (.d _) => true
  | .nil => true
  | .own k => match σ.o k with
    | some (.arr _ _ _) => true
    | _ => false
  | _ => false
def cellsL (σ : St) : AV → Option (List AV)
  | .tnil => some []
  | .tcons x t => if cellO σ x = true then (match cellsL σ t with
    | some l => some (x :: l)
    | none => none) else none
  | _ => none
theorem cellO_rel (h : Rel1 F M ρ σ a w) {x : AV} {v : Value} (hc : cellO σ x = true) (hx : rel0 F.cx F.w0 (okM F M) ρ w x v) : v.oneCell' = true := by
  unfold cellO at hc
  split at hc
  · exact (Rd.one (show Rd _ _ _ _ from hx)).2
  · rw [show v = _ from hx]; rfl
  · rename_i k
    split at hc
    · rename_i e z l hk
      obtain ⟨cs, hown, _⟩ := h.ob k _ hk
      rw [show v = ρ k from hx]
      rcases hown.2 with ⟨h1, _⟩ | ⟨g, cap, cur, h1, _⟩
      · rw [h1]; rfl
      · rw [h1]; rfl
    · cases hc
  · cases hc
theorem cellsL_rel (h : Rel1 F M ρ σ a w) : ∀ {t : AV} {cs : List AV} {vs : List Value}, cellsL σ t = some cs → relT F.cx F.w0 (okM F M) ρ w t vs →
    cs.length = vs.length ∧ ∀ (j : Nat) (y : AV) (u : Value), cs[j]? = some y → vs[j]? = some u → u.oneCell' = true ∧ relA F.cx F.w0 (okM F M) ρ w y u
  | .tnil, cs, vs, hc, ht => by
    simp only [cellsL, Option.some.injEq] at hc
    subst hc
    rw [show vs = [] from ht]
    exact ⟨rfl, fun j y u hy => by simp at hy⟩
  | .tcons x t, cs, vs, hc, ht => by
    obtain ⟨v, r, rfl, h1, h2⟩ := ht
    unfold cellsL at hc
    split at hc
    · rename_i ho
      split at hc
      · rename_i l hl
        simp only [Option.some.injEq] at hc
        subst hc
        obtain ⟨h3, h4⟩ := cellsL_rel h hl h2
        refine ⟨by rw [List.length_cons, List.length_cons, h3], fun j y u hy hu => ?_⟩
        cases j with
        | zero =>
          simp only [List.getElem?_cons_zero, Option.some.injEq] at hy hu
          subst hy
          subst hu
          exact ⟨cellO_rel h ho h1, relA_of0 h1⟩
        | succ j => exact h4 j y u (by simpa using hy) (by simpa using hu)
      · cases hc
    · cases hc
def cellsS (σ : St) : AV → Option (List AV)
  | .own k => match σ.o k with
    | some (.arr _ _ _) => some [.own k]
    | _ => none
  | .ago l j k => match σ.o k with
    | some (.arr _ _ _) => some (ocells l j k 0)
    | _ => none
  | .agv t => cellsL σ t
  | x => cellsA x
theorem cellsS_rel (h : Rel1 F M ρ σ a w) {x : AV} {cs : List AV} {v : Value} (hc : cellsS σ x = some cs) (hx : relA F.cx F.w0 (okM F M) ρ w x v) :
    cs.length = v.cells.size ∧ ∀ (j : Nat) (y : AV) (u : Value), cs[j]? = some y → v.cells[j]? = some u → u.oneCell' = true ∧ relA F.cx F.w0 (okM F M) ρ w y u := by
  cases x with
  | own k =>
    simp only [cellsS] at hc
    split at hc
    · rename_i e z l hk
      simp only [Option.some.injEq] at hc
      subst hc
      obtain ⟨cs, hown, _⟩ := h.ob k _ hk
      have hv : v = ρ k := hx
      have hf : ∃ A n c, v = .slice A n c := by
        rcases hown.2 with ⟨h1, _⟩ | ⟨g, cap, cur, h1, _⟩
        · exact ⟨none, 0, 0, by rw [hv, h1]⟩
        · exact ⟨_, _, cap, by rw [hv, h1]⟩
      obtain ⟨A, n, c, rfl⟩ := hf
      exact one_cells (P := fun x v => relA F.cx F.w0 (okM F M) ρ w x v) rfl rfl hx
    · cases hc
  | ago l j k =>
    simp only [cellsS] at hc
    split at hc
    · rename_i e z m hk
      simp only [Option.some.injEq] at hc
      subst hc
      obtain ⟨ds, hown, _⟩ := h.ob k _ hk
      have hf : (ρ k).oneCell' = true := by
        rcases hown.2 with ⟨h1, _⟩ | ⟨g, cap, cur, h1, _⟩
        · rw [h1]; rfl
        · rw [h1]; rfl
      obtain ⟨vs, rfl, h2, h3, h4⟩ := hx
      refine ⟨by rw [ocells_length, h2]; simp [Value.cells], fun i y u hy hu => ?_⟩
      have hu' : vs[i]? = some u := by simpa [Value.cells] using hu
      rcases ocells_get l j k 0 i y hy with ⟨e1, rfl⟩ | ⟨e1, x, hx, rfl⟩
      · rw [Nat.zero_add] at e1
        subst e1
        have := h3 u hu'
        exact ⟨by rw [this]; exact hf, this⟩
      · rw [Nat.zero_add] at e1
        have hr := h4 i x u e1 hx hu'
        exact ⟨hr.one.2, hr⟩
    · cases hc
  | agv t =>
    obtain ⟨vs, rfl, ht⟩ := hx
    obtain ⟨h1, h2⟩ := cellsL_rel h (show cellsL σ t = some cs from hc) ht
    exact ⟨by rw [h1]; simp [Value.cells], fun j y u hy hu => h2 j y u hy (by simpa [Value.cells] using hu)⟩
  | _ => exact cellsA_rel (by simpa only [cellsS] using hc) hx
end
end Go.Avc

namespace Go.Avc
open Go

/-- A type's zero value, as cells of a variable. -/
def TzeroA (P : Program) (t : TypeId) : Option (List AV) := match P.info? t with
  | some i => match i.zero with
    | some z => some (z.cells.toList.map cv)
    | none => none
  | none => none
def hasUn : List AV → Bool
  | [] => false
  | .un :: _ => true
  | _ :: r => hasUn r

def exBox (cx : Cx) (σ : St) (T : TypeId) (x : Operand) (d : Option Tmp) (K : St → Prop) : Prop := match d, cellsS σ (ev0 cx σ x) with
  | some d, some cs => K (σ.newOb d d (.ptr d 0) (.box T (cs.map (purgeA d))))
  | _, _ => False
def exAlloc (cx : Cx) (σ : St) (T : TypeId) (d : Option Tmp) (K : St → Prop) : Prop := match d, TzeroA cx.P T with
  | some d, some cs => hasUn cs = false ∧ K (σ.newOb d d (.ptr d 0) (.box T cs))
  | _, _ => False
def exMake (cx : Cx) (σ : St) (t : TypeId) (n m : Operand) (d : Option Tmp) (K : St → Prop) : Prop := match d, cx.P.underlying t, ev cx σ n, ev cx σ m with
  | some d, some (.slice e), .dv (.d (.int _ n)), .dv (.d (.int _ m)) => match Tone cx.P e with
    | some (x, bytes) => n = m ∧ 0 ≤ n ∧ n ≤ 9223372036854775807 ∧ bytes * n.toNat ≤ 281474976710656 ∧ K (σ.newOb d d (.own d) (.arr e 1 (List.replicate n.toNat [x])))
    | none => False
  | _, _, _, _ => False
def exStore (cx : Cx) (σ : St) (t : TypeId) (p x : Operand) (d : Option Tmp) (K : St → Prop) : Prop := match d, ev0 cx σ p with
  | none, .ptr k o => match σ.o k, cellsS σ (ev0 cx σ x) with
    | some (.box T cs), some ys => ys.length = cx.P.cellsOf t ∧ cx.P.cellsOf t ≠ 0 ∧ o + ys.length ≤ cs.length ∧ K { σ with o := upd σ.o k (some (.box T (spl cs o ys))) }
    | _, _ => False
  | none, .eptr k i z o => match σ.o k, ev cx σ x with
    | some (.arr e z' l), .dv y => y.cells.length = cx.P.cellsOf t ∧ cx.P.cellsOf t ≠ 0 ∧ z = z' ∧ i < l.length ∧ o + y.cells.length ≤ z ∧ K { σ with o := upd σ.o k (some (.arr e z' (l.set i (spl (l.getD i (zRow cx.P e)) o y.cells)))) }
    | _, _ => False
  | _, _ => False
/-- append: to a nil slice, to one of the call's own, to one written out. -/
def exAppend (cx : Cx) (σ : St) (t u : TypeId) (s x : Operand) (d : Option Tmp) (K : St → Prop) : Prop := match d, cx.P.underlying t with
  | some d, some (.slice e) => match (match cx.P.underlying u, toD σ (ev cx σ x) with
      | some (.slice _), .dv (.d (.sl ys)) => if t = u then some ys else none
      | _, _ => none) with
    | some ys => cx.P.cellsOf e ≠ 0 ∧ (match Tzero cx.P e with | some zl => zl.length = cx.P.cellsOf e | none => False) ∧ (∀ y ∈ ys, y.length = cx.P.cellsOf e) ∧ (match ev0 cx σ s with
      | .nil => ys.length * cx.P.bytesOf e ≤ 140737488355328 ∧ ys.length ≤ 9223372036854775807 ∧ K (σ.newOb d d (.own d) (.arr e (cx.P.cellsOf e) ys))
      | .own k => match σ.o k with
        | some (.arr e' z l) => e' = e ∧ z = cx.P.cellsOf e ∧ (l.length + ys.length) * cx.P.bytesOf e ≤ 140737488355328 ∧ l.length + ys.length ≤ 9223372036854775807 ∧ K (σ.newOb k d (.own k) (.arr e z (l ++ ys)))
        | _ => False
      | .lit _ l => ys ≠ [] ∧ (∀ y ∈ l, y.length = cx.P.cellsOf e) ∧ (l.length + ys.length) * cx.P.bytesOf e ≤ 140737488355328 ∧ l.length + ys.length ≤ 9223372036854775807 ∧ K (σ.newOb d d (.own d) (.arr e (cx.P.cellsOf e) (l ++ ys)))
      | _ => False)
    | none => False
  | _, _ => False

/-- A string's bytes as rows of one cell. -/
def strRows (b : ByteArray) : List (List D) := b.data.toList.map fun c => [D.int .u8 (c.toNat : Int)]
theorem strRows_length (b : ByteArray) : (strRows b).length = b.size := by
  rw [strRows, List.length_map, Array.length_toList]; rfl

def exAppS (cx : Cx) (σ : St) (t : TypeId) (s x : Operand) (d : Option Tmp) (K : St → Prop) : Prop := match d, cx.P.underlying t, ev cx σ x with
  | some d, some (.slice e), .dv (.d (.str b)) => Tone cx.P e = some (.int .u8 0, 1) ∧ (match ev0 cx σ s with
      | .nil => b.size ≤ 140737488355328 ∧ K (σ.newOb d d (.own d) (.arr e 1 (strRows b)))
      | .own k => match σ.o k with
        | some (.arr e' z l) => e' = e ∧ z = 1 ∧ l.length + b.size ≤ 140737488355328 ∧ K (σ.newOb k d (.own k) (.arr e 1 (l ++ strRows b)))
        | _ => False
      | .lit _ l => b.size ≠ 0 ∧ (∀ y ∈ l, y.length = 1) ∧ l.length + b.size ≤ 140737488355328 ∧ K (σ.newOb d d (.own d) (.arr e 1 (l ++ strRows b)))
      | _ => False)
  | _, _, _ => False

def isS : Op → Bool
  | .box _ _ => true
  | .alloc _ => true
  | .makeSlice _ _ _ => true
  | .makeMap _ none => true
  | .mapUpdate _ _ _ _ => true
  | .insert _ _ _ _ => true
  | .store _ _ _ => true
  | .call c => match c.callee with
    | .builtin .append => true
    | .value (.func f) => bF f || oF f
    | _ => false
  | _ => false

section
variable {F : Fr} {M : Nat → Prop} {ρ : Nat → Value} {σ : St} {a : Act} {w : World} {E : Env} {ok : Nat → Prop}

/-- A new block b of the call's own holds object d. -/
theorem Rel1.fresh (hF : F.Wf) (h : Rel1 F M ρ σ a w) {w' : World} {d dst : Nat} (hd : dst < F.n) {v : Value} {ob : Ob} {r : AV} (hg : Gr none w w') (hv : ∀ b, blkOf v = some b → w.heap.size ≤ b ∧ b < w'.heap.size)
    (hob : Rel1 F M (upd ρ d v) (σ.del d) a w → ObR F (fun b => M b ∨ blkOf v = some b) (upd ρ d v) w' ob v) (hr : r = .own d ∨ (r = .ptr d 0 ∧ ∃ b, v = .pointer (some ⟨b, 0, none⟩))) : Rel F (σ.newOb d dst r ob) (a.put (some dst) v) w' := by
  have h1 : Rel1 F M (upd ρ d v) (σ.del d) a w := h.del fun k hk => by rw [upd_apply, if_neg hk]
  have hdv : upd ρ d v d = v := by rw [upd_apply, if_pos rfl]
  have h2 := h1.repl hF d (B0 := none) (ob := ob) (fun b hb => by cases hb) hg.os hg.tape hg.output hg.size (fun b hb _ => hg.block b hb (by simp)) (fun b hb => by rw [hdv] at hb; exact ⟨.inr (hv b hb).1, (hv b hb).2⟩) (by rw [hdv]; exact hob h1)
  refine ⟨_, _, h2.put (dst := some dst) (r := r) (v := v) (fun e he => by cases he; exact hd) ?_⟩
  rcases hr with rfl | ⟨rfl, b, rfl⟩
  · exact hdv.symm
  · exact ⟨b, hdv, rfl⟩

/-- The same where the slot holds a struct that has the row in one of its cells. -/
theorem Rel1.freshZ (hF : F.Wf) (h : Rel1 F M ρ σ a w) {w' : World} {d dst : Nat} (hd : dst < F.n) {v y : Value} {ob : Ob} {r : AV} (hg : Gr none w w') (hv : ∀ b, blkOf v = some b → w.heap.size ≤ b ∧ b < w'.heap.size)
    (hob : Rel1 F M (upd ρ d v) (σ.del d) a w → ObR F (fun b => M b ∨ blkOf v = some b) (upd ρ d v) w' ob v) (hr : ∀ (ρ2 : Nat → Value) (M2 : Nat → Prop), ρ2 d = v → relA F.cx F.w0 (okM F M2) ρ2 w' r y) : Rel F (σ.newOb d dst r ob) (a.put (some dst) y) w' := by
  have h1 : Rel1 F M (upd ρ d v) (σ.del d) a w := h.del fun k hk => by rw [upd_apply, if_neg hk]
  have hdv : upd ρ d v d = v := by rw [upd_apply, if_pos rfl]
  have h2 := h1.repl hF d (B0 := none) (ob := ob) (fun b hb => by cases hb) hg.os hg.tape hg.output hg.size (fun b hb _ => hg.block b hb (by simp)) (fun b hb => by rw [hdv] at hb; exact ⟨.inr (hv b hb).1, (hv b hb).2⟩) (by rw [hdv]; exact hob h1)
  exact ⟨_, _, h2.put (dst := some dst) (r := r) (v := y) (fun e he => by cases he; exact hd) (hr _ _ hdv)⟩
theorem alloc_gr (w : World) (o : Obj) : Gr none w (w.alloc o) := Gr.alloc none w o
theorem alloc_size (w : World) (o : Obj) : w.heap.size < (w.alloc o).heap.size := by show _ < (w.heap.push _).size; simp

theorem box_ob (hF : F.Wf) (h : Rel1 F M ρ σ a w) {T : TypeId} {cs : List AV} {vs : Array Value} (hl : cs.length = vs.size)
    (hc : ∀ (j : Nat) (y : AV) (u : Value), cs[j]? = some y → vs[j]? = some u → u.oneCell' = true ∧ relA F.cx F.w0 (okM F M) ρ w y u) :
    ObR F (fun b => M b ∨ blkOf (.pointer (some ⟨w.heap.size, 0, none⟩)) = some b) ρ (w.alloc (.cells vs T)) (.box T cs) (.pointer (some ⟨w.heap.size, 0, none⟩)) := by
  refine ⟨w.heap.size, vs, rfl, .inr rfl, heap_alloc_new w _, hl, fun j y u hy hu => ⟨(hc j y u hy hu).1, (hc j y u hy hu).2.mono (Gr.refl _ _) (Nat.le_of_lt (alloc_size w _)) (fun b hb hlt => ⟨hb.1, fun e => ?_⟩) (fun b hb hlt => (alloc_gr w _).block b hlt (by simp))⟩⟩
  rcases e with e | e
  · exact hb.2 e
  · simp only [blkOf, Option.some.injEq] at e; omega

theorem exBox_sound (hF : F.Wf) (h : Rel1 F M ρ σ a w) {o : Oper} {T : TypeId} {x : Operand} (ho : o.op = .box T x) (hn : ∀ d, o.dst = some d → d < F.n) {K : St → Prop} (hx : exBox F.cx σ T x o.dst K)
    {K' : Act → World → Prop} {Q : Exit → Act → World → Prop} (hK : ∀ σ' a' w', Rel F σ' a' w' → K σ' → K' a' w') : Oper.wp F.cx.P o a w K' Q := by
  unfold exBox at hx
  split at hx
  · rename_i d cs hd hcs
    obtain ⟨h1, h2⟩ := cellsS_rel h hcs (ev0_rel hF h x)
    have hrun : (execOp a.eval o).run F.cx.P w = .ok (.value (.pointer (some ⟨w.heap.size, 0, none⟩))) (w.alloc (.cells (a.eval x).cells T)) := by
      simp only [execOp, ho, Instr.box, newVar, newRow, Sem.run_bind, run_newObj, Sem.run_pure, Result.andThen_ok]
      rfl
    unfold Oper.wp
    rw [hrun, Oper.upon_value, hd]
    refine hK _ _ _ (h.fresh hF (hn d hd) (alloc_gr w _) (fun b hb => ?_) (fun h' => ?_) (.inr ⟨rfl, _, rfl⟩)) hx
    · simp only [blkOf, Option.some.injEq] at hb
      subst hb
      exact ⟨Nat.le_refl _, alloc_size w _⟩
    · refine box_ob hF h' (by rw [List.length_map]; exact h1) (fun j y u hy hu => ?_)
      rw [List.getElem?_map, Option.map_eq_some_iff] at hy
      obtain ⟨z, hz, rfl⟩ := hy
      exact ⟨(h2 j z u hz hu).1, relA_del (h2 j z u hz hu).2 (fun k hk => by rw [upd_apply, if_neg hk])⟩
  · exact hx.elim

theorem exAlloc_sound (hF : F.Wf) (h : Rel1 F M ρ σ a w) {o : Oper} {T : TypeId} (ho : o.op = .alloc T) (hn : ∀ d, o.dst = some d → d < F.n) {K : St → Prop} (hx : exAlloc F.cx σ T o.dst K)
    {K' : Act → World → Prop} {Q : Exit → Act → World → Prop} (hK : ∀ σ' a' w', Rel F σ' a' w' → K σ' → K' a' w') : Oper.wp F.cx.P o a w K' Q := by
  unfold exAlloc at hx
  split at hx
  · rename_i d cs hd hcs
    obtain ⟨hun, hx⟩ := hx
    unfold TzeroA at hcs
    split at hcs
    · rename_i i hi
      split at hcs
      · rename_i z hz
        simp only [Option.some.injEq] at hcs
        subst hcs
        have hrun : (execOp a.eval o).run F.cx.P w = .ok (.value (.pointer (some ⟨w.heap.size, 0, none⟩))) (w.alloc (.cells z.cells T)) := by
          simp only [execOp, ho, Instr.alloc, zeroValue, run_typeInfo w hi, hz, newVar, newRow, Sem.run_bind, run_newObj, Sem.run_pure, Result.andThen_ok]
          rfl
        unfold Oper.wp
        rw [hrun, Oper.upon_value, hd]
        refine hK _ _ _ (h.fresh hF (hn d hd) (alloc_gr w _) (fun b hb => ?_) (fun h' => ?_) (.inr ⟨rfl, _, rfl⟩)) hx
        · simp only [blkOf, Option.some.injEq] at hb
          subst hb
          exact ⟨Nat.le_refl _, alloc_size w _⟩
        · refine box_ob hF h' (by simp) (fun j y u hy hu => ?_)
          rw [List.getElem?_map, Option.map_eq_some_iff] at hy
          obtain ⟨v, hv, rfl⟩ := hy
          rw [Array.getElem?_toList] at hv
          rw [hv] at hu
          obtain rfl : v = u := Option.some.inj hu
          refine ⟨?_, cv_rel v⟩
          have hne : ∀ l : List Value, hasUn (l.map cv) = false → ∀ v ∈ l, cv v ≠ .un := by
            intro l
            induction l with
            | nil => intro _ v hv; cases hv
            | cons x r ih =>
              intro h v hv
              rw [List.map_cons] at h
              have hx : cv x ≠ .un := fun e => by rw [e] at h; simp [hasUn] at h
              have hr : hasUn (r.map cv) = false := by
                cases hc : cv x <;> rw [hc] at h <;> first | exact h | (simp [hasUn] at h)
              rcases List.mem_cons.1 hv with rfl | hv
              · exact hx
              · exact ih hr v hv
          have := hne _ hun v (List.mem_of_getElem? (by rw [Array.getElem?_toList]; exact hv))
          cases v <;> first | rfl | exact absurd rfl this
      · cases hcs
    · cases hcs
  · exact hx.elim

theorem exMake_sound (hF : F.Wf) (h : Rel1 F M ρ σ a w) {o : Oper} {t : TypeId} {n m : Operand} (ho : o.op = .makeSlice t n m) (hn : ∀ d, o.dst = some d → d < F.n) {K : St → Prop} (hx : exMake F.cx σ t n m o.dst K)
    {K' : Act → World → Prop} {Q : Exit → Act → World → Prop} (hK : ∀ σ' a' w', Rel F σ' a' w' → K σ' → K' a' w') : Oper.wp F.cx.P o a w K' Q := by
  unfold exMake at hx
  split at hx
  · rename_i d e k1 n1 k2 n2 hd hu e1 e2
    split at hx
    · rename_i x bytes hone
      obtain ⟨rfl, h0, h63, hb, hx⟩ := hx
      have hrn := ev_rel hF h n
      have hrm := ev_rel hF h m
      rw [e1] at hrn
      rw [e2] at hrm
      obtain ⟨vn, en⟩ : ∃ v, a.eval n = v := ⟨_, rfl⟩
      obtain ⟨vm, em⟩ : ∃ v, a.eval m = v := ⟨_, rfl⟩
      rw [en] at hrn
      rw [em] at hrm
      cases (show Rd _ _ (.int k1 n1) vn from hrn)
      cases (show Rd _ _ (.int k2 n1) vm from hrm)
      unfold Tone at hone
      split at hone
      · rename_i i hi
        split at hone
        · rename_i z hz
          split at hone
          · rename_i hs
            split at hone
            · rename_i x' hx'
              simp only [Option.some.injEq, Prod.mk.injEq] at hone
              obtain ⟨rfl, rfl⟩ := hone
              obtain ⟨q, rfl⟩ := Int.eq_ofNat_of_zero_le h0
              simp only [Int.toNat_natCast] at hb hx
              have hzr : Rd (fun _ => True) w x' z := by
                have := cvD_rd (ok := fun _ => True) (w := w) (cs := [z]) (l := [x']) (by simp [hx'])
                exact this.2 0 _ _ rfl rfl
              have hmk := run_make_row t e i z hu hi hz hs hzr.one.1 k1 k2 q hb (by omega) w
              have hrun : (execOp a.eval o).run F.cx.P w = .ok (.value (.slice (some ⟨w.heap.size, 0, none⟩) q q)) (w.alloc (.cells (madeCells #[z] q) e)) := by
                simp only [execOp, ho, en, em, Sem.run_bind, hmk, Result.andThen_ok, Sem.run_pure]
              have hz1 : z.oneCell' = true := hzr.one.2
              unfold Oper.wp
              rw [hrun, Oper.upon_value, hd]
              refine hK _ _ _ (h.fresh hF (hn d hd) (alloc_gr w _) (fun b hb => ?_) (fun h' => ?_) (.inl rfl)) hx
              · simp only [blkOf, Option.some.injEq] at hb
                subst hb
                exact ⟨Nat.le_refl _, alloc_size w _⟩
              · have hml : (madeCells #[z] q).toList = List.replicate q z := by
                  apply List.ext_getElem
                  · simp [madeCells]
                  · intro i h1 h2
                    simp [madeCells, Nat.mod_one]
                refine ⟨List.replicate q z, ⟨by simp, .inr ⟨w.heap.size, q, madeCells #[z] q, by simp, h.gr.size, heap_alloc_new w _, by simp, by simp only [maxLen]; omega, by simp [madeCells], by rw [hml]; simp⟩⟩, fun b hb => .inr (by simpa [Value.ownBlock, blkOf] using hb), fun i y hy => ?_, ?_⟩
                · rw [List.getElem?_replicate] at hy
                  split at hy
                  · cases hy; rfl
                  · cases hy
                · refine ⟨by simp, fun j y u hy hu => ?_⟩
                  have hflat : (List.replicate q [x']).flatten = List.replicate q x' := by
                    induction q with
                    | zero => rfl
                    | succ q ih => simp [List.replicate_succ]
                  rw [hflat, List.getElem?_replicate] at hy
                  rw [List.getElem?_replicate] at hu
                  split at hy
                  · rename_i hj
                    rw [if_pos hj] at hu
                    cases hy
                    cases hu
                    have := cvD_rd (ok := okM F (fun b => M b ∨ blkOf (Value.slice (some ⟨w.heap.size, 0, none⟩) q q) = some b)) (w := w.alloc (.cells (madeCells #[z] q) e)) (cs := [z]) (l := [x']) (by simp [hx'])
                    exact this.2 0 _ _ rfl rfl
                  · cases hy
            · cases hone
          · cases hone
        · cases hone
      · cases hone
    · exact hx.elim
  · exact hx.elim
end
end Go.Avc

namespace Go.Avc
open Go

theorem spl_pair {α β : Type} {P : α → β → Prop} {l x : List α} {m y : List β} {o : Nat} (hl : l.length = m.length) (hx : x.length = y.length) (h1 : ∀ (j : Nat) (a : α) (b : β), l[j]? = some a → m[j]? = some b → P a b)
    (h2 : ∀ (j : Nat) (a : α) (b : β), x[j]? = some a → y[j]? = some b → P a b) (j : Nat) (a : α) (b : β) (ha : (spl l o x)[j]? = some a) (hb : (spl m o y)[j]? = some b) : P a b := by
  unfold spl at ha hb
  rw [List.append_assoc] at ha hb
  by_cases c1 : j < (l.take o).length
  · rw [List.getElem?_append_left c1, List.getElem?_take] at ha
    rw [List.getElem?_append_left (by rw [List.length_take] at c1 ⊢; omega), List.getElem?_take] at hb
    split at ha
    · rename_i c
      rw [if_pos c] at hb
      exact h1 j a b ha hb
    · cases ha
  · have c1' : ¬ j < (m.take o).length := by rw [List.length_take] at c1 ⊢; omega
    have e1 : (m.take o).length = (l.take o).length := by rw [List.length_take, List.length_take]; omega
    rw [List.getElem?_append_right (by omega)] at ha hb
    rw [e1] at hb
    by_cases c2 : j - (l.take o).length < x.length
    · rw [List.getElem?_append_left c2] at ha
      rw [List.getElem?_append_left (by omega)] at hb
      exact h2 _ a b ha hb
    · rw [List.getElem?_append_right (by omega), List.getElem?_drop] at ha
      rw [List.getElem?_append_right (by omega), List.getElem?_drop, ← hx] at hb
      exact h1 _ a b ha hb

theorem spl_length {α : Type} {l x : List α} {o : Nat} (h : o + x.length ≤ l.length) : (spl l o x).length = l.length := by
  unfold spl
  simp only [List.length_append, List.length_take, List.length_drop]
  omega

theorem flatten_set {z : Nat} {d : List D} : ∀ {l : List (List D)} {i : Nat} {o : Nat} {x : List D}, (∀ (i : Nat) (y : List D), l[i]? = some y → y.length = z) → i < l.length → o + x.length ≤ z →
    (l.set i (spl (l.getD i d) o x)).flatten = spl l.flatten (i * z + o) x
  | y :: r, 0, o, x, hz, hi, ho => by
    have hy : y.length = z := hz 0 y rfl
    simp only [List.set_cons_zero, List.getD_cons_zero, List.flatten_cons, Nat.zero_mul, Nat.zero_add, spl]
    rw [List.take_append_of_le_length (by omega), List.drop_append_of_le_length (by omega)]
    simp only [List.append_assoc]
  | y :: r, i + 1, o, x, hz, hi, ho => by
    have hy : y.length = z := hz 0 y rfl
    have ih := flatten_set (d := d) (l := r) (i := i) (o := o) (x := x) (fun j w h => hz (j + 1) w (by simpa using h)) (by simpa using hi) ho
    simp only [List.set_cons_succ, List.getD_cons_succ, List.flatten_cons, ih]
    unfold spl
    have e1 : (i + 1) * z + o = y.length + (i * z + o) := by rw [Nat.succ_mul, hy]; omega
    rw [e1, List.take_length_add_append, Nat.add_assoc y.length, List.drop_length_add_append]
    simp only [List.append_assoc]

section
variable {F : Fr} {M : Nat → Prop} {ρ : Nat → Value} {σ : St} {a : Act} {w : World} {E : Env} {ok : Nat → Prop}

theorem store_run {P : Program} {t : TypeId} {b o : Nat} {v : Value} {T : TypeId} {cur : Array Value} (hh : w.heap[b]? = some (.cells cur T (0, 0))) (hs : v.cells.size = P.cellsOf t) (h0 : P.cellsOf t ≠ 0) (hfit : o + v.cells.size ≤ cur.size)
    (h1 : ∀ u ∈ v.cells.toList, u.oneCell' = true) : (Instr.storeAt t (.pointer (some ⟨b, o, none⟩)) v).run P w = .ok () (w.setRow b (spl cur.toList o v.cells.toList).toArray) := by
  have hst := run_storeCells_at P b o T v.cells.toList 0 cur w hh (by rw [Array.length_toList]; omega) h1
  simp only [Nat.add_zero] at hst
  simp only [Instr.storeAt, Instr.sureAddr, storeVar, Sem.run_bind, Sem.run_pure, Result.andThen_ok, size_run h0, hs, ne_eq, not_true_eq_false, if_false, spl]
  exact hst

theorem exStore_sound (hF : F.Wf) (h : Rel1 F M ρ σ a w) {o : Oper} {t : TypeId} {p x : Operand} (ho : o.op = .store t p x) {K : St → Prop} (hx : exStore F.cx σ t p x o.dst K)
    {K' : Act → World → Prop} {Q : Exit → Act → World → Prop} (hK : ∀ σ' a' w', Rel F σ' a' w' → K σ' → K' a' w') : Oper.wp F.cx.P o a w K' Q := by
  unfold exStore at hx
  have hp := ev0_rel hF h p
  split at hx
  · rename_i k off hd e1
    rw [e1] at hp
    split at hx
    · rename_i T cs ys hk hys
      obtain ⟨hl, h0, hfit, hx⟩ := hx
      obtain ⟨h1, h2⟩ := cellsS_rel h hys (ev0_rel hF h x)
      obtain ⟨b, hρ, hpv⟩ := hp
      obtain ⟨b', vs, h3, h4, h5, h6, h7⟩ := h.ob k _ hk
      rw [hρ] at h3
      simp only [Value.pointer.injEq, Option.some.injEq, Addr.mk.injEq, and_true] at h3
      subst h3
      have hrun : (execOp a.eval o).run F.cx.P w = .ok .skip (w.setRow b (spl vs.toList off (a.eval x).cells.toList).toArray) := by
        have := store_run (P := F.cx.P) (t := t) (o := off) h5 (v := a.eval x) (by omega) h0 (by omega) (fun u hu => by
          obtain ⟨j, hj, rfl⟩ := List.mem_iff_getElem.1 hu
          rw [Array.length_toList] at hj
          exact (h2 j (ys[j]'(by omega)) _ (List.getElem?_eq_getElem _) (by simp)).1)
        simp only [execOp, ho, hpv, Sem.run_bind, this, Result.andThen_ok, Sem.run_pure]
      unfold Oper.wp
      rw [hrun, Oper.upon_skip, hd]
      have hbk : blkOf (ρ k) = some b := by rw [hρ]; rfl
      have hblt := (h.mb b h4).2
      have hrep := h.repl hF k (B0 := some b) (ob := .box T (spl cs off ys)) (w' := w.setRow b (spl vs.toList off (a.eval x).cells.toList).toArray)
        (fun c hc => by cases hc; exact ⟨h4, fun k' o' hk' hne => h.ne k k' _ o' hk hk' (Ne.symm hne) b hbk⟩) rfl rfl rfl (by simp) (fun c hc hne => setRow_other w b c _ (fun e => hne (by rw [e])))
        (fun c hc => by rw [hbk] at hc; exact ⟨.inl hc, by cases hc; simpa using hblt⟩)
        ⟨b, _, hρ, .inl h4, setRow_heap w b vs _ T _ h5, by rw [List.size_toArray, spl_length hfit, spl_length (by simp; omega), h6]; simp, fun j y u hy hu => by
          rw [List.getElem?_toArray] at hu
          refine spl_pair (P := fun y u => u.oneCell' = true ∧ relA F.cx F.w0 (okM F fun c => M c ∨ blkOf (ρ k) = some c) ρ (w.setRow b (spl vs.toList off (a.eval x).cells.toList).toArray) y u) (by simp [h6]) (by simp [h1]) ?_ ?_ j y u hy hu
          · intro j y u hy hu
            rw [Array.getElem?_toList] at hu
            exact ⟨(h7 j y u hy hu).1, (h7 j y u hy hu).2.mono (Gr.refl _ _) (by simp) (fun c hc hlt => ⟨hc.1, fun e => hc.2 (by rcases e with e | e; exact e; rw [hbk] at e; cases e; exact h4)⟩) (fun c hc hlt => setRow_other w b c _ (fun e => hc.2 (e ▸ h4)))⟩
          · intro j y u hy hu
            rw [Array.getElem?_toList] at hu
            exact ⟨(h2 j y u hy hu).1, (h2 j y u hy hu).2.mono (Gr.refl _ _) (by simp) (fun c hc hlt => ⟨hc.1, fun e => hc.2 (by rcases e with e | e; exact e; rw [hbk] at e; cases e; exact h4)⟩) (fun c hc hlt => setRow_other w b c _ (fun e => hc.2 (e ▸ h4)))⟩⟩
      exact hK _ _ _ ⟨_, _, hrep⟩ hx
    · exact hx.elim
  · rename_i k i z off hd e1
    rw [e1] at hp
    split at hx
    · rename_i e z' l y hk hy
      obtain ⟨hl, h0, rfl, hi, hfit, hx⟩ := hx
      have hyr := ev_rel hF h x
      rw [hy] at hyr
      have hyc := RdV.cells (show RdV _ _ y _ from hyr)
      obtain ⟨b, n, c, hρ, hpv⟩ := hp
      obtain ⟨cs, hown, hM, hz, hR⟩ := h.ob k _ hk
      rcases hown.2 with ⟨h3, h4⟩ | ⟨g, cap, cur, h3, h4, h5, h6, h7, h8, h9⟩
      · omega
      · rw [hρ] at h3
        simp only [Value.slice.injEq, Option.some.injEq, Addr.mk.injEq, and_true] at h3
        obtain ⟨rfl, rfl, rfl⟩ := h3
        have hMb := hM b (by rw [hρ]; rfl)
        have hvs : (a.eval x).cells.size = y.cells.length := (Array.length_toList (xs := (a.eval x).cells)).symm.trans hyc.1.symm
        have hmul : i * z + z ≤ l.length * z := by rw [← Nat.succ_mul]; exact Nat.mul_le_mul_right z hi
        have hmul2 : l.length * z ≤ c * z := Nat.mul_le_mul_right z h6
        have hrun : (execOp a.eval o).run F.cx.P w = .ok .skip (w.setRow b (spl cur.toList (i * z + off) (a.eval x).cells.toList).toArray) := by
          have := store_run (P := F.cx.P) (t := t) (o := i * z + off) h5 (v := a.eval x) (by omega) h0 (by omega) hyc.oneCell
          simp only [execOp, ho, hpv, Sem.run_bind, this, Result.andThen_ok, Sem.run_pure]
        unfold Oper.wp
        rw [hrun, Oper.upon_skip, hd]
        have hbk : blkOf (ρ k) = some b := by rw [hρ]; rfl
        have hblt := (h.mb b hMb).2
        have hcslen : cs.length = l.length * z := hown.1
        have hmono : ∀ {l' : List D} {cs' : List Value}, RdL (okM F M) w l' cs' → RdL (okM F fun c => M c ∨ blkOf (ρ k) = some c) (w.setRow b (spl cur.toList (i * z + off) (a.eval x).cells.toList).toArray) l' cs' := fun hr =>
          hr.mono (by simp) (fun c hc hlt => ⟨hc.1, fun e => hc.2 (by rcases e with e | e; exact e; rw [hbk] at e; cases e; exact hMb)⟩) (fun c hc hlt => setRow_other w b c _ (fun e => hc.2 (e ▸ hMb)))
        have hrep := h.repl hF k (B0 := some b) (ob := .arr e z (l.set i (spl (l.getD i (zRow F.cx.P e)) off y.cells))) (w' := w.setRow b (spl cur.toList (i * z + off) (a.eval x).cells.toList).toArray)
          (fun c hc => by cases hc; exact ⟨hMb, fun k' o' hk' hne => h.ne k k' _ o' hk hk' (Ne.symm hne) b hbk⟩) rfl rfl rfl (by simp) (fun c hc hne => setRow_other w b c _ (fun e => hne (by rw [e])))
          (fun c hc => by rw [hbk] at hc; exact ⟨.inl hc, by cases hc; simpa using hblt⟩)
          ⟨spl cs (i * z + off) (a.eval x).cells.toList, ⟨by rw [spl_length (by simp; omega), hcslen, List.length_set], .inr ⟨b, c, (spl cur.toList (i * z + off) (a.eval x).cells.toList).toArray, by rw [hρ, List.length_set], h4, setRow_heap w b cur _ e _ h5, by rw [List.length_set]; exact h6, h7, by rw [List.size_toArray, spl_length (by simp; omega)]; simpa using h8, by
            rw [List.length_set, ← h9]
            unfold spl
            simp only [List.take_take, List.drop_take, List.length_append, List.length_take]
            rw [Nat.min_eq_left (show i * z + off ≤ l.length * z by omega)]
            rw [List.take_append, List.take_append]
            have e1 : (List.take (i * z + off) cur.toList).length = i * z + off := by rw [List.length_take, Array.length_toList, h8]; omega
            rw [List.take_of_length_le (l := List.take (i * z + off) cur.toList) (by rw [e1]; omega), List.take_of_length_le (l := (a.eval x).cells.toList) (by rw [e1, Array.length_toList]; omega)]
            congr 2
            all_goals (rw [List.length_append, e1, Array.length_toList])⟩⟩, fun c hc => .inl (hM c hc), fun j r hj => by
              by_cases eij : i = j
              · subst eij
                rw [List.getElem?_set_self hi] at hj
                cases hj
                rw [spl_length (by rw [hz i _ (getD_some hi)]; exact hfit)]
                exact hz i _ (getD_some hi)
              · rw [List.getElem?_set_ne eij] at hj
                exact hz j r hj, by
              rw [flatten_set hz hi hfit]
              exact hmono (hR.spl hyc _)⟩
        exact hK _ _ _ ⟨_, _, hrep⟩ hx
    · exact hx.elim
  · exact hx.elim
end
end Go.Avc
