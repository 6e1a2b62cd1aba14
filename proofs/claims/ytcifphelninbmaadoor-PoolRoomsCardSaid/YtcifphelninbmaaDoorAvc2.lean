/- The calculus: abstract values, frames and objects, what they say of a frame and a world; contracts. No condition. -/
import Derived.Test.YtcifphelninbmaaDoorAvc1
set_option linter.unusedVariables false
set_option linter.unusedSimpArgs false
namespace Go.Avc
open Go

/-- What a function value does, over data. -/
structure FSpec where
  pre : List DV → Prop
  post : List DV → DV → Prop

inductive AV where
  | dv (x : DV)
  | own (k : Nat)
  | ptr (k off : Nat)
  | eptr (k i z off : Nat)
  | dp (l : List D)
  | st
  | fn (f : FuncId) (ks : List Nat)
  | fv (sp : FSpec)
  | nil
  | lit (l : List (List D))
  | sv (l : List (List D)) (A : Option Addr) (c : Nat)
  | agz (l : List D) (zs : List Nat)
  | tnil
  | tcons (a t : AV)
  | un

inductive Ob where
  | box (T : TypeId) (cs : List AV)
  | arr (e : TypeId) (z : Nat) (l : List (List D))
  | bld (T : TypeId) (k : Nat)

/-- Abstract frame: slots, objects, how often the stream was asked at most. -/
structure St where
  s : Nat → AV
  o : Nat → Option Ob
  c : Nat

def upd {α : Type} (s : Nat → α) (d : Nat) (r : α) : Nat → α := fun t => if t = d then r else s t
theorem upd_apply {α : Type} (s : Nat → α) (d t : Nat) (r : α) : upd s d r t = if t = d then r else s t := rfl
def St.put (σ : St) : Option Tmp → AV → St
  | some d, r => { σ with s := upd σ.s d r }
  | none, _ => σ

/-- f has a Go body. -/
def Enters (P : Program) (f : FuncId) : Prop := ∃ fn, P.funcs[f]? = some fn ∧ (fn.name == "runtime.NumGoroutine") = false ∧ fn.body.isNone = false

/-- N: how often the stream was asked at most when the function began; B: how often it may ask; n: its slots. -/
structure Fr where
  cx : Cx
  w0 : World
  ok : Nat → Prop
  N : Nat
  B : Nat
  n : Nat
  w1 : World
  ex : Nat → Prop

structure Fr.Wf (F : Fr) : Prop where
  ok : ∀ b, F.ok b → b < F.w0.heap.size ∧ F.cx.g ≠ some b
  gl : ∀ b, b < F.cx.ng → F.ok b
  g : ∀ b, F.cx.g = some b → b < F.w0.heap.size
  nb : F.N + F.B ≤ 4611686018427387904

/-- Called in a later world with data that meet pre, it returns a datum as post says. -/
def Callable (cx : Cx) (w0 : World) (sp : FSpec) (v : Value) : Prop := ∃ (f : FuncId) (caps : Array Value), v = .func (.func f) #[] caps ∧ Enters cx.P f ∧
  ∀ (w' : World) (N : Nat) (ok : Nat → Prop) (as : List DV) (vals : List Value), Gr cx.g w0 w' → StAt cx N w' → GlAt cx w' → N ≤ 4611686018427387904 → (∀ b, ok b → b < w'.heap.size ∧ cx.g ≠ some b) → (∀ b, b < cx.ng → ok b) →
    as.length = vals.length → (∀ (i : Nat) (a : DV) (u : Value), as[i]? = some a → vals[i]? = some u → RdV ok w' a u) → sp.pre as →
    Calls cx.P f (vals.toArray ++ caps) w' fun e w'' => ∃ v r, e = .returned v ∧ sp.post as r ∧ RdV (fun b => ok b ∨ w'.heap.size ≤ b) w'' r v ∧ Gr cx.g w' w'' ∧ StAt cx N w''

theorem Callable.later {cx : Cx} {w0 w1 : World} {sp : FSpec} {v : Value} (h : Callable cx w0 sp v) (hg : Gr cx.g w0 w1) : Callable cx w1 sp v := by
  obtain ⟨f, caps, hv, hen, hc⟩ := h
  exact ⟨f, caps, hv, hen, fun w' N ok as vals h1 => hc w' N ok as vals (hg.trans h1)⟩

def rel0 (cx : Cx) (w0 : World) (ok : Nat → Prop) (ρ : Nat → Value) (w : World) : AV → Value → Prop
  | .dv x, v => RdV ok w x v
  | .own k, v => v = ρ k
  | .ptr k off, v => ∃ b, ρ k = .pointer (some ⟨b, 0, none⟩) ∧ v = .pointer (some ⟨b, off, none⟩)
  | .eptr k i z off, v => ∃ b n c, ρ k = .slice (some ⟨b, 0, none⟩) n c ∧ v = .pointer (some ⟨b, i * z + off, none⟩)
  | .dp l, v => ∃ (b o : Nat) (cs : List Value), v = .pointer (some ⟨b, o, none⟩) ∧ ok b ∧ b < w.heap.size ∧ (∀ (j : Nat) (u : Value), cs[j]? = some u → w.cell? ⟨b, o + j, none⟩ = some u) ∧ RdL ok w l cs
  | .st, v => ∃ b, cx.g = some b ∧ v = .pointer (some ⟨b, 0, none⟩)
  | .fn f ks, v => v = .func (.func f) #[] (ks.map ρ).toArray
  | .fv sp, v => Callable cx w0 sp v
  | .nil, v => v = .slice none 0 0
  | .lit l, v => (∃ A, v = .slice A l.length l.length) ∧ Rd ok w (.sl l) v
  | .sv l A c, v => v = .slice A l.length c ∧ Rd ok w (.sl l) v
  | .agz l zs, v => RdV ok w (.ag l) v ∧ ∀ j ∈ zs, v.cells[j]? = some (.slice none 0 0)
  | .un, _ => True
  | _, _ => False

def relT (cx : Cx) (w0 : World) (ok : Nat → Prop) (ρ : Nat → Value) (w : World) : AV → List Value → Prop
  | .tnil, vs => vs = []
  | .tcons a t, vs => ∃ v r, vs = v :: r ∧ rel0 cx w0 ok ρ w a v ∧ relT cx w0 ok ρ w t r
  | _, _ => False

def relA (cx : Cx) (w0 : World) (ok : Nat → Prop) (ρ : Nat → Value) (w : World) : AV → Value → Prop
  | .tnil, v => v = .tuple #[]
  | .tcons a t, v => ∃ vs : List Value, v = .tuple vs.toArray ∧ relT cx w0 ok ρ w (.tcons a t) vs
  | a, v => rel0 cx w0 ok ρ w a v

def AV.tup : AV → Bool
  | .tnil | .tcons _ _ => true
  | _ => false
theorem relA_eq {cx : Cx} {w0 : World} {ok : Nat → Prop} {ρ : Nat → Value} {w : World} {a : AV} (h : a.tup = false) (v : Value) : relA cx w0 ok ρ w a v = rel0 cx w0 ok ρ w a v := by
  cases a <;> first | rfl | cases h
theorem relA_of0 {cx : Cx} {w0 : World} {ok : Nat → Prop} {ρ : Nat → Value} {w : World} {a : AV} {v : Value} (h : rel0 cx w0 ok ρ w a v) : relA cx w0 ok ρ w a v := by
  cases a <;> first | exact h | cases h

section
variable {cx : Cx} {w0 w1 : World} {ok ok' : Nat → Prop} {ρ : Nat → Value} {w w' : World}

theorem rel0.mono {a : AV} {v : Value} (h : rel0 cx w0 ok ρ w a v) (h1 : Gr cx.g w0 w1) (hs : w.heap.size ≤ w'.heap.size) (hk : ∀ b, ok b → b < w.heap.size → ok' b)
    (hw : ∀ b, ok b → b < w.heap.size → w'.heap[b]? = w.heap[b]?) : rel0 cx w1 ok' ρ w' a v := by
  cases a with
  | dv x => exact RdV.mono h hs hk hw
  | dp l =>
    obtain ⟨b, o, cs, hv, hb, hlt, hc, hl⟩ := h
    exact ⟨b, o, cs, hv, hk b hb hlt, by omega, fun j u hj => (cell_congr (hw b hb hlt)).trans (hc j u hj), hl.mono hs hk hw⟩
  | fv sp => exact Callable.later h h1
  | lit l => exact ⟨h.1, h.2.mono hs hk hw⟩
  | sv l A c => exact ⟨h.1, h.2.mono hs hk hw⟩
  | agz l zs => exact ⟨RdV.mono h.1 hs hk hw, h.2⟩
  | _ => exact h

theorem relT.mono : ∀ {a : AV} {vs : List Value}, relT cx w0 ok ρ w a vs → Gr cx.g w0 w1 → w.heap.size ≤ w'.heap.size → (∀ b, ok b → b < w.heap.size → ok' b) →
    (∀ b, ok b → b < w.heap.size → w'.heap[b]? = w.heap[b]?) → relT cx w1 ok' ρ w' a vs
  | .tnil, _, h, _, _, _, _ => h
  | .tcons _ _, _, h, h1, hs, hk, hw => by
    obtain ⟨v, r, hv, ha, ht⟩ := h
    exact ⟨v, r, hv, ha.mono h1 hs hk hw, relT.mono ht h1 hs hk hw⟩

theorem relA.mono {a : AV} {v : Value} (h : relA cx w0 ok ρ w a v) (h1 : Gr cx.g w0 w1) (hs : w.heap.size ≤ w'.heap.size) (hk : ∀ b, ok b → b < w.heap.size → ok' b)
    (hw : ∀ b, ok b → b < w.heap.size → w'.heap[b]? = w.heap[b]?) : relA cx w1 ok' ρ w' a v := by
  cases a with
  | tnil => exact h
  | tcons a t => obtain ⟨vs, hv, ht⟩ := h; exact ⟨vs, hv, ht.mono h1 hs hk hw⟩
  | dv x => exact rel0.mono (ρ := ρ) (a := .dv x) h h1 hs hk hw
  | dp l => exact rel0.mono (ρ := ρ) (a := .dp l) h h1 hs hk hw
  | fv sp => exact rel0.mono (ρ := ρ) (a := .fv sp) h h1 hs hk hw
  | lit l => exact rel0.mono (ρ := ρ) (a := .lit l) h h1 hs hk hw
  | sv l A c => exact rel0.mono (ρ := ρ) (a := .sv l A c) h h1 hs hk hw
  | agz l zs => exact rel0.mono (ρ := ρ) (a := .agz l zs) h h1 hs hk hw
  | _ => exact h
end

def okM (F : Fr) (M : Nat → Prop) (b : Nat) : Prop := (F.ok b ∨ F.w0.heap.size ≤ b) ∧ ¬ M b

def blkOf : Value → Option Nat
  | .slice (some a) _ _ => some a.block
  | .pointer (some a) => some a.block
  | _ => none

def ObR (F : Fr) (M : Nat → Prop) (ρ : Nat → Value) (w : World) : Ob → Value → Prop
  | .box T cs, v => ∃ (b : Nat) (vs : Array Value), v = .pointer (some ⟨b, 0, none⟩) ∧ M b ∧ w.heap[b]? = some (.cells vs T (0, 0)) ∧ cs.length = vs.size ∧
      ∀ (j : Nat) (a : AV) (u : Value), cs[j]? = some a → vs[j]? = some u → u.oneCell' = true ∧ relA F.cx F.w0 (okM F M) ρ w a u
  | .arr e z l, v => ∃ cs : List Value, w.ownsRow F.w0.heap.size e z v l.length cs ∧ (∀ b, v.ownBlock = some b → M b) ∧ (∀ (i : Nat) (x : List D), l[i]? = some x → x.length = z) ∧ RdL (okM F M) w l.flatten cs
  | .bld T k', v => ∃ (b : Nat) (p : Value), v = .pointer (some ⟨b, 0, none⟩) ∧ M b ∧ w.heap[b]? = some (.cells #[p, ρ k'] T (0, 0)) ∧ (p = .pointer none ∨ p = .pointer (some ⟨b, 0, none⟩)) ∧ (ρ k').oneCell' = true

/-- What was there when the walk began stays, but the blocks told. -/
def KxP (F : Fr) (M : Nat → Prop) (w : World) : Prop := F.w1.heap.size ≤ w.heap.size ∧ (∀ b, ¬ F.ex b → F.cx.g ≠ some b → b < F.w1.heap.size → w.heap[b]? = F.w1.heap[b]?) ∧ ∀ b, M b → F.ex b ∨ F.w1.heap.size ≤ b
theorem KxP.grow {F : Fr} {M : Nat → Prop} {w w' : World} (h : KxP F M w) (hg : Gr F.cx.g w w') : KxP F M w' :=
  ⟨Nat.le_trans h.1 hg.size, fun b hx hn hb => (hg.block b (Nat.lt_of_lt_of_le hb h.1) hn).trans (h.2.1 b hx hn hb), h.2.2⟩
theorem KxP.less {F : Fr} {M M' : Nat → Prop} {w : World} (h : KxP F M w) (hm : ∀ b, M' b → M b) : KxP F M' w := ⟨h.1, h.2.1, fun b hb => h.2.2 b (hm b hb)⟩

structure Rel1 (F : Fr) (M : Nat → Prop) (ρ : Nat → Value) (σ : St) (a : Act) (w : World) : Prop where
  gr : Gr F.cx.g F.w0 w
  st : StAt F.cx (F.N + σ.c) w
  gl : GlAt F.cx w
  mb : ∀ b, M b → F.w0.heap.size ≤ b ∧ b < w.heap.size
  sl : ∀ t, relA F.cx F.w0 (okM F M) ρ w (σ.s t) (a.tmps.getD t undef)
  ob : ∀ k o, σ.o k = some o → ObR F M ρ w o (ρ k)
  ne : ∀ k k' o o', σ.o k = some o → σ.o k' = some o' → k ≠ k' → ∀ b, blkOf (ρ k) = some b → blkOf (ρ k') ≠ some b
  df : a.defers = []
  nt : F.n ≤ a.tmps.size
  kx : KxP F M w

def Rel (F : Fr) (σ : St) (a : Act) (w : World) : Prop := ∃ M ρ, Rel1 F M ρ σ a w

theorem okM_lt {F : Fr} (hF : F.Wf) {M : Nat → Prop} {b : Nat} (h : okM F M b) (hb : b < F.w0.heap.size) : F.ok b := by
  rcases h.1 with h | h
  · exact h
  · omega

theorem okM_ne {F : Fr} (hF : F.Wf) {M : Nat → Prop} {b : Nat} (h : okM F M b) : F.cx.g ≠ some b := by
  rcases h.1 with h | h
  · exact (hF.ok b h).2
  · intro e
    have := hF.g b e
    omega

theorem M_ne {F : Fr} (hF : F.Wf) {b : Nat} (h : F.w0.heap.size ≤ b) : F.cx.g ≠ some b := by
  intro e
  have := hF.g b e
  omega

section
variable {F : Fr} {M : Nat → Prop} {ρ : Nat → Value} {σ : St} {a : Act} {w w' : World}

theorem ObR.grow (hF : F.Wf) {o : Ob} {v : Value} (h : ObR F M ρ w o v) (hm : ∀ b, M b → F.w0.heap.size ≤ b ∧ b < w.heap.size) (hg : Gr F.cx.g w w') : ObR F M ρ w' o v := by
  have hok : ∀ b, okM F M b → b < w.heap.size → w'.heap[b]? = w.heap[b]? := fun b hb hlt => hg.block b hlt (okM_ne hF hb)
  cases o with
  | box T cs =>
    obtain ⟨b, vs, hv, hb, hh, hl, hc⟩ := h
    exact ⟨b, vs, hv, hb, (hg.block b (hm b hb).2 (M_ne hF (hm b hb).1)).trans hh, hl, fun j x u hx hu => ⟨(hc j x u hx hu).1, (hc j x u hx hu).2.mono (Gr.refl _ _) hg.size (fun _ h _ => h) hok⟩⟩
  | bld T k' =>
    obtain ⟨b, p, hv, hb, hh, hp, h1⟩ := h
    exact ⟨b, p, hv, hb, (hg.block b (hm b hb).2 (M_ne hF (hm b hb).1)).trans hh, hp, h1⟩
  | arr e z l =>
    obtain ⟨cs, ho, hb, hz, hl⟩ := h
    refine ⟨cs, ⟨ho.1, ?_⟩, hb, hz, hl.mono hg.size (fun _ h _ => h) hok⟩
    rcases ho.2 with h | ⟨g, cap, cur, h1, h2, h3, h4⟩
    · exact .inl h
    · have hM := hb g (by rw [h1]; rfl)
      exact .inr ⟨g, cap, cur, h1, h2, (hg.block g (hm g hM).2 (M_ne hF (hm g hM).1)).trans h3, h4⟩

theorem Rel1.grow (hF : F.Wf) (h : Rel1 F M ρ σ a w) (hg : Gr F.cx.g w w') {k : Nat} (hst : StAt F.cx (F.N + (σ.c + k)) w') : Rel1 F M ρ { σ with c := σ.c + k } a w' where
  gr := h.gr.trans hg
  st := hst
  gl := h.gl.keep h.st hg
  mb := fun b hb => ⟨(h.mb b hb).1, by have := (h.mb b hb).2; have := hg.size; omega⟩
  sl := fun t => (h.sl t).mono (Gr.refl _ _) hg.size (fun _ h _ => h) (fun b hb hlt => hg.block b hlt (okM_ne hF hb))
  ob := fun k o hk => (h.ob k o hk).grow hF h.mb hg
  ne := h.ne
  df := h.df
  nt := h.nt
  kx := h.kx.grow hg

theorem getD_put {a : Act} {d t : Nat} {v : Value} (hd : d < a.tmps.size) : (a.put (some d) v).tmps.getD t undef = if t = d then v else a.tmps.getD t undef := by
  simp only [Act.put, Array.getD_eq_getD_getElem?, Array.getElem?_setIfInBounds]
  by_cases h : d = t
  · subst h
    simp [hd]
  · rw [if_neg h, if_neg (fun e => h e.symm)]

theorem Rel1.put (h : Rel1 F M ρ σ a w) {dst : Option Tmp} (hd : ∀ d, dst = some d → d < F.n) {r : AV} {v : Value} (hr : relA F.cx F.w0 (okM F M) ρ w r v) : Rel1 F M ρ (σ.put dst r) (a.put dst v) w := by
  cases dst with
  | none => exact h
  | some d =>
    have hlt : d < a.tmps.size := Nat.lt_of_lt_of_le (hd d rfl) h.nt
    exact ⟨h.gr, h.st, h.gl, h.mb, fun t => by
      rw [getD_put hlt]
      show relA _ _ _ _ _ (upd σ.s d r t) _
      rw [upd_apply]
      by_cases e : t = d
      · rw [if_pos e, if_pos e]; exact hr
      · rw [if_neg e, if_neg e]; exact h.sl t, h.ob, h.ne, h.df, by simp [Act.put]; exact h.nt, h.kx⟩
end

/-- What a function may answer: data, pointers to data, several of them. -/
def AV.plain : AV → Bool
  | .dv _ | .dp _ | .un | .tnil => true
  | .tcons a t => a.plain && t.plain
  | _ => false
theorem rel0_plain {cx : Cx} {w0 w1 : World} {ok : Nat → Prop} {ρ ρ' : Nat → Value} {w : World} {a : AV} {v : Value} (hp : a.plain = true) (h : rel0 cx w0 ok ρ w a v) : rel0 cx w1 ok ρ' w a v := by
  cases a <;> first | exact h | cases hp
theorem relT_plain {cx : Cx} {w0 w1 : World} {ok : Nat → Prop} {ρ ρ' : Nat → Value} {w : World} : ∀ {a : AV} {vs : List Value}, a.plain = true → relT cx w0 ok ρ w a vs → relT cx w1 ok ρ' w a vs
  | .tnil, _, _, h => h
  | .tcons _ _, _, hp, h => by
    simp only [AV.plain, Bool.and_eq_true] at hp
    obtain ⟨v, r, hv, h1, h2⟩ := h
    exact ⟨v, r, hv, rel0_plain hp.1 h1, relT_plain hp.2 h2⟩
theorem relA_plain {cx : Cx} {w0 w1 : World} {ok : Nat → Prop} {ρ ρ' : Nat → Value} {w : World} {a : AV} {v : Value} (hp : a.plain = true) (h : relA cx w0 ok ρ w a v) : relA cx w1 ok ρ' w a v := by
  cases a with
  | tnil => exact h
  | tcons b t => obtain ⟨vs, hv, ht⟩ := h; exact ⟨vs, hv, relT_plain hp ht⟩
  | dv x => exact h
  | dp l => exact h
  | un => exact h
  | _ => cases hp

/-- A contract: what a function asks of its arguments, what it answers, how often it asks the stream, whether its slices lie in new memory alone. -/
structure Spec where
  pre : List AV → Prop
  post : List AV → AV → Prop
  cost : List AV → Nat
  fresh : Bool

def resOk (F : Fr) (fresh : Bool) (b : Nat) : Prop := (fresh = false ∧ F.ok b) ∨ F.w0.heap.size ≤ b

def Ctr (cx : Cx) (f : FuncId) (sp : Spec) : Prop :=
  Enters cx.P f ∧ (∀ as, sp.pre as → ∃ r, sp.post as r) ∧
  ∀ (F : Fr) (as : List AV) (vals : List Value), F.cx = cx → F.Wf → StAt cx F.N F.w0 → GlAt cx F.w0 → sp.cost as ≤ F.B → as.length = vals.length →
    (∀ (i : Nat) (a : AV) (u : Value), as[i]? = some a → vals[i]? = some u → rel0 cx F.w0 F.ok (fun _ => undef) F.w0 a u) → sp.pre as →
    Calls cx.P f vals.toArray F.w0 fun e w' => ∃ v r, e = .returned v ∧ Gr cx.g F.w0 w' ∧ StAt cx (F.N + sp.cost as) w' ∧ sp.post as r ∧ r.plain = true ∧ relA cx F.w0 (resOk F sp.fresh) (fun _ => undef) w' r v
end Go.Avc
