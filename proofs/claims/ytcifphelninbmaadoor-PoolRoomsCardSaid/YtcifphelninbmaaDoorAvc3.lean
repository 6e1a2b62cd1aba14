/- The calculus: operations that compute a value and leave the world alone, and that they compute what they are told to. No condition. -/
import Derived.Test.YtcifphelninbmaaDoorAvc2B
import Derived.Laws.Slices
set_option linter.unusedVariables false
set_option linter.unusedSimpArgs false
namespace Go.Avc
open Go

def Tsz (P : Program) (t : TypeId) : Nat := match P.info? t with
  | some i => i.size
  | none => 0
def Tagg (P : Program) (t : TypeId) : Bool := match P.underlying t with
  | some (.struct _) => true
  | some (.array _ _) => true
  | _ => false
def Tfld (P : Program) (t : TypeId) (j : Nat) : Option (Nat × TypeId) := match P.underlying t with
  | some (.struct fs) => (fs[j]?).map fun f => (f.offset, f.type)
  | _ => none

abbrev AV.i (n : Int) : AV := .dv (.d (.int .i64 n))
abbrev AV.b (b : Bool) : AV := .dv (.d (.bool b))
abbrev AV.str (s : ByteArray) : AV := .dv (.d (.str s))
abbrev AV.sl (l : List (List D)) : AV := .dv (.d (.sl l))

def cv : Value → AV
  | .int k n => .dv (.d (.int k n))
  | .bool b => .b b
  | .string s => .str s
  | .slice none 0 0 => .nil
  | _ => .un

/-- A slice that is known to be nil, or to have no room, as data. -/
def nrm : AV → AV
  | .nil => .sl []
  | .lit l => .sl l
  | .sv l _ _ => .sl l
  | .agz l _ => .dv (.ag l)
  | r => r

def ev0 (cx : Cx) (σ : St) : Operand → AV
  | .tmp t => σ.s t
  | .const v => cv v
  | .global g => match cx.glob g with
    | some l => .dp l
    | none => .un
  | .func f => .fn f []
def ev (cx : Cx) (σ : St) (x : Operand) : AV := nrm (ev0 cx σ x)

section
variable {F : Fr} {M : Nat → Prop} {ρ : Nat → Value} {σ : St} {a : Act} {w : World}

theorem cv_rel {ok : Nat → Prop} (v : Value) : relA F.cx F.w0 ok ρ w (cv v) v := by
  cases v with
  | int k n => exact Rd.int k n
  | bool b => exact Rd.bool b
  | string s => exact Rd.str s
  | slice A n c =>
    unfold cv
    split
    · rename_i e; cases e
    · rename_i e; cases e
    · rename_i e; cases e
    · rename_i e; cases e; exact rfl
    · exact trivial
  | _ => exact trivial

theorem nrm_rel {ok : Nat → Prop} {x : AV} {v : Value} (h : relA F.cx F.w0 ok ρ w x v) : relA F.cx F.w0 ok ρ w (nrm x) v := by
  cases x with
  | nil => rw [show v = _ from h]; exact Rd.nil _ _
  | lit l => exact h.2
  | sv l A c => exact h.2
  | agz l zs => exact h.1
  | _ => exact h

theorem ev0_rel (hF : F.Wf) (h : Rel1 F M ρ σ a w) (x : Operand) : relA F.cx F.w0 (okM F M) ρ w (ev0 F.cx σ x) (a.eval x) := by
  cases x with
  | tmp t => exact h.sl t
  | const v => exact cv_rel v
  | global g =>
    simp only [ev0]
    cases hg : F.cx.glob g with
    | none => exact trivial
    | some l =>
      obtain ⟨h1, h2, cs, h3, h4⟩ := h.gl g l hg
      have hok : ∀ b, b < F.cx.ng → okM F M b := fun b hb => ⟨.inl (hF.gl b hb), fun hM => by have := (h.mb b hM).1; have := (hF.ok b (hF.gl b hb)).1; omega⟩
      exact ⟨g, 0, cs, rfl, hok g h1, h2, fun j u hj => by rw [Nat.zero_add]; exact h3 j u hj, h4.mono (Nat.le_refl _) (fun b hb _ => hok b hb) (fun _ _ _ => rfl)⟩
  | func f => exact rfl

theorem ev_rel (hF : F.Wf) (h : Rel1 F M ρ σ a w) (x : Operand) : relA F.cx F.w0 (okM F M) ρ w (ev F.cx σ x) (a.eval x) := nrm_rel (ev0_rel hF h x)

/-- The operation computes v and leaves the world alone. -/
def Runs (P : Program) (a : Act) (w : World) (o : Oper) (v : Value) : Prop := (execOp a.eval o).run P w = .ok (.value v) w

def vMove (cx : Cx) (σ : St) (x : Operand) : Option (Prop × AV) := some (True, ev0 cx σ x)
theorem vMove_sound (hF : F.Wf) (h : Rel1 F M ρ σ a w) {o : Oper} {x : Operand} (ho : o.op = .move x ∨ o.op = .assign x) {p : Prop} {r : AV} (hv : vMove F.cx σ x = some (p, r)) (hp : p) :
    ∃ v, Runs F.cx.P a w o v ∧ relA F.cx F.w0 (okM F M) ρ w r v := by
  simp only [vMove, Option.some.injEq, Prod.mk.injEq] at hv
  obtain ⟨_, rfl⟩ := hv
  refine ⟨a.eval x, ?_, ev0_rel hF h x⟩
  rcases ho with ho | ho <;> simp [Runs, execOp, ho]

def vPick (cx : Cx) (σ : St) (c x y : Operand) : Option (Prop × AV) := match ev cx σ c with
  | .dv (.d (.bool t)) => some (True, if t = true then ev0 cx σ x else ev0 cx σ y)
  | _ => none
theorem vPick_sound (hF : F.Wf) (h : Rel1 F M ρ σ a w) {o : Oper} {c x y : Operand} (ho : o.op = .pick c x y) {p : Prop} {r : AV} (hv : vPick F.cx σ c x y = some (p, r)) (hp : p) :
    ∃ v, Runs F.cx.P a w o v ∧ relA F.cx F.w0 (okM F M) ρ w r v := by
  unfold vPick at hv
  have hc := ev_rel hF h c
  split at hv
  · rename_i t e
    rw [e] at hc
    obtain ⟨v, hv'⟩ : ∃ v, a.eval c = v := ⟨_, rfl⟩
    rw [hv'] at hc
    simp only [Option.some.injEq, Prod.mk.injEq] at hv
    obtain ⟨_, rfl⟩ := hv
    cases (show Rd _ _ (.bool t) v from hc)
    refine ⟨if t = true then a.eval x else a.eval y, by simp [Runs, execOp, ho, hv', asBool], ?_⟩
    cases t
    · exact ev0_rel hF h y
    · exact ev0_rel hF h x
  · cases hv

def vNil (cx : Cx) (σ : St) (x : Operand) : Option (Prop × AV) := match ev cx σ x with
  | .ptr k o => some (True, .ptr k o)
  | .eptr k i z o => some (True, .eptr k i z o)
  | .dp l => some (True, .dp l)
  | .st => some (True, .st)
  | .fn f ks => some (True, .fn f ks)
  | .fv sp => some (True, .fv sp)
  | _ => none
theorem vNil_sound (hF : F.Wf) (h : Rel1 F M ρ σ a w) {o : Oper} {x : Operand} (ho : o.op = .nilCheck x) {p : Prop} {r : AV} (hv : vNil F.cx σ x = some (p, r)) (hp : p) :
    ∃ v, Runs F.cx.P a w o v ∧ relA F.cx F.w0 (okM F M) ρ w r v := by
  unfold vNil at hv
  have hc := ev_rel hF h x
  refine ⟨a.eval x, ?_, ?_⟩
  · split at hv <;> rename_i e <;> (try (rw [e] at hc)) <;> (try cases hv)
    · obtain ⟨b, _, hb⟩ := hc; simp [Runs, execOp, ho, hb]
    · obtain ⟨b, n, c, _, hb⟩ := hc; simp [Runs, execOp, ho, hb]
    · obtain ⟨b, o', cs, hb, _⟩ := hc; simp [Runs, execOp, ho, hb]
    · obtain ⟨b, _, hb⟩ := hc; simp [Runs, execOp, ho, hb]
    · have hb := (show a.eval x = _ from hc); simp [Runs, execOp, ho, hb]
    · obtain ⟨f, caps, hb, _, _⟩ := (show Callable _ _ _ _ from hc); simp [Runs, execOp, ho, hb]
  · split at hv <;> rename_i e <;> (try (rw [e] at hc)) <;> (try cases hv) <;> exact hc

def intBin (op : BinOp) (k : IntKind) (x y : Int) : Option (Prop × AV) := match op with
  | .add => some (True, .dv (.d (.int k (k.wrap (x + y)))))
  | .sub => some (True, .dv (.d (.int k (k.wrap (x - y)))))
  | .mul => some (True, .dv (.d (.int k (k.wrap (x * y)))))
  | .quo => some (y ≠ 0, .dv (.d (.int k (k.wrap (x.tdiv y)))))
  | .rem => some (y ≠ 0, .dv (.d (.int k (x.tmod y))))
  | .eql => some (True, .b (x == y))
  | .neq => some (True, .b (x != y))
  | .lss => some (True, .b (decide (x < y)))
  | .leq => some (True, .b (decide (x ≤ y)))
  | .gtr => some (True, .b (decide (x > y)))
  | .geq => some (True, .b (decide (x ≥ y)))
  | _ => none
def strBin (op : BinOp) (x y : ByteArray) : Option (Prop × AV) := match op with
  | .add => some (x.size + y.size ≤ 9223372036854775807, .str (x ++ y))
  | .eql => some (True, .b (x.toList == y.toList))
  | .neq => some (True, .b (!(x.toList == y.toList)))
  | .lss => some (True, .b (Op.bytesLess x.toList y.toList))
  | .leq => some (True, .b (Op.bytesLess x.toList y.toList || x.toList == y.toList))
  | .gtr => some (True, .b (!(Op.bytesLess x.toList y.toList || x.toList == y.toList)))
  | .geq => some (True, .b (!Op.bytesLess x.toList y.toList))
  | _ => none
def boolBin (op : BinOp) (x y : Bool) : Option (Prop × AV) := match op with
  | .eql => some (True, .b (x == y))
  | .neq => some (True, .b (!(x == y)))
  | _ => none

def vBin (cx : Cx) (σ : St) (op : BinOp) (t : TypeId) (x y : Operand) : Option (Prop × AV) := match ev cx σ x, ev cx σ y with
  | .dv (.d (.int k m)), .dv (.d (.int k' n)) => if k = k' then intBin op k m n else none
  | .dv (.d (.str m)), .dv (.d (.str n)) => strBin op m n
  | .dv (.d (.bool m)), .dv (.d (.bool n)) => (match cx.P.underlying t with
    | some .bool => boolBin op m n
    | _ => none)
  | _, _ => none

theorem eqGuard_scalar {P : Program} {op : BinOp} {t : TypeId} {x y : Operand} {u v : Value} (hu : u.oneCell' = true) (hn : u ≠ .nilIface) (w : World) : (eqGuard op t x y u v).run P w = .ok () w := by
  unfold eqGuard
  cases u <;> first | (simp [Value.oneCell'] at hu; done) | (simp at hn; done) | (cases op <;> simp)

theorem intBin_run {P : Program} {op : BinOp} {t : TypeId} {k : IntKind} {m n : Int} {p : Prop} {r : AV} (hv : intBin op k m n = some (p, r)) (hp : p) (w : World) :
    ∃ v, (binOp op t (.int k m) (.int k n)).run P w = .ok v w ∧ ∀ cx w0 ok ρ, relA cx w0 ok ρ w r v := by
  cases op with
  | quo =>
    simp only [intBin, Option.some.injEq, Prod.mk.injEq] at hv
    obtain ⟨rfl, rfl⟩ := hv
    exact ⟨.int k (k.wrap (m.tdiv n)), by simp only [binOp, ne_eq, not_true_eq_false, if_false, Op.intDiv]; rw [if_neg hp]; rfl, fun _ _ _ _ => Rd.int _ _⟩
  | rem =>
    simp only [intBin, Option.some.injEq, Prod.mk.injEq] at hv
    obtain ⟨rfl, rfl⟩ := hv
    exact ⟨.int k (m.tmod n), by simp only [binOp, ne_eq, not_true_eq_false, if_false, Op.intDiv]; rw [if_neg hp]; rfl, fun _ _ _ _ => Rd.int _ _⟩
  | add | sub | mul =>
    simp only [intBin, Option.some.injEq, Prod.mk.injEq] at hv
    obtain ⟨rfl, rfl⟩ := hv
    exact ⟨_, by simp only [binOp, ne_eq, not_true_eq_false, if_false, Op.intArith]; rfl, fun _ _ _ _ => Rd.int _ _⟩
  | eql | neq | lss | leq | gtr | geq =>
    simp only [intBin, Option.some.injEq, Prod.mk.injEq] at hv
    obtain ⟨rfl, rfl⟩ := hv
    exact ⟨_, by simp only [binOp, ne_eq, not_true_eq_false, if_false, Op.intCmp]; rfl, fun _ _ _ _ => Rd.bool _⟩
  | _ => cases hv

theorem strBin_run {P : Program} {op : BinOp} {t : TypeId} {m n : ByteArray} {p : Prop} {r : AV} (hv : strBin op m n = some (p, r)) (hp : p) (w : World) :
    ∃ v, (binOp op t (.string m) (.string n)).run P w = .ok v w ∧ ∀ cx w0 ok ρ, relA cx w0 ok ρ w r v := by
  cases op <;> simp only [strBin, Option.some.injEq, Prod.mk.injEq, reduceCtorEq] at hv
  all_goals (obtain ⟨rfl, rfl⟩ := hv)
  all_goals first
    | exact ⟨_, by simp [binOp, Op.stringOp], fun _ _ _ _ => Rd.bool _⟩
    | (refine ⟨.string (m ++ n), ?_, fun _ _ _ _ => Rd.str _⟩
       simp only [binOp, Op.stringOp]
       have hmx : IntKind.i64.max = 9223372036854775807 := by decide
       rw [if_neg (by rw [hmx]; omega)]
       rfl)

theorem boolBin_run {P : Program} {op : BinOp} {t : TypeId} (ht : P.underlying t = some .bool) {m n : Bool} {p : Prop} {r : AV} (hv : boolBin op m n = some (p, r)) (w : World) :
    ∃ v, (binOp op t (.bool m) (.bool n)).run P w = .ok v w ∧ ∀ cx w0 ok ρ, relA cx w0 ok ρ w r v := by
  have he : (Op.equal t (.bool m) (.bool n)).run P w = .ok (m == n) w := by
    have hd : ∀ d, (Op.equalIn (d + 1) t (.bool m) (.bool n)).run P w = .ok (m == n) w := fun d => by
      simp only [Op.equalIn, Sem.run_bind, run_underlying ht, Result.andThen_ok, Sem.run_pure]
    exact hd 9999
  cases op with
  | eql =>
    simp only [boolBin, Option.some.injEq, Prod.mk.injEq] at hv
    obtain ⟨_, rfl⟩ := hv
    exact ⟨.bool (m == n), by simp only [binOp, Sem.run_bind, he, Result.andThen_ok, Sem.run_pure], fun _ _ _ _ => Rd.bool _⟩
  | neq =>
    simp only [boolBin, Option.some.injEq, Prod.mk.injEq] at hv
    obtain ⟨_, rfl⟩ := hv
    exact ⟨.bool (!(m == n)), by simp only [binOp, Sem.run_bind, he, Result.andThen_ok, Sem.run_pure], fun _ _ _ _ => Rd.bool _⟩
  | _ => cases hv

theorem vBin_sound (hF : F.Wf) (h : Rel1 F M ρ σ a w) {o : Oper} {op : BinOp} {t u : TypeId} {x y : Operand} (ho : o.op = .binOp op t x y u) {p : Prop} {r : AV} (hv : vBin F.cx σ op t x y = some (p, r)) (hp : p) :
    ∃ v, Runs F.cx.P a w o v ∧ relA F.cx F.w0 (okM F M) ρ w r v := by
  unfold vBin at hv
  have hx := ev_rel hF h x
  have hy := ev_rel hF h y
  obtain ⟨vx, ex⟩ : ∃ v, a.eval x = v := ⟨_, rfl⟩
  obtain ⟨vy, ey⟩ : ∃ v, a.eval y = v := ⟨_, rfl⟩
  rw [ex] at hx
  rw [ey] at hy
  split at hv
  · rename_i k m k' n e1 e2
    rw [e1] at hx
    rw [e2] at hy
    cases (show Rd _ _ (.int k m) vx from hx)
    cases (show Rd _ _ (.int k' n) vy from hy)
    split at hv
    · rename_i hk
      subst hk
      obtain ⟨v, h1, h2⟩ := intBin_run (P := F.cx.P) (t := t) hv hp w
      exact ⟨v, by simp [Runs, execOp, ho, ex, ey, eqGuard_scalar (u := .int k m) rfl (by simp), h1], h2 _ _ _ _⟩
    · cases hv
  · rename_i m n e1 e2
    rw [e1] at hx
    rw [e2] at hy
    cases (show Rd _ _ (.str m) vx from hx)
    cases (show Rd _ _ (.str n) vy from hy)
    obtain ⟨v, h1, h2⟩ := strBin_run (P := F.cx.P) (t := t) hv hp w
    exact ⟨v, by simp [Runs, execOp, ho, ex, ey, eqGuard_scalar (u := .string m) rfl (by simp), h1], h2 _ _ _ _⟩
  · rename_i m n e1 e2
    rw [e1] at hx
    rw [e2] at hy
    cases (show Rd _ _ (.bool m) vx from hx)
    cases (show Rd _ _ (.bool n) vy from hy)
    split at hv
    · rename_i ht
      obtain ⟨v, h1, h2⟩ := boolBin_run ht hv w
      exact ⟨v, by simp [Runs, execOp, ho, ex, ey, eqGuard_scalar (u := .bool m) rfl (by simp), h1], h2 _ _ _ _⟩
    · cases hv
  · cases hv

def vUn (cx : Cx) (σ : St) (op : UnOp) (x : Operand) : Option (Prop × AV) := match op, ev cx σ x with
  | .not, .dv (.d (.bool b)) => some (True, .b (!b))
  | .neg, .dv (.d (.int k n)) => some (True, .dv (.d (.int k (k.wrap (0 - n)))))
  | _, _ => none
theorem vUn_sound (hF : F.Wf) (h : Rel1 F M ρ σ a w) {o : Oper} {op : UnOp} {t : TypeId} {x : Operand} (ho : o.op = .unOp op t x) {p : Prop} {r : AV} (hv : vUn F.cx σ op x = some (p, r)) (hp : p) :
    ∃ v, Runs F.cx.P a w o v ∧ relA F.cx F.w0 (okM F M) ρ w r v := by
  unfold vUn at hv
  have hx := ev_rel hF h x
  obtain ⟨vx, ex⟩ : ∃ v, a.eval x = v := ⟨_, rfl⟩
  rw [ex] at hx
  split at hv
  · rename_i b e
    rw [e] at hx
    cases (show Rd _ _ (.bool b) vx from hx)
    simp only [Option.some.injEq, Prod.mk.injEq] at hv
    obtain ⟨_, rfl⟩ := hv
    exact ⟨_, by simp [Runs, execOp, ho, ex, Op.unary], Rd.bool _⟩
  · rename_i k n e
    rw [e] at hx
    cases (show Rd _ _ (.int k n) vx from hx)
    simp only [Option.some.injEq, Prod.mk.injEq] at hv
    obtain ⟨_, rfl⟩ := hv
    exact ⟨_, by simp [Runs, execOp, ho, ex, Op.unary, Op.intArith], Rd.int _ _⟩
  · cases hv
end
end Go.Avc
