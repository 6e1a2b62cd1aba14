/- The calculus: operations that hang on no memory may be carried out first in a region whose order is drawn. No condition. -/
import Derived.Test.YtcifphelninbmaaDoorAvc16
set_option linter.unusedVariables false
set_option linter.unusedSimpArgs false
namespace Go.Avc
open Go
section
variable {F : Fr} {M : Nat → Prop} {ρ : Nat → Value} {σ : St} {a : Act} {w : World} {E : Env} {ok : Nat → Prop}
theorem intBin_pure {P : Program} {op : BinOp} {t : TypeId} {k : IntKind} {m n : Int} {p : Prop} {r : AV} (hv : intBin op k m n = some (p, r)) (hp : p) :
    ∃ v, (∀ w, (binOp op t (.int k m) (.int k n)).run P w = .ok v w) ∧ ∀ cx w0 ok ρ w, relA cx w0 ok ρ w r v := by
  cases op with
  | quo =>
    simp only [intBin, Option.some.injEq, Prod.mk.injEq] at hv
    obtain ⟨rfl, rfl⟩ := hv
    exact ⟨.int k (k.wrap (m.tdiv n)), fun w => by simp only [binOp, ne_eq, not_true_eq_false, if_false, Op.intDiv]; rw [if_neg hp]; rfl, fun _ _ _ _ _ => Rd.int _ _⟩
  | rem =>
    simp only [intBin, Option.some.injEq, Prod.mk.injEq] at hv
    obtain ⟨rfl, rfl⟩ := hv
    exact ⟨.int k (m.tmod n), fun w => by simp only [binOp, ne_eq, not_true_eq_false, if_false, Op.intDiv]; rw [if_neg hp]; rfl, fun _ _ _ _ _ => Rd.int _ _⟩
  | add | sub | mul =>
    simp only [intBin, Option.some.injEq, Prod.mk.injEq] at hv
    obtain ⟨rfl, rfl⟩ := hv
    exact ⟨_, fun w => by simp only [binOp, ne_eq, not_true_eq_false, if_false, Op.intArith]; rfl, fun _ _ _ _ _ => Rd.int _ _⟩
  | eql | neq | lss | leq | gtr | geq =>
    simp only [intBin, Option.some.injEq, Prod.mk.injEq] at hv
    obtain ⟨rfl, rfl⟩ := hv
    exact ⟨_, fun w => by simp only [binOp, ne_eq, not_true_eq_false, if_false, Op.intCmp]; rfl, fun _ _ _ _ _ => Rd.bool _⟩
  | _ => cases hv

theorem strBin_pure {P : Program} {op : BinOp} {t : TypeId} {m n : ByteArray} {p : Prop} {r : AV} (hv : strBin op m n = some (p, r)) (hp : p) :
    ∃ v, (∀ w, (binOp op t (.string m) (.string n)).run P w = .ok v w) ∧ ∀ cx w0 ok ρ w, relA cx w0 ok ρ w r v := by
  cases op <;> simp only [strBin, Option.some.injEq, Prod.mk.injEq, reduceCtorEq] at hv
  all_goals (obtain ⟨rfl, rfl⟩ := hv)
  all_goals first
    | exact ⟨_, fun w => by simp [binOp, Op.stringOp], fun _ _ _ _ _ => Rd.bool _⟩
    | (refine ⟨.string (m ++ n), ?_, fun _ _ _ _ _ => Rd.str _⟩
       intro w
       simp only [binOp, Op.stringOp]
       have hmx : IntKind.i64.max = 9223372036854775807 := by decide
       rw [if_neg (by rw [hmx]; omega)]
       rfl)

theorem boolBin_pure {P : Program} {op : BinOp} {t : TypeId} (ht : P.underlying t = some .bool) {m n : Bool} {p : Prop} {r : AV} (hv : boolBin op m n = some (p, r)) :
    ∃ v, (∀ w, (binOp op t (.bool m) (.bool n)).run P w = .ok v w) ∧ ∀ cx w0 ok ρ w, relA cx w0 ok ρ w r v := by
  have he : ∀ w, (Op.equal t (.bool m) (.bool n)).run P w = .ok (m == n) w := by
    intro w
    have hd : ∀ d, (Op.equalIn (d + 1) t (.bool m) (.bool n)).run P w = .ok (m == n) w := fun d => by
      simp only [Op.equalIn, Sem.run_bind, run_underlying ht, Result.andThen_ok, Sem.run_pure]
    exact hd 9999
  cases op with
  | eql =>
    simp only [boolBin, Option.some.injEq, Prod.mk.injEq] at hv
    obtain ⟨_, rfl⟩ := hv
    exact ⟨.bool (m == n), fun w => by simp only [binOp, Sem.run_bind, he, Result.andThen_ok, Sem.run_pure], fun _ _ _ _ _ => Rd.bool _⟩
  | neq =>
    simp only [boolBin, Option.some.injEq, Prod.mk.injEq] at hv
    obtain ⟨_, rfl⟩ := hv
    exact ⟨.bool (!(m == n)), fun w => by simp only [binOp, Sem.run_bind, he, Result.andThen_ok, Sem.run_pure], fun _ _ _ _ _ => Rd.bool _⟩
  | _ => cases hv

theorem vMove_pure (hF : F.Wf) (h : Rel1 F M ρ σ a w) {o : Oper} {x : Operand} (ho : o.op = .move x ∨ o.op = .assign x) {p : Prop} {r : AV} (hv : vMove F.cx σ x = some (p, r)) (hp : p) :
    ∃ v, (∀ w', Runs F.cx.P a w' o v) ∧ relA F.cx F.w0 (okM F M) ρ w r v := by
  simp only [vMove, Option.some.injEq, Prod.mk.injEq] at hv
  obtain ⟨_, rfl⟩ := hv
  refine ⟨a.eval x, ?_, ev0_rel hF h x⟩
  intro w'
  rcases ho with ho | ho <;> simp [Runs, execOp, ho]

theorem vPick_pure (hF : F.Wf) (h : Rel1 F M ρ σ a w) {o : Oper} {c x y : Operand} (ho : o.op = .pick c x y) {p : Prop} {r : AV} (hv : vPick F.cx σ c x y = some (p, r)) (hp : p) :
    ∃ v, (∀ w', Runs F.cx.P a w' o v) ∧ relA F.cx F.w0 (okM F M) ρ w r v := by
  unfold vPick at hv
  have hc := ev_rel hF h c
  split at hv
  · rename_i t e
    rw [e] at hc
    obtain ⟨v, hv'⟩ : ∃ v, a.eval c = v := ⟨_, rfl⟩
    rw [hv'] at hc
    simp only [Option.some.injEq, Prod.mk.injEq] at hv
    obtain ⟨_, rfl⟩ := hv
    cases (show Rd _ _ (.bool t) v from hc)
    refine ⟨if t = true then a.eval x else a.eval y, fun w' => by simp [Runs, execOp, ho, hv', asBool], ?_⟩
    cases t
    · exact ev0_rel hF h y
    · exact ev0_rel hF h x
  · cases hv

theorem vBin_pure (hF : F.Wf) (h : Rel1 F M ρ σ a w) {o : Oper} {op : BinOp} {t u : TypeId} {x y : Operand} (ho : o.op = .binOp op t x y u) {p : Prop} {r : AV} (hv : vBin F.cx σ op t x y = some (p, r)) (hp : p) :
    ∃ v, (∀ w', Runs F.cx.P a w' o v) ∧ relA F.cx F.w0 (okM F M) ρ w r v := by
  unfold vBin at hv
  have hx := ev_rel hF h x
  have hy := ev_rel hF h y
  obtain ⟨vx, ex⟩ : ∃ v, a.eval x = v := ⟨_, rfl⟩
  obtain ⟨vy, ey⟩ : ∃ v, a.eval y = v := ⟨_, rfl⟩
  rw [ex] at hx
  rw [ey] at hy
  split at hv
  · rename_i k m k' n e1 e2
    rw [e1] at hx
    rw [e2] at hy
    cases (show Rd _ _ (.int k m) vx from hx)
    cases (show Rd _ _ (.int k' n) vy from hy)
    split at hv
    · rename_i hk
      subst hk
      obtain ⟨v, h1, h2⟩ := intBin_pure (P := F.cx.P) (t := t) hv hp
      exact ⟨v, fun w' => by simp [Runs, execOp, ho, ex, ey, eqGuard_scalar (u := .int k m) rfl (by simp), h1], h2 _ _ _ _ _⟩
    · cases hv
  · rename_i m n e1 e2
    rw [e1] at hx
    rw [e2] at hy
    cases (show Rd _ _ (.str m) vx from hx)
    cases (show Rd _ _ (.str n) vy from hy)
    obtain ⟨v, h1, h2⟩ := strBin_pure (P := F.cx.P) (t := t) hv hp
    exact ⟨v, fun w' => by simp [Runs, execOp, ho, ex, ey, eqGuard_scalar (u := .string m) rfl (by simp), h1], h2 _ _ _ _ _⟩
  · rename_i m n e1 e2
    rw [e1] at hx
    rw [e2] at hy
    cases (show Rd _ _ (.bool m) vx from hx)
    cases (show Rd _ _ (.bool n) vy from hy)
    split at hv
    · rename_i ht
      obtain ⟨v, h1, h2⟩ := boolBin_pure ht hv
      exact ⟨v, fun w' => by simp [Runs, execOp, ho, ex, ey, eqGuard_scalar (u := .bool m) rfl (by simp), h1], h2 _ _ _ _ _⟩
    · cases hv
  · cases hv

theorem vUn_pure (hF : F.Wf) (h : Rel1 F M ρ σ a w) {o : Oper} {op : UnOp} {t : TypeId} {x : Operand} (ho : o.op = .unOp op t x) {p : Prop} {r : AV} (hv : vUn F.cx σ op x = some (p, r)) (hp : p) :
    ∃ v, (∀ w', Runs F.cx.P a w' o v) ∧ relA F.cx F.w0 (okM F M) ρ w r v := by
  unfold vUn at hv
  have hx := ev_rel hF h x
  obtain ⟨vx, ex⟩ : ∃ v, a.eval x = v := ⟨_, rfl⟩
  rw [ex] at hx
  split at hv
  · rename_i b e
    rw [e] at hx
    cases (show Rd _ _ (.bool b) vx from hx)
    simp only [Option.some.injEq, Prod.mk.injEq] at hv
    obtain ⟨_, rfl⟩ := hv
    exact ⟨_, fun w' => by simp [Runs, execOp, ho, ex, Op.unary], Rd.bool _⟩
  · rename_i k n e
    rw [e] at hx
    cases (show Rd _ _ (.int k n) vx from hx)
    simp only [Option.some.injEq, Prod.mk.injEq] at hv
    obtain ⟨_, rfl⟩ := hv
    exact ⟨_, fun w' => by simp [Runs, execOp, ho, ex, Op.unary, Op.intArith], Rd.int _ _⟩
  · cases hv

theorem vIndex_pure (hF : F.Wf) (h : Rel1 F M ρ σ a w) {o : Oper} {t : TypeId} {x i : Operand} (ho : o.op = .index t x i) {p : Prop} {r : AV} (hv : vIndex F.cx σ t x i = some (p, r)) (hp : p) :
    ∃ v, (∀ w', Runs F.cx.P a w' o v) ∧ relA F.cx F.w0 (okM F M) ρ w r v := by
  unfold vIndex at hv
  have hx := ev_rel hF h x
  have hi := ev_rel hF h i
  obtain ⟨vx, ex⟩ : ∃ v, a.eval x = v := ⟨_, rfl⟩
  obtain ⟨vi, ei⟩ : ∃ v, a.eval i = v := ⟨_, rfl⟩
  rw [ex] at hx
  rw [ei] at hi
  split at hv
  · rename_i s k n hu e1 e2
    rw [e1] at hx
    rw [e2] at hi
    cases (show Rd _ _ (.str s) vx from hx)
    cases (show Rd _ _ (.int k n) vi from hi)
    simp only [Option.some.injEq, Prod.mk.injEq] at hv
    obtain ⟨rfl, rfl⟩ := hv
    have hlt : n.toNat < s.size := by omega
    refine ⟨.int .u8 (bt s n), ?_, Rd.int _ _⟩
    have hb : s[n.toNat]? = some (s.data.toList.getD n.toNat 0) := by
      rw [getElem?_pos s n.toNat hlt]
      congr 1
      have hlt' : n.toNat < s.data.toList.length := by simpa using hlt
      rw [List.getD_eq_getElem?_getD, List.getElem?_eq_getElem hlt']
      rfl
    intro w'
    simp [Runs, execOp, ho, ex, ei, Instr.index, run_underlying hu, asIntOf, hp.1, hb, bt]
  · rename_i m e l k n hu e1 e2
    rw [e1] at hx
    rw [e2] at hi
    split at hv
    · rename_i hk
      cases (show Rd _ _ (.int k n) vi from hi)
      obtain ⟨cs, rfl, hl⟩ := hx
      simp only [Option.some.injEq, Prod.mk.injEq] at hv
      obtain ⟨rfl, rfl⟩ := hv
      obtain ⟨p1, p2, p3, p4⟩ := hp
      have hlt : n.toNat < l.length := by omega
      obtain ⟨v, hv1, hr⟩ := hl.get (x := l.getD n.toNat (zD F.cx.P e)) (by rw [List.getD_eq_getElem?_getD, List.getElem?_eq_getElem hlt]; rfl)
      refine ⟨v, fun w' => ?_, hr⟩
      have hs := size_run (P := F.cx.P) (t := e) (by omega) w'
      rw [p4] at hs
      simp [Runs, execOp, ho, ex, ei, Instr.index, run_underlying hu, asIntOf, p1, p2, hs, part, Tk_agg hk, hv1]
    · cases hv
  · cases hv

theorem vExtract_pure (hF : F.Wf) (h : Rel1 F M ρ σ a w) {o : Oper} {x : Operand} {i : Nat} (ho : o.op = .extract x i) {p : Prop} {r : AV} (hv : vExtract F.cx σ x i = some (p, r)) (hp : p) :
    ∃ v, (∀ w', Runs F.cx.P a w' o v) ∧ relA F.cx F.w0 (okM F M) ρ w r v := by
  unfold vExtract at hv
  have hx := ev_rel hF h x
  obtain ⟨vx, ex⟩ : ∃ v, a.eval x = v := ⟨_, rfl⟩
  rw [ex] at hx
  split at hv
  · rename_i q e
    simp only [Option.some.injEq, Prod.mk.injEq] at hv
    obtain ⟨_, rfl⟩ := hv
    cases hA : ev F.cx σ x with
    | tcons b t =>
      rw [hA] at hx e
      obtain ⟨vs, rfl, ht⟩ := hx
      obtain ⟨v, h1, h2⟩ := nthT_rel e ht
      exact ⟨v, fun w' => by simp [Runs, execOp, ho, ex, Instr.extract, h1], relA_of0 h2⟩
    | _ => rw [hA] at e; simp [nthT] at e
  · cases hv

theorem vLen_pure (hF : F.Wf) (h : Rel1 F M ρ σ a w) {o : Oper} {t : TypeId} {x : Operand} (ho : o.op = .call { callee := .builtin .len, args := #[x], argTypes := #[t] }) {p : Prop} {r : AV} (hv : vLen F.cx σ t x = some (p, r)) (hp : p) :
    ∃ v, (∀ w', Runs F.cx.P a w' o v) ∧ relA F.cx F.w0 (okM F M) ρ w r v := by
  unfold vLen at hv
  have hx := ev_rel hF h x
  obtain ⟨vx, ex⟩ : ∃ v, a.eval x = v := ⟨_, rfl⟩
  rw [ex] at hx
  split at hv
  · rename_i s hu e
    simp only [Option.some.injEq, Prod.mk.injEq] at hv
    obtain ⟨_, rfl⟩ := hv
    have e' : ev F.cx σ x = .dv (.d (.str s)) := by
      cases hA : ev F.cx σ x with
      | own k =>
        rw [hA] at e
        simp only [toD] at e
        split at e <;> cases e
      | _ => rw [hA] at e; exact e
    rw [e'] at hx
    cases (show Rd _ _ (.str s) vx from hx)
    exact ⟨.int .i64 s.size, fun w' => by simp [Runs, execOp, ho, ex, resolve, invoke, builtin, Builtin.len_, run_underlying hu, goInt], Rd.int _ _⟩
  · rename_i e' l hu e
    simp only [Option.some.injEq, Prod.mk.injEq] at hv
    obtain ⟨_, rfl⟩ := hv
    have hf : ∃ A c, vx = .slice A l.length c := by
      cases hA : ev F.cx σ x with
      | own k =>
        rw [hA] at e hx
        simp only [toD] at e
        split at e
        · rename_i hk
          cases e
          obtain ⟨cs, hown, _⟩ := h.ob k _ hk
          have hvx : vx = ρ k := hx
          rcases hown.2 with ⟨h1, h2⟩ | ⟨g, cap, cur, hg, _⟩
          · exact ⟨none, 0, by rw [hvx, h1, h2]⟩
          · exact ⟨_, cap, by rw [hvx, hg]⟩
        · cases e
      | dv y =>
        rw [hA] at e hx
        cases y with
        | ag m => simp [toD] at e
        | d y =>
          simp only [toD, AV.dv.injEq, DV.d.injEq] at e
          subst e
          exact sl_form hx
      | _ => rw [hA] at e; simp [toD] at e
    obtain ⟨A, c, rfl⟩ := hf
    exact ⟨.int .i64 l.length, fun w' => by simp [Runs, execOp, ho, ex, resolve, invoke, builtin, Builtin.len_, run_underlying hu, goInt], Rd.int _ _⟩
  · cases hv

theorem vSlice_pure (hF : F.Wf) (h : Rel1 F M ρ σ a w) {o : Oper} {t : TypeId} {x : Operand} {lo hi : Option Operand} (ho : o.op = .slice t x lo hi none) {p : Prop} {r : AV} (hv : vSlice F.cx σ t x lo hi = some (p, r)) (hp : p) :
    ∃ v, (∀ w', Runs F.cx.P a w' o v) ∧ relA F.cx F.w0 (okM F M) ρ w r v := by
  unfold vSlice at hv
  have hx := ev_rel hF h x
  obtain ⟨vx, ex⟩ : ∃ v, a.eval x = v := ⟨_, rfl⟩
  rw [ex] at hx
  split at hv
  · rename_i s hu e
    have e' : ev F.cx σ x = .dv (.d (.str s)) := by
      cases hA : ev F.cx σ x with
      | own k =>
        rw [hA] at e
        simp only [toD] at e
        split at e <;> cases e
      | _ => rw [hA] at e; exact e
    rw [e'] at hx
    cases (show Rd _ _ (.str s) vx from hx)
    split at hv
    · rename_i l hh e1 e2
      simp only [Option.some.injEq, Prod.mk.injEq] at hv
      obtain ⟨rfl, rfl⟩ := hv
      obtain ⟨p1, p2, p3⟩ := hp
      refine ⟨.string (s.extract l.toNat hh.toNat), ?_, Rd.str _⟩
      rcases bnd_run hF h e1 with ⟨rfl, rfl⟩ | ⟨y1, k1, rfl, ey1⟩ <;> rcases bnd_run hF h e2 with ⟨rfl, rfl⟩ | ⟨y2, k2, rfl, ey2⟩
      · intro w'; simp [Runs, execOp, ho, ex, Instr.sliceAt, Instr.slice, Instr.sliceBounds, Instr.sliceBound, asIntOf, run_underlying hu]
      · intro w'; simp [Runs, execOp, ho, ex, ey2, Instr.sliceAt, Instr.slice, Instr.sliceBounds, Instr.sliceBound, asIntOf, run_underlying hu, p3, show 0 ≤ hh by omega]
      · intro w'; simp [Runs, execOp, ho, ex, ey1, Instr.sliceAt, Instr.slice, Instr.sliceBounds, Instr.sliceBound, asIntOf, run_underlying hu, p1, p2]
      · have hm : max hh 0 = hh := by omega
        intro w'; simp [Runs, execOp, ho, ex, ey1, ey2, Instr.sliceAt, Instr.slice, Instr.sliceBounds, Instr.sliceBound, asIntOf, run_underlying hu, p1, p2, p3, hm, show 0 ≤ hh by omega]
    · cases hv
  · rename_i e0 xs hu e
    split at hv
    · rename_i y0 e3
      rw [e3] at e hx
      have e4 : y0 = .d (.sl xs) := by simpa [toD] using e
      subst e4
      split at hv
      · rename_i l hh e1 e2
        simp only [Option.some.injEq, Prod.mk.injEq] at hv
        obtain ⟨rfl, rfl⟩ := hv
        obtain ⟨p1, p2, p3, p4, p5⟩ := hp
        obtain ⟨A, c, rfl⟩ := sl_form (show Rd _ _ (.sl xs) vx from hx)
        have hc : xs.length ≤ c ∨ xs.length = 0 := by
          cases (show Rd _ _ (.sl xs) _ from hx) with
          | nil A c => exact .inr rfl
          | sl _ _ _ _ _ _ hc => exact .inl hc
        have hres := Rd.cut (show Rd (okM F M) w (.sl xs) _ from hx) (l := l.toNat) (h := hh.toNat) (by omega) (by omega) p5
        refine ⟨_, ?_, hres⟩
        have q1 : hh ≤ (c : Int) := by omega
        rcases bnd_run hF h e1 with ⟨rfl, rfl⟩ | ⟨y1, k1, rfl, ey1⟩ <;> rcases bnd_run hF h e2 with ⟨rfl, rfl⟩ | ⟨y2, k2, rfl, ey2⟩
        · intro w'; simp [Runs, execOp, ho, ex, Instr.sliceAt, Instr.slice, Instr.sliceBounds, Instr.sliceBound, asIntOf, run_underlying hu, size_run p4]
        · intro w'; simp [Runs, execOp, ho, ex, ey2, Instr.sliceAt, Instr.slice, Instr.sliceBounds, Instr.sliceBound, asIntOf, run_underlying hu, size_run p4, q1, show 0 ≤ hh by omega]
        · intro w'; simp [Runs, execOp, ho, ex, ey1, Instr.sliceAt, Instr.slice, Instr.sliceBounds, Instr.sliceBound, asIntOf, run_underlying hu, size_run p4, p1, p2]
        · have hm : max hh 0 = hh := by omega
          intro w'; simp [Runs, execOp, ho, ex, ey1, ey2, Instr.sliceAt, Instr.slice, Instr.sliceBounds, Instr.sliceBound, asIntOf, run_underlying hu, size_run p4, p1, p2, q1, hm, show 0 ≤ hh by omega]
      · cases hv
    · cases hv
  · cases hv

theorem vConv_pure (hF : F.Wf) (h : Rel1 F M ρ σ a w) {o : Oper} {s t : TypeId} {x : Operand} (ho : o.op = .convert s t x) {p : Prop} {r : AV} (hv : vConv F.cx σ s t x = some (p, r)) (hp : p) (hsc : (∃ k n, ev F.cx σ x = .dv (.d (.int k n))) ∨ ∃ b, ev F.cx σ x = .dv (.d (.str b))) :
    ∃ v, (∀ w', Runs F.cx.P a w' o v) ∧ relA F.cx F.w0 (okM F M) ρ w r v := by
  unfold vConv at hv
  have hx := ev_rel hF h x
  obtain ⟨vx, ex⟩ : ∃ v, a.eval x = v := ⟨_, rfl⟩
  rw [ex] at hx
  split at hv
  · rename_i k0 k k1 n h1 h2 e
    rw [toD_int e] at hx
    cases (show Rd _ _ (.int k1 n) vx from hx)
    simp only [Option.some.injEq, Prod.mk.injEq] at hv
    obtain ⟨_, rfl⟩ := hv
    exact ⟨.int k (k.wrap n), fun w' => by simp [Runs, execOp, ho, ex, convert, run_underlying h1, run_underlying h2, Conv.intToInt], Rd.int _ _⟩
  · rename_i k0 k1 n h1 h2 e
    rw [toD_int e] at hx
    cases (show Rd _ _ (.int k1 n) vx from hx)
    simp only [Option.some.injEq, Prod.mk.injEq] at hv
    obtain ⟨_, rfl⟩ := hv
    exact ⟨.string (Utf8.encode n), fun w' => by simp [Runs, execOp, ho, ex, convert, run_underlying h1, run_underlying h2, Conv.intToString], Rd.str _⟩
  · rename_i b h1 h2 e
    rw [toD_str e] at hx
    cases (show Rd _ _ (.str b) vx from hx)
    simp only [Option.some.injEq, Prod.mk.injEq] at hv
    obtain ⟨_, rfl⟩ := hv
    exact ⟨.string b, fun w' => by simp [Runs, execOp, ho, ex, convert, run_underlying h1, run_underlying h2], Rd.str _⟩
  · rename_i e0 l h1 h2 e
    rcases hsc with ⟨k, n, e'⟩ | ⟨b, e'⟩ <;> (rw [e'] at e; simp [toD] at e)
  · cases hv


/-- Operations that may be carried out first. -/
def hkind (o : Oper) : Bool := o.guard.isNone && match o.op with
  | .move _ => true
  | .assign _ => true
  | .pick _ _ _ => true
  | .binOp _ _ _ _ _ => true
  | .unOp _ _ _ => true
  | .convert _ _ _ => true
  | .index _ _ _ => true
  | .extract _ _ => true
  | .slice _ _ _ _ none => true
  | .call c => match c.callee with
    | .builtin .len => true
    | _ => false
  | _ => false
/-- A conversion's operand is no slice. -/
def flatOp (cx : Cx) (σ : St) : Op → Bool
  | .convert _ _ x => match ev cx σ x with
    | .dv (.d (.int _ _)) => true
    | .dv (.d (.str _)) => true
    | _ => false
  | _ => true
theorem pure_run {o : Oper} {p : Prop} {r : AV} (hr : ∃ v, (∀ w', Runs F.cx.P a w' o v) ∧ relA F.cx F.w0 (okM F M) ρ w r v) : ∃ v, (∀ w', (execOp a.eval o).run F.cx.P w' = .ok (.value v) w') ∧ relA F.cx F.w0 (okM F M) ρ w r v := hr
theorem hop_pure (hF : F.Wf) (h : Rel1 F M ρ σ a w) {o : Oper} (hk : hkind o = true) (hfl : flatOp F.cx σ o.op = true) {g : GO} (hg : gop F.cx E σ o = some g) (hp : g.pre) :
    g.cost = 0 ∧ ∃ r, g.post r ∧ ∃ v, (∀ w', Runs F.cx.P a w' o v) ∧ relA F.cx F.w0 (okM F M) ρ w r v := by
  have key : ∀ {x : Option (Prop × AV)}, lift x = some g → (∀ p r, x = some (p, r) → p → ∃ v, (∀ w', Runs F.cx.P a w' o v) ∧ relA F.cx F.w0 (okM F M) ρ w r v) → g.cost = 0 ∧ ∃ r, g.post r ∧ ∃ v, (∀ w', Runs F.cx.P a w' o v) ∧ relA F.cx F.w0 (okM F M) ρ w r v := by
    intro x hx hr
    cases x with
    | none => cases hx
    | some q =>
      obtain ⟨p, r⟩ := q
      cases hx
      exact ⟨rfl, r, rfl, hr p r rfl hp⟩
  unfold hkind at hk
  rw [Bool.and_eq_true] at hk
  obtain ⟨hgu, hk⟩ := hk
  unfold gop at hg
  split at hk
  · rename_i x ho; rw [ho] at hg; exact key hg fun p r hv hp => vMove_pure hF h (.inl ho) hv hp
  · rename_i x ho; rw [ho] at hg; exact key hg fun p r hv hp => vMove_pure hF h (.inr ho) hv hp
  · rename_i c x y ho; rw [ho] at hg; exact key hg fun p r hv hp => vPick_pure hF h ho hv hp
  · rename_i op t x y u ho; rw [ho] at hg; exact key hg fun p r hv hp => vBin_pure hF h ho hv hp
  · rename_i op t x ho; rw [ho] at hg; exact key hg fun p r hv hp => vUn_pure hF h ho hv hp
  · rename_i s t x ho
    rw [ho] at hg hfl
    refine key hg fun p r hv hp => vConv_pure hF h ho hv hp ?_
    unfold flatOp at hfl
    simp only at hfl
    split at hfl
    · rename_i e; exact .inl ⟨_, _, e⟩
    · rename_i e; exact .inr ⟨_, e⟩
    · cases hfl
  · rename_i t x i ho; rw [ho] at hg; exact key hg fun p r hv hp => vIndex_pure hF h ho hv hp
  · rename_i x i ho; rw [ho] at hg; exact key hg fun p r hv hp => vExtract_pure hF h ho hv hp
  · rename_i t x lo hi ho; rw [ho] at hg; exact key hg fun p r hv hp => vSlice_pure hF h ho hv hp
  · rename_i c ho
    rw [ho] at hg
    obtain ⟨cal, args, ts⟩ := c
    simp only at hk hg
    split at hk
    · simp only at hg
      split at hg
      · rename_i x t e1 e2
        have h1 : args = #[x] := by apply Array.ext'; exact e1
        have h2 : ts = #[t] := by apply Array.ext'; exact e2
        subst h1
        subst h2
        exact key hg fun p r hv hp => vLen_pure hF h ho hv hp
      · cases hg
    · cases hk
  · cases hk
/-- What is asked of the operations that are carried out first. -/
def vcH (cx : Cx) (E : Env) (B : Nat) (ops : Array Oper) (K : St → Prop) : List Oper → St → Prop
  | [], σ => K σ
  | o :: r, σ => flatOp cx σ o.op = true ∧ vcOp cx E B ops o (vcH cx E B ops K r) σ
def optL (ops : Array Oper) (l : List Nat) : List Oper := l.filterMap fun i => ops[i]?
/-- The static test: these operations, in turn, are ready and stand apart from all that are left. -/
def hoistOk (ops : Array Oper) : List Nat → Array Bool → Bool
  | [], _ => true
  | i :: r, listed => (match ops[i]? with
    | some o => hkind o && !isS o.op
    | none => false) && Region.free .any ops listed i && (Region.ready .any ops listed).contains i && hoistOk ops r (listed.setIfInBounds i true)
def setAll (listed : Array Bool) : List Nat → Array Bool
  | [] => listed
  | i :: r => setAll (listed.setIfInBounds i true) r
def downB (ops : Array Oper) (listed : Array Bool) : Bool := (List.range ops.size).all fun i => match ops[i]? with
  | none => true
  | some o => !listed.getD i true || o.after.all fun e => !edgeIn e || listed.getD e.on false
end
section
variable {F : Fr} {E : Env} {ops : Array Oper} {K : St → Prop} {Q : Exit → Act → World → Prop}
theorem hoist_sound (hE : EnvOk F.cx E) (hF : F.Wf) (hn : ∀ o ∈ ops, ∀ d, o.dst = some d → d < F.n) (hsel : Region.noSelect ops = true) (hQ : ∀ c a w, ¬ Q (.panic c) a w) :
    ∀ (hs : List Nat) (listed : Array Bool) (fuel : Nat) (σ : St) (a : Act) (w : World), listed.size = ops.size → hoistOk ops hs listed = true → (todo ops listed).length = fuel → Rel F σ a w → vcH F.cx E F.B ops K (optL ops hs) σ →
    (∀ σ' a' w', Rel F σ' a' w' → K σ' → wpAny F.cx.P .any ops Q (todo ops (setAll listed hs)).length (setAll listed hs) a' w') → wpAny F.cx.P .any ops Q fuel listed a w
  | [], listed, fuel, σ, a, w, hsz, hh, hfl, h, hx, hK => by subst hfl; exact hK σ a w h hx
  | i :: r, listed, fuel, σ, a, w, hsz, hh, hfl, h, hx, hK => by
    unfold hoistOk at hh
    simp only [Bool.and_eq_true] at hh
    obtain ⟨⟨⟨hk, hfree⟩, hready⟩, hrest⟩ := hh
    have hi : i < ops.size ∧ listed.getD i true = false := by
      have : i ∈ Region.ready .any ops listed := by simpa using hready
      obtain ⟨h1, h2, _⟩ := ready_iff.1 this
      exact ⟨h1, h2⟩
    obtain ⟨A, C, h4, h5, _⟩ := todo_set (ops := ops) hsz hi.1 hi.2
    obtain ⟨fuel', rfl⟩ : ∃ f, fuel = f + 1 := ⟨fuel - 1, by rw [h4] at hfl; simp at hfl; omega⟩
    have ho : ops[i]? = some (ops[i]'hi.1) := Array.getElem?_eq_getElem _
    generalize ops[i]'hi.1 = o at ho
    rw [ho] at hk
    simp only [Bool.and_eq_true, Bool.not_eq_true'] at hk
    have hx' : flatOp F.cx σ o.op = true ∧ vcOp F.cx E F.B ops o (vcH F.cx E F.B ops K (optL ops r)) σ := by
      have : optL ops (i :: r) = o :: optL ops r := by
        unfold optL
        rw [List.filterMap_cons, ho]
      rw [this] at hx
      exact hx
    obtain ⟨hfl', hx'⟩ := hx'
    have hg0 : o.guard = none := by
      have := hk.1
      unfold hkind at this
      simp only [Bool.and_eq_true, Option.isNone_iff_eq_none] at this
      exact this.1
    unfold vcOp guardA at hx'
    rw [hg0] at hx'
    simp only [ex, hk.2, if_false, Bool.false_eq_true] at hx'
    unfold exG at hx'
    split at hx'
    · exact hx'.elim
    · rename_i g hgo
      obtain ⟨hp, hc, hpost⟩ := hx'
      obtain ⟨M, ρ, h⟩ := h
      obtain ⟨hcost, rv, hrv, v, hrun, hrel⟩ := hop_pure (E := E) hF h hk.1 hfl' hgo hp
      have hnext := hpost rv hrv
      rw [hcost, Nat.add_zero] at hnext
      refine wpAny_take ho hsel hfree hready (fun c a w hq => absurd hq (hQ c _ w)) (.inl ⟨by unfold Region.wanted; rw [hg0], hrun⟩) ?_
      refine hoist_sound hE hF hn hsel hQ r _ fuel' _ _ w (by rw [Array.size_setIfInBounds]; exact hsz) hrest ?_ ⟨M, ρ, h.put (hn o (Array.mem_of_getElem? ho)) hrel⟩ hnext hK
      rw [h5]
      rw [h4] at hfl
      simp only [List.length_append, List.length_cons] at hfl ⊢
      omega
theorem size_setAll : ∀ (hs : List Nat) (listed : Array Bool), (setAll listed hs).size = listed.size
  | [], _ => rfl
  | i :: r, listed => by unfold setAll; rw [size_setAll r, Array.size_setIfInBounds]
/-- The static test of a region whose order is drawn: hs first, then rs. -/
def regOkH (ops : Array Oper) (hs rs : List Nat) : Bool :=
  let L0 := Array.replicate ops.size false
  let L := setAll L0 hs
  Region.noSelect ops && hoistOk ops hs L0 && downB ops L && regOkL ops L && (todo ops L == rs)
theorem drawH_sound (hE : EnvOk F.cx E) (hF : F.Wf) {hs rs : List Nat} (hR : regOkH ops hs rs = true) (hn : ∀ o ∈ ops, ∀ d, o.dst = some d → d < F.n) (hK : ∀ σ' a' w', Rel F σ' a' w' → K σ' → Q .normal a' w') {σ : St} {a : Act} {w : World} {id : Nat} (h : Rel F σ a w)
    (hx : vcH F.cx E F.B ops (vcL F.cx E F.B ops K (optL ops rs)) (optL ops hs) σ) : (Code.region id ops true).wp F.cx.P Q a w := by
  unfold regOkH at hR
  simp only [Bool.and_eq_true, beq_iff_eq] at hR
  obtain ⟨⟨⟨⟨hsel, hho⟩, hdn⟩, hreg⟩, htd⟩ := hR
  have hRF := regFacts hreg
  let Q' : Exit → Act → World → Prop := fun e a w => match e with
    | .panic _ => False
    | e => Q e a w
  refine wp_mono (Q := Q') ?_ fun e a w hq => ?_
  · refine wp_region_any hE.bld.mix ?_
    obtain ⟨M, ρ, h⟩ := h
    have hg : Gr F.cx.g w { w with drawn := w.drawn + 1 } := ⟨rfl, rfl, rfl, Nat.le_refl _, fun _ _ _ => rfl⟩
    have h' : Rel F σ a { w with drawn := w.drawn + 1 } := ⟨M, ρ, h.grow (k := 0) hF hg (h.st.keep2 (Nat.le_refl _) fun _ _ _ _ => rfl)⟩
    refine hoist_sound (Q := Q') hE hF hn hsel (fun c a w hq => hq) hs _ ops.size σ a _ (by simp) hho ?_ h' hx fun σ' a' w' h2 hx2 => ?_
    · unfold todo
      rw [List.filter_eq_self.2, List.length_range]
      intro i hi
      rw [Array.getD_eq_getD_getElem?, Array.getElem?_replicate, if_pos (List.mem_range.1 hi)]
      rfl
    · refine any_sound (Q := Q') hE hF hRF hn (fun σ' a' w' h hk => hK σ' a' w' h hk) _ _ σ' a' w' (by rw [size_setAll]; simp) rfl (fun i o hi hl e he hb => ?_) (fun i hi => ?_) h2 (by rw [htd]; exact hx2)
      · unfold downB at hdn
        rw [List.all_eq_true] at hdn
        have := hdn i (List.mem_range.2 (Array.getElem?_eq_some_iff.1 hi).1)
        rw [hi] at this
        simp only [hl, Bool.not_true, Bool.false_or, Array.all_eq_true_iff_forall_mem] at this
        have := this e he
        rw [hb] at this
        simpa using this
      · rw [Array.getD_eq_getD_getElem?] at hi ⊢
        cases hc : (setAll (Array.replicate ops.size false) hs)[i]? with
        | none => rfl
        | some b => rw [hc] at hi; exact hi
  · cases e <;> first | exact hq | exact hq.elim
end
end Go.Avc
