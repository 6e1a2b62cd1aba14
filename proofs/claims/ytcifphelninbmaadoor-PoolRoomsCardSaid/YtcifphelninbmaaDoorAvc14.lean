/- The calculus: statements' operations, in the order of the text or in a drawn order, by what is asked in the order of the text. No condition. -/
import Derived.Test.YtcifphelninbmaaDoorAvcB
import Derived.Orders
set_option linter.unusedVariables false
set_option linter.unusedSimpArgs false
namespace Go.Avc
open Go

/-- Whether an operation is carried out, where that is known. -/
def guardA (σ : St) (ops : Array Oper) (o : Oper) : Option Bool := match o.guard with
  | none => some true
  | some (g, want) => match (ops[g]?).bind (·.dst) with
    | none => some false
    | some t => match σ.s t with
      | .dv (.d (.bool b)) => some (b == want)
      | .tnil => some false
      | _ => none

def exG (cx : Cx) (E : Env) (B : Nat) (σ : St) (o : Oper) (K : St → Prop) : Prop := match gop cx E σ o with
  | none => False
  | some g => g.pre ∧ σ.c + g.cost ≤ B ∧ ∀ r, g.post r → K ({ σ with c := σ.c + g.cost }.put o.dst r)
def ex (cx : Cx) (E : Env) (B : Nat) (σ : St) (o : Oper) (K : St → Prop) : Prop := if isS o.op then exS cx σ o K else exG cx E B σ o K
def vcOp (cx : Cx) (E : Env) (B : Nat) (ops : Array Oper) (o : Oper) (K : St → Prop) (σ : St) : Prop := match guardA σ ops o with
  | none => False
  | some true => ex cx E B σ o K
  | some false => K (σ.put o.dst .tnil)
/-- A guard that is no literal. -/
def vcOpB (cx : Cx) (E : Env) (B : Nat) (ops : Array Oper) (o : Oper) (K : St → Prop) (σ : St) : Prop := match guardA σ ops o with
  | none => False
  | some b => (b = true → ex cx E B σ o K) ∧ (b = false → K (σ.put o.dst .tnil))
theorem vcOp_iff {cx : Cx} {E : Env} {B : Nat} {ops : Array Oper} {o : Oper} {K : St → Prop} {σ : St} : vcOp cx E B ops o K σ ↔ vcOpB cx E B ops o K σ := by
  unfold vcOp vcOpB
  cases guardA σ ops o with
  | none => exact Iff.rfl
  | some b => cases b <;> simp
def vcL (cx : Cx) (E : Env) (B : Nat) (ops : Array Oper) (K : St → Prop) : List Oper → St → Prop
  | [], σ => K σ
  | o :: r, σ => vcOp cx E B ops o (vcL cx E B ops K r) σ

section
variable {F : Fr} {M : Nat → Prop} {ρ : Nat → Value} {σ : St} {a : Act} {w : World} {E : Env} {ops : Array Oper}

theorem exS_sound (hB : BldOk F.cx.P) (hF : F.Wf) (h : Rel1 F M ρ σ a w) {o : Oper} (hn : ∀ d, o.dst = some d → d < F.n) {K : St → Prop} (hx : exS F.cx σ o K)
    {K' : Act → World → Prop} {Q : Exit → Act → World → Prop} (hK : ∀ σ' a' w', Rel F σ' a' w' → K σ' → K' a' w') : Oper.wp F.cx.P o a w K' Q := by
  unfold exS at hx
  split at hx
  · rename_i ho; exact exBox_sound hF h ho hn hx hK
  · rename_i T ho
    split at hx
    · rename_i e; subst e; exact sAllocB_sound hB hF h ho hn hx hK
    · exact exAlloc_sound hF h ho hn hx hK
  · rename_i ho; exact exMake_sound hF h ho hn hx hK
  · rename_i ho; exact exStore_sound hF h ho hx hK
  · rename_i c ho
    obtain ⟨cal, args, ts⟩ := c
    simp only at hx
    split at hx
    · exact sBld_sound hB hF h ho hn hx hK
    · split at hx
      · rename_i s x t u e1 e2
        have h1 : args = #[s, x] := by apply Array.ext'; exact e1
        have h2 : ts = #[t, u] := by apply Array.ext'; exact e2
        subst h1
        subst h2
        split at hx
        · rename_i hu; exact exAppS_sound hF h ho hu hn hx hK
        · exact exAppend_sound hF h ho hn hx hK
      · exact hx.elim
    · exact hx.elim
  · exact hx.elim

theorem exG_sound (hE : EnvOk F.cx E) (hF : F.Wf) (h : Rel1 F M ρ σ a w) {o : Oper} (hn : ∀ d, o.dst = some d → d < F.n) {K : St → Prop} (hx : exG F.cx E F.B σ o K)
    {K' : Act → World → Prop} {Q : Exit → Act → World → Prop} (hK : ∀ σ' a' w', Rel F σ' a' w' → K σ' → K' a' w') : Oper.wp F.cx.P o a w K' Q := by
  unfold exG at hx
  split at hx
  · exact hx.elim
  · rename_i g hg
    obtain ⟨h1, h2, h3⟩ := hx
    refine gop_sound hE hF h hg h2 h1 K' Q (fun r v w' hr hgr hst hrel => hK _ _ _ ⟨M, ρ, ?_⟩ (h3 r hr))
    exact (h.grow hF hgr hst).put hn hrel

theorem wanted_of (h : Rel1 F M ρ σ a w) {o : Oper} {b : Bool} (hg : guardA σ ops o = some b) : Region.wanted o (yielded ops a.tmps) = b := by
  unfold guardA at hg
  unfold Region.wanted
  split at hg
  · rename_i e
    simp only [Option.some.injEq] at hg
    rw [e]
    exact hg
  · rename_i g want e
    rw [e]
    show (yielded ops a.tmps g == some want) = b
    unfold yielded
    split at hg
    · rename_i e2
      rw [e2]
      simp only [Option.some.injEq] at hg
      subst hg
      rfl
    · rename_i t e2
      rw [e2]
      have hs := h.sl t
      have key : ∀ v : Value, a.tmps.getD t undef = v → v ≠ undef → a.tmps[t]? = some v := fun v hv hne => by
        rw [Array.getD_eq_getD_getElem?] at hv
        cases hx : a.tmps[t]? with
        | none => rw [hx] at hv; exact absurd hv.symm hne
        | some u => rw [hx] at hv; exact congrArg some hv
      split at hg
      · rename_i b' e3
        rw [e3] at hs
        simp only [Option.some.injEq] at hg
        have hv : a.tmps.getD t undef = .bool b' := by
          have hs' : Rd (okM F M) w (.bool b') (a.tmps.getD t undef) := hs
          generalize a.tmps.getD t undef = v at hs'
          cases hs'
          rfl
        rw [Option.bind_some, key _ hv (by simp [undef])]
        subst hg
        cases b' <;> cases want <;> rfl
      · rename_i e3
        rw [e3] at hs
        simp only [Option.some.injEq] at hg
        subst hg
        have hv : a.tmps.getD t undef = .tuple #[] := hs
        rw [Array.getD_eq_getD_getElem?] at hv
        rw [Option.bind_some]
        cases hx : a.tmps[t]? with
        | none => cases want <;> rfl
        | some u => rw [hx] at hv; simp only [Option.getD_some] at hv; subst hv; cases want <;> rfl
      · cases hg

theorem vcOp_sound (hE : EnvOk F.cx E) (hF : F.Wf) (h : Rel F σ a w) {o : Oper} (hn : ∀ d, o.dst = some d → d < F.n) {K : St → Prop} (hx : vcOp F.cx E F.B ops o K σ)
    {K' : Act → World → Prop} {Q : Exit → Act → World → Prop} (hK : ∀ σ' a' w', Rel F σ' a' w' → K σ' → K' a' w') : if Region.wanted o (yielded ops a.tmps) = true then Oper.wp F.cx.P o a w K' Q else K' (a.put o.dst undef) w := by
  obtain ⟨M, ρ, h⟩ := h
  unfold vcOp at hx
  split at hx
  · exact hx.elim
  · rename_i hg
    rw [if_pos (wanted_of h hg)]
    unfold ex at hx
    split at hx
    · exact exS_sound hE.bld hF h hn hx hK
    · exact exG_sound hE hF h hn hx hK
  · rename_i hg
    rw [wanted_of h hg]
    rw [if_neg (by simp)]
    exact hK _ _ _ ⟨M, ρ, h.put hn (by exact (rfl : undef = Value.tuple #[]))⟩ hx

theorem vcL_list (hE : EnvOk F.cx E) (hF : F.Wf) {K : St → Prop} {Q : Exit → Act → World → Prop} (hK : ∀ σ' a' w', Rel F σ' a' w' → K σ' → Q .normal a' w') : ∀ (l : List Oper) (σ : St) (a : Act) (w : World), (∀ o ∈ l, ∀ d, o.dst = some d → d < F.n) → Rel F σ a w → vcL F.cx E F.B ops K l σ → wpList F.cx.P ops Q l a w
  | [], σ, a, w, _, h, hx => hK _ _ _ h hx
  | o :: r, σ, a, w, hn, h, hx => by
    refine wpList_step fun K' hK' => vcOp_sound hE hF h (hn o List.mem_cons_self) hx fun σ' a' w' h' hx' => hK' _ _ (vcL_list hE hF hK r σ' a' w' (fun o' ho' => hn o' (List.mem_cons_of_mem _ ho')) h' hx')
end
end Go.Avc
