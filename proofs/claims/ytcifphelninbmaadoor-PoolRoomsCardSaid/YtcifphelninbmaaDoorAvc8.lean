/- The calculus: calls of functions and of function values, by their contracts. No condition. -/
import Derived.Test.YtcifphelninbmaaDoorAvc7
set_option linter.unusedVariables false
set_option linter.unusedSimpArgs false
namespace Go.Avc
open Go

/-- A closure's contract, out of what it does over data (caps: what its captured variables hold). -/
def clo (φ : List (List D) → FSpec) (caps : List (List D)) : Spec where
  pre as := ∃ xs : List DV, as = xs.map .dv ++ caps.map .dp ∧ (φ caps).pre xs
  post as r := ∃ (xs : List DV) (y : DV), as = xs.map .dv ++ caps.map .dp ∧ r = .dv y ∧ (φ caps).post xs y
  cost _ := 0
  fresh := true

/-- Contracts of functions, and of closures. -/
structure Env where
  Γ : FuncId → Option Spec
  Φ : FuncId → Option (List (List D) → FSpec)
structure EnvOk (cx : Cx) (E : Env) : Prop where
  bld : BldOk cx.P
  fn : ∀ f sp, E.Γ f = some sp → Ctr cx f sp
  cl : ∀ f φ caps, E.Φ f = some φ → Ctr cx f (clo φ caps)

def boxD (σ : St) (k : Nat) : Option (List D) := match σ.o k with
  | some (.box _ cs) => allD cs
  | _ => none
def capsD (σ : St) : List Nat → Option (List (List D))
  | [] => some []
  | k :: r => match boxD σ k, capsD σ r with
    | some l, some m => some (l :: m)
    | _, _ => none

/-- What is handed to a callee. -/
def argA (E : Env) (σ : St) : AV → AV
  | .own k => toD σ (.own k)
  | .ptr k off => match boxD σ k with
    | some l => .dp (l.drop off)
    | none => .un
  | .eptr _ _ _ _ => .un
  | .fn f [] => match E.Φ f with
    | some φ => .fv (φ [])
    | none => .fn f []
  | .fn f (k :: ks) => match E.Φ f, capsD σ (k :: ks) with
    | some φ, some caps => .fv (φ caps)
    | _, _ => .un
  | .nil => .sl []
  | .lit l => .sl l
  | .sv l _ _ => .sl l
  | .agz l _ => .dv (.ag l)
  | .tnil => .un
  | .tcons _ _ => .un
  | r => r
def lent : AV → Bool
  | .own _ => true
  | .ptr _ _ => true
  | .fn _ (_ :: _) => true
  | _ => false

def dvs : List AV → Option (List DV)
  | [] => some []
  | .dv x :: r => match dvs r with
    | some l => some (x :: l)
    | none => none
  | _ :: _ => none

def gCall (cx : Cx) (E : Env) (σ : St) (f : Operand) (args : Array Operand) : Option GO :=
  match ev cx σ f with
  | .fn g [] => match E.Γ g with
    | some sp => some ⟨sp.pre (args.toList.map fun x => argA E σ (ev cx σ x)) ∧ ((args.toList.any fun x => lent (ev cx σ x)) = true → sp.fresh = true), sp.post (args.toList.map fun x => argA E σ (ev cx σ x)), sp.cost (args.toList.map fun x => argA E σ (ev cx σ x))⟩
    | none => none
  | .fv sp => match dvs (args.toList.map (ev cx σ)) with
    | some xs => some ⟨sp.pre xs ∧ ∃ y, sp.post xs y, fun r => ∃ y, r = .dv y ∧ sp.post xs y, 0⟩
    | none => none
  | _ => none

section
variable {F : Fr} {M : Nat → Prop} {ρ : Nat → Value} {σ : St} {a : Act} {w : World} {ok : Nat → Prop} {E : Env}

def okC (F : Fr) (M : Nat → Prop) (w : World) (l : Bool) (b : Nat) : Prop := ((F.ok b ∨ F.w0.heap.size ≤ b) ∧ (l = false → ¬ M b)) ∧ b < w.heap.size ∧ F.cx.g ≠ some b

theorem okC_of (hF : F.Wf) {l : Bool} {b : Nat} (h : okM F M b) (hb : b < w.heap.size) : okC F M w l b := ⟨⟨h.1, fun _ => h.2⟩, hb, okM_ne hF h⟩

theorem box_dp (hF : F.Wf) (h : Rel1 F M ρ σ a w) {k : Nat} {l : List D} (hk : boxD σ k = some l) (off : Nat) : ∃ b cs, ρ k = .pointer (some ⟨b, 0, none⟩) ∧ M b ∧ b < w.heap.size ∧
    (∀ (j : Nat) (u : Value), cs[j]? = some u → w.cell? ⟨b, off + j, none⟩ = some u) ∧ RdL (okM F M) w (l.drop off) cs := by
  unfold boxD at hk
  split at hk
  · rename_i T cs hc
    obtain ⟨b, vs, h1, h2, h3, h4, h5⟩ := h.ob k _ hc
    have hR := allD_rd (F := F) (ok := okM F M) (ρ := ρ) hk (vs := vs.toList) (by rw [Array.length_toList]; exact h4) (fun j x u hx hu => (h5 j x u hx (by rwa [Array.getElem?_toList] at hu)).2)
    refine ⟨b, vs.toList.drop off, h1, h2, (h.mb b h2).2, fun j u hj => ?_, hR.drop off⟩
    rw [List.getElem?_drop, Array.getElem?_toList] at hj
    unfold World.cell?
    rw [h3]
    simpa using hj
  · cases hk

theorem caps_dp (hF : F.Wf) (h : Rel1 F M ρ σ a w) : ∀ {ks : List Nat} {caps : List (List D)}, capsD σ ks = some caps → ks.length = caps.length ∧ ∀ (i k : Nat) (l : List D), ks[i]? = some k → caps[i]? = some l →
    ∃ b cs, ρ k = .pointer (some ⟨b, 0, none⟩) ∧ M b ∧ b < w.heap.size ∧ (∀ (j : Nat) (u : Value), cs[j]? = some u → w.cell? ⟨b, 0 + j, none⟩ = some u) ∧ RdL (okM F M) w l cs
  | [], caps, hc => by
    simp only [capsD, Option.some.injEq] at hc
    subst hc
    exact ⟨rfl, fun i k l hk => by simp at hk⟩
  | k :: r, caps, hc => by
    unfold capsD at hc
    split at hc
    · rename_i l m e1 e2
      simp only [Option.some.injEq] at hc
      subst hc
      obtain ⟨h1, h2⟩ := caps_dp hF h e2
      refine ⟨by simp [h1], fun i k' l' hk hl => ?_⟩
      cases i with
      | zero =>
        simp only [List.getElem?_cons_zero, Option.some.injEq] at hk hl
        subst hk
        subst hl
        have := box_dp hF h e1 0
        rwa [List.drop_zero] at this
      | succ i => exact h2 i k' l' (by simpa using hk) (by simpa using hl)
    · cases hc

/-- A closure over variables that hold data is a function value that does what its contract says. -/
theorem clo_callable (hE : EnvOk F.cx E) (hF : F.Wf) (h : Rel1 F M ρ σ a w) {f : FuncId} {ks : List Nat} {φ : List (List D) → FSpec} {caps : List (List D)} (hφ : E.Φ f = some φ) (hc : capsD σ ks = some caps) :
    Callable F.cx w (φ caps) (.func (.func f) #[] (ks.map ρ).toArray) := by
  obtain ⟨hen, _, hct⟩ := hE.cl f φ caps hφ
  obtain ⟨hlen, hcap⟩ := caps_dp hF h hc
  refine ⟨f, _, rfl, hen, fun w' N ok as vals hg hst hgl hN hok hng hal hrel hpre => ?_⟩
  let F' : Fr := ⟨F.cx, w', fun b => b < w'.heap.size ∧ F.cx.g ≠ some b, N, 0, 0, w', fun _ => False⟩
  have hF' : F'.Wf := ⟨fun b hb => hb, fun b hb => hok b (hng b hb), fun b hb => hst.lt hb, by show N + 0 ≤ _; omega⟩
  have hcall := hct F' (as.map .dv ++ caps.map .dp) (vals ++ ks.map ρ) rfl hF' hst hgl (Nat.zero_le _) (by simp [hal, hlen]) (fun i x u hx hu => ?_) ⟨as, rfl, hpre⟩
  · rw [show (vals ++ ks.map ρ).toArray = vals.toArray ++ (ks.map ρ).toArray by simp] at hcall
    refine hcall.mono fun e w'' ⟨v, r, he, hg2, hst2, ⟨xs, y, hxs, hr, hpost⟩, _, hv⟩ => ?_
    have hxy : xs = as := by
      have h1 := congrArg (fun l : List AV => l.take as.length) hxs
      have h2 : xs.length = as.length := by
        have := congrArg List.length hxs
        simp at this
        omega
      simp only [List.take_append_of_le_length (show as.length ≤ (as.map AV.dv).length by simp)] at h1
      rw [List.take_append_of_le_length (by simp [h2])] at h1
      rw [List.take_of_length_le (by simp), List.take_of_length_le (by simp [h2])] at h1
      have h3 : ∀ (p q : List DV), p.map AV.dv = q.map AV.dv → q = p := by
        intro p
        induction p with
        | nil => intro q hq; cases q with
          | nil => rfl
          | cons y r => cases hq
        | cons x r ih => intro q hq; cases q with
          | nil => cases hq
          | cons y r' =>
            simp only [List.map_cons, List.cons.injEq, AV.dv.injEq] at hq
            rw [hq.1, ih r' hq.2]
      exact h3 _ _ h1
    subst hxy
    subst hr
    refine ⟨v, y, he, hpost, RdV.mono hv (Nat.le_refl _) (fun b hb _ => ?_) (fun _ _ _ => rfl), hg2, hst2⟩
    rcases hb with ⟨hb, _⟩ | hb
    · cases hb
    · exact .inr hb
  · by_cases hi : i < as.length
    · rw [List.getElem?_append_left (by simpa using hi), List.getElem?_map, Option.map_eq_some_iff] at hx
      rw [List.getElem?_append_left (by omega)] at hu
      obtain ⟨y, hy, rfl⟩ := hx
      exact RdV.mono (hrel i y u hy hu) (Nat.le_refl _) (fun b hb _ => hok b hb) (fun _ _ _ => rfl)
    · rw [List.getElem?_append_right (by simpa using hi), List.getElem?_map, Option.map_eq_some_iff] at hx
      rw [List.getElem?_append_right (by omega), List.getElem?_map, Option.map_eq_some_iff] at hu
      obtain ⟨l, hl, rfl⟩ := hx
      obtain ⟨k, hk, rfl⟩ := hu
      rw [List.length_map, hal] at hl
      obtain ⟨b, cs, h1, h2, h3, h4, h5⟩ := hcap _ k l hk hl
      have hgne : F.cx.g ≠ some b := M_ne hF (h.mb b h2).1
      have hlt : b < w'.heap.size := by have := hg.size; omega
      exact ⟨b, 0, cs, h1, ⟨hlt, hgne⟩, hlt, fun j u hj => (cell_congr (a := ⟨b, 0 + j, none⟩) (hg.block b h3 hgne)).trans (h4 j u hj),
        h5.mono hg.size (fun b hb hlt => ⟨by have := hg.size; omega, okM_ne hF hb⟩) (fun b hb hlt => hg.block b hlt (okM_ne hF hb))⟩

theorem argA_rel (hE : EnvOk F.cx E) (hF : F.Wf) (h : Rel1 F M ρ σ a w) {x : AV} {v : Value} (hx : relA F.cx F.w0 (okM F M) ρ w x v) {l : Bool} (hl : lent x = true → l = true) : rel0 F.cx w (okC F M w l) (fun _ => undef) w (argA E σ x) v := by
  have hkeep : ∀ b, okM F M b → b < w.heap.size → okC F M w l b := fun b hb hlt => okC_of hF hb hlt
  have hMC : l = true → ∀ b, M b → okC F M w l b := fun e b hb => ⟨⟨.inr (h.mb b hb).1, fun e' => by rw [e] at e'; cases e'⟩, (h.mb b hb).2, M_ne hF (h.mb b hb).1⟩
  cases x with
  | dv y => exact RdV.mono (show RdV _ _ _ _ from hx) (Nat.le_refl _) hkeep (fun _ _ _ => rfl)
  | own k =>
    have e := hl rfl
    simp only [argA, toD]
    split
    · rename_i e' z m hk
      have hv : v = ρ k := hx
      subst hv
      have h0 := h.ob k _ hk
      obtain ⟨cs, hown, hb, hz, hR⟩ := h0
      have hR' : RdL (okC F M w l) w m.flatten cs := hR.mono (Nat.le_refl _) hkeep (fun _ _ _ => rfl)
      rcases hown.2 with ⟨h1, hn⟩ | ⟨g, cap, cur, hg, _, _, hcap, _⟩
      · have : m = [] := List.eq_nil_of_length_eq_zero hn
        subst this
        rw [h1]
        exact Rd.nil _ _
      · have hMg := hb g (by rw [hg]; rfl)
        have := Rd.of_flat (w := w) hz hR' (ownsRow_cells hown hg) (hMC e g hMg) (h.mb g hMg).2 hcap
        rw [hg]
        exact this
    · exact trivial
  | ptr k off =>
    have e := hl rfl
    simp only [argA]
    split
    · rename_i m hk
      obtain ⟨b, cs, h1, h2, h3, h4, h5⟩ := box_dp hF h hk off
      obtain ⟨b', h6, rfl⟩ := hx
      rw [h1] at h6
      simp only [Value.pointer.injEq, Option.some.injEq, Addr.mk.injEq, and_true, true_and] at h6
      subst h6
      exact ⟨b, off, cs, rfl, hMC e b h2, h3, h4, h5.mono (Nat.le_refl _) hkeep (fun _ _ _ => rfl)⟩
    · exact trivial
  | eptr k i z off => exact trivial
  | dp m =>
    obtain ⟨b, o, cs, h1, h2, h3, h4, h5⟩ := hx
    exact ⟨b, o, cs, h1, hkeep b h2 h3, h3, h4, h5.mono (Nat.le_refl _) hkeep (fun _ _ _ => rfl)⟩
  | st => exact hx
  | fn f ks =>
    cases ks with
    | nil =>
      simp only [argA]
      split
      · rename_i φ hφ
        have := clo_callable (ks := []) hE hF h hφ rfl
        rw [show v = _ from hx]
        exact this
      · exact hx
    | cons k ks =>
      simp only [argA]
      split
      · rename_i φ caps hφ hc
        have := clo_callable hE hF h hφ hc
        rw [show v = _ from hx]
        exact this
      · exact trivial
  | fv sp => exact Callable.later (show Callable _ _ _ _ from hx) h.gr
  | nil => rw [show v = _ from hx]; exact Rd.nil _ _
  | lit m => exact Rd.mono (show Rd _ _ _ _ from hx.2) (Nat.le_refl _) hkeep (fun _ _ _ => rfl)
  | sv m A c => exact Rd.mono (show Rd _ _ _ _ from hx.2) (Nat.le_refl _) hkeep (fun _ _ _ => rfl)
  | agz m zs => exact RdV.mono (x := .ag m) hx.1 (Nat.le_refl _) hkeep (fun _ _ _ => rfl)
  | tnil => exact trivial
  | tcons b t => exact trivial
  | un => exact trivial

theorem callFunc_run {P : Program} {f : FuncId} (h : Enters P f) (args : Array Value) (w : World) : (callFunc f args).run P w = .ok (.enter f args) w := by
  obtain ⟨fn, hf, hn, hb⟩ := h
  simp only [callFunc, Sem.run_bind, run_program, Result.andThen_ok, hf, hn, hb, Bool.false_eq_true, if_false]
  rfl

theorem gCall_sound (hE : EnvOk F.cx E) (hF : F.Wf) (h : Rel1 F M ρ σ a w) {o : Oper} {f : Operand} {args : Array Operand} {ts : Array TypeId} (ho : o.op = .call { callee := .value f, args := args, argTypes := ts })
    {g : GO} (hg : gCall F.cx E σ f args = some g) (hB : σ.c + g.cost ≤ F.B) : Does F M ρ σ a w o g := by
  unfold gCall at hg
  have hf := ev_rel hF h f
  obtain ⟨vf, ef⟩ : ∃ v, a.eval f = v := ⟨_, rfl⟩
  rw [ef] at hf
  have hargs : ∀ (i : Nat) (x : Operand), args.toList[i]? = some x → (args.map a.eval).toList[i]? = some (a.eval x) := fun i x hx => by simp [hx]
  split at hg
  · rename_i g' e
    rw [e] at hf
    have hvf : vf = .func (.func g') #[] #[] := hf
    subst hvf
    split at hg
    · rename_i sp hsp
      obtain ⟨hen, hne, hct⟩ := hE.fn g' sp hsp
      simp only [Option.some.injEq] at hg
      subst hg
      rintro ⟨hpre, hfresh⟩ K Q hK
      let l : Bool := args.toList.any fun x => lent (ev F.cx σ x)
      let as : List AV := args.toList.map fun x => argA E σ (ev F.cx σ x)
      let F' : Fr := ⟨F.cx, w, okC F M w l, F.N + σ.c, sp.cost as, 0, w, fun _ => False⟩
      have hF' : F'.Wf := ⟨fun b hb => hb.2, fun b hb => okC_of hF ⟨.inl (hF.gl b hb), fun hM => by have := (h.mb b hM).1; have := (hF.ok b (hF.gl b hb)).1; omega⟩ (by have := (hF.ok b (hF.gl b hb)).1; have := h.gr.size; omega),
        fun b hb => h.st.lt hb, by show F.N + σ.c + sp.cost as ≤ _; have := hF.nb; have : σ.c + sp.cost as ≤ F.B := hB; omega⟩
      have hcall := hct F' as (args.map a.eval).toList rfl hF' h.st h.gl (Nat.le_refl _) (by simp [as]) (fun i x u hx hu => by
        rw [List.getElem?_map, Option.map_eq_some_iff] at hx
        obtain ⟨y, hy, rfl⟩ := hx
        rw [hargs i y hy] at hu
        cases hu
        exact argA_rel hE hF h (ev_rel hF h y) (fun hl => List.any_eq_true.2 ⟨y, List.mem_of_getElem? hy, hl⟩)) hpre
      have hrun : (execOp a.eval o).run F.cx.P w = .ok (.enter g' (args.map a.eval)) w := by
        simp only [execOp, ho, resolve, Deferred.ofValue, ef, Sem.run_bind, Sem.run_pure, Result.andThen_ok, invoke, callFunc_run hen]
        simp
      unfold Oper.wp
      rw [hrun]
      show Calls _ _ _ _ _
      have hlist : (args.map a.eval).toList.toArray = args.map a.eval := Array.toArray_toList ..
      rw [hlist] at hcall
      refine hcall.mono fun e w' ⟨v, r, he, hg2, hst2, hpost, hpl, hv⟩ => ?_
      subst he
      refine hK r v w' hpost hg2 (by rw [← Nat.add_assoc]; exact hst2) (relA_plain hpl (hv.mono (Gr.refl _ _) (Nat.le_refl _) (fun b hb _ => ?_) (fun _ _ _ => rfl)))
      rcases hb with ⟨hfr, hb⟩ | hb
      · refine ⟨hb.1.1, hb.1.2 ?_⟩
        cases hl : l with
        | false => rfl
        | true => rw [hfresh hl] at hfr; cases hfr
      · exact ⟨.inr (by have := h.gr.size; have : w.heap.size ≤ b := hb; omega), fun hM => by have := (h.mb b hM).2; have : w.heap.size ≤ b := hb; omega⟩
    · cases hg
  · rename_i sp e
    rw [e] at hf
    obtain ⟨f', caps, rfl, hen, hct⟩ := (show Callable _ _ _ _ from hf)
    split at hg
    · rename_i xs hxs
      simp only [Option.some.injEq] at hg
      subst hg
      rintro ⟨hpre, _⟩ K Q hK
      have hdv : ∀ {l : List AV} {xs : List DV}, dvs l = some xs → l = xs.map .dv := by
        intro l
        induction l with
        | nil => intro xs h; simp only [dvs, Option.some.injEq] at h; subst h; rfl
        | cons y r ih =>
          intro xs h
          unfold dvs at h
          split at h
          · rename_i e; cases e
          · rename_i x r' e
            simp only [List.cons.injEq] at e
            obtain ⟨rfl, rfl⟩ := e
            split at h
            · rename_i l' e2
              simp only [Option.some.injEq] at h
              subst h
              rw [ih e2]
              rfl
            · cases h
          · cases h
      have hmap := hdv hxs
      have hlen : xs.length = (args.map a.eval).toList.length := by
        have := congrArg List.length hmap
        simp at this
        simp [this]
      have hcall := hct w (F.N + σ.c) (okC F M w false) xs (args.map a.eval).toList h.gr h.st h.gl (by have := hF.nb; have : σ.c + 0 ≤ F.B := hB; omega) (fun b hb => hb.2)
        (fun b hb => okC_of hF ⟨.inl (hF.gl b hb), fun hM => by have := (h.mb b hM).1; have := (hF.ok b (hF.gl b hb)).1; omega⟩ (by have := (hF.ok b (hF.gl b hb)).1; have := h.gr.size; omega)) hlen
        (fun i x u hx hu => by
          have h1 : (args.toList.map (ev F.cx σ))[i]? = some (.dv x) := by rw [hmap]; simp [hx]
          rw [List.getElem?_map, Option.map_eq_some_iff] at h1
          obtain ⟨y, hy, hyx⟩ := h1
          rw [hargs i y hy] at hu
          cases hu
          have h2 := ev_rel hF h y
          rw [hyx] at h2
          exact RdV.mono (show RdV _ _ _ _ from h2) (Nat.le_refl _) (fun b hb hlt => okC_of hF hb hlt) (fun _ _ _ => rfl)) hpre
      have hrun : (execOp a.eval o).run F.cx.P w = .ok (.enter f' (args.map a.eval ++ caps)) w := by
        simp only [execOp, ho, resolve, Deferred.ofValue, ef, Sem.run_bind, Sem.run_pure, Result.andThen_ok, invoke, callFunc_run hen]
        simp
      unfold Oper.wp
      rw [hrun]
      show Calls _ _ _ _ _
      have hlist : (args.map a.eval).toList.toArray = args.map a.eval := Array.toArray_toList ..
      rw [hlist] at hcall
      refine hcall.mono fun e w' ⟨v, r, he, hpost, hv, hg2, hst2⟩ => ?_
      subst he
      refine hK (.dv r) v w' ⟨r, rfl, hpost⟩ hg2 (by rw [← Nat.add_assoc]; exact hst2) (RdV.mono hv (Nat.le_refl _) (fun b hb _ => ?_) (fun _ _ _ => rfl))
      rcases hb with hb | hb
      · exact ⟨hb.1.1, hb.1.2 rfl⟩
      · exact ⟨.inr (by have := h.gr.size; omega), fun hM => by have := (h.mb b hM).2; omega⟩
    · cases hg
  · cases hg
end
end Go.Avc
