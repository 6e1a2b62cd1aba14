/- The calculus: each operation's meaning in one place; operations that do not wait for each other may change places. No condition. -/
import Derived.Test.YtcifphelninbmaaDoorAvc8
set_option linter.unusedVariables false
set_option linter.unusedSimpArgs false
namespace Go.Avc
open Go

def ksOf (cx : Cx) (σ : St) : List Operand → Option (List Nat)
  | [] => some []
  | x :: r => match ev cx σ x, ksOf cx σ r with
    | .ptr k 0, some l => some (k :: l)
    | _, _ => none
def vFunc (cx : Cx) (σ : St) (f : FuncId) (caps : Array Operand) : Option (Prop × AV) := match ksOf cx σ caps.toList with
  | some ks => some (True, .fn f ks)
  | none => none

def gop (cx : Cx) (E : Env) (σ : St) (o : Oper) : Option GO := match o.op with
  | .move x => lift (vMove cx σ x)
  | .assign x => lift (vMove cx σ x)
  | .pick c x y => lift (vPick cx σ c x y)
  | .nilCheck x => lift (vNil cx σ x)
  | .binOp op t x y _ => lift (vBin cx σ op t x y)
  | .unOp op _ x => lift (vUn cx σ op x)
  | .convert s t x => lift (vConv cx σ s t x)
  | .field t x j => lift (vField cx σ t x j)
  | .fieldAddr t x j => lift (vFaddr cx σ t x j)
  | .index t x i => lift (vIndex cx σ t x i)
  | .indexAddr t x i => lift (vIdxA cx σ t x i)
  | .load t x => lift (vLoad cx σ t x)
  | .extract x i => lift (vExtract cx σ x i)
  | .build t ps => lift (vBuild cx σ t ps)
  | .slice t x lo hi none => lift (vSlice cx σ t x lo hi)
  | .buildSlice t n ps => gBuildS cx σ t n ps
  | .makeFunc (.func f) first caps => if first.size = 0 then lift (vFunc cx σ f caps) else none
  | .call c => match c.callee with
    | .value f => gCall cx E σ f c.args
    | .builtin .len => match c.args.toList, c.argTypes.toList with
      | [x], [t] => lift (vLen cx σ t x)
      | _, _ => none
    | .builtin .max => match c.args.toList with
      | [x, y] => lift (vMax cx σ x y)
      | _ => none
    | .builtin .min => match c.args.toList with
      | [x, y] => lift (vMin cx σ x y)
      | [x, y, z] => lift (vMin3 cx σ x y z)
      | _ => none
    | _ => none
  | _ => none

section
variable {F : Fr} {M : Nat → Prop} {ρ : Nat → Value} {σ : St} {a : Act} {w : World} {E : Env}

theorem vFunc_sound (hF : F.Wf) (h : Rel1 F M ρ σ a w) {o : Oper} {f : FuncId} {first caps : Array Operand} (h0 : first.size = 0) (ho : o.op = .makeFunc (.func f) first caps) {p : Prop} {r : AV} (hv : vFunc F.cx σ f caps = some (p, r)) (hp : p) :
    ∃ v, Runs F.cx.P a w o v ∧ relA F.cx F.w0 (okM F M) ρ w r v := by
  unfold vFunc at hv
  split at hv
  · rename_i ks hk
    simp only [Option.some.injEq, Prod.mk.injEq] at hv
    obtain ⟨_, rfl⟩ := hv
    have h1 : first = #[] := Array.eq_empty_of_size_eq_zero h0
    subst h1
    refine ⟨.func (.func f) #[] (caps.map a.eval), by simp [Runs, execOp, ho, Instr.makeFunc], ?_⟩
    have key : ∀ (l : List Operand) (ks : List Nat), ksOf F.cx σ l = some ks → l.map a.eval = ks.map ρ := by
      intro l
      induction l with
      | nil => intro ks h; simp only [ksOf, Option.some.injEq] at h; subst h; rfl
      | cons x r ih =>
        intro ks hk
        unfold ksOf at hk
        split at hk
        · rename_i k l' e1 e2
          simp only [Option.some.injEq] at hk
          subst hk
          have hx := ev_rel hF h x
          rw [e1] at hx
          obtain ⟨b, h2, h3⟩ := hx
          rw [List.map_cons, List.map_cons, ih l' e2, h3, h2]
        · cases hk
    show _ = _
    congr 1
    have := key _ _ hk
    rw [← this]
    apply Array.ext'
    simp
  · cases hv

theorem lift_ne {x : Option (Prop × AV)} {g : GO} (h : lift x = some g) : ∃ r, g.post r := by
  unfold lift at h
  split at h
  · simp only [Option.some.injEq] at h
    subst h
    exact ⟨_, rfl⟩
  · cases h

theorem gop_ne {cx : Cx} (hE : EnvOk cx E) {o : Oper} {g : GO} (h : gop cx E σ o = some g) (hp : g.pre) : ∃ r, g.post r := by
  unfold gop at h
  split at h
  all_goals first
    | exact lift_ne h
    | (cases h; done)
    | skip
  · unfold gBuildS at h
    split at h
    · split at h
      · split at h
        · simp only [Option.some.injEq] at h
          subst h
          exact ⟨_, rfl⟩
        · cases h
      · cases h
    · cases h
  · split at h
    · exact lift_ne h
    · cases h
  · split at h
    · unfold gCall at h
      split at h
      · split at h
        · rename_i sp hsp
          simp only [Option.some.injEq] at h
          subst h
          exact (hE.fn _ _ hsp).2.1 _ hp.1
        · cases h
      · split at h
        · simp only [Option.some.injEq] at h
          subst h
          obtain ⟨_, y, hy⟩ := hp
          exact ⟨.dv y, y, rfl, hy⟩
        · cases h
      · cases h
    all_goals first
      | (split at h <;> first | exact lift_ne h | (cases h; done))
      | (cases h; done)

theorem gop_sound (hE : EnvOk F.cx E) (hF : F.Wf) (h : Rel1 F M ρ σ a w) {o : Oper} {g : GO} (hg : gop F.cx E σ o = some g) (hB : σ.c + g.cost ≤ F.B) : Does F M ρ σ a w o g := by
  unfold gop at hg
  split at hg
  · rename_i x ho; exact Does.of_lift h hg fun p r hv hp => vMove_sound hF h (.inl ho) hv hp
  · rename_i x ho; exact Does.of_lift h hg fun p r hv hp => vMove_sound hF h (.inr ho) hv hp
  · rename_i ho; exact Does.of_lift h hg fun p r hv hp => vPick_sound hF h ho hv hp
  · rename_i ho; exact Does.of_lift h hg fun p r hv hp => vNil_sound hF h ho hv hp
  · rename_i ho; exact Does.of_lift h hg fun p r hv hp => vBin_sound hF h ho hv hp
  · rename_i ho; exact Does.of_lift h hg fun p r hv hp => vUn_sound hF h ho hv hp
  · rename_i ho; exact Does.of_lift h hg fun p r hv hp => vConv_sound hF h ho hv hp
  · rename_i ho; exact Does.of_lift h hg fun p r hv hp => vField_sound hF h ho hv hp
  · rename_i ho; exact Does.of_lift h hg fun p r hv hp => vFaddr_sound hF h ho hv hp
  · rename_i ho; exact Does.of_lift h hg fun p r hv hp => vIndex_sound hF h ho hv hp
  · rename_i ho; exact Does.of_lift h hg fun p r hv hp => vIdxA_sound hF h ho hv hp
  · rename_i ho; exact Does.of_lift h hg fun p r hv hp => vLoad_sound hF h ho hv hp
  · rename_i ho; exact Does.of_lift h hg fun p r hv hp => vExtract_sound hF h ho hv hp
  · rename_i ho; exact Does.of_lift h hg fun p r hv hp => vBuild_sound hF h ho hv hp
  · rename_i ho; exact Does.of_lift h hg fun p r hv hp => vSlice_sound hF h ho hv hp
  · rename_i ho; exact gBuildS_sound hF h ho hg
  · rename_i ho
    split at hg
    · rename_i h0
      exact Does.of_lift h hg fun p r hv hp => vFunc_sound hF h h0 ho hv hp
    · cases hg
  · rename_i c ho
    obtain ⟨cal, args, ts⟩ := c
    simp only at hg
    split at hg
    · exact gCall_sound hE hF h ho hg hB
    · split at hg
      · rename_i x t e1 e2
        have h1 : args = #[x] := by apply Array.ext'; exact e1
        have h2 : ts = #[t] := by apply Array.ext'; exact e2
        subst h1
        subst h2
        exact Does.of_lift h hg fun p r hv hp => vLen_sound hF h ho hv hp
      · cases hg
    · split at hg
      · rename_i x y e1
        have h1 : args = #[x, y] := by apply Array.ext'; exact e1
        subst h1
        exact Does.of_lift h hg fun p r hv hp => vMax_sound hF h ho hv hp
      · cases hg
    · split at hg
      · rename_i x y e1
        have h1 : args = #[x, y] := by apply Array.ext'; exact e1
        subst h1
        exact Does.of_lift h hg fun p r hv hp => vMin_sound hF h ho hv hp
      · rename_i x y z e1
        have h1 : args = #[x, y, z] := by apply Array.ext'; exact e1
        subst h1
        exact Does.of_lift h hg fun p r hv hp => vMin3_sound hF h ho hv hp
      · cases hg
    · cases hg
  · cases hg
end

/-! ### What an operation reads -/
def tmpOf : Operand → List Tmp
  | .tmp t => [t]
  | _ => []
def readsOf (o : Oper) : List Tmp := o.op.operands.toList.flatMap tmpOf

section
variable {cx : Cx} {E : Env} {σ σ' : St}

theorem ev0_congr {o : Oper} (hs : ∀ t ∈ readsOf o, σ.s t = σ'.s t) {x : Operand} (hx : x ∈ o.op.operands.toList) : ev0 cx σ x = ev0 cx σ' x := by
  cases x with
  | tmp t => exact hs t (List.mem_flatMap.2 ⟨_, hx, List.mem_cons_self⟩)
  | _ => rfl
theorem ev_congr {o : Oper} (hs : ∀ t ∈ readsOf o, σ.s t = σ'.s t) {x : Operand} (hx : x ∈ o.op.operands.toList) : ev cx σ x = ev cx σ' x := by
  unfold ev
  rw [ev0_congr hs hx]
theorem toD_congr (ho : σ.o = σ'.o) (r : AV) : toD σ r = toD σ' r := by
  cases r <;> simp only [toD, ho]
theorem bnd_congr {d : Int} {x : Option Operand} (h : ∀ y, x = some y → ev cx σ y = ev cx σ' y) : bnd cx σ d x = bnd cx σ' d x := by
  cases x with
  | none => rfl
  | some y => simp only [bnd, h y rfl]
theorem argsD_congr (ho : σ.o = σ'.o) : ∀ {ps : List (Nat × Operand)}, (∀ p ∈ ps, ev cx σ p.2 = ev cx σ' p.2) → argsD cx σ ps = argsD cx σ' ps ∧ noOwn cx σ ps = noOwn cx σ' ps
  | [], _ => ⟨rfl, rfl⟩
  | (i, x) :: r, h => by
    have h1 := argsD_congr ho (ps := r) (fun p hp => h p (List.mem_cons_of_mem _ hp))
    have h2 : ev cx σ x = ev cx σ' x := h (i, x) List.mem_cons_self
    simp only [argsD, noOwn, h1.1, h1.2, h2, toD_congr ho, and_self]
theorem boxD_congr (ho : σ.o = σ'.o) (k : Nat) : boxD σ k = boxD σ' k := by simp only [boxD, ho]
theorem capsD_congr (ho : σ.o = σ'.o) : ∀ ks : List Nat, capsD σ ks = capsD σ' ks
  | [] => rfl
  | k :: r => by simp only [capsD, boxD_congr ho, capsD_congr ho r]
theorem argA_congr (ho : σ.o = σ'.o) (r : AV) : argA E σ r = argA E σ' r := by
  cases r with
  | fn f ks => cases ks <;> simp only [argA, capsD_congr ho]
  | _ => simp only [argA, toD_congr ho, boxD_congr ho]
theorem ksOf_congr : ∀ {l : List Operand}, (∀ x ∈ l, ev cx σ x = ev cx σ' x) → ksOf cx σ l = ksOf cx σ' l
  | [], _ => rfl
  | x :: r, h => by simp only [ksOf, h x List.mem_cons_self, ksOf_congr (l := r) (fun y hy => h y (List.mem_cons_of_mem _ hy))]

theorem gop_congr {o : Oper} (ho : σ.o = σ'.o) (hs : ∀ t ∈ readsOf o, σ.s t = σ'.s t) : gop cx E σ o = gop cx E σ' o := by
  have he : ∀ x ∈ o.op.operands.toList, ev cx σ x = ev cx σ' x := fun x hx => ev_congr hs hx
  have he0 : ∀ x ∈ o.op.operands.toList, ev0 cx σ x = ev0 cx σ' x := fun x hx => ev0_congr hs hx
  unfold gop
  split <;> rename_i hop <;> simp only [hop, Op.operands] at he he0
  case h_14 =>
    have h1 := argsD_congr (cx := cx) (ps := (by assumption : Array (Nat × Operand)).toList) ho (fun p hp => he p.2 (List.mem_map_of_mem (f := fun q : Nat × Operand => q.2) hp))
    simp only [vBuild, h1.1, h1.2]
  case h_16 =>
    have h1 := argsD_congr (cx := cx) (ps := (by assumption : Array (Nat × Operand)).toList) ho (fun p hp => he p.2 (List.mem_map_of_mem (f := fun q : Nat × Operand => q.2) hp))
    simp only [gBuildS, h1.1, h1.2]
  case h_15 t x lo hi =>
    have hx : ev cx σ x = ev cx σ' x := he x (by simp)
    have h1 : ∀ d, bnd cx σ d lo = bnd cx σ' d lo := fun d => bnd_congr (fun y hy => he y (by subst hy; simp))
    have h2 : ∀ d, bnd cx σ d hi = bnd cx σ' d hi := fun d => bnd_congr (fun y hy => he y (by subst hy; simp))
    simp only [vSlice, hx, h1, h2, toD_congr ho]
  case h_17 f first caps =>
    have h1 : ksOf cx σ caps.toList = ksOf cx σ' caps.toList := ksOf_congr (fun x hx => he x (by simp only [Array.toList_append, List.mem_append]; exact .inr hx))
    simp only [vFunc, h1]
  case h_18 c =>
    have h2 : ∀ x ∈ c.args.toList, ev cx σ x = ev cx σ' x := fun x hx => he x (by simp only [Call.operands, Array.toList_append, List.mem_append]; exact .inr hx)
    split
    · rename_i f hf
      have h1 : ev cx σ f = ev cx σ' f := he f (by simp [Call.operands, hf])
      have h3 : (c.args.toList.map fun x => argA E σ (ev cx σ x)) = (c.args.toList.map fun x => argA E σ' (ev cx σ' x)) := List.map_congr_left (fun x hx => by rw [h2 x hx, argA_congr ho])
      have h4 : (c.args.toList.any fun x => lent (ev cx σ x)) = (c.args.toList.any fun x => lent (ev cx σ' x)) := by
        rw [Bool.eq_iff_iff, List.any_eq_true, List.any_eq_true]
        exact ⟨fun ⟨x, hx, hl⟩ => ⟨x, hx, by rw [← h2 x hx]; exact hl⟩, fun ⟨x, hx, hl⟩ => ⟨x, hx, by rw [h2 x hx]; exact hl⟩⟩
      have h5 : c.args.toList.map (ev cx σ) = c.args.toList.map (ev cx σ') := List.map_congr_left h2
      simp only [gCall, h1, h3, h4, h5]
    · split
      · rename_i x t e1 e2
        simp only [vLen, h2 x (by rw [e1]; simp), toD_congr ho]
      · rfl
    · split
      · rename_i x y e1
        simp only [vMax, h2 x (by rw [e1]; simp), h2 y (by rw [e1]; simp)]
      · rfl
    · split
      · rename_i x y e1
        simp only [vMin, h2 x (by rw [e1]; simp), h2 y (by rw [e1]; simp)]
      · rename_i x y z e1
        simp only [vMin3, h2 x (by rw [e1]; simp), h2 y (by rw [e1]; simp), h2 z (by rw [e1]; simp)]
      · rfl
    · rfl
  all_goals first
    | rfl
    | (simp only [List.mem_cons, List.not_mem_nil, or_false, forall_eq, forall_eq_or_imp] at he he0
       simp only [he0, vMove, vPick, vNil, vBin, vUn, vConv, vField, vFaddr, vIndex, vIdxA, vLoad, vExtract, he, ho, toD_congr ho])
end
end Go.Avc
