/- The calculus: loads, results taken apart, cuts, lengths, conversions, function values: what they compute. No condition. -/
import Derived.Test.YtcifphelninbmaaDoorAvc4
set_option linter.unusedVariables false
set_option linter.unusedSimpArgs false
namespace Go.Avc
open Go
section
variable {F : Fr} {M : Nat → Prop} {ρ : Nat → Value} {σ : St} {a : Act} {w : World} {ok : Nat → Prop}

/-- All of these cells are data. -/
def allD : List AV → Option (List D)
  | [] => some []
  | c :: r => match nrm c, allD r with
    | .dv (.d x), some l => some (x :: l)
    | _, _ => none

theorem allD_rd {F : Fr} : ∀ {cs : List AV} {l : List D} {vs : List Value}, allD cs = some l → cs.length = vs.length → (∀ (j : Nat) (x : AV) (u : Value), cs[j]? = some x → vs[j]? = some u → relA F.cx F.w0 ok ρ w x u) → RdL ok w l vs
  | [], l, vs, h, hl, _ => by
    simp only [allD, Option.some.injEq] at h
    subst h
    have : vs = [] := List.eq_nil_of_length_eq_zero hl.symm
    subst this
    exact RdL.nil
  | c :: r, l, vs, h, hl, hr => by
    cases vs with
    | nil => simp at hl
    | cons v vs =>
      unfold allD at h
      split at h
      · rename_i x l' e1 e2
        simp only [Option.some.injEq] at h
        subst h
        have h1 := allD_rd e2 (vs := vs) (by simpa using hl) (fun j x u hx hu => hr (j + 1) x u (by simpa using hx) (by simpa using hu))
        have h0 := nrm_rel (F := F) (hr 0 c v rfl rfl)
        rw [e1] at h0
        have := (RdL.one (show Rd ok w x v from h0)).append h1
        simpa using this
      · cases h

def vLoad (cx : Cx) (σ : St) (t : TypeId) (x : Operand) : Option (Prop × AV) := match ev cx σ x with
  | .dp l => match partD cx.P t l with
    | some (p, y) => some (p, .dv y)
    | none => none
  | .ptr k o => match σ.o k with
    | some (.box _ cs) => match Tk cx.P t with
      | some true => match allD ((cs.drop o).take (cx.P.cellsOf t)) with
        | some l => some (cx.P.cellsOf t ≠ 0 ∧ cx.P.cellsOf t ≤ l.length, .dv (.ag l))
        | none => none
      | some false => match cs.drop o with
        | c :: _ => some (True, c)
        | [] => none
      | none => none
    | _ => none
  | .eptr k i z o => match σ.o k with
    | some (.arr e z' l) => match partD cx.P t ((l.getD i (zRow cx.P e)).drop o) with
      | some (p, y) => some (z = z' ∧ i < l.length ∧ p, .dv y)
      | none => none
    | _ => none
  | _ => none

theorem ownsRow_cells {base : Nat} {e : TypeId} {z : Nat} {v : Value} {n : Nat} {xs : List Value} (h : w.ownsRow base e z v n xs) {g c m : Nat} (hg : v = .slice (some ⟨g, 0, none⟩) m c) :
    ∀ j u, xs[j]? = some u → w.cell? ⟨g, j, none⟩ = some u := by
  intro j u hj
  have := h.cells (g := g) (by rw [hg]; rfl) j u hj
  rwa [Addr.add_lit, Nat.zero_add] at this

theorem vLoad_sound (hF : F.Wf) (h : Rel1 F M ρ σ a w) {o : Oper} {t : TypeId} {x : Operand} (ho : o.op = .load t x) {p : Prop} {r : AV} (hv : vLoad F.cx σ t x = some (p, r)) (hp : p) :
    ∃ v, Runs F.cx.P a w o v ∧ relA F.cx F.w0 (okM F M) ρ w r v := by
  unfold vLoad at hv
  have hx := ev_rel hF h x
  obtain ⟨vx, ex⟩ : ∃ v, a.eval x = v := ⟨_, rfl⟩
  rw [ex] at hx
  split at hv
  · rename_i l e
    rw [e] at hx
    split at hv
    · rename_i q y hq
      simp only [Option.some.injEq, Prod.mk.injEq] at hv
      obtain ⟨rfl, rfl⟩ := hv
      obtain ⟨b, o', cs, rfl, hb, hlt, hc, hl⟩ := hx
      obtain ⟨v, h1, h2⟩ := load_run (P := F.cx.P) hl hc hq hp
      exact ⟨v, by simp [Runs, execOp, ho, ex, Instr.loadAt, Instr.sureAddr, h1], h2⟩
    · cases hv
  · rename_i k o' e
    rw [e] at hx
    obtain ⟨b, hk0, rfl⟩ := hx
    split at hv
    · rename_i T cs hk
      obtain ⟨b', vs, hk1, hM, hh, hl, hc⟩ := h.ob k _ hk
      rw [hk0] at hk1
      simp only [Value.pointer.injEq, Option.some.injEq, Addr.mk.injEq, and_true, true_and] at hk1
      subst hk1
      have hcell : ∀ j u, vs[j]? = some u → w.cell? ⟨b, j, none⟩ = some u := fun j u hj => by
        unfold World.cell?
        rw [hh]
        simpa using hj
      split at hv
      · rename_i hT
        split at hv
        · rename_i l hD
          simp only [Option.some.injEq, Prod.mk.injEq] at hv
          obtain ⟨rfl, rfl⟩ := hv
          have hR : RdL (okM F M) w l ((vs.toList.drop o').take (F.cx.P.cellsOf t)) := by
            refine allD_rd (F := F) (ρ := ρ) hD (by simp [hl]) (fun j y u hy hu => ?_)
            rw [List.getElem?_take] at hy hu
            split at hy
            · rename_i hj
              rw [if_pos hj] at hu
              rw [List.getElem?_drop] at hy hu
              rw [Array.getElem?_toList] at hu
              exact (hc _ y u hy hu).2
            · cases hy
          have hpart : partD F.cx.P t l = some (F.cx.P.cellsOf t ≠ 0 ∧ F.cx.P.cellsOf t ≤ l.length, .ag (l.take (F.cx.P.cellsOf t))) := by
            unfold partD
            rw [hT]
          obtain ⟨v, h1, h2⟩ := load_run (P := F.cx.P) (b := b) (o := o') hR (fun j u hj => by
            rw [List.getElem?_take] at hj
            split at hj
            · rw [List.getElem?_drop, Array.getElem?_toList] at hj
              exact hcell _ u hj
            · cases hj) hpart hp
          have hlen : l.take (F.cx.P.cellsOf t) = l := by
            have : l.length ≤ F.cx.P.cellsOf t := by
              rw [hR.1]
              simp only [List.length_take]
              omega
            exact List.take_of_length_le this
          rw [hlen] at h2
          exact ⟨v, by simp [Runs, execOp, ho, ex, Instr.loadAt, Instr.sureAddr, h1], h2⟩
        · cases hv
      · rename_i hT
        split at hv
        · rename_i c rr e2
          simp only [Option.some.injEq, Prod.mk.injEq] at hv
          obtain ⟨_, rfl⟩ := hv
          have h0 : cs[o']? = some c := by
            have := List.getElem?_drop (xs := cs) (i := o') (j := 0)
            rw [e2] at this
            simpa using this.symm
          have hlt : o' < vs.size := by
            have := (List.getElem?_eq_some_iff.1 h0).1
            omega
          have hu : vs[o']? = some vs[o'] := Array.getElem?_eq_getElem hlt
          exact ⟨vs[o'], by simp [Runs, execOp, ho, ex, Instr.loadAt, Instr.sureAddr, loadVar, Tk_agg hT, hcell _ _ hu], (hc _ _ _ h0 hu).2⟩
        · cases hv
      · cases hv
    · cases hv
  · rename_i k i z o' e
    rw [e] at hx
    obtain ⟨b, n, c, hk0, rfl⟩ := hx
    split at hv
    · rename_i T z' l hk
      split at hv
      · rename_i q y hq
        simp only [Option.some.injEq, Prod.mk.injEq] at hv
        obtain ⟨rfl, rfl⟩ := hv
        obtain ⟨rfl, hlt, hp⟩ := hp
        obtain ⟨cs, hown, hM, hz, hl⟩ := h.ob k _ hk
        have hrow : RdL (okM F M) w ((l.getD i (zRow F.cx.P T)).drop o') (((cs.drop (i * z)).take z).drop o') := by
          rw [← flatten_get hz (getD_some hlt)]
          exact (hl.slice _ _).drop _
        obtain ⟨v, h1, h2⟩ := load_run (P := F.cx.P) (b := b) (o := i * z + o') hrow (fun j u hj => by
          rw [List.getElem?_drop, List.getElem?_take] at hj
          split at hj
          · rw [List.getElem?_drop] at hj
            have := ownsRow_cells hown hk0 _ u hj
            rwa [← Nat.add_assoc] at this
          · cases hj) hq hp
        exact ⟨v, by simp [Runs, execOp, ho, ex, Instr.loadAt, Instr.sureAddr, h1], h2⟩
      · cases hv
    · cases hv
  · cases hv

/-! ### A result taken apart -/
def nthT : AV → Nat → Option AV
  | .tcons a _, 0 => some a
  | .tcons _ t, i + 1 => nthT t i
  | _, _ => none
theorem nthT_rel {cx : Cx} {w0 : World} : ∀ {t : AV} {i : Nat} {r : AV} {vs : List Value}, nthT t i = some r → relT cx w0 ok ρ w t vs → ∃ v, vs[i]? = some v ∧ rel0 cx w0 ok ρ w r v
  | .tcons a t, 0, r, vs, h, hr => by
    obtain ⟨v, q, rfl, ha, _⟩ := hr
    simp only [nthT, Option.some.injEq] at h
    subst h
    exact ⟨v, rfl, ha⟩
  | .tcons a t, i + 1, r, vs, h, hr => by
    obtain ⟨v, q, rfl, _, ht⟩ := hr
    obtain ⟨u, h1, h2⟩ := nthT_rel (i := i) h ht
    exact ⟨u, by simpa using h1, h2⟩
def vExtract (cx : Cx) (σ : St) (x : Operand) (i : Nat) : Option (Prop × AV) := match nthT (ev cx σ x) i with
  | some r => some (True, r)
  | none => none
theorem vExtract_sound (hF : F.Wf) (h : Rel1 F M ρ σ a w) {o : Oper} {x : Operand} {i : Nat} (ho : o.op = .extract x i) {p : Prop} {r : AV} (hv : vExtract F.cx σ x i = some (p, r)) (hp : p) :
    ∃ v, Runs F.cx.P a w o v ∧ relA F.cx F.w0 (okM F M) ρ w r v := by
  unfold vExtract at hv
  have hx := ev_rel hF h x
  obtain ⟨vx, ex⟩ : ∃ v, a.eval x = v := ⟨_, rfl⟩
  rw [ex] at hx
  split at hv
  · rename_i q e
    simp only [Option.some.injEq, Prod.mk.injEq] at hv
    obtain ⟨_, rfl⟩ := hv
    cases hA : ev F.cx σ x with
    | tcons b t =>
      rw [hA] at hx e
      obtain ⟨vs, rfl, ht⟩ := hx
      obtain ⟨v, h1, h2⟩ := nthT_rel e ht
      exact ⟨v, by simp [Runs, execOp, ho, ex, Instr.extract, h1], relA_of0 h2⟩
    | _ => rw [hA] at e; simp [nthT] at e
  · cases hv

/-! ### Lengths -/
/-- What a slot holds, as data: a slice of the call's own as a slice. -/
def toD (σ : St) : AV → AV
  | .own k => match σ.o k with
    | some (.arr _ _ l) => .sl l
    | _ => .un
  | r => r

def vLen (cx : Cx) (σ : St) (t : TypeId) (x : Operand) : Option (Prop × AV) := match cx.P.underlying t, toD σ (ev cx σ x) with
  | some .string, .dv (.d (.str s)) => some (True, .i s.size)
  | some (.slice _), .dv (.d (.sl l)) => some (True, .i l.length)
  | _, _ => none
theorem sl_form {l : List (List D)} {v : Value} (h : Rd ok w (.sl l) v) : ∃ A c, v = .slice A l.length c := by
  cases h with
  | nil A c => exact ⟨A, c, rfl⟩
  | sl _ z b o c u => exact ⟨_, c, rfl⟩
theorem vLen_sound (hF : F.Wf) (h : Rel1 F M ρ σ a w) {o : Oper} {t : TypeId} {x : Operand} (ho : o.op = .call { callee := .builtin .len, args := #[x], argTypes := #[t] }) {p : Prop} {r : AV} (hv : vLen F.cx σ t x = some (p, r)) (hp : p) :
    ∃ v, Runs F.cx.P a w o v ∧ relA F.cx F.w0 (okM F M) ρ w r v := by
  unfold vLen at hv
  have hx := ev_rel hF h x
  obtain ⟨vx, ex⟩ : ∃ v, a.eval x = v := ⟨_, rfl⟩
  rw [ex] at hx
  split at hv
  · rename_i s hu e
    simp only [Option.some.injEq, Prod.mk.injEq] at hv
    obtain ⟨_, rfl⟩ := hv
    have e' : ev F.cx σ x = .dv (.d (.str s)) := by
      cases hA : ev F.cx σ x with
      | own k =>
        rw [hA] at e
        simp only [toD] at e
        split at e <;> cases e
      | _ => rw [hA] at e; exact e
    rw [e'] at hx
    cases (show Rd _ _ (.str s) vx from hx)
    exact ⟨.int .i64 s.size, by simp [Runs, execOp, ho, ex, resolve, invoke, builtin, Builtin.len_, run_underlying hu, goInt], Rd.int _ _⟩
  · rename_i e' l hu e
    simp only [Option.some.injEq, Prod.mk.injEq] at hv
    obtain ⟨_, rfl⟩ := hv
    have hf : ∃ A c, vx = .slice A l.length c := by
      cases hA : ev F.cx σ x with
      | own k =>
        rw [hA] at e hx
        simp only [toD] at e
        split at e
        · rename_i hk
          cases e
          obtain ⟨cs, hown, _⟩ := h.ob k _ hk
          have hvx : vx = ρ k := hx
          rcases hown.2 with ⟨h1, h2⟩ | ⟨g, cap, cur, hg, _⟩
          · exact ⟨none, 0, by rw [hvx, h1, h2]⟩
          · exact ⟨_, cap, by rw [hvx, hg]⟩
        · cases e
      | dv y =>
        rw [hA] at e hx
        cases y with
        | ag m => simp [toD] at e
        | d y =>
          simp only [toD, AV.dv.injEq, DV.d.injEq] at e
          subst e
          exact sl_form hx
      | _ => rw [hA] at e; simp [toD] at e
    obtain ⟨A, c, rfl⟩ := hf
    exact ⟨.int .i64 l.length, by simp [Runs, execOp, ho, ex, resolve, invoke, builtin, Builtin.len_, run_underlying hu, goInt], Rd.int _ _⟩
  · cases hv

/-! ### The greater, the less of two -/
def vMax (cx : Cx) (σ : St) (x y : Operand) : Option (Prop × AV) := match ev cx σ x, ev cx σ y with
  | .dv (.d (.int k m)), .dv (.d (.int k' n)) => some (True, .dv (.d (.int k (if m < n then n else m))))
  | _, _ => none
def vMin (cx : Cx) (σ : St) (x y : Operand) : Option (Prop × AV) := match ev cx σ x, ev cx σ y with
  | .dv (.d (.int k m)), .dv (.d (.int k' n)) => some (True, .dv (.d (.int k (if n < m then n else m))))
  | _, _ => none
theorem vMax_sound (hF : F.Wf) (h : Rel1 F M ρ σ a w) {o : Oper} {x y : Operand} {ts : Array TypeId} (ho : o.op = .call { callee := .builtin .max, args := #[x, y], argTypes := ts }) {p : Prop} {r : AV} (hv : vMax F.cx σ x y = some (p, r)) (hp : p) :
    ∃ v, Runs F.cx.P a w o v ∧ relA F.cx F.w0 (okM F M) ρ w r v := by
  unfold vMax at hv
  have hx := ev_rel hF h x
  have hy := ev_rel hF h y
  obtain ⟨vx, ex⟩ : ∃ v, a.eval x = v := ⟨_, rfl⟩
  obtain ⟨vy, ey⟩ : ∃ v, a.eval y = v := ⟨_, rfl⟩
  rw [ex] at hx
  rw [ey] at hy
  split at hv
  · rename_i k m k' n e1 e2
    rw [e1] at hx
    rw [e2] at hy
    cases (show Rd _ _ (.int k m) vx from hx)
    cases (show Rd _ _ (.int k' n) vy from hy)
    simp only [Option.some.injEq, Prod.mk.injEq] at hv
    obtain ⟨_, rfl⟩ := hv
    exact ⟨.int k (if m < n then n else m), by simp [Runs, execOp, ho, ex, ey, resolve, invoke, builtin, Builtin.max_, Builtin.max2], Rd.int _ _⟩
  · cases hv
theorem vMin_sound (hF : F.Wf) (h : Rel1 F M ρ σ a w) {o : Oper} {x y : Operand} {ts : Array TypeId} (ho : o.op = .call { callee := .builtin .min, args := #[x, y], argTypes := ts }) {p : Prop} {r : AV} (hv : vMin F.cx σ x y = some (p, r)) (hp : p) :
    ∃ v, Runs F.cx.P a w o v ∧ relA F.cx F.w0 (okM F M) ρ w r v := by
  unfold vMin at hv
  have hx := ev_rel hF h x
  have hy := ev_rel hF h y
  obtain ⟨vx, ex⟩ : ∃ v, a.eval x = v := ⟨_, rfl⟩
  obtain ⟨vy, ey⟩ : ∃ v, a.eval y = v := ⟨_, rfl⟩
  rw [ex] at hx
  rw [ey] at hy
  split at hv
  · rename_i k m k' n e1 e2
    rw [e1] at hx
    rw [e2] at hy
    cases (show Rd _ _ (.int k m) vx from hx)
    cases (show Rd _ _ (.int k' n) vy from hy)
    simp only [Option.some.injEq, Prod.mk.injEq] at hv
    obtain ⟨_, rfl⟩ := hv
    exact ⟨.int k (if n < m then n else m), by simp [Runs, execOp, ho, ex, ey, resolve, invoke, builtin, Builtin.min_, Builtin.min2], Rd.int _ _⟩
  · cases hv

def vMin3 (cx : Cx) (σ : St) (x y z : Operand) : Option (Prop × AV) := match ev cx σ x, ev cx σ y, ev cx σ z with
  | .dv (.d (.int k m)), .dv (.d (.int _ n)), .dv (.d (.int _ q)) => some (True, .dv (.d (.int k (if q < (if n < m then n else m) then q else (if n < m then n else m)))))
  | _, _, _ => none
theorem vMin3_sound (hF : F.Wf) (h : Rel1 F M ρ σ a w) {o : Oper} {x y z : Operand} {ts : Array TypeId} (ho : o.op = .call { callee := .builtin .min, args := #[x, y, z], argTypes := ts }) {p : Prop} {r : AV} (hv : vMin3 F.cx σ x y z = some (p, r)) (hp : p) :
    ∃ v, Runs F.cx.P a w o v ∧ relA F.cx F.w0 (okM F M) ρ w r v := by
  unfold vMin3 at hv
  have hx := ev_rel hF h x
  have hy := ev_rel hF h y
  have hz := ev_rel hF h z
  obtain ⟨vx, ex⟩ : ∃ v, a.eval x = v := ⟨_, rfl⟩
  obtain ⟨vy, ey⟩ : ∃ v, a.eval y = v := ⟨_, rfl⟩
  obtain ⟨vz, ez⟩ : ∃ v, a.eval z = v := ⟨_, rfl⟩
  rw [ex] at hx
  rw [ey] at hy
  rw [ez] at hz
  split at hv
  · rename_i k m k' n k'' q e1 e2 e3
    rw [e1] at hx
    rw [e2] at hy
    rw [e3] at hz
    cases (show Rd _ _ (.int k m) vx from hx)
    cases (show Rd _ _ (.int k' n) vy from hy)
    cases (show Rd _ _ (.int k'' q) vz from hz)
    simp only [Option.some.injEq, Prod.mk.injEq] at hv
    obtain ⟨_, rfl⟩ := hv
    exact ⟨.int k (if q < (if n < m then n else m) then q else (if n < m then n else m)), by simp [Runs, execOp, ho, ex, ey, ez, resolve, invoke, builtin, Builtin.min_, Builtin.min2], Rd.int _ _⟩
  · cases hv

/-! ### Cuts -/
def bnd (cx : Cx) (σ : St) (d : Int) : Option Operand → Option Int
  | none => some d
  | some x => match ev cx σ x with
    | .dv (.d (.int _ n)) => some n
    | _ => none
def vSlice (cx : Cx) (σ : St) (t : TypeId) (x : Operand) (lo hi : Option Operand) : Option (Prop × AV) := match cx.P.underlying t, toD σ (ev cx σ x) with
  | some .string, .dv (.d (.str s)) => match bnd cx σ 0 lo, bnd cx σ s.size hi with
    | some l, some h => some (0 ≤ l ∧ l ≤ h ∧ h ≤ s.size, .str (s.extract l.toNat h.toNat))
    | _, _ => none
  | some (.slice e), .dv (.d (.sl xs)) => match ev cx σ x with
    | .dv _ => match bnd cx σ 0 lo, bnd cx σ xs.length hi with
      | some l, some h => some (0 ≤ l ∧ l ≤ h ∧ h ≤ (xs.length : Int) ∧ cx.P.cellsOf e ≠ 0 ∧ ∀ x ∈ xs, x.length = cx.P.cellsOf e, .sl ((xs.take h.toNat).drop l.toNat))
      | _, _ => none
    | _ => none
  | _, _ => none

theorem bnd_run (hF : F.Wf) (h : Rel1 F M ρ σ a w) {d n : Int} {x : Option Operand} (hx : bnd F.cx σ d x = some n) : (x = none ∧ n = d) ∨ ∃ y k, x = some y ∧ a.eval y = .int k n := by
  cases x with
  | none =>
    simp only [bnd, Option.some.injEq] at hx
    exact .inl ⟨rfl, hx.symm⟩
  | some y =>
    simp only [bnd] at hx
    have hy := ev_rel hF h y
    split at hx
    · rename_i k m e
      rw [e] at hy
      simp only [Option.some.injEq] at hx
      subst hx
      refine .inr ⟨y, k, rfl, ?_⟩
      obtain ⟨v, ev'⟩ : ∃ v, a.eval y = v := ⟨_, rfl⟩
      rw [ev'] at hy ⊢
      cases (show Rd _ _ (.int k m) v from hy)
      rfl
    · cases hx

theorem Rd.cut {xs : List (List D)} {A : Option Addr} {n c : Nat} (hr : Rd ok w (.sl xs) (.slice A n c)) {l h z : Nat} (hlh : l ≤ h) (hh : h ≤ xs.length) (hz : ∀ x ∈ xs, x.length = z) :
    Rd ok w (.sl ((xs.take h).drop l)) (.slice (if c = l then A else A.map (·.add (l * z))) (h - l) (c - l)) := by
  have hlen : ((xs.take h).drop l).length = h - l := by simp; omega
  cases hr with
  | nil A c =>
    have : h = 0 := by simpa using hh
    subst this
    have : l = 0 := by omega
    subst this
    simpa using Rd.nil (ok := ok) (w := w) _ (c - 0)
  | sl _ z' b o c u hc hb hlt hz' hu hr =>
    by_cases hhl : h - l = 0
    · have he : (xs.take h).drop l = [] := List.eq_nil_of_length_eq_zero (by omega)
      rw [he, hhl]
      exact Rd.nil _ _
    · have hzz : z' = z := by
        have h0 : 0 < xs.length := by omega
        exact (hz' 0 _ (List.getElem?_eq_getElem h0)).symm.trans (hz _ (List.getElem_mem h0))
      subst hzz
      rw [if_neg (by omega)]
      have key := Rd.sl (ok := ok) (w := w) ((xs.take h).drop l) z' b (o + l * z') (c - l) (fun i j => u (l + i) j) (by omega) hb hlt
        (fun i x hi => by
          rw [List.getElem?_drop, List.getElem?_take] at hi
          split at hi
          · exact hz' _ x hi
          · cases hi)
        (fun i x hi j y hj => by
          rw [List.getElem?_drop, List.getElem?_take] at hi
          split at hi
          · have := hu _ x hi j y hj
            rwa [Nat.add_mul, ← Nat.add_assoc] at this
          · cases hi)
        (fun i x hi j y hj => by
          rw [List.getElem?_drop, List.getElem?_take] at hi
          split at hi
          · exact hr _ x hi j y hj
          · cases hi)
      rw [hlen] at key
      simpa [Addr.add_lit] using key

theorem vSlice_sound (hF : F.Wf) (h : Rel1 F M ρ σ a w) {o : Oper} {t : TypeId} {x : Operand} {lo hi : Option Operand} (ho : o.op = .slice t x lo hi none) {p : Prop} {r : AV} (hv : vSlice F.cx σ t x lo hi = some (p, r)) (hp : p) :
    ∃ v, Runs F.cx.P a w o v ∧ relA F.cx F.w0 (okM F M) ρ w r v := by
  unfold vSlice at hv
  have hx := ev_rel hF h x
  obtain ⟨vx, ex⟩ : ∃ v, a.eval x = v := ⟨_, rfl⟩
  rw [ex] at hx
  split at hv
  · rename_i s hu e
    have e' : ev F.cx σ x = .dv (.d (.str s)) := by
      cases hA : ev F.cx σ x with
      | own k =>
        rw [hA] at e
        simp only [toD] at e
        split at e <;> cases e
      | _ => rw [hA] at e; exact e
    rw [e'] at hx
    cases (show Rd _ _ (.str s) vx from hx)
    split at hv
    · rename_i l hh e1 e2
      simp only [Option.some.injEq, Prod.mk.injEq] at hv
      obtain ⟨rfl, rfl⟩ := hv
      obtain ⟨p1, p2, p3⟩ := hp
      refine ⟨.string (s.extract l.toNat hh.toNat), ?_, Rd.str _⟩
      rcases bnd_run hF h e1 with ⟨rfl, rfl⟩ | ⟨y1, k1, rfl, ey1⟩ <;> rcases bnd_run hF h e2 with ⟨rfl, rfl⟩ | ⟨y2, k2, rfl, ey2⟩
      · simp [Runs, execOp, ho, ex, Instr.sliceAt, Instr.slice, Instr.sliceBounds, Instr.sliceBound, asIntOf, run_underlying hu]
      · simp [Runs, execOp, ho, ex, ey2, Instr.sliceAt, Instr.slice, Instr.sliceBounds, Instr.sliceBound, asIntOf, run_underlying hu, p3, show 0 ≤ hh by omega]
      · simp [Runs, execOp, ho, ex, ey1, Instr.sliceAt, Instr.slice, Instr.sliceBounds, Instr.sliceBound, asIntOf, run_underlying hu, p1, p2]
      · have hm : max hh 0 = hh := by omega
        simp [Runs, execOp, ho, ex, ey1, ey2, Instr.sliceAt, Instr.slice, Instr.sliceBounds, Instr.sliceBound, asIntOf, run_underlying hu, p1, p2, p3, hm, show 0 ≤ hh by omega]
    · cases hv
  · rename_i e0 xs hu e
    split at hv
    · rename_i y0 e3
      rw [e3] at e hx
      have e4 : y0 = .d (.sl xs) := by simpa [toD] using e
      subst e4
      split at hv
      · rename_i l hh e1 e2
        simp only [Option.some.injEq, Prod.mk.injEq] at hv
        obtain ⟨rfl, rfl⟩ := hv
        obtain ⟨p1, p2, p3, p4, p5⟩ := hp
        obtain ⟨A, c, rfl⟩ := sl_form (show Rd _ _ (.sl xs) vx from hx)
        have hc : xs.length ≤ c ∨ xs.length = 0 := by
          cases (show Rd _ _ (.sl xs) _ from hx) with
          | nil A c => exact .inr rfl
          | sl _ _ _ _ _ _ hc => exact .inl hc
        have hres := Rd.cut (show Rd (okM F M) w (.sl xs) _ from hx) (l := l.toNat) (h := hh.toNat) (by omega) (by omega) p5
        refine ⟨_, ?_, hres⟩
        have q1 : hh ≤ (c : Int) := by omega
        rcases bnd_run hF h e1 with ⟨rfl, rfl⟩ | ⟨y1, k1, rfl, ey1⟩ <;> rcases bnd_run hF h e2 with ⟨rfl, rfl⟩ | ⟨y2, k2, rfl, ey2⟩
        · simp [Runs, execOp, ho, ex, Instr.sliceAt, Instr.slice, Instr.sliceBounds, Instr.sliceBound, asIntOf, run_underlying hu, size_run p4]
        · simp [Runs, execOp, ho, ex, ey2, Instr.sliceAt, Instr.slice, Instr.sliceBounds, Instr.sliceBound, asIntOf, run_underlying hu, size_run p4, q1, show 0 ≤ hh by omega]
        · simp [Runs, execOp, ho, ex, ey1, Instr.sliceAt, Instr.slice, Instr.sliceBounds, Instr.sliceBound, asIntOf, run_underlying hu, size_run p4, p1, p2]
        · have hm : max hh 0 = hh := by omega
          simp [Runs, execOp, ho, ex, ey1, ey2, Instr.sliceAt, Instr.slice, Instr.sliceBounds, Instr.sliceBound, asIntOf, run_underlying hu, size_run p4, p1, p2, q1, hm, show 0 ≤ hh by omega]
      · cases hv
    · cases hv
  · cases hv
end
end Go.Avc
