/- The calculus: operations in a drawn order, by what is asked in the order of the text. No condition. -/
import Derived.Test.YtcifphelninbmaaDoorAvc14
set_option linter.unusedVariables false
set_option linter.unusedSimpArgs false
namespace Go.Avc
open Go

section
variable {cx : Cx} {E : Env} {B : Nat} {σ : St} {ops : Array Oper} {K K' : St → Prop} {o o1 o2 : Oper}

theorem reads_looks {o : Oper} {t : Tmp} (h : t ∈ readsOf o) : t ∈ o.looksAt ops := by
  unfold readsOf at h
  obtain ⟨x, hx, ht⟩ := List.mem_flatMap.1 h
  cases x with
  | tmp u =>
    simp only [tmpOf, List.mem_singleton] at ht
    subst ht
    exact List.mem_append_left _ (List.mem_filterMap.2 ⟨.tmp t, hx, rfl⟩)
  | _ => simp [tmpOf] at ht

def St.adv (σ : St) (k : Nat) (d : Option Tmp) (r : AV) : St := { σ with c := σ.c + k }.put d r

theorem adv_o (k : Nat) (d : Option Tmp) (r : AV) : (σ.adv k d r).o = σ.o := by cases d <;> rfl
theorem adv_c (k : Nat) (d : Option Tmp) (r : AV) : (σ.adv k d r).c = σ.c + k := by cases d <;> rfl
theorem adv_s {k : Nat} {d : Option Tmp} {r : AV} {t : Tmp} (h : ∀ e, d = some e → e ≠ t) : (σ.adv k d r).s t = σ.s t := by
  cases d with
  | none => rfl
  | some e => show upd _ _ _ _ = _; rw [upd_apply, if_neg (fun x => h e rfl x.symm)]

theorem adv_comm {k1 k2 : Nat} {d1 d2 : Option Tmp} {r1 r2 : AV} (h : ∀ e, d1 = some e → d2 ≠ some e) : (σ.adv k1 d1 r1).adv k2 d2 r2 = (σ.adv k2 d2 r2).adv k1 d1 r1 := by
  cases d1 with
  | none =>
    cases d2 with
    | none => simp only [St.adv, St.put, Nat.add_right_comm]
    | some e => simp only [St.adv, St.put, Nat.add_right_comm]
  | some e1 =>
    cases d2 with
    | none => simp only [St.adv, St.put, Nat.add_right_comm]
    | some e2 =>
      have hne : e1 ≠ e2 := fun x => h e1 rfl (x ▸ rfl)
      simp only [St.adv, St.put, Nat.add_right_comm, St.mk.injEq, and_true]
      funext t
      simp only [upd_apply]
      by_cases h1 : t = e1
      · subst h1
        rw [if_pos rfl, if_neg hne, if_pos rfl]
      · rw [if_neg h1, if_neg h1]

theorem guard_adv {k : Nat} {d : Option Tmp} {r : AV} (h : ∀ e, d = some e → e ∉ o.looksAt ops) : guardA (σ.adv k d r) ops o = guardA σ ops o := by
  unfold guardA
  split
  · rfl
  · rename_i g want e
    split
    · rfl
    · rename_i t e2
      rw [adv_s (fun e' he' x => h e' he' (by subst x; simp [Oper.looksAt, e, e2]))]

theorem gop_adv {k : Nat} {d : Option Tmp} {r : AV} (h : ∀ e, d = some e → e ∉ o.looksAt ops) : gop cx E (σ.adv k d r) o = gop cx E σ o :=
  gop_congr (adv_o k d r) fun t ht => adv_s fun e he x => h e he (x ▸ reads_looks ht)

theorem exG_iff : exG cx E B σ o K ↔ ∃ g, gop cx E σ o = some g ∧ g.pre ∧ σ.c + g.cost ≤ B ∧ ∀ r, g.post r → K (σ.adv g.cost o.dst r) := by
  unfold exG
  split
  · rename_i h; simp [h]
  · rename_i g h; simp only [h, Option.some.injEq, exists_eq_left']; exact Iff.rfl

theorem vcOp_G (h : isS o.op = false) : vcOp cx E B ops o K σ ↔ (guardA σ ops o = some true ∧ exG cx E B σ o K) ∨ (guardA σ ops o = some false ∧ K (σ.adv 0 o.dst .tnil)) := by
  unfold vcOp ex
  split
  · rename_i e; simp [e]
  · rename_i e; simp [e, h]
  · rename_i e; simp [e]; exact Iff.rfl

theorem vcOp_mono {o : Oper} (hK : ∀ σ, K σ → K' σ) (h : isS o.op = false) (hx : vcOp cx E B ops o K σ) : vcOp cx E B ops o K' σ := by
  rw [vcOp_G h] at hx ⊢
  rcases hx with ⟨h1, h2⟩ | ⟨h1, h2⟩
  · refine .inl ⟨h1, ?_⟩
    rw [exG_iff] at h2 ⊢
    obtain ⟨g, h3, h4, h5, h6⟩ := h2
    exact ⟨g, h3, h4, h5, fun r hr => hK _ (h6 r hr)⟩
  · exact .inr ⟨h1, hK _ h2⟩

/-- Two operations apart from each other, in either order. -/
theorem vcOp_swap (hE : EnvOk cx E) (h1 : isS o1.op = false) (h2 : isS o2.op = false) (hap : Oper.apart ops o1 o2 = true) (hx : vcOp cx E B ops o1 (vcOp cx E B ops o2 K) σ) : vcOp cx E B ops o2 (vcOp cx E B ops o1 K) σ := by
  obtain ⟨a1, a2, a3⟩ := Oper.apart_spec hap
  rw [vcOp_G h1] at hx
  rw [vcOp_G h2]
  rcases hx with ⟨hg, hx⟩ | ⟨hg, hx⟩
  · rw [exG_iff] at hx
    obtain ⟨g1, e1, p1, c1, hx⟩ := hx
    obtain ⟨r1, hr1⟩ := gop_ne hE e1 p1
    have hx' := fun r hr => (vcOp_G h2).1 (hx r hr)
    simp only [guard_adv a1, exG_iff, gop_adv a1, adv_c] at hx'
    rcases hx' r1 hr1 with ⟨hg2, g2, e2, p2, c2, _⟩ | ⟨hg2, _⟩
    · refine .inl ⟨hg2, ?_⟩
      rw [exG_iff]
      refine ⟨g2, e2, p2, by omega, fun r2 hr2 => ?_⟩
      rw [vcOp_G h1, guard_adv a3]
      refine .inl ⟨hg, ?_⟩
      rw [exG_iff, gop_adv a3, adv_c]
      refine ⟨g1, e1, p1, by omega, fun r hr => ?_⟩
      rcases hx' r hr with ⟨_, g2', e2', _, _, h⟩ | ⟨hg2', _⟩
      · rw [e2] at e2'
        cases e2'
        rw [← adv_comm a2]
        exact h r2 hr2
      · rw [hg2] at hg2'; cases hg2'
    · refine .inr ⟨hg2, ?_⟩
      rw [vcOp_G h1, guard_adv a3]
      refine .inl ⟨hg, ?_⟩
      rw [exG_iff, gop_adv a3, adv_c]
      refine ⟨g1, e1, p1, by omega, fun r hr => ?_⟩
      rcases hx' r hr with ⟨hg2', _⟩ | ⟨_, h⟩
      · rw [hg2] at hg2'; cases hg2'
      · rw [← adv_comm a2]
        exact h
  · rw [vcOp_G h2, guard_adv a1, exG_iff, gop_adv a1, adv_c] at hx
    rcases hx with ⟨hg2, g2, e2, p2, c2, h⟩ | ⟨hg2, h⟩
    · refine .inl ⟨hg2, ?_⟩
      rw [exG_iff]
      refine ⟨g2, e2, p2, by omega, fun r2 hr2 => ?_⟩
      rw [vcOp_G h1, guard_adv a3]
      refine .inr ⟨hg, ?_⟩
      rw [← adv_comm a2]
      exact h r2 hr2
    · refine .inr ⟨hg2, ?_⟩
      rw [vcOp_G h1, guard_adv a3]
      refine .inr ⟨hg, ?_⟩
      rw [← adv_comm a2]
      exact h

theorem vcL_append (l r : List Oper) (σ : St) : vcL cx E B ops K (l ++ r) σ = vcL cx E B ops (vcL cx E B ops K r) l σ := by
  induction l generalizing σ with
  | nil => rfl
  | cons o l ih =>
    show vcOp cx E B ops o _ σ = vcOp cx E B ops o _ σ
    congr 1
    funext σ'
    exact ih σ'

/-- An operation that stands apart from all ahead of it, pulled to the front. -/
theorem vcL_front (hE : EnvOk cx E) {r : List Oper} : ∀ (l : List Oper) (σ : St), (∀ x ∈ l, isS x.op = false ∧ isS o.op = false ∧ Oper.apart ops x o = true) → vcL cx E B ops K (l ++ o :: r) σ → vcL cx E B ops K (o :: (l ++ r)) σ
  | [], σ, _, h => h
  | x :: l, σ, hx, h => by
    obtain ⟨h1, h2, h3⟩ := hx x List.mem_cons_self
    have h4 : vcOp cx E B ops x (vcL cx E B ops K (o :: (l ++ r))) σ := vcOp_mono (fun σ' h' => vcL_front hE l σ' (fun y hy => hx y (List.mem_cons_of_mem _ hy)) h') h1 h
    exact vcOp_swap hE h1 h2 h3 h4

/-! ### The static test of a region whose order is drawn -/
def edgeIn (e : Edge) : Bool := Region.binds .any e
def mstep (ms : List Nat) (o : Oper) : List Nat := ms ++ [o.after.foldl (fun m e => if edgeIn e then m ||| (1 <<< e.on) ||| ms.getD e.on 0 else m) 0]
def masks (ops : Array Oper) : List Nat := ops.foldl mstep []
def regOkL (ops : Array Oper) (L : Array Bool) : Bool := (List.range ops.size).all fun i => match ops[i]? with
  | none => true
  | some o => (o.after.all fun e => !edgeIn e || decide (e.on < i)) && (List.range i).all fun a =>
      if ((masks ops).getD i 0).testBit a then o.after.any fun e => edgeIn e && (e.on == a || (decide (a < e.on) && ((masks ops).getD e.on 0).testBit a))
      else L.getD i false || L.getD a false || match ops[a]? with
        | none => true
        | some x => !isS x.op && !isS o.op && Oper.apart ops x o
def regOk (ops : Array Oper) : Bool := regOkL ops #[]
end
end Go.Avc
