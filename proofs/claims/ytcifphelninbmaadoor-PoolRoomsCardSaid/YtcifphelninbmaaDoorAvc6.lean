/- The calculus: values built, slices written out, conversions, function values. No condition. -/
import Derived.Test.YtcifphelninbmaaDoorAvc5
import Derived.Laws.Tables
set_option linter.unusedVariables false
set_option linter.unusedSimpArgs false
namespace Go.Avc
open Go

/-- l with x laid over its cells from off on. -/
def spl {α : Type} (l : List α) (off : Nat) (x : List α) : List α := l.take off ++ x ++ l.drop (off + x.length)

theorem spl_set {α : Type} (l : List α) (off : Nat) (y : α) (x : List α) (h : off + (x.length + 1) ≤ l.length) : spl (l.set off y) (off + 1) x = spl l off (y :: x) := by
  unfold spl
  apply List.ext_getElem?
  intro i
  simp only [List.getElem?_append, List.length_take, List.length_set, List.getElem?_take, List.getElem?_set, List.length_append, List.getElem?_drop, List.length_cons, List.getElem?_cons]
  by_cases h1 : i < off
  · have : i < min (off + 1) l.length := by omega
    have h2 : i < min off l.length := by omega
    simp [this, h2, show i < off + 1 by omega, h1, show ¬ off = i by omega, show i < min (off + 1) l.length + x.length by omega, show i < min off l.length + (x.length + 1) by omega]
  · by_cases h2 : i = off
    · subst h2
      have a1 : i < min (i + 1) l.length := by omega
      have a2 : ¬ i < min i l.length := by omega
      have a3 : i < l.length := by omega
      simp [a1, a2, a3, show i < min (i + 1) l.length + x.length by omega, show i < min i l.length + (x.length + 1) by omega, show i - min i l.length = 0 by omega]
    · by_cases h3 : i < off + 1 + x.length
      · have a1 : ¬ i < min (off + 1) l.length := by omega
        have a2 : ¬ i < min off l.length := by omega
        simp [a1, a2, show i < min (off + 1) l.length + x.length by omega, show i < min off l.length + (x.length + 1) by omega, show ¬ i - min off l.length = 0 by omega, show i - min off l.length - 1 = i - min (off + 1) l.length by omega]
      · have a1 : ¬ i < min (off + 1) l.length + x.length := by omega
        have a2 : ¬ i < min off l.length + (x.length + 1) := by omega
        simp [a1, a2, show ¬ off = off + (x.length + 1) + (i - (min off l.length + (x.length + 1))) by omega, show ¬ off = off + 1 + x.length + (i - (min (off + 1) l.length + x.length)) by omega, show off + 1 + x.length + (i - (min (off + 1) l.length + x.length)) = off + (x.length + 1) + (i - (min off l.length + (x.length + 1))) by omega]

theorem spl_nil {α : Type} (l : List α) (off : Nat) : spl l off [] = l := by simp [spl]

theorem foldl_spl (l : List Value) : ∀ (k off : Nat) (cells : Array Value), off + k + l.length ≤ cells.size →
    ((l.zipIdx k).foldl (fun cs p => cs.setIfInBounds (off + p.2) p.1) cells).toList = spl cells.toList (off + k) l := by
  induction l with
  | nil => intro k off cells _; simp [spl_nil]
  | cons y r ih =>
    intro k off cells h
    simp only [List.length_cons] at h
    rw [List.zipIdx_cons, List.foldl_cons, ih (k + 1) off _ (by simp; omega), Array.toList_setIfInBounds, ← Nat.add_assoc, spl_set _ _ _ _ (by rw [Array.length_toList]; omega)]

section
variable {F : Fr} {M : Nat → Prop} {ρ : Nat → Value} {σ : St} {a : Act} {w : World} {ok : Nat → Prop}

theorem RdL.spl {l x : List D} {cs vs : List Value} (h : RdL ok w l cs) (k : RdL ok w x vs) (off : Nat) : RdL ok w (spl l off x) (Avc.spl cs off vs) := by
  unfold Avc.spl
  rw [← k.1]
  exact ((h.take off).append k).append (h.drop _)

def fillD (place : Nat → Option (Nat × Nat)) : List D → List (Nat × DV) → Option (List D)
  | l, [] => some l
  | l, (i, x) :: r => match place i with
    | none => none
    | some (off, size) => if x.cells.length = size ∧ off + size ≤ l.length then fillD place (spl l off x.cells) r else none

theorem fill_rd {place : Nat → Option (Nat × Nat)} : ∀ {ps : List (Nat × DV)} {l l' : List D} {cs : Array Value} {vs : List (Nat × Value)}, fillD place l ps = some l' → RdL ok w l cs.toList →
    ps.length = vs.length → (∀ (j : Nat) (p : Nat × DV) (v : Nat × Value), ps[j]? = some p → vs[j]? = some v → p.1 = v.1 ∧ RdV ok w p.2 v.2) → ∃ cs', Instr.fill place cs vs = some cs' ∧ RdL ok w l' cs'.toList
  | [], l, l', cs, vs, h, hl, hlen, _ => by
    have : vs = [] := List.eq_nil_of_length_eq_zero hlen.symm
    subst this
    simp only [fillD, Option.some.injEq] at h
    subst h
    exact ⟨cs, rfl, hl⟩
  | (i, x) :: r, l, l', cs, vs, h, hl, hlen, hr => by
    cases vs with
    | nil => simp at hlen
    | cons v vs =>
      obtain ⟨e1, hx⟩ := hr 0 _ _ rfl rfl
      obtain ⟨j, u⟩ := v
      simp only at e1 hx
      subst e1
      unfold fillD at h
      unfold Instr.fill
      split at h
      · cases h
      · rename_i off size hp
        rw [hp]
        split at h
        · rename_i hc
          have hcells := hx.cells
          have hsz : u.cells.size = size := ((Array.length_toList (xs := u.cells)).symm.trans hcells.1.symm).trans hc.1
          have hcs : cs.size = l.length := (Array.length_toList (xs := cs)).symm.trans hl.1.symm
          have hcond : (decide (u.cells.size ≠ size) || decide (off + u.cells.size > cs.size)) = false := by
            simp only [Bool.or_eq_false_iff, decide_eq_false_iff_not]
            omega
          simp only [hcond, Bool.false_eq_true, if_false]
          refine fill_rd h ?_ (by simpa using hlen) (fun k p v hp hv => hr (k + 1) p v (by simpa using hp) (by simpa using hv))
          have hfold := foldl_spl u.cells.toList 0 off cs (by rw [Array.length_toList]; omega)
          have hz : (u.cells.zipIdx.foldl (fun cs p => cs.setIfInBounds (off + p.2) p.1) cs) = ((u.cells.toList.zipIdx 0).foldl (fun cs p => cs.setIfInBounds (off + p.2) p.1) cs) := by
            rw [← Array.foldl_toList]
            simp
          have hz2 : (Array.foldl (fun cs x => match x with | (c, j) => cs.setIfInBounds (off + j) c) cs u.cells.zipIdx) = (u.cells.zipIdx.foldl (fun cs p => cs.setIfInBounds (off + p.2) p.1) cs) := rfl
          rw [hz2, hz, hfold, Nat.add_zero]
          exact hl.spl hcells off
        · cases h

theorem cvD_rd : ∀ {cs : List Value} {l : List D}, cs.mapM cvD = some l → RdL ok w l cs
  | [], l, h => by
    simp at h
    subst h
    exact RdL.nil
  | c :: r, l, h => by
    simp only [List.mapM_cons, Option.bind_eq_bind, Option.pure_def] at h
    cases hc : cvD c with
    | none => simp [hc] at h
    | some x =>
      cases hr : r.mapM cvD with
      | none => simp [hc, hr] at h
      | some l' =>
        simp [hc, hr] at h
        subst h
        have h0 : Rd ok w x c := by
          cases c <;> simp only [cvD, Option.some.injEq, reduceCtorEq] at hc
          · subst hc; exact .bool _
          · subst hc; exact .int _ _
          · subst hc; exact .str _
          · rename_i A n c
            cases n with
            | zero => simp only [Option.some.injEq] at hc; subst hc; exact .nil _ _
            | succ n => simp at hc
        have := (RdL.one h0).append (cvD_rd hr)
        simpa using this

/-- Where the parts of a struct or an array lie. -/
def Tplc (P : Program) (t : TypeId) : Option (List (Nat × Nat)) := match P.underlying t with
  | some (.struct fields) => fields.toList.mapM (fun f => (P.info? f.type).map fun i => (f.offset, i.size))
  | some (.array n e) => (P.info? e).map fun i => (List.range n).map fun j => (j * i.size, i.size)
  | _ => none

def argsD (cx : Cx) (σ : St) : List (Nat × Operand) → Option (List (Nat × DV))
  | [] => some []
  | (i, x) :: r => match toD σ (ev cx σ x), argsD cx σ r with
    | .dv y, some l => some ((i, y) :: l)
    | _, _ => none

/-- No slice of the call's own is among these operands. -/
def noOwn (cx : Cx) (σ : St) : List (Nat × Operand) → Bool
  | [] => true
  | (_, x) :: r => (match ev cx σ x with
    | .dv _ => true
    | _ => false) && noOwn cx σ r

theorem argsD_rd (hF : F.Wf) (h : Rel1 F M ρ σ a w) : ∀ {ps : List (Nat × Operand)} {l : List (Nat × DV)}, argsD F.cx σ ps = some l → noOwn F.cx σ ps = true → l.length = (ps.map fun p => (p.1, a.eval p.2)).length ∧
    ∀ (j : Nat) (p : Nat × DV) (v : Nat × Value), l[j]? = some p → (ps.map fun p => (p.1, a.eval p.2))[j]? = some v → p.1 = v.1 ∧ RdV (okM F M) w p.2 v.2
  | [], l, h, _ => by
    simp only [argsD, Option.some.injEq] at h
    subst h
    exact ⟨rfl, fun j p v hp => by simp at hp⟩
  | (i, x) :: r, l, hl, hn => by
    unfold argsD at hl
    unfold noOwn at hn
    rw [Bool.and_eq_true] at hn
    split at hl
    · rename_i y l' e1 e2
      simp only [Option.some.injEq] at hl
      subst hl
      obtain ⟨h1, h2⟩ := argsD_rd hF h e2 hn.2
      have hx := ev_rel hF h x
      have hy : ev F.cx σ x = .dv y := by
        have h3 := hn.1
        split at h3
        · rename_i z e
          rw [e] at e1
          rw [e]
          simpa [toD] using e1
        · cases h3
      rw [hy] at hx
      refine ⟨by simp [h1], fun j p v hp hv => ?_⟩
      cases j with
      | zero =>
        simp only [List.getElem?_cons_zero, Option.some.injEq, List.map_cons] at hp hv
        subst hp
        subst hv
        exact ⟨rfl, hx⟩
      | succ j => exact h2 j p v (by simpa using hp) (by simpa using hv)
    · cases hl

/-- Cells that stay as the zero value has them: the nil slices among them. -/
def cov (pl : List (Nat × Nat)) : List Nat → Nat → Bool
  | [], _ => false
  | i :: is, j => match pl[i]? with
    | some p => if p.1 ≤ j ∧ j < p.1 + p.2 then true else cov pl is j
    | none => true
def nilsF (pl : List (Nat × Nat)) (is : List Nat) : List AV → Nat → List Nat
  | [], _ => []
  | .nil :: r, j => if cov pl is j = true then nilsF pl is r (j + 1) else j :: nilsF pl is r (j + 1)
  | _ :: r, j => nilsF pl is r (j + 1)
def zeroAV (P : Program) (t : TypeId) : List AV := match P.info? t with
  | some i => match i.zero with
    | some z => z.cells.toList.map cv
    | none => []
  | none => []
theorem nilsF_mem {pl : List (Nat × Nat)} {is : List Nat} : ∀ {l : List AV} {j k : Nat}, k ∈ nilsF pl is l j → j ≤ k ∧ l[k - j]? = some .nil ∧ cov pl is k = false
  | [], j, k, h => by cases h
  | x :: r, j, k, h => by
    have rc : k ∈ nilsF pl is r (j + 1) → j ≤ k ∧ (x :: r)[k - j]? = some .nil ∧ cov pl is k = false := fun h => by
      obtain ⟨h1, h2, h3⟩ := nilsF_mem h
      refine ⟨by omega, ?_, h3⟩
      rw [show k - j = (k - (j + 1)) + 1 by omega]
      exact h2
    unfold nilsF at h
    split at h
    · rename_i e; cases e
    · rename_i r' e
      cases e
      split at h
      · exact rc h
      · rename_i hc
        rcases List.mem_cons.1 h with rfl | h
        · exact ⟨Nat.le_refl _, by rw [Nat.sub_self]; rfl, by simpa using hc⟩
        · exact rc h
    · rename_i e
      cases e
      exact rc h
theorem cov_spec {pl : List (Nat × Nat)} : ∀ {is : List Nat} {j : Nat}, cov pl is j = false → ∀ i ∈ is, ∀ off size, pl[i]? = some (off, size) → j < off ∨ off + size ≤ j
  | [], j, h, i, hi, off, size, hp => by cases hi
  | x :: is, j, h, i, hi, off, size, hp => by
    unfold cov at h
    split at h
    · rename_i p e
      split at h
      · cases h
      · rename_i hc
        rcases List.mem_cons.1 hi with rfl | hi
        · rw [e] at hp
          cases hp
          simp only at hc
          omega
        · exact cov_spec h i hi off size hp
    · cases h
theorem fold_keep {off j : Nat} : ∀ (l : List (Value × Nat)) (cs : Array Value), (∀ p ∈ l, off + p.2 ≠ j) → (l.foldl (fun cs p => cs.setIfInBounds (off + p.2) p.1) cs)[j]? = cs[j]?
  | [], cs, h => rfl
  | p :: l, cs, h => by
    rw [List.foldl_cons, fold_keep l _ (fun q hq => h q (List.mem_cons_of_mem _ hq)), Array.getElem?_setIfInBounds, if_neg (h p List.mem_cons_self)]
theorem fill_keep {place : Nat → Option (Nat × Nat)} : ∀ {vs : List (Nat × Value)} {cs cs' : Array Value}, Instr.fill place cs vs = some cs' → ∀ j, (∀ p ∈ vs, ∀ off size, place p.1 = some (off, size) → j < off ∨ off + size ≤ j) → cs'[j]? = cs[j]?
  | [], cs, cs', h, j, _ => by
    unfold Instr.fill at h
    cases h
    rfl
  | (i, u) :: r, cs, cs', h, j, hj => by
    unfold Instr.fill at h
    split at h
    · cases h
    · rename_i off size hp
      split at h
      · cases h
      · rename_i hc
        rw [fill_keep h j (fun p hp => hj p (List.mem_cons_of_mem _ hp))]
        have hz2 : (Array.foldl (fun cs x => match x with | (c, j) => cs.setIfInBounds (off + j) c) cs u.cells.zipIdx) = (u.cells.zipIdx.foldl (fun cs p => cs.setIfInBounds (off + p.2) p.1) cs) := rfl
        rw [hz2, ← Array.foldl_toList]
        refine fold_keep _ _ fun p hp2 => ?_
        have hsz : u.cells.size = size := by
          simp only [Bool.or_eq_true, decide_eq_true_eq, not_or, ne_eq, Decidable.not_not] at hc
          exact hc.1
        have := hj (i, u) List.mem_cons_self off size hp
        have hlt : p.2 < u.cells.size := by
          rw [Array.toList_zipIdx] at hp2
          have := List.snd_lt_of_mem_zipIdx hp2
          simpa using this
        omega
def vBuild (cx : Cx) (σ : St) (t : TypeId) (parts : Array (Nat × Operand)) : Option (Prop × AV) := match Tzero cx.P t, Tplc cx.P t, argsD cx σ parts.toList with
  | some z, some pl, some ps => if noOwn cx σ parts.toList = true then (match fillD (fun i : Nat => pl[i]?) z ps with
    | some l => some (True, .agz l (nilsF pl (parts.toList.map (·.1)) (zeroAV cx.P t) 0))
    | none => none) else none
  | _, _, _ => none

theorem fill_place {p q : Nat → Option (Nat × Nat)} : ∀ {ps : List (Nat × Value)} {cs cs' : Array Value}, (∀ i x, p i = some x → q i = some x) → Instr.fill p cs ps = some cs' → Instr.fill q cs ps = some cs'
  | [], cs, cs', _, h => h
  | (i, v) :: r, cs, cs', hpq, h => by
    unfold Instr.fill at h ⊢
    split at h
    · cases h
    · rename_i off size hp
      rw [hpq _ _ hp]
      simp only at h ⊢
      split at h
      · cases h
      · rename_i hc
        simp only [hc, Bool.false_eq_true, if_false]
        exact fill_place hpq h

theorem vBuild_sound (hF : F.Wf) (h : Rel1 F M ρ σ a w) {o : Oper} {t : TypeId} {parts : Array (Nat × Operand)} (ho : o.op = .build t parts) {p : Prop} {r : AV} (hv : vBuild F.cx σ t parts = some (p, r)) (hp : p) :
    ∃ v, Runs F.cx.P a w o v ∧ relA F.cx F.w0 (okM F M) ρ w r v := by
  unfold vBuild at hv
  split at hv
  · rename_i z pl ps hz hpl hps
    split at hv
    · rename_i hn
      split at hv
      · rename_i l hl
        simp only [Option.some.injEq, Prod.mk.injEq] at hv
        obtain ⟨_, rfl⟩ := hv
        obtain ⟨h1, h2⟩ := argsD_rd hF h hps hn
        unfold Tzero at hz
        split at hz
        · rename_i i hi
          split at hz
          · rename_i zv hzv
            obtain ⟨cs', hf, hr⟩ := fill_rd (ok := okM F M) (w := w) (cs := zv.cells) hl (cvD_rd hz) h1 h2
            have hb : F.cx.P.built t (parts.map fun (i, x) => (i, a.eval x)).toList = some cs' := by
              unfold Program.built
              unfold Tplc at hpl
              rw [hi]
              have hpt : (parts.map fun (i, x) => (i, a.eval x)).toList = parts.toList.map fun p => (p.1, a.eval p.2) := by rw [Array.toList_map]
              rw [hpt]
              split at hpl
              · rename_i fields hu
                rw [hu]
                simp only [hzv, hpl]
                have : (fun i : Nat => pl[i]?) = (pl.toArray[·]?) := by funext i; simp
                rw [← this]
                exact hf
              · rename_i n e hu
                rw [hu]
                rw [Option.map_eq_some_iff] at hpl
                obtain ⟨ie, hie, rfl⟩ := hpl
                simp only [hzv, hie]
                refine fill_place (fun i x hx => ?_) hf
                rw [List.getElem?_map, Option.map_eq_some_iff] at hx
                obtain ⟨j, hj, rfl⟩ := hx
                have := (List.getElem?_eq_some_iff.1 hj).2
                simp only [List.getElem_range] at this
                rw [this]
              · cases hpl
            refine ⟨.agg cs', by simp [Runs, execOp, ho, run_build w t _ cs' hb], ⟨cs'.toList, rfl, hr⟩, fun j hj => ?_⟩
            obtain ⟨_, hj2, hj3⟩ := nilsF_mem hj
            have hza : zeroAV F.cx.P t = zv.cells.toList.map cv := by
              unfold zeroAV
              simp only [hi, hzv]
            rw [hza, Nat.sub_zero, List.getElem?_map, Option.map_eq_some_iff] at hj2
            obtain ⟨v0, hv0, hcv⟩ := hj2
            have hnil : v0 = .slice none 0 0 := by
              unfold cv at hcv
              split at hcv <;> first | (exfalso; cases hcv; done) | rfl
            subst hnil
            show cs'[j]? = _
            rw [fill_keep hf j (fun p hp off size hpl2 => ?_), ← Array.getElem?_toList]
            · exact hv0
            · obtain ⟨q, hq, rfl⟩ := List.mem_map.1 hp
              exact cov_spec hj3 q.1 (List.mem_map_of_mem hq) off size hpl2
          · cases hz
        · cases hz
      · cases hv
    · cases hv
  · cases hv

/-! ### Conversions -/
def numsOf (l : List (List D)) : List Int := l.map fun x => match x with
  | [.int _ n] => n
  | _ => 0
def vConv (cx : Cx) (σ : St) (s t : TypeId) (x : Operand) : Option (Prop × AV) := match cx.P.underlying s, cx.P.underlying t, toD σ (ev cx σ x) with
  | some (.int _), some (.int k), .dv (.d (.int _ n)) => some (True, .dv (.d (.int k (k.wrap n))))
  | some (.int _), some .string, .dv (.d (.int _ n)) => some (True, .str (Utf8.encode n))
  | some .string, some .string, .dv (.d (.str b)) => some (True, .str b)
  | some (.slice e), some .string, .dv (.d (.sl l)) => match cx.P.underlying e with
    | some (.int .u8) => some (∀ x ∈ l, ∃ n, x = [D.int .u8 n], .str (strOfNums (numsOf l)))
    | _ => none
  | _, _, _ => none

theorem toD_int {k : IntKind} {n : Int} {r : AV} (h : toD σ r = .dv (.d (.int k n))) : r = .dv (.d (.int k n)) := by
  cases r with
  | own k' => simp only [toD] at h; split at h <;> cases h
  | _ => exact h
theorem toD_str {s : ByteArray} {r : AV} (h : toD σ r = .dv (.d (.str s))) : r = .dv (.d (.str s)) := by
  cases r with
  | own k' => simp only [toD] at h; split at h <;> cases h
  | _ => exact h

theorem bytes_run {P : Program} {s e t : TypeId} (hs : P.underlying s = some (.slice e)) (he : P.underlying e = some (.int .u8)) (ht : P.underlying t = some .string) {l : List (List D)} (hl : ∀ x ∈ l, ∃ n, x = [D.int .u8 n])
    {A : Option Addr} {c : Nat} (hA : l.length ≠ 0 → ∃ b o, A = some ⟨b, o, none⟩ ∧ ∀ i, i < l.length → w.cell? ⟨b, o + i, none⟩ = some (.int .u8 ((numsOf l).getD i 0))) :
    (convert s t (.slice A l.length c)).run P w = .ok (.string (strOfNums (numsOf l))) w := by
  by_cases h0 : l.length = 0
  · have : l = [] := List.eq_nil_of_length_eq_zero h0
    subst this
    cases A with
    | none => exact run_convert_bytes_nil w s e hs he 0 c t ht
    | some a =>
      rw [run_convert_bytes_string w s t e _ _ _ hs he ht]
      simp [Conv.bytesToString, loadCells, loadCellsFrom, numsOf, strOfNums]
      rfl
  · obtain ⟨b, o, rfl, hc⟩ := hA h0
    exact run_convert_bytes_arg w s e hs he b o l.length c (numsOf l) (by simp [numsOf]) hc t ht

theorem vConv_sound (hF : F.Wf) (h : Rel1 F M ρ σ a w) {o : Oper} {s t : TypeId} {x : Operand} (ho : o.op = .convert s t x) {p : Prop} {r : AV} (hv : vConv F.cx σ s t x = some (p, r)) (hp : p) :
    ∃ v, Runs F.cx.P a w o v ∧ relA F.cx F.w0 (okM F M) ρ w r v := by
  unfold vConv at hv
  have hx := ev_rel hF h x
  obtain ⟨vx, ex⟩ : ∃ v, a.eval x = v := ⟨_, rfl⟩
  rw [ex] at hx
  split at hv
  · rename_i k0 k k1 n h1 h2 e
    rw [toD_int e] at hx
    cases (show Rd _ _ (.int k1 n) vx from hx)
    simp only [Option.some.injEq, Prod.mk.injEq] at hv
    obtain ⟨_, rfl⟩ := hv
    exact ⟨.int k (k.wrap n), by simp [Runs, execOp, ho, ex, convert, run_underlying h1, run_underlying h2, Conv.intToInt], Rd.int _ _⟩
  · rename_i k0 k1 n h1 h2 e
    rw [toD_int e] at hx
    cases (show Rd _ _ (.int k1 n) vx from hx)
    simp only [Option.some.injEq, Prod.mk.injEq] at hv
    obtain ⟨_, rfl⟩ := hv
    exact ⟨.string (Utf8.encode n), by simp [Runs, execOp, ho, ex, convert, run_underlying h1, run_underlying h2, Conv.intToString], Rd.str _⟩
  · rename_i b h1 h2 e
    rw [toD_str e] at hx
    cases (show Rd _ _ (.str b) vx from hx)
    simp only [Option.some.injEq, Prod.mk.injEq] at hv
    obtain ⟨_, rfl⟩ := hv
    exact ⟨.string b, by simp [Runs, execOp, ho, ex, convert, run_underlying h1, run_underlying h2], Rd.str _⟩
  · rename_i e0 l h1 h2 e
    split at hv
    · rename_i he
      simp only [Option.some.injEq, Prod.mk.injEq] at hv
      obtain ⟨rfl, rfl⟩ := hv
      have key : ∃ A c, vx = .slice A l.length c ∧ (l.length ≠ 0 → ∃ b o, A = some ⟨b, o, none⟩ ∧ ∀ i, i < l.length → w.cell? ⟨b, o + i, none⟩ = some (.int .u8 ((numsOf l).getD i 0))) := by
        have hrow : ∀ i, i < l.length → l[i]? = some [.int .u8 ((numsOf l).getD i 0)] := fun i hi => by
          obtain ⟨n, hn⟩ := hp _ (List.getElem_mem hi)
          rw [List.getElem?_eq_getElem hi, hn]
          simp [numsOf, List.getD_eq_getElem?_getD, List.getElem?_map, List.getElem?_eq_getElem hi, hn]
        cases hA : ev F.cx σ x with
        | own k =>
          rw [hA] at e hx
          simp only [toD] at e
          split at e
          · rename_i e' z l' hk
            simp only [AV.dv.injEq, DV.d.injEq, D.sl.injEq] at e
            subst e
            obtain ⟨cs, hown, hM, hz, hl⟩ := h.ob k _ hk
            have hvx : vx = ρ k := hx
            rcases hown.2 with ⟨h3, h4⟩ | ⟨g, cap, cur, hg, _⟩
            · exact ⟨none, 0, by rw [hvx, h3, h4], fun h5 => absurd h4 h5⟩
            · refine ⟨some ⟨g, 0, none⟩, cap, by rw [hvx, hg], fun _ => ⟨g, 0, rfl, fun i hi => ?_⟩⟩
              have hz1 : z = 1 := by
                have h6 := hz i _ (hrow i hi)
                simpa using h6.symm
              subst hz1
              have h7 := flatten_get hz (hrow i hi)
              have h8 : l'.flatten[i]? = some (.int .u8 ((numsOf l').getD i 0)) := by
                have := congrArg (fun q : List D => q[0]?) h7
                simpa [List.getElem?_take, List.getElem?_drop] using this
              obtain ⟨v, h9, h10⟩ := hl.get h8
              cases h10
              have := ownsRow_cells hown hg i _ h9
              rwa [Nat.zero_add]
          · cases e
        | dv y =>
          rw [hA] at e hx
          cases y with
          | ag m => simp [toD] at e
          | d y =>
            simp only [toD, AV.dv.injEq, DV.d.injEq] at e
            subst e
            cases (show Rd _ _ (.sl l) vx from hx) with
            | nil A c => exact ⟨A, c, rfl, fun h5 => absurd rfl h5⟩
            | sl _ z b o' c u hc hb hlt hz hu hr =>
              refine ⟨_, c, rfl, fun _ => ⟨b, o', rfl, fun i hi => ?_⟩⟩
              have h1 := hz i _ (hrow i hi)
              have h2 := hu i _ (hrow i hi) 0 _ rfl
              have h3 := hr i _ (hrow i hi) 0 _ rfl
              simp only [List.length_cons, List.length_nil] at h1
              subst h1
              have h2' : w.cell? ⟨b, o' + i, none⟩ = some (u i 0) := by simpa using h2
              rw [h2']
              cases h3e : u i 0 with
              | int k n =>
                rw [h3e] at h3
                cases h3
                rfl
              | _ => rw [h3e] at h3; cases h3
        | _ => rw [hA] at e; simp [toD] at e
      obtain ⟨A, c, rfl, hA⟩ := key
      exact ⟨_, by simp [Runs, execOp, ho, ex, bytes_run h1 he h2 hp hA], Rd.str _⟩
    · cases hv
  · cases hv
end
end Go.Avc
