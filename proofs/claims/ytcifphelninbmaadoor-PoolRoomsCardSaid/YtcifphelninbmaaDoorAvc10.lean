/- The calculus: operations that make or change memory of the call's own: variables in memory, rows, stores, append. No condition. -/
import Derived.Test.YtcifphelninbmaaDoorAvc9
import Derived.Maps.AppendAt
import Derived.Lib.AppendStr
import Derived.Laws.CopyRow
import Derived.Laws.MakeOwn
set_option linter.unusedVariables false
set_option linter.unusedSimpArgs false
namespace Go.Avc
open Go

def purgeA (d : Nat) : AV → AV
  | .own k => if k = d then .un else .own k
  | .ptr k o => if k = d then .un else .ptr k o
  | .eptr k i z o => if k = d then .un else .eptr k i z o
  | .fn f ks => if ks.contains d = true then .un else .fn f ks
  | .tcons a t => .tcons (purgeA d a) (purgeA d t)
  | r => r
def purgeO (d : Nat) : Ob → Ob
  | .box T cs => .box T (cs.map (purgeA d))
  | .arr e z l => .arr e z l
  | .bld T k => if k = d then .box T [.un, .un] else .bld T k
/-- Nothing speaks of object d any more. -/
def St.del (σ : St) (d : Nat) : St := { σ with s := fun t => purgeA d (σ.s t), o := fun k => if k = d then none else (σ.o k).map (purgeO d) }
def St.newOb (σ : St) (d : Nat) (dst : Nat) (r : AV) (ob : Ob) : St := { σ.del d with s := upd (σ.del d).s dst r, o := upd (σ.del d).o d (some ob) }

section
variable {F : Fr} {M : Nat → Prop} {ρ ρ' : Nat → Value} {σ : St} {a : Act} {w w' : World} {E : Env} {d : Nat} {ok : Nat → Prop}

theorem rel0_del {cx : Cx} {w0 : World} {x : AV} {v : Value} (h : rel0 cx w0 ok ρ w x v) (hρ : ∀ k, k ≠ d → ρ' k = ρ k) : rel0 cx w0 ok ρ' w (purgeA d x) v := by
  cases x with
  | own k =>
    simp only [purgeA]
    split
    · exact trivial
    · rename_i hk; show v = ρ' k; rw [hρ k hk]; exact h
  | ptr k o =>
    simp only [purgeA]
    split
    · exact trivial
    · rename_i hk; obtain ⟨b, h1, h2⟩ := h; exact ⟨b, by rw [hρ k hk]; exact h1, h2⟩
  | eptr k i z o =>
    simp only [purgeA]
    split
    · exact trivial
    · rename_i hk; obtain ⟨b, n, c, h1, h2⟩ := h; exact ⟨b, n, c, by rw [hρ k hk]; exact h1, h2⟩
  | fn f ks =>
    simp only [purgeA]
    split
    · exact trivial
    · rename_i hk
      have : ks.map ρ' = ks.map ρ := List.map_congr_left (fun k hk' => hρ k (fun e => hk (by rw [List.contains_iff_mem]; exact e ▸ hk')))
      show v = _
      rw [this]
      exact h
  | tcons b t => exact h.elim
  | _ => exact h
theorem relT_del {cx : Cx} {w0 : World} (hρ : ∀ k, k ≠ d → ρ' k = ρ k) : ∀ {x : AV} {vs : List Value}, relT cx w0 ok ρ w x vs → relT cx w0 ok ρ' w (purgeA d x) vs
  | .tnil, _, h => h
  | .tcons _ _, _, h => by
    obtain ⟨v, r, h1, h2, h3⟩ := h
    exact ⟨v, r, h1, rel0_del h2 hρ, relT_del hρ h3⟩
theorem relA_del {cx : Cx} {w0 : World} {x : AV} {v : Value} (h : relA cx w0 ok ρ w x v) (hρ : ∀ k, k ≠ d → ρ' k = ρ k) : relA cx w0 ok ρ' w (purgeA d x) v := by
  cases x with
  | tnil => exact h
  | tcons b t => obtain ⟨vs, h1, h2⟩ := h; exact ⟨vs, h1, relT_del hρ h2⟩
  | _ => exact relA_of0 (rel0_del (ρ := ρ) (by rw [← relA_eq rfl]; exact h) hρ)

theorem Rel1.del (h : Rel1 F M ρ σ a w) (hρ : ∀ k, k ≠ d → ρ' k = ρ k) : Rel1 F M ρ' (σ.del d) a w where
  gr := h.gr
  st := h.st
  gl := h.gl
  mb := h.mb
  sl := fun t => relA_del (h.sl t) hρ
  ob := fun k o hk => by
    simp only [St.del] at hk
    split at hk
    · cases hk
    · rename_i hkd
      rw [Option.map_eq_some_iff] at hk
      obtain ⟨o', ho', rfl⟩ := hk
      have h0 := h.ob k o' ho'
      rw [hρ k hkd]
      cases o' with
      | box T cs =>
        obtain ⟨b, vs, h1, h2, h3, h4, h5⟩ := h0
        refine ⟨b, vs, h1, h2, h3, by rw [List.length_map]; exact h4, fun j x u hx hu => ?_⟩
        rw [List.getElem?_map, Option.map_eq_some_iff] at hx
        obtain ⟨y, hy, rfl⟩ := hx
        exact ⟨(h5 j y u hy hu).1, relA_del (h5 j y u hy hu).2 hρ⟩
      | arr e z l => exact h0
      | bld T k' =>
        obtain ⟨b, p, h1, h2, h3, h4, h5⟩ := h0
        simp only [purgeO]
        split
        · refine ⟨b, #[p, ρ k'], h1, h2, h3, rfl, fun j y u hy hu => ?_⟩
          have hp : p.oneCell' = true := by rcases h4 with rfl | rfl <;> rfl
          match j, hy, hu with
          | 0, hy, hu => simp at hy hu; subst hy; subst hu; exact ⟨hp, trivial⟩
          | 1, hy, hu => simp at hy hu; subst hy; subst hu; exact ⟨h5, trivial⟩
          | j + 2, hy, hu => simp at hy
        · rename_i hk'
          exact ⟨b, p, h1, h2, by rw [hρ k' hk']; exact h3, h4, by rw [hρ k' hk']; exact h5⟩
  ne := fun k k' o o' hk hk' hne => by
    simp only [St.del] at hk hk'
    split at hk
    · cases hk
    · rename_i e1
      split at hk'
      · cases hk'
      · rename_i e2
        rw [Option.map_eq_some_iff] at hk hk'
        obtain ⟨p, hp, _⟩ := hk
        obtain ⟨q, hq, _⟩ := hk'
        rw [hρ k e1, hρ k' e2]
        exact h.ne k k' p q hp hq hne
  df := h.df
  nt := h.nt
  kx := h.kx

theorem del_none : (σ.del d).o d = none := by simp [St.del]

theorem ObR.blk {o : Ob} {v : Value} (h : ObR F M ρ w o v) {b : Nat} (hb : blkOf v = some b) : M b := by
  cases o with
  | box T cs =>
    obtain ⟨b', vs, h1, h2, _⟩ := h
    rw [h1] at hb
    simp only [blkOf, Option.some.injEq] at hb
    exact hb ▸ h2
  | bld T k' =>
    obtain ⟨b', p, h1, h2, _⟩ := h
    rw [h1] at hb
    simp only [blkOf, Option.some.injEq] at hb
    exact hb ▸ h2
  | arr e z l =>
    obtain ⟨cs, hown, h2, _⟩ := h
    refine h2 b ?_
    rcases hown.2 with ⟨h1, _⟩ | ⟨g, cap, cur, h1, _⟩
    · rw [h1] at hb; simp [blkOf] at hb
    · rw [h1] at hb ⊢; exact hb

/-- Object k is replaced: its block alone may have changed, or it lies in a new one. -/
theorem Rel1.repl (hF : F.Wf) (h : Rel1 F M ρ σ a w) (k : Nat) {B0 : Option Nat} {ob : Ob} (hB : ∀ b, B0 = some b → M b ∧ ∀ k' o', σ.o k' = some o' → k' ≠ k → blkOf (ρ k') ≠ some b)
    (hos : w'.os = w.os) (htp : w'.tape = w.tape) (hout : w'.output = w.output) (hsz : w.heap.size ≤ w'.heap.size) (hw : ∀ b, b < w.heap.size → B0 ≠ some b → w'.heap[b]? = w.heap[b]?)
    (hv : ∀ b, blkOf (ρ k) = some b → (B0 = some b ∨ w.heap.size ≤ b) ∧ b < w'.heap.size) (hob : ObR F (fun b => M b ∨ blkOf (ρ k) = some b) ρ w' ob (ρ k)) :
    Rel1 F (fun b => M b ∨ blkOf (ρ k) = some b) ρ { σ with o := upd σ.o k (some ob) } a w' := by
  have hM : ∀ b, B0 = some b → F.w0.heap.size ≤ b := fun b hb => (h.mb b (hB b hb).1).1
  have hlow : ∀ b, b < F.w0.heap.size → w'.heap[b]? = w.heap[b]? := fun b hb => hw b (by have := h.gr.size; omega) (fun e => by have := hM b e; omega)
  have hok : ∀ b, okM F M b → b < w.heap.size → okM F (fun b => M b ∨ blkOf (ρ k) = some b) b := fun b hb hlt => ⟨hb.1, fun e => by
    rcases e with e | e
    · exact hb.2 e
    · rcases (hv b e).1 with e2 | e2
      · exact hb.2 (hB b e2).1
      · omega⟩
  have hun : ∀ b, okM F M b → b < w.heap.size → w'.heap[b]? = w.heap[b]? := fun b hb hlt => hw b hlt (fun e => hb.2 (hB b e).1)
  refine ⟨⟨hos.trans h.gr.os, htp.trans h.gr.tape, hout.trans h.gr.output, by have := h.gr.size; omega, fun b hb hg => (hlow b hb).trans (h.gr.block b hb hg)⟩,
    h.st.keep2 hsz (fun b b' hb hle => hlow b' (by have := hF.g b hb; omega)), ?_, fun b hb => ?_, fun t => (h.sl t).mono (Gr.refl _ _) hsz hok hun, fun k' o' hk' => ?_, fun k1 k2 o1 o2 h1 h2 hne => ?_, h.df, h.nt, ?_⟩
  · intro k' l hk'
    obtain ⟨h0, h1, cs, h2, h3⟩ := h.gl k' l hk'
    have hl : ∀ b, b < F.cx.ng → w'.heap[b]? = w.heap[b]? := fun b hb => hlow b (hF.ok b (hF.gl b hb)).1
    exact ⟨h0, by omega, cs, fun j u hj => (cell_congr (a := ⟨k', j, none⟩) (hl k' h0)).trans (h2 j u hj), h3.mono hsz (fun _ h _ => h) (fun b hb _ => hl b hb)⟩
  · rcases hb with hb | hb
    · exact ⟨(h.mb b hb).1, by have := (h.mb b hb).2; omega⟩
    · refine ⟨?_, (hv b hb).2⟩
      rcases (hv b hb).1 with e | e
      · exact hM b e
      · have := h.gr.size; omega
  · simp only [upd_apply] at hk'
    split at hk'
    · rename_i e
      cases hk'
      rw [e]
      exact hob
    · rename_i e
      have h0 := h.ob k' o' hk'
      cases o' with
      | box T cs =>
        obtain ⟨b, vs, h1, h2, h3, h4, h5⟩ := h0
        exact ⟨b, vs, h1, .inl h2, (hw b (h.mb b h2).2 (fun e2 => (hB b e2).2 k' _ hk' e (by rw [h1]; rfl))).trans h3, h4, fun j x u hx hu => ⟨(h5 j x u hx hu).1, (h5 j x u hx hu).2.mono (Gr.refl _ _) hsz hok hun⟩⟩
      | bld T k2 =>
        obtain ⟨b, p, h1, h2, h3, h4, h5⟩ := h0
        exact ⟨b, p, h1, .inl h2, (hw b (h.mb b h2).2 (fun e2 => (hB b e2).2 k' _ hk' e (by rw [h1]; rfl))).trans h3, h4, h5⟩
      | arr e' z l =>
        obtain ⟨cs, hown, h2, h3, h4⟩ := h0
        refine ⟨cs, ⟨hown.1, ?_⟩, fun b hb => .inl (h2 b hb), h3, h4.mono hsz hok hun⟩
        rcases hown.2 with h5 | ⟨g, cap, cur, h5, h6, h7, h8⟩
        · exact .inl h5
        · have hMg := h2 g (by rw [h5]; rfl)
          exact .inr ⟨g, cap, cur, h5, h6, (hw g (h.mb g hMg).2 (fun e2 => (hB g e2).2 k' _ hk' e (by rw [h5]; rfl))).trans h7, h8⟩
  · simp only [upd_apply] at h1 h2
    intro b hb1 hb2
    split at h1
    · rename_i e1
      subst e1
      split at h2
      · rename_i e2; exact hne e2.symm
      · rename_i e2
        rcases (hv b hb1).1 with e3 | e3
        · exact (hB b e3).2 k2 o2 h2 e2 hb2
        · have := (h.mb b ((h.ob k2 o2 h2).blk hb2)).2; omega
    · rename_i e1
      split at h2
      · rename_i e2
        subst e2
        rcases (hv b hb2).1 with e3 | e3
        · exact (hB b e3).2 k1 o1 h1 e1 hb1
        · have := (h.mb b ((h.ob k1 o1 h1).blk hb1)).2; omega
      · exact h.ne k1 k2 o1 o2 h1 h2 hne b hb1 hb2
  · refine ⟨Nat.le_trans h.kx.1 hsz, fun b hx hn hb => ?_, fun b hb => ?_⟩
    · refine (hw b (Nat.lt_of_lt_of_le hb h.kx.1) fun e => ?_).trans (h.kx.2.1 b hx hn hb)
      rcases h.kx.2.2 b (hB b e).1 with e2 | e2
      · exact hx e2
      · omega
    · rcases hb with hb | hb
      · exact h.kx.2.2 b hb
      · rcases (hv b hb).1 with e | e
        · exact h.kx.2.2 b (hB b e).1
        · exact .inr (Nat.le_trans h.kx.1 e)

/-! ### Cells of a value -/

def memN : List Nat → Nat → Bool
  | [], _ => false
  | u :: r, j => if u = j then true else memN r j
theorem memN_mem : ∀ {zs : List Nat} {j : Nat}, memN zs j = true → j ∈ zs
  | [], _, h => by cases h
  | u :: r, j, h => by
    unfold memN at h
    split at h
    · rename_i e; rw [e]; exact List.mem_cons_self
    · exact List.mem_cons_of_mem _ (memN_mem h)
/-- A struct's cells, nil slices known as such. -/
def zcells (zs : List Nat) : List D → Nat → List AV
  | [], _ => []
  | x :: r, j => (if memN zs j = true then .nil else .dv (.d x)) :: zcells zs r (j + 1)
theorem zcells_length (zs : List Nat) : ∀ (l : List D) (j : Nat), (zcells zs l j).length = l.length
  | [], _ => rfl
  | _ :: r, j => congrArg Nat.succ (zcells_length zs r (j + 1))
theorem zcells_get (zs : List Nat) : ∀ (l : List D) (j k : Nat) (y : AV), (zcells zs l j)[k]? = some y → (y = .nil ∧ j + k ∈ zs) ∨ ∃ x, l[k]? = some x ∧ y = .dv (.d x)
  | [], _, k, y, h => by simp [zcells] at h
  | x :: r, j, 0, y, h => by
    simp only [zcells, List.getElem?_cons_zero, Option.some.injEq] at h
    split at h
    · rename_i hc
      exact .inl ⟨h.symm, by rw [Nat.add_zero]; exact memN_mem hc⟩
    · exact .inr ⟨x, rfl, h.symm⟩
  | x :: r, j, k + 1, y, h => by
    simp only [zcells, List.getElem?_cons_succ] at h
    rcases zcells_get zs r (j + 1) k y h with ⟨h1, h2⟩ | h1
    · exact .inl ⟨h1, by rw [show j + (k + 1) = j + 1 + k by omega]; exact h2⟩
    · exact .inr h1
def cellsA : AV → Option (List AV)
  | .dv (.d x) => some [.dv (.d x)]
  | .dv (.ag l) => some (l.map fun x => .dv (.d x))
  | .ptr k o => some [.ptr k o]
  | .eptr k i z o => some [.eptr k i z o]
  | .dp l => some [.dp l]
  | .st => some [.st]
  | .fn f ks => some [.fn f ks]
  | .fv sp => some [.fv sp]
  | .nil => some [.nil]
  | .lit l => some [.lit l]
  | .agz l zs => some (zcells zs l 0)
  | _ => none

theorem one_cells {P : AV → Value → Prop} {x : AV} {v : Value} (h1 : v.cells = #[v]) (h2 : v.oneCell' = true) (h : P x v) : [x].length = v.cells.size ∧ ∀ (j : Nat) (y : AV) (u : Value), [x][j]? = some y → v.cells[j]? = some u → u.oneCell' = true ∧ P y u := by
  rw [h1]
  refine ⟨rfl, fun j y u hy hu => ?_⟩
  cases j with
  | zero =>
    simp at hy hu
    subst hy
    subst hu
    exact ⟨h2, h⟩
  | succ j => simp at hy

theorem cellsA_rel {x : AV} {cs : List AV} {v : Value} (hc : cellsA x = some cs) (h : relA F.cx F.w0 ok ρ w x v) : cs.length = v.cells.size ∧ ∀ (j : Nat) (y : AV) (u : Value), cs[j]? = some y → v.cells[j]? = some u → u.oneCell' = true ∧ relA F.cx F.w0 ok ρ w y u := by
  cases x with
  | dv y =>
    cases y with
    | d y =>
      simp only [cellsA, Option.some.injEq] at hc
      subst hc
      have hr : Rd ok w y v := h
      exact one_cells (P := fun x v => relA F.cx F.w0 ok ρ w x v) hr.one.1 hr.one.2 h
    | ag l =>
      simp only [cellsA, Option.some.injEq] at hc
      subst hc
      obtain ⟨vs, rfl, hl⟩ := h
      refine ⟨by rw [List.length_map, hl.1]; simp [Value.cells], fun j y u hy hu => ?_⟩
      rw [List.getElem?_map, Option.map_eq_some_iff] at hy
      obtain ⟨z, hz, rfl⟩ := hy
      have hu' : vs[j]? = some u := by simpa [Value.cells] using hu
      have hr := hl.2 j z u hz hu'
      exact ⟨hr.one.2, hr⟩
  | agz l zs =>
    simp only [cellsA, Option.some.injEq] at hc
    subst hc
    obtain ⟨⟨vs, rfl, hl⟩, hz⟩ := h
    refine ⟨by rw [zcells_length, hl.1]; simp [Value.cells], fun j y u hy hu => ?_⟩
    have hu' : vs[j]? = some u := by simpa [Value.cells] using hu
    rcases zcells_get zs l 0 j y hy with ⟨rfl, h2⟩ | ⟨x, hx, rfl⟩
    · have := hz j (by rw [Nat.zero_add] at h2; exact h2)
      rw [hu] at this
      cases this
      exact ⟨rfl, rfl⟩
    · have hr := hl.2 j x u hx hu'
      exact ⟨hr.one.2, hr⟩
  | ptr k o =>
    simp only [cellsA, Option.some.injEq] at hc
    subst hc
    have h' := h
    obtain ⟨b, _, rfl⟩ := h'
    exact one_cells (P := fun x v => relA F.cx F.w0 ok ρ w x v) rfl rfl h
  | eptr k i z o =>
    simp only [cellsA, Option.some.injEq] at hc
    subst hc
    have h' := h
    obtain ⟨b, n, c, _, rfl⟩ := h'
    exact one_cells (P := fun x v => relA F.cx F.w0 ok ρ w x v) rfl rfl h
  | dp l =>
    simp only [cellsA, Option.some.injEq] at hc
    subst hc
    have h' := h
    obtain ⟨b, o, cs, rfl, _⟩ := h'
    exact one_cells (P := fun x v => relA F.cx F.w0 ok ρ w x v) rfl rfl h
  | st =>
    simp only [cellsA, Option.some.injEq] at hc
    subst hc
    have h' := h
    obtain ⟨b, _, rfl⟩ := h'
    exact one_cells (P := fun x v => relA F.cx F.w0 ok ρ w x v) rfl rfl h
  | fn f ks =>
    simp only [cellsA, Option.some.injEq] at hc
    subst hc
    have h' : v = _ := h
    exact one_cells (P := fun x v => relA F.cx F.w0 ok ρ w x v) (by rw [h']; rfl) (by rw [h']; rfl) h
  | fv sp =>
    simp only [cellsA, Option.some.injEq] at hc
    subst hc
    have h' : Callable _ _ _ _ := h
    obtain ⟨f, caps, hv, _⟩ := h'
    exact one_cells (P := fun x v => relA F.cx F.w0 ok ρ w x v) (by rw [hv]; rfl) (by rw [hv]; rfl) h
  | nil =>
    simp only [cellsA, Option.some.injEq] at hc
    subst hc
    have h' : v = _ := h
    exact one_cells (P := fun x v => relA F.cx F.w0 ok ρ w x v) (by rw [h']; rfl) (by rw [h']; rfl) h
  | lit l =>
    simp only [cellsA, Option.some.injEq] at hc
    subst hc
    have h' := h
    obtain ⟨⟨A, hv⟩, _⟩ := h'
    exact one_cells (P := fun x v => relA F.cx F.w0 ok ρ w x v) (by rw [hv]; rfl) (by rw [hv]; rfl) h
  | _ => simp [cellsA] at hc

def cellsS (σ : St) : AV → Option (List AV)
  | .own k => match σ.o k with
    | some (.arr _ _ _) => some [.own k]
    | _ => none
  | x => cellsA x
theorem cellsS_rel (h : Rel1 F M ρ σ a w) {x : AV} {cs : List AV} {v : Value} (hc : cellsS σ x = some cs) (hx : relA F.cx F.w0 (okM F M) ρ w x v) :
    cs.length = v.cells.size ∧ ∀ (j : Nat) (y : AV) (u : Value), cs[j]? = some y → v.cells[j]? = some u → u.oneCell' = true ∧ relA F.cx F.w0 (okM F M) ρ w y u := by
  cases x with
  | own k =>
    simp only [cellsS] at hc
    split at hc
    · rename_i e z l hk
      simp only [Option.some.injEq] at hc
      subst hc
      obtain ⟨cs, hown, _⟩ := h.ob k _ hk
      have hv : v = ρ k := hx
      have hf : ∃ A n c, v = .slice A n c := by
        rcases hown.2 with ⟨h1, _⟩ | ⟨g, cap, cur, h1, _⟩
        · exact ⟨none, 0, 0, by rw [hv, h1]⟩
        · exact ⟨_, _, cap, by rw [hv, h1]⟩
      obtain ⟨A, n, c, rfl⟩ := hf
      exact one_cells (P := fun x v => relA F.cx F.w0 (okM F M) ρ w x v) rfl rfl hx
    · cases hc
  | _ => exact cellsA_rel (by simpa only [cellsS] using hc) hx
end
end Go.Avc
