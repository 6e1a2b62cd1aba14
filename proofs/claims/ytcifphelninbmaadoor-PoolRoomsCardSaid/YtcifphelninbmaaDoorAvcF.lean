/- The calculus: a region whose order is drawn and that makes a variable at any time. No condition. -/
import Derived.Test.YtcifphelninbmaaDoorAvcH
set_option linter.unusedVariables false
set_option linter.unusedSimpArgs false
namespace Go.Avc
open Go

section
variable {F : Fr} {M : Nat → Prop} {ρ : Nat → Value} {σ : St} {a : Act} {w : World} {E : Env} {ops : Array Oper} {K : St → Prop} {Q : Exit → Act → World → Prop}

/-- Nothing speaks of object d, and slot d is not told. -/
def St.delS (σ : St) (d : Nat) : St := { σ.del d with s := upd (σ.del d).s d .un }
theorem Rel.delS (h : Rel F σ a w) (d : Nat) : Rel F (σ.delS d) a w := by
  obtain ⟨M, ρ, h⟩ := h
  have h1 : Rel1 F M ρ (σ.del d) a w := h.del fun _ _ => rfl
  refine ⟨M, ρ, h1.gr, h1.st, h1.gl, h1.mb, fun t => ?_, h1.ob, h1.ne, h1.df, h1.nt, h1.kx⟩
  show relA _ _ _ _ _ (upd (σ.del d).s d .un t) _
  rw [upd_apply]
  split
  · exact trivial
  · exact h1.sl t

/-- The variable is there already, though nothing is told of it yet. -/
def RelE (F : Fr) (d : Nat) (T : TypeId) (zs : Array Value) (σ : St) (a : Act) (w : World) : Prop := ∃ M ρ b, Rel1 F M ρ σ a w ∧ M b ∧ w.heap[b]? = some (.cells zs T (0, 0)) ∧ a.tmps.getD d undef = .pointer (some ⟨b, 0, none⟩) ∧ ∀ k o, σ.o k = some o → blkOf (ρ k) ≠ some b

theorem put_getD_ne {a : Act} {d : Nat} {e : Option Nat} {v : Value} (he : e ≠ some d) (hs : ∀ x, e = some x → x < a.tmps.size) : (a.put e v).tmps.getD d undef = a.tmps.getD d undef := by
  cases e with
  | none => rfl
  | some x =>
    rw [getD_put (hs x rfl), if_neg]
    intro h
    exact he (by rw [h])
theorem put_o (σ : St) (e : Option Tmp) (r : AV) : (σ.put e r).o = σ.o := by cases e <;> rfl
theorem relE_op (hE : EnvOk F.cx E) (hF : F.Wf) {d : Nat} {T : TypeId} {zs : Array Value} (h : RelE F d T zs σ a w) {o : Oper} (hn : ∀ d, o.dst = some d → d < F.n) (hs : isS o.op = false) (hd : o.dst ≠ some d) (hx : vcOp F.cx E F.B ops o K σ)
    {K' : Act → World → Prop} (hK : ∀ σ' a' w', RelE F d T zs σ' a' w' → K σ' → K' a' w') : if Region.wanted o (yielded ops a.tmps) = true then Oper.wp F.cx.P o a w K' Q else K' (a.put o.dst undef) w := by
  obtain ⟨M, ρ, b, h, hM, hh, ht, hne⟩ := h
  have hsz : ∀ x, o.dst = some x → x < a.tmps.size := fun x hx => Nat.lt_of_lt_of_le (hn x hx) h.nt
  unfold vcOp at hx
  split at hx
  · exact hx.elim
  · rename_i hg
    rw [if_pos (wanted_of h hg)]
    unfold ex at hx
    rw [hs] at hx
    simp only [Bool.false_eq_true, if_false] at hx
    unfold exG at hx
    split at hx
    · exact hx.elim
    · rename_i g hgo
      obtain ⟨h1, h2, h3⟩ := hx
      refine gop_sound hE hF h hgo h2 h1 K' Q (fun r v w' hr hgr hst hrel => hK _ _ _ ⟨M, ρ, b, (h.grow hF hgr hst).put hn hrel, hM, ?_, ?_, ?_⟩ (h3 r hr))
      · exact (hgr.block b (h.mb b hM).2 (M_ne hF (h.mb b hM).1)).trans hh
      · rw [put_getD_ne hd hsz]; exact ht
      · intro k o' hk
        rw [put_o] at hk
        exact hne k o' hk
  · rename_i hg
    rw [wanted_of h hg]
    rw [if_neg (by simp)]
    refine hK _ _ _ ⟨M, ρ, b, h.put hn (by exact (rfl : undef = Value.tuple #[])), hM, hh, ?_, ?_⟩ hx
    · rw [put_getD_ne hd hsz]; exact ht
    · intro k o' hk
      rw [put_o] at hk
      exact hne k o' hk
theorem vcOp_keep {d : Nat} {o : Oper} (hs : isS o.op = false) (hd : o.dst ≠ some d) (hu : σ.s d = .un) (hx : vcOp F.cx E F.B ops o K σ) : vcOp F.cx E F.B ops o (fun σ' => K σ' ∧ σ'.s d = .un) σ := by
  have hp : ∀ (τ : St) (r : AV), τ.s d = .un → (τ.put o.dst r).s d = .un := fun τ r ht => by
    cases e : o.dst with
    | none => exact ht
    | some x =>
      show upd τ.s x r d = .un
      rw [upd_apply, if_neg]
      · exact ht
      · intro h; exact hd (by rw [e, h])
  unfold vcOp at hx ⊢
  split
  · rename_i e; rw [e] at hx; exact hx
  · rename_i e
    rw [e] at hx
    simp only at hx ⊢
    unfold ex at hx ⊢
    rw [hs] at hx ⊢
    simp only [Bool.false_eq_true, if_false] at hx ⊢
    unfold exG at hx ⊢
    split
    · rename_i e2; rw [e2] at hx; exact hx
    · rename_i g e2
      rw [e2] at hx
      exact ⟨hx.1, hx.2.1, fun r hr => ⟨hx.2.2 r hr, hp { σ with c := σ.c + g.cost } r hu⟩⟩
  · rename_i e
    rw [e] at hx
    exact ⟨hx, hp σ _ hu⟩
theorem alloc_cells {P : Program} {T : TypeId} {cs : List AV} (hcs : TzeroA P T = some cs) : ∃ i z, P.info? T = some i ∧ i.zero = some z ∧ cs = z.cells.toList.map cv := by
  unfold TzeroA at hcs
  split at hcs
  · rename_i i hi
    split at hcs
    · rename_i z hz
      exact ⟨i, z, hi, hz, (Option.some.inj hcs).symm⟩
    · cases hcs
  · cases hcs
theorem hasUn_ne : ∀ l : List Value, hasUn (l.map cv) = false → ∀ v ∈ l, cv v ≠ .un
  | [], _, v, hv => by cases hv
  | x :: r, h, v, hv => by
    rw [List.map_cons] at h
    have hx : cv x ≠ .un := fun e => by rw [e] at h; simp [hasUn] at h
    have hr : hasUn (r.map cv) = false := by
      cases hc : cv x <;> rw [hc] at h <;> first | exact h | (simp [hasUn] at h)
    rcases List.mem_cons.1 hv with rfl | hv
    · exact hx
    · exact hasUn_ne r hr v hv
/-- The variable's making is told. -/
theorem relE_alloc {d : Nat} {T : TypeId} {z : Value} (h : RelE F d T z.cells σ a w) (hun : hasUn (z.cells.toList.map cv) = false) : Rel F (σ.newOb d d (.ptr d 0) (.box T (z.cells.toList.map cv))) a w := by
  obtain ⟨M, ρ, b, h, hM, hh, ht, hne⟩ := h
  have h1 : Rel1 F M (upd ρ d (.pointer (some ⟨b, 0, none⟩))) (σ.del d) a w := h.del fun k hk => by rw [upd_apply, if_neg hk]
  have hd : upd ρ d (Value.pointer (some ⟨b, 0, none⟩)) d = .pointer (some ⟨b, 0, none⟩) := by rw [upd_apply, if_pos rfl]
  have hob : ∀ k o, upd (σ.del d).o d (some (Ob.box T (z.cells.toList.map cv))) k = some o → k ≠ d → (σ.del d).o k = some o ∧ ∃ o', σ.o k = some o' := fun k o hk hkd => by
    rw [upd_apply, if_neg hkd] at hk
    refine ⟨hk, ?_⟩
    simp only [St.del, if_neg hkd, Option.map_eq_some_iff] at hk
    obtain ⟨o', ho', _⟩ := hk
    exact ⟨o', ho'⟩
  refine ⟨M, upd ρ d (.pointer (some ⟨b, 0, none⟩)), h1.gr, h1.st, h1.gl, h1.mb, fun t => ?_, fun k o hk => ?_, fun k k' o o' hk hk' hkk => ?_, h1.df, h1.nt, h1.kx⟩
  · show relA _ _ _ _ _ (upd (σ.del d).s d (.ptr d 0) t) _
    rw [upd_apply]
    split
    · rename_i e
      subst e
      exact ⟨b, hd, ht⟩
    · exact h1.sl t
  · by_cases hkd : k = d
    · subst hkd
      have hk2 : upd (σ.del k).o k (some (Ob.box T (z.cells.toList.map cv))) k = some o := hk
      rw [upd_apply, if_pos rfl] at hk2
      cases hk2
      rw [hd]
      refine ⟨b, z.cells, rfl, hM, hh, by simp, fun j y u hy hu => ?_⟩
      rw [List.getElem?_map, Option.map_eq_some_iff] at hy
      obtain ⟨v, hv, rfl⟩ := hy
      rw [Array.getElem?_toList] at hv
      rw [hv] at hu
      obtain rfl : v = u := Option.some.inj hu
      refine ⟨?_, cv_rel v⟩
      have := hasUn_ne _ hun v (List.mem_of_getElem? (by rw [Array.getElem?_toList]; exact hv))
      cases v <;> first | rfl | exact absurd rfl this
    · exact h1.ob k o (hob k o hk hkd).1
  · have key : ∀ k o, upd (σ.del d).o d (some (Ob.box T (z.cells.toList.map cv))) k = some o → k ≠ d → blkOf (upd ρ d (Value.pointer (some ⟨b, 0, none⟩)) k) ≠ some b := fun k o hk hkd => by
      rw [upd_apply, if_neg hkd]
      obtain ⟨_, o', ho'⟩ := hob k o hk hkd
      exact hne k o' ho'
    by_cases hkd : k = d
    · subst hkd
      have hkd' : k' ≠ k := fun e => hkk e.symm
      intro b' hb' hb''
      rw [hd] at hb'
      simp only [blkOf, Option.some.injEq] at hb'
      subst hb'
      exact key k' o' hk' hkd' hb''
    · by_cases hkd' : k' = d
      · subst hkd'
        intro b' hb' hb''
        rw [hd] at hb''
        simp only [blkOf, Option.some.injEq] at hb''
        subst hb''
        exact key k o hk hkd hb'
      · exact h1.ne k k' o o' (hob k o hk hkd).1 (hob k' o' hk' hkd').1 hkk

/-- The static test: operation ia makes a variable that no earlier operation looks at, and all later ones wait for all. -/
structure FreeOk (ops : Array Oper) (ia : Nat) (o : Oper) (T : TypeId) (d : Nat) : Prop where
  here : ops[ia]? = some o
  op : o.op = .alloc T
  dst : o.dst = some d
  gd : o.guard = none
  nb : T ≠ bT
  gop : ∀ j x, j < ia → ops[j]? = some x → isS x.op = false ∧ x.dst ≠ some d
  late : ∀ j x, ia < j → ops[j]? = some x → ∀ k, k < j → ((masks ops).getD j 0).testBit k = true
def freeB (ops : Array Oper) (ia : Nat) : Bool := match ops[ia]? with
  | some o => match o.op, o.dst with
    | .alloc T, some d => o.guard.isNone && decide (T ≠ bT) && ((List.range ops.size).all fun j => match ops[j]? with
        | some x => if j < ia then !isS x.op && decide (x.dst ≠ some d) else if ia < j then (List.range j).all fun k => ((masks ops).getD j 0).testBit k else true
        | none => true) && regOkL ops ((Array.replicate ops.size false).setIfInBounds ia true)
    | _, _ => false
  | none => false
theorem freeOk {ia : Nat} (h : freeB ops ia = true) : (∃ o T d, FreeOk ops ia o T d) ∧ RegFacts ops ((Array.replicate ops.size false).setIfInBounds ia true) := by
  unfold freeB at h
  split at h
  · rename_i o ho
    split at h
    · rename_i T d hop hdst
      simp only [Bool.and_eq_true, decide_eq_true_eq, Option.isNone_iff_eq_none] at h
      obtain ⟨⟨⟨h1, h2⟩, h3⟩, h4⟩ := h
      rw [List.all_eq_true] at h3
      refine ⟨⟨o, T, d, ho, hop, hdst, h1, h2, fun j x hj hx => ?_, fun j x hj hx k hk => ?_⟩, regFacts h4⟩
      · have := h3 j (List.mem_range.2 (Array.getElem?_eq_some_iff.1 hx).1)
        rw [hx] at this
        simp only [if_pos hj, Bool.and_eq_true, Bool.not_eq_true', decide_eq_true_eq] at this
        exact this
      · have := h3 j (List.mem_range.2 (Array.getElem?_eq_some_iff.1 hx).1)
        rw [hx] at this
        simp only [if_neg (Nat.lt_asymm hj), if_pos hj, List.all_eq_true] at this
        exact this k (List.mem_range.2 hk)
    · cases h
  · cases h

theorem ready_ne {L : Array Bool} (hR : RegFacts ops L) {listed : Array Bool} (hs : listed.size = ops.size) (hne : todo ops listed ≠ []) : Region.ready .any ops listed ≠ [] := by
  intro hr
  cases ht : todo ops listed with
  | nil => exact hne ht
  | cons i C =>
    have hmem : i ∈ todo ops listed := by rw [ht]; exact List.mem_cons_self
    obtain ⟨h1, h2⟩ := List.mem_filter.1 hmem
    have h2' : listed.getD i true = false := by simpa using h2
    have ho : ops[i]? = some (ops[i]'(List.mem_range.1 h1)) := Array.getElem?_eq_getElem _
    have : i ∈ Region.ready .any ops listed := ready_iff.2 ⟨List.mem_range.1 h1, h2', _, ho, fun e he hb => by
      have hei := hR.edge i _ ho e he hb
      have hlt : e.on < listed.size := by have := List.mem_range.1 h1; omega
      cases hle : listed.getD e.on true with
      | true =>
        rw [Array.getD_eq_getD_getElem?, Array.getElem?_eq_getElem hlt] at hle ⊢
        exact hle
      | false =>
        have hm2 : e.on ∈ todo ops listed := List.mem_filter.2 ⟨List.mem_range.2 (by omega), by rw [hle]; rfl⟩
        have hsort : (todo ops listed).Pairwise (· < ·) := List.Pairwise.filter _ List.pairwise_lt_range
        rw [ht] at hm2 hsort
        rcases List.mem_cons.1 hm2 with e1 | e1
        · omega
        · have := (List.pairwise_cons.1 hsort).1 _ e1
          omega⟩
    rw [hr] at this
    cases this
theorem down_set {listed : Array Bool} {i : Nat} {o : Oper} (hs : listed.size = ops.size) (hi : i < ops.size) (ho : ops[i]? = some o) (hd : Down ops listed) (h3 : ∀ e ∈ o.after, edgeIn e = true → listed.getD e.on false = true) : Down ops (listed.setIfInBounds i true) := by
  intro j oj hj hlj e he hb
  by_cases hej : e.on = i
  · have : i < listed.size := by omega
    rw [hej, Array.getD_eq_getD_getElem?, Array.getElem?_setIfInBounds_self_of_lt this]
    rfl
  · rw [Array.getD_eq_getD_getElem?, Array.getElem?_setIfInBounds_ne (Ne.symm hej), ← Array.getD_eq_getD_getElem?]
    by_cases hji : j = i
    · subst hji
      rw [ho] at hj
      cases hj
      exact h3 e he hb
    · rw [Array.getD_eq_getD_getElem?, Array.getElem?_setIfInBounds_ne (Ne.symm hji), ← Array.getD_eq_getD_getElem?] at hlj
      exact hd j oj hj hlj e he hb
theorem getD_set {listed : Array Bool} {i j : Nat} {b d : Bool} (hi : i < listed.size) : (listed.setIfInBounds i b).getD j d = if j = i then b else listed.getD j d := by
  rw [Array.getD_eq_getD_getElem?, Array.getElem?_setIfInBounds]
  by_cases h : i = j
  · subst h
    rw [if_pos rfl, if_pos rfl, if_pos hi]
    rfl
  · rw [if_neg h, if_neg (Ne.symm h), ← Array.getD_eq_getD_getElem?]
theorem todo_ext {l1 l2 : Array Bool} (h : ∀ j, l1.getD j true = l2.getD j true) : todo ops l1 = todo ops l2 := by
  unfold todo
  exact List.filter_congr fun j _ => by rw [h j]
theorem any_free (hE : EnvOk F.cx E) (hF : F.Wf) {ia : Nat} {o : Oper} {T : TypeId} {d : Nat} (hf : FreeOk ops ia o T d) (hR : RegFacts ops ((Array.replicate ops.size false).setIfInBounds ia true)) {i0 : TypeInfo} {z : Value} (hi0 : F.cx.P.info? T = some i0) (hz : i0.zero = some z) (hun : hasUn (z.cells.toList.map cv) = false)
    (hn : ∀ o ∈ ops, ∀ d, o.dst = some d → d < F.n) (hK : ∀ σ' a' w', Rel F σ' a' w' → K σ' → Q .normal a' w') : ∀ (fuel : Nat) (listed : Array Bool) (σ : St) (a : Act) (w : World), listed.size = ops.size → (todo ops listed).length = fuel → Down ops listed →
    ((listed.getD ia true = false ∧ Rel F σ a w ∧ σ.s d = .un) ∨ (listed.getD ia true = true ∧ RelE F d T z.cells σ a w)) → vcL F.cx E F.B ops K (opersOf ops (todo ops (listed.setIfInBounds ia false))) σ → wpAny F.cx.P .any ops Q fuel listed a w := by
  have hia : ia < ops.size := (Array.getElem?_eq_some_iff.1 hf.here).1
  have hL : ∀ j, ((Array.replicate ops.size false).setIfInBounds ia true).getD j false = true → j = ia := fun j hj => by
    rw [getD_set (by simpa using hia)] at hj
    split at hj
    · assumption
    · rw [Array.getD_eq_getD_getElem?, Array.getElem?_replicate] at hj
      split at hj <;> cases hj
  intro fuel
  induction fuel with
  | zero =>
    intro listed σ a w hs hl hd hrel hx
    have ht : todo ops listed = [] := List.eq_nil_of_length_eq_zero hl
    have hall : ∀ j, j < ops.size → listed.getD j true = true := fun j hj => by
      cases h : listed.getD j true with
      | true => rfl
      | false =>
        have : j ∈ todo ops listed := List.mem_filter.2 ⟨List.mem_range.2 hj, by rw [h]; rfl⟩
        rw [ht] at this; cases this
    rcases hrel with ⟨h1, _⟩ | ⟨h1, hE2⟩
    · rw [hall ia hia] at h1; cases h1
    · have hV : (listed.setIfInBounds ia false).getD ia true = false := by rw [getD_set (by omega), if_pos rfl]
      obtain ⟨A, C, e1, e2, e3⟩ := todo_set (ops := ops) (listed := listed.setIfInBounds ia false) (by rw [Array.size_setIfInBounds]; exact hs) hia hV
      have e4 : todo ops ((listed.setIfInBounds ia false).setIfInBounds ia true) = todo ops listed := todo_ext fun j => by
        rw [getD_set (by rw [Array.size_setIfInBounds]; omega), getD_set (by omega)]
        split
        · rename_i e; rw [e, h1]
        · rfl
      rw [e4, ht] at e2
      have hA : A = [] := (List.append_eq_nil_iff.1 e2.symm).1
      have hC : C = [] := (List.append_eq_nil_iff.1 e2.symm).2
      subst hA; subst hC
      rw [e1] at hx
      have hx' : vcOp F.cx E F.B ops o (vcL F.cx E F.B ops K []) σ := by
        unfold opersOf at hx
        rw [List.nil_append, List.filterMap_cons, hf.here] at hx
        exact hx
      unfold vcOp guardA at hx'
      rw [hf.gd] at hx'
      simp only at hx'
      unfold ex exS isS at hx'
      simp only [hf.op, if_true, if_neg hf.nb] at hx'
      unfold exAlloc at hx'
      rw [hf.dst] at hx'
      split at hx'
      · rename_i d' cs e5 e6
        cases e5
        obtain ⟨i1, z1, e7, e8, rfl⟩ := alloc_cells e6
        rw [hi0] at e7; cases e7
        rw [hz] at e8; cases e8
        refine ⟨?_, hK _ _ _ (relE_alloc hE2 hun) hx'.2⟩
        rw [List.eq_nil_iff_forall_not_mem]
        intro i hi
        obtain ⟨h1, h2, _⟩ := ready_iff.1 hi
        rw [hall i h1] at h2; cases h2
      · exact hx'.elim
  | succ fuel ih =>
    intro listed σ a w hs hl hd hrel hx
    by_cases hfin : listed.getD ia true = true ∧ ∀ j, j < ia → listed.getD j true = true
    · obtain ⟨h1, h2⟩ := hfin
      rcases hrel with ⟨h1', _⟩ | ⟨_, hE2⟩
      · rw [h1] at h1'; cases h1'
      have hV : (listed.setIfInBounds ia false).getD ia true = false := by rw [getD_set (by omega), if_pos rfl]
      obtain ⟨A, C, e1, e2, e3⟩ := todo_set (ops := ops) (listed := listed.setIfInBounds ia false) (by rw [Array.size_setIfInBounds]; exact hs) hia hV
      have e4 : todo ops ((listed.setIfInBounds ia false).setIfInBounds ia true) = todo ops listed := todo_ext fun j => by
        rw [getD_set (by rw [Array.size_setIfInBounds]; omega), getD_set (by omega)]
        split
        · rename_i e; rw [e, h1]
        · rfl
      rw [e4] at e2
      have hA : A = [] := by
        rw [List.eq_nil_iff_forall_not_mem]
        intro j hj
        obtain ⟨h3, h4⟩ := e3 j hj
        rw [getD_set (by omega), if_neg (by omega), h2 j h3] at h4
        cases h4
      subst hA
      rw [List.nil_append] at e1 e2
      rw [e1] at hx
      have hx' : vcOp F.cx E F.B ops o (vcL F.cx E F.B ops K (opersOf ops C)) σ := by
        unfold opersOf at hx ⊢
        rw [List.filterMap_cons, hf.here] at hx
        exact hx
      unfold vcOp guardA at hx'
      rw [hf.gd] at hx'
      simp only at hx'
      unfold ex exS isS at hx'
      simp only [hf.op, if_true, if_neg hf.nb] at hx'
      unfold exAlloc at hx'
      rw [hf.dst] at hx'
      split at hx'
      · rename_i d' cs e5 e6
        cases e5
        obtain ⟨i1, z1, e7, e8, rfl⟩ := alloc_cells e6
        rw [hi0] at e7; cases e7
        rw [hz] at e8; cases e8
        exact any_sound hE hF hR hn hK _ listed _ a w hs hl hd (fun j hj => by rw [hL j hj]; exact h1) (relE_alloc hE2 hun) (by rw [e2]; exact hx'.2)
      · exact hx'.elim
    · refine ⟨fun hr => absurd hr (ready_ne hR hs (fun e => by rw [e] at hl; cases hl)), fun i hi => ?_⟩
      obtain ⟨h1, h2, o', ho', h3⟩ := ready_iff.1 hi
      have hlen : (todo ops (listed.setIfInBounds i true)).length = fuel := by
        obtain ⟨A, C, e1, e2, _⟩ := todo_set (ops := ops) hs h1 h2
        rw [e1] at hl
        rw [e2]
        simp only [List.length_append, List.length_cons] at hl ⊢
        omega
      have hdown := down_set hs h1 ho' hd h3
      have hs' : (listed.setIfInBounds i true).size = ops.size := by rw [Array.size_setIfInBounds]; exact hs
      rcases Nat.lt_trichotomy i ia with hlt | heq | hgt
      · have hne : i ≠ ia := Nat.ne_of_lt hlt
        obtain ⟨g1, g2⟩ := hf.gop i o' hlt ho'
        have hV : (listed.setIfInBounds ia false).getD i true = false := by rw [getD_set (by omega), if_neg hne]; exact h2
        obtain ⟨A, C, e1, e2, e3⟩ := todo_set (ops := ops) (listed := listed.setIfInBounds ia false) (by rw [Array.size_setIfInBounds]; exact hs) h1 hV
        have e4 : todo ops ((listed.setIfInBounds i true).setIfInBounds ia false) = A ++ C := by
          rw [← e2]
          refine todo_ext fun j => ?_
          rw [getD_set (by omega), getD_set (by omega), getD_set (by rw [Array.size_setIfInBounds]; omega), getD_set (by omega)]
          by_cases ej : j = ia
          · rw [if_pos ej, if_neg (by omega), if_pos ej]
          · rw [if_neg ej, if_neg ej]
        have hx' : vcL F.cx E F.B ops K (o' :: (opersOf ops A ++ opersOf ops C)) σ := by
          refine vcL_front hE (opersOf ops A) σ (fun x hx => ?_) ?_
          · obtain ⟨j, hj, hjx⟩ := List.mem_filterMap.1 hx
            obtain ⟨hjlt, hul⟩ := e3 j hj
            rw [getD_set (by omega), if_neg (by omega)] at hul
            rcases hR.pair i j o' x ho' hjx hjlt (by
              cases hc : ((Array.replicate ops.size false).setIfInBounds ia true).getD i false with
              | false => rfl
              | true => exact absurd (hL i hc) hne) (by
              cases hc : ((Array.replicate ops.size false).setIfInBounds ia true).getD j false with
              | false => rfl
              | true => have := hL j hc; omega) with hm | hm
            · have := listed_of_mask hR hd hs i j hjlt h1 hm (fun e he hb => h3 e (by rw [ho'] at he; exact he) hb)
              have hjl : j < listed.size := by omega
              rw [Array.getD_eq_getD_getElem?, Array.getElem?_eq_getElem hjl] at this hul
              rw [Option.getD_some] at this hul
              rw [this] at hul
              cases hul
            · exact hm
          · rw [e1] at hx
            unfold opersOf at hx ⊢
            rw [List.filterMap_append, List.filterMap_cons, ho'] at hx
            exact hx
        have hfinal : ∀ τ, vcL F.cx E F.B ops K (opersOf ops A ++ opersOf ops C) τ → vcL F.cx E F.B ops K (opersOf ops (todo ops ((listed.setIfInBounds i true).setIfInBounds ia false))) τ := fun τ hτ => by
          rw [e4]
          unfold opersOf at hτ ⊢
          rw [List.filterMap_append]
          exact hτ
        have hkeep : (listed.setIfInBounds i true).getD ia true = listed.getD ia true := by rw [getD_set (by omega), if_neg (Ne.symm hne)]
        rcases hrel with ⟨k1, k2, k3⟩ | ⟨k1, k2⟩
        · refine wpOp_step ho' fun K' hK' => vcOp_sound hE hF k2 (hn o' (Array.mem_of_getElem? ho')) (vcOp_keep g1 g2 k3 hx') fun σ' a' w' h' hx2 => hK' _ _ (ih _ σ' a' w' hs' hlen hdown (.inl ⟨hkeep.trans k1, h', hx2.2⟩) (hfinal _ hx2.1))
        · refine wpOp_step ho' fun K' hK' => relE_op hE hF k2 (hn o' (Array.mem_of_getElem? ho')) g1 g2 hx' fun σ' a' w' h' hx2 => hK' _ _ (ih _ σ' a' w' hs' hlen hdown (.inr ⟨hkeep.trans k1, h'⟩) (hfinal _ hx2))
      · subst heq
        rw [hf.here] at ho'
        cases ho'
        rcases hrel with ⟨k1, k2, k3⟩ | ⟨k1, _⟩
        · obtain ⟨M, ρ, h⟩ := k2
          refine wpOp_step hf.here fun K' hK' => ?_
          rw [if_pos (by unfold Region.wanted; rw [hf.gd])]
          have hrun : (execOp a.eval o).run F.cx.P w = .ok (.value (.pointer (some ⟨w.heap.size, 0, none⟩))) (w.alloc (.cells z.cells T)) := by
            simp only [execOp, hf.op, Instr.alloc, zeroValue, run_typeInfo w hi0, hz, newVar, newRow, Sem.run_bind, run_newObj, Sem.run_pure, Result.andThen_ok]
            rfl
          unfold Oper.wp
          rw [hrun, Oper.upon_value, hf.dst]
          have hdn : d < F.n := hn o (Array.mem_of_getElem? hf.here) d hf.dst
          have hg := Gr.alloc none w (.cells z.cells T)
          have h2' := h.repl hF 0 (B0 := none) (ob := .arr 0 0 []) (w' := w)
          have hnb : ∀ b, M b → b < w.heap.size := fun b hb => (h.mb b hb).2
          have hM' : Rel1 F (fun b => M b ∨ b = w.heap.size) ρ σ (a.put (some d) (.pointer (some ⟨w.heap.size, 0, none⟩))) (w.alloc (.cells z.cells T)) := by
            have hok : ∀ b, okM F M b → b < w.heap.size → okM F (fun b => M b ∨ b = w.heap.size) b := fun b hb hlt => ⟨hb.1, fun e => e.elim hb.2 (fun e => by omega)⟩
            have hgF : Gr F.cx.g w (w.alloc (.cells z.cells T)) := Gr.alloc _ _ _
            refine ⟨h.gr.trans hgF, h.st.keep hgF.size (fun b hb => hg.block b hb (by simp)), h.gl.keep h.st hgF, fun b hb => ?_, fun t => ?_, fun k o2 hk => ?_, h.ne, h.df, by simp [Act.put]; exact h.nt, ?_⟩
            · rcases hb with hb | rfl
              · exact ⟨(h.mb b hb).1, Nat.lt_trans (h.mb b hb).2 (alloc_size w _)⟩
              · exact ⟨h.gr.size, alloc_size w _⟩
            · rw [getD_put (Nat.lt_of_lt_of_le hdn h.nt)]
              split
              · rename_i e
                rw [e, k3]
                exact trivial
              · exact (h.sl t).mono (Gr.refl _ _) hgF.size hok (fun b _ hlt => hg.block b hlt (by simp))
            · have h0 := h.ob k o2 hk
              cases o2 with
              | box T' cs =>
                obtain ⟨b, vs, e1, e2, e3, e4, e5⟩ := h0
                exact ⟨b, vs, e1, .inl e2, (hg.block b (hnb b e2) (by simp)).trans e3, e4, fun j x u hx hu => ⟨(e5 j x u hx hu).1, (e5 j x u hx hu).2.mono (Gr.refl _ _) hgF.size hok (fun b _ hlt => hg.block b hlt (by simp))⟩⟩
              | bld T' k' =>
                obtain ⟨b, p, e1, e2, e3, e4, e5⟩ := h0
                exact ⟨b, p, e1, .inl e2, (hg.block b (hnb b e2) (by simp)).trans e3, e4, e5⟩
              | arr e' z' l =>
                obtain ⟨cs, e1, e2, e3, e4⟩ := h0
                refine ⟨cs, ⟨e1.1, ?_⟩, fun b hb => .inl (e2 b hb), e3, e4.mono hgF.size hok (fun b _ hlt => hg.block b hlt (by simp))⟩
                rcases e1.2 with e | ⟨g, cap, cur, f1, f2, f3, f4⟩
                · exact .inl e
                · exact .inr ⟨g, cap, cur, f1, f2, (hg.block g (hnb g (e2 g (by rw [f1]; rfl))) (by simp)).trans f3, f4⟩
            · obtain ⟨q1, q2, q3⟩ := h.kx
              refine ⟨Nat.le_trans q1 hgF.size, fun b hx hnn hb => (hgF.block b (Nat.lt_of_lt_of_le hb q1) hnn).trans (q2 b hx hnn hb), fun b hb => ?_⟩
              rcases hb with hb | rfl
              · exact q3 b hb
              · exact .inr q1
          refine hK' _ _ (ih _ σ _ _ hs' hlen hdown (.inr ⟨by rw [getD_set (by omega), if_pos rfl], _, ρ, w.heap.size, hM', .inr rfl, heap_alloc_new w _, by rw [getD_put (Nat.lt_of_lt_of_le hdn h.nt), if_pos rfl], fun k o2 hk hb => ?_⟩) ?_)
          · have h0 := h.ob k o2 hk
            have : M w.heap.size := ObR.blk h0 hb
            have := hnb _ this
            omega
          · have : todo ops ((listed.setIfInBounds i true).setIfInBounds i false) = todo ops (listed.setIfInBounds i false) := todo_ext fun j => by
              rw [getD_set (by omega), getD_set (by omega), getD_set (by omega)]
              split <;> rfl
            rw [this]
            exact hx
        · rw [k1] at h2; cases h2
      · exfalso
        have hall : ∀ k, k < i → listed.getD k true = true := fun k hk => by
          have hm := hf.late i o' hgt ho' k hk
          have := listed_of_mask hR hd hs i k hk h1 hm (fun e he hb => h3 e (by rw [ho'] at he; exact he) hb)
          have hkl : k < listed.size := by omega
          rw [Array.getD_eq_getD_getElem?, Array.getElem?_eq_getElem hkl] at this ⊢
          exact this
        exact hfin ⟨hall ia hgt, fun j hj => hall j (by omega)⟩
/-- What is asked ahead of such a region. -/
def preOk (P : Program) : List Oper → Prop
  | [] => True
  | o :: _ => match o.op, o.dst with
    | .alloc T, some _ => (match TzeroA P T with
      | some cs => hasUn cs = false
      | none => False)
    | _, _ => False
def preA : List Oper → St → St
  | [], σ => σ
  | o :: _, σ => match o.dst with
    | some d => σ.delS d
    | none => σ
theorem drawF_sound (hE : EnvOk F.cx E) (hF : F.Wf) {ia : Nat} (hR : freeB ops ia = true) (hn : ∀ o ∈ ops, ∀ d, o.dst = some d → d < F.n) (hK : ∀ σ' a' w', Rel F σ' a' w' → K σ' → Q .normal a' w') {σ : St} {a : Act} {w : World} {id : Nat} (h : Rel F σ a w)
    (hp : preOk F.cx.P (optL ops [ia])) (hx : vcL F.cx E F.B ops K ops.toList (preA (optL ops [ia]) σ)) : (Code.region id ops true).wp F.cx.P Q a w := by
  obtain ⟨⟨o, T, d, hf⟩, hRF⟩ := freeOk hR
  have hia : ia < ops.size := (Array.getElem?_eq_some_iff.1 hf.here).1
  have ho1 : optL ops [ia] = [o] := by
    unfold optL
    rw [List.filterMap_cons, hf.here]
    rfl
  rw [ho1] at hp hx
  have hp' : (match TzeroA F.cx.P T with
      | some cs => hasUn cs = false
      | none => False) := by
    simp only [preOk, hf.op, hf.dst] at hp
    exact hp
  split at hp'
  · rename_i cs hcs
    obtain ⟨i0, z, hi0, hz, rfl⟩ := alloc_cells hcs
    have hx' : vcL F.cx E F.B ops K ops.toList (σ.delS d) := by
      simp only [preA, hf.dst] at hx
      exact hx
    refine wp_region_draw fun t => ?_
    have hsch : Region.schedule (F.cx.P.follows .mixedOrders) ops t = Region.linearise .any ops t := by
      unfold Region.schedule
      rw [hE.bld.mix]
      simp
    rw [hsch]
    have hrep : ∀ j, j < ops.size → (Array.replicate ops.size false).getD j true = false := fun j hj => by
      rw [Array.getD_eq_getD_getElem?, Array.getElem?_replicate, if_pos hj]
      rfl
    have ht : todo ops ((Array.replicate ops.size false).setIfInBounds ia false) = List.range ops.size := by
      unfold todo
      rw [List.filter_eq_self]
      intro i hi
      rw [getD_set (by simpa using hia)]
      split
      · rfl
      · rw [hrep i (List.mem_range.1 hi)]; rfl
    have ht2 : todo ops (Array.replicate ops.size false) = List.range ops.size := by
      unfold todo
      rw [List.filter_eq_self]
      intro i hi
      rw [hrep i (List.mem_range.1 hi)]; rfl
    have ho : opersOf ops (List.range ops.size) = ops.toList := by
      unfold opersOf
      cases ops with
      | mk l =>
        simp only [List.getElem?_toArray, List.size_toArray]
        have key : ∀ (l m : List Oper), List.filterMap (fun i => (m ++ l)[i]?) (List.range' m.length l.length) = l := by
          intro l
          induction l with
          | nil => intro m; rfl
          | cons x r ih =>
            intro m
            rw [List.length_cons, List.range'_succ, List.filterMap_cons, List.getElem?_append_right (Nat.le_refl _), Nat.sub_self]
            have := ih (m ++ [x])
            rw [List.append_assoc, List.length_append] at this
            simpa using this
        rw [List.range_eq_range']
        exact key l []
    obtain ⟨M, ρ, h1⟩ := h.delS d
    have hg : Gr F.cx.g w { w with drawn := w.drawn + 1 } := ⟨rfl, rfl, rfl, Nat.le_refl _, fun _ _ _ => rfl⟩
    refine wpAny_sound ops.size t _ a _ (any_free hE hF hf hRF hi0 hz hp' hn hK ops.size _ (σ.delS d) a _ (by simp) (by rw [ht2]; simp) (fun i o hi hl => ?_) (.inl ⟨hrep ia hia, ⟨M, ρ, h1.grow (k := 0) hF hg (h1.st.keep2 (Nat.le_refl _) fun _ _ _ _ => rfl)⟩, ?_⟩) (by rw [ht, ho]; exact hx'))
    · rw [hrep i (Array.getElem?_eq_some_iff.1 hi).1] at hl
      cases hl
    · show upd (σ.del d).s d .un d = .un
      rw [upd_apply, if_pos rfl]
  · exact hp'.elim
end
end Go.Avc
