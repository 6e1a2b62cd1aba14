/- The calculus: a region whose order is drawn does what is asked in the order of the text. No condition. -/
import Derived.Test.YtcifphelninbmaaDoorAvc15
import Derived.RegionTactic
set_option linter.unusedVariables false
set_option linter.unusedSimpArgs false
namespace Go.Avc
open Go

/-- All that an operation waits for is listed. -/
def Down (ops : Array Oper) (listed : Array Bool) : Prop := ∀ i o, ops[i]? = some o → listed.getD i true = true → ∀ e ∈ o.after, edgeIn e = true → listed.getD e.on false = true

def todo (ops : Array Oper) (listed : Array Bool) : List Nat := (List.range ops.size).filter fun i => !listed.getD i true
def operAt (ops : Array Oper) (i : Nat) : List Oper := (ops[i]?).toList

section
variable {ops : Array Oper} {listed : Array Bool}

structure RegFacts (ops : Array Oper) (L : Array Bool) : Prop where
  edge : ∀ i o, ops[i]? = some o → ∀ e ∈ o.after, edgeIn e = true → e.on < i
  pair : ∀ i a o x, ops[i]? = some o → ops[a]? = some x → a < i → L.getD i false = false → L.getD a false = false → ((masks ops).getD i 0).testBit a = true ∨ (isS x.op = false ∧ isS o.op = false ∧ Oper.apart ops x o = true)
  mask : ∀ i a o, ops[i]? = some o → a < i → ((masks ops).getD i 0).testBit a = true → ∃ e ∈ o.after, edgeIn e = true ∧ (e.on = a ∨ (a < e.on ∧ ((masks ops).getD e.on 0).testBit a = true))

theorem regFacts {L : Array Bool} (h : regOkL ops L = true) : RegFacts ops L := by
  unfold regOkL at h
  simp only [Bool.and_eq_true, Bool.not_eq_true', List.all_eq_true, List.mem_range] at h
  have h2 := h
  have key : ∀ i o, ops[i]? = some o → (o.after.all fun e => !edgeIn e || decide (e.on < i)) = true ∧ ∀ a, a < i → (if ((masks ops).getD i 0).testBit a then o.after.any fun e => edgeIn e && (e.on == a || (decide (a < e.on) && ((masks ops).getD e.on 0).testBit a))
      else L.getD i false || L.getD a false || match ops[a]? with
        | none => true
        | some x => !isS x.op && !isS o.op && Oper.apart ops x o) = true := by
    intro i o hi
    have := h2 i (by
      obtain ⟨hlt, _⟩ := Array.getElem?_eq_some_iff.1 hi
      exact hlt)
    rw [hi] at this
    simp only [Bool.and_eq_true, List.all_eq_true, List.mem_range] at this
    exact this
  refine ⟨fun i o hi e he hb => ?_, fun i a o x hi ha hlt hLi hLa => ?_, fun i a o hi hlt hm => ?_⟩
  · have := (key i o hi).1
    rw [Array.all_eq_true_iff_forall_mem] at this
    have := this e he
    simp only [hb, Bool.not_true, Bool.false_or, decide_eq_true_eq] at this
    exact this
  · have := (key i o hi).2 a hlt
    split at this
    · rename_i hm; exact .inl hm
    · rw [ha, hLi, hLa] at this
      simp only [Bool.false_or, Bool.and_eq_true, Bool.not_eq_true'] at this
      exact .inr ⟨this.1.1, this.1.2, this.2⟩
  · have := (key i o hi).2 a hlt
    rw [if_pos hm, Array.any_eq_true'] at this
    obtain ⟨e, he, h⟩ := this
    simp only [Bool.and_eq_true, Bool.or_eq_true, beq_iff_eq, decide_eq_true_eq] at h
    exact ⟨e, he, h.1, h.2⟩

theorem listed_of_mask {L : Array Bool} (hR : RegFacts ops L) (hd : Down ops listed) (hs : listed.size = ops.size) : ∀ (i a : Nat), a < i → i < ops.size → ((masks ops).getD i 0).testBit a = true → (∀ e : Edge, e ∈ (ops[i]?.map (·.after)).getD #[] → edgeIn e = true → listed.getD e.on false = true) → listed.getD a false = true := by
  intro i
  induction i using Nat.strongRecOn with
  | _ i ih =>
    intro a hlt hi hm hl
    have ho : ops[i]? = some ops[i] := Array.getElem?_eq_getElem hi
    obtain ⟨e, he, hb, h⟩ := hR.mask i a _ ho hlt hm
    have hle := hl e (by rw [ho]; exact he) hb
    rcases h with h | h
    · rw [← h]; exact hle
    · have hei := hR.edge i _ ho e he hb
      refine ih e.on hei a h.1 (by omega) h.2 fun e' he' hb' => ?_
      have ho' : ops[e.on]? = some (ops[e.on]'(by omega)) := Array.getElem?_eq_getElem _
      rw [ho'] at he'
      refine hd e.on _ ho' ?_ e' he' hb'
      have hlt' : e.on < listed.size := by omega
      rw [Array.getD_eq_getD_getElem?, Array.getElem?_eq_getElem hlt'] at hle ⊢
      exact hle
end

section
variable {F : Fr} {E : Env} {ops : Array Oper} {K : St → Prop} {Q : Exit → Act → World → Prop}

def opersOf (ops : Array Oper) (l : List Nat) : List Oper := l.filterMap fun i => ops[i]?

theorem todo_set {listed : Array Bool} {i : Nat} (hs : listed.size = ops.size) (hi : i < ops.size) (hl : listed.getD i true = false) : ∃ A C, todo ops listed = A ++ i :: C ∧ todo ops (listed.setIfInBounds i true) = A ++ C ∧ ∀ x ∈ A, x < i ∧ listed.getD x true = false := by
  have hsp : List.range ops.size = List.range i ++ i :: (List.range' (i + 1) (ops.size - i - 1)) := by
    have h1 : List.range' i (ops.size - i) = i :: List.range' (i + 1) (ops.size - i - 1) := by
      have : ops.size - i = (ops.size - i - 1) + 1 := by omega
      rw [this, List.range'_succ]
      simp
    rw [← h1, List.range_eq_range', List.range_eq_range']
    have h2 := @List.range'_append_1 0 i (ops.size - i)
    rw [Nat.zero_add, show i + (ops.size - i) = ops.size by omega] at h2
    exact h2.symm
  have hne : ∀ x, x ≠ i → (listed.setIfInBounds i true).getD x true = listed.getD x true := fun x hx => by
    rw [Array.getD_eq_getD_getElem?, Array.getD_eq_getD_getElem?, Array.getElem?_setIfInBounds_ne (Ne.symm hx)]
  have hii : (listed.setIfInBounds i true).getD i true = true := by
    rw [Array.getD_eq_getD_getElem?, Array.getElem?_setIfInBounds_self_of_lt (by omega)]
    rfl
  refine ⟨(List.range i).filter fun x => !listed.getD x true, (List.range' (i + 1) (ops.size - i - 1)).filter fun x => !listed.getD x true, ?_, ?_, ?_⟩
  · unfold todo
    rw [hsp, List.filter_append, List.filter_cons, hl]
    rfl
  · unfold todo
    rw [hsp, List.filter_append, List.filter_cons, hii]
    simp only [Bool.not_true, Bool.false_eq_true, if_false]
    congr 1
    · exact List.filter_congr fun x hx => by rw [hne x (by have := List.mem_range.1 hx; omega)]
    · exact List.filter_congr fun x hx => by rw [hne x (by have := List.mem_range'_1.1 hx; omega)]
  · intro x hx
    obtain ⟨h1, h2⟩ := List.mem_filter.1 hx
    exact ⟨List.mem_range.1 h1, by simpa using h2⟩

theorem ready_iff {listed : Array Bool} {i : Nat} : i ∈ Region.ready .any ops listed ↔ i < ops.size ∧ listed.getD i true = false ∧ ∃ o, ops[i]? = some o ∧ ∀ e ∈ o.after, edgeIn e = true → listed.getD e.on false = true := by
  unfold Region.ready
  rw [List.mem_filter, List.mem_range, Bool.and_eq_true, Bool.not_eq_true']
  refine and_congr Iff.rfl (and_congr Iff.rfl ?_)
  cases ops[i]? with
  | none => simp
  | some o =>
    simp only [Option.map_some, Option.getD_some, Array.all_eq_true_iff_forall_mem, Bool.or_eq_true, Bool.not_eq_true', Option.some.injEq, exists_eq_left']
    refine forall_congr' fun e => forall_congr' fun _ => ?_
    unfold edgeIn
    cases Region.binds .any e <;> simp

theorem any_sound (hE : EnvOk F.cx E) (hF : F.Wf) {L : Array Bool} (hR : RegFacts ops L) (hn : ∀ o ∈ ops, ∀ d, o.dst = some d → d < F.n) (hK : ∀ σ' a' w', Rel F σ' a' w' → K σ' → Q .normal a' w') : ∀ (fuel : Nat) (listed : Array Bool) (σ : St) (a : Act) (w : World), listed.size = ops.size → (todo ops listed).length = fuel → Down ops listed → (∀ i, L.getD i false = true → listed.getD i true = true) →
    Rel F σ a w → vcL F.cx E F.B ops K (opersOf ops (todo ops listed)) σ → wpAny F.cx.P .any ops Q fuel listed a w := by
  intro fuel
  induction fuel with
  | zero =>
    intro listed σ a w hs hl hd hsub h hx
    have ht : todo ops listed = [] := List.eq_nil_of_length_eq_zero hl
    rw [ht] at hx
    refine ⟨?_, hK _ _ _ h hx⟩
    rw [List.eq_nil_iff_forall_not_mem]
    intro i hi
    obtain ⟨h1, h2, _⟩ := ready_iff.1 hi
    have : i ∈ todo ops listed := List.mem_filter.2 ⟨List.mem_range.2 h1, by rw [h2]; rfl⟩
    rw [ht] at this
    cases this
  | succ fuel ih =>
    intro listed σ a w hs hl hd hsub h hx
    refine ⟨fun hr => ?_, fun i hi => ?_⟩
    · exfalso
      cases ht : todo ops listed with
      | nil => rw [ht] at hl; cases hl
      | cons i C =>
        have hmem : i ∈ todo ops listed := by rw [ht]; exact List.mem_cons_self
        obtain ⟨h1, h2⟩ := List.mem_filter.1 hmem
        have h2' : listed.getD i true = false := by simpa using h2
        obtain ⟨A, C', h3, _, h5⟩ := todo_set (ops := ops) hs (List.mem_range.1 h1) h2'
        have ho : ops[i]? = some (ops[i]'(List.mem_range.1 h1)) := Array.getElem?_eq_getElem _
        have : i ∈ Region.ready .any ops listed := ready_iff.2 ⟨List.mem_range.1 h1, h2', _, ho, fun e he hb => by
          have hei := hR.edge i _ ho e he hb
          have hlt : e.on < listed.size := by have := List.mem_range.1 h1; omega
          cases hle : listed.getD e.on true with
          | true =>
            rw [Array.getD_eq_getD_getElem?, Array.getElem?_eq_getElem hlt] at hle ⊢
            exact hle
          | false =>
            have hm2 : e.on ∈ todo ops listed := List.mem_filter.2 ⟨List.mem_range.2 (by omega), by rw [hle]; rfl⟩
            have hsort : (todo ops listed).Pairwise (· < ·) := List.Pairwise.filter _ List.pairwise_lt_range
            rw [ht] at hm2 hsort
            rcases List.mem_cons.1 hm2 with e1 | e1
            · omega
            · have := (List.pairwise_cons.1 hsort).1 _ e1
              omega⟩
        rw [hr] at this
        cases this
    · obtain ⟨h1, h2, o, ho, h3⟩ := ready_iff.1 hi
      obtain ⟨A, C, h4, h5, h6⟩ := todo_set hs h1 h2
      have hx' : vcL F.cx E F.B ops K (o :: (opersOf ops A ++ opersOf ops C)) σ := by
        refine vcL_front hE (opersOf ops A) σ (fun x hx => ?_) ?_
        · obtain ⟨j, hj, hjx⟩ := List.mem_filterMap.1 hx
          obtain ⟨hlt, hul⟩ := h6 j hj
          rcases hR.pair i j o x ho hjx hlt (by
            cases hc : L.getD i false with
            | false => rfl
            | true => rw [hsub i hc] at h2; cases h2) (by
            cases hc : L.getD j false with
            | false => rfl
            | true => rw [hsub j hc] at hul; cases hul) with hm | hm
          · have := listed_of_mask hR hd hs i j hlt h1 hm (fun e he hb => h3 e (by rw [ho] at he; exact he) hb)
            have hjlt : j < listed.size := by omega
            rw [Array.getD_eq_getD_getElem?, Array.getElem?_eq_getElem hjlt] at this hul
            rw [Option.getD_some] at this hul
            rw [this] at hul
            cases hul
          · exact hm
        · rw [h4] at hx
          unfold opersOf at hx ⊢
          rw [List.filterMap_append, List.filterMap_cons, ho] at hx
          exact hx
      refine wpOp_step ho fun K' hK' => vcOp_sound hE hF h (hn o (Array.mem_of_getElem? ho)) hx' fun σ' a' w' h' hx' => hK' _ _ (ih _ σ' a' w' (by rw [Array.size_setIfInBounds]; exact hs) (by
          rw [h5]
          rw [h4] at hl
          simp only [List.length_append, List.length_cons] at hl ⊢
          omega) (fun j oj hj hlj e he hb => ?_) (fun j hj => by
          rw [Array.getD_eq_getD_getElem?, Array.getElem?_setIfInBounds]
          split
          · split <;> rfl
          · rw [← Array.getD_eq_getD_getElem?]; exact hsub j hj) h' (by rw [h5]; unfold opersOf at hx' ⊢; rw [List.filterMap_append]; exact hx'))
      by_cases hej : e.on = i
      · have : i < listed.size := by omega
        rw [hej, Array.getD_eq_getD_getElem?, Array.getElem?_setIfInBounds_self_of_lt this]
        rfl
      · rw [Array.getD_eq_getD_getElem?, Array.getElem?_setIfInBounds_ne (Ne.symm hej), ← Array.getD_eq_getD_getElem?]
        by_cases hji : j = i
        · subst hji
          rw [ho] at hj
          cases hj
          exact h3 e he hb
        · rw [Array.getD_eq_getD_getElem?, Array.getElem?_setIfInBounds_ne (Ne.symm hji), ← Array.getD_eq_getD_getElem?] at hlj
          exact hd j oj hj hlj e he hb

/-- A region whose order is drawn. -/
theorem draw_sound (hE : EnvOk F.cx E) (hF : F.Wf) (hR : regOk ops = true) (hn : ∀ o ∈ ops, ∀ d, o.dst = some d → d < F.n) (hK : ∀ σ' a' w', Rel F σ' a' w' → K σ' → Q .normal a' w') {σ : St} {a : Act} {w : World} {id : Nat} (h : Rel F σ a w)
    (hx : vcL F.cx E F.B ops K ops.toList σ) : (Code.region id ops true).wp F.cx.P Q a w := by
  have hRF := regFacts hR
  refine wp_region_draw fun t => ?_
  have hsch : Region.schedule (F.cx.P.follows .mixedOrders) ops t = Region.linearise .any ops t := by
    unfold Region.schedule
    rw [hE.bld.mix]
    simp
  rw [hsch]
  have ht : todo ops (Array.replicate ops.size false) = List.range ops.size := by
    unfold todo
    rw [List.filter_eq_self]
    intro i hi
    rw [Array.getD_eq_getD_getElem?, Array.getElem?_replicate, if_pos (List.mem_range.1 hi)]
    rfl
  have ho : opersOf ops (List.range ops.size) = ops.toList := by
    unfold opersOf
    cases ops with
    | mk l =>
      simp only [List.getElem?_toArray, List.size_toArray]
      have key : ∀ (l m : List Oper), List.filterMap (fun i => (m ++ l)[i]?) (List.range' m.length l.length) = l := by
        intro l
        induction l with
        | nil => intro m; rfl
        | cons x r ih =>
          intro m
          rw [List.length_cons, List.range'_succ, List.filterMap_cons, List.getElem?_append_right (Nat.le_refl _), Nat.sub_self]
          have := ih (m ++ [x])
          rw [List.append_assoc, List.length_append] at this
          simpa using this
      rw [List.range_eq_range']
      exact key l []
  refine wpAny_sound ops.size t _ a _ (any_sound hE hF hRF hn hK ops.size _ σ a _ (by simp) (by rw [ht]; simp) (fun i o hi hl => ?_) (fun i hi => by simp at hi) ?_ (by rw [ht, ho]; exact hx))
  · rw [Array.getD_eq_getD_getElem?, Array.getElem?_replicate] at hl
    obtain ⟨hlt, _⟩ := Array.getElem?_eq_some_iff.1 hi
    rw [if_pos hlt] at hl
    cases hl
  · obtain ⟨M, ρ, h⟩ := h
    have hg : Gr F.cx.g w { w with drawn := w.drawn + 1 } := ⟨rfl, rfl, rfl, Nat.le_refl _, fun _ _ _ => rfl⟩
    exact ⟨M, ρ, h.grow (k := 0) hF hg (h.st.keep2 (Nat.le_refl _) fun _ _ _ _ => rfl)⟩
end
end Go.Avc
