/- slices.IndexFunc, ContainsFunc, Index, Contains at the seat's types: their contracts. No condition. -/
import Derived.Test.YtcifphelninbmaaDoorFn
set_option linter.unusedVariables false
set_option linter.unusedSimpArgs false
set_option maxRecDepth 100000
namespace Go.Avc
open Go Go.Proofs

/-- The first place at which p says yes; -1: there is none. -/
def idxB {α : Type} (p : α → Bool) (l : List α) : Int := match l.findIdx? p with
  | some i => i
  | none => -1
theorem idxB_at {α : Type} {p : α → Bool} {l : List α} {d : α} {i : Int} (h0 : 0 ≤ i) (h1 : i < l.length) (h2 : ∀ j : Nat, (j : Int) < i → p (l.getD j d) = false) (h3 : p (l.getD i.toNat d) = true) : idxB p l = i := by
  obtain ⟨n, rfl⟩ : ∃ n : Nat, i = n := ⟨i.toNat, by omega⟩
  rw [Int.toNat_natCast] at h3
  have hn : n < l.length := by omega
  unfold idxB
  rw [List.findIdx?_eq_some_of_exists ⟨l[n], List.getElem_mem _, by rwa [List.getD_eq_getElem?_getD, List.getElem?_eq_getElem hn] at h3⟩]
  have : l.findIdx p = n := by
    rw [List.findIdx_eq hn]
    refine ⟨by rwa [List.getD_eq_getElem?_getD, List.getElem?_eq_getElem hn] at h3, fun j hj => ?_⟩
    have := h2 j (by omega)
    rwa [List.getD_eq_getElem?_getD, List.getElem?_eq_getElem (by omega)] at this
  simp only [this]
theorem idxB_no {α : Type} {p : α → Bool} {l : List α} {d : α} (h : ∀ j : Nat, (j : Int) < l.length → p (l.getD j d) = false) : idxB p l = -1 := by
  unfold idxB
  rw [List.findIdx?_eq_none_iff.2]
  intro x hx
  obtain ⟨j, hj, rfl⟩ := List.mem_iff_getElem.1 hx
  have := h j (by omega)
  rwa [List.getD_eq_getElem?_getD, List.getElem?_eq_getElem hj] at this
theorem idxB_ge {α : Type} (p : α → Bool) (l : List α) : decide (0 ≤ idxB p l) = l.any p := by
  unfold idxB
  cases h : l.findIdx? p with
  | none =>
    rw [List.findIdx?_eq_none_iff] at h
    have : l.any p = false := by
      rw [List.any_eq_false]
      intro x hx; simp [h x hx]
    rw [this]; decide
  | some i =>
    have : l.any p = true := by
      rw [List.findIdx?_eq_some_iff_getElem] at h
      obtain ⟨hi, hp, _⟩ := h
      rw [List.any_eq_true]; exact ⟨_, List.getElem_mem hi, hp⟩
    rw [this]; simp
theorem idxB_range {α : Type} (p : α → Bool) (l : List α) : -1 ≤ idxB p l ∧ idxB p l < l.length := by
  unfold idxB
  cases h : l.findIdx? p with
  | none => simp only; omega
  | some i =>
    rw [List.findIdx?_eq_some_iff_getElem] at h
    obtain ⟨hi, hp, _⟩ := h
    simp only; omega
theorem idxB_map {α β : Type} (f : α → β) (p : β → Bool) (l : List α) : idxB p (l.map f) = idxB (fun a => p (f a)) l := by
  unfold idxB
  rw [List.findIdx?_map]; rfl
theorem idxB_congr {α : Type} {p q : α → Bool} {l : List α} (h : ∀ x, p x = q x) : idxB p l = idxB q l := by rw [funext h]
/-- An element as a value: a struct; a cell. -/
def elI (x : List D) : DV := .d (x.headD (.int .i64 0))
def elS (x : List D) : DV := .d (x.headD (.str ⟨#[]⟩))
theorem elI_f (x : List D) : DV.d (x.headD (.int .i64 0)) = elI x := rfl
theorem elS_f (x : List D) : DV.d (x.headD (.str ⟨#[]⟩)) = elS x := rfl
def idxFS (el : List D → DV) (zr : List D) : Spec where
  pre xs := ∃ (rows : List (List D)) (sp : FSpec), xs = [.sl rows, .fv sp] ∧ (∀ i, (rows.getD i zr).length = zr.length) ∧ (∀ i, sp.det (el (rows.getD i zr))) ∧ rows.length ≤ 4611686018427387904
  post xs r := ∃ (rows : List (List D)) (sp : FSpec), xs = [.sl rows, .fv sp] ∧ r = .i (idxB (fun x => sp.holds (el x)) rows)
  cost _ := 0
  fresh := true
def conFS (el : List D → DV) (zr : List D) : Spec where
  pre xs := ∃ (rows : List (List D)) (sp : FSpec), xs = [.sl rows, .fv sp] ∧ (∀ i, (rows.getD i zr).length = zr.length) ∧ (∀ i, sp.det (el (rows.getD i zr))) ∧ rows.length ≤ 4611686018427387904
  post xs r := ∃ (rows : List (List D)) (sp : FSpec), xs = [.sl rows, .fv sp] ∧ r = .b (rows.any fun x => sp.holds (el x))
  cost _ := 0
  fresh := true
theorem idx_leaf {α : Type} {rows : List α} {p : α → Bool} {zr : α} {i : Int} (j1 : 0 ≤ i) (j2 : i ≤ rows.length) (j3 : ∀ j : Nat, (j : Int) < i → p (rows.getD j zr) = false) (hl : rows.length ≤ 4611686018427387904) :
    (i < rows.length → 0 ≤ i ∧ i < rows.length ∧ (p (rows.getD i.toNat zr) = true → i = idxB p rows) ∧ (p (rows.getD i.toNat zr) = false → 0 ≤ IntKind.i64.wrap (i + 1) ∧ IntKind.i64.wrap (i + 1) ≤ rows.length ∧ (∀ j : Nat, (j : Int) < IntKind.i64.wrap (i + 1) → p (rows.getD j zr) = false) ∧ ((rows.length : Int) - IntKind.i64.wrap (i + 1)).toNat < ((rows.length : Int) - i).toNat)) ∧ (¬ i < rows.length → -1 = idxB p rows) := by
  refine ⟨fun c => ⟨j1, c, fun ht => (idxB_at j1 c j3 ht).symm, fun hf => ?_⟩, fun c => (idxB_no (d := zr) fun j hj => j3 j (by omega)).symm⟩
  rw [i64w (by omega) (by omega)]
  refine ⟨by omega, by omega, fun j hj => ?_, by omega⟩
  by_cases e : (j : Int) = i
  · rw [← e, Int.toNat_natCast] at hf; exact hf
  · exact j3 j (by omega)
open Classical in
/-- The first place at which x stands; -1: nowhere. -/
noncomputable def idxE {α : Type} (x : α) (l : List α) : Int := idxB (fun y => decide (x = y)) l
open Classical in
noncomputable def conE {α : Type} (x : α) (l : List α) : Bool := l.any fun y => decide (x = y)
theorem conE_iff {α : Type} (x : α) (l : List α) : (conE x l = true) = (x ∈ l) := by
  unfold conE
  simp
theorem idx_leafT {α : Type} {rows : List α} {x zr : α} {i : Int} (j1 : 0 ≤ i) (j2 : i ≤ rows.length) (j3 : ∀ j : Nat, (j : Int) < i → ¬ x = rows.getD j zr) (hl : rows.length ≤ 4611686018427387904) :
    (i < rows.length → 0 ≤ i ∧ i < rows.length ∧ (x = rows.getD i.toNat zr → i = idxE x rows) ∧ (¬ x = rows.getD i.toNat zr → 0 ≤ IntKind.i64.wrap (i + 1) ∧ IntKind.i64.wrap (i + 1) ≤ rows.length ∧ (∀ j : Nat, (j : Int) < IntKind.i64.wrap (i + 1) → ¬ x = rows.getD j zr) ∧ ((rows.length : Int) - IntKind.i64.wrap (i + 1)).toNat < ((rows.length : Int) - i).toNat)) ∧ (¬ i < rows.length → -1 = idxE x rows) := by
  classical
  have := idx_leaf (p := fun y => decide (x = y)) (zr := zr) j1 j2 (fun j hj => by simp only [decide_eq_false_iff_not]; exact j3 j hj) hl
  simp only [decide_eq_true_eq, decide_eq_false_iff_not] at this
  unfold idxE
  refine ⟨fun c => ?_, fun c => ?_⟩
  · obtain ⟨a, b, d, e⟩ := this.1 c
    exact ⟨a, b, fun h => by rw [d h], e⟩
  · rw [this.2 c]
theorem conE_ge {α : Type} (x : α) (l : List α) : decide (0 ≤ idxE x l) = conE x l := by
  unfold idxE conE
  exact idxB_ge _ _
def idx_stringS  : Spec where
  pre xs := ∃ (l : List ByteArray) (x : ByteArray), xs = [.sl (rowsT l), .str x] ∧ (l.length ≤ 4611686018427387904)
  post xs y := ∃ (l : List ByteArray) (x : ByteArray), xs = [.sl (rowsT l), .str x] ∧ y = .i (idxE x l)
  cost _ := 0
  fresh := true
theorem idx_stringS_c  (xs : List AV) : (idx_stringS).cost xs = 0 := nr rfl
theorem idx_stringS_f  : (idx_stringS).fresh = true := nr rfl
theorem idx_stringS_q  (l : List ByteArray) (x : ByteArray) : (idx_stringS).pre [.sl (rowsT l), .str x] = (l.length ≤ 4611686018427387904) := propext ⟨fun h => by
  have h' : ∃ (l' : List ByteArray) (x' : ByteArray), ([.sl (rowsT l), .str x] : List AV) = [.sl (rowsT l'), .str x'] ∧ (l'.length ≤ 4611686018427387904) := h
  obtain ⟨l', x', e, h⟩ := h'
  simp only [List.cons.injEq, AV.dv.injEq, AV.fv.injEq, DV.d.injEq, DV.ag.injEq, D.int.injEq, D.str.injEq, D.bool.injEq, D.sl.injEq, true_and, and_true, intsDi_inj, rowsT_inj, rowsKi_inj] at e
  obtain ⟨rfl, rfl⟩ := e
  exact h, fun h => ⟨l, x, rfl, h⟩⟩
theorem idx_stringS_p  (l : List ByteArray) (x : ByteArray) : (idx_stringS).post [.sl (rowsT l), .str x] = fun y => y = .i (idxE x l) := funext fun y => propext ⟨fun h => by
  have h' : ∃ (l' : List ByteArray) (x' : ByteArray), ([.sl (rowsT l), .str x] : List AV) = [.sl (rowsT l'), .str x'] ∧ y = .i (idxE x' l') := h
  obtain ⟨l', x', e, h⟩ := h'
  simp only [List.cons.injEq, AV.dv.injEq, AV.fv.injEq, DV.d.injEq, DV.ag.injEq, D.int.injEq, D.str.injEq, D.bool.injEq, D.sl.injEq, true_and, and_true, intsDi_inj, rowsT_inj, rowsKi_inj] at e
  obtain ⟨rfl, rfl⟩ := e
  exact h, fun h => ⟨l, x, rfl, h⟩⟩
def con_stringS  : Spec where
  pre xs := ∃ (l : List ByteArray) (x : ByteArray), xs = [.sl (rowsT l), .str x] ∧ (l.length ≤ 4611686018427387904)
  post xs y := ∃ (l : List ByteArray) (x : ByteArray), xs = [.sl (rowsT l), .str x] ∧ y = .b (conE x l)
  cost _ := 0
  fresh := true
theorem con_stringS_c  (xs : List AV) : (con_stringS).cost xs = 0 := nr rfl
theorem con_stringS_f  : (con_stringS).fresh = true := nr rfl
theorem con_stringS_q  (l : List ByteArray) (x : ByteArray) : (con_stringS).pre [.sl (rowsT l), .str x] = (l.length ≤ 4611686018427387904) := propext ⟨fun h => by
  have h' : ∃ (l' : List ByteArray) (x' : ByteArray), ([.sl (rowsT l), .str x] : List AV) = [.sl (rowsT l'), .str x'] ∧ (l'.length ≤ 4611686018427387904) := h
  obtain ⟨l', x', e, h⟩ := h'
  simp only [List.cons.injEq, AV.dv.injEq, AV.fv.injEq, DV.d.injEq, DV.ag.injEq, D.int.injEq, D.str.injEq, D.bool.injEq, D.sl.injEq, true_and, and_true, intsDi_inj, rowsT_inj, rowsKi_inj] at e
  obtain ⟨rfl, rfl⟩ := e
  exact h, fun h => ⟨l, x, rfl, h⟩⟩
theorem con_stringS_p  (l : List ByteArray) (x : ByteArray) : (con_stringS).post [.sl (rowsT l), .str x] = fun y => y = .b (conE x l) := funext fun y => propext ⟨fun h => by
  have h' : ∃ (l' : List ByteArray) (x' : ByteArray), ([.sl (rowsT l), .str x] : List AV) = [.sl (rowsT l'), .str x'] ∧ y = .b (conE x' l') := h
  obtain ⟨l', x', e, h⟩ := h'
  simp only [List.cons.injEq, AV.dv.injEq, AV.fv.injEq, DV.d.injEq, DV.ag.injEq, D.int.injEq, D.str.injEq, D.bool.injEq, D.sl.injEq, true_and, and_true, intsDi_inj, rowsT_inj, rowsKi_inj] at e
  obtain ⟨rfl, rfl⟩ := e
  exact h, fun h => ⟨l, x, rfl, h⟩⟩
theorem indexFunc_TPool {cx : Cx} (h : Seat cx) : Ctr cx 29 (idxFS DV.ag [.str ⟨#[]⟩, .int .i64 0, .int .i64 0, .int .i64 0, .sl []]) := by
  refine ctr_of (fn := Tryd.f29) (l := [.tmp 4]) (envL []) [0, 1, 4, 5, 7, 8, 9, 16] [] [] (env0 h.hP) ?_ (by rw [h.hP]; exact Tryd.func29) rfl (by kernel_rfl) rfl ?_ ?_
  · rw [h.hP]; exact ⟨_, Tryd.func29, by kernel_rfl, by kernel_rfl⟩
  · rintro xs ⟨rows, sp, rfl, h1, h2, h3⟩; exact ⟨_, rows, sp, rfl, rfl⟩
  · rintro xs ⟨rows, sp, rfl, h1, h2, h3⟩
    have hne : ∀ i, (rows.getD i [.str ⟨#[]⟩, .int .i64 0, .int .i64 0, .int .i64 0, .sl []] = []) = False := fun i => eq_false fun e => by have := h1 i; rw [e] at this; cases this
    have ht : ∀ i, (rows.getD i [.str ⟨#[]⟩, .int .i64 0, .int .i64 0, .int .i64 0, .sl []]).take 5 = rows.getD i [.str ⟨#[]⟩, .int .i64 0, .int .i64 0, .int .i64 0, .sl []] := fun i => List.take_of_length_le (Nat.le_of_eq (h1 i))
    refine ⟨by rw [Tryd.ntmps29]; simp, ?_⟩
    simp only [go_sem, h.hP, idxFS, Tryd.ntmps29, Nat.reduceEqDiff, reduceCtorEq, Nat.reduceMul, Nat.reduceAdd, Nat.reduceSub, Nat.reduceDiv, Nat.reduceMod, Nat.reduceLeDiff, Nat.reduceLT, Nat.reduceBNe, Nat.reduceBEq, reduceIte, Int.reduceLE, Int.reduceLT, Int.reduceToNat, Int.reduceNeg, Int.reduceAdd, Int.reduceSub, Int.reduceMul, Int.reduceEq]
    refine vc_loopS (Int) (fun (i : Int) => [(8, .i i)]) [] (fun (i : Int) => []) (fun (i : Int) => []) (fun (i : Int) => 0) (fun (i : Int) => 0 ≤ i ∧ i ≤ rows.length ∧ ∀ j : Nat, (j : Int) < i → sp.holds (DV.ag (rows.getD j [.str ⟨#[]⟩, .int .i64 0, .int .i64 0, .int .i64 0, .sl []])) = false) (fun (i : Int) => (rows.length - i).toNat) [] ?_ ?_
    · simp only [go_sem, h.hP, List.cons_append, List.nil_append, Meets_e, Below_e, Prod.exists, exists_eq, exists_eq_left, exists_eq_left', exists_eq_right, exists_eq_right', exists_and_left, exists_and_right, Ob.arr.injEq, AV.own.injEq, AV.fv.injEq, Tryd.ntmps29, Nat.reduceEqDiff, reduceCtorEq, Nat.reduceMul, Nat.reduceAdd, Nat.reduceSub, Nat.reduceDiv, Nat.reduceMod, Nat.reduceLeDiff, Nat.reduceLT, Nat.reduceBNe, Nat.reduceBEq, reduceIte, Int.reduceLE, Int.reduceLT, Int.reduceToNat, Int.reduceNeg, Int.reduceAdd, Int.reduceSub, Int.reduceMul, Int.reduceEq]
      exact ⟨Int.natCast_nonneg _, fun j hj => by omega⟩
    · rintro i ⟨j1, j2, j3⟩
      have h0 := h2 i.toNat
      simp only [go_sem, h.hP, List.cons_append, List.nil_append, Meets_e, Below_e, Prod.exists, exists_eq, exists_eq_left, exists_eq_left', exists_eq_right, exists_eq_right', exists_and_left, exists_and_right, Ob.arr.injEq, AV.own.injEq, AV.fv.injEq, idxFS, hne, h1, ht, h0.pre, h0.post, Tryd.ntmps29, Nat.reduceEqDiff, reduceCtorEq, Nat.reduceMul, Nat.reduceAdd, Nat.reduceSub, Nat.reduceDiv, Nat.reduceMod, Nat.reduceLeDiff, Nat.reduceLT, Nat.reduceBNe, Nat.reduceBEq, reduceIte, Int.reduceLE, Int.reduceLT, Int.reduceToNat, Int.reduceNeg, Int.reduceAdd, Int.reduceSub, Int.reduceMul, Int.reduceEq]
      exact idx_leaf (p := fun x => sp.holds (DV.ag x)) (zr := [.str ⟨#[]⟩, .int .i64 0, .int .i64 0, .int .i64 0, .sl []]) j1 j2 j3 h3
theorem containsFunc_TPool {cx : Cx} (h : Seat cx) : Ctr cx 130 (conFS DV.ag [.str ⟨#[]⟩, .int .i64 0, .int .i64 0, .int .i64 0, .sl []]) := by
  refine ctr_of (fn := Tryd.f130) (l := [.tmp 4]) (envL [(29, (idxFS DV.ag [.str ⟨#[]⟩, .int .i64 0, .int .i64 0, .int .i64 0, .sl []]))]) [0, 1, 4] [] [] (envL_cons (indexFunc_TPool h) (env0 h.hP)) ?_ (by rw [h.hP]; exact Tryd.func130) rfl (by kernel_rfl) rfl ?_ ?_
  · rw [h.hP]; exact ⟨_, Tryd.func130, by kernel_rfl, by kernel_rfl⟩
  · rintro xs ⟨rows, sp, rfl, h1, h2, h3⟩; exact ⟨_, rows, sp, rfl, rfl⟩
  · rintro xs ⟨rows, sp, rfl, h1, h2, h3⟩
    refine ⟨by rw [Tryd.ntmps130]; simp, ?_⟩
    simp only [go_sem, h.hP, List.cons_append, List.nil_append, Meets_e, Below_e, Prod.exists, exists_eq, exists_eq_left, exists_eq_left', exists_eq_right, exists_eq_right', exists_and_left, exists_and_right, Ob.arr.injEq, AV.own.injEq, AV.fv.injEq, idxFS, conFS, Tryd.ntmps130, Nat.reduceEqDiff, reduceCtorEq, Nat.reduceMul, Nat.reduceAdd, Nat.reduceSub, Nat.reduceDiv, Nat.reduceMod, Nat.reduceLeDiff, Nat.reduceLT, Nat.reduceBNe, Nat.reduceBEq, reduceIte, Int.reduceLE, Int.reduceLT, Int.reduceToNat, Int.reduceNeg, Int.reduceAdd, Int.reduceSub, Int.reduceMul, Int.reduceEq]
    exact ⟨h1, h2, h3, idxB_ge _ _⟩
theorem indexFunc_int {cx : Cx} (h : Seat cx) : Ctr cx 172 (idxFS elI [.int .i64 0]) := by
  refine ctr_of (fn := Tryd.f172) (l := [.tmp 4]) (envL []) [0, 1, 4, 5, 7, 8, 9, 16] [] [] (env0 h.hP) ?_ (by rw [h.hP]; exact Tryd.func172) rfl (by kernel_rfl) rfl ?_ ?_
  · rw [h.hP]; exact ⟨_, Tryd.func172, by kernel_rfl, by kernel_rfl⟩
  · rintro xs ⟨rows, sp, rfl, h1, h2, h3⟩; exact ⟨_, rows, sp, rfl, rfl⟩
  · rintro xs ⟨rows, sp, rfl, h1, h2, h3⟩
    have hne : ∀ i, (rows.getD i [.int .i64 0] = []) = False := fun i => eq_false fun e => by have := h1 i; rw [e] at this; cases this
    have ht : ∀ i, (rows.getD i [.int .i64 0]).take 1 = rows.getD i [.int .i64 0] := fun i => List.take_of_length_le (Nat.le_of_eq (h1 i))
    refine ⟨by rw [Tryd.ntmps172]; simp, ?_⟩
    simp only [go_sem, h.hP, idxFS, Tryd.ntmps172, Nat.reduceEqDiff, reduceCtorEq, Nat.reduceMul, Nat.reduceAdd, Nat.reduceSub, Nat.reduceDiv, Nat.reduceMod, Nat.reduceLeDiff, Nat.reduceLT, Nat.reduceBNe, Nat.reduceBEq, reduceIte, Int.reduceLE, Int.reduceLT, Int.reduceToNat, Int.reduceNeg, Int.reduceAdd, Int.reduceSub, Int.reduceMul, Int.reduceEq]
    refine vc_loopS (Int) (fun (i : Int) => [(8, .i i)]) [] (fun (i : Int) => []) (fun (i : Int) => []) (fun (i : Int) => 0) (fun (i : Int) => 0 ≤ i ∧ i ≤ rows.length ∧ ∀ j : Nat, (j : Int) < i → sp.holds (elI (rows.getD j [.int .i64 0])) = false) (fun (i : Int) => (rows.length - i).toNat) [] ?_ ?_
    · simp only [go_sem, h.hP, List.cons_append, List.nil_append, Meets_e, Below_e, Prod.exists, exists_eq, exists_eq_left, exists_eq_left', exists_eq_right, exists_eq_right', exists_and_left, exists_and_right, Ob.arr.injEq, AV.own.injEq, AV.fv.injEq, Tryd.ntmps172, Nat.reduceEqDiff, reduceCtorEq, Nat.reduceMul, Nat.reduceAdd, Nat.reduceSub, Nat.reduceDiv, Nat.reduceMod, Nat.reduceLeDiff, Nat.reduceLT, Nat.reduceBNe, Nat.reduceBEq, reduceIte, Int.reduceLE, Int.reduceLT, Int.reduceToNat, Int.reduceNeg, Int.reduceAdd, Int.reduceSub, Int.reduceMul, Int.reduceEq]
      exact ⟨Int.natCast_nonneg _, fun j hj => by omega⟩
    · rintro i ⟨j1, j2, j3⟩
      have h0 := h2 i.toNat
      simp only [go_sem, h.hP, List.cons_append, List.nil_append, Meets_e, Below_e, Prod.exists, exists_eq, exists_eq_left, exists_eq_left', exists_eq_right, exists_eq_right', exists_and_left, exists_and_right, Ob.arr.injEq, AV.own.injEq, AV.fv.injEq, idxFS, elI_f, hne, not_false_eq_true, h1, ht, h0.pre, h0.post, Tryd.ntmps172, Nat.reduceEqDiff, reduceCtorEq, Nat.reduceMul, Nat.reduceAdd, Nat.reduceSub, Nat.reduceDiv, Nat.reduceMod, Nat.reduceLeDiff, Nat.reduceLT, Nat.reduceBNe, Nat.reduceBEq, reduceIte, Int.reduceLE, Int.reduceLT, Int.reduceToNat, Int.reduceNeg, Int.reduceAdd, Int.reduceSub, Int.reduceMul, Int.reduceEq]
      exact idx_leaf (p := fun x => sp.holds (elI x)) (zr := [.int .i64 0]) j1 j2 j3 h3
theorem containsFunc_int {cx : Cx} (h : Seat cx) : Ctr cx 127 (conFS elI [.int .i64 0]) := by
  refine ctr_of (fn := Tryd.f127) (l := [.tmp 4]) (envL [(172, (idxFS elI [.int .i64 0]))]) [0, 1, 4] [] [] (envL_cons (indexFunc_int h) (env0 h.hP)) ?_ (by rw [h.hP]; exact Tryd.func127) rfl (by kernel_rfl) rfl ?_ ?_
  · rw [h.hP]; exact ⟨_, Tryd.func127, by kernel_rfl, by kernel_rfl⟩
  · rintro xs ⟨rows, sp, rfl, h1, h2, h3⟩; exact ⟨_, rows, sp, rfl, rfl⟩
  · rintro xs ⟨rows, sp, rfl, h1, h2, h3⟩
    refine ⟨by rw [Tryd.ntmps127]; simp, ?_⟩
    simp only [go_sem, h.hP, List.cons_append, List.nil_append, Meets_e, Below_e, Prod.exists, exists_eq, exists_eq_left, exists_eq_left', exists_eq_right, exists_eq_right', exists_and_left, exists_and_right, Ob.arr.injEq, AV.own.injEq, AV.fv.injEq, idxFS, conFS, Tryd.ntmps127, Nat.reduceEqDiff, reduceCtorEq, Nat.reduceMul, Nat.reduceAdd, Nat.reduceSub, Nat.reduceDiv, Nat.reduceMod, Nat.reduceLeDiff, Nat.reduceLT, Nat.reduceBNe, Nat.reduceBEq, reduceIte, Int.reduceLE, Int.reduceLT, Int.reduceToNat, Int.reduceNeg, Int.reduceAdd, Int.reduceSub, Int.reduceMul, Int.reduceEq]
    exact ⟨h1, h2, h3, idxB_ge _ _⟩
theorem index_string {cx : Cx} (h : Seat cx) : Ctr cx 129 idx_stringS := by
  refine ctr_of (fn := Tryd.f129) (l := [.tmp 4]) (envL []) [0, 1, 4, 5, 7, 8, 9, 16] [] [] (env0 h.hP) ?_ (by rw [h.hP]; exact Tryd.func129) rfl (by kernel_rfl) rfl ?_ ?_
  · rw [h.hP]; exact ⟨_, Tryd.func129, by kernel_rfl, by kernel_rfl⟩
  · rintro xs ⟨l, x, rfl, h1⟩; exact ⟨_, l, x, rfl, rfl⟩
  · rintro xs ⟨l, x, rfl, h1⟩
    refine ⟨by rw [Tryd.ntmps129]; simp, ?_⟩
    simp only [go_sem, h.hP, idx_stringS_q, idx_stringS_p, idx_stringS_c, idx_stringS_f, Tryd.ntmps129, Nat.reduceEqDiff, reduceCtorEq, Nat.reduceMul, Nat.reduceAdd, Nat.reduceSub, Nat.reduceDiv, Nat.reduceMod, Nat.reduceLeDiff, Nat.reduceLT, Nat.reduceBNe, Nat.reduceBEq, reduceIte, Int.reduceLE, Int.reduceLT, Int.reduceToNat, Int.reduceNeg, Int.reduceAdd, Int.reduceSub, Int.reduceMul, Int.reduceEq]
    refine vc_loopS (Int) (fun (i : Int) => [(8, .i i)]) [] (fun (i : Int) => []) (fun (i : Int) => []) (fun (i : Int) => 0) (fun (i : Int) => 0 ≤ i ∧ i ≤ l.length ∧ ∀ j : Nat, (j : Int) < i → ¬ x = l.getD j ⟨#[]⟩) (fun (i : Int) => (l.length - i).toNat) [] ?_ ?_
    · simp only [go_sem, h.hP, List.cons_append, List.nil_append, Meets_e, Below_e, Prod.exists, exists_eq, exists_eq_left, exists_eq_left', exists_eq_right, exists_eq_right', exists_and_left, exists_and_right, Ob.arr.injEq, AV.own.injEq, AV.fv.injEq, rowsT_len, rowsT_get, rowsT_inj, Tryd.ntmps129, Nat.reduceEqDiff, reduceCtorEq, Nat.reduceMul, Nat.reduceAdd, Nat.reduceSub, Nat.reduceDiv, Nat.reduceMod, Nat.reduceLeDiff, Nat.reduceLT, Nat.reduceBNe, Nat.reduceBEq, reduceIte, Int.reduceLE, Int.reduceLT, Int.reduceToNat, Int.reduceNeg, Int.reduceAdd, Int.reduceSub, Int.reduceMul, Int.reduceEq]
      exact ⟨Int.natCast_nonneg _, fun j hj => by omega⟩
    · rintro i ⟨j1, j2, j3⟩
      simp only [go_sem, h.hP, List.cons_append, List.nil_append, Meets_e, Below_e, Prod.exists, exists_eq, exists_eq_left, exists_eq_left', exists_eq_right, exists_eq_right', exists_and_left, exists_and_right, Ob.arr.injEq, AV.own.injEq, AV.fv.injEq, idx_stringS_q, idx_stringS_p, idx_stringS_c, idx_stringS_f, rowsT_len, rowsT_get, rowsT_inj, Tryd.ntmps129, Nat.reduceEqDiff, reduceCtorEq, Nat.reduceMul, Nat.reduceAdd, Nat.reduceSub, Nat.reduceDiv, Nat.reduceMod, Nat.reduceLeDiff, Nat.reduceLT, Nat.reduceBNe, Nat.reduceBEq, reduceIte, Int.reduceLE, Int.reduceLT, Int.reduceToNat, Int.reduceNeg, Int.reduceAdd, Int.reduceSub, Int.reduceMul, Int.reduceEq]
      exact idx_leafT j1 j2 j3 h1
theorem contains_string {cx : Cx} (h : Seat cx) : Ctr cx 82 con_stringS := by
  refine ctr_of (fn := Tryd.f82) (l := [.tmp 4]) (envL [(129, idx_stringS)]) [0, 1, 4] [] [] (envL_cons (index_string h) (env0 h.hP)) ?_ (by rw [h.hP]; exact Tryd.func82) rfl (by kernel_rfl) rfl ?_ ?_
  · rw [h.hP]; exact ⟨_, Tryd.func82, by kernel_rfl, by kernel_rfl⟩
  · rintro xs ⟨l, x, rfl, h1⟩; exact ⟨_, l, x, rfl, rfl⟩
  · rintro xs ⟨l, x, rfl, h1⟩
    refine ⟨by rw [Tryd.ntmps82]; simp, ?_⟩
    simp only [go_sem, h.hP, List.cons_append, List.nil_append, Meets_e, Below_e, Prod.exists, exists_eq, exists_eq_left, exists_eq_left', exists_eq_right, exists_eq_right', exists_and_left, exists_and_right, Ob.arr.injEq, AV.own.injEq, AV.fv.injEq, idx_stringS_q, idx_stringS_p, idx_stringS_c, idx_stringS_f, con_stringS_q, con_stringS_p, con_stringS_c, con_stringS_f, rowsT_len, rowsT_get, rowsT_inj, Tryd.ntmps82, Nat.reduceEqDiff, reduceCtorEq, Nat.reduceMul, Nat.reduceAdd, Nat.reduceSub, Nat.reduceDiv, Nat.reduceMod, Nat.reduceLeDiff, Nat.reduceLT, Nat.reduceBNe, Nat.reduceBEq, reduceIte, Int.reduceLE, Int.reduceLT, Int.reduceToNat, Int.reduceNeg, Int.reduceAdd, Int.reduceSub, Int.reduceMul, Int.reduceEq]
    exact ⟨h1, conE_ge x l⟩
end Go.Avc
