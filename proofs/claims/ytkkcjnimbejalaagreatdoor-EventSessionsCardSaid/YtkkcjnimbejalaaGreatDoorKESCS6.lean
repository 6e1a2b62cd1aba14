/- EventSessions returns true for every slice of numbers, and leaves it as it was; the two tables of unicode/utf8, the pool of ids and the names of fields and of events, which its row lists, lie as the program lays them. -/
import Derived.Carry
import Derived.LoopN
import Derived.Sort.Grow
import Derived.Deep.Draws
import Derived.Test.YtkkcjnimbejalaaGreatDoorCards
import Derived.Test.YtkkcjnimbejalaaGreatDoorTie
import Derived.WalkKit
import Derived.ProofKit
import Derived.OpenShut
import Derived.Deep.DeepHandedRow
import Derived.Test.YtkkcjnimbejalaaGreatDoorKESCS1
import Derived.Test.YtkkcjnimbejalaaGreatDoorKESCS2
import Derived.Test.YtkkcjnimbejalaaGreatDoorKESCS3
import Derived.Test.YtkkcjnimbejalaaGreatDoorKESCS4
import Derived.Test.YtkkcjnimbejalaaGreatDoorKESCS5
/- Fields in order, and one found by its name: plain law. No condition. -/
set_option linter.unusedVariables false
set_option linter.unusedSimpArgs false
set_option maxRecDepth 100000
namespace Go.Avc
open Go Go.Proofs

theorem less_lt : ∀ (x y : List UInt8), Op.bytesLess x y = decide (x < y)
  | [], [] => by simp [Op.bytesLess]
  | _ :: _, [] => by simp [Op.bytesLess]
  | [], _ :: _ => by simp [Op.bytesLess]
  | a :: x, b :: y => by
    rw [Op.bytesLess, less_lt x y]
    simp only [List.cons_lt_cons_iff]
    by_cases h1 : a < b <;> by_cases h2 : a = b <;> by_cases h3 : x < y <;> simp [h1, h2, h3]
theorem lessS_lt (s t : ByteArray) : lessS s t = decide (s.data.toList < t.data.toList) := by
  unfold lessS
  rw [toList_eq_data, toList_eq_data]
  exact less_lt _ _
theorem lessS_trans {s t u : ByteArray} (h : lessS s t = true) (k : lessS t u = true) : lessS s u = true := by
  rw [lessS_lt, decide_eq_true_eq] at *
  exact List.lt_trans h k
theorem lessS_irrefl (s : ByteArray) : lessS s s = false := by
  rw [lessS_lt, decide_eq_false_iff_not]
  exact List.lt_irrefl _
theorem lessS_total {s t : ByteArray} (h : ¬ (lessS s t = true ∨ s = t)) : lessS t s = true := by
  rw [lessS_lt, decide_eq_true_eq] at *
  have h1 : ¬ s.data.toList < t.data.toList := fun e => h (.inl e)
  have h2 : ¬ s.data.toList = t.data.toList := fun e => h (.inr (ba_eq.2 e))
  rcases List.le_total s.data.toList t.data.toList with e | e
  · rcases List.le_iff_lt_or_eq.1 e with e | e
    · exact absurd e h1
    · exact absurd e h2
  · rcases List.le_iff_lt_or_eq.1 e with e | e
    · exact e
    · exact absurd e.symm h2
/-- Fields whose names rise. -/
def ascF (l : List TField) : Prop := ∀ i j : Nat, i < j → j < l.length → lessS (l.getD i TField.z).name (l.getD j TField.z).name = true
theorem asc_of_step {l : List TField} (h : ∀ i : Nat, i + 1 < l.length → lessS (l.getD i TField.z).name (l.getD (i + 1) TField.z).name = true) : ascF l := by
  intro i j hij
  induction j with
  | zero => omega
  | succ j ih =>
    intro hj
    by_cases e : i = j
    · subst e; exact h i hj
    · exact lessS_trans (ih (by omega) (by omega)) (h j hj)
theorem asc_of_fields {l : List TField} (h : fieldsF l = 0) : ascF l ∧ l.length ≤ 30 := by
  unfold fieldsF at h
  have h1 : ¬ 30 < (l.length : Int) := fun e => by rw [if_pos e] at h; cases h
  rw [if_neg h1] at h
  refine ⟨asc_of_step fun i hi => ?_, by omega⟩
  have hz : fieldF l (i + 1) = 0 := by
    cases hq : decide (fieldF l (i + 1) = 0) with
    | true => exact of_decide_eq_true hq
    | false =>
      exfalso
      have hne : fieldF l (i + 1) ≠ 0 := of_decide_eq_false hq
      unfold firstI at h
      cases hf : (List.range l.length).find? (fun i => decide (fieldF l i ≠ 0)) with
      | none =>
        have := List.find?_eq_none.1 hf (i + 1) (List.mem_range.2 hi)
        simp only [decide_eq_true_eq] at this
        exact this hne
      | some k =>
        rw [hf] at h
        have := List.find?_some hf
        simp only [decide_eq_true_eq] at this
        exact this h
  unfold fieldF at hz
  split at hz
  · cases hz
  · split at hz
    · rename_i c; exact absurd hz c
    · split at hz
      · cases hz
      · rename_i c
        refine lessS_total fun e => c ⟨by omega, ?_⟩
        rw [show i + 1 - 1 = i by omega]
        exact e
def findF (l : List TField) (n : ByteArray) : Option TField := l.find? fun f => decide (f.name = n)
theorem asc_inj {l : List TField} (h : ascF l) {i j : Nat} (hi : i < l.length) (hj : j < l.length) (e : (l.getD i TField.z).name = (l.getD j TField.z).name) : i = j := by
  rcases Nat.lt_trichotomy i j with c | c | c
  · have := h i j c hj
    rw [e, lessS_irrefl] at this
    cases this
  · exact c
  · have := h j i c hi
    rw [e, lessS_irrefl] at this
    cases this
theorem findF_at {l : List TField} (h : ascF l) {i : Nat} (hi : i < l.length) {n : ByteArray} (e : (l.getD i TField.z).name = n) : findF l n = some (l.getD i TField.z) := by
  unfold findF
  cases hf : l.find? (fun f => decide (f.name = n)) with
  | none =>
    have := List.find?_eq_none.1 hf (l.getD i TField.z) (by rw [getD_lt hi]; exact List.getElem_mem hi)
    simp only [decide_eq_true_eq] at this
    exact absurd e this
  | some f =>
    have h1 := List.find?_some hf
    simp only [decide_eq_true_eq] at h1
    obtain ⟨j, hj, hfj⟩ := List.mem_iff_getElem.1 (List.mem_of_find?_eq_some hf)
    have h2 : l.getD j TField.z = f := by rw [getD_lt hj]; exact hfj
    have : i = j := asc_inj h hi hj (by rw [e, h2, h1])
    rw [this, h2]
theorem findF_no {l : List TField} {n : ByteArray} (h : ∀ i : Nat, i < l.length → (l.getD i TField.z).name ≠ n) : findF l n = none := by
  unfold findF
  rw [List.find?_eq_none]
  intro x hx
  obtain ⟨j, hj, rfl⟩ := List.mem_iff_getElem.1 hx
  have := h j hj
  rw [getD_lt hj] at this
  simpa using this
end Go.Avc

/- Schemas: what is wrong with them, by the program and by the reference. No condition. -/
set_option linter.unusedVariables false
set_option linter.unusedSimpArgs false
set_option maxRecDepth 100000
namespace Go.Avc
open Go Go.Proofs

def leS (s t : ByteArray) : Prop := Op.bytesLess s.toList t.toList = true ∨ s = t
def needE (l : List TNeed) (i : Nat) : Int := if keyB (l.getD i TNeed.z).name = false then 5 else if inB (l.getD i TNeed.z).kind 1 4 = false then 4 else
  if 0 < (i : Int) ∧ (Op.bytesLess (l.getD i TNeed.z).name.toList (l.getD (i - 1) TNeed.z).name.toList = true ∨ (l.getD i TNeed.z).name = (l.getD (i - 1) TNeed.z).name) then 7 else 0
def needsF (l : List TNeed) : Int := if 30 < (l.length : Int) then 2 else firstI l.length (needE l)
def schE (l : List TSchema) (i : Nat) : Int := if keyB (l.getD i TSchema.z).name = false then 5 else
  if 0 < (i : Int) ∧ (Op.bytesLess (l.getD i TSchema.z).name.toList (l.getD (i - 1) TSchema.z).name.toList = true ∨ (l.getD i TSchema.z).name = (l.getD (i - 1) TSchema.z).name) then 7 else needsF (l.getD i TSchema.z).needs
def schemasF (l : List TSchema) : Int := if 60 < (l.length : Int) then 2 else firstI l.length (schE l)
def needsS  : Spec where
  pre xs := ∃ (l : List TNeed), xs = [.sl (TNeed.rows l)] ∧ (okL TNeed.ok l)
  post xs y := ∃ (l : List TNeed), xs = [.sl (TNeed.rows l)] ∧ y = .i (needsF l)
  cost _ := 0
  fresh := true
theorem needsS_c  (xs : List AV) : (needsS).cost xs = 0 := nr rfl
theorem needsS_f  : (needsS).fresh = true := nr rfl
theorem needsS_q  (l : List TNeed) : (needsS).pre [.sl (TNeed.rows l)] = (okL TNeed.ok l) := propext ⟨fun h => by
  have h' : ∃ (l' : List TNeed), ([.sl (TNeed.rows l)] : List AV) = [.sl (TNeed.rows l')] ∧ (okL TNeed.ok l') := h
  obtain ⟨l', e, h⟩ := h'
  simp only [List.cons.injEq, AV.dv.injEq, AV.dp.injEq, AV.fv.injEq, DV.d.injEq, DV.ag.injEq, D.int.injEq, D.str.injEq, D.bool.injEq, D.sl.injEq, true_and, and_true, intsDi_inj, rowsT_inj, rowsKi_inj, TNeed.row_inj, TNeed.rows_inj] at e
  obtain rfl := e
  exact h, fun h => ⟨l, rfl, h⟩⟩
theorem needsS_p  (l : List TNeed) : (needsS).post [.sl (TNeed.rows l)] = fun y => y = .i (needsF l) := funext fun y => propext ⟨fun h => by
  have h' : ∃ (l' : List TNeed), ([.sl (TNeed.rows l)] : List AV) = [.sl (TNeed.rows l')] ∧ y = .i (needsF l') := h
  obtain ⟨l', e, h⟩ := h'
  simp only [List.cons.injEq, AV.dv.injEq, AV.dp.injEq, AV.fv.injEq, DV.d.injEq, DV.ag.injEq, D.int.injEq, D.str.injEq, D.bool.injEq, D.sl.injEq, true_and, and_true, intsDi_inj, rowsT_inj, rowsKi_inj, TNeed.row_inj, TNeed.rows_inj] at e
  obtain rfl := e
  exact h, fun h => ⟨l, rfl, h⟩⟩
def schemasS  : Spec where
  pre xs := ∃ (l : List TSchema), xs = [.sl (TSchema.rows l)] ∧ (okL TSchema.ok l)
  post xs y := ∃ (l : List TSchema), xs = [.sl (TSchema.rows l)] ∧ y = .i (schemasF l)
  cost _ := 0
  fresh := true
theorem schemasS_c  (xs : List AV) : (schemasS).cost xs = 0 := nr rfl
theorem schemasS_f  : (schemasS).fresh = true := nr rfl
theorem schemasS_q  (l : List TSchema) : (schemasS).pre [.sl (TSchema.rows l)] = (okL TSchema.ok l) := propext ⟨fun h => by
  have h' : ∃ (l' : List TSchema), ([.sl (TSchema.rows l)] : List AV) = [.sl (TSchema.rows l')] ∧ (okL TSchema.ok l') := h
  obtain ⟨l', e, h⟩ := h'
  simp only [List.cons.injEq, AV.dv.injEq, AV.dp.injEq, AV.fv.injEq, DV.d.injEq, DV.ag.injEq, D.int.injEq, D.str.injEq, D.bool.injEq, D.sl.injEq, true_and, and_true, intsDi_inj, rowsT_inj, rowsKi_inj, TSchema.row_inj, TSchema.rows_inj] at e
  obtain rfl := e
  exact h, fun h => ⟨l, rfl, h⟩⟩
theorem schemasS_p  (l : List TSchema) : (schemasS).post [.sl (TSchema.rows l)] = fun y => y = .i (schemasF l) := funext fun y => propext ⟨fun h => by
  have h' : ∃ (l' : List TSchema), ([.sl (TSchema.rows l)] : List AV) = [.sl (TSchema.rows l')] ∧ y = .i (schemasF l') := h
  obtain ⟨l', e, h⟩ := h'
  simp only [List.cons.injEq, AV.dv.injEq, AV.dp.injEq, AV.fv.injEq, DV.d.injEq, DV.ag.injEq, D.int.injEq, D.str.injEq, D.bool.injEq, D.sl.injEq, true_and, and_true, intsDi_inj, rowsT_inj, rowsKi_inj, TSchema.row_inj, TSchema.rows_inj] at e
  obtain rfl := e
  exact h, fun h => ⟨l, rfl, h⟩⟩
theorem needE_i (l : List TNeed) {i : Int} (hi : 0 ≤ i) : needE l i.toNat = if keyB (l.getD i.toNat TNeed.z).name = false then 5 else if inB (l.getD i.toNat TNeed.z).kind 1 4 = false then 4 else if 0 < i ∧ (Op.bytesLess (l.getD i.toNat TNeed.z).name.toList (l.getD (i - 1).toNat TNeed.z).name.toList = true ∨ (l.getD i.toNat TNeed.z).name = (l.getD (i - 1).toNat TNeed.z).name) then 7 else 0 := by
  unfold needE
  rw [Int.toNat_of_nonneg hi, show i.toNat - 1 = (i - 1).toNat by omega]
theorem schE_i (l : List TSchema) {i : Int} (hi : 0 ≤ i) : schE l i.toNat = if keyB (l.getD i.toNat TSchema.z).name = false then 5 else if 0 < i ∧ (Op.bytesLess (l.getD i.toNat TSchema.z).name.toList (l.getD (i - 1).toNat TSchema.z).name.toList = true ∨ (l.getD i.toNat TSchema.z).name = (l.getD (i - 1).toNat TSchema.z).name) then 7 else needsF (l.getD i.toNat TSchema.z).needs := by
  unfold schE
  rw [Int.toNat_of_nonneg hi, show i.toNat - 1 = (i - 1).toNat by omega]
end Go.Avc

/- Ids: what is wrong with them, by the reference. No condition. -/
set_option linter.unusedVariables false
set_option linter.unusedSimpArgs false
set_option maxRecDepth 100000
namespace Go.Avc
open Go Go.Proofs

theorem only_loc (s : ByteArray) : onlyB s ⟨#[97, 98, 99, 100, 101, 102, 103, 104, 105, 106, 107, 108, 109, 110, 111, 112, 113, 114, 115, 116, 117, 118, 119, 120, 121, 122, 48, 49, 50, 51, 52, 53, 54, 55, 56, 57, 46, 45, 95]⟩ = (bl s).all locC := only_all (p := locC) (by decide +kernel) s
theorem only_lab (s : ByteArray) : onlyB s ⟨#[97, 98, 99, 100, 101, 102, 103, 104, 105, 106, 107, 108, 109, 110, 111, 112, 113, 114, 115, 116, 117, 118, 119, 120, 121, 122, 48, 49, 50, 51, 52, 53, 54, 55, 56, 57, 45]⟩ = (bl s).all labC := only_all (p := labC) (by decide +kernel) s
theorem only_dig (s : ByteArray) : onlyB s ⟨#[48, 49, 50, 51, 52, 53, 54, 55, 56, 57]⟩ = (bl s).all digitC := only_all (p := digitC) (by decide +kernel) s
theorem only_mem (s : ByteArray) : onlyB s ⟨#[48, 49, 50, 51, 52, 53, 54, 55, 56, 57, 65, 66, 67, 68, 69, 70, 71, 72, 73, 74, 75, 76, 77, 78, 79, 80, 81, 82, 83, 84, 85, 86, 87, 88, 89, 90]⟩ = (bl s).all memC := only_all (p := memC) (by decide +kernel) s
theorem only_hex (s : ByteArray) : onlyB s ⟨#[48, 49, 50, 51, 52, 53, 54, 55, 56, 57, 97, 98, 99, 100, 101, 102]⟩ = (bl s).all hexC := only_all (p := hexC) (by decide +kernel) s
theorem all_take {α : Type} {l : List α} {p : α → Bool} {i : Nat} (d : α) (h : i < l.length) : (l.take (i + 1)).all p = ((l.take i).all p && p (l.getD i d)) := by
  rw [List.take_add_one, List.all_append, List.getD_eq_getElem?_getD, List.getElem?_eq_getElem h]
  simp
theorem pre_plus {s : ByteArray} (h : preS s ⟨#[43]⟩ = true) : 1 ≤ s.size ∧ cpreF s ⟨#[43]⟩ = s.extract 1 s.size := by
  have h' : Lib.hasPrefix s.data.toList [43] = true := h
  constructor
  · rw [← len_size]
    cases hd : s.data.toList with
    | nil => rw [hd] at h'; cases h'
    | cons x r => simp
  · rw [ba_eq, ByteArray.data_extract, Array.toList_extract, List.extract_eq_take_drop]
    show (if Lib.hasPrefix s.data.toList [43] = true then s.data.toList.drop 1 else s.data.toList) = _
    rw [if_pos h', List.take_of_length_le]
    rw [List.length_drop, len_size]
    exact Nat.le_refl _
theorem bt_ext1 {s : ByteArray} (h : 1 ≤ s.size) : bt (s.extract 1 s.size) 0 = bt s 1 := by
  rw [bt_bl, bt_bl, bl_extract]
  rw [List.take_of_length_le (by rw [bl_length]; exact Nat.le_refl _)]
  show (List.drop 1 (bl s)).getD 0 0 = (bl s).getD 1 0
  rw [List.getD_eq_getElem?_getD, List.getElem?_drop, List.getD_eq_getElem?_getD]
theorem trim_dot {s : ByteArray} (h : 1 ≤ s.size) : (trimF s ⟨#[46]⟩ = s) = (bt s 0 ≠ 46 ∧ bt s ((s.size : Int) - 1) ≠ 46) := propext (trim_one h 46)
theorem trim_dash {s : ByteArray} (h : 1 ≤ s.size) : (trimF s ⟨#[45]⟩ = s) = (bt s 0 ≠ 45 ∧ bt s ((s.size : Int) - 1) ≠ 45) := propext (trim_one h 45)
set_option maxHeartbeats 8000000 in
theorem IdFault_ctr {cx : Cx} (h : Seat cx) (hM : MaxL cx) : Ctr cx 36 idS := by
  refine ctr_of (fn := Tryz.f36) (l := [.tmp 2]) (envL [(80, cutSp), (81, splitSp), (57, inS), (82, onlyS), (83, trimSp), (84, conSp), (85, cpreSp), (86, signR)]) [0, 1, 2, 3, 4, 5, 6, 7, 8, 10, 11, 12, 16, 17, 58, 59, 60, 61, 81, 103, 127, 128, 138] [9] [] (envL_cons (cut_ctr h hM) (envL_cons (split_ctr h hM) (envL_cons (in_ctr h) (envL_cons (only_ctr h) (envL_cons (trim_ctr h) (envL_cons (contains_ctr h hM) (envL_cons (cutPrefix_ctr h) (envL_cons (rcheckSign_ctr h) (env0 h.hP))))))))) ?_ (by rw [h.hP]; exact Tryz.func36) rfl (by kernel_rfl) rfl ?_ ?_
  · rw [h.hP]; exact ⟨_, Tryz.func36, by kernel_rfl, by kernel_rfl⟩
  · rintro xs ⟨x, rfl, h1⟩; exact ⟨_, x, rfl, rfl⟩
  · rintro xs ⟨x, rfl, h1⟩
    obtain ⟨o1, o2⟩ := h1
    refine ⟨by rw [Tryz.ntmps36]; simp, ?_⟩
    simp only [go_sem, h.hP, List.cons_append, List.nil_append, Meets_e, Below_e, Prod.exists, exists_eq, exists_eq_left, exists_eq_left', exists_eq_right, exists_eq_right', exists_and_left, exists_and_right, Ob.arr.injEq, AV.own.injEq, AV.fv.injEq, idS_q, idS_p, idS_c, idS_f, cutSp_q, cutSp_p, cutSp_c, cutSp_f, splitSp_q, splitSp_p, splitSp_c, splitSp_f, inS_q, inS_p, inS_c, inS_f, onlyS_q, onlyS_p, onlyS_c, onlyS_f, trimSp_q, trimSp_p, trimSp_c, trimSp_f, conSp_q, conSp_p, conSp_c, conSp_f, cpreSp_q, cpreSp_p, cpreSp_c, cpreSp_f, signR_q, signR_p, signR_c, signR_f, TId.row, only_loc, only_lab, only_dig, only_mem, only_hex, Tryz.ntmps36, Nat.reduceEqDiff, reduceCtorEq, Nat.reduceMul, Nat.reduceAdd, Nat.reduceSub, Nat.reduceDiv, Nat.reduceMod, Nat.reduceLeDiff, Nat.reduceLT, Nat.reduceBNe, Nat.reduceBEq, reduceIte, Int.reduceLE, Int.reduceLT, Int.reduceToNat, Int.reduceNeg, Int.reduceAdd, Int.reduceSub, Int.reduceMul, Int.reduceEq]
    unfold okS at o2
    have hw : IntKind.i64.wrap ((x.text.size : Int) - 1) = (x.text.size : Int) - 1 := i64w (by omega) (by omega)
    have hIs : (initS x.text).size ≤ x.text.size := by unfold initS; rw [ByteArray.size_extract]; omega
    have hIm : (bl x.text).all memC = true → (bl (initS x.text)).all memC = true := fun e => by
      unfold initS
      rw [bl_extract, List.drop_zero]
      rw [List.all_eq_true] at e ⊢
      exact fun y hy => e y (List.mem_of_mem_take hy)
    have hI : x.text.extract 0 ((x.text.size : Int) - 1).toNat = initS x.text := by
      rw [show ((x.text.size : Int) - 1).toNat = x.text.size - 1 by omega]
      rfl
    have e1 : x.kind = 1 → idF x = if mailB x.text = true then 0 else 3 := fun c => if_pos c
    have e2 : ¬ x.kind = 1 → x.kind = 2 → idF x = if phoneB x.text = true then 0 else 3 := fun c d => (if_neg c).trans (if_pos d)
    have e3 : ¬ x.kind = 1 → ¬ x.kind = 2 → x.kind = 3 → idF x = if memberB x.text = true then (if bt signsB (signN (initS x.text)) ≠ bt x.text ((x.text.size : Int) - 1) then 15 else 0) else 3 := fun c d e => (if_neg c).trans ((if_neg d).trans (if_pos e))
    have e4 : ¬ x.kind = 1 → ¬ x.kind = 2 → ¬ x.kind = 3 → idF x = if x.kind = 4 then (if deviceB x.text = true then 0 else 3) else 4 := fun c d e => (if_neg c).trans ((if_neg d).trans (if_neg e))
    rw [hw, hI]
    generalize idF x = R at *
    have hsn := signN_in (initS x.text)
    have hp : phoneB x.text = (preS x.text ⟨#[43]⟩ && inB x.text.size 8 16 && (bl (x.text.extract 1 x.text.size)).all digitC && decide (bt x.text 1 ≠ 48)) := rfl
    have hmm : memberB x.text = (inB x.text.size 4 20 && (bl x.text).all memC) := rfl
    have hdv : deviceB x.text = (decide ((x.text.size : Int) = 32) && (bl x.text).all hexC) := rfl
    refine ⟨fun c1 => ⟨by omega, by have := cutR_size x.text ⟨#[64]⟩; omega, ?_⟩, fun c1 => ⟨fun c2 => ?_, fun c2 => ⟨fun c3 => ?_, fun c3 => ⟨fun c4 => ?_, fun c4 => ?_⟩⟩⟩⟩
    · have hm : mailB x.text = (cutB x.text ⟨#[64]⟩ && decide ((x.text.size : Int) ≤ 80) && localB (cutL x.text ⟨#[64]⟩) && (splitS (cutR x.text ⟨#[64]⟩) ⟨#[46]⟩).all labelB && decide (2 ≤ (splitS (cutR x.text ⟨#[64]⟩) ⟨#[46]⟩).length)) := rfl
      have hL := cutL_size x.text ⟨#[64]⟩
      have hle := splitS_le (s := cutR x.text ⟨#[64]⟩) (p := ⟨#[46]⟩) (by decide)
      have hsz := splitS_get (cutR x.text ⟨#[64]⟩) ⟨#[46]⟩
      have hR := cutR_size x.text ⟨#[64]⟩
      have E1 := e1 c1
      rw [hm] at E1
      clear e1 e2 e3 e4 hm hp hmm hdv
      generalize cutL x.text ⟨#[64]⟩ = a at *
      generalize splitS (cutR x.text ⟨#[64]⟩) ⟨#[46]⟩ = l at *
      generalize cutB x.text ⟨#[64]⟩ = k at *
      have hA : localB a = (inB a.size 1 64 && decide (bt a 0 ≠ 46) && decide (bt a ((a.size : Int) - 1) ≠ 46) && !conS a ⟨#[46, 46]⟩ && (bl a).all locC) := rfl
      refine vc_cutT (Bool) (fun (b : Bool) => [(4, .b b)]) [1] (fun (b : Bool) => []) (fun (b : Bool) => []) (fun (b : Bool) => 0) (fun (b : Bool) => b = (k && decide ((x.text.size : Int) ≤ 80) && localB a && decide (2 ≤ l.length))) [] ?_ ?_ ?_
      · rfl
      · simp only [go_sem, h.hP, List.cons_append, List.nil_append, Meets_e, Below_e, Prod.exists, exists_eq, exists_eq_left, exists_eq_left', exists_eq_right, exists_eq_right', exists_and_left, exists_and_right, Ob.arr.injEq, AV.own.injEq, AV.fv.injEq, inS_q, inS_p, inS_c, inS_f, onlyS_q, onlyS_p, onlyS_c, onlyS_f, trimSp_q, trimSp_p, trimSp_c, trimSp_f, conSp_q, conSp_p, conSp_c, conSp_f, only_loc, rowsT_len, Tryz.ntmps36, Nat.reduceEqDiff, reduceCtorEq, Nat.reduceMul, Nat.reduceAdd, Nat.reduceSub, Nat.reduceDiv, Nat.reduceMod, Nat.reduceLeDiff, Nat.reduceLT, Nat.reduceBNe, Nat.reduceBEq, reduceIte, Int.reduceLE, Int.reduceLT, Int.reduceToNat, Int.reduceNeg, Int.reduceAdd, Int.reduceSub, Int.reduceMul, Int.reduceEq]
        have hd : decide (2 ≤ (l.length : Int)) = decide (2 ≤ l.length) := decide_eq_decide.2 (by omega)
        refine ⟨fun d1 => ⟨fun d2 => ⟨fun d3 => ?_, fun d3 => by rw [hA, d3]; simp⟩, fun d2 => by simp [d2]⟩, fun d1 => by rw [d1]; rfl⟩
        have i3 := inB_iff.1 d3
        rw [trim_dot (by omega)]
        refine ⟨by omega, by decide +kernel, fun d4 => ⟨by omega, by decide, fun d5 => ⟨by omega, fun d6 => ?_, fun d6 => by rw [hA, d6]; simp⟩, fun d5 => ?_⟩, fun d4 => by rw [hA, d4]; simp⟩
        · rw [hd, hA, d1, d3, d4, d6, decide_eq_true d2, decide_eq_true d5.1, decide_eq_true d5.2]
          simp
        · rw [hA]
          by_cases q : bt a 0 = 46
          · simp [q]
          · have q2 : bt a ((a.size : Int) - 1) = 46 := Decidable.not_not.1 fun z => d5 ⟨q, z⟩
            simp [q2]
      · rintro b0 hb
        simp only [go_sem, h.hP, List.cons_append, List.nil_append, Meets_e, Below_e, Prod.exists, exists_eq, exists_eq_left, exists_eq_left', exists_eq_right, exists_eq_right', exists_and_left, exists_and_right, Ob.arr.injEq, AV.own.injEq, AV.fv.injEq, rowsT_len, Tryz.ntmps36, Nat.reduceEqDiff, reduceCtorEq, Nat.reduceMul, Nat.reduceAdd, Nat.reduceSub, Nat.reduceDiv, Nat.reduceMod, Nat.reduceLeDiff, Nat.reduceLT, Nat.reduceBNe, Nat.reduceBEq, reduceIte, Int.reduceLE, Int.reduceLT, Int.reduceToNat, Int.reduceNeg, Int.reduceAdd, Int.reduceSub, Int.reduceMul, Int.reduceEq]
        refine vc_loopS (Int × Bool) (fun (x : Int × Bool) => match x with | (i, b) => [(60, .i i), (4, .b b)]) [1] (fun (x : Int × Bool) => match x with | (i, b) => []) (fun (x : Int × Bool) => match x with | (i, b) => []) (fun (x : Int × Bool) => match x with | (i, b) => 0) (fun (x : Int × Bool) => match x with | (i, b) => 0 ≤ i ∧ i ≤ l.length ∧ b = (b0 && (l.take i.toNat).all labelB)) (fun (x : Int × Bool) => match x with | (i, b) => (l.length - i).toNat) [] ?_ ?_
        · simp only [go_sem, h.hP, List.cons_append, List.nil_append, Meets_e, Below_e, Prod.exists, exists_eq, exists_eq_left, exists_eq_left', exists_eq_right, exists_eq_right', exists_and_left, exists_and_right, Ob.arr.injEq, AV.own.injEq, AV.fv.injEq, rowsT_len, Tryz.ntmps36, Nat.reduceEqDiff, reduceCtorEq, Nat.reduceMul, Nat.reduceAdd, Nat.reduceSub, Nat.reduceDiv, Nat.reduceMod, Nat.reduceLeDiff, Nat.reduceLT, Nat.reduceBNe, Nat.reduceBEq, reduceIte, Int.reduceLE, Int.reduceLT, Int.reduceToNat, Int.reduceNeg, Int.reduceAdd, Int.reduceSub, Int.reduceMul, Int.reduceEq]
          exact Int.natCast_nonneg _
        · rintro ⟨i, b⟩ ⟨j1, j2, j3⟩
          simp only [go_sem, h.hP, List.cons_append, List.nil_append, Meets_e, Below_e, Prod.exists, exists_eq, exists_eq_left, exists_eq_left', exists_eq_right, exists_eq_right', exists_and_left, exists_and_right, Ob.arr.injEq, AV.own.injEq, AV.fv.injEq, idS_q, idS_p, idS_c, idS_f, inS_q, inS_p, inS_c, inS_f, onlyS_q, onlyS_p, onlyS_c, onlyS_f, trimSp_q, trimSp_p, trimSp_c, trimSp_f, only_lab, rowsT_len, rowsT_get, Tryz.ntmps36, Nat.reduceEqDiff, reduceCtorEq, Nat.reduceMul, Nat.reduceAdd, Nat.reduceSub, Nat.reduceDiv, Nat.reduceMod, Nat.reduceLeDiff, Nat.reduceLT, Nat.reduceBNe, Nat.reduceBEq, reduceIte, Int.reduceLE, Int.reduceLT, Int.reduceToNat, Int.reduceNeg, Int.reduceAdd, Int.reduceSub, Int.reduceMul, Int.reduceEq]
          have hs0 := hsz i.toNat
          have hq : ∀ q : ByteArray, labelB q = (inB q.size 1 30 && decide (bt q 0 ≠ 45) && decide (bt q ((q.size : Int) - 1) ≠ 45) && (bl q).all labC) := fun q => rfl
          refine ⟨fun c => ?_, fun c => ?_⟩
          · have ht := all_take (p := labelB) ⟨#[]⟩ (show i.toNat < l.length by omega)
            rw [i64w (n := i + 1) (by omega) (by omega), show (i + 1).toNat = i.toNat + 1 by omega, ht, ← Bool.and_assoc, ← j3, hq]
            clear ht
            generalize l.getD i.toNat ⟨#[]⟩ = q at *
            refine ⟨j1, c, fun d1 => ⟨fun d2 => ?_, fun d2 => ⟨by omega, by omega, by rw [d2]; simp, by omega⟩⟩, fun d1 => ⟨by omega, by omega, by rw [d1]; rfl, by omega⟩⟩
            have i2 := inB_iff.1 d2
            have hdec : decide (trimF q ⟨#[45]⟩ = q) = (decide (bt q 0 ≠ 45) && decide (bt q ((q.size : Int) - 1) ≠ 45)) := by
              rw [← Bool.decide_and]
              exact decide_eq_decide.2 (trim_one (by omega) 45)
            refine ⟨by omega, by decide +kernel, fun d3 => ⟨by omega, by decide, by omega, by omega, ?_, by omega⟩, fun d3 => ⟨by omega, by omega, by rw [d3]; simp, by omega⟩⟩
            rw [hdec, d1, d2, d3]
            simp
          · have hi : i.toNat = l.length := by omega
            rw [hi, List.take_length, hb, Bool.and_right_comm] at j3
            rw [E1, ← j3]
            exact ⟨fun d => by rw [d]; rfl, fun d => by rw [d]; rfl⟩
    · rw [e2 c1 c2, hp]
      refine ⟨fun d1 => ?_, fun d1 => by rw [d1]; rfl⟩
      obtain ⟨n1, n2⟩ := pre_plus d1
      have n3 : (x.text.extract 1 x.text.size).size = x.text.size - 1 := by rw [ByteArray.size_extract]; omega
      rw [n2, bt_ext1 n1, n3]
      have n4 : inB ((x.text.size - 1 : Nat) : Int) 7 15 = inB x.text.size 8 16 := by
        unfold inB
        exact decide_eq_decide.2 (by omega)
      rw [n4]
      refine ⟨fun d2 => ?_, fun d2 => by rw [d2]; simp⟩
      have i2 := inB_iff.1 d2
      exact ⟨by omega, by decide, fun d3 => ⟨by omega, fun d4 => by simp [d4], fun d4 => by rw [d1, d2, d3]; simp [d4]⟩, fun d3 => by rw [d3]; simp⟩
    · rw [e3 c1 c2 c3, hmm]
      refine ⟨fun d1 => ⟨by omega, by decide +kernel, fun d2 => ?_, fun d2 => ⟨fun _ => by rw [d2]; simp, fun z => (by rw [d2] at z; cases z)⟩⟩, fun d1 => by rw [d1]; rfl⟩
      have i1 := inB_iff.1 d1
      rw [signs_lit]
      refine ⟨by omega, by omega, by omega, hIm d2, hsn.1, by omega, by omega, by omega, fun d3 => ?_, fun d3 => ⟨fun z => (by rw [d2] at z; cases z), fun _ => ?_⟩⟩
      · rw [d1, d2]
        exact (if_pos d3).symm
      · rw [d1, d2]
        exact (if_neg (fun z => z d3)).symm
    · rw [e4 c1 c2 c3, if_pos c4, hdv]
      exact ⟨fun d1 => ⟨by omega, by decide +kernel, fun d2 => by rw [d2]; simp, fun d2 => by rw [d2, decide_eq_true d1]; rfl⟩, fun d1 => by rw [decide_eq_false d1]; rfl⟩
    · rw [e4 c1 c2 c3, if_neg c4]
end Go.Avc

/- event.Pack of no events: its walk. No condition. -/
set_option linter.unusedVariables false
set_option linter.unusedSimpArgs false
namespace Go.Avc
open Go Go.RowKit Go.Proofs

set_option maxHeartbeats 1000000 in
set_option maxRecDepth 100000 in
theorem check_nil (A : Option Addr) (c : Nat) (w : World) : Calls Tryz.prog 32 #[.slice A 0 c] w fun e w' => e = .returned (.int .i64 0) ∧ w' = w.alloc (.map #[] 0) := by
  have hmm := @run_makeMap Tryz.prog
  go_enter Tryz.func32, Tryz.ntmps32
  go_wp2
  go_loopw [13] (fun i wr => i = .int .i64 0 ∧ wr = w.alloc (.map #[] 0)) (fun _ _ => 0)
  case atStart => exact ⟨rfl, rfl⟩
  case round =>
    obtain ⟨rfl, rfl⟩ := hrel
    go_wp2
    go_ret
    exact ⟨rfl, rfl⟩
set_option maxHeartbeats 4000000 in
set_option maxRecDepth 100000 in
theorem varint_nil (b : Nat) (m : Value) (w : World) (h : w.heap[b]? = some (.cells #[.slice none 0 0, m] 155 (0, 0))) :
    Calls Tryz.prog 107 #[.pointer (some ⟨b, 0, none⟩), .int .i64 0] w fun e w' => e = .returned (.tuple #[]) ∧ ∃ g cap, w'.heap[b]? = some (.cells #[.slice (some ⟨g, 0, none⟩) 1 cap, m] 155 (0, 0)) ∧
      w'.ownsRow w.heap.size bE 1 (.slice (some ⟨g, 0, none⟩) 1 cap) 1 [.int .u8 0] ∧ w'.os = w.os ∧ w'.tape = w.tape ∧ w'.output = w.output ∧ w.heap.size ≤ w'.heap.size ∧ ∀ k, k < w.heap.size → k ≠ b → w'.heap[k]? = w.heap[k]? := by
  have hlt : b < w.heap.size := (Array.getElem?_eq_some_iff.1 h).1
  have c0 : w.cell? ⟨b, 0, none⟩ = some (.slice none 0 0) := by rw [Lib.cell_of_heap h]; rfl
  go_enter Tryz.func107, Tryz.ntmps107
  go_wp2
  go_loopw [1] (fun i wr => i = .int .i64 0 ∧ wr = w) (fun _ _ => 0)
  case atStart => exact ⟨rfl, rfl⟩
  case round =>
    obtain ⟨rfl, rfl⟩ := hrel
    have hi : Tryz.prog.info? 5 = some Tryz.t5 := by kernel_rfl
    have hz0 : Tryz.t5.zero = some (.int .u8 0) := by kernel_rfl
    have hz1 : Tryz.t5.size = 1 := by kernel_rfl
    have hz2 : Tryz.t5.bytes = 1 := by kernel_rfl
    have hown1 : wr.ownsRow wr.heap.size bE 1 (.slice none 0 0) 0 [] := World.ownsRow_nil ..
    go_wp2_with (at_builtin; refine wpList_append_own_at _ rfl _ _ 153 rfl wr.heap.size bE Tryz.t5 (.int .u8 0) 1 1 Tryz.underlying153 hi hz0 hz1 hz2 rfl (by decide) _ _ _ rfl (hown1.alloc _) ⟨wr.heap.size, 0, none⟩ 1 1 [.int .u8 0] rfl rfl ?c1 ?c2 ?c3 ?c4 ?c5 ?_)
    case c1 =>
      intro j u hj
      match j, hj with
      | 0, hj => simp at hj; subst hj; simp [Addr.add]
    case c2 => intro u hu; simp at hu; subst hu; rfl
    case c3 => unfold maxLen; omega
    case c4 => omega
    case c5 => simp
    intro v' w2 hown' hgrow _ hat
    have hne : (Value.slice none 0 0).ownBlock ≠ some b := by simp [Value.ownBlock]
    have hs2 : wr.heap.size + 1 ≤ w2.heap.size := by have := hgrow.size; simpa using this
    have hb2 : w2.heap[b]? = some (.cells #[.slice none 0 0, m] 155 (0, 0)) := by
      rw [hgrow.block b (by simp; omega) (fun e => hne e.symm), Lib.alloc_old wr _ b (by omega)]
      exact h
    have d0 : w2.cell? ⟨b, 0, none⟩ = some (.slice none 0 0) := by rw [Lib.cell_of_heap hb2]; rfl
    have f0 : w2.frozen? ⟨b, 0, none⟩ = false := Lib.frozen_of_heap hb2 0
    obtain ⟨g, cap, rfl⟩ : ∃ g cap, v' = .slice (some ⟨g, 0, none⟩) 1 cap := by
      rcases hown'.2 with ⟨_, h0⟩ | ⟨g, cap, cur, hv, _⟩
      · omega
      · exact ⟨g, cap, hv⟩
    go_wp2
    go_end0
    refine ⟨rfl, g, cap, ?_, ?_, hgrow.os, hgrow.tape, hgrow.output, ?_, fun k hk hkb => ?_⟩
    · simp [World.setCell, Array.getElem?_modify, hb2]
    · have hnb : (Value.slice (some ⟨g, 0, none⟩) 1 cap).ownBlock ≠ some b := Lib.ownBlock_ne hown' hb2 (by decide)
      exact hown'.kept (row := some b) ⟨rfl, rfl, rfl, by simp [World.setCell], fun k _ hk => heap_setCell_other _ _ _ _ (fun e => hk (by rw [e]))⟩ (.inr hnb)
    · simp [World.setCell]; omega
    · rw [heap_setCell_other _ _ _ _ (by exact hkb), hgrow.block k (by simp; omega) (by simp [Value.ownBlock]), Lib.alloc_old wr _ k (by omega)]
set_option maxHeartbeats 4000000 in
set_option maxRecDepth 100000 in
theorem pack_nil (A : Option Addr) (c : Nat) (w : World) : Calls Tryz.prog 59 #[.slice A 0 c] w fun e w' => e = .returned (.tuple #[.string ⟨#[0]⟩, .int .i64 0]) ∧ RowKit.Below w.heap.size w w' := by
  have hmm := @run_makeMap Tryz.prog
  go_enter Tryz.func59, Tryz.ntmps59
  go_wp2_with (go_at_call 32; refine (check_nil A c w).mono ?_)
  rintro e w1 ⟨rfl, rfl⟩
  have hb : (((w.alloc (.map #[] 0)).alloc (.map #[] 0)).alloc (.cells #[.slice none 0 0, .map (some (w.heap.size + 1))] 155)).heap[w.heap.size + 1 + 1]? = some (.cells #[.slice none 0 0, .map (some (w.heap.size + 1))] 155 (0, 0)) := by
    simp only [World.alloc, Array.getElem?_push, Array.size_push, if_true]
  go_wp2_with (go_at_call 107; refine (varint_nil _ _ _ hb).mono ?_)
  rintro e w2 ⟨rfl, g, cap, hb2, hown, ho, ht, hu, hs, hk⟩
  have hs' : w.heap.size + 1 + 1 + 1 ≤ w2.heap.size := by simpa using hs
  have hkeep : ∀ k, k < w.heap.size → w2.heap[k]? = w.heap[k]? := fun k hk0 => by
    rw [hk k (by simp; omega) (by omega)]
    rw [Lib.alloc_old _ _ k (by simp; omega), Lib.alloc_old _ _ k (by simp; omega), Lib.alloc_old _ _ k hk0]
  have d0 : w2.cell? ⟨w.heap.size + 1 + 1, 0, none⟩ = some (.slice (some ⟨g, 0, none⟩) 1 cap) := by rw [Lib.cell_of_heap hb2]; rfl
  go_wp2
  go_loopw [25] (fun i wr => i = .int .i64 0 ∧ wr = w2) (fun _ _ => 0)
  case atStart => exact ⟨rfl, rfl⟩
  case round =>
    obtain ⟨rfl, rfl⟩ := hrel
    go_wp2
    have hcell : ∀ i, i < 1 → wr.cell? ⟨g, 0 + i, none⟩ = some (.int .u8 ((numsOf [[D.int .u8 0]]).getD i 0)) := fun i hi => by
      obtain rfl : i = 0 := by omega
      exact ownsRow_cells hown rfl 0 (.int .u8 0) rfl
    have hcv := bytes_run (P := Tryz.prog) (w := wr) (s := 153) (e := 5) (t := 9) Tryz.underlying153 Tryz.underlying5 Tryz.underlying9 (l := [[D.int .u8 0]]) (fun x hx => ⟨0, List.mem_singleton.1 hx⟩) (A := some ⟨g, 0, none⟩) (c := cap) (fun _ => ⟨g, 0, rfl, hcell⟩)
    rw [show (Value.slice (some ⟨g, 0, none⟩) 1 cap) = .slice (some ⟨g, 0, none⟩) ([[D.int .u8 0]] : List (List D)).length cap from rfl, hcv]
    simp only [Result.andThen]
    rw [Oper.upon_value]
    go_wp2
    go_ret2
    refine ⟨rfl, ho, ht, hu, by omega, hkeep⟩
/-- Pack of no events. -/
def packNilS : Spec where
  pre xs := xs = [.sl []]
  post xs r := r = .tcons (.str ⟨#[0]⟩) (.tcons (.i 0) .tnil)
  cost _ := 0
  fresh := true
theorem packNilS_q : packNilS.pre [.sl []] = True := eq_true rfl
theorem packNilS_p (xs : List AV) : packNilS.post xs = fun r => r = .tcons (.str ⟨#[0]⟩) (.tcons (.i 0) .tnil) := rfl
theorem packNilS_c (xs : List AV) : packNilS.cost xs = 0 := nr rfl
theorem packNilS_f : packNilS.fresh = true := nr rfl
theorem rd_nil_inv {ok : Nat → Prop} {w : World} {v : Value} (h : Rd ok w (.sl []) v) : ∃ A c, v = .slice A 0 c := by
  generalize e : ([] : List (List D)) = r at h
  cases h with
  | nil A c => exact ⟨A, c, rfl⟩
  | sl r z b o c u hc hb hlt hz hu hr => subst e; exact ⟨_, _, rfl⟩
theorem Pack_nil_ctr {cx : Cx} (h : Seat cx) : Ctr cx 59 packNilS := by
  refine ⟨by rw [h.hP]; exact ⟨_, Tryz.func59, by kernel_rfl, by kernel_rfl⟩, fun xs _ => ⟨_, rfl⟩, ?_⟩
  rintro F xs us hcx hF hst hgl hco hlen hargs rfl
  match us, hlen with
  | [a], _ =>
  obtain ⟨A, c, rfl⟩ := rd_nil_inv (show Rd _ _ (.sl []) a from hargs 0 _ _ rfl rfl)
  rw [h.hP]
  refine (pack_nil A c F.w0).mono ?_
  rintro e w' ⟨rfl, hb⟩
  exact ⟨_, .tcons (.str ⟨#[0]⟩) (.tcons (.i 0) .tnil), rfl, ⟨hb.os, hb.tape, hb.output, hb.size, fun b hlt _ => hb.block b hlt⟩, hst.keep hb.size (fun b hlt => hb.block b hlt), rfl, rfl, ⟨[.string ⟨#[0]⟩, .int .i64 0], rfl, _, _, rfl, Rd.str _, _, _, rfl, Rd.int .i64 _, rfl⟩⟩
theorem hap_zone : zoneF ⟨⟨#[117, 116, 99]⟩, [⟨0, 0⟩]⟩ = 0 := by decide +kernel
def happeningsS  : Spec where
  pre xs := xs = []
  post xs y := xs = [] ∧ y = .b true
  cost _ := 0
  fresh := true
theorem happeningsS_c  (xs : List AV) : (happeningsS).cost xs = 0 := nr rfl
theorem happeningsS_f  : (happeningsS).fresh = true := nr rfl
theorem happeningsS_q  : (happeningsS).pre [] = (([] : List AV) = []) := nr rfl
theorem happeningsS_p  : (happeningsS).post [] = fun y => y = .b true := funext fun y => propext ⟨fun h => h.2, fun h => ⟨rfl, h⟩⟩
theorem happenings_ctr {cx : Cx} (h : Seat cx) : Ctr cx 15 happeningsS := by
  refine ctr_of (fn := Tryz.f15) (l := [.tmp 0]) (envL [(58, dayNS), (59, packNilS)]) [0, 1, 2, 3, 4] [] [] (envL_cons (Day_ctr h) (envL_cons (Pack_nil_ctr h) (env0 h.hP))) ?_ (by rw [h.hP]; exact Tryz.func15) rfl (by kernel_rfl) rfl ?_ ?_
  · rw [h.hP]; exact ⟨_, Tryz.func15, by kernel_rfl, by kernel_rfl⟩
  · rintro xs ⟨rfl, h1⟩; exact ⟨_, rfl, rfl⟩
  · rintro xs ⟨rfl, h1⟩
    refine ⟨by rw [Tryz.ntmps15]; simp, ?_⟩
    have hz : (⟨⟨#[117, 116, 99]⟩, [⟨0, 0⟩]⟩ : TZone).ok := ⟨by unfold okS; decide, okL_one ⟨okI_z, okI_z⟩⟩
    have hq : dayNS.pre [.dv (.ag [.str ⟨#[117, 116, 99]⟩, .sl [[.int .i64 0, .int .i64 0]]]), .i 3000] = True := (dayNS_q ⟨⟨#[117, 116, 99]⟩, [⟨0, 0⟩]⟩ 3000).trans (eq_true hz)
    have he : localE ⟨⟨#[117, 116, 99]⟩, [⟨0, 0⟩]⟩ 3000 = 0 := by decide +kernel
    have hn : dayN ⟨⟨#[117, 116, 99]⟩, [⟨0, 0⟩]⟩ 3000 = 2 := by decide +kernel
    have hp : dayNS.post [.dv (.ag [.str ⟨#[117, 116, 99]⟩, .sl [[.int .i64 0, .int .i64 0]]]), .i 3000] = fun y => y = .tcons (.i 2) (.tcons (.i 0) .tnil) := (dayNS_p ⟨⟨#[117, 116, 99]⟩, [⟨0, 0⟩]⟩ 3000).trans (by rw [hn, he])
    simp only [go_sem, h.hP, List.cons_append, List.nil_append, Meets_e, Below_e, Prod.exists, exists_eq, exists_eq_left, exists_eq_left', exists_eq_right, exists_eq_right', exists_and_left, exists_and_right, Ob.arr.injEq, AV.own.injEq, AV.fv.injEq, happeningsS_q, happeningsS_p, happeningsS_c, happeningsS_f, packNilS_q, packNilS_p, packNilS_c, packNilS_f, hq, hp, dayNS_c, dayNS_f, Tryz.ntmps15, Nat.reduceEqDiff, reduceCtorEq, Nat.reduceMul, Nat.reduceAdd, Nat.reduceSub, Nat.reduceDiv, Nat.reduceMod, Nat.reduceLeDiff, Nat.reduceLT, Nat.reduceBNe, Nat.reduceBEq, reduceIte, Int.reduceLE, Int.reduceLT, Int.reduceToNat, Int.reduceNeg, Int.reduceAdd, Int.reduceSub, Int.reduceMul, Int.reduceEq]
end Go.Avc

/- The generators of ids: their contracts. No condition. -/
set_option linter.unusedVariables false
set_option linter.unusedSimpArgs false
set_option maxRecDepth 100000
namespace Go.Avc
open Go Go.Proofs

def poolL : List TId := [⟨1, ⟨#[97, 64, 98, 46, 100, 101]⟩⟩, ⟨1, ⟨#[97, 110, 110, 46, 98, 64, 120, 45, 121, 46, 111, 114, 103]⟩⟩, ⟨1, ⟨#[98, 111, 98, 95, 49, 64, 98, 46, 100, 101]⟩⟩, ⟨1, ⟨#[122, 45, 64, 48, 46, 97]⟩⟩, ⟨2, ⟨#[43, 52, 57, 51, 48, 49, 50, 51, 52, 53, 54]⟩⟩, ⟨2, ⟨#[43, 49, 53, 53, 53, 48, 48, 48, 49, 49, 49]⟩⟩, ⟨3, ⟨#[65, 66, 49, 51]⟩⟩, ⟨3, ⟨#[48, 48, 48, 48, 48, 48, 48, 48, 48, 48, 48, 48, 48, 48, 48, 48, 48, 48, 48, 48]⟩⟩, ⟨4, ⟨#[48, 49, 50, 51, 52, 53, 54, 55, 56, 57, 97, 98, 99, 100, 101, 102, 48, 49, 50, 51, 52, 53, 54, 55, 56, 57, 97, 98, 99, 100, 101, 102]⟩⟩, ⟨4, ⟨#[102, 102, 102, 102, 102, 102, 102, 102, 102, 102, 102, 102, 102, 102, 102, 102, 102, 102, 102, 102, 102, 102, 102, 102, 102, 102, 102, 102, 102, 102, 102, 102]⟩⟩]
def poolD : List D := poolL.flatMap TId.row
theorem poolD_len : poolD.length = 20 := rfl
theorem pool_at (i : Int) (h0 : 0 ≤ i) (h1 : i ≤ 9) : (poolD.drop (i.toNat * 2)).take 2 = [.int .i64 (poolL.getD i.toNat TId.z).kind, .str (poolL.getD i.toNat TId.z).text] := by
  obtain ⟨n, rfl⟩ : ∃ n : Nat, i = n := ⟨i.toNat, by omega⟩
  rw [Int.toNat_natCast]
  match n with
  | 0 => rfl
  | 1 => rfl
  | 2 => rfl
  | 3 => rfl
  | 4 => rfl
  | 5 => rfl
  | 6 => rfl
  | 7 => rfl
  | 8 => rfl
  | 9 => rfl
  | n + 10 => omega
theorem pool_ok (i : Nat) : (poolL.getD i TId.z).ok ∧ (poolL.getD i TId.z).text.size ≤ 40 := all_get (p := fun x : TId => x.ok ∧ x.text.size ≤ 40) (fun x hx => by
  have := List.all_eq_true.1 (show poolL.all (fun y => decide (0 ≤ y.kind ∧ y.kind ≤ 4 ∧ y.text.size ≤ 40)) = true by decide) x hx
  simp only [decide_eq_true_eq] at this
  exact ⟨⟨⟨by omega, by omega⟩, okS_of (by omega)⟩, this.2.2⟩) ⟨TId.z_ok, by decide⟩ i
theorem exId {k : Int} {s : ByteArray} (h1 : okI k) (h2 : okS s) : ∃ x : TId, x.ok ∧ [D.int .i64 k, D.str s] = x.row := ⟨⟨k, s⟩, ⟨h1, h2⟩, rfl⟩
def idG (n : Nat) : Spec where
  pre xs := xs = [.st]
  post xs y := ∃ x : TId, x.ok ∧ y = .dv (.ag x.row)
  cost _ := n
  fresh := false
set_option maxHeartbeats 8000000 in
theorem SpoiledId_ctr {cx : Cx} (h : Seat cx) (hN : cx.glob 0 = some poolD) : Ctr cx 78 (idG 5) := by
  refine ctr_of (fn := Tryz.f78) (l := [.cell 2 49]) (envL [(55, nextS), (12, pickS), (61, oneS), (126, changedS), (125, rep2S)]) [0, 2, 3, 9, 15, 21] [2] [] (envL_cons (next_ctr cx h.hP h.hS) (envL_cons (pick_ctr cx h.hP h.hS) (envL_cons (one_ctr h) (envL_cons (changed_ctr h) (envL_cons (rep2_ctr h) (env0 h.hP)))))) ?_ (by rw [h.hP]; exact Tryz.func78) rfl (by kernel_rfl) rfl ?_ ?_
  · rw [h.hP]; exact ⟨_, Tryz.func78, by kernel_rfl, by kernel_rfl⟩
  · rintro xs rfl; exact ⟨_, TId.z, TId.z_ok, rfl⟩
  · rintro xs rfl
    refine ⟨by rw [Tryz.ntmps78]; simp, ?_⟩
    simp only [go_sem, h.hP, List.cons_append, List.nil_append, Meets_e, Below_e, Prod.exists, exists_eq, exists_eq_left, exists_eq_left', exists_eq_right, exists_eq_right', exists_and_left, exists_and_right, Ob.arr.injEq, AV.own.injEq, AV.fv.injEq, Tryz.ntmps78, Nat.reduceEqDiff, reduceCtorEq, Nat.reduceMul, Nat.reduceAdd, Nat.reduceSub, Nat.reduceDiv, Nat.reduceMod, Nat.reduceLeDiff, Nat.reduceLT, Nat.reduceBNe, Nat.reduceBEq, reduceIte, Int.reduceLE, Int.reduceLT, Int.reduceToNat, Int.reduceNeg, Int.reduceAdd, Int.reduceSub, Int.reduceMul, Int.reduceEq]
    refine vc_cutT (TId) (fun (x : TId) => [(3, .ptr 3 0)]) [2] (fun (x : TId) => []) (fun (x : TId) => [(3, .box 49 [.i x.kind, .str x.text])]) (fun (x : TId) => 1) (fun (x : TId) => x.ok ∧ x.text.size ≤ 40) [] ?_ ?_ ?_
    · rfl
    · simp only [go_sem, h.hP, List.cons_append, List.nil_append, Meets_e, Below_e, Prod.exists, exists_eq, exists_eq_left, exists_eq_left', exists_eq_right, exists_eq_right', exists_and_left, exists_and_right, Ob.arr.injEq, AV.own.injEq, AV.fv.injEq, idG, nextS_q, nextS_p, nextS_c, nextS_f, hN, Tryz.ntmps78, Nat.reduceEqDiff, reduceCtorEq, Nat.reduceMul, Nat.reduceAdd, Nat.reduceSub, Nat.reduceDiv, Nat.reduceMod, Nat.reduceLeDiff, Nat.reduceLT, Nat.reduceBNe, Nat.reduceBEq, reduceIte, Int.reduceLE, Int.reduceLT, Int.reduceToNat, Int.reduceNeg, Int.reduceAdd, Int.reduceSub, Int.reduceMul, Int.reduceEq]
      intro a h0 h1
      rw [pool_at a h0 (by omega)]
      simp only [go_sem, h.hP, List.cons_append, List.nil_append, Meets_e, Below_e, Prod.exists, exists_eq, exists_eq_left, exists_eq_left', exists_eq_right, exists_eq_right', exists_and_left, exists_and_right, Ob.arr.injEq, AV.own.injEq, AV.fv.injEq, TId.ex, Tryz.ntmps78, Nat.reduceEqDiff, reduceCtorEq, Nat.reduceMul, Nat.reduceAdd, Nat.reduceSub, Nat.reduceDiv, Nat.reduceMod, Nat.reduceLeDiff, Nat.reduceLT, Nat.reduceBNe, Nat.reduceBEq, reduceIte, Int.reduceLE, Int.reduceLT, Int.reduceToNat, Int.reduceNeg, Int.reduceAdd, Int.reduceSub, Int.reduceMul, Int.reduceEq]
      have h2 := pool_ok a.toNat
      refine ⟨h0, by omega, ?_, h2.1, h2.2⟩
      rw [List.length_drop, poolD_len]
      omega
    · rintro x ⟨⟨o1, o2⟩, o3⟩
      simp only [go_sem, h.hP, List.cons_append, List.nil_append, Meets_e, Below_e, Prod.exists, exists_eq, exists_eq_left, exists_eq_left', exists_eq_right, exists_eq_right', exists_and_left, exists_and_right, Ob.arr.injEq, AV.own.injEq, AV.fv.injEq, idG, nextS_q, nextS_p, nextS_c, nextS_f, pickS_q, pickS_p, pickS_c, pickS_f, oneS_q, oneS_p, oneS_c, oneS_f, rep2S_q, rep2S_p, rep2S_c, rep2S_f, changedS, ints1, intsc, strs1, strsc, Tryz.ntmps78, Nat.reduceEqDiff, reduceCtorEq, Nat.reduceMul, Nat.reduceAdd, Nat.reduceSub, Nat.reduceDiv, Nat.reduceMod, Nat.reduceLeDiff, Nat.reduceLT, Nat.reduceBNe, Nat.reduceBEq, reduceIte, Int.reduceLE, Int.reduceLT, Int.reduceToNat, Int.reduceNeg, Int.reduceAdd, Int.reduceSub, Int.reduceMul, Int.reduceEq]
      have r1 := repL_size ⟨#[97]⟩ (show (0 : Int) ≤ 65 by decide)
      have r2 := repL_size ⟨#[98]⟩ (show (0 : Int) ≤ 31 by decide)
      have r3 := repL_size ⟨#[97]⟩ (show (0 : Int) ≤ 64 by decide)
      have r4 := repL_size ⟨#[98]⟩ (show (0 : Int) ≤ 12 by decide)
      have s1 : ((⟨#[97]⟩ : ByteArray).size : Int) = 1 := rfl
      have s2 : ((⟨#[98]⟩ : ByteArray).size : Int) = 1 := rfl
      rw [s1] at r1 r3
      rw [s2] at r2 r4
      refine fun a a0 a5 => ⟨fun _ k hk => exId (isIn_ok hk (by decide)) o2, fun _ => ⟨fun _ => ⟨by omega, by omega, by omega, by omega, by omega, by omega, fun s hs => exId o1 (okS_of (isOf_ok hs (by decide +kernel)))⟩, fun _ => ⟨by omega, fun s hs => exId o1 (okS_of (by omega))⟩⟩⟩
set_option maxHeartbeats 8000000 in
theorem Id_ctr {cx : Cx} (h : Seat cx) (hN : cx.glob 0 = some poolD) : Ctr cx 34 (idG 6) := by
  refine ctr_of (fn := Tryz.f34) (l := [.cell 2 49]) (envL [(55, nextS), (26, flipS), (78, (idG 5))]) [0, 2, 4] [] [] (envL_cons (next_ctr cx h.hP h.hS) (envL_cons (flip_ctr cx h.hP h.hS) (envL_cons (SpoiledId_ctr h hN) (env0 h.hP)))) ?_ (by rw [h.hP]; exact Tryz.func34) rfl (by kernel_rfl) rfl ?_ ?_
  · rw [h.hP]; exact ⟨_, Tryz.func34, by kernel_rfl, by kernel_rfl⟩
  · rintro xs rfl; exact ⟨_, TId.z, TId.z_ok, rfl⟩
  · rintro xs rfl
    refine ⟨by rw [Tryz.ntmps34]; simp, ?_⟩
    simp only [go_sem, h.hP, List.cons_append, List.nil_append, Meets_e, Below_e, Prod.exists, exists_eq, exists_eq_left, exists_eq_left', exists_eq_right, exists_eq_right', exists_and_left, exists_and_right, Ob.arr.injEq, AV.own.injEq, AV.fv.injEq, idG, nextS_q, nextS_p, nextS_c, nextS_f, flipS_q, flipS_p, flipS_c, flipS_f, TId.row, hN, Tryz.ntmps34, Nat.reduceEqDiff, reduceCtorEq, Nat.reduceMul, Nat.reduceAdd, Nat.reduceSub, Nat.reduceDiv, Nat.reduceMod, Nat.reduceLeDiff, Nat.reduceLT, Nat.reduceBNe, Nat.reduceBEq, reduceIte, Int.reduceLE, Int.reduceLT, Int.reduceToNat, Int.reduceNeg, Int.reduceAdd, Int.reduceSub, Int.reduceMul, Int.reduceEq]
    refine fun a => ⟨fun _ x hx => ⟨x, hx, rfl, rfl⟩, fun _ i i0 i1 => ?_⟩
    rw [pool_at i i0 (by omega)]
    simp only [go_sem, h.hP, List.cons_append, List.nil_append, Meets_e, Below_e, Prod.exists, exists_eq, exists_eq_left, exists_eq_left', exists_eq_right, exists_eq_right', exists_and_left, exists_and_right, Ob.arr.injEq, AV.own.injEq, AV.fv.injEq, TId.row, Tryz.ntmps34, Nat.reduceEqDiff, reduceCtorEq, Nat.reduceMul, Nat.reduceAdd, Nat.reduceSub, Nat.reduceDiv, Nat.reduceMod, Nat.reduceLeDiff, Nat.reduceLT, Nat.reduceBNe, Nat.reduceBEq, reduceIte, Int.reduceLE, Int.reduceLT, Int.reduceToNat, Int.reduceNeg, Int.reduceAdd, Int.reduceSub, Int.reduceMul, Int.reduceEq]
    have h2 := pool_ok i.toNat
    refine ⟨i0, by omega, ?_, _, h2.1, rfl, rfl⟩
    rw [List.length_drop, poolD_len]
    omega
end Go.Avc

/- The generators of schemas and events: their contracts. No condition. -/
set_option linter.unusedVariables false
set_option linter.unusedSimpArgs false
set_option maxRecDepth 100000
namespace Go.Avc
open Go Go.Proofs

def evNamesL : List ByteArray := [⟨#[98, 117, 121]⟩, ⟨#[111, 112, 101, 110]⟩, ⟨#[113, 117, 105, 116]⟩, ⟨#[118, 105, 101, 119]⟩]
def evNamesD : List D := evNamesL.map D.str
theorem evNamesD_len : evNamesD.length = 4 := rfl
theorem evNames_ok (n : Nat) : okS (evNamesL.getD n ⟨#[]⟩) := okS_of (all_get (p := fun s : ByteArray => s.size ≤ 1000) (fun x hx => by simpa using List.all_eq_true.1 (show evNamesL.all (fun y => decide (y.size ≤ 1000)) = true by decide) x hx) (by decide) n)
theorem evNames_drop (n : Nat) : (evNamesD.drop (n * 1)).headD (.str ⟨#[]⟩) = .str (evNamesL.getD n ⟨#[]⟩) := by
  rw [Nat.mul_one]
  match n with
  | 0 => rfl
  | 1 => rfl
  | 2 => rfl
  | 3 => rfl
  | n + 4 =>
    have h1 : evNamesD.drop (n + 4) = [] := List.drop_eq_nil_of_le (by show 4 ≤ n + 4; omega)
    have h2 : evNamesL.getD (n + 4) ⟨#[]⟩ = ⟨#[]⟩ := by
      rw [List.getD_eq_getElem?_getD, List.getElem?_eq_none (by show 4 ≤ n + 4; omega)]
      rfl
    rw [h1, h2]
    rfl
theorem evNames_get (n : Nat) : evNamesD.getD n (.str ⟨#[]⟩) = .str (evNamesL.getD n ⟨#[]⟩) := by
  have h := evNames_drop n
  rw [Nat.mul_one, List.headD_eq_head?_getD, List.head?_drop] at h
  rw [List.getD_eq_getElem?_getD]
  exact h
def eventG : Spec where
  pre xs := ∃ (s : ByteArray) (m : Int), xs = [.st, .str s, .i m] ∧ okS s ∧ okI m
  post xs y := ∃ (s : ByteArray) (m : Int) (e : TEvent), xs = [.st, .str s, .i m] ∧ e.ok ∧ y = .dv (.ag e.row)
  cost _ := 80
  fresh := false
set_option maxHeartbeats 16000000 in
theorem Event_ctr {cx : Cx} (h : Seat cx) (hN : cx.glob 2 = some namesD) (hI : cx.glob 0 = some poolD) (hE : cx.glob 1 = some evNamesD) : Ctr cx 72 eventG := by
  refine ctr_of (fn := Tryz.f72) (l := [.cell 6 52]) (envL [(55, nextS), (26, flipS), (61, oneS), (68, oddS), (116, fieldsG), (78, (idG 5))]) [0, 1, 2, 6, 7, 22, 24, 28, 34, 40] [11] [(1, [13], [])] (envL_cons (next_ctr cx h.hP h.hS) (envL_cons (flip_ctr cx h.hP h.hS) (envL_cons (one_ctr h) (envL_cons (odd_ctr h) (envL_cons (Fields_ctr h hN) (envL_cons (SpoiledId_ctr h hI) (env0 h.hP))))))) ?_ (by rw [h.hP]; exact Tryz.func72) rfl (by kernel_rfl) rfl ?_ ?_
  · rw [h.hP]; exact ⟨_, Tryz.func72, by kernel_rfl, by kernel_rfl⟩
  · rintro xs ⟨s, m, rfl, h1⟩; exact ⟨_, s, m, TEvent.z, rfl, TEvent.z_ok, rfl⟩
  · rintro xs ⟨s, m, rfl, h1, h2⟩
    refine ⟨by rw [Tryz.ntmps72]; simp, ?_⟩
    simp only [go_sem, h.hP, List.cons_append, List.nil_append, Meets_e, Below_e, Prod.exists, exists_eq, exists_eq_left, exists_eq_left', exists_eq_right, exists_eq_right', exists_and_left, exists_and_right, Ob.arr.injEq, AV.own.injEq, AV.fv.injEq, eventG, nextS_q, nextS_p, nextS_c, nextS_f, hI, hE, evNames_drop, intsDi_inj, TField.rows_inj, Tryz.ntmps72, Nat.reduceEqDiff, reduceCtorEq, Nat.reduceMul, Nat.reduceAdd, Nat.reduceSub, Nat.reduceDiv, Nat.reduceMod, Nat.reduceLeDiff, Nat.reduceLT, Nat.reduceBNe, Nat.reduceBEq, reduceIte, Int.reduceLE, Int.reduceLT, Int.reduceToNat, Int.reduceNeg, Int.reduceAdd, Int.reduceSub, Int.reduceMul, Int.reduceEq]
    intro a a0 a1
    refine ⟨a0, by omega, ?_, fun b b0 b1 => ?_⟩
    · have h4 : a.toNat < 4 := by omega
      generalize a.toNat = n at h4
      match n, h4 with
      | 0, _ => exact fun e => by cases e
      | 1, _ => exact fun e => by cases e
      | 2, _ => exact fun e => by cases e
      | 3, _ => exact fun e => by cases e
    rw [pool_at b b0 (by omega)]
    simp only [go_sem, h.hP, List.cons_append, List.nil_append, Meets_e, Below_e, Prod.exists, exists_eq, exists_eq_left, exists_eq_left', exists_eq_right, exists_eq_right', exists_and_left, exists_and_right, Ob.arr.injEq, AV.own.injEq, AV.fv.injEq, fieldsG, Tryz.ntmps72, Nat.reduceEqDiff, reduceCtorEq, Nat.reduceMul, Nat.reduceAdd, Nat.reduceSub, Nat.reduceDiv, Nat.reduceMod, Nat.reduceLeDiff, Nat.reduceLT, Nat.reduceBNe, Nat.reduceBEq, reduceIte, Int.reduceLE, Int.reduceLT, Int.reduceToNat, Int.reduceNeg, Int.reduceAdd, Int.reduceSub, Int.reduceMul, Int.reduceEq]
    have hp := pool_ok b.toNat
    have hn := evNames_ok a.toNat
    refine ⟨b0, by omega, ?_, fun l l7 lo => ?_⟩
    · rw [List.length_drop, poolD_len]
      omega
    refine vc_cutT (TEvent) (fun (e : TEvent) => [(22, .un), (24, .un), (28, .un), (34, .un), (40, .un)]) [6] (fun (e : TEvent) => []) (fun (e : TEvent) => [(7, .box 52 [.str e.id, .str e.name, .i e.at_, .i e.who.kind, .str e.who.text, .sl (TField.rows e.fields)])]) (fun (e : TEvent) => 75) (fun (e : TEvent) => e.ok) [] ?_ ?_ ?_
    · rfl
    · simp only [go_sem, h.hP, List.cons_append, List.nil_append, Meets_e, Below_e, Prod.exists, exists_eq, exists_eq_left, exists_eq_left', exists_eq_right, exists_eq_right', exists_and_left, exists_and_right, Ob.arr.injEq, AV.own.injEq, AV.fv.injEq, flipS_q, flipS_p, flipS_c, flipS_f, nextS_q, nextS_p, nextS_c, nextS_f, oneS_q, oneS_p, oneS_c, oneS_f, oddS_q, oddS_p, oddS_c, oddS_f, idG, strs1, strsc, TId.row, TField.rows_inj, TEvent.ex, TId.ex, Tryz.ntmps72, Nat.reduceEqDiff, reduceCtorEq, Nat.reduceMul, Nat.reduceAdd, Nat.reduceSub, Nat.reduceDiv, Nat.reduceMod, Nat.reduceLeDiff, Nat.reduceLT, Nat.reduceBNe, Nat.reduceBEq, reduceIte, Int.reduceLE, Int.reduceLT, Int.reduceToNat, Int.reduceNeg, Int.reduceAdd, Int.reduceSub, Int.reduceMul, Int.reduceEq]
      have hf : okL TField.ok l := ⟨by omega, lo⟩
      exact fun c => ⟨fun _ q q0 q4 => ⟨fun _ u hu => ⟨okS_of (isOf_ok hu (by decide)), hn, h2, hp.1, hf⟩, fun _ => ⟨fun _ u hu => ⟨h1, okS_of (isOf_ok hu (by decide)), h2, hp.1, hf⟩, fun _ => ⟨fun _ r r1 r2 => ⟨h1, hn, odd_ok r1 r2, hp.1, hf⟩, fun _ r u hu => ⟨h1, hn, h2, hu, hf⟩⟩⟩⟩, fun _ => ⟨h1, hn, h2, hp.1, hf⟩⟩
    · rintro e he
      simp only [go_sem, h.hP, List.cons_append, List.nil_append, Meets_e, Below_e, Prod.exists, exists_eq, exists_eq_left, exists_eq_left', exists_eq_right, exists_eq_right', exists_and_left, exists_and_right, Ob.arr.injEq, AV.own.injEq, AV.fv.injEq, eventG, TEvent.row, TEvent.ex, TId.ex, TField.rows_inj, Tryz.ntmps72, Nat.reduceEqDiff, reduceCtorEq, Nat.reduceMul, Nat.reduceAdd, Nat.reduceSub, Nat.reduceDiv, Nat.reduceMod, Nat.reduceLeDiff, Nat.reduceLT, Nat.reduceBNe, Nat.reduceBEq, reduceIte, Int.reduceLE, Int.reduceLT, Int.reduceToNat, Int.reduceNeg, Int.reduceAdd, Int.reduceSub, Int.reduceMul, Int.reduceEq]
      exact ⟨_, _, _, _, _, _, he, rfl, rfl, rfl, rfl, rfl, rfl⟩
theorem okV_t {k : Int} (h : okI k) : (⟨k, ⟨#[116]⟩, 0⟩ : TValue).ok := ⟨h, okS_of (by show (1 : Nat) ≤ 1000; decide), okI_z⟩
theorem okV_n {k n : Int} (h : okI k) (h0 : 0 ≤ n) (h1 : n < 2) : (⟨k, ⟨#[]⟩, n⟩ : TValue).ok := ⟨h, okS_z, (⟨by omega, by omega⟩ : okI n)⟩
theorem okN {s : ByteArray} {k : Int} {m : Bool} (h : okS s) (h1 : 1 ≤ k) (h4 : k ≤ 4) : TNeed.ok ⟨s, k, m⟩ := ⟨h, by show okI k; exact ⟨by omega, by omega⟩⟩
theorem okSch2 {a x y : ByteArray} {k : Int} (h1 : okS a) (h2 : okS x) (h3 : okI k) (h4 : okS y) : TSchema.ok ⟨a, [⟨x, k, false⟩, ⟨y, 1, false⟩]⟩ := ⟨h1, by show (2 : Nat) ≤ 1048576; decide, fun c hc => by
  rcases List.mem_cons.1 hc with rfl | hc
  · exact ⟨h2, h3⟩
  · rw [List.mem_singleton] at hc
    subst hc
    exact ⟨h4, (⟨by decide, by decide⟩ : okI 1)⟩⟩
theorem evNames_take : evNamesD.take 4 = evNamesD := rfl
def eventForG : Spec where
  pre xs := ∃ (l : List TSchema) (s : ByteArray) (m : Int), xs = [.st, .sl (TSchema.rows l), .str s, .i m] ∧ okL TSchema.ok l ∧ okS s ∧ okI m
  post xs y := ∃ (l : List TSchema) (s : ByteArray) (m : Int) (e : TEvent), xs = [.st, .sl (TSchema.rows l), .str s, .i m] ∧ e.ok ∧ y = .dv (.ag e.row)
  cost _ := 40000000
  fresh := false
def schemasG : Spec where
  pre xs := xs = [.st]
  post xs y := ∃ l : List TSchema, okL TSchema.ok l ∧ y = .sl (TSchema.rows l)
  cost _ := 200
  fresh := false
end Go.Avc

/- The order by which events are sorted: its walk; sorting a row of events of one's own, and copying one. No condition. -/
set_option linter.unusedVariables false
set_option linter.unusedSimpArgs false
set_option maxRecDepth 100000
namespace Go.Avc
open Go Go.RowKit Go.Proofs Go.Shelf Go.Sort

def lessE (x y : EvV) : Bool := decide (x.at_ < y.at_ ∨ (x.at_ = y.at_ ∧ Op.bytesLess x.id.toList y.id.toList = true))
def cmpE (x y : EvV) : Int := if lessE x y = true then -1 else 1
theorem lessE_t {x y : EvV} (h : x.at_ < y.at_ ∨ (x.at_ = y.at_ ∧ Op.bytesLess x.id.toList y.id.toList = true)) : cmpE x y = -1 := by
  unfold cmpE lessE
  rw [decide_eq_true h]
  rfl
theorem lessE_f {x y : EvV} (h : ¬ (x.at_ < y.at_ ∨ (x.at_ = y.at_ ∧ Op.bytesLess x.id.toList y.id.toList = true))) : cmpE x y = 1 := by
  unfold cmpE lessE
  rw [decide_eq_false h]
  rfl
set_option maxHeartbeats 8000000 in
theorem less_walk (x y : EvV) (W : World) : Calls Tryz.prog 156 #[.agg #[.string x.id, .string x.name, .int .i64 x.at_, .int .i64 x.kind, .string x.text, .slice x.A x.n x.c], .agg #[.string y.id, .string y.name, .int .i64 y.at_, .int .i64 y.kind, .string y.text, .slice y.A y.n y.c]] W
    fun e w' => e = .returned (.int .i64 (cmpE x y)) ∧ ∃ q os', w' = grow (W.drewN q) os' := by
  obtain ⟨q, hq⟩ : ∃ q, q = cmpE x y := ⟨_, rfl⟩
  rw [← hq]
  obtain ⟨xi, xn, xa, xk, xt, xA, xm, xc⟩ := x
  obtain ⟨yi, yn, ya, yk, yt, yA, ym, yc⟩ := y
  go_enter Tryz.func156, Tryz.ntmps156
  by_cases h1 : xa < ya
  · have e := hq.trans (lessE_t (.inl h1))
    clear hq
    subst e
    go_wp2
    go_ret
    exact ⟨rfl, 0, _, by rw [alloc_eq_grow, alloc_eq_grow, grow_grow]; rfl⟩
  · by_cases h2 : xa = ya
    · subst h2
      by_cases h3 : Op.bytesLess xi.toList yi.toList = true
      · have e := hq.trans (lessE_t (.inr ⟨rfl, h3⟩))
        clear hq
        subst e
        go_wp2
        go_ret
        exact ⟨rfl, 0, _, by rw [alloc_eq_grow, alloc_eq_grow, grow_grow]; rfl⟩
      · have e := hq.trans (lessE_f (fun z => z.elim h1 fun z => h3 z.2))
        clear hq
        subst e
        rw [Bool.not_eq_true] at h3
        go_wp2
        go_ret
        exact ⟨rfl, 0, _, by rw [alloc_eq_grow, alloc_eq_grow, grow_grow]; rfl⟩
    · have e := hq.trans (lessE_f (fun z => z.elim h1 fun z => h2 z.1))
      clear hq
      subst e
      have h2' : (xa == ya) = false := beq_eq_false_iff_ne.2 h2
      go_wp2
      go_ret
      exact ⟨rfl, 0, _, by rw [alloc_eq_grow, alloc_eq_grow, grow_grow]; rfl⟩
def cfE (p q : TEvent × EvV) : Int := cmpE p.2 q.2
theorem cfE_lt (p q : TEvent × EvV) : ltOf cfE p q = lessE p.2 q.2 := by
  unfold ltOf cfE cmpE
  cases lessE p.2 q.2 <;> decide
theorem lessE_iff (x y : EvV) : lessE x y = true ↔ x.at_ < y.at_ ∨ (x.at_ = y.at_ ∧ lessS x.id y.id = true) := by
  unfold lessE
  rw [decide_eq_true_eq]
  rfl
theorem cfE_swo : SWO (ltOf cfE) where
  irrefl x := by
    rw [cfE_lt, Bool.eq_false_iff, Ne, lessE_iff]
    rintro (h | ⟨_, h⟩)
    · omega
    · rw [lessS_irrefl] at h
      cases h
  trans x y z h k := by
    rw [cfE_lt, lessE_iff] at h k ⊢
    rcases h with h | ⟨h1, h2⟩ <;> rcases k with k | ⟨k1, k2⟩
    · exact .inl (by omega)
    · exact .inl (by omega)
    · exact .inl (by omega)
    · exact .inr ⟨by omega, lessS_trans h2 k2⟩
  ntrans x y z h k := by
    rw [cfE_lt, Bool.eq_false_iff, Ne, lessE_iff] at h k ⊢
    intro c
    have key : ∀ {s t u : ByteArray}, ¬ lessS s t = true → ¬ lessS t u = true → ¬ lessS s u = true := fun {s t u} h1 h2 h3 => by
      by_cases e1 : s = t
      · subst e1; exact h2 h3
      by_cases e2 : t = u
      · subst e2; exact h1 h3
      have g1 := lessS_total (s := s) (t := t) (fun q => q.elim h1 e1)
      have g2 := lessS_total (s := t) (t := u) (fun q => q.elim h2 e2)
      have g3 := lessS_trans (lessS_trans g2 g1) h3
      rw [lessS_irrefl] at g3
      cases g3
    rcases c with c | ⟨c1, c2⟩
    · have h1 : ¬ x.2.at_ < y.2.at_ := fun e => h (.inl e)
      have h2 : ¬ y.2.at_ < z.2.at_ := fun e => k (.inl e)
      omega
    · have h1 : ¬ x.2.at_ < y.2.at_ := fun e => h (.inl e)
      have h2 : ¬ y.2.at_ < z.2.at_ := fun e => k (.inl e)
      exact key (fun e => h (.inr ⟨by omega, e⟩)) (fun e => k (.inr ⟨by omega, e⟩)) c2

/-! ### Sorting a row of one's own -/
def encE (p : TEvent × EvV) : List Value := p.2.enc
theorem encE_len (p : TEvent × EvV) : (encE p).length = 6 := rfl
theorem encE_one (p : TEvent × EvV) : ∀ v ∈ encE p, v.oneCell' = true := p.2.one
theorem less_walk' (x y : TEvent × EvV) (W : World) : Calls Tryz.prog 156 #[.agg (encE x).toArray, .agg (encE y).toArray] W fun e w' => e = .returned (.int .i64 (cfE x y)) ∧ ∃ q os', w' = grow (W.drewN q) os' := less_walk x.2 y.2 W
theorem flatE_at (d : Array (TEvent × EvV)) {j : Nat} (hj : j < d.size * 6) : (encP d.toList)[j]? = some ((flatK encE 6 d)[j]!) := by
  have hd : j / 6 < d.size := by omega
  have h1 : d.toList[j / 6]? = some d[j / 6] := by rw [Array.getElem?_toList, Array.getElem?_eq_getElem hd]
  have h2 := encP_get d.toList h1 (Nat.mod_lt j (by decide))
  rw [show j / 6 * 6 + j % 6 = j by omega] at h2
  rw [h2, get_flatK _ _ _ _ hj, getElem!_pos d (j / 6) hd]
  have hl : j % 6 < (d[j / 6]).2.enc.length := by rw [EvV.len]; exact Nat.mod_lt _ (by decide)
  rw [List.getElem?_eq_getElem hl]
  show _ = some ((d[j / 6]).2.enc)[j % 6]!
  rw [getElem!_pos ((d[j / 6]).2.enc) _ hl]
theorem holdsE {w : World} {b : Nat} {cur : Array Value} {e : TypeId} {l : List (TEvent × EvV)} (h3 : w.heap[b]? = some (.cells cur e (0, 0))) (h7 : cur.toList.take (l.length * 6) = encP l) : HoldsK encE 6 w b 0 l.toArray := by
  intro j hj
  rw [size_flatK] at hj
  have hj' : j < l.length * 6 := by simpa using hj
  have h := flatE_at l.toArray hj
  have h8 := congrArg (fun q : List Value => q[j]?) h7
  simp only [List.getElem?_take, if_pos hj', Array.getElem?_toList] at h8
  rw [show l.toArray.toList = l from rfl, ← h8] at h
  constructor
  · unfold World.cell?
    rw [h3]
    simpa using h
  · unfold World.frozen?
    rw [h3]
    simp
theorem afterE {w w' : World} {base b cap n : Nat} {cur : Array Value} {e : TypeId} {d : Array (TEvent × EvV)} {os : Array Obj} (hb : base ≤ b) (h3 : w.heap[b]? = some (.cells cur e (0, 0)))
    (hn : d.size ≤ cap) (hcap : cap ≤ maxLen) (hcs : cur.size = cap * 6) (hw : w' = grow (putRowK encE 6 (Sort.ahead w n) b 0 d) os) :
    Else w (some b) w' ∧ w'.ownsRow base e 6 (.slice (some ⟨b, 0, none⟩) d.size cap) d.toList.length (encP d.toList) := by
  have hlt : b < w.heap.size := (Array.getElem?_eq_some_iff.1 h3).1
  have hsz : w'.heap.size = w.heap.size + os.size := by
    subst hw
    unfold putRowK putRow mapBlock grow Sort.ahead
    simp
  have hat : ∀ k', k' < w.heap.size → w'.heap[k']? = if b = k' then (w.heap[k']?).map (onCells (putCells id 0 (flatK encE 6 d))) else w.heap[k']? := fun k' hk' => by
    subst hw
    unfold putRowK putRow mapBlock grow Sort.ahead
    rw [Array.getElem?_append_left (by simpa using hk'), Array.getElem?_modify]
  refine ⟨⟨by subst hw; rfl, by subst hw; rfl, by subst hw; rfl, by omega, fun k' hk' hne => by rw [hat k' hk', if_neg fun e => hne (by rw [e])]⟩, ⟨?_, .inr ⟨b, cap, putCells id 0 (flatK encE 6 d) cur, by simp, hb, ?_, by simpa using hn, hcap, ?_, ?_⟩⟩⟩
  · rw [encP_len]
  · rw [hat b hlt, if_pos rfl, h3]; rfl
  · unfold putCells; simpa using hcs
  · apply List.ext_getElem?
    intro j
    have hle : d.size * 6 ≤ cap * 6 := Nat.mul_le_mul_right 6 hn
    rw [List.getElem?_take]
    by_cases hj : j < d.toList.length * 6
    · rw [if_pos hj]
      have hj' : j < d.size * 6 := by simpa using hj
      rw [flatE_at d hj', Array.getElem?_toList]
      unfold putCells
      rw [Array.getElem?_mapIdx, Array.getElem?_eq_getElem (by omega)]
      simp only [Option.map_some, size_flatK, Nat.zero_le, true_and, Nat.zero_add, if_pos hj', Nat.sub_zero, id]
    · rw [if_neg hj, eq_comm, List.getElem?_eq_none_iff, encP_len]
      simpa using hj
theorem isAgg_ev (w : World) : (isAgg 52).run Tryz.prog w = .ok true w := by
  simp [isAgg, run_underlying Tryz.underlying52]
theorem sizeOf_ev (w : World) : (Go.sizeOf 52).run Tryz.prog w = .ok 6 w := by
  have hc : Tryz.prog.cellsOf 52 = 6 := by kernel_rfl
  have := size_run (P := Tryz.prog) (t := 52) (by rw [hc]; decide) w
  rw [hc] at this
  exact this
theorem sortE {w : World} {base : Nat} {v : Value} {ps : List (TEvent × EvV)} (hlen : ps.length ≤ 1048576) (hrow : w.ownsRow base 52 6 v ps.length (encP ps)) :
    Calls Tryz.prog 155 #[v, .func (.func 156) #[] #[]] w fun e w' => e = .returned (.tuple #[]) ∧ ∃ ps' : List (TEvent × EvV), ps'.Perm ps ∧ Else w v.ownBlock w' ∧ w'.ownsRow base 52 6 v ps'.length (encP ps') := by
  rcases hrow.2 with ⟨h1, hn⟩ | ⟨b, cap, cur, h1, h2, h3, h4, h5, h6, h7⟩
  · subst h1
    obtain rfl : ps = [] := List.eq_nil_of_length_eq_zero hn
    refine (AnyF.slices_SortFunc_none Tryz.laysSortEvent none 0 _ w).mono fun e' w' ⟨e1, e2⟩ => ⟨e1, [], List.Perm.refl _, ?_⟩
    subst e2
    exact ⟨⟨rfl, rfl, rfl, Nat.le_refl _, fun _ _ _ => rfl⟩, World.ownsRow_nil ..⟩
  · subst h1
    have hb : b < w.heap.size := (Array.getElem?_eq_some_iff.1 h3).1
    have hcall := AnyQ.slices_SortFunc Tryz.laysSortEvent 6 isAgg_ev sizeOf_ev encE encE_len encE_one cfE cfE_swo 156 #[] b 0 cap ps.toArray w (fun args w => callFunc_run ⟨_, Tryz.func156, by kernel_rfl, by kernel_rfl⟩ args w)
      (fun m os dk _ x y => by simpa using less_walk' x y _) (holdsE h3 h7) hb (by simp; omega)
    refine Calls.mono (show Calls Tryz.prog 155 #[.slice (some ⟨b, 0, none⟩) ps.length cap, .func (.func 156) #[] #[]] w _ from hcall) fun e' w' ⟨e1, d', n, os, hp, hs, hw⟩ => ?_
    have hds : d'.size = ps.length := by have := hp.1; simpa using this
    obtain ⟨a1, a2⟩ := afterE (w := w) (w' := w') (base := base) (b := b) (cap := cap) (e := 52) (d := d') h2 h3 (by omega) h5 h6 hw
    rw [hds] at a2
    refine ⟨e1, d'.toList, ?_, a1, a2⟩
    have h8 := hp.2.2
    rw [show ps.toArray.size = d'.size by rw [hds]; simp] at h8
    have e8 : (ps.toArray.extract 0 d'.size) = ps.toArray := by rw [hds]; simp
    have e9 : (d'.extract 0 d'.size) = d' := by simp
    rw [e8, e9] at h8
    exact h8

/-! ### Copying a row -/
set_option maxHeartbeats 2000000 in
theorem cloneE_empty (a : Addr) (c : Nat) (w : World) : Calls Tryz.prog 38 #[.slice (some a) 0 c] w fun e w' => ∃ v', e = .returned v' ∧ w'.ownsRow w.heap.size 52 6 v' 0 [] ∧ RowKit.Below w.heap.size w w' := by
  have q22 : ∀ (w : World) (a : Option Addr) (n c n' c' : Nat), (binOp .eql 26 (.slice a n c) (.slice none n' c')).run Tryz.prog w = .ok (.bool a.isNone) w := fun w a n c n' c' => Lib.run_eql_slice_nil w _ _ a n c n' c' Tryz.underlying26
  go_enter Tryz.func38, Tryz.ntmps38
  go_wp2
  go_ret
  exact ⟨_, rfl, ⟨rfl, .inr ⟨w.heap.size, 0, #[], rfl, Nat.le_refl _, heap_alloc_new w _, Nat.le_refl _, by decide, rfl, rfl⟩⟩, (RowKit.Below.refl _ w).alloc (Nat.le_refl _) _⟩
theorem cloneE_rest (ps : List (TEvent × EvV)) (b o c : Nat) (w : World) (hl : ps.length ≤ 1048576) (hc : ∀ j u, (encP ps)[j]? = some u → w.cell? ⟨b, o + j, none⟩ = some u) :
    Calls Tryz.prog 38 #[.slice (some ⟨b, o, none⟩) ps.length c] w fun e w' => ∃ v', e = .returned v' ∧ w'.ownsRow w.heap.size 52 6 v' ps.length (encP ps) ∧ RowKit.Below w.heap.size w w' := by
  obtain ⟨i0, hi, hz0, hz1, hz2⟩ := info_parts (P := Tryz.prog) (e := 52) (z := .agg #[.string ⟨#[]⟩, .string ⟨#[]⟩, .int .i64 0, .int .i64 0, .string ⟨#[]⟩, .slice none 0 0]) (size := 6) (bytes := 88) (by kernel_rfl)
  refine (AnyE.slices_Clone Tryz.laysCloneEvent i0 _ 6 88 hi hz0 hz1 hz2 rfl (by decide) sizeOf_ev b o ps.length c _ w (encP_len ps) (by unfold maxLen; omega) (by omega) hc (encP_one ps)).mono ?_
  rintro e w' ⟨v', h1, h2, _, h3⟩
  exact ⟨v', h1, h2, h3⟩
end Go.Avc

/- A record's field, found by halving; the points of two records: the program. No condition. -/
set_option linter.unusedVariables false
set_option linter.unusedSimpArgs false
set_option maxRecDepth 100000
namespace Go.Avc
open Go Go.Proofs

def find1S  : Spec where
  pre xs := ∃ (f : TField) (n : ByteArray), xs = [.dv (.ag f.row), .str n]
  post xs y := ∃ (f : TField) (n : ByteArray), xs = [.dv (.ag f.row), .str n] ∧ y = .i (cmpT f.name n)
  cost _ := 0
  fresh := true
theorem find1S_c  (xs : List AV) : (find1S).cost xs = 0 := nr rfl
theorem find1S_f  : (find1S).fresh = true := nr rfl
theorem find1S_q  (f : TField) (n : ByteArray) : (find1S).pre [.dv (.ag [.str f.name, .int .i64 f.value.kind, .str f.value.text, .int .i64 f.value.number]), .str n] = (True) := propext ⟨fun h => by
  have h' : ∃ (f' : TField) (n' : ByteArray), ([.dv (.ag f.row), .str n] : List AV) = [.dv (.ag f'.row), .str n'] := h
  obtain ⟨f', n', e⟩ := h'
  simp only [List.cons.injEq, AV.dv.injEq, AV.dp.injEq, AV.fv.injEq, DV.d.injEq, DV.ag.injEq, D.int.injEq, D.str.injEq, D.bool.injEq, D.sl.injEq, true_and, and_true, intsDi_inj, rowsT_inj, rowsKi_inj, TField.row_inj, TField.rows_inj] at e
  obtain ⟨rfl, rfl⟩ := e
  exact trivial, fun h => ⟨f, n, rfl⟩⟩
theorem find1S_p  (f : TField) (n : ByteArray) : (find1S).post [.dv (.ag [.str f.name, .int .i64 f.value.kind, .str f.value.text, .int .i64 f.value.number]), .str n] = fun y => y = .i (cmpT f.name n) := funext fun y => propext ⟨fun h => by
  have h' : ∃ (f' : TField) (n' : ByteArray), ([.dv (.ag f.row), .str n] : List AV) = [.dv (.ag f'.row), .str n'] ∧ y = .i (cmpT f'.name n') := h
  obtain ⟨f', n', e, h⟩ := h'
  simp only [List.cons.injEq, AV.dv.injEq, AV.dp.injEq, AV.fv.injEq, DV.d.injEq, DV.ag.injEq, D.int.injEq, D.str.injEq, D.bool.injEq, D.sl.injEq, true_and, and_true, intsDi_inj, rowsT_inj, rowsKi_inj, TField.row_inj, TField.rows_inj] at e
  obtain ⟨rfl, rfl⟩ := e
  exact h, fun h => ⟨f, n, rfl, h⟩⟩
theorem find1_ctr {cx : Cx} (h : Seat cx) : Ctr cx 150 find1S := by
  refine ctr_of (fn := Tryz.f150) (l := [.tmp 4]) (envL [(120, cmpTSp)]) [0, 1, 2, 4] [] [] (envL_cons (compareT_ctr h) (env0 h.hP)) ?_ (by rw [h.hP]; exact Tryz.func150) rfl (by kernel_rfl) rfl ?_ ?_
  · rw [h.hP]; exact ⟨_, Tryz.func150, by kernel_rfl, by kernel_rfl⟩
  · rintro xs ⟨f, n, rfl⟩; exact ⟨_, f, n, rfl, rfl⟩
  · rintro xs ⟨f, n, rfl⟩
    refine ⟨by rw [Tryz.ntmps150]; simp, ?_⟩
    simp only [go_sem, h.hP, List.cons_append, List.nil_append, Meets_e, Below_e, Prod.exists, exists_eq, exists_eq_left, exists_eq_left', exists_eq_right, exists_eq_right', exists_and_left, exists_and_right, Ob.arr.injEq, AV.own.injEq, AV.fv.injEq, find1S_q, find1S_p, find1S_c, find1S_f, cmpTSp_q, cmpTSp_p, cmpTSp_c, cmpTSp_f, TField.row, Tryz.ntmps150, Nat.reduceEqDiff, reduceCtorEq, Nat.reduceMul, Nat.reduceAdd, Nat.reduceSub, Nat.reduceDiv, Nat.reduceMod, Nat.reduceLeDiff, Nat.reduceLT, Nat.reduceBNe, Nat.reduceBEq, reduceIte, Int.reduceLE, Int.reduceLT, Int.reduceToNat, Int.reduceNeg, Int.reduceAdd, Int.reduceSub, Int.reduceMul, Int.reduceEq]
def cmpΦ (caps : List (List D)) : FSpec where
  pre xs := caps = [] ∧ ∃ (f : TField) (n : ByteArray), xs = [.ag f.row, .d (.str n)]
  post xs r := caps = [] ∧ ∃ (f : TField) (n : ByteArray), xs = [.ag f.row, .d (.str n)] ∧ r = .d (.int .i64 (cmpT f.name n))
theorem cmpΦ_of {cx : Cx} {fn : FuncId} (h : Ctr cx fn find1S) (caps : List (List D)) : Ctr cx fn (clo cmpΦ caps) := by
  refine h.weaken (fun xs hx => ?_) (fun xs r hx hr => ?_) (fun _ => Nat.le_refl _) rfl
  · obtain ⟨ys, rfl, rfl, f, n, rfl⟩ := hx
    exact ⟨f, n, rfl⟩
  · obtain ⟨ys, rfl, rfl, f, n, rfl⟩ := hx
    obtain ⟨f', n', e, rfl⟩ := hr
    simp only [List.map_cons, List.map_nil, List.append_nil, List.cons.injEq, AV.dv.injEq, DV.ag.injEq, DV.d.injEq, D.str.injEq, and_true] at e
    obtain ⟨e1, rfl⟩ := e
    obtain rfl := TField.inj e1
    exact ⟨_, _, rfl, rfl, rfl, f, n, rfl, rfl⟩
theorem cmpΦ_pre (f : TField) (n : ByteArray) : (cmpΦ []).pre [.ag [.str f.name, .int .i64 f.value.kind, .str f.value.text, .int .i64 f.value.number], .d (.str n)] = True := eq_true ⟨rfl, f, n, rfl⟩
theorem cmpΦ_post (f : TField) (n : ByteArray) (y : DV) : (cmpΦ []).post [.ag [.str f.name, .int .i64 f.value.kind, .str f.value.text, .int .i64 f.value.number], .d (.str n)] y = (y = .d (.int .i64 (cmpT f.name n))) := by
  apply propext
  constructor
  · rintro ⟨_, f', n', e, rfl⟩
    simp only [List.cons.injEq, DV.ag.injEq, DV.d.injEq, D.str.injEq, and_true] at e
    obtain ⟨e1, rfl⟩ := e
    obtain rfl := TField.inj (x := f) e1
    rfl
  · rintro rfl
    exact ⟨rfl, f, n, rfl, rfl⟩
def bsS : Spec where
  pre xs := ∃ (l : List TField) (n : ByteArray), xs = [.sl (TField.rows l), .str n, .fv (cmpΦ [])] ∧ ascF l ∧ l.length ≤ 1048576
  post xs r := ∃ (l : List TField) (n : ByteArray) (i : Int) (b : Bool), xs = [.sl (TField.rows l), .str n, .fv (cmpΦ [])] ∧ (b = true → 0 ≤ i ∧ i < l.length ∧ (l.getD i.toNat TField.z).name = n) ∧ (b = false → ∀ j : Nat, j < l.length → (l.getD j TField.z).name ≠ n) ∧ r = .tcons (.i i) (.tcons (.b b) .tnil)
  cost _ := 0
  fresh := true
theorem bsS_c (xs : List AV) : bsS.cost xs = 0 := nr rfl
theorem bsS_f : bsS.fresh = true := nr rfl
theorem bsS_q (l : List TField) (n : ByteArray) : bsS.pre [.sl (TField.rows l), .str n, .fv (cmpΦ [])] = (ascF l ∧ l.length ≤ 1048576) := propext ⟨fun h => by
  have h' : ∃ (l' : List TField) (n' : ByteArray), ([.sl (TField.rows l), .str n, .fv (cmpΦ [])] : List AV) = [.sl (TField.rows l'), .str n', .fv (cmpΦ [])] ∧ ascF l' ∧ l'.length ≤ 1048576 := h
  obtain ⟨l', n', e, h1⟩ := h'
  simp only [List.cons.injEq, AV.dv.injEq, DV.d.injEq, D.sl.injEq, D.str.injEq, TField.rows_inj, and_true] at e
  rw [e.1]
  exact h1, fun h => ⟨l, n, rfl, h⟩⟩
theorem bsS_p (l : List TField) (n : ByteArray) : bsS.post [.sl (TField.rows l), .str n, .fv (cmpΦ [])] = fun r => ∃ (i : Int) (b : Bool), ((b = true → 0 ≤ i ∧ i < l.length ∧ (l.getD i.toNat TField.z).name = n) ∧ (b = false → ∀ j : Nat, j < l.length → (l.getD j TField.z).name ≠ n)) ∧ r = .tcons (.i i) (.tcons (.b b) .tnil) := funext fun r => propext ⟨fun h => by
  have h' : ∃ (l' : List TField) (n' : ByteArray) (i : Int) (b : Bool), ([.sl (TField.rows l), .str n, .fv (cmpΦ [])] : List AV) = [.sl (TField.rows l'), .str n', .fv (cmpΦ [])] ∧ (b = true → 0 ≤ i ∧ i < l'.length ∧ (l'.getD i.toNat TField.z).name = n') ∧ (b = false → ∀ j : Nat, j < l'.length → (l'.getD j TField.z).name ≠ n') ∧ r = .tcons (.i i) (.tcons (.b b) .tnil) := h
  obtain ⟨l', n', i, b, e, h1, h2, h3⟩ := h'
  simp only [List.cons.injEq, AV.dv.injEq, DV.d.injEq, D.sl.injEq, D.str.injEq, TField.rows_inj, and_true] at e
  obtain ⟨rfl, rfl⟩ := e
  exact ⟨i, b, ⟨h1, h2⟩, h3⟩, fun ⟨i, b, ⟨h1, h2⟩, h3⟩ => ⟨l, n, i, b, rfl, h1, h2, h3⟩⟩
theorem cmp_neg {s t : ByteArray} : cmpT s t < 0 ↔ lessS s t = true := by
  unfold cmpT
  constructor
  · intro h
    split at h
    · assumption
    · split at h <;> omega
  · intro h
    rw [if_pos h]; decide
theorem cmp_zero {s t : ByteArray} (h : cmpT s t = 0) : s = t := by
  unfold cmpT at h
  split at h
  · cases h
  · split at h
    · assumption
    · cases h
theorem u64w {n : Int} (h1 : 0 ≤ n) (h2 : n ≤ 9223372036854775807) : IntKind.u64.wrap n = n := by rw [IntKind.wrap_u64]; omega
set_option maxHeartbeats 4000000 in
theorem bs_ctr {cx : Cx} (h : Seat cx) : Ctr cx 149 bsS := by
  refine ctr_of (fn := Tryz.f149) (l := [.tmp 6, .tmp 7]) (envL []) [0, 1, 2, 6, 7, 8, 9, 10, 11, 17, 31] [8] [] (env0 h.hP) ?_ (by rw [h.hP]; exact Tryz.func149) rfl (by kernel_rfl) rfl ?_ ?_
  · rw [h.hP]; exact ⟨_, Tryz.func149, by kernel_rfl, by kernel_rfl⟩
  · rintro xs ⟨l, n, rfl, h1, h2⟩
    by_cases c : ∃ j : Nat, j < l.length ∧ (l.getD j TField.z).name = n
    · obtain ⟨j, j1, j2⟩ := c
      exact ⟨_, l, n, j, true, rfl, fun _ => ⟨by omega, by omega, by rw [Int.toNat_natCast]; exact j2⟩, fun z => (by cases z), rfl⟩
    · exact ⟨_, l, n, 0, false, rfl, fun z => (by cases z), fun _ j j1 j2 => c ⟨j, j1, j2⟩, rfl⟩
  · rintro xs ⟨l, n, rfl, h1, h2⟩
    refine ⟨by rw [Tryz.ntmps149]; simp, ?_⟩
    simp only [go_sem, h.hP, List.cons_append, List.nil_append, Meets_e, Below_e, Prod.exists, exists_eq, exists_eq_left, exists_eq_left', exists_eq_right, exists_eq_right', exists_and_left, exists_and_right, Ob.arr.injEq, AV.own.injEq, AV.fv.injEq, bsS_c, bsS_f, TField.len, Tryz.ntmps149, Nat.reduceEqDiff, reduceCtorEq, Nat.reduceMul, Nat.reduceAdd, Nat.reduceSub, Nat.reduceDiv, Nat.reduceMod, Nat.reduceLeDiff, Nat.reduceLT, Nat.reduceBNe, Nat.reduceBEq, reduceIte, Int.reduceLE, Int.reduceLT, Int.reduceToNat, Int.reduceNeg, Int.reduceAdd, Int.reduceSub, Int.reduceMul, Int.reduceEq]
    refine vc_cutS (Int) (fun (i : Int) => [(9, .i i), (10, .un), (11, .un), (17, .un), (31, .un)]) [] (fun (i : Int) => []) (fun (i : Int) => []) (fun (i : Int) => 0) (fun (i : Int) => 0 ≤ i ∧ i ≤ l.length ∧ (∀ k : Nat, (k : Int) < i → lessS (l.getD k TField.z).name n = true) ∧ (∀ k : Nat, i ≤ (k : Int) → k < l.length → lessS (l.getD k TField.z).name n = false)) [] ?_ ?_ ?_
    · rfl
    · simp only [go_sem, h.hP, List.cons_append, List.nil_append, Meets_e, Below_e, Prod.exists, exists_eq, exists_eq_left, exists_eq_left', exists_eq_right, exists_eq_right', exists_and_left, exists_and_right, Ob.arr.injEq, AV.own.injEq, AV.fv.injEq, TField.len, Tryz.ntmps149, Nat.reduceEqDiff, reduceCtorEq, Nat.reduceMul, Nat.reduceAdd, Nat.reduceSub, Nat.reduceDiv, Nat.reduceMod, Nat.reduceLeDiff, Nat.reduceLT, Nat.reduceBNe, Nat.reduceBEq, reduceIte, Int.reduceLE, Int.reduceLT, Int.reduceToNat, Int.reduceNeg, Int.reduceAdd, Int.reduceSub, Int.reduceMul, Int.reduceEq]
      refine vc_loopS (Int × Int) (fun (x : Int × Int) => match x with | (i, j) => [(9, .i i), (10, .i j)]) [] (fun (x : Int × Int) => match x with | (i, j) => []) (fun (x : Int × Int) => match x with | (i, j) => []) (fun (x : Int × Int) => match x with | (i, j) => 0) (fun (x : Int × Int) => match x with | (i, j) => 0 ≤ i ∧ i ≤ j ∧ j ≤ l.length ∧ (∀ k : Nat, (k : Int) < i → lessS (l.getD k TField.z).name n = true) ∧ (∀ k : Nat, j ≤ (k : Int) → k < l.length → lessS (l.getD k TField.z).name n = false)) (fun (x : Int × Int) => match x with | (i, j) => (j - i).toNat) [] ?_ ?_
      · simp only [go_sem, h.hP, List.cons_append, List.nil_append, Meets_e, Below_e, Prod.exists, exists_eq, exists_eq_left, exists_eq_left', exists_eq_right, exists_eq_right', exists_and_left, exists_and_right, Ob.arr.injEq, AV.own.injEq, AV.fv.injEq, TField.len, Tryz.ntmps149, Nat.reduceEqDiff, reduceCtorEq, Nat.reduceMul, Nat.reduceAdd, Nat.reduceSub, Nat.reduceDiv, Nat.reduceMod, Nat.reduceLeDiff, Nat.reduceLT, Nat.reduceBNe, Nat.reduceBEq, reduceIte, Int.reduceLE, Int.reduceLT, Int.reduceToNat, Int.reduceNeg, Int.reduceAdd, Int.reduceSub, Int.reduceMul, Int.reduceEq]
        exact ⟨by omega, by omega, fun k hk => by omega, fun k a b => by omega⟩
      · rintro ⟨i, j⟩ ⟨j1, j2, j3, j4, j5⟩
        simp only [go_sem, h.hP, List.cons_append, List.nil_append, Meets_e, Below_e, Prod.exists, exists_eq, exists_eq_left, exists_eq_left', exists_eq_right, exists_eq_right', exists_and_left, exists_and_right, Ob.arr.injEq, AV.own.injEq, AV.fv.injEq, TField.len, TField.get, cmpΦ_pre, cmpΦ_post, Tryz.ntmps149, Nat.reduceEqDiff, reduceCtorEq, Nat.reduceMul, Nat.reduceAdd, Nat.reduceSub, Nat.reduceDiv, Nat.reduceMod, Nat.reduceLeDiff, Nat.reduceLT, Nat.reduceBNe, Nat.reduceBEq, reduceIte, Int.reduceLE, Int.reduceLT, Int.reduceToNat, Int.reduceNeg, Int.reduceAdd, Int.reduceSub, Int.reduceMul, Int.reduceEq]
        refine ⟨fun c => ?_, fun c => ⟨j1, by omega, j4, fun k a b => j5 k (by omega) b⟩⟩
        rw [i64w (n := i + j) (by omega) (by omega), u64w (n := i + j) (by omega) (by omega), i64w (n := (i + j) / 2) (by omega) (by omega)]
        obtain ⟨m, hm⟩ : ∃ m : Int, m = (i + j) / 2 := ⟨_, rfl⟩
        rw [← hm]
        have m1 : i ≤ m := by omega
        have m2 : m < j := by omega
        clear hm
        refine ⟨by omega, by omega, fun d => ?_, fun d => ?_⟩
        · have d' := cmp_neg.1 d
          rw [i64w (n := m + 1) (by omega) (by omega)]
          refine ⟨by omega, by omega, j3, fun k hk => ?_, j5, by omega⟩
          by_cases e : k = m.toNat
          · rw [e]; exact d'
          · exact lessS_trans (h1 k m.toNat (by omega) (by omega)) d'
        · have dn : lessS (l.getD m.toNat TField.z).name n = false := by
            cases e : lessS (l.getD m.toNat TField.z).name n with
            | false => rfl
            | true => exact absurd (cmp_neg.2 e) d
          refine ⟨j1, m1, by omega, j4, fun k a b => ?_, by omega⟩
          cases e : lessS (l.getD k TField.z).name n with
          | false => rfl
          | true =>
            by_cases q : k = m.toNat
            · rw [q, dn] at e; cases e
            · have := lessS_trans (h1 m.toNat k (by omega) b) e
              rw [dn] at this
              cases this
    · rintro i ⟨j1, j2, j3, j4⟩
      simp only [go_sem, h.hP, List.cons_append, List.nil_append, Meets_e, Below_e, Prod.exists, exists_eq, exists_eq_left, exists_eq_left', exists_eq_right, exists_eq_right', exists_and_left, exists_and_right, Ob.arr.injEq, AV.own.injEq, AV.fv.injEq, bsS_c, bsS_f, bsS_p, TField.len, TField.get, cmpΦ_pre, cmpΦ_post, Tryz.ntmps149, Nat.reduceEqDiff, reduceCtorEq, Nat.reduceMul, Nat.reduceAdd, Nat.reduceSub, Nat.reduceDiv, Nat.reduceMod, Nat.reduceLeDiff, Nat.reduceLT, Nat.reduceBNe, Nat.reduceBEq, reduceIte, Int.reduceLE, Int.reduceLT, Int.reduceToNat, Int.reduceNeg, Int.reduceAdd, Int.reduceSub, Int.reduceMul, Int.reduceEq]
      have hlt : ∀ k : Nat, (k : Int) < i → (l.getD k TField.z).name ≠ n := fun k hk e => by
        have := j3 k hk
        rw [e, lessS_irrefl] at this
        cases this
      refine ⟨fun c => ⟨j1, c, i, _, fun z => ⟨j1, c, cmp_zero (by simpa using z)⟩, fun z k hk e => ?_, rfl, rfl⟩, fun c => ⟨i, false, fun z => (by cases z), fun _ k hk e => hlt k (by omega) e, rfl, rfl⟩⟩
      by_cases q : (k : Int) < i
      · exact hlt k q e
      · have hi := j4 i.toNat (by omega) (by omega)
        by_cases q2 : k = i.toNat
        · rw [← q2, e] at z
          have : cmpT n n = 0 := by
            unfold cmpT
            rw [if_neg (by rw [lessS_irrefl]; decide), if_pos rfl]
          rw [this] at z
          cases z
        · have := h1 i.toNat k (by omega) hk
          rw [e, hi] at this
          cases this
def findS : Spec where
  pre xs := ∃ (l : List TField) (n : ByteArray), xs = [.sl (TField.rows l), .str n] ∧ ascF l ∧ l.length ≤ 1048576
  post xs r := ∃ (l : List TField) (n : ByteArray) (v : TValue), xs = [.sl (TField.rows l), .str n] ∧ (∀ f, findF l n = some f → v = f.value) ∧ r = .tcons (.dv (.ag v.row)) (.tcons (.b (findF l n).isSome) .tnil)
  cost _ := 0
  fresh := true
theorem findS_c (xs : List AV) : findS.cost xs = 0 := nr rfl
theorem findS_f : findS.fresh = true := nr rfl
theorem findS_q (l : List TField) (n : ByteArray) : findS.pre [.sl (TField.rows l), .str n] = (ascF l ∧ l.length ≤ 1048576) := propext ⟨fun h => by
  have h' : ∃ (l' : List TField) (n' : ByteArray), ([.sl (TField.rows l), .str n] : List AV) = [.sl (TField.rows l'), .str n'] ∧ ascF l' ∧ l'.length ≤ 1048576 := h
  obtain ⟨l', n', e, h1⟩ := h'
  simp only [List.cons.injEq, AV.dv.injEq, DV.d.injEq, D.sl.injEq, D.str.injEq, TField.rows_inj, and_true] at e
  rw [e.1]
  exact h1, fun h => ⟨l, n, rfl, h⟩⟩
theorem findS_p (l : List TField) (n : ByteArray) : findS.post [.sl (TField.rows l), .str n] = fun r => ∃ v : TValue, (∀ f, findF l n = some f → v = f.value) ∧ r = .tcons (.dv (.ag [.int .i64 v.kind, .str v.text, .int .i64 v.number])) (.tcons (.b (findF l n).isSome) .tnil) := funext fun r => propext ⟨fun h => by
  have h' : ∃ (l' : List TField) (n' : ByteArray) (v : TValue), ([.sl (TField.rows l), .str n] : List AV) = [.sl (TField.rows l'), .str n'] ∧ (∀ f, findF l' n' = some f → v = f.value) ∧ r = .tcons (.dv (.ag v.row)) (.tcons (.b (findF l' n').isSome) .tnil) := h
  obtain ⟨l', n', v, e, h1, h2⟩ := h'
  simp only [List.cons.injEq, AV.dv.injEq, DV.d.injEq, D.sl.injEq, D.str.injEq, TField.rows_inj, and_true] at e
  obtain ⟨rfl, rfl⟩ := e
  exact ⟨v, h1, h2⟩, fun ⟨v, h1, h2⟩ => ⟨l, n, v, rfl, h1, h2⟩⟩
theorem Find_ctr {cx : Cx} (h : Seat cx) : Ctr cx 96 findS := by
  refine ctr_of (fn := Tryz.f96) (l := [.cell 4 97, .tmp 5]) (envF [(149, bsS)] [(150, cmpΦ)]) [0, 1, 4, 5, 6, 7, 15] [] [] (envF_cons (cmpΦ_of (find1_ctr h)) (envF_nil (envL_cons (bs_ctr h) (env0 h.hP)))) ?_ (by rw [h.hP]; exact Tryz.func96) rfl (by kernel_rfl) rfl ?_ ?_
  · rw [h.hP]; exact ⟨_, Tryz.func96, by kernel_rfl, by kernel_rfl⟩
  · rintro xs ⟨l, n, rfl, h1, h2⟩
    cases e : findF l n with
    | none => exact ⟨_, l, n, TValue.z, rfl, fun f hf => (by rw [e] at hf; cases hf), rfl⟩
    | some f => exact ⟨_, l, n, f.value, rfl, fun g hg => (by rw [e] at hg; cases hg; rfl), rfl⟩
  · rintro xs ⟨l, n, rfl, h1, h2⟩
    refine ⟨by rw [Tryz.ntmps96]; simp, ?_⟩
    simp only [go_sem, h.hP, List.cons_append, List.nil_append, Meets_e, Below_e, Prod.exists, exists_eq, exists_eq_left, exists_eq_left', exists_eq_right, exists_eq_right', exists_and_left, exists_and_right, Ob.arr.injEq, AV.own.injEq, AV.fv.injEq, findS_c, findS_f, findS_p, bsS_c, bsS_f, bsS_p, bsS_q, TField.len, TField.get, Tryz.ntmps96, Nat.reduceEqDiff, reduceCtorEq, Nat.reduceMul, Nat.reduceAdd, Nat.reduceSub, Nat.reduceDiv, Nat.reduceMod, Nat.reduceLeDiff, Nat.reduceLT, Nat.reduceBNe, Nat.reduceBEq, reduceIte, Int.reduceLE, Int.reduceLT, Int.reduceToNat, Int.reduceNeg, Int.reduceAdd, Int.reduceSub, Int.reduceMul, Int.reduceEq]
    refine ⟨h1, h2, fun i b p1 p2 => ⟨fun c => ?_, fun c => ?_⟩⟩
    · have hn := findF_no (p2 c)
      exact ⟨TValue.z, fun f hf => (by rw [hn] at hf; cases hf), rfl, rfl, rfl, by rw [hn]; rfl⟩
    · obtain ⟨q1, q2, q3⟩ := p1 c
      have hf := findF_at h1 (i := i.toNat) (by omega) q3
      exact ⟨q1, q2, _, fun f e => (by rw [hf] at e; cases e; rfl), rfl, rfl, rfl, by rw [hf]; rfl⟩
end Go.Avc

/- Schemas and needs, found by halving: the program. No condition. -/
set_option linter.unusedVariables false
set_option linter.unusedSimpArgs false
set_option maxRecDepth 100000
namespace Go.Avc
open Go Go.Proofs

def ascSc (l : List TSchema) : Prop := ∀ i j : Nat, i < j → j < l.length → lessS (l.getD i TSchema.z).name (l.getD j TSchema.z).name = true
def find1SSc  : Spec where
  pre xs := ∃ (f : TSchema) (n : ByteArray), xs = [.dv (.ag f.row), .str n]
  post xs y := ∃ (f : TSchema) (n : ByteArray), xs = [.dv (.ag f.row), .str n] ∧ y = .i (cmpT f.name n)
  cost _ := 0
  fresh := true
theorem find1SSc_c  (xs : List AV) : (find1SSc).cost xs = 0 := nr rfl
theorem find1SSc_f  : (find1SSc).fresh = true := nr rfl
theorem find1SSc_q  (f : TSchema) (n : ByteArray) : (find1SSc).pre [.dv (.ag [.str f.name, .sl (TNeed.rows f.needs)]), .str n] = (True) := propext ⟨fun h => by
  have h' : ∃ (f' : TSchema) (n' : ByteArray), ([.dv (.ag f.row), .str n] : List AV) = [.dv (.ag f'.row), .str n'] := h
  obtain ⟨f', n', e⟩ := h'
  simp only [List.cons.injEq, AV.dv.injEq, AV.dp.injEq, AV.fv.injEq, DV.d.injEq, DV.ag.injEq, D.int.injEq, D.str.injEq, D.bool.injEq, D.sl.injEq, true_and, and_true, intsDi_inj, rowsT_inj, rowsKi_inj, TSchema.row_inj, TSchema.rows_inj] at e
  obtain ⟨rfl, rfl⟩ := e
  exact trivial, fun h => ⟨f, n, rfl⟩⟩
theorem find1SSc_p  (f : TSchema) (n : ByteArray) : (find1SSc).post [.dv (.ag [.str f.name, .sl (TNeed.rows f.needs)]), .str n] = fun y => y = .i (cmpT f.name n) := funext fun y => propext ⟨fun h => by
  have h' : ∃ (f' : TSchema) (n' : ByteArray), ([.dv (.ag f.row), .str n] : List AV) = [.dv (.ag f'.row), .str n'] ∧ y = .i (cmpT f'.name n') := h
  obtain ⟨f', n', e, h⟩ := h'
  simp only [List.cons.injEq, AV.dv.injEq, AV.dp.injEq, AV.fv.injEq, DV.d.injEq, DV.ag.injEq, D.int.injEq, D.str.injEq, D.bool.injEq, D.sl.injEq, true_and, and_true, intsDi_inj, rowsT_inj, rowsKi_inj, TSchema.row_inj, TSchema.rows_inj] at e
  obtain ⟨rfl, rfl⟩ := e
  exact h, fun h => ⟨f, n, rfl, h⟩⟩
def cmpΦSc (caps : List (List D)) : FSpec where
  pre xs := caps = [] ∧ ∃ (f : TSchema) (n : ByteArray), xs = [.ag f.row, .d (.str n)]
  post xs r := caps = [] ∧ ∃ (f : TSchema) (n : ByteArray), xs = [.ag f.row, .d (.str n)] ∧ r = .d (.int .i64 (cmpT f.name n))
theorem cmpΦSc_of {cx : Cx} {fn : FuncId} (h : Ctr cx fn find1SSc) (caps : List (List D)) : Ctr cx fn (clo cmpΦSc caps) := by
  refine h.weaken (fun xs hx => ?_) (fun xs r hx hr => ?_) (fun _ => Nat.le_refl _) rfl
  · obtain ⟨ys, rfl, rfl, f, n, rfl⟩ := hx
    exact ⟨f, n, rfl⟩
  · obtain ⟨ys, rfl, rfl, f, n, rfl⟩ := hx
    obtain ⟨f', n', e, rfl⟩ := hr
    simp only [List.map_cons, List.map_nil, List.append_nil, List.cons.injEq, AV.dv.injEq, DV.ag.injEq, DV.d.injEq, D.str.injEq, and_true] at e
    obtain ⟨e1, rfl⟩ := e
    obtain rfl := TSchema.inj e1
    exact ⟨_, _, rfl, rfl, rfl, f, n, rfl, rfl⟩
theorem cmpΦSc_pre (f : TSchema) (n : ByteArray) : (cmpΦSc []).pre [.ag [.str f.name, .sl (TNeed.rows f.needs)], .d (.str n)] = True := eq_true ⟨rfl, f, n, rfl⟩
theorem cmpΦSc_post (f : TSchema) (n : ByteArray) (y : DV) : (cmpΦSc []).post [.ag [.str f.name, .sl (TNeed.rows f.needs)], .d (.str n)] y = (y = .d (.int .i64 (cmpT f.name n))) := by
  apply propext
  constructor
  · rintro ⟨_, f', n', e, rfl⟩
    simp only [List.cons.injEq, DV.ag.injEq, DV.d.injEq, D.str.injEq, and_true] at e
    obtain ⟨e1, rfl⟩ := e
    obtain rfl := TSchema.inj (x := f) e1
    rfl
  · rintro rfl
    exact ⟨rfl, f, n, rfl, rfl⟩
def bsSSc : Spec where
  pre xs := ∃ (l : List TSchema) (n : ByteArray), xs = [.sl (TSchema.rows l), .str n, .fv (cmpΦSc [])] ∧ ascSc l ∧ l.length ≤ 1048576
  post xs r := ∃ (l : List TSchema) (n : ByteArray) (i : Int) (b : Bool), xs = [.sl (TSchema.rows l), .str n, .fv (cmpΦSc [])] ∧ (b = true → 0 ≤ i ∧ i < l.length ∧ (l.getD i.toNat TSchema.z).name = n) ∧ (b = false → ∀ j : Nat, j < l.length → (l.getD j TSchema.z).name ≠ n) ∧ r = .tcons (.i i) (.tcons (.b b) .tnil)
  cost _ := 0
  fresh := true
theorem bsSSc_c (xs : List AV) : bsSSc.cost xs = 0 := nr rfl
theorem bsSSc_f : bsSSc.fresh = true := nr rfl
theorem bsSSc_q (l : List TSchema) (n : ByteArray) : bsSSc.pre [.sl (TSchema.rows l), .str n, .fv (cmpΦSc [])] = (ascSc l ∧ l.length ≤ 1048576) := propext ⟨fun h => by
  have h' : ∃ (l' : List TSchema) (n' : ByteArray), ([.sl (TSchema.rows l), .str n, .fv (cmpΦSc [])] : List AV) = [.sl (TSchema.rows l'), .str n', .fv (cmpΦSc [])] ∧ ascSc l' ∧ l'.length ≤ 1048576 := h
  obtain ⟨l', n', e, h1⟩ := h'
  simp only [List.cons.injEq, AV.dv.injEq, DV.d.injEq, D.sl.injEq, D.str.injEq, TSchema.rows_inj, and_true] at e
  rw [e.1]
  exact h1, fun h => ⟨l, n, rfl, h⟩⟩
theorem bsSSc_p (l : List TSchema) (n : ByteArray) : bsSSc.post [.sl (TSchema.rows l), .str n, .fv (cmpΦSc [])] = fun r => ∃ (i : Int) (b : Bool), ((b = true → 0 ≤ i ∧ i < l.length ∧ (l.getD i.toNat TSchema.z).name = n) ∧ (b = false → ∀ j : Nat, j < l.length → (l.getD j TSchema.z).name ≠ n)) ∧ r = .tcons (.i i) (.tcons (.b b) .tnil) := funext fun r => propext ⟨fun h => by
  have h' : ∃ (l' : List TSchema) (n' : ByteArray) (i : Int) (b : Bool), ([.sl (TSchema.rows l), .str n, .fv (cmpΦSc [])] : List AV) = [.sl (TSchema.rows l'), .str n', .fv (cmpΦSc [])] ∧ (b = true → 0 ≤ i ∧ i < l'.length ∧ (l'.getD i.toNat TSchema.z).name = n') ∧ (b = false → ∀ j : Nat, j < l'.length → (l'.getD j TSchema.z).name ≠ n') ∧ r = .tcons (.i i) (.tcons (.b b) .tnil) := h
  obtain ⟨l', n', i, b, e, h1, h2, h3⟩ := h'
  simp only [List.cons.injEq, AV.dv.injEq, DV.d.injEq, D.sl.injEq, D.str.injEq, TSchema.rows_inj, and_true] at e
  obtain ⟨rfl, rfl⟩ := e
  exact ⟨i, b, ⟨h1, h2⟩, h3⟩, fun ⟨i, b, ⟨h1, h2⟩, h3⟩ => ⟨l, n, i, b, rfl, h1, h2, h3⟩⟩
def ascNd (l : List TNeed) : Prop := ∀ i j : Nat, i < j → j < l.length → lessS (l.getD i TNeed.z).name (l.getD j TNeed.z).name = true
def find1SNd  : Spec where
  pre xs := ∃ (f : TNeed) (n : ByteArray), xs = [.dv (.ag f.row), .str n]
  post xs y := ∃ (f : TNeed) (n : ByteArray), xs = [.dv (.ag f.row), .str n] ∧ y = .i (cmpT f.name n)
  cost _ := 0
  fresh := true
theorem find1SNd_c  (xs : List AV) : (find1SNd).cost xs = 0 := nr rfl
theorem find1SNd_f  : (find1SNd).fresh = true := nr rfl
theorem find1SNd_q  (f : TNeed) (n : ByteArray) : (find1SNd).pre [.dv (.ag [.str f.name, .int .i64 f.kind, .bool f.must]), .str n] = (True) := propext ⟨fun h => by
  have h' : ∃ (f' : TNeed) (n' : ByteArray), ([.dv (.ag f.row), .str n] : List AV) = [.dv (.ag f'.row), .str n'] := h
  obtain ⟨f', n', e⟩ := h'
  simp only [List.cons.injEq, AV.dv.injEq, AV.dp.injEq, AV.fv.injEq, DV.d.injEq, DV.ag.injEq, D.int.injEq, D.str.injEq, D.bool.injEq, D.sl.injEq, true_and, and_true, intsDi_inj, rowsT_inj, rowsKi_inj, TNeed.row_inj, TNeed.rows_inj] at e
  obtain ⟨rfl, rfl⟩ := e
  exact trivial, fun h => ⟨f, n, rfl⟩⟩
theorem find1SNd_p  (f : TNeed) (n : ByteArray) : (find1SNd).post [.dv (.ag [.str f.name, .int .i64 f.kind, .bool f.must]), .str n] = fun y => y = .i (cmpT f.name n) := funext fun y => propext ⟨fun h => by
  have h' : ∃ (f' : TNeed) (n' : ByteArray), ([.dv (.ag f.row), .str n] : List AV) = [.dv (.ag f'.row), .str n'] ∧ y = .i (cmpT f'.name n') := h
  obtain ⟨f', n', e, h⟩ := h'
  simp only [List.cons.injEq, AV.dv.injEq, AV.dp.injEq, AV.fv.injEq, DV.d.injEq, DV.ag.injEq, D.int.injEq, D.str.injEq, D.bool.injEq, D.sl.injEq, true_and, and_true, intsDi_inj, rowsT_inj, rowsKi_inj, TNeed.row_inj, TNeed.rows_inj] at e
  obtain ⟨rfl, rfl⟩ := e
  exact h, fun h => ⟨f, n, rfl, h⟩⟩
def cmpΦNd (caps : List (List D)) : FSpec where
  pre xs := caps = [] ∧ ∃ (f : TNeed) (n : ByteArray), xs = [.ag f.row, .d (.str n)]
  post xs r := caps = [] ∧ ∃ (f : TNeed) (n : ByteArray), xs = [.ag f.row, .d (.str n)] ∧ r = .d (.int .i64 (cmpT f.name n))
theorem cmpΦNd_of {cx : Cx} {fn : FuncId} (h : Ctr cx fn find1SNd) (caps : List (List D)) : Ctr cx fn (clo cmpΦNd caps) := by
  refine h.weaken (fun xs hx => ?_) (fun xs r hx hr => ?_) (fun _ => Nat.le_refl _) rfl
  · obtain ⟨ys, rfl, rfl, f, n, rfl⟩ := hx
    exact ⟨f, n, rfl⟩
  · obtain ⟨ys, rfl, rfl, f, n, rfl⟩ := hx
    obtain ⟨f', n', e, rfl⟩ := hr
    simp only [List.map_cons, List.map_nil, List.append_nil, List.cons.injEq, AV.dv.injEq, DV.ag.injEq, DV.d.injEq, D.str.injEq, and_true] at e
    obtain ⟨e1, rfl⟩ := e
    obtain rfl := TNeed.inj e1
    exact ⟨_, _, rfl, rfl, rfl, f, n, rfl, rfl⟩
theorem cmpΦNd_pre (f : TNeed) (n : ByteArray) : (cmpΦNd []).pre [.ag [.str f.name, .int .i64 f.kind, .bool f.must], .d (.str n)] = True := eq_true ⟨rfl, f, n, rfl⟩
theorem cmpΦNd_post (f : TNeed) (n : ByteArray) (y : DV) : (cmpΦNd []).post [.ag [.str f.name, .int .i64 f.kind, .bool f.must], .d (.str n)] y = (y = .d (.int .i64 (cmpT f.name n))) := by
  apply propext
  constructor
  · rintro ⟨_, f', n', e, rfl⟩
    simp only [List.cons.injEq, DV.ag.injEq, DV.d.injEq, D.str.injEq, and_true] at e
    obtain ⟨e1, rfl⟩ := e
    obtain rfl := TNeed.inj (x := f) e1
    rfl
  · rintro rfl
    exact ⟨rfl, f, n, rfl, rfl⟩
def bsSNd : Spec where
  pre xs := ∃ (l : List TNeed) (n : ByteArray), xs = [.sl (TNeed.rows l), .str n, .fv (cmpΦNd [])] ∧ ascNd l ∧ l.length ≤ 1048576
  post xs r := ∃ (l : List TNeed) (n : ByteArray) (i : Int) (b : Bool), xs = [.sl (TNeed.rows l), .str n, .fv (cmpΦNd [])] ∧ (b = true → 0 ≤ i ∧ i < l.length ∧ (l.getD i.toNat TNeed.z).name = n) ∧ (b = false → ∀ j : Nat, j < l.length → (l.getD j TNeed.z).name ≠ n) ∧ r = .tcons (.i i) (.tcons (.b b) .tnil)
  cost _ := 0
  fresh := true
theorem bsSNd_c (xs : List AV) : bsSNd.cost xs = 0 := nr rfl
theorem bsSNd_f : bsSNd.fresh = true := nr rfl
theorem bsSNd_q (l : List TNeed) (n : ByteArray) : bsSNd.pre [.sl (TNeed.rows l), .str n, .fv (cmpΦNd [])] = (ascNd l ∧ l.length ≤ 1048576) := propext ⟨fun h => by
  have h' : ∃ (l' : List TNeed) (n' : ByteArray), ([.sl (TNeed.rows l), .str n, .fv (cmpΦNd [])] : List AV) = [.sl (TNeed.rows l'), .str n', .fv (cmpΦNd [])] ∧ ascNd l' ∧ l'.length ≤ 1048576 := h
  obtain ⟨l', n', e, h1⟩ := h'
  simp only [List.cons.injEq, AV.dv.injEq, DV.d.injEq, D.sl.injEq, D.str.injEq, TNeed.rows_inj, and_true] at e
  rw [e.1]
  exact h1, fun h => ⟨l, n, rfl, h⟩⟩
theorem bsSNd_p (l : List TNeed) (n : ByteArray) : bsSNd.post [.sl (TNeed.rows l), .str n, .fv (cmpΦNd [])] = fun r => ∃ (i : Int) (b : Bool), ((b = true → 0 ≤ i ∧ i < l.length ∧ (l.getD i.toNat TNeed.z).name = n) ∧ (b = false → ∀ j : Nat, j < l.length → (l.getD j TNeed.z).name ≠ n)) ∧ r = .tcons (.i i) (.tcons (.b b) .tnil) := funext fun r => propext ⟨fun h => by
  have h' : ∃ (l' : List TNeed) (n' : ByteArray) (i : Int) (b : Bool), ([.sl (TNeed.rows l), .str n, .fv (cmpΦNd [])] : List AV) = [.sl (TNeed.rows l'), .str n', .fv (cmpΦNd [])] ∧ (b = true → 0 ≤ i ∧ i < l'.length ∧ (l'.getD i.toNat TNeed.z).name = n') ∧ (b = false → ∀ j : Nat, j < l'.length → (l'.getD j TNeed.z).name ≠ n') ∧ r = .tcons (.i i) (.tcons (.b b) .tnil) := h
  obtain ⟨l', n', i, b, e, h1, h2, h3⟩ := h'
  simp only [List.cons.injEq, AV.dv.injEq, DV.d.injEq, D.sl.injEq, D.str.injEq, TNeed.rows_inj, and_true] at e
  obtain ⟨rfl, rfl⟩ := e
  exact ⟨i, b, ⟨h1, h2⟩, h3⟩, fun ⟨i, b, ⟨h1, h2⟩, h3⟩ => ⟨l, n, i, b, rfl, h1, h2, h3⟩⟩
theorem asc_of_stepSc {l : List TSchema} (h : ∀ i : Nat, i + 1 < l.length → lessS (l.getD i TSchema.z).name (l.getD (i + 1) TSchema.z).name = true) : ascSc l := by
  intro i j hij
  induction j with
  | zero => omega
  | succ j ih =>
    intro hj
    by_cases e : i = j
    · subst e; exact h i hj
    · exact lessS_trans (ih (by omega) (by omega)) (h j hj)
def findSc (l : List TSchema) (n : ByteArray) : Option TSchema := l.find? fun f => decide (f.name = n)
theorem asc_injSc {l : List TSchema} (h : ascSc l) {i j : Nat} (hi : i < l.length) (hj : j < l.length) (e : (l.getD i TSchema.z).name = (l.getD j TSchema.z).name) : i = j := by
  rcases Nat.lt_trichotomy i j with c | c | c
  · have := h i j c hj
    rw [e, lessS_irrefl] at this
    cases this
  · exact c
  · have := h j i c hi
    rw [e, lessS_irrefl] at this
    cases this
theorem findSc_at {l : List TSchema} (h : ascSc l) {i : Nat} (hi : i < l.length) {n : ByteArray} (e : (l.getD i TSchema.z).name = n) : findSc l n = some (l.getD i TSchema.z) := by
  unfold findSc
  cases hf : l.find? (fun f => decide (f.name = n)) with
  | none =>
    have := List.find?_eq_none.1 hf (l.getD i TSchema.z) (by rw [getD_lt hi]; exact List.getElem_mem hi)
    simp only [decide_eq_true_eq] at this
    exact absurd e this
  | some f =>
    have h1 := List.find?_some hf
    simp only [decide_eq_true_eq] at h1
    obtain ⟨j, hj, hfj⟩ := List.mem_iff_getElem.1 (List.mem_of_find?_eq_some hf)
    have h2 : l.getD j TSchema.z = f := by rw [getD_lt hj]; exact hfj
    have : i = j := asc_injSc h hi hj (by rw [e, h2, h1])
    rw [this, h2]
theorem findSc_no {l : List TSchema} {n : ByteArray} (h : ∀ i : Nat, i < l.length → (l.getD i TSchema.z).name ≠ n) : findSc l n = none := by
  unfold findSc
  rw [List.find?_eq_none]
  intro x hx
  obtain ⟨j, hj, rfl⟩ := List.mem_iff_getElem.1 hx
  have := h j hj
  rw [getD_lt hj] at this
  simpa using this
theorem asc_of_stepNd {l : List TNeed} (h : ∀ i : Nat, i + 1 < l.length → lessS (l.getD i TNeed.z).name (l.getD (i + 1) TNeed.z).name = true) : ascNd l := by
  intro i j hij
  induction j with
  | zero => omega
  | succ j ih =>
    intro hj
    by_cases e : i = j
    · subst e; exact h i hj
    · exact lessS_trans (ih (by omega) (by omega)) (h j hj)
def findNd (l : List TNeed) (n : ByteArray) : Option TNeed := l.find? fun f => decide (f.name = n)
theorem asc_injNd {l : List TNeed} (h : ascNd l) {i j : Nat} (hi : i < l.length) (hj : j < l.length) (e : (l.getD i TNeed.z).name = (l.getD j TNeed.z).name) : i = j := by
  rcases Nat.lt_trichotomy i j with c | c | c
  · have := h i j c hj
    rw [e, lessS_irrefl] at this
    cases this
  · exact c
  · have := h j i c hi
    rw [e, lessS_irrefl] at this
    cases this
theorem findNd_at {l : List TNeed} (h : ascNd l) {i : Nat} (hi : i < l.length) {n : ByteArray} (e : (l.getD i TNeed.z).name = n) : findNd l n = some (l.getD i TNeed.z) := by
  unfold findNd
  cases hf : l.find? (fun f => decide (f.name = n)) with
  | none =>
    have := List.find?_eq_none.1 hf (l.getD i TNeed.z) (by rw [getD_lt hi]; exact List.getElem_mem hi)
    simp only [decide_eq_true_eq] at this
    exact absurd e this
  | some f =>
    have h1 := List.find?_some hf
    simp only [decide_eq_true_eq] at h1
    obtain ⟨j, hj, hfj⟩ := List.mem_iff_getElem.1 (List.mem_of_find?_eq_some hf)
    have h2 : l.getD j TNeed.z = f := by rw [getD_lt hj]; exact hfj
    have : i = j := asc_injNd h hi hj (by rw [e, h2, h1])
    rw [this, h2]
theorem findNd_no {l : List TNeed} {n : ByteArray} (h : ∀ i : Nat, i < l.length → (l.getD i TNeed.z).name ≠ n) : findNd l n = none := by
  unfold findNd
  rw [List.find?_eq_none]
  intro x hx
  obtain ⟨j, hj, rfl⟩ := List.mem_iff_getElem.1 hx
  have := h j hj
  rw [getD_lt hj] at this
  simpa using this
end Go.Avc

/- Events by themselves and by schemas: what is wrong with them, by the program and by the reference. No condition. -/
set_option linter.unusedVariables false
set_option linter.unusedSimpArgs false
set_option maxRecDepth 100000
namespace Go.Avc
open Go Go.Proofs

/-! ### An event by itself -/
def evF (e : TEvent) : Int := if keyB e.id = false ∨ keyB e.name = false then 5 else if inB e.at_ 0 4321439 = false then 1 else orE (idF e.who) (fieldsF e.fields)
def evS  : Spec where
  pre xs := ∃ (e : TEvent), xs = [.dv (.ag e.row)] ∧ (e.ok)
  post xs y := ∃ (e : TEvent), xs = [.dv (.ag e.row)] ∧ y = .i (evF e)
  cost _ := 0
  fresh := true
theorem evS_c  (xs : List AV) : (evS).cost xs = 0 := nr rfl
theorem evS_f  : (evS).fresh = true := nr rfl
theorem evS_q  (e : TEvent) : (evS).pre [.dv (.ag [.str e.id, .str e.name, .int .i64 e.at_, .int .i64 e.who.kind, .str e.who.text, .sl (TField.rows e.fields)])] = (e.ok) := propext ⟨fun h => by
  have h' : ∃ (e' : TEvent), ([.dv (.ag e.row)] : List AV) = [.dv (.ag e'.row)] ∧ (e'.ok) := h
  obtain ⟨e', e, h⟩ := h'
  simp only [List.cons.injEq, AV.dv.injEq, AV.dp.injEq, AV.fv.injEq, DV.d.injEq, DV.ag.injEq, D.int.injEq, D.str.injEq, D.bool.injEq, D.sl.injEq, true_and, and_true, intsDi_inj, rowsT_inj, rowsKi_inj, TEvent.row_inj, TEvent.rows_inj] at e
  obtain rfl := e
  exact h, fun h => ⟨e, rfl, h⟩⟩
theorem evS_p  (e : TEvent) : (evS).post [.dv (.ag [.str e.id, .str e.name, .int .i64 e.at_, .int .i64 e.who.kind, .str e.who.text, .sl (TField.rows e.fields)])] = fun y => y = .i (evF e) := funext fun y => propext ⟨fun h => by
  have h' : ∃ (e' : TEvent), ([.dv (.ag e.row)] : List AV) = [.dv (.ag e'.row)] ∧ y = .i (evF e') := h
  obtain ⟨e', e, h⟩ := h'
  simp only [List.cons.injEq, AV.dv.injEq, AV.dp.injEq, AV.fv.injEq, DV.d.injEq, DV.ag.injEq, D.int.injEq, D.str.injEq, D.bool.injEq, D.sl.injEq, true_and, and_true, intsDi_inj, rowsT_inj, rowsKi_inj, TEvent.row_inj, TEvent.rows_inj] at e
  obtain rfl := e
  exact h, fun h => ⟨e, rfl, h⟩⟩
theorem evF_5 {e : TEvent} (c : keyB e.id = false ∨ keyB e.name = false) : evF e = 5 := if_pos c
theorem evF_n {e : TEvent} (a : keyB e.id = true) (b : keyB e.name = true) : evF e = if inB e.at_ 0 4321439 = false then 1 else orE (idF e.who) (fieldsF e.fields) := if_neg fun c => c.elim (ne_ft a) (ne_ft b)
set_option maxHeartbeats 2000000 in
theorem CheckOne_ctr {cx : Cx} (h : Seat cx) (hU : Utf8 cx) (hM : MaxL cx) : Ctr cx 74 evS := by
  refine ctr_of (fn := Tryz.f74) (l := [.tmp 2]) (envL [(90, (strB keyB)), (56, inS), (79, idS), (117, fieldsS)]) [0, 1, 2, 3, 4, 15, 24] [] [] (envL_cons (IsKey_ctr h) (envL_cons (ewithin_ctr h) (envL_cons (CheckId_ctr h hM) (envL_cons (CheckFields_ctr h hU) (env0 h.hP))))) ?_ (by rw [h.hP]; exact Tryz.func74) rfl (by kernel_rfl) rfl ?_ ?_
  · rw [h.hP]; exact ⟨_, Tryz.func74, by kernel_rfl, by kernel_rfl⟩
  · rintro xs ⟨e, rfl, h1⟩; exact ⟨_, e, rfl, rfl⟩
  · rintro xs ⟨e, rfl, h1⟩
    refine ⟨by rw [Tryz.ntmps74]; simp, ?_⟩
    simp only [go_sem, h.hP, List.cons_append, List.nil_append, Meets_e, Below_e, Prod.exists, exists_eq, exists_eq_left, exists_eq_left', exists_eq_right, exists_eq_right', exists_and_left, exists_and_right, Ob.arr.injEq, AV.own.injEq, AV.fv.injEq, evS_q, evS_p, evS_c, evS_f, strB_q, strB_p, strB_c, strB_f, inS_q, inS_p, inS_c, inS_f, idS_q, idS_p, idS_c, idS_f, fieldsS_q, fieldsS_p, fieldsS_c, fieldsS_f, TEvent.row, TId.row, Tryz.ntmps74, Nat.reduceEqDiff, reduceCtorEq, Nat.reduceMul, Nat.reduceAdd, Nat.reduceSub, Nat.reduceDiv, Nat.reduceMod, Nat.reduceLeDiff, Nat.reduceLT, Nat.reduceBNe, Nat.reduceBEq, reduceIte, Int.reduceLE, Int.reduceLT, Int.reduceToNat, Int.reduceNeg, Int.reduceAdd, Int.reduceSub, Int.reduceMul, Int.reduceEq]
    obtain ⟨o1, o2, o3, o4, o5⟩ := h1
    unfold okS at o1 o2
    refine ⟨by omega, fun a => ⟨by omega, fun b => (evF_5 (.inr b)).symm, fun b => ?_⟩, fun a => (evF_5 (.inl a)).symm⟩
    rw [evF_n a b]
    exact ⟨fun c => (if_pos c).symm, fun c => ⟨o4, fun d => ((if_neg (ne_ft c)).trans (orE_l d)).symm, fun d => ⟨o5, ((if_neg (ne_ft c)).trans (orE_r d)).symm⟩⟩⟩
def idOf (e : TEvent) : Int := idF e.who
def fieldsOf (e : TEvent) : Int := fieldsF e.fields
theorem ev1_ctr {cx : Cx} (h : Seat cx) (hM : MaxL cx) : Ctr cx 122 (c1S TEvent.row TEvent.ok idOf) := by
  refine ctr_of (fn := Tryz.f122) (l := [.tmp 1]) (envL [(36, idS)]) [0, 1] [] [] (envL_cons (IdFault_ctr h hM) (env0 h.hP)) ?_ (by rw [h.hP]; exact Tryz.func122) rfl (by kernel_rfl) rfl ?_ ?_
  · rw [h.hP]; exact ⟨_, Tryz.func122, by kernel_rfl, by kernel_rfl⟩
  · rintro xs ⟨e, rfl, h1⟩; exact ⟨_, e, rfl, rfl⟩
  · rintro xs ⟨e, rfl, h1⟩
    refine ⟨by rw [Tryz.ntmps122]; simp, ?_⟩
    simp only [go_sem, h.hP, List.cons_append, List.nil_append, Meets_e, Below_e, Prod.exists, exists_eq, exists_eq_left, exists_eq_left', exists_eq_right, exists_eq_right', exists_and_left, exists_and_right, Ob.arr.injEq, AV.own.injEq, AV.fv.injEq, idS_q, idS_p, idS_c, idS_f, c1S_c, c1S_f, TEvent.row, TId.row, Tryz.ntmps122, Nat.reduceEqDiff, reduceCtorEq, Nat.reduceMul, Nat.reduceAdd, Nat.reduceSub, Nat.reduceDiv, Nat.reduceMod, Nat.reduceLeDiff, Nat.reduceLT, Nat.reduceBNe, Nat.reduceBEq, reduceIte, Int.reduceLE, Int.reduceLT, Int.reduceToNat, Int.reduceNeg, Int.reduceAdd, Int.reduceSub, Int.reduceMul, Int.reduceEq]
    exact ⟨h1.2.2.2.1, e, rfl, rfl⟩
theorem ev2_ctr {cx : Cx} (h : Seat cx) (hU : Utf8 cx) : Ctr cx 123 (c1S TEvent.row TEvent.ok fieldsOf) := by
  refine ctr_of (fn := Tryz.f123) (l := [.tmp 1]) (envL [(124, fieldsS)]) [0, 1] [] [] (envL_cons (FieldsFault_ctr h hU) (env0 h.hP)) ?_ (by rw [h.hP]; exact Tryz.func123) rfl (by kernel_rfl) rfl ?_ ?_
  · rw [h.hP]; exact ⟨_, Tryz.func123, by kernel_rfl, by kernel_rfl⟩
  · rintro xs ⟨e, rfl, h1⟩; exact ⟨_, e, rfl, rfl⟩
  · rintro xs ⟨e, rfl, h1⟩
    refine ⟨by rw [Tryz.ntmps123]; simp, ?_⟩
    simp only [go_sem, h.hP, List.cons_append, List.nil_append, Meets_e, Below_e, Prod.exists, exists_eq, exists_eq_left, exists_eq_left', exists_eq_right, exists_eq_right', exists_and_left, exists_and_right, Ob.arr.injEq, AV.own.injEq, AV.fv.injEq, fieldsS_q, fieldsS_p, fieldsS_c, fieldsS_f, c1S_c, c1S_f, TEvent.row, TId.row, Tryz.ntmps123, Nat.reduceEqDiff, reduceCtorEq, Nat.reduceMul, Nat.reduceAdd, Nat.reduceSub, Nat.reduceDiv, Nat.reduceMod, Nat.reduceLeDiff, Nat.reduceLT, Nat.reduceBNe, Nat.reduceBEq, reduceIte, Int.reduceLE, Int.reduceLT, Int.reduceToNat, Int.reduceNeg, Int.reduceAdd, Int.reduceSub, Int.reduceMul, Int.reduceEq]
    exact ⟨h1.2.2.2.2, e, rfl, rfl⟩
set_option maxHeartbeats 2000000 in
theorem eventFault_ctr {cx : Cx} (h : Seat cx) (hU : Utf8 cx) (hM : MaxL cx) : Ctr cx 76 evS := by
  refine ctr_of (fn := Tryz.f76) (l := [.tmp 2]) (envF [(65, (strB keyB)), (57, inS)] [(122, (c1Φ TEvent.row TEvent.ok idOf)), (123, (c1Φ TEvent.row TEvent.ok fieldsOf))]) [0, 1, 2, 3, 14] [] [(5, [], [])] (envF_cons (c1_of TEvent.inj (ev1_ctr h hM)) (envF_cons (c1_of TEvent.inj (ev2_ctr h hU)) (envF_nil (envL_cons (Key_ctr h) (envL_cons (in_ctr h) (env0 h.hP)))))) ?_ (by rw [h.hP]; exact Tryz.func76) rfl (by kernel_rfl) rfl ?_ ?_
  · rw [h.hP]; exact ⟨_, Tryz.func76, by kernel_rfl, by kernel_rfl⟩
  · rintro xs ⟨e, rfl, h1⟩; exact ⟨_, e, rfl, rfl⟩
  · rintro xs ⟨e, rfl, h1⟩
    refine ⟨by rw [Tryz.ntmps76]; simp, ?_⟩
    have q1 : (c1Φ TEvent.row TEvent.ok idOf [[.str e.id, .str e.name, .int .i64 e.at_, .int .i64 e.who.kind, .str e.who.text, .sl (TField.rows e.fields)]]).pre [] = e.ok := c1_pre (row := TEvent.row) TEvent.inj e
    have p1 : ∀ y, (c1Φ TEvent.row TEvent.ok idOf [[.str e.id, .str e.name, .int .i64 e.at_, .int .i64 e.who.kind, .str e.who.text, .sl (TField.rows e.fields)]]).post [] y = (y = .d (.int .i64 (idOf e))) := c1_post (row := TEvent.row) TEvent.inj e
    have q2 : (c1Φ TEvent.row TEvent.ok fieldsOf [[.str e.id, .str e.name, .int .i64 e.at_, .int .i64 e.who.kind, .str e.who.text, .sl (TField.rows e.fields)]]).pre [] = e.ok := c1_pre (row := TEvent.row) TEvent.inj e
    have p2 : ∀ y, (c1Φ TEvent.row TEvent.ok fieldsOf [[.str e.id, .str e.name, .int .i64 e.at_, .int .i64 e.who.kind, .str e.who.text, .sl (TField.rows e.fields)]]).post [] y = (y = .d (.int .i64 (fieldsOf e))) := c1_post (row := TEvent.row) TEvent.inj e
    simp only [go_sem, h.hP, List.cons_append, List.nil_append, Meets_e, Below_e, Prod.exists, exists_eq, exists_eq_left, exists_eq_left', exists_eq_right, exists_eq_right', exists_and_left, exists_and_right, Ob.arr.injEq, AV.own.injEq, AV.fv.injEq, evS_q, evS_p, evS_c, evS_f, strB_q, strB_p, strB_c, strB_f, inS_q, inS_p, inS_c, inS_f, q1, p1, q2, p2, TEvent.row, DV.d.injEq, D.int.injEq, Tryz.ntmps76, Nat.reduceEqDiff, reduceCtorEq, Nat.reduceMul, Nat.reduceAdd, Nat.reduceSub, Nat.reduceDiv, Nat.reduceMod, Nat.reduceLeDiff, Nat.reduceLT, Nat.reduceBNe, Nat.reduceBEq, reduceIte, Int.reduceLE, Int.reduceLT, Int.reduceToNat, Int.reduceNeg, Int.reduceAdd, Int.reduceSub, Int.reduceMul, Int.reduceEq]
    obtain ⟨o1, o2, o3, o4, o5⟩ := id h1
    unfold okS at o1 o2
    refine ⟨by omega, fun a => ⟨by omega, fun b => (evF_5 (.inr b)).symm, fun b => ?_⟩, fun a => (evF_5 (.inl a)).symm⟩
    rw [evF_n a b]
    exact ⟨fun c => (if_pos c).symm, fun c => ⟨h1, fun d => ((if_neg (ne_ft c)).trans (orE_l d)).symm, fun d => ⟨h1, fun f => ((if_neg (ne_ft c)).trans (orE_r d)).symm, fun f => (((if_neg (ne_ft c)).trans (orE_r d)).trans f).symm⟩⟩⟩
end Go.Avc

/- Lists of events: what is wrong with them, by the program and by the reference. No condition. -/
set_option linter.unusedVariables false
set_option linter.unusedSimpArgs false
set_option maxRecDepth 100000
namespace Go.Avc
open Go Go.Proofs

/-! ### The order of events -/
def befB (a b : TEvent) : Bool := decide (a.at_ < b.at_ ∨ (a.at_ = b.at_ ∧ lessS a.id b.id = true))
def eordF (a b : TEvent) : Int := if a.at_ < b.at_ then -1 else if a.at_ > b.at_ then 1 else cmpT a.id b.id
theorem eord_neg (a b : TEvent) : (0 ≤ eordF a b) = (befB a b = false) := by
  apply propext
  unfold eordF befB cmpT
  rw [decide_eq_false_iff_not]
  by_cases h1 : a.at_ < b.at_
  · rw [if_pos h1]; exact ⟨fun h => absurd h (by decide), fun h => absurd (.inl h1) h⟩
  · rw [if_neg h1]
    by_cases h2 : a.at_ > b.at_
    · rw [if_pos h2]; exact ⟨fun _ h => by omega, fun _ => by decide⟩
    · rw [if_neg h2]
      have h3 : a.at_ = b.at_ := by omega
      by_cases h4 : lessS a.id b.id = true
      · rw [if_pos h4]; exact ⟨fun h => absurd h (by decide), fun h => absurd (.inr ⟨h3, h4⟩) h⟩
      · rw [if_neg h4]
        refine ⟨fun _ h => h.elim h1 (fun h => h4 h.2), fun _ => ?_⟩
        split <;> decide
def eordS  : Spec where
  pre xs := ∃ (a : TEvent) (b : TEvent), xs = [.dv (.ag a.row), .dv (.ag b.row)]
  post xs y := ∃ (a : TEvent) (b : TEvent), xs = [.dv (.ag a.row), .dv (.ag b.row)] ∧ y = .i (eordF a b)
  cost _ := 0
  fresh := true
theorem eordS_c  (xs : List AV) : (eordS).cost xs = 0 := nr rfl
theorem eordS_f  : (eordS).fresh = true := nr rfl
theorem eordS_q  (a : TEvent) (b : TEvent) : (eordS).pre [.dv (.ag [.str a.id, .str a.name, .int .i64 a.at_, .int .i64 a.who.kind, .str a.who.text, .sl (TField.rows a.fields)]), .dv (.ag [.str b.id, .str b.name, .int .i64 b.at_, .int .i64 b.who.kind, .str b.who.text, .sl (TField.rows b.fields)])] = (True) := propext ⟨fun h => by
  have h' : ∃ (a' : TEvent) (b' : TEvent), ([.dv (.ag a.row), .dv (.ag b.row)] : List AV) = [.dv (.ag a'.row), .dv (.ag b'.row)] := h
  obtain ⟨a', b', e⟩ := h'
  simp only [List.cons.injEq, AV.dv.injEq, AV.dp.injEq, AV.fv.injEq, DV.d.injEq, DV.ag.injEq, D.int.injEq, D.str.injEq, D.bool.injEq, D.sl.injEq, true_and, and_true, intsDi_inj, rowsT_inj, rowsKi_inj, TEvent.row_inj, TEvent.rows_inj, TEvent.row_inj, TEvent.rows_inj] at e
  obtain ⟨rfl, rfl⟩ := e
  exact trivial, fun h => ⟨a, b, rfl⟩⟩
theorem eordS_p  (a : TEvent) (b : TEvent) : (eordS).post [.dv (.ag [.str a.id, .str a.name, .int .i64 a.at_, .int .i64 a.who.kind, .str a.who.text, .sl (TField.rows a.fields)]), .dv (.ag [.str b.id, .str b.name, .int .i64 b.at_, .int .i64 b.who.kind, .str b.who.text, .sl (TField.rows b.fields)])] = fun y => y = .i (eordF a b) := funext fun y => propext ⟨fun h => by
  have h' : ∃ (a' : TEvent) (b' : TEvent), ([.dv (.ag a.row), .dv (.ag b.row)] : List AV) = [.dv (.ag a'.row), .dv (.ag b'.row)] ∧ y = .i (eordF a' b') := h
  obtain ⟨a', b', e, h⟩ := h'
  simp only [List.cons.injEq, AV.dv.injEq, AV.dp.injEq, AV.fv.injEq, DV.d.injEq, DV.ag.injEq, D.int.injEq, D.str.injEq, D.bool.injEq, D.sl.injEq, true_and, and_true, intsDi_inj, rowsT_inj, rowsKi_inj, TEvent.row_inj, TEvent.rows_inj, TEvent.row_inj, TEvent.rows_inj] at e
  obtain ⟨rfl, rfl⟩ := e
  exact h, fun h => ⟨a, b, rfl, h⟩⟩
theorem EOrder_ctr {cx : Cx} (h : Seat cx) : Ctr cx 75 eordS := by
  refine ctr_of (fn := Tryz.f75) (l := [.tmp 4]) (envL [(119, cmpISp), (120, cmpTSp), (118, orSp)]) [0, 1, 2, 3, 4] [] [] (envL_cons (compareI_ctr h) (envL_cons (compareT_ctr h) (envL_cons (or_ctr h) (env0 h.hP)))) ?_ (by rw [h.hP]; exact Tryz.func75) rfl (by kernel_rfl) rfl ?_ ?_
  · rw [h.hP]; exact ⟨_, Tryz.func75, by kernel_rfl, by kernel_rfl⟩
  · rintro xs ⟨a, b, rfl⟩; exact ⟨_, a, b, rfl, rfl⟩
  · rintro xs ⟨a, b, rfl⟩
    refine ⟨by rw [Tryz.ntmps75]; simp, ?_⟩
    simp only [go_sem, h.hP, List.cons_append, List.nil_append, Meets_e, Below_e, Prod.exists, exists_eq, exists_eq_left, exists_eq_left', exists_eq_right, exists_eq_right', exists_and_left, exists_and_right, Ob.arr.injEq, AV.own.injEq, AV.fv.injEq, eordS_q, eordS_p, eordS_c, eordS_f, cmpISp_q, cmpISp_p, cmpISp_c, cmpISp_f, cmpTSp_q, cmpTSp_p, cmpTSp_c, cmpTSp_f, orSp_q, orSp_p, orSp_c, orSp_f, TEvent.row, ints1, intsc, Tryz.ntmps75, Nat.reduceEqDiff, reduceCtorEq, Nat.reduceMul, Nat.reduceAdd, Nat.reduceSub, Nat.reduceDiv, Nat.reduceMod, Nat.reduceLeDiff, Nat.reduceLT, Nat.reduceBNe, Nat.reduceBEq, reduceIte, Int.reduceLE, Int.reduceLT, Int.reduceToNat, Int.reduceNeg, Int.reduceAdd, Int.reduceSub, Int.reduceMul, Int.reduceEq]
    rw [or_two]
    unfold eordF cmpI
    by_cases c1 : a.at_ < b.at_
    · rw [if_pos c1, if_pos c1]; rfl
    · rw [if_neg c1, if_neg c1]
      by_cases c2 : a.at_ > b.at_
      · rw [if_pos c2, if_pos c2]; rfl
      · rw [if_neg c2, if_neg c2]; rfl
def befS  : Spec where
  pre xs := ∃ (a : TEvent) (b : TEvent), xs = [.dv (.ag a.row), .dv (.ag b.row)]
  post xs y := ∃ (a : TEvent) (b : TEvent), xs = [.dv (.ag a.row), .dv (.ag b.row)] ∧ y = .b (befB a b)
  cost _ := 0
  fresh := true
theorem befS_c  (xs : List AV) : (befS).cost xs = 0 := nr rfl
theorem befS_f  : (befS).fresh = true := nr rfl
theorem befS_q  (a : TEvent) (b : TEvent) : (befS).pre [.dv (.ag [.str a.id, .str a.name, .int .i64 a.at_, .int .i64 a.who.kind, .str a.who.text, .sl (TField.rows a.fields)]), .dv (.ag [.str b.id, .str b.name, .int .i64 b.at_, .int .i64 b.who.kind, .str b.who.text, .sl (TField.rows b.fields)])] = (True) := propext ⟨fun h => by
  have h' : ∃ (a' : TEvent) (b' : TEvent), ([.dv (.ag a.row), .dv (.ag b.row)] : List AV) = [.dv (.ag a'.row), .dv (.ag b'.row)] := h
  obtain ⟨a', b', e⟩ := h'
  simp only [List.cons.injEq, AV.dv.injEq, AV.dp.injEq, AV.fv.injEq, DV.d.injEq, DV.ag.injEq, D.int.injEq, D.str.injEq, D.bool.injEq, D.sl.injEq, true_and, and_true, intsDi_inj, rowsT_inj, rowsKi_inj, TEvent.row_inj, TEvent.rows_inj, TEvent.row_inj, TEvent.rows_inj] at e
  obtain ⟨rfl, rfl⟩ := e
  exact trivial, fun h => ⟨a, b, rfl⟩⟩
theorem befS_p  (a : TEvent) (b : TEvent) : (befS).post [.dv (.ag [.str a.id, .str a.name, .int .i64 a.at_, .int .i64 a.who.kind, .str a.who.text, .sl (TField.rows a.fields)]), .dv (.ag [.str b.id, .str b.name, .int .i64 b.at_, .int .i64 b.who.kind, .str b.who.text, .sl (TField.rows b.fields)])] = fun y => y = .b (befB a b) := funext fun y => propext ⟨fun h => by
  have h' : ∃ (a' : TEvent) (b' : TEvent), ([.dv (.ag a.row), .dv (.ag b.row)] : List AV) = [.dv (.ag a'.row), .dv (.ag b'.row)] ∧ y = .b (befB a' b') := h
  obtain ⟨a', b', e, h⟩ := h'
  simp only [List.cons.injEq, AV.dv.injEq, AV.dp.injEq, AV.fv.injEq, DV.d.injEq, DV.ag.injEq, D.int.injEq, D.str.injEq, D.bool.injEq, D.sl.injEq, true_and, and_true, intsDi_inj, rowsT_inj, rowsKi_inj, TEvent.row_inj, TEvent.rows_inj, TEvent.row_inj, TEvent.rows_inj] at e
  obtain ⟨rfl, rfl⟩ := e
  exact h, fun h => ⟨a, b, rfl, h⟩⟩
theorem before_ctr {cx : Cx} (h : Seat cx) : Ctr cx 77 befS := by
  refine ctr_of (fn := Tryz.f77) (l := [.tmp 4]) (envL []) [0, 1, 2, 3, 4] [] [] (env0 h.hP) ?_ (by rw [h.hP]; exact Tryz.func77) rfl (by kernel_rfl) rfl ?_ ?_
  · rw [h.hP]; exact ⟨_, Tryz.func77, by kernel_rfl, by kernel_rfl⟩
  · rintro xs ⟨a, b, rfl⟩; exact ⟨_, a, b, rfl, rfl⟩
  · rintro xs ⟨a, b, rfl⟩
    refine ⟨by rw [Tryz.ntmps77]; simp, ?_⟩
    simp only [go_sem, h.hP, List.cons_append, List.nil_append, Meets_e, Below_e, Prod.exists, exists_eq, exists_eq_left, exists_eq_left', exists_eq_right, exists_eq_right', exists_and_left, exists_and_right, Ob.arr.injEq, AV.own.injEq, AV.fv.injEq, befS_q, befS_p, befS_c, befS_f, TEvent.row, Tryz.ntmps77, Nat.reduceEqDiff, reduceCtorEq, Nat.reduceMul, Nat.reduceAdd, Nat.reduceSub, Nat.reduceDiv, Nat.reduceMod, Nat.reduceLeDiff, Nat.reduceLT, Nat.reduceBNe, Nat.reduceBEq, reduceIte, Int.reduceLE, Int.reduceLT, Int.reduceToNat, Int.reduceNeg, Int.reduceAdd, Int.reduceSub, Int.reduceMul, Int.reduceEq]
    have e : befB a b = decide (a.at_ < b.at_ ∨ (a.at_ = b.at_ ∧ Op.bytesLess a.id.toList b.id.toList = true)) := rfl
    rw [e]
    generalize Op.bytesLess a.id.toList b.id.toList = q
    refine ⟨fun c => ⟨fun d => ?_, fun d => (decide_eq_false fun z => z.elim c fun z => d z.1).symm⟩, fun c => (decide_eq_true (.inl c)).symm⟩
    cases q with
    | false => exact (decide_eq_false fun z => z.elim c fun z => Bool.false_ne_true z.2).symm
    | true => exact (decide_eq_true (.inr ⟨d, rfl⟩)).symm

/-! ### Ids that were seen -/
def hasId (l : List TEvent) (s : ByteArray) : Bool := l.any fun e => decide (e.id = s)
def seenM (l : List TEvent) : List (D × D) := l.map fun e => (.str e.id, .bool true)
theorem mget_seen (l : List TEvent) (s : ByteArray) : (mget (seenM l) (.str s)).getD (.bool false) = .bool (hasId l s) := by
  induction l with
  | nil => rfl
  | cons e r ih =>
    show ((if decide (e.id = s) = true then some (D.bool true) else mget (seenM r) (.str s)).getD (.bool false)) = .bool (decide (e.id = s) || hasId r s)
    by_cases h : e.id = s
    · rw [decide_eq_true h]; rfl
    · rw [decide_eq_false h, Bool.false_or]; exact ih
theorem mput_seen {l : List TEvent} {s : ByteArray} (h : hasId l s = false) : mput (seenM l) (.str s) (.bool true) = seenM l ++ [(.str s, .bool true)] := by
  induction l with
  | nil => rfl
  | cons e r ih =>
    have h' : (decide (e.id = s) || hasId r s) = false := h
    rw [Bool.or_eq_false_iff] at h'
    show (if decide (e.id = s) = true then ((D.str s, D.bool true) :: seenM r) else (D.str e.id, D.bool true) :: mput (seenM r) (.str s) (.bool true)) = _
    rw [h'.1, ih h'.2]
    rfl
theorem seen_step {l : List TEvent} {i : Int} (h0 : 0 ≤ i) (hi : i < l.length) (h : hasId (l.take i.toNat) (l.getD i.toNat TEvent.z).id = false) : mput (seenM (l.take i.toNat)) (.str (l.getD i.toNat TEvent.z).id) (.bool true) = seenM (l.take (i + 1).toNat) := by
  rw [mput_seen h]
  have hi' : i.toNat < l.length := by omega
  rw [show (i + 1).toNat = i.toNat + 1 by omega, List.take_add_one, List.getElem?_eq_getElem hi']
  unfold seenM
  rw [List.map_append, List.getD_eq_getElem?_getD, List.getElem?_eq_getElem hi']
  rfl
def evE (l : List TEvent) (i : Nat) : Int := if evF (l.getD i TEvent.z) ≠ 0 then evF (l.getD i TEvent.z) else if 0 < (i : Int) ∧ befB (l.getD (i - 1) TEvent.z) (l.getD i TEvent.z) = false then 7 else if hasId (l.take i) (l.getD i TEvent.z).id = true then 6 else 0
def eventsF (l : List TEvent) : Int := if 5000 < (l.length : Int) then 2 else firstI l.length (evE l)
theorem evE_i (l : List TEvent) {i : Int} (hi : 0 ≤ i) : evE l i.toNat = if evF (l.getD i.toNat TEvent.z) ≠ 0 then evF (l.getD i.toNat TEvent.z) else if 0 < i ∧ befB (l.getD (i - 1).toNat TEvent.z) (l.getD i.toNat TEvent.z) = false then 7 else if hasId (l.take i.toNat) (l.getD i.toNat TEvent.z).id = true then 6 else 0 := by
  unfold evE
  rw [Int.toNat_of_nonneg hi, show i.toNat - 1 = (i - 1).toNat by omega]
def eventsS  : Spec where
  pre xs := ∃ (l : List TEvent), xs = [.sl (TEvent.rows l)] ∧ (okL TEvent.ok l)
  post xs y := ∃ (l : List TEvent), xs = [.sl (TEvent.rows l)] ∧ y = .i (eventsF l)
  cost _ := 0
  fresh := true
theorem eventsS_c  (xs : List AV) : (eventsS).cost xs = 0 := nr rfl
theorem eventsS_f  : (eventsS).fresh = true := nr rfl
theorem eventsS_q  (l : List TEvent) : (eventsS).pre [.sl (TEvent.rows l)] = (okL TEvent.ok l) := propext ⟨fun h => by
  have h' : ∃ (l' : List TEvent), ([.sl (TEvent.rows l)] : List AV) = [.sl (TEvent.rows l')] ∧ (okL TEvent.ok l') := h
  obtain ⟨l', e, h⟩ := h'
  simp only [List.cons.injEq, AV.dv.injEq, AV.dp.injEq, AV.fv.injEq, DV.d.injEq, DV.ag.injEq, D.int.injEq, D.str.injEq, D.bool.injEq, D.sl.injEq, true_and, and_true, intsDi_inj, rowsT_inj, rowsKi_inj, TEvent.row_inj, TEvent.rows_inj] at e
  obtain rfl := e
  exact h, fun h => ⟨l, rfl, h⟩⟩
theorem eventsS_p  (l : List TEvent) : (eventsS).post [.sl (TEvent.rows l)] = fun y => y = .i (eventsF l) := funext fun y => propext ⟨fun h => by
  have h' : ∃ (l' : List TEvent), ([.sl (TEvent.rows l)] : List AV) = [.sl (TEvent.rows l')] ∧ y = .i (eventsF l') := h
  obtain ⟨l', e, h⟩ := h'
  simp only [List.cons.injEq, AV.dv.injEq, AV.dp.injEq, AV.fv.injEq, DV.d.injEq, DV.ag.injEq, D.int.injEq, D.str.injEq, D.bool.injEq, D.sl.injEq, true_and, and_true, intsDi_inj, rowsT_inj, rowsKi_inj, TEvent.row_inj, TEvent.rows_inj] at e
  obtain rfl := e
  exact h, fun h => ⟨l, rfl, h⟩⟩
theorem check_round {l : List TEvent} (h1 : okL TEvent.ok l) {i : Int} (hr : Rounds l.length (evE l) i) : 0 ≤ i ∧ (0 < i → i < l.length → IntKind.i64.wrap (i - 1) = i - 1) ∧
    (i < l.length → ¬ evF (l.getD i.toNat TEvent.z) = 0 → evF (l.getD i.toNat TEvent.z) = firstI l.length (evE l)) ∧
    (i < l.length → evF (l.getD i.toNat TEvent.z) = 0 → 0 < i → befB (l.getD (i - 1).toNat TEvent.z) (l.getD i.toNat TEvent.z) = false → 7 = firstI l.length (evE l)) ∧
    (i < l.length → evF (l.getD i.toNat TEvent.z) = 0 → (0 < i → befB (l.getD (i - 1).toNat TEvent.z) (l.getD i.toNat TEvent.z) = true) → hasId (l.take i.toNat) (l.getD i.toNat TEvent.z).id = true → 6 = firstI l.length (evE l)) ∧
    (i < l.length → evF (l.getD i.toNat TEvent.z) = 0 → (0 < i → befB (l.getD (i - 1).toNat TEvent.z) (l.getD i.toNat TEvent.z) = true) → hasId (l.take i.toNat) (l.getD i.toNat TEvent.z).id = false →
      mput (seenM (l.take i.toNat)) (.str (l.getD i.toNat TEvent.z).id) (.bool true) = seenM (l.take (IntKind.i64.wrap (i + 1)).toNat) ∧ Rounds l.length (evE l) (IntKind.i64.wrap (i + 1)) ∧ ((l.length : Int) - IntKind.i64.wrap (i + 1)).toNat < ((l.length : Int) - i).toNat) ∧
    (¬ i < l.length → 0 = firstI l.length (evE l)) := by
  have hl := h1.1
  obtain ⟨hi, hS, hM, hE, hN⟩ := hr.use (by omega)
  have e0 := evE_i l hi
  have e1 : evF (l.getD i.toNat TEvent.z) = 0 → (0 < i → befB (l.getD (i - 1).toNat TEvent.z) (l.getD i.toNat TEvent.z) = true) → evE l i.toNat = if hasId (l.take i.toNat) (l.getD i.toNat TEvent.z).id = true then 6 else 0 := fun b d => by
    rw [e0, if_neg (fun z => z b), if_neg (fun z => ne_tf z.2 (d z.1))]
  refine ⟨hi, fun a b => i64w (by omega) (by omega), fun a b => (hE _ a (e0.trans (if_pos b)) b).symm, fun a b c d => (hE 7 a ?_ (by decide)).symm, fun a b c d => (hE 6 a ((e1 b c).trans (if_pos d)) (by decide)).symm, fun a b c d => ?_, fun a => (hN a).symm⟩
  · rw [e0, if_neg (fun z => z b), if_pos ⟨c, d⟩]
  · have hw : IntKind.i64.wrap (i + 1) = i + 1 := i64w (by omega) (by omega)
    refine ⟨?_, hS a ((e1 b c).trans (if_neg (ne_tf d))), hM a⟩
    rw [hw]
    exact seen_step hi a d
set_option maxHeartbeats 4000000 in
theorem ECheck_ctr {cx : Cx} (h : Seat cx) (hU : Utf8 cx) (hM : MaxL cx) : Ctr cx 32 eventsS := by
  refine ctr_of (fn := Tryz.f32) (l := [.tmp 2]) (envL [(74, evS), (75, eordS)]) [0, 2, 3, 4, 5, 6, 9, 11, 12, 13, 14, 21, 34, 38] [] [] (envL_cons (CheckOne_ctr h hU hM) (envL_cons (EOrder_ctr h) (env0 h.hP))) ?_ (by rw [h.hP]; exact Tryz.func32) rfl (by kernel_rfl) rfl ?_ ?_
  · rw [h.hP]; exact ⟨_, Tryz.func32, by kernel_rfl, by kernel_rfl⟩
  · rintro xs ⟨l, rfl, h1⟩; exact ⟨_, l, rfl, rfl⟩
  · rintro xs ⟨l, rfl, h1⟩
    refine ⟨by rw [Tryz.ntmps32]; simp, ?_⟩
    simp only [go_sem, h.hP, List.cons_append, List.nil_append, Meets_e, Below_e, Prod.exists, exists_eq, exists_eq_left, exists_eq_left', exists_eq_right, exists_eq_right', exists_and_left, exists_and_right, Ob.arr.injEq, AV.own.injEq, AV.fv.injEq, eventsS_q, eventsS_p, eventsS_c, eventsS_f, TEvent.len, Tryz.ntmps32, Nat.reduceEqDiff, reduceCtorEq, Nat.reduceMul, Nat.reduceAdd, Nat.reduceSub, Nat.reduceDiv, Nat.reduceMod, Nat.reduceLeDiff, Nat.reduceLT, Nat.reduceBNe, Nat.reduceBEq, reduceIte, Int.reduceLE, Int.reduceLT, Int.reduceToNat, Int.reduceNeg, Int.reduceAdd, Int.reduceSub, Int.reduceMul, Int.reduceEq]
    refine ⟨fun c => (if_pos c).symm, fun c => ?_⟩
    have hc : eventsF l = firstI l.length (evE l) := if_neg c
    rw [hc]
    refine vc_loopS (Int) (fun (i : Int) => [(13, .i i)]) [] (fun (i : Int) => []) (fun (i : Int) => [(10, .mp 122 (seenM (l.take i.toNat)))]) (fun (i : Int) => 0) (fun (i : Int) => Rounds l.length (evE l) i) (fun (i : Int) => (l.length - i).toNat) [] ?_ ?_
    · simp only [go_sem, h.hP, List.cons_append, List.nil_append, Meets_e, Below_e, Prod.exists, exists_eq, exists_eq_left, exists_eq_left', exists_eq_right, exists_eq_right', exists_and_left, exists_and_right, Ob.arr.injEq, AV.own.injEq, AV.fv.injEq, Tryz.ntmps32, Nat.reduceEqDiff, reduceCtorEq, Nat.reduceMul, Nat.reduceAdd, Nat.reduceSub, Nat.reduceDiv, Nat.reduceMod, Nat.reduceLeDiff, Nat.reduceLT, Nat.reduceBNe, Nat.reduceBEq, reduceIte, Int.reduceLE, Int.reduceLT, Int.reduceToNat, Int.reduceNeg, Int.reduceAdd, Int.reduceSub, Int.reduceMul, Int.reduceEq]
      exact ⟨rfl, Rounds.start⟩
    · rintro i hr
      obtain ⟨hi, hw, f5, f7, f6, f0, fe⟩ := check_round h1 hr
      have ho := okL_get h1 TEvent.z_ok
      simp only [go_sem, h.hP, List.cons_append, List.nil_append, Meets_e, Below_e, Prod.exists, exists_eq, exists_eq_left, exists_eq_left', exists_eq_right, exists_eq_right', exists_and_left, exists_and_right, Ob.arr.injEq, AV.own.injEq, AV.fv.injEq, eventsS_q, eventsS_p, eventsS_c, eventsS_f, evS_q, evS_p, evS_c, evS_f, eordS_q, eordS_p, eordS_c, eordS_f, TEvent.row, TEvent.len, TEvent.get, mget_seen, eord_neg, Tryz.ntmps32, Nat.reduceEqDiff, reduceCtorEq, Nat.reduceMul, Nat.reduceAdd, Nat.reduceSub, Nat.reduceDiv, Nat.reduceMod, Nat.reduceLeDiff, Nat.reduceLT, Nat.reduceBNe, Nat.reduceBEq, reduceIte, Int.reduceLE, Int.reduceLT, Int.reduceToNat, Int.reduceNeg, Int.reduceAdd, Int.reduceSub, Int.reduceMul, Int.reduceEq]
      refine ⟨fun a => ⟨hi, a, ho _, f5 a, fun b => ⟨fun c => ?_, fun c => ⟨f6 a b (fun d => absurd d c), f0 a b (fun d => absurd d c)⟩⟩⟩, fe⟩
      rw [hw c a]
      exact ⟨by omega, by omega, f7 a b c, fun d => ⟨f6 a b (fun _ => by simpa using d), f0 a b (fun _ => by simpa using d)⟩⟩
set_option maxHeartbeats 4000000 in
theorem EventsFault_ctr {cx : Cx} (h : Seat cx) (hU : Utf8 cx) (hM : MaxL cx) : Ctr cx 33 eventsS := by
  refine ctr_of (fn := Tryz.f33) (l := [.tmp 2]) (envL [(76, evS), (77, befS)]) [0, 2, 3, 4, 5, 6, 9, 11, 12, 13, 14, 21, 34, 38] [] [] (envL_cons (eventFault_ctr h hU hM) (envL_cons (before_ctr h) (env0 h.hP))) ?_ (by rw [h.hP]; exact Tryz.func33) rfl (by kernel_rfl) rfl ?_ ?_
  · rw [h.hP]; exact ⟨_, Tryz.func33, by kernel_rfl, by kernel_rfl⟩
  · rintro xs ⟨l, rfl, h1⟩; exact ⟨_, l, rfl, rfl⟩
  · rintro xs ⟨l, rfl, h1⟩
    refine ⟨by rw [Tryz.ntmps33]; simp, ?_⟩
    simp only [go_sem, h.hP, List.cons_append, List.nil_append, Meets_e, Below_e, Prod.exists, exists_eq, exists_eq_left, exists_eq_left', exists_eq_right, exists_eq_right', exists_and_left, exists_and_right, Ob.arr.injEq, AV.own.injEq, AV.fv.injEq, eventsS_q, eventsS_p, eventsS_c, eventsS_f, TEvent.len, Tryz.ntmps33, Nat.reduceEqDiff, reduceCtorEq, Nat.reduceMul, Nat.reduceAdd, Nat.reduceSub, Nat.reduceDiv, Nat.reduceMod, Nat.reduceLeDiff, Nat.reduceLT, Nat.reduceBNe, Nat.reduceBEq, reduceIte, Int.reduceLE, Int.reduceLT, Int.reduceToNat, Int.reduceNeg, Int.reduceAdd, Int.reduceSub, Int.reduceMul, Int.reduceEq]
    refine ⟨fun c => (if_pos c).symm, fun c => ?_⟩
    have hc : eventsF l = firstI l.length (evE l) := if_neg c
    rw [hc]
    refine vc_loopS (Int) (fun (i : Int) => [(13, .i i)]) [] (fun (i : Int) => []) (fun (i : Int) => [(10, .mp 122 (seenM (l.take i.toNat)))]) (fun (i : Int) => 0) (fun (i : Int) => Rounds l.length (evE l) i) (fun (i : Int) => (l.length - i).toNat) [] ?_ ?_
    · simp only [go_sem, h.hP, List.cons_append, List.nil_append, Meets_e, Below_e, Prod.exists, exists_eq, exists_eq_left, exists_eq_left', exists_eq_right, exists_eq_right', exists_and_left, exists_and_right, Ob.arr.injEq, AV.own.injEq, AV.fv.injEq, Tryz.ntmps33, Nat.reduceEqDiff, reduceCtorEq, Nat.reduceMul, Nat.reduceAdd, Nat.reduceSub, Nat.reduceDiv, Nat.reduceMod, Nat.reduceLeDiff, Nat.reduceLT, Nat.reduceBNe, Nat.reduceBEq, reduceIte, Int.reduceLE, Int.reduceLT, Int.reduceToNat, Int.reduceNeg, Int.reduceAdd, Int.reduceSub, Int.reduceMul, Int.reduceEq]
      exact ⟨rfl, Rounds.start⟩
    · rintro i hr
      obtain ⟨hi, hw, f5, f7, f6, f0, fe⟩ := check_round h1 hr
      have ho := okL_get h1 TEvent.z_ok
      simp only [go_sem, h.hP, List.cons_append, List.nil_append, Meets_e, Below_e, Prod.exists, exists_eq, exists_eq_left, exists_eq_left', exists_eq_right, exists_eq_right', exists_and_left, exists_and_right, Ob.arr.injEq, AV.own.injEq, AV.fv.injEq, eventsS_q, eventsS_p, eventsS_c, eventsS_f, evS_q, evS_p, evS_c, evS_f, befS_q, befS_p, befS_c, befS_f, TEvent.row, TEvent.len, TEvent.get, mget_seen, Tryz.ntmps33, Nat.reduceEqDiff, reduceCtorEq, Nat.reduceMul, Nat.reduceAdd, Nat.reduceSub, Nat.reduceDiv, Nat.reduceMod, Nat.reduceLeDiff, Nat.reduceLT, Nat.reduceBNe, Nat.reduceBEq, reduceIte, Int.reduceLE, Int.reduceLT, Int.reduceToNat, Int.reduceNeg, Int.reduceAdd, Int.reduceSub, Int.reduceMul, Int.reduceEq]
      refine ⟨fun a => ⟨hi, a, ho _, f5 a, fun b => ⟨fun c => ?_, fun c => ⟨f6 a b (fun d => absurd d c), f0 a b (fun d => absurd d c)⟩⟩⟩, fe⟩
      rw [hw c a]
      exact ⟨by omega, by omega, f7 a b c, fun d => ⟨f6 a b (fun _ => by simpa using d), f0 a b (fun _ => by simpa using d)⟩⟩
/-! ### What holds of events that are right -/
theorem ev_right {l : List TEvent} (h : eventsF l = 0) : l.length ≤ 5000 ∧ (∀ i, i < l.length → evF (l.getD i TEvent.z) = 0) ∧ ∀ i, 0 < i → i < l.length → befB (l.getD (i - 1) TEvent.z) (l.getD i TEvent.z) = true := by
  unfold eventsF at h
  split at h
  · cases h
  · rename_i hl
    have key := fun i (hi : i < l.length) => firstI_zero h i hi
    have h1 : ∀ i, i < l.length → evF (l.getD i TEvent.z) = 0 := fun i hi => by
      have := key i hi
      unfold evE at this
      split at this
      · rename_i c; exact absurd this c
      · rename_i c; exact Decidable.not_not.1 c
    refine ⟨by omega, h1, fun i h0 hi => ?_⟩
    have := key i hi
    unfold evE at this
    rw [if_neg (fun z => z (h1 i hi))] at this
    split at this
    · cases this
    · rename_i c
      cases hb : befB (l.getD (i - 1) TEvent.z) (l.getD i TEvent.z) with
      | true => rfl
      | false => exact absurd ⟨by omega, hb⟩ c
theorem evF_at {e : TEvent} (h : evF e = 0) : 0 ≤ e.at_ ∧ e.at_ ≤ 4321439 := by
  unfold evF at h
  split at h
  · cases h
  · split at h
    · cases h
    · rename_i c
      rw [Bool.not_eq_false] at c
      exact inB_iff.1 c
def atsL (l : List TEvent) : List Int := l.map TEvent.at_
theorem atsL_get (l : List TEvent) {i : Nat} (hi : i < l.length) : (atsL l).getD i 0 = (l.getD i TEvent.z).at_ := by
  unfold atsL
  rw [List.getD_eq_getElem?_getD, List.getD_eq_getElem?_getD, List.getElem?_map, List.getElem?_eq_getElem hi]
  rfl
theorem ats_sorted {l : List TEvent} (h : eventsF l = 0) : (atsL l).Pairwise (· ≤ ·) := by
  obtain ⟨_, _, h2⟩ := ev_right h
  have hstep : ∀ i, 0 < i → i < l.length → (l.getD (i - 1) TEvent.z).at_ ≤ (l.getD i TEvent.z).at_ := fun i h0 hi => by
    have := h2 i h0 hi
    unfold befB at this
    rw [decide_eq_true_eq] at this
    omega
  have hall : ∀ j i, i ≤ j → j < l.length → (l.getD i TEvent.z).at_ ≤ (l.getD j TEvent.z).at_ := by
    intro j
    induction j with
    | zero => intro i hi _; obtain rfl : i = 0 := by omega
              exact Int.le_refl _
    | succ j ih =>
      intro i hi hj
      by_cases e : i = j + 1
      · subst e; exact Int.le_refl _
      · have h3 := ih i (by omega) (by omega)
        have h4 := hstep (j + 1) (by omega) hj
        rw [Nat.add_sub_cancel] at h4
        omega
  rw [List.pairwise_iff_getElem]
  intro i j hi hj hij
  have hi' : i < l.length := by unfold atsL at hi; simpa using hi
  have hj' : j < l.length := by unfold atsL at hj; simpa using hj
  have h3 := hall j i (by omega) hj'
  rw [← atsL_get l hi', ← atsL_get l hj', List.getD_eq_getElem?_getD, List.getD_eq_getElem?_getD, List.getElem?_eq_getElem hi, List.getElem?_eq_getElem hj] at h3
  exact h3
end Go.Avc

/- Sessions of events: what the program and the reference compute. No condition. -/
set_option linter.unusedVariables false
set_option linter.unusedSimpArgs false
set_option maxRecDepth 100000
namespace Go.Avc
open Go Go.Proofs

def sesE (l : List TEvent) (n : Int) : Int := orE (eventsF l) (if inB n 1 1440 = false then 1 else 0)
def sesV (l : List TEvent) (n : Int) : List TSession := if sesE l n = 0 then sesR n l else []
def sesS  : Spec where
  pre xs := ∃ (l : List TEvent) (n : Int), xs = [.sl (TEvent.rows l), .i n] ∧ (okL TEvent.ok l ∧ okI n)
  post xs y := ∃ (l : List TEvent) (n : Int), xs = [.sl (TEvent.rows l), .i n] ∧ y = .tcons (.sl (TSession.rows (sesV l n))) (.tcons (.i (sesE l n)) .tnil)
  cost _ := 0
  fresh := true
theorem sesS_c  (xs : List AV) : (sesS).cost xs = 0 := nr rfl
theorem sesS_f  : (sesS).fresh = true := nr rfl
theorem sesS_q  (l : List TEvent) (n : Int) : (sesS).pre [.sl (TEvent.rows l), .i n] = (okL TEvent.ok l ∧ okI n) := propext ⟨fun h => by
  have h' : ∃ (l' : List TEvent) (n' : Int), ([.sl (TEvent.rows l), .i n] : List AV) = [.sl (TEvent.rows l'), .i n'] ∧ (okL TEvent.ok l' ∧ okI n') := h
  obtain ⟨l', n', e, h⟩ := h'
  simp only [List.cons.injEq, AV.dv.injEq, AV.dp.injEq, AV.fv.injEq, DV.d.injEq, DV.ag.injEq, D.int.injEq, D.str.injEq, D.bool.injEq, D.sl.injEq, true_and, and_true, intsDi_inj, rowsT_inj, rowsKi_inj, TEvent.row_inj, TEvent.rows_inj] at e
  obtain ⟨rfl, rfl⟩ := e
  exact h, fun h => ⟨l, n, rfl, h⟩⟩
theorem sesS_p  (l : List TEvent) (n : Int) : (sesS).post [.sl (TEvent.rows l), .i n] = fun y => y = .tcons (.sl (TSession.rows (sesV l n))) (.tcons (.i (sesE l n)) .tnil) := funext fun y => propext ⟨fun h => by
  have h' : ∃ (l' : List TEvent) (n' : Int), ([.sl (TEvent.rows l), .i n] : List AV) = [.sl (TEvent.rows l'), .i n'] ∧ y = .tcons (.sl (TSession.rows (sesV l' n'))) (.tcons (.i (sesE l' n')) .tnil) := h
  obtain ⟨l', n', e, h⟩ := h'
  simp only [List.cons.injEq, AV.dv.injEq, AV.dp.injEq, AV.fv.injEq, DV.d.injEq, DV.ag.injEq, D.int.injEq, D.str.injEq, D.bool.injEq, D.sl.injEq, true_and, and_true, intsDi_inj, rowsT_inj, rowsKi_inj, TEvent.row_inj, TEvent.rows_inj] at e
  obtain ⟨rfl, rfl⟩ := e
  exact h, fun h => ⟨l, n, rfl, h⟩⟩
def sesRS  : Spec where
  pre xs := ∃ (l : List TEvent) (n : Int), xs = [.sl (TEvent.rows l), .i n] ∧ (okL TEvent.ok l ∧ eventsF l = 0 ∧ 1 ≤ n ∧ n ≤ 1440)
  post xs y := ∃ (l : List TEvent) (n : Int), xs = [.sl (TEvent.rows l), .i n] ∧ y = .sl (TSession.rows (sesR n l))
  cost _ := 0
  fresh := true
theorem sesRS_c  (xs : List AV) : (sesRS).cost xs = 0 := nr rfl
theorem sesRS_f  : (sesRS).fresh = true := nr rfl
theorem sesRS_q  (l : List TEvent) (n : Int) : (sesRS).pre [.sl (TEvent.rows l), .i n] = (okL TEvent.ok l ∧ eventsF l = 0 ∧ 1 ≤ n ∧ n ≤ 1440) := propext ⟨fun h => by
  have h' : ∃ (l' : List TEvent) (n' : Int), ([.sl (TEvent.rows l), .i n] : List AV) = [.sl (TEvent.rows l'), .i n'] ∧ (okL TEvent.ok l' ∧ eventsF l' = 0 ∧ 1 ≤ n' ∧ n' ≤ 1440) := h
  obtain ⟨l', n', e, h⟩ := h'
  simp only [List.cons.injEq, AV.dv.injEq, AV.dp.injEq, AV.fv.injEq, DV.d.injEq, DV.ag.injEq, D.int.injEq, D.str.injEq, D.bool.injEq, D.sl.injEq, true_and, and_true, intsDi_inj, rowsT_inj, rowsKi_inj, TEvent.row_inj, TEvent.rows_inj] at e
  obtain ⟨rfl, rfl⟩ := e
  exact h, fun h => ⟨l, n, rfl, h⟩⟩
theorem sesRS_p  (l : List TEvent) (n : Int) : (sesRS).post [.sl (TEvent.rows l), .i n] = fun y => y = .sl (TSession.rows (sesR n l)) := funext fun y => propext ⟨fun h => by
  have h' : ∃ (l' : List TEvent) (n' : Int), ([.sl (TEvent.rows l), .i n] : List AV) = [.sl (TEvent.rows l'), .i n'] ∧ y = .sl (TSession.rows (sesR n' l')) := h
  obtain ⟨l', n', e, h⟩ := h'
  simp only [List.cons.injEq, AV.dv.injEq, AV.dp.injEq, AV.fv.injEq, DV.d.injEq, DV.ag.injEq, D.int.injEq, D.str.injEq, D.bool.injEq, D.sl.injEq, true_and, and_true, intsDi_inj, rowsT_inj, rowsKi_inj, TEvent.row_inj, TEvent.rows_inj] at e
  obtain ⟨rfl, rfl⟩ := e
  exact h, fun h => ⟨l, n, rfl, h⟩⟩
theorem sesR_lenle (n : Int) : ∀ l : List TEvent, (sesR n l).length ≤ l.length
  | [] => Nat.le_refl _
  | e :: r => by
    have ih := sesR_lenle n r
    unfold sesR
    split
    · rename_i h
      rw [h] at ih
      simp only [List.length_cons] at ih ⊢
      split
      · simp only [List.length_cons]; omega
      · simp only [List.length_cons]; omega
    · simp
theorem sesR_many (n : Int) : ∀ l : List TEvent, ∀ s ∈ sesR n l, 0 ≤ s.many ∧ s.many ≤ l.length
  | [], s, h => by cases h
  | e :: r, s, h => by
    have ih := sesR_many n r
    unfold sesR at h
    split at h
    · rename_i f s' t' hh hs
      rw [hs] at ih
      have h0 := ih s' List.mem_cons_self
      rw [List.length_cons]
      split at h
      · rcases List.mem_cons.1 h with rfl | h
        · exact ⟨by show (0 : Int) ≤ 1; decide, by show (1 : Int) ≤ _; omega⟩
        · have := ih s h; omega
      · rcases List.mem_cons.1 h with rfl | h
        · exact ⟨by show (0 : Int) ≤ s'.many + 1; omega, by show s'.many + 1 ≤ _; omega⟩
        · have := ih s (List.mem_cons_of_mem _ h); omega
    · rw [List.mem_singleton] at h
      subst h
      exact ⟨by show (0 : Int) ≤ 1; decide, by rw [List.length_cons]; show (1 : Int) ≤ _; omega⟩
theorem sesBump_set (e : TEvent) : ∀ l : List TSession, l ≠ [] → sesBump e l = l.set (l.length - 1) ⟨⟨(l.getD (l.length - 1) TSession.z).window.from_, e.at_ + 1⟩, (l.getD (l.length - 1) TSession.z).many + 1, (l.getD (l.length - 1) TSession.z).first⟩
  | [], h => absurd rfl h
  | [s], _ => rfl
  | s :: t :: r, _ => by
    have ih := sesBump_set e (t :: r) (by simp)
    show s :: sesBump e (t :: r) = _
    rw [ih]
    rfl
theorem rsetSe (l : List TSession) (i : Nat) (a b c : Int) (d : ByteArray) : (TSession.rows l).set i [.int .i64 a, .int .i64 b, .int .i64 c, .str d] = TSession.rows (l.set i ⟨⟨a, b⟩, c, d⟩) := TSession.rset l i ⟨⟨a, b⟩, c, d⟩
theorem snoc_set {α : Type} (l : List α) (x y : α) : (l ++ [x]).set l.length y = l ++ [y] := by
  rw [List.set_append_right _ _ (Nat.le_refl _), Nat.sub_self]
  rfl
theorem snoc_getD {α : Type} (l : List α) (x d : α) : (l ++ [x]).getD l.length d = x := by
  rw [List.getD_eq_getElem?_getD, List.getElem?_append_right (Nat.le_refl _), Nat.sub_self]
  rfl
theorem take_two {l : List TEvent} {i : Nat} (h0 : 0 < i) (hi : i < l.length) : l.take (i + 1) = l.take (i - 1) ++ [l.getD (i - 1) TEvent.z] ++ [l.getD i TEvent.z] ∧ l.take i = l.take (i - 1) ++ [l.getD (i - 1) TEvent.z] := by
  have h1 : l.take i = l.take (i - 1) ++ [l.getD (i - 1) TEvent.z] := by
    have := List.take_add_one (l := l) (i := i - 1)
    rw [show i - 1 + 1 = i by omega, List.getElem?_eq_getElem (by omega)] at this
    rw [this, List.getD_eq_getElem?_getD, List.getElem?_eq_getElem (by omega)]
    rfl
  refine ⟨?_, h1⟩
  rw [← h1, List.take_add_one, List.getElem?_eq_getElem hi, List.getD_eq_getElem?_getD, List.getElem?_eq_getElem hi]
  rfl
set_option maxHeartbeats 8000000 in
theorem Sessions_ctr {cx : Cx} (h : Seat cx) (hU : Utf8 cx) (hM : MaxL cx) : Ctr cx 16 sesS := by
  refine ctr_of (fn := Tryz.f16) (l := [.tmp 4, .tmp 5]) (envL [(32, eventsS), (56, inS)]) [0, 1, 4, 5, 6, 7, 8, 9, 10, 14, 18, 19, 20, 21, 22, 40] [] [] (envL_cons (ECheck_ctr h hU hM) (envL_cons (ewithin_ctr h) (env0 h.hP))) ?_ (by rw [h.hP]; exact Tryz.func16) rfl (by kernel_rfl) rfl ?_ ?_
  · rw [h.hP]; exact ⟨_, Tryz.func16, by kernel_rfl, by kernel_rfl⟩
  · rintro xs ⟨l, n, rfl, h1⟩; exact ⟨_, l, n, rfl, rfl⟩
  · rintro xs ⟨l, n, rfl, h1, h2⟩
    refine ⟨by rw [Tryz.ntmps16]; simp, ?_⟩
    simp only [go_sem, h.hP, List.cons_append, List.nil_append, Meets_e, Below_e, Prod.exists, exists_eq, exists_eq_left, exists_eq_left', exists_eq_right, exists_eq_right', exists_and_left, exists_and_right, Ob.arr.injEq, AV.own.injEq, AV.fv.injEq, sesS_q, sesS_p, sesS_c, sesS_f, eventsS_q, eventsS_p, eventsS_c, eventsS_f, inS_q, inS_p, inS_c, inS_f, TEvent.len, Tryz.ntmps16, Nat.reduceEqDiff, reduceCtorEq, Nat.reduceMul, Nat.reduceAdd, Nat.reduceSub, Nat.reduceDiv, Nat.reduceMod, Nat.reduceLeDiff, Nat.reduceLT, Nat.reduceBNe, Nat.reduceBEq, reduceIte, Int.reduceLE, Int.reduceLT, Int.reduceToNat, Int.reduceNeg, Int.reduceAdd, Int.reduceSub, Int.reduceMul, Int.reduceEq]
    refine ⟨h1, fun c => ?_, fun c => ⟨fun d => ?_, fun d => ?_⟩⟩
    · have e : sesE l n = eventsF l := orE_l c
      have ev : sesV l n = [] := if_neg (by rw [e]; exact c)
      rw [ev, e]
      exact ⟨rfl, rfl⟩
    · have e : sesE l n = 1 := (orE_r c).trans (if_pos d)
      have ev : sesV l n = [] := if_neg (by rw [e]; decide)
      rw [ev, e]
      exact ⟨rfl, rfl⟩
    · have e : sesE l n = 0 := (orE_r c).trans (if_neg (ne_ft d))
      have ev : sesV l n = sesR n l := if_pos e
      rw [ev, e]
      have hn := inB_iff.1 d
      have hl := (ev_right c).1
      have hat : ∀ i, i < l.length → 0 ≤ (l.getD i TEvent.z).at_ ∧ (l.getD i TEvent.z).at_ ≤ 4321439 := fun i hi => evF_at ((ev_right c).2.1 i hi)
      refine vc_loopS (Int × List TSession) (fun (x : Int × List TSession) => match x with | (i, out) => [(21, .i i), (7, .own 7)]) [] (fun (x : Int × List TSession) => match x with | (i, out) => []) (fun (x : Int × List TSession) => match x with | (i, out) => [(7, .arr 45 4 (TSession.rows out))]) (fun (x : Int × List TSession) => match x with | (i, out) => 0) (fun (x : Int × List TSession) => match x with | (i, out) => 0 ≤ i ∧ i ≤ l.length ∧ out = sesR n (l.take i.toNat)) (fun (x : Int × List TSession) => match x with | (i, out) => (l.length - i).toNat) [(7, 45, 4)] ?_ ?_
      · simp only [go_sem, h.hP, List.cons_append, List.nil_append, Meets_e, Below_e, Prod.exists, exists_eq, exists_eq_left, exists_eq_left', exists_eq_right, exists_eq_right', exists_and_left, exists_and_right, Ob.arr.injEq, AV.own.injEq, AV.fv.injEq, TSession.nil2, Tryz.ntmps16, Nat.reduceEqDiff, reduceCtorEq, Nat.reduceMul, Nat.reduceAdd, Nat.reduceSub, Nat.reduceDiv, Nat.reduceMod, Nat.reduceLeDiff, Nat.reduceLT, Nat.reduceBNe, Nat.reduceBEq, reduceIte, Int.reduceLE, Int.reduceLT, Int.reduceToNat, Int.reduceNeg, Int.reduceAdd, Int.reduceSub, Int.reduceMul, Int.reduceEq]
        exact ⟨by omega, rfl⟩
      · rintro ⟨i, out⟩ ⟨i0, i1, ho⟩
        have hw : IntKind.i64.wrap (i + 1) = i + 1 := i64w (by omega) (by omega)
        have hlen : (out.length : Int) ≤ i := by
          have := sesR_lenle n (l.take i.toNat)
          rw [← ho, List.length_take] at this
          omega
        have hma : ∀ s ∈ out, 0 ≤ s.many ∧ s.many ≤ i := fun s hs => by
          rw [ho] at hs
          have := sesR_many n _ s hs
          rw [List.length_take] at this
          omega
        have hwl : IntKind.i64.wrap (((out.length + 1 : Nat) : Int) - 1) = (out.length : Int) := by
          rw [i64w (by omega) (by omega)]
          omega
        by_cases z0 : i = 0
        · subst z0
          obtain rfl : out = [] := ho
          have hw1 : IntKind.i64.wrap (((1 : Nat) : Int) - 1) = 0 := rfl
          have hw0 : IntKind.i64.wrap 1 = 1 := rfl
          have hwt : 0 < (l.length : Int) → IntKind.i64.wrap ((l.getD 0 TEvent.z).at_ + 1) = (l.getD 0 TEvent.z).at_ + 1 := fun z => by
            have := hat 0 (by omega)
            exact i64w (by omega) (by omega)
          simp only [go_sem, h.hP, List.cons_append, List.nil_append, Meets_e, Below_e, Prod.exists, exists_eq, exists_eq_left, exists_eq_left', exists_eq_right, exists_eq_right', exists_and_left, exists_and_right, Ob.arr.injEq, AV.own.injEq, AV.fv.injEq, sesS_q, sesS_p, sesS_c, sesS_f, TEvent.row, TEvent.len, TEvent.get, TSession.row, TSession.fold1, TSession.app', TSession.rows_inj, TSession.zlT, TSession.len, TSession.get, rsetSe, snoc_set, snoc_getD, List.length_append, List.length_singleton, List.length_set, List.drop_succ_cons, List.drop_zero, List.headD_cons, List.set_cons_succ, List.set_cons_zero, List.getD_cons_zero, List.set_set, TSession.flat, hw, hwl, hw1, hw0, Tryz.ntmps16, Nat.reduceEqDiff, reduceCtorEq, Nat.reduceMul, Nat.reduceAdd, Nat.reduceSub, Nat.reduceDiv, Nat.reduceMod, Nat.reduceLeDiff, Nat.reduceLT, Nat.reduceBNe, Nat.reduceBEq, reduceIte, Int.reduceLE, Int.reduceLT, Int.reduceToNat, Int.reduceNeg, Int.reduceAdd, Int.reduceSub, Int.reduceMul, Int.reduceEq]
          refine ⟨fun z => ⟨z, by decide, by omega, ?_, by omega⟩, fun z => ?_⟩
          · rw [hwt z, List.take_add_one, List.getElem?_eq_getElem (by omega), List.getD_eq_getElem?_getD, List.getElem?_eq_getElem (by omega)]
            rfl
          · have : l = [] := List.eq_nil_of_length_eq_zero (by omega)
            subst this
            rfl
        · have hp : 0 < i := by omega
          have hwp : IntKind.i64.wrap (i - 1) = i - 1 := i64w (by omega) (by omega)
          obtain ⟨k, hk⟩ : ∃ k : Nat, out.length = k + 1 := by
            cases hout : out with
            | cons s t => exact ⟨t.length, rfl⟩
            | nil =>
              exfalso
              clear hwl hwp hw
              cases hq : l.take i.toNat with
              | nil =>
                have := congrArg List.length hq
                rw [List.length_take, List.length_nil] at this
                omega
              | cons e r =>
                obtain ⟨s, t, hst⟩ := sesR_ne (gap := n) e r
                rw [hout, hq, hst] at ho
                cases ho
          have hwk : IntKind.i64.wrap ((out.length : Int) - 1) = (k : Int) := by
            rw [hk, i64w (by omega) (by omega)]
            omega
          have hgk : ∀ x : TSession, (out.set k x).getD k TSession.z = x := fun x => by
            rw [List.getD_eq_getElem?_getD, List.getElem?_set_self (by omega)]
            rfl
          simp only [go_sem, h.hP, List.cons_append, List.nil_append, Meets_e, Below_e, Prod.exists, exists_eq, exists_eq_left, exists_eq_left', exists_eq_right, exists_eq_right', exists_and_left, exists_and_right, Ob.arr.injEq, AV.own.injEq, AV.fv.injEq, sesS_q, sesS_p, sesS_c, sesS_f, TEvent.row, TEvent.len, TEvent.get, TSession.row, TSession.fold1, TSession.app', TSession.rows_inj, TSession.zlT, TSession.len, TSession.get, rsetSe, snoc_set, snoc_getD, List.length_append, List.length_singleton, List.length_set, List.drop_succ_cons, List.drop_zero, List.headD_cons, List.set_cons_succ, List.set_cons_zero, List.getD_cons_zero, List.set_set, TSession.flat, hw, hwl, hwp, hwk, hgk, Tryz.ntmps16, Nat.reduceEqDiff, reduceCtorEq, Nat.reduceMul, Nat.reduceAdd, Nat.reduceSub, Nat.reduceDiv, Nat.reduceMod, Nat.reduceLeDiff, Nat.reduceLT, Nat.reduceBNe, Nat.reduceBEq, reduceIte, Int.reduceLE, Int.reduceLT, Int.reduceToNat, Int.reduceNeg, Int.reduceAdd, Int.reduceSub, Int.reduceMul, Int.reduceEq]
          have hi := fun (z : i < l.length) => hat i.toNat (by omega)
          have hj := fun (z : i < l.length) => hat (i - 1).toNat (by omega)
          have hne : out ≠ [] := fun z => by rw [z] at hk; cases hk
          have hgm : 0 ≤ (out.getD k TSession.z).many ∧ (out.getD k TSession.z).many ≤ i := by
            refine hma _ ?_
            rw [List.getD_eq_getElem?_getD, List.getElem?_eq_getElem (show k < out.length by omega)]
            exact List.getElem_mem _
          have hstep : i < l.length → sesR n (l.take (i + 1).toNat) = if (l.getD i.toNat TEvent.z).at_ - (l.getD (i - 1).toNat TEvent.z).at_ > n then out ++ [sesNew (l.getD i.toNat TEvent.z)] else sesBump (l.getD i.toNat TEvent.z) out := fun z => by
            obtain ⟨t1, t2⟩ := take_two (l := l) (i := i.toNat) (by omega) (by omega)
            rw [show (i + 1).toNat = i.toNat + 1 by omega, t1, sesR_snoc, ← t2, ← ho, show (i - 1).toNat = i.toNat - 1 by omega]
          have hw1 : IntKind.i64.wrap 1 = 1 := rfl
          refine ⟨fun z => ⟨i0, z, fun _ => ⟨by omega, by omega, fun g => ?_, fun g => ?_⟩, fun e => absurd e z0⟩, fun z => ?_⟩
          · have hi := hi z
            have hj := hj z
            rw [i64w (by omega) (by omega)] at g
            rw [i64w (n := (l.getD i.toNat TEvent.z).at_ + 1) (by omega) (by omega), hw1, hstep z, if_pos (show (l.getD i.toNat TEvent.z).at_ - (l.getD (i - 1).toNat TEvent.z).at_ > n from g)]
            exact ⟨by omega, by omega, by omega, by omega, by omega, by omega, by omega, by omega, by omega, rfl, by omega⟩
          · have hi := hi z
            have hj := hj z
            rw [i64w (by omega) (by omega)] at g
            rw [i64w (n := (l.getD i.toNat TEvent.z).at_ + 1) (by omega) (by omega), i64w (n := (out.getD k TSession.z).many + 1) (by omega) (by omega), hstep z, if_neg (show ¬ (l.getD i.toNat TEvent.z).at_ - (l.getD (i - 1).toNat TEvent.z).at_ > n from g), sesBump_set _ _ hne, hk, Nat.add_sub_cancel]
            exact ⟨by omega, by omega, by omega, by omega, by omega, by omega, by omega, rfl, by omega⟩
          · have : i.toNat = l.length := by omega
            rw [ho, this, List.take_of_length_le (Nat.le_refl _)]
set_option maxHeartbeats 8000000 in
def revSe : Spec where
  pre az := ∃ l : List TSession, az = [.sl (TSession.rows l)] ∧ l.length ≤ 1048576
  post az r := ∃ l : List TSession, az = [.sl (TSession.rows l)] ∧ r = .sl (TSession.rows l.reverse)
  cost _ := 0
  fresh := true
theorem isAgg_se {cx : Cx} (h : Seat cx) (w : World) : (isAgg 45).run cx.P w = .ok true w := by
  rw [h.hP]
  simp [isAgg, run_underlying Tryz.underlying45]
theorem sizeOf_se {cx : Cx} (h : Seat cx) (w : World) : (Go.sizeOf 45).run cx.P w = .ok 4 w := by
  rw [h.hP]
  have hc : Tryz.prog.cellsOf 45 = 4 := by kernel_rfl
  have := size_run (P := Tryz.prog) (t := 45) (by rw [hc]; decide) w
  rw [hc] at this
  exact this
theorem revSes {cx : Cx} (h : Seat cx) : CtrO cx 60 revSe 45 1000004 :=
  rev_own (row := TSession.row) (k := 4) (cx := cx) (ρ := Tryz.laysRevSession_ren) (by rw [h.hP]; exact Tryz.laysRevSession) (e := 45) (by decide) (isAgg_se h) (sizeOf_se h) (fun _ => rfl) (fun _ => rfl)
    (by rw [h.hP]; exact ⟨_, Tryz.func60, by kernel_rfl, by kernel_rfl⟩)
theorem sesR_at (n : Int) {l : List TEvent} {i : Nat} (hi : i < l.length) : sesR n (l.drop i) = if i + 1 = l.length then [sesNew (l.getD i TEvent.z)] else if (l.getD (i + 1) TEvent.z).at_ - (l.getD i TEvent.z).at_ > n then sesNew (l.getD i TEvent.z) :: sesR n (l.drop (i + 1)) else
    ⟨⟨(l.getD i TEvent.z).at_, ((sesR n (l.drop (i + 1))).headD TSession.z).window.to_⟩, ((sesR n (l.drop (i + 1))).headD TSession.z).many + 1, (l.getD i TEvent.z).id⟩ :: (sesR n (l.drop (i + 1))).tail := by
  have hd : l.drop i = l.getD i TEvent.z :: l.drop (i + 1) := by
    rw [List.drop_eq_getElem_cons hi, List.getD_eq_getElem?_getD, List.getElem?_eq_getElem hi]
    rfl
  rw [hd]
  by_cases h : i + 1 = l.length
  · rw [if_pos h, List.drop_eq_nil_of_le (by omega)]
    rfl
  · rw [if_neg h]
    have hd2 : l.drop (i + 1) = l.getD (i + 1) TEvent.z :: l.drop (i + 1 + 1) := by
      rw [List.drop_eq_getElem_cons (by omega), List.getD_eq_getElem?_getD, List.getElem?_eq_getElem (by omega)]
      rfl
    rw [hd2]
    obtain ⟨s, t, hs⟩ := sesR_ne (gap := n) (l.getD (i + 1) TEvent.z) (l.drop (i + 1 + 1))
    rw [sesR_cons _ _ _ hs, hs]
    rfl
set_option maxHeartbeats 8000000 in
theorem SessionsOf_ctr {cx : Cx} (h : Seat cx) : Ctr cx 18 sesRS := by
  refine ctr_of (fn := Tryz.f18) (l := [.tmp 4]) (envO [] [] [(60, revSe, 45, 1000004)]) [0, 1, 4, 5, 6, 7, 12, 35] [] [(8, [0, 1, 2, 3, 7, 8], [4, 5, 6, 9, 10, 11, 12, 13, 14, 15, 16, 17, 18])] (envO_cons (revSes h) (envO_nil (envF_nil (env0 h.hP)))) ?_ (by rw [h.hP]; exact Tryz.func18) rfl (by kernel_rfl) rfl ?_ ?_
  · rw [h.hP]; exact ⟨_, Tryz.func18, by kernel_rfl, by kernel_rfl⟩
  · rintro xs ⟨l, n, rfl, h1⟩; exact ⟨_, l, n, rfl, rfl⟩
  · rintro xs ⟨l, n, rfl, h1, c, hn1, hn2⟩
    have hl := (ev_right c).1
    have hat : ∀ i, i < l.length → 0 ≤ (l.getD i TEvent.z).at_ ∧ (l.getD i TEvent.z).at_ ≤ 4321439 := fun i hi => evF_at ((ev_right c).2.1 i hi)
    have hwl0 : IntKind.i64.wrap ((l.length : Int) - 1) = (l.length : Int) - 1 := i64w (by omega) (by omega)
    refine ⟨by rw [Tryz.ntmps18]; simp, ?_⟩
    simp only [go_sem, h.hP, List.cons_append, List.nil_append, Meets_e, Below_e, Prod.exists, exists_eq, exists_eq_left, exists_eq_left', exists_eq_right, exists_eq_right', exists_and_left, exists_and_right, Ob.arr.injEq, AV.own.injEq, AV.fv.injEq, sesRS_q, sesRS_p, sesRS_c, sesRS_f, TEvent.len, hwl0, Tryz.ntmps18, Nat.reduceEqDiff, reduceCtorEq, Nat.reduceMul, Nat.reduceAdd, Nat.reduceSub, Nat.reduceDiv, Nat.reduceMod, Nat.reduceLeDiff, Nat.reduceLT, Nat.reduceBNe, Nat.reduceBEq, reduceIte, Int.reduceLE, Int.reduceLT, Int.reduceToNat, Int.reduceNeg, Int.reduceAdd, Int.reduceSub, Int.reduceMul, Int.reduceEq]
    refine vc_loopS (Int × List TSession) (fun (x : Int × List TSession) => match x with | (i, out) => [(6, .i i), (5, .own 5)]) [] (fun (x : Int × List TSession) => match x with | (i, out) => []) (fun (x : Int × List TSession) => match x with | (i, out) => [(5, .arr 45 4 (TSession.rows out))]) (fun (x : Int × List TSession) => match x with | (i, out) => 0) (fun (x : Int × List TSession) => match x with | (i, out) => -1 ≤ i ∧ i < l.length ∧ out = (sesR n (l.drop (i + 1).toNat)).reverse) (fun (x : Int × List TSession) => match x with | (i, out) => (i + 1).toNat) [(5, 45, 4)] ?_ ?_
    · simp only [go_sem, h.hP, List.cons_append, List.nil_append, Meets_e, Below_e, Prod.exists, exists_eq, exists_eq_left, exists_eq_left', exists_eq_right, exists_eq_right', exists_and_left, exists_and_right, Ob.arr.injEq, AV.own.injEq, AV.fv.injEq, TSession.nil2, Tryz.ntmps18, Nat.reduceEqDiff, reduceCtorEq, Nat.reduceMul, Nat.reduceAdd, Nat.reduceSub, Nat.reduceDiv, Nat.reduceMod, Nat.reduceLeDiff, Nat.reduceLT, Nat.reduceBNe, Nat.reduceBEq, reduceIte, Int.reduceLE, Int.reduceLT, Int.reduceToNat, Int.reduceNeg, Int.reduceAdd, Int.reduceSub, Int.reduceMul, Int.reduceEq]
      refine ⟨by omega, by omega, ?_⟩
      rw [show ((l.length : Int) - 1 + 1).toNat = l.length by omega, List.drop_eq_nil_of_le (Nat.le_refl _)]
      rfl
    · rintro ⟨i, out⟩ ⟨i0, i1, ho⟩
      have hw : IntKind.i64.wrap (i + 1) = i + 1 := i64w (by omega) (by omega)
      have hwm : IntKind.i64.wrap (i - 1) = i - 1 := i64w (by omega) (by omega)
      have hlen : (out.length : Int) ≤ l.length := by
        have := sesR_lenle n (l.drop (i + 1).toNat)
        rw [ho, List.length_reverse]
        rw [List.length_drop] at this
        omega
      have hma : ∀ s ∈ out, 0 ≤ s.many ∧ s.many ≤ l.length := fun s hs => by
        rw [ho, List.mem_reverse] at hs
        have := sesR_many n _ s hs
        rw [List.length_drop] at this
        omega
      have hwl : IntKind.i64.wrap (((out.length + 1 : Nat) : Int) - 1) = (out.length : Int) := by
        rw [i64w (by omega) (by omega)]
        omega
      by_cases z0 : i + 1 = l.length
      · have hout : out = [] := by
          rw [ho, z0, Int.toNat_natCast, List.drop_eq_nil_of_le (Nat.le_refl _)]
          rfl
        have hi1 : i = (l.length : Int) - 1 := by omega
        have hw1 : IntKind.i64.wrap (((1 : Nat) : Int) - 1) = 0 := rfl
        subst hout
        simp only [go_sem, h.hP, List.cons_append, List.nil_append, Meets_e, Below_e, Prod.exists, exists_eq, exists_eq_left, exists_eq_left', exists_eq_right, exists_eq_right', exists_and_left, exists_and_right, Ob.arr.injEq, AV.own.injEq, AV.fv.injEq, sesRS_q, sesRS_p, sesRS_c, sesRS_f, revSe, TEvent.row, TEvent.len, TEvent.get, TSession.row, TSession.fold1, TSession.app', TSession.rows_inj, TSession.zlT, TSession.len, TSession.get, rsetSe, snoc_set, snoc_getD, List.length_append, List.length_singleton, List.length_set, List.drop_succ_cons, List.drop_zero, List.headD_cons, List.set_cons_succ, List.set_cons_zero, List.getD_cons_zero, List.set_set, TSession.flat, hw, hwl, hwm, hwl0, hw1, Tryz.ntmps18, Nat.reduceEqDiff, reduceCtorEq, Nat.reduceMul, Nat.reduceAdd, Nat.reduceSub, Nat.reduceDiv, Nat.reduceMod, Nat.reduceLeDiff, Nat.reduceLT, Nat.reduceBNe, Nat.reduceBEq, reduceIte, Int.reduceLE, Int.reduceLT, Int.reduceToNat, Int.reduceNeg, Int.reduceAdd, Int.reduceSub, Int.reduceMul, Int.reduceEq]
        refine ⟨fun z => ⟨fun y => absurd hi1 y, fun y => ⟨z, i1, by decide, z, i1, z, i1, by omega, by omega, ?_, by omega⟩⟩, fun z => ⟨rfl, ?_⟩⟩
        · have hi := hat i.toNat (by omega)
          rw [i64w (n := (l.getD i.toNat TEvent.z).at_ + 1) (by omega) (by omega), show (i - 1 + 1).toNat = i.toNat by omega, sesR_at n (by omega), if_pos (by omega)]
          rfl
        · have : l = [] := List.eq_nil_of_length_eq_zero (by omega)
          subst this
          rfl
      · obtain ⟨s, tl, hst⟩ : ∃ s tl, sesR n (l.drop (i + 1).toNat) = s :: tl := by
          cases hq : l.drop (i + 1).toNat with
          | nil =>
            have := congrArg List.length hq
            rw [List.length_drop, List.length_nil] at this
            omega
          | cons e r => exact sesR_ne e r
        have hout : out = tl.reverse ++ [s] := by rw [ho, hst, List.reverse_cons]
        obtain ⟨k, hkt⟩ : ∃ k, k = tl.reverse.length := ⟨_, rfl⟩
        have hk : out.length = k + 1 := by rw [hout, List.length_append, ← hkt]; rfl
        have hD : out.getD k TSession.z = s := by rw [hout, hkt]; exact snoc_getD _ _ _
        have hset : ∀ x, out.set k x = tl.reverse ++ [x] := fun x => by rw [hout, hkt]; exact snoc_set _ _ _
        have hsm : 0 ≤ s.many ∧ s.many ≤ l.length := hma s (by rw [hout]; simp)
        have hwk : IntKind.i64.wrap ((out.length : Int) - 1) = (k : Int) := by
          rw [hk, i64w (by omega) (by omega)]
          omega
        have hgk : ∀ x : TSession, (out.set k x).getD k TSession.z = x := fun x => by
          rw [List.getD_eq_getElem?_getD, List.getElem?_set_self (by omega)]
          rfl
        simp only [go_sem, h.hP, List.cons_append, List.nil_append, Meets_e, Below_e, Prod.exists, exists_eq, exists_eq_left, exists_eq_left', exists_eq_right, exists_eq_right', exists_and_left, exists_and_right, Ob.arr.injEq, AV.own.injEq, AV.fv.injEq, sesRS_q, sesRS_p, sesRS_c, sesRS_f, revSe, TEvent.row, TEvent.len, TEvent.get, TSession.row, TSession.fold1, TSession.app', TSession.rows_inj, TSession.zlT, TSession.len, TSession.get, rsetSe, snoc_set, snoc_getD, List.length_append, List.length_singleton, List.length_set, List.drop_succ_cons, List.drop_zero, List.headD_cons, List.set_cons_succ, List.set_cons_zero, List.getD_cons_zero, List.set_set, TSession.flat, hw, hwl, hwm, hwl0, hwk, hgk, Tryz.ntmps18, Nat.reduceEqDiff, reduceCtorEq, Nat.reduceMul, Nat.reduceAdd, Nat.reduceSub, Nat.reduceDiv, Nat.reduceMod, Nat.reduceLeDiff, Nat.reduceLT, Nat.reduceBNe, Nat.reduceBEq, reduceIte, Int.reduceLE, Int.reduceLT, Int.reduceToNat, Int.reduceNeg, Int.reduceAdd, Int.reduceSub, Int.reduceMul, Int.reduceEq]
        have hw1 : IntKind.i64.wrap 1 = 1 := rfl
        have hdr : (i - 1 + 1).toNat = i.toNat := by omega
        have hstep : 0 ≤ i → sesR n (l.drop i.toNat) = if (l.getD (i + 1).toNat TEvent.z).at_ - (l.getD i.toNat TEvent.z).at_ > n then sesNew (l.getD i.toNat TEvent.z) :: s :: tl else ⟨⟨(l.getD i.toNat TEvent.z).at_, s.window.to_⟩, s.many + 1, (l.getD i.toNat TEvent.z).id⟩ :: tl := fun z => by
          rw [sesR_at n (by omega), if_neg (by omega), show i.toNat + 1 = (i + 1).toNat by omega, hst]
          rfl
        rw [hD, hset, hdr]
        refine ⟨fun z => ⟨fun y => ⟨by omega, by omega, z, i1, fun g => ?_, fun g => ?_⟩, fun y => absurd y (by omega)⟩, fun z => ⟨by omega, rfl, ?_⟩⟩
        · have hi := hat i.toNat (by omega)
          have hj := hat (i + 1).toNat (by omega)
          rw [i64w (by omega) (by omega)] at g
          rw [i64w (n := (l.getD i.toNat TEvent.z).at_ + 1) (by omega) (by omega), hw1, hstep z, if_pos (show (l.getD (i + 1).toNat TEvent.z).at_ - (l.getD i.toNat TEvent.z).at_ > n from g)]
          refine ⟨z, i1, by omega, by omega, by omega, by omega, z, i1, z, i1, by omega, by omega, by omega, by omega, by omega, by omega, ?_, by omega⟩
          rw [hout, List.reverse_cons, List.reverse_cons]
          rfl
        · have hi := hat i.toNat (by omega)
          have hj := hat (i + 1).toNat (by omega)
          rw [i64w (by omega) (by omega)] at g
          rw [i64w (n := s.many + 1) (by omega) (by omega), hstep z, if_neg (show ¬ (l.getD (i + 1).toNat TEvent.z).at_ - (l.getD i.toNat TEvent.z).at_ > n from g)]
          refine ⟨by omega, by omega, z, i1, z, i1, by omega, by omega, by omega, by omega, by omega, by omega, ?_, by omega⟩
          rw [List.reverse_cons]
        · obtain rfl : i = -1 := by omega
          rw [ho, List.reverse_reverse]
          rfl
end Go.Avc

/- The generator of events: its contract; the predicate by which some are struck out. No condition. -/
set_option linter.unusedVariables false
set_option linter.unusedSimpArgs false
set_option maxRecDepth 100000
namespace Go.Avc
open Go Go.Proofs

theorem enc_size (n : Int) : (Utf8.encode n).size ≤ 4 := by
  unfold Utf8.encode
  dsimp only
  (repeat' split) <;> exact Nat.le_of_ble_eq_true rfl
theorem rsetE (l : List TEvent) (i : Nat) (x : TEvent) : (TEvent.rows l).set i [.str x.id, .str x.name, .int .i64 x.at_, .int .i64 x.who.kind, .str x.who.text, .sl (TField.rows x.fields)] = TEvent.rows (l.set i x) := TEvent.rset l i x
theorem eok_set {l : List TEvent} (h : ∀ c ∈ l, c.ok) {n : Nat} {x : TEvent} (hx : x.ok) : ∀ c ∈ l.set n x, c.ok := fun c hc => by
  rcases List.mem_or_eq_of_mem_set hc with hc | rfl
  · exact h c hc
  · exact hx
theorem eok_get {l : List TEvent} (h : ∀ c ∈ l, c.ok) (n : Nat) : (l.getD n TEvent.z).ok := by
  rw [List.getD_eq_getElem?_getD]
  cases e : l[n]? with
  | none => exact TEvent.z_ok
  | some x => exact h x (List.mem_of_getElem? e)
def eidS : Spec where
  pre xs := ∃ i : Int, xs = [.i i] ∧ 0 ≤ i ∧ i ≤ 1000
  post xs y := ∃ s : ByteArray, okS s ∧ y = .str s
  cost _ := 0
  fresh := true
theorem eventId_ctr {cx : Cx} (h : Seat cx) : Ctr cx 73 eidS := by
  refine ctr_of (fn := Tryz.f73) (l := [.tmp 2]) (envL []) [0, 2] [] [] (env0 h.hP) ?_ (by rw [h.hP]; exact Tryz.func73) rfl (by kernel_rfl) rfl ?_ ?_
  · rw [h.hP]; exact ⟨_, Tryz.func73, by kernel_rfl, by kernel_rfl⟩
  · rintro xs ⟨i, rfl, h1⟩; exact ⟨_, ⟨#[]⟩, okS_z, rfl⟩
  · rintro xs ⟨i, rfl, h1, h2⟩
    refine ⟨by rw [Tryz.ntmps73]; simp, ?_⟩
    simp only [go_sem, h.hP, List.cons_append, List.nil_append, Meets_e, Below_e, Prod.exists, exists_eq, exists_eq_left, exists_eq_left', exists_eq_right, exists_eq_right', exists_and_left, exists_and_right, Ob.arr.injEq, AV.own.injEq, AV.fv.injEq, eidS, Tryz.ntmps73, Nat.reduceEqDiff, reduceCtorEq, Nat.reduceMul, Nat.reduceAdd, Nat.reduceSub, Nat.reduceDiv, Nat.reduceMod, Nat.reduceLeDiff, Nat.reduceLT, Nat.reduceBNe, Nat.reduceBEq, reduceIte, Int.reduceLE, Int.reduceLT, Int.reduceToNat, Int.reduceNeg, Int.reduceAdd, Int.reduceSub, Int.reduceMul, Int.reduceEq]
    have e1 := enc_size (IntKind.i32.wrap (IntKind.i64.wrap (97 + (IntKind.i64.wrap (i.tdiv 26)).tmod 26)))
    have e2 := enc_size (IntKind.i32.wrap (IntKind.i64.wrap (97 + i.tmod 26)))
    generalize Utf8.encode (IntKind.i32.wrap (IntKind.i64.wrap (97 + (IntKind.i64.wrap (i.tdiv 26)).tmod 26))) = a at e1
    generalize Utf8.encode (IntKind.i32.wrap (IntKind.i64.wrap (97 + i.tmod 26))) = b at e2
    refine ⟨by omega, by omega, okS_of ?_⟩
    rw [ByteArray.size_append, ByteArray.size_append]
    have : (⟨#[101]⟩ : ByteArray).size = 1 := rfl
    omega
def eventsG : Spec where
  pre xs := ∃ m : Int, xs = [.st, .i m] ∧ m ≤ 20
  post xs y := ∃ (m : Int) (l : List TEvent), xs = [.st, .i m] ∧ l.length ≤ 20 ∧ (∀ x ∈ l, x.ok) ∧ y = .sl (TEvent.rows l)
  cost _ := 2000
  fresh := false
set_option maxHeartbeats 8000000 in
theorem Events_own {cx : Cx} (h : Seat cx) (hN : cx.glob 2 = some namesD) (hI : cx.glob 0 = some poolD) (hE : cx.glob 1 = some evNamesD) : CtrO cx 31 eventsG 52 6 := by
  refine ctrO_of (fn := Tryz.f31) (t := 4) (envL [(12, pickS), (26, flipS), (72, eventG), (73, eidS)]) [0, 1, 4, 5, 6, 7, 11, 12, 13, 34] [] [(10, [0, 1, 2, 5], [3, 4, 6, 7, 8, 9, 10, 11])] (envL_cons (pick_ctr cx h.hP h.hS) (envL_cons (flip_ctr cx h.hP h.hS) (envL_cons (Event_ctr h hN hI hE) (envL_cons (eventId_ctr h) (env0 h.hP))))) ?_ (by rw [h.hP]; exact Tryz.func31) rfl (by kernel_rfl) rfl ?_ (by decide)
  · rw [h.hP]; exact ⟨_, Tryz.func31, by kernel_rfl, by kernel_rfl⟩
  · rintro xs ⟨m, rfl, h1⟩
    refine ⟨by rw [Tryz.ntmps31]; simp, ?_⟩
    simp only [go_sem, h.hP, List.cons_append, List.nil_append, Meets_e, Below_e, Prod.exists, exists_eq, exists_eq_left, exists_eq_left', exists_eq_right, exists_eq_right', exists_and_left, exists_and_right, Ob.arr.injEq, AV.own.injEq, AV.fv.injEq, eventsG, pickS_q, pickS_p, pickS_c, pickS_f, ints1, intsc, Tryz.ntmps31, Nat.reduceEqDiff, reduceCtorEq, Nat.reduceMul, Nat.reduceAdd, Nat.reduceSub, Nat.reduceDiv, Nat.reduceMod, Nat.reduceLeDiff, Nat.reduceLT, Nat.reduceBNe, Nat.reduceBEq, reduceIte, Int.reduceLE, Int.reduceLT, Int.reduceToNat, Int.reduceNeg, Int.reduceAdd, Int.reduceSub, Int.reduceMul, Int.reduceEq]
    intro a0 ha0
    have ha : 0 ≤ a0 ∧ a0 ≤ 1000 := by
      simp only [isIn, List.mem_cons, List.not_mem_nil, or_false] at ha0
      omega
    refine vc_loopS (Int × Int × List TEvent) (fun (x : Int × Int × List TEvent) => match x with | (i, n, l) => [(12, .i i), (6, .i n), (5, .own 5)]) [] (fun (x : Int × Int × List TEvent) => match x with | (i, n, l) => []) (fun (x : Int × Int × List TEvent) => match x with | (i, n, l) => [(5, .arr 52 6 (TEvent.rows l))]) (fun (x : Int × Int × List TEvent) => match x with | (i, n, l) => 81 * i.toNat + 1) (fun (x : Int × Int × List TEvent) => match x with | (i, n, l) => 0 ≤ i ∧ i ≤ max 0 m ∧ (l.length : Int) = i ∧ 0 ≤ n ∧ n ≤ 1000 + 1440 * i ∧ ∀ c ∈ l, c.ok) (fun (x : Int × Int × List TEvent) => match x with | (i, n, l) => (m - i).toNat) [(5, 52, 6)] ?_ ?_
    · simp only [go_sem, h.hP, List.cons_append, List.nil_append, Meets_e, Below_e, Prod.exists, exists_eq, exists_eq_left, exists_eq_left', exists_eq_right, exists_eq_right', exists_and_left, exists_and_right, Ob.arr.injEq, AV.own.injEq, AV.fv.injEq, TEvent.nil2, Tryz.ntmps31, Nat.reduceEqDiff, reduceCtorEq, Nat.reduceMul, Nat.reduceAdd, Nat.reduceSub, Nat.reduceDiv, Nat.reduceMod, Nat.reduceLeDiff, Nat.reduceLT, Nat.reduceBNe, Nat.reduceBEq, reduceIte, Int.reduceLE, Int.reduceLT, Int.reduceToNat, Int.reduceNeg, Int.reduceAdd, Int.reduceSub, Int.reduceMul, Int.reduceEq]
      exact ⟨by omega, rfl, ha.1, ha.2⟩
    · rintro ⟨i, n, l⟩ ⟨j1, j2, j3, j4, j5, j6⟩
      have hw : IntKind.i64.wrap (i + 1) = i + 1 := i64w (by omega) (by omega)
      simp only [go_sem, h.hP, List.cons_append, List.nil_append, Meets_e, Below_e, Prod.exists, exists_eq, exists_eq_left, exists_eq_left', exists_eq_right, exists_eq_right', exists_and_left, exists_and_right, Ob.arr.injEq, AV.own.injEq, AV.fv.injEq, eventsG, eventG, eidS, pickS_q, pickS_p, pickS_c, pickS_f, flipS_q, flipS_p, flipS_c, flipS_f, ints1, intsc, TEvent.row, TEvent.fold1, TEvent.app', TEvent.rows_inj, TEvent.zlT, TEvent.len, TEvent.get, rsetE, List.length_append, List.length_singleton, List.length_set, List.drop_succ_cons, List.drop_zero, List.drop_nil, hw, Tryz.ntmps31, Nat.reduceEqDiff, reduceCtorEq, Nat.reduceMul, Nat.reduceAdd, Nat.reduceSub, Nat.reduceDiv, Nat.reduceMod, Nat.reduceLeDiff, Nat.reduceLT, Nat.reduceBNe, Nat.reduceBEq, reduceIte, Int.reduceLE, Int.reduceLT, Int.reduceToNat, Int.reduceNeg, Int.reduceAdd, Int.reduceSub, Int.reduceMul, Int.reduceEq]
      have b1 : 81 * i.toNat ≤ 1918 := by omega
      have b2 : 81 * i.toNat ≤ 1998 := by omega
      have b3 : 81 * i.toNat ≤ 1999 := by omega
      have b4 : (l.length + 1) * 88 ≤ 140737488355328 := by omega
      have b5 : l.length ≤ 9223372036854775806 := by omega
      have b6 : (l.length : Int) ≤ 20 := by omega
      clear hw
      simp only [b1, b2, b3, b4, b5, true_and]
      refine ⟨fun c a ha1 => ⟨j1, by omega, fun s hs => ⟨hs, ?_, fun e he => ?_⟩⟩, fun c => ?_⟩
      · have ha2 : 0 ≤ a ∧ a ≤ 1440 := by
          simp only [isIn, List.mem_cons, List.not_mem_nil, or_false] at ha1
          omega
        rw [i64w (by omega) (by omega)]
        exact ⟨by omega, by omega⟩
      · have ha2 : 0 ≤ a ∧ a ≤ 1440 := by
          simp only [isIn, List.mem_cons, List.not_mem_nil, or_false] at ha1
          omega
        rw [i64w (by omega) (by omega)]
        exact ⟨by omega, by omega, by omega, by omega, by omega, by omega, okL_app j6 he, by omega⟩
      · refine ⟨fun d f => ⟨fun _ => ⟨by omega, by omega, by omega, by omega, by omega, by omega, by omega, by omega, _, ?_, eok_set (eok_set j6 (eok_get j6 1)) (eok_get j6 0), rfl⟩, fun _ => ⟨l, by omega, j6, rfl⟩⟩, fun _ => ⟨l, by omega, j6, rfl⟩⟩
        rw [List.length_set, List.length_set]
        omega
def anyB : Spec where
  pre xs := ∃ e : TEvent, xs = [.dv (.ag e.row)] ∧ e.ok
  post xs y := ∃ b : Bool, y = .b b
  cost _ := 0
  fresh := true
theorem Right1_ctr {cx : Cx} (h : Seat cx) (hU : Utf8 cx) (hM : MaxL cx) : Ctr cx 105 anyB := by
  refine ctr_of (fn := Tryz.f105) (l := [.tmp 2]) (envL [(33, eventsS)]) [0, 1, 2] [] [] (envL_cons (EventsFault_ctr h hU hM) (env0 h.hP)) ?_ (by rw [h.hP]; exact Tryz.func105) rfl (by kernel_rfl) rfl ?_ ?_
  · rw [h.hP]; exact ⟨_, Tryz.func105, by kernel_rfl, by kernel_rfl⟩
  · rintro xs ⟨e, rfl, h1⟩; exact ⟨_, true, rfl⟩
  · rintro xs ⟨e, rfl, h1⟩
    refine ⟨by rw [Tryz.ntmps105]; simp, ?_⟩
    simp only [go_sem, h.hP, List.cons_append, List.nil_append, Meets_e, Below_e, Prod.exists, exists_eq, exists_eq_left, exists_eq_left', exists_eq_right, exists_eq_right', exists_and_left, exists_and_right, Ob.arr.injEq, AV.own.injEq, AV.fv.injEq, anyB, eventsS_q, eventsS_p, eventsS_c, eventsS_f, TEvent.row, TEvent.fold1, TEvent.rows_inj, Tryz.ntmps105, Nat.reduceEqDiff, reduceCtorEq, Nat.reduceMul, Nat.reduceAdd, Nat.reduceSub, Nat.reduceDiv, Nat.reduceMod, Nat.reduceLeDiff, Nat.reduceLT, Nat.reduceBNe, Nat.reduceBEq, reduceIte, Int.reduceLE, Int.reduceLT, Int.reduceToNat, Int.reduceNeg, Int.reduceAdd, Int.reduceSub, Int.reduceMul, Int.reduceEq]
    exact okL_one h1
end Go.Avc

/- Events that are right, in order: the generator's contract. No condition. -/
set_option linter.unusedVariables false
set_option linter.unusedSimpArgs false
set_option maxRecDepth 100000
namespace Go.Avc
open Go Go.Proofs

theorem DelW.list {w W : World} {b off : Nat} {S : TEvent × EvV → Prop} : ∀ {n : Nat}, (∀ j, j < n → ∃ p, S p ∧ ∀ c v, p.2.enc[c]? = some v → W.cell? ⟨b, off + j * 6 + c, none⟩ = some v) →
    ∃ ps : List (TEvent × EvV), ps.length = n ∧ (∀ p ∈ ps, S p) ∧ ∀ j u, (encP ps)[j]? = some u → W.cell? ⟨b, off + j, none⟩ = some u := by
  intro n
  induction n with
  | zero => exact fun _ => ⟨[], rfl, fun p hp => (by cases hp), fun j u hj => by simp [encP] at hj⟩
  | succ n ih =>
    intro h
    obtain ⟨ps, h1, h2, h3⟩ := ih fun j hj => h j (by omega)
    obtain ⟨p, hp, hc⟩ := h n (by omega)
    have he : encP (ps ++ [p]) = encP ps ++ p.2.enc := by
      unfold encP
      rw [List.map_append, List.flatten_append]
      simp
    refine ⟨ps ++ [p], by rw [List.length_append, h1]; rfl, fun q hq => ?_, fun j u hj => ?_⟩
    · rcases List.mem_append.1 hq with hq | hq
      · exact h2 q hq
      · rw [List.mem_singleton.1 hq]; exact hp
    · rw [he] at hj
      have hl : (encP ps).length = n * 6 := by rw [encP_len, h1]
      by_cases hi : j < n * 6
      · rw [List.getElem?_append_left (by omega)] at hj
        exact h3 j u hj
      · rw [List.getElem?_append_right (by omega), hl] at hj
        have := hc (j - n * 6) u hj
        rwa [show off + n * 6 + (j - n * 6) = off + j by omega] at this
set_option maxHeartbeats 4000000 in
theorem sorted_raw {v : Value} {w : World} {ps : List (TEvent × EvV)} (hlen : ps.length ≤ 1048576)
    (hclone : Calls Tryz.prog 38 #[v] w fun e w' => ∃ v', e = .returned v' ∧ w'.ownsRow w.heap.size 52 6 v' ps.length (encP ps) ∧ RowKit.Below w.heap.size w w') :
    Calls Tryz.prog 104 #[v] w fun e w' => ∃ (v' : Value) (ps' : List (TEvent × EvV)), e = .returned v' ∧ ps'.Perm ps ∧ w'.ownsRow w.heap.size 52 6 v' ps'.length (encP ps') ∧ RowKit.Below w.heap.size w w' := by
  go_enter Tryz.func104, Tryz.ntmps104
  go_wp2_with (go_at_call 38; refine hclone.mono ?_)
  rintro e w1 ⟨v', rfl, hown, hb⟩
  have hs := sortE hlen hown
  go_wp2_with (go_at_call 155; refine hs.mono ?_)
  rintro e w2 ⟨rfl, ps', hp, ⟨q1, q2, q3, q4, q5⟩, hown2⟩
  go_wp2
  go_ret
  refine ⟨_, ps', rfl, hp, hown2, q1.trans hb.os, q2.trans hb.tape, q3.trans hb.output, Nat.le_trans hb.size q4, fun k hk => (q5 k (Nat.lt_of_lt_of_le hk hb.size) (fun e => ?_)).trans (hb.block k hk)⟩
  rcases hown.2 with ⟨h1, _⟩ | ⟨g, cap, cur, h1, h2, _⟩
  · rw [h1] at e; cases e
  · rw [h1] at e
    have e2 : g = k := Option.some.inj e
    omega
set_option maxHeartbeats 4000000 in
theorem idx_nil (g : Nat) (w : World) : Calls Tryz.prog 87 #[.slice none 0 0, .func (.func g) #[] #[]] w fun e W => e = .returned (.int .i64 (-1)) ∧ W = w := by
  go_enter Tryz.func87, Tryz.ntmps87
  go_wp2
  go_loopw [8] (fun i wr => i = .int .i64 0 ∧ wr = w) (fun _ _ => 0)
  case atStart => exact ⟨rfl, rfl⟩
  case round =>
    obtain ⟨rfl, rfl⟩ := hrel
    go_wp2
    go_ret
    exact ⟨rfl, rfl⟩
set_option maxHeartbeats 4000000 in
theorem del_nil (g : Nat) (w : World) : Calls Tryz.prog 37 #[.slice none 0 0, .func (.func g) #[] #[]] w fun e W => e = .returned (.slice none 0 0) ∧ W = w := by
  go_enter Tryz.func37, Tryz.ntmps37
  go_wp2_with (go_at_call 87; refine (idx_nil g w).mono ?_; rintro e w1 ⟨rfl, rfl⟩)
  go_ret
  exact ⟨rfl, rfl⟩
/-- The context without the stream. -/
def Cx.dry (cx : Cx) : Cx := ⟨cx.P, none, cx.L, cx.ST, cx.ng, cx.glob⟩
theorem Seat.dry {cx : Cx} (h : Seat cx) : Seat cx.dry := ⟨h.hP, h.hS⟩
theorem glAt_dry {cx : Cx} {w : World} (h : GlAt cx w) : GlAt cx.dry w := h
set_option maxHeartbeats 8000000 in
theorem Right_own {cx : Cx} (h : Seat cx) (hN : cx.glob 2 = some namesD) (hI : cx.glob 0 = some poolD) (hE : cx.glob 1 = some evNamesD) (hD : Ctr cx.dry 105 anyB) :
    CtrO cx 54 eventsG 52 6 := by
  refine ⟨by rw [h.hP]; exact ⟨_, Tryz.func54, by kernel_rfl, by kernel_rfl⟩, fun _ => ?_, fun hz => by omega⟩
  rintro F xs vals hcx hF hst hgl hco hlen hargs ⟨m, rfl, hm⟩
  subst hcx
  obtain ⟨sv, mv, rfl⟩ : ∃ a b, vals = [a, b] := by
    match vals, hlen with
    | [a, b], _ => exact ⟨a, b, rfl⟩
  have hmv : mv = .int .i64 m := rd_int_val (show Rd F.ok F.w0 (.int .i64 m) mv from hargs 1 _ mv rfl rfl)
  have hev := (Events_own h hN hI hE).2.1 (by decide) F [.st, .i m] [sv, mv] rfl hF hst hgl hco rfl hargs ⟨m, rfl, hm⟩
  have hen : Enters F.cx.P 105 := hD.1
  rw [h.hP] at hev hen ⊢
  subst hmv
  have fin : ∀ (w1 w2 w3 : World) (v v' : Value) (ps ps2 ps3 : List (TEvent × EvV)), Gr F.cx.g F.w0 w1 → StAt F.cx (F.N + eventsG.cost [.st, .i m]) w1 → (∀ b, v.ownBlock = some b → F.w0.heap.size ≤ b) → ps.length ≤ 20 → ps2.length ≤ ps.length → (∀ p ∈ ps, p.1.ok) → (∀ p ∈ ps, Lay (fun b => resOk F false b ∧ v.ownBlock ≠ some b) w1 p) → (∀ p ∈ ps2, p ∈ ps) →
      w2.os = w1.os → w2.tape = w1.tape → w2.output = w1.output → w1.heap.size ≤ w2.heap.size → (∀ k, k < w1.heap.size → v.ownBlock ≠ some k → w2.heap[k]? = w1.heap[k]?) → ps3.Perm ps2 → w3.ownsRow w2.heap.size 52 6 v' ps3.length (encP ps3) → RowKit.Below w2.heap.size w2 w3 →
      ∃ (v0 : Value) (r : AV), Ending.returned v' = .returned v0 ∧ Gr F.cx.g F.w0 w3 ∧ StAt F.cx (F.N + eventsG.cost [.st, .i m]) w3 ∧ eventsG.post [.st, .i m] r ∧ Hands (resOk F eventsG.fresh) w3 F.w0.heap.size 52 6 v0 r := by
    intro w1 w2 w3 v v' ps ps2 ps3 hg1 hst1 hvb hl hl2 hok hlay hsub o1 o2 o3 o4 o5 hp hown hb
    have hsz : F.w0.heap.size ≤ w1.heap.size := hg1.size
    have hkeep : ∀ k, k < w1.heap.size → v.ownBlock ≠ some k → w3.heap[k]? = w1.heap[k]? := fun k hk hne => (hb.block k (Nat.lt_of_lt_of_le hk o4)).trans (o5 k hk hne)
    have hkeep0 : ∀ k, k < F.w0.heap.size → w3.heap[k]? = w1.heap[k]? := fun k hk => hkeep k (Nat.lt_of_lt_of_le hk hsz) (fun e => by have := hvb k e; omega)
    have hg : ∀ b, F.cx.g = some b → b < F.w0.heap.size := hF.g
    refine ⟨v', .sl (TEvent.rows (ps3.map Prod.fst)), rfl, ⟨(hb.os.trans o1).trans hg1.os, (hb.tape.trans o2).trans hg1.tape, (hb.output.trans o3).trans hg1.output, Nat.le_trans hsz (Nat.le_trans o4 hb.size), fun k hk hne => (hkeep0 k hk).trans (hg1.block k hk hne)⟩,
      hst1.keep2 (Nat.le_trans o4 hb.size) (fun b b' e hle => hkeep0 b' (Nat.lt_of_le_of_lt hle (hg b e))), ⟨m, ps3.map Prod.fst, rfl, by rw [List.length_map, hp.length_eq]; omega, fun x hx => ?_, rfl⟩, .inl ⟨_, encP ps3, by decide, rfl, ?_, fun i x hx => TEvent.z_len _ x (List.mem_of_getElem? hx), lays_to ps3 fun p hp3 => ?_⟩⟩
    · obtain ⟨p, hp3, rfl⟩ := List.mem_map.1 hx
      exact hok p (hsub p (hp.mem_iff.1 hp3))
    · rw [TEvent.len, List.length_map]
      refine ⟨hown.1, hown.2.imp id fun ⟨g, cap, cur, q1, q2, q3⟩ => ⟨g, cap, cur, q1, by omega, q3⟩⟩
    · refine (hlay p (hsub p (hp.mem_iff.1 hp3))).mono (Nat.le_trans o4 hb.size) (fun b hb1 hlt => ⟨hb1.1, fun e => ?_⟩) (fun b hb1 hlt => hkeep b hlt hb1.2)
      rcases hown.2 with ⟨q1, _⟩ | ⟨g, cap, cur, q1, q2, _⟩
      · rw [q1] at e; cases e
      · rw [q1] at e
        have e2 : g = b := Option.some.inj e
        omega
  go_enter Tryz.func54, Tryz.ntmps54
  go_wp2_with (go_at_call 31; refine hev.mono ?_)
  rintro e w1 ⟨v, r, rfl, hg1, hst1, ⟨m', l, hx, hl, hok, rfl⟩, hands⟩
  rcases hands with ⟨l', cs, _, hr, hown, hz, hR⟩ | ⟨_, _, _, _, _, h1000, _⟩
  case inr => omega
  have hr : TEvent.rows l = l' := by simpa using hr
  subst hr
  obtain ⟨ps, hps, rfl, hlay⟩ := lays_of l cs hR
  rw [TEvent.len] at hown
  have hpl : ps.length = l.length := by rw [← hps, List.length_map]
  have hpok : ∀ p ∈ ps, p.1.ok := fun p hp => hok p.1 (by rw [← hps]; exact List.mem_map.2 ⟨p, hp, rfl⟩)
  have hvb : ∀ b, v.ownBlock = some b → F.w0.heap.size ≤ b := fun b hb => by
    rcases hown.2 with ⟨q1, _⟩ | ⟨g, cap, cur, q1, q2, _⟩
    · rw [q1] at hb; cases hb
    · rw [q1] at hb
      cases hb
      exact q2
  rcases hown.2 with ⟨h1, hn⟩ | ⟨b, cap, cur, h1, h2, h3, h4, h5, h6, h7⟩
  · subst h1
    have hs := sorted_raw (v := .slice none 0 0) (w := w1) (ps := []) (Nat.zero_le _) ((AnyE.slices_Clone_nil Tryz.laysCloneEvent 0 0 w1).mono fun e w' ⟨e1, e2⟩ => ⟨_, e1, World.ownsRow_nil .., e2 ▸ RowKit.Below.refl _ _⟩)
    go_wp2_with (go_at_call 37; refine (del_nil _ w1).mono ?_)
    rintro e w2 ⟨rfl, rfl⟩
    go_wp2_with (go_at_call 104; refine hs.mono ?_)
    rintro e w3 ⟨v', ps', rfl, hp, hown3, hb3⟩
    go_wp2
    go_ret
    exact fin w2 w2 w3 _ v' ps [] ps' hg1 hst1 hvb (by omega) (Nat.zero_le _) hpok hlay (fun p hp => by cases hp) rfl rfl rfl (Nat.le_refl _) (fun _ _ _ => rfl) hp hown3 hb3
  · subst h1
    have hb : b < w1.heap.size := (Array.getElem?_eq_some_iff.1 h3).1
    have hrow : RowsIn (· ∈ ps) cur ps.length := RowsIn.of (by rw [hpl]; exact h7)
    have hd0 : DelW w1 b 0 l.length (· ∈ ps) w1 := by
      refine ⟨rfl, rfl, rfl, Nat.le_refl _, fun _ _ _ => rfl, fun j hj => ?_, fun o => ?_⟩
      · obtain ⟨p, hp, hc⟩ := hrow j (by omega)
        refine ⟨p, hp, fun c v hv => ?_⟩
        have hc6 : c < 6 := (List.getElem?_eq_some_iff.1 hv).1
        unfold World.cell?
        rw [h3]
        have := hc c hc6
        rw [hv] at this
        simpa using this
      · unfold World.frozen?
        rw [h3]
        simp
    have hgl0 := hgl
    have hcall : ∀ p, p ∈ ps → ∀ W, DelW w1 b 0 l.length (· ∈ ps) W → Calls Tryz.prog 105 #[.agg p.2.enc.toArray] W fun e W' => ∃ q : Bool, e = .returned (.bool q) ∧ RowKit.Below W.heap.size W W' := by
      intro p hp W hW
      have hgW : Gr F.cx.g F.w0 W := ⟨hW.os.trans hg1.os, hW.tape.trans hg1.tape, hW.out.trans hg1.output, Nat.le_trans hg1.size hW.size, fun k hk hne => (hW.keep k (Nat.lt_of_lt_of_le hk hg1.size) (by omega)).trans (hg1.block k hk hne)⟩
      have hglW : GlAt F.cx W := hgl.keep hst hgW
      have hng : ∀ k, k < F.cx.ng → k < W.heap.size := fun k hk => by
        have h1 := hF.gl k hk
        have h2 := (hF.ok k h1).1
        have h3 := hgW.size
        omega
      let F' : Fr := ⟨F.cx.dry, W, fun b => b < W.heap.size, 0, 0, 0, W, fun _ => False⟩
      have hF' : F'.Wf := ⟨fun b hb => ⟨hb, fun e => (by cases e)⟩, fun b hb => hng b hb, fun b hb => (by cases hb), by show 0 + 0 ≤ _; decide⟩
      have hl1 : Lay (fun b => b < W.heap.size) W p := (hlay p hp).mono hW.size (fun k hk hlt => Nat.lt_of_lt_of_le hlt hW.size) (fun k hk hlt => hW.keep k hlt (fun e => hk.2 (by rw [e]; rfl)))
      have hc := hD.2.2 F' [.dv (.ag p.1.row)] [.agg p.2.enc.toArray] rfl hF' (fun b hb => (by cases hb)) (glAt_dry hglW) (Nat.zero_le _) rfl (fun i a u ha hu => by
        cases i with
        | zero =>
          simp only [List.getElem?_cons_zero, Option.some.injEq] at ha hu
          subst ha
          subst hu
          exact ⟨p.2.enc, rfl, hl1⟩
        | succ i => simp at ha) ⟨p.1, rfl, hpok p hp⟩
      rw [show F.cx.dry.P = Tryz.prog from h.hP] at hc
      refine hc.mono ?_
      rintro e W' ⟨u, r, rfl, hg2, _, ⟨q, rfl⟩, _, hr⟩
      have hu : u = .bool q := by
        have hr : Rd (resOk F' anyB.fresh) W' (.bool q) u := hr
        cases hr
        rfl
      subst hu
      exact ⟨q, rfl, hg2.os, hg2.tape, hg2.output, hg2.size, fun k hk => hg2.block k hk (fun e => by cases e)⟩
    have hdel := del_walk (cap := cap) (g := 105) hb (show l.length ≤ 1048576 by omega) (show l.length ≤ cap by omega) hd0 (fun args w => callFunc_run hen args w) hcall
    go_wp2_with (go_at_call 37; refine hdel.mono ?_)
    rintro e w2 ⟨i, hi, rfl, hd2⟩
    obtain ⟨ps2, hp1, hp2, hp3⟩ := DelW.list (w := w2) hd2.rows
    have hs := sorted_raw (v := .slice (some ⟨b, 0, none⟩) i cap) (w := w2) (ps := ps2) (by omega) (by
      have := cloneE_rest ps2 b 0 cap w2 (by omega) hp3
      rwa [hp1] at this ⊢)
    go_wp2_with (go_at_call 104; refine hs.mono ?_)
    rintro e w3 ⟨v', ps', rfl, hp, hown3, hb3⟩
    go_wp2
    go_ret
    exact fin w1 w2 w3 _ v' ps ps2 ps' hg1 hst1 hvb (by omega) (by omega) hpok hlay hp2 hd2.os hd2.tape hd2.out hd2.size (fun k hk hne => hd2.keep k hk (fun e => hne (by rw [e]; rfl))) hp hown3 hb3
end Go.Avc

/- Events and what is wrong with them, as the statements draw them. No condition. -/
set_option linter.unusedVariables false
set_option linter.unusedSimpArgs false
set_option maxRecDepth 100000
namespace Go.Avc
open Go Go.Proofs

theorem evG_ne (xs : List AV) (h : eventsG.pre xs) : ∃ r, eventsG.post xs r := by
  obtain ⟨m, hm, _⟩ := h
  exact ⟨.sl (TEvent.rows []), m, [], hm, Nat.zero_le _, (fun x hx => by cases hx), rfl⟩
def someG : Spec where
  pre xs := ∃ m : Int, xs = [.st, .i m] ∧ m ≤ 20
  post xs y := ∃ l : List TEvent, l.length ≤ 20 ∧ (∀ x ∈ l, x.ok) ∧ y = .tcons (.sl (TEvent.rows l)) (.tcons (.i (eventsF l)) .tnil)
  cost _ := 4001
  fresh := false
theorem some_ctr {cx : Cx} (h : Seat cx) (hN : cx.glob 2 = some namesD) (hI : cx.glob 0 = some poolD) (hE : cx.glob 1 = some evNamesD) (hU : Utf8 cx) (hM : MaxL cx) : Ctr cx 10 someG := by
  refine ctr_of (fn := Tryz.f10) (l := [.tmp 4, .tmp 5]) (envL [(54, eventsG), (31, eventsG), (26, flipS), (33, eventsS)]) [0, 1, 4, 5, 6, 11] [] [] (envL_cons (ctr_ofO (by decide) evG_ne (Right_own h hN hI hE (Right1_ctr h.dry hU hM))) (envL_cons (ctr_ofO (by decide) evG_ne (Events_own h hN hI hE)) (envL_cons (flip_ctr cx h.hP h.hS) (envL_cons (EventsFault_ctr h hU hM) (env0 h.hP))))) ?_ (by rw [h.hP]; exact Tryz.func10) rfl (by kernel_rfl) rfl ?_ ?_
  · rw [h.hP]; exact ⟨_, Tryz.func10, by kernel_rfl, by kernel_rfl⟩
  · rintro xs ⟨m, rfl, hm⟩; exact ⟨_, [], Nat.zero_le _, (fun x hx => by cases hx), rfl⟩
  · rintro xs ⟨m, rfl, hm⟩
    refine ⟨by rw [Tryz.ntmps10]; simp, ?_⟩
    simp only [go_sem, h.hP, List.cons_append, List.nil_append, Meets_e, Below_e, Prod.exists, exists_eq, exists_eq_left, exists_eq_left', exists_eq_right, exists_eq_right', exists_and_left, exists_and_right, Ob.arr.injEq, AV.own.injEq, AV.fv.injEq, someG, eventsG, flipS_q, flipS_p, flipS_c, flipS_f, eventsS_q, eventsS_p, eventsS_c, eventsS_f, TEvent.rows_inj, Tryz.ntmps10, Nat.reduceEqDiff, reduceCtorEq, Nat.reduceMul, Nat.reduceAdd, Nat.reduceSub, Nat.reduceDiv, Nat.reduceMod, Nat.reduceLeDiff, Nat.reduceLT, Nat.reduceBNe, Nat.reduceBEq, reduceIte, Int.reduceLE, Int.reduceLT, Int.reduceToNat, Int.reduceNeg, Int.reduceAdd, Int.reduceSub, Int.reduceMul, Int.reduceEq]
    have ok : ∀ a : List TEvent, a.length ≤ 20 → (∀ x ∈ a, x.ok) → okL TEvent.ok a := fun a h1 h2 => ⟨by omega, h2⟩
    exact ⟨hm, fun a h1 h2 f => ⟨fun _ => ⟨hm, fun a h1 h2 => ⟨ok a h1 h2, a, h1, h2, rfl, rfl⟩⟩, fun _ => ⟨ok a h1 h2, a, h1, h2, rfl, rfl⟩⟩⟩
end Go.Avc

/- EventSessions: its walk. No condition. -/
set_option linter.unusedVariables false
set_option linter.unusedSimpArgs false
set_option maxRecDepth 100000
namespace Go.Avc
open Go Go.Proofs

theorem maxL_of {cx W0 : Cx} {m : Int} (hW : W0.glob 3 = some [.int .i64 m]) (h : ∀ w, GlAt cx w → GlAt W0 w) : MaxL cx := by
  intro w hw
  obtain ⟨_, _, cs, hc, hr⟩ := h w hw 3 _ hW
  obtain ⟨v, hv, hr⟩ := hr.get (j := 0) (x := .int .i64 m) rfl
  refine ⟨m, ?_⟩
  have := hc 0 v hv
  rw [this]
  cases hr
  rfl
set_option maxHeartbeats 8000000 in
theorem es_walk {L : List Int} {A : Option Addr} {cp : Nat} {W : World} (hng : 6 ≤ W.heap.size) (hrd : Rd (fun k => k < W.heap.size) W (.sl (intRows L)) (.slice A L.length cp)) {glob : Nat → Option (List D)} (hgl : GlAt ⟨Tryz.prog, none, L, 25, 6, glob⟩ W) (hU : ∀ cx : Cx, (∀ w, GlAt cx w → GlAt ⟨Tryz.prog, none, L, 25, 6, glob⟩ w) → Utf8 cx) (hfn : glob 2 = some namesD) (hip : glob 0 = some poolD) (hen : glob 1 = some evNamesD) {m : Int} (hml : glob 3 = some [.int .i64 m]) :
    Calls Tryz.prog 4 [Value.slice A L.length cp].toArray W fun e W' => e = .returned (.bool true) ∧ RowKit.Below W.heap.size W W' := by
  refine law_calls (E := envL [(11, rangeS), (12, pickS), (10, someG), (16, sesS), (18, sesRS), (17, eqSeS), (15, happeningsS)]) (B := 5000) (live := [0, 2, 3, 4, 5, 6, 7, 8, 37, 39]) (HH := []) (hz := []) (d := 2) (x1 := 9) (x2 := 10) (x3 := 11) (x4 := 3) (ng := 6) (glob := glob) Tryz.func4 rfl rfl (by kernel_rfl) ⟨rfl, rfl, rfl⟩ ⟨rfl, rfl, rfl⟩ ⟨rfl, rfl, rfl⟩ ⟨rfl, rfl, rfl⟩ ⟨rfl, rfl, rfl⟩ build_stream ⟨by simp, by decide, by decide, by decide, by decide, by decide, by rw [Tryz.ntmps4]; decide⟩ (ex := []) (xv := []) rfl (fun i x u hx hu => by simp at hx) (by decide) hng hrd hgl ?_
  intro cx hP hS hG hGl
  have h : Seat cx := ⟨hP, hS⟩
  refine ⟨envL_cons (range_ctr cx h.hP h.hS) (envL_cons (pick_ctr cx h.hP h.hS) (envL_cons (some_ctr h ((congrFun hGl _).trans hfn) ((congrFun hGl _).trans hip) ((congrFun hGl _).trans hen) (hU cx hG) (maxL_of hml hG)) (envL_cons (Sessions_ctr h (hU cx hG) (maxL_of hml hG)) (envL_cons (SessionsOf_ctr h) (envL_cons (eqSe_ctr h) (envL_cons (happenings_ctr h) (env0 h.hP))))))), ?_⟩
  simp only [go_sem, h.hP, List.cons_append, List.nil_append, Meets_e, Below_e, Prod.exists, exists_eq, exists_eq_left, exists_eq_left', exists_eq_right, exists_eq_right', exists_and_left, exists_and_right, Ob.arr.injEq, AV.own.injEq, AV.fv.injEq, someG, rangeS_q, rangeS_p, rangeS_c, rangeS_f, pickS_q, pickS_p, pickS_c, pickS_f, sesS_q, sesS_p, sesS_c, sesS_f, sesRS_q, sesRS_p, sesRS_c, sesRS_f, eqSeS_q, eqSeS_p, eqSeS_c, eqSeS_f, happeningsS_q, happeningsS_p, happeningsS_c, happeningsS_f, ints1, intsc, TEvent.rows_inj, TSession.rows_inj, TSession.len, Tryz.ntmps4, Nat.reduceEqDiff, reduceCtorEq, Nat.reduceMul, Nat.reduceAdd, Nat.reduceSub, Nat.reduceDiv, Nat.reduceMod, Nat.reduceLeDiff, Nat.reduceLT, Nat.reduceBNe, Nat.reduceBEq, reduceIte, Int.reduceLE, Int.reduceLT, Int.reduceToNat, Int.reduceNeg, Int.reduceAdd, Int.reduceSub, Int.reduceMul, Int.reduceEq]
  intro a a0 a14
  refine ⟨by omega, fun l l20 lo n hn => ?_⟩
  have hnr : 0 ≤ n ∧ n ≤ 1441 := by
    simp only [isIn, List.mem_cons, List.not_mem_nil, or_false] at hn
    omega
  have ok : okL TEvent.ok l := ⟨by omega, lo⟩
  have e0 : eventsF l = 0 → 1 ≤ n → n ≤ 1440 → sesE l n = 0 ∧ sesV l n = sesR n l := fun c d1 d2 => by
    have e : sesE l n = 0 := (orE_r c).trans (if_neg (ne_ft (inB_iff.2 ⟨d1, d2⟩)))
    exact ⟨e, if_pos e⟩
  have e1 : eventsF l = 0 → ¬ (1 ≤ n ∧ n ≤ 1440) → sesE l n = 1 ∧ sesV l n = [] := fun c d => by
    have e : sesE l n = 1 := (orE_r c).trans (if_pos (by rw [Bool.eq_false_iff]; exact fun z => d (inB_iff.1 z)))
    exact ⟨e, if_neg (by rw [e]; decide)⟩
  have e2 : ¬ eventsF l = 0 → sesE l n = eventsF l ∧ sesV l n = [] := fun c => by
    have e : sesE l n = eventsF l := orE_l c
    exact ⟨e, if_neg (by rw [e]; exact c)⟩
  refine ⟨ok, ⟨by omega, by omega⟩, fun c => ⟨fun d => ⟨fun f => ?_, fun f => ⟨fun x => absurd c x, fun _ => ?_⟩⟩, fun d => ?_⟩, fun c => ⟨fun _ => ?_, fun x => absurd x c⟩⟩
  · obtain ⟨p, q⟩ := e1 c (by omega)
    rw [q]
    exact ⟨fun _ z => z rfl, fun z => z p⟩
  · obtain ⟨p, q⟩ := e0 c (by omega) (by omega)
    rw [q]
    have := sesR_lenle n l
    exact ⟨fun _ => ⟨ok, c, by omega, by omega, by omega, fun z => ne_ft (eqSeB_t rfl) z⟩, fun z => z p⟩
  · obtain ⟨p, q⟩ := e1 c (by omega)
    rw [q]
    exact ⟨fun _ z => z rfl, fun z => z p⟩
  · obtain ⟨p, q⟩ := e2 c
    rw [q]
    exact ⟨fun _ z => z rfl, fun z => z p⟩
end Go.Avc

/- EventSessions returns true for every slice of numbers, and leaves it as it was; the two tables of unicode/utf8, the pool of ids and the names of fields and of events, which its row lists, lie as the program lays them. -/
set_option linter.unusedVariables false
set_option linter.unusedSimpArgs false
set_option maxRecDepth 100000
namespace Go.Proofs.YtkkcjnimbejalaaGreatDoor.eventSessions
open Go.ChangeShapes Go.ChangeMaps Go.WideShapes Go.ChangeAt Go.RowKit Go.Avc

def exF (m : Int) : Nat → Option (List D)
  | 0 => some poolD
  | 2 => some namesD
  | 1 => some evNamesD
  | 3 => some [.int .i64 m]
  | _ => none
theorem lies {W : World} {m : Int} (hm : W.cell? ⟨3, 0, none⟩ = some (.int .i64 m)) (hL : laidMetH Tryz.prog Rows.eventSessionsRow.laid W) : Lies W (exF m) := by
  intro k l hk
  have hk' : exF m k = some l := hk
  match k, hk' with
  | 0, hk' =>
    cases hk'
    have h := lies_of_reads (l := poolD) (m := 20) (Lib.laidMet.reads hL (n := "handbill/handmake.idPool") (d := Rows.laid_handbill_handmake_idPool) (by simp [Rows.eventSessionsRow])) (g := 0) rfl rfl (by kernel_rfl) (by kernel_rfl) (by decide)
    exact ⟨by decide, h.1, by decide, h.2⟩
  | 2, hk' =>
    cases hk'
    have h := lies_of_reads (l := namesD) (m := 6) (Lib.laidMet.reads hL (n := "handbill/handmake.fieldNames") (d := Rows.laid_handbill_handmake_fieldNames) (by simp [Rows.eventSessionsRow])) (g := 2) rfl rfl (by kernel_rfl) (by kernel_rfl) (by decide)
    exact ⟨by decide, h.1, by decide, h.2⟩
  | 1, hk' =>
    cases hk'
    have h := lies_of_reads (l := evNamesD) (m := 4) (Lib.laidMet.reads hL (n := "handbill/handmake.eventNames") (d := Rows.laid_handbill_handmake_eventNames) (by simp [Rows.eventSessionsRow])) (g := 1) rfl rfl (by kernel_rfl) (by kernel_rfl) (by decide)
    exact ⟨by decide, h.1, by decide, h.2⟩
  | 3, hk' =>
    cases hk'
    refine ⟨by decide, ?_, rfl, fun j u hj => ?_⟩
    · by_cases hb : 3 < W.heap.size
      · exact hb
      · unfold World.cell? at hm
        rw [Array.getElem?_eq_none (show W.heap.size ≤ 3 by omega)] at hm
        cases hm
    · cases j with
      | zero => cases hj; exact hm
      | succ j => simp at hj
/-- A world for a witness. -/
def fillC (l : List D) : Obj → Obj
  | .cells _ t frozen => .cells (l.map vD).toArray t frozen
  | o => o
noncomputable def heapF (os : Os) : Array Obj :=
  (((laidWorld os).heap.modify 0 (fillC poolD)).modify 2 (fillC namesD)).modify 1 (fillC evNamesD)
noncomputable def worldF (os : Os) : World := { laidWorld os with heap := heapF os }
theorem metF (os : Os) (args : Array Value) : laidMet Tryz.prog Rows.eventSessionsRow.laid ((worldF os).forCall (fun _ _ => 0) ⟨#[], args, []⟩).memory := laidMet_of_run' 8 (by kernel_rfl) (by kernel_rfl)
theorem own : ownKnob Tryz.prog.godebug = none := by kernel_rfl
theorem one3 : Tryz.prog.cellsOf 3 = 1 := by kernel_rfl

/-- WHAT THE WALK GIVES. -/
theorem contract (H : Type) (enc : TypeId × Value → H) (W : World) (base : Nat) (args : Array Value) (ds gs : List (DataW H)) (before : List MemPlace)
    (hval : ∀ (j : Nat) t v, Tryz.f4.params[j]? = some t → args[j]? = some v → Value.okWide Tryz.prog W .any base t v)
    (hW : DataW.Whole enc Tryz.prog Tryz.f4.params.toList Rows.eventSessionsSpec.vars false W args.toList ds gs before) (hL : laidMetH Tryz.prog Rows.eventSessionsRow.laid W) (hSh : W.ShapedOpen Tryz.prog) :
    Calls Tryz.prog 4 args W fun e W' => ∃ v, e = .returned v ∧ Rows.eventSessionsSpec.post enc Tryz.prog Tryz.f4 false true false false W args v W' := by
  have hW' := hW
  obtain ⟨p, q, hA0, hV, rfl, hfz, hnd⟩ := hW
  have hA : DataW.TrodAll enc Tryz.prog W 0 (fun _ => true) true Tryz.f4.params.toList args.toList ds p := hA0
  rw [Tryz.params4] at hA hval
  obtain ⟨v0, vs0, d0, ds0, p0, q0, hargs, rfl, rfl, h0, r0⟩ := trodAll_cons hA
  obtain ⟨rfl, rfl, rfl⟩ := trodAll_nil r0
  obtain rfl : args = #[v0] := by cases args; simp_all
  obtain ⟨rfl, rfl⟩ := trodVars_none hV
  obtain ⟨A, L, cp, rfl, hrd, hsh⟩ := open_nums Tryz.underlying22 Tryz.underlying3 one3 (hval 0 22 v0 rfl rfl) h0
  clear hA0
  simp only [List.append_nil] at hW'
  obtain ⟨mx, hmx⟩ := Tryz.laysM144.s1_3 W hSh
  have hg := glAt_X (L := L) (ST := 25) (tabs_of_list hL (by simp [Rows.eventSessionsRow]) (by simp [Rows.eventSessionsRow])) (lies hmx hL)
  refine (es_walk (ng_of_shaped hSh) hrd hg (fun cx h => utf8_of_globX rfl h) rfl rfl rfl rfl).mono fun e W' ⟨he, hbl⟩ => ?_
  subst he
  refine ⟨_, rfl, post_of_below (pa := p0) (pv := []) hW' (fun _ _ _ => trodAll_cons_mk (shut_bool Tryz.underlying4 _) trodAll_mk0)
    (fun sp hsp => ?_) (fun _ _ => rfl) (List.append_nil _).symm hbl (ok_one (by kernel_rfl) rfl (okWide_bool_mk Tryz.underlying4 _))⟩
  have := trodAll_cons_mk (hsh W' hbl sp hsp) (trodAll_mk0 (w := W') (base := 0) (spare := sp) (held := true) (enc := enc))
  rw [List.append_nil] at this
  exact this
theorem reads (os : Os) {H : Type} (enc : TypeId × Value → H) : ∃ places, DataW.whole enc Tryz.prog ((worldF os).forCall (fun _ _ => 0) ⟨#[], #[.slice none 0 0], []⟩).memory Tryz.f4.params.toList Rows.eventSessionsSpec.vars false #[Value.slice none 0 0].toList 8 = some ([.nil], [], places) :=
  ⟨[], by kernel_rfl⟩
theorem lifted (os : Os) (started : os.Started) (H : Type) (enc : TypeId × Value → H) (F : Stop.Interp) :
    ReturnsInHanded {} Tryz.checked os 4 .any ((OpenSpec.ofChange Rows.eventSessionsSpec).preRow enc Tryz.prog Tryz.f4 Rows.eventSessionsRow.domain false Rows.eventSessionsRow.laid) (((OpenSpec.ofChange Rows.eventSessionsSpec).at F).post enc Tryz.prog Tryz.f4 false true false false) := by
  obtain ⟨places, hx⟩ := reads os enc
  refine returnsInHanded_of_row (C := Tryz.checked) (s := OpenSpec.ofChange Rows.eventSessionsSpec) own started (by kernel_rfl) Tryz.func4
    (witness_row_at (enc := enc) (C := Tryz.checked) false (worldF os) #[.slice none 0 0] rfl (by kernel_rfl) (by kernel_rfl) (by kernel_rfl)
      (OpenSpec.preRow_of_cond 8 hx (by kernel_rfl) (fun k hk => by cases hk) (by kernel_rfl) (metF os _))) ?_
  intro W base args ds gs before hval hW _ _ _ hL hSh _
  exact contract H enc W base args ds gs before hval hW hL hSh
theorem said : Rows.EventSessionsSaid :=
  OpenClaim.holds_of_cond 4 Tryz.f4 rfl rfl rfl rfl rfl rfl rfl ⟨rfl, rfl, rfl, rfl, rfl⟩ rfl rfl rfl rfl rfl (by kernel_rfl) Tryz.func4 (by kernel_rfl)
    (of_decide_eq_true (by kernel_rfl)) (by unfold Func.isWrapper; first | (rw [if_pos (by decide +kernel)]; kernel_rfl) | (rw [if_neg (by decide +kernel)]; exact ⟨rfl, rfl⟩))
    (fun os started H enc _ F => by rw [OpenClaim.pre_eq_preRow]; exact lifted os started H enc F)
theorem plain (f : FuncId) (fn : Func) (hf : Tryz.pinned.checked.prog.funcNamed "handbill/handlaw2.EventSessions" = some f) (hfn : Tryz.pinned.checked.prog.funcs[f]? = some fn) :
    false = Tryz.pinned.checked.prog.looks [] ∧ ∀ (j : Nat) t, fn.params[j]? = some t → Tryz.pinned.checked.prog.wantsStandIn t = false := by
  obtain rfl : f = 4 := Option.some.inj ((show Tryz.prog.funcNamed "handbill/handlaw2.EventSessions" = some 4 by kernel_rfl).symm.trans hf) |>.symm
  obtain rfl : fn = Tryz.f4 := (Option.some.inj (Tryz.func4.symm.trans hfn)).symm
  refine ⟨by kernel_rfl, fun j t ht => ?_⟩
  rw [Tryz.params4] at ht
  obtain rfl : t = 22 := by simpa using Array.mem_of_getElem? ht
  exact (show Tryz.prog.wantsStandIn 22 = false by kernel_rfl)
theorem card : Rows.EventSessionsCardSaid :=
  Claim7.holds_tied_plain_at .later [] _ _ _ _ said (fun _ h => by cases h) (by kernel_rfl) (fun _ h => by cases h) eventSessions_row_tie rfl ⟨rfl, rfl⟩ (by kernel_rfl) rfl plain (by kernel_rfl)
end Go.Proofs.YtkkcjnimbejalaaGreatDoor.eventSessions
