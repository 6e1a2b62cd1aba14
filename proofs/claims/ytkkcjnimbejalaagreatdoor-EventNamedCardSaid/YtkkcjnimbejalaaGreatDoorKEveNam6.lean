/- EventNamed returns true for every slice of numbers, and leaves it as it was; the two tables of unicode/utf8, the pool of ids and the names of fields and of events, which its row lists, lie as the program lays them. -/
import Derived.Test.YtkkcjnimbejalaaGreatDoorCards
import Derived.Test.YtkkcjnimbejalaaGreatDoorTie
import Derived.WalkKit
import Derived.ProofKit
import Derived.OpenShut
import Derived.Deep.DeepHandedRow
import Derived.Test.YtkkcjnimbejalaaGreatDoorKEveNam1
import Derived.Test.YtkkcjnimbejalaaGreatDoorKEveNam2
import Derived.Test.YtkkcjnimbejalaaGreatDoorKEveNam3
import Derived.Test.YtkkcjnimbejalaaGreatDoorKEveNam4
import Derived.Test.YtkkcjnimbejalaaGreatDoorKEveNam5
set_option linter.unusedVariables false
set_option linter.unusedSimpArgs false
set_option maxRecDepth 100000
namespace Go.Avc
open Go Go.Proofs

/-! ### The order of events -/
def befB (a b : TEvent) : Bool := decide (a.at_ < b.at_ ∨ (a.at_ = b.at_ ∧ lessS a.id b.id = true))
def eordF (a b : TEvent) : Int := if a.at_ < b.at_ then -1 else if a.at_ > b.at_ then 1 else cmpT a.id b.id
theorem eord_neg (a b : TEvent) : (0 ≤ eordF a b) = (befB a b = false) := by
  apply propext
  unfold eordF befB cmpT
  rw [decide_eq_false_iff_not]
  by_cases h1 : a.at_ < b.at_
  · rw [if_pos h1]; exact ⟨fun h => absurd h (by decide), fun h => absurd (.inl h1) h⟩
  · rw [if_neg h1]
    by_cases h2 : a.at_ > b.at_
    · rw [if_pos h2]; exact ⟨fun _ h => by omega, fun _ => by decide⟩
    · rw [if_neg h2]
      have h3 : a.at_ = b.at_ := by omega
      by_cases h4 : lessS a.id b.id = true
      · rw [if_pos h4]; exact ⟨fun h => absurd h (by decide), fun h => absurd (.inr ⟨h3, h4⟩) h⟩
      · rw [if_neg h4]
        refine ⟨fun _ h => h.elim h1 (fun h => h4 h.2), fun _ => ?_⟩
        split <;> decide
def eordS  : Spec where
  pre xs := ∃ (a : TEvent) (b : TEvent), xs = [.dv (.ag a.row), .dv (.ag b.row)]
  post xs y := ∃ (a : TEvent) (b : TEvent), xs = [.dv (.ag a.row), .dv (.ag b.row)] ∧ y = .i (eordF a b)
  cost _ := 0
  fresh := true
theorem eordS_c  (xs : List AV) : (eordS).cost xs = 0 := nr rfl
theorem eordS_f  : (eordS).fresh = true := nr rfl
theorem eordS_q  (a : TEvent) (b : TEvent) : (eordS).pre [.dv (.ag [.str a.id, .str a.name, .int .i64 a.at_, .int .i64 a.who.kind, .str a.who.text, .sl (TField.rows a.fields)]), .dv (.ag [.str b.id, .str b.name, .int .i64 b.at_, .int .i64 b.who.kind, .str b.who.text, .sl (TField.rows b.fields)])] = (True) := propext ⟨fun h => by
  have h' : ∃ (a' : TEvent) (b' : TEvent), ([.dv (.ag a.row), .dv (.ag b.row)] : List AV) = [.dv (.ag a'.row), .dv (.ag b'.row)] := h
  obtain ⟨a', b', e⟩ := h'
  simp only [List.cons.injEq, AV.dv.injEq, AV.dp.injEq, AV.fv.injEq, DV.d.injEq, DV.ag.injEq, D.int.injEq, D.str.injEq, D.bool.injEq, D.sl.injEq, true_and, and_true, intsDi_inj, rowsT_inj, rowsKi_inj, TEvent.row_inj, TEvent.rows_inj, TEvent.row_inj, TEvent.rows_inj] at e
  obtain ⟨rfl, rfl⟩ := e
  exact trivial, fun h => ⟨a, b, rfl⟩⟩
theorem eordS_p  (a : TEvent) (b : TEvent) : (eordS).post [.dv (.ag [.str a.id, .str a.name, .int .i64 a.at_, .int .i64 a.who.kind, .str a.who.text, .sl (TField.rows a.fields)]), .dv (.ag [.str b.id, .str b.name, .int .i64 b.at_, .int .i64 b.who.kind, .str b.who.text, .sl (TField.rows b.fields)])] = fun y => y = .i (eordF a b) := funext fun y => propext ⟨fun h => by
  have h' : ∃ (a' : TEvent) (b' : TEvent), ([.dv (.ag a.row), .dv (.ag b.row)] : List AV) = [.dv (.ag a'.row), .dv (.ag b'.row)] ∧ y = .i (eordF a' b') := h
  obtain ⟨a', b', e, h⟩ := h'
  simp only [List.cons.injEq, AV.dv.injEq, AV.dp.injEq, AV.fv.injEq, DV.d.injEq, DV.ag.injEq, D.int.injEq, D.str.injEq, D.bool.injEq, D.sl.injEq, true_and, and_true, intsDi_inj, rowsT_inj, rowsKi_inj, TEvent.row_inj, TEvent.rows_inj, TEvent.row_inj, TEvent.rows_inj] at e
  obtain ⟨rfl, rfl⟩ := e
  exact h, fun h => ⟨a, b, rfl, h⟩⟩
theorem EOrder_ctr {cx : Cx} (h : Seat cx) : Ctr cx 75 eordS := by
  refine ctr_of (fn := Tryz.f75) (l := [.tmp 4]) (envL [(119, cmpISp), (120, cmpTSp), (118, orSp)]) [0, 1, 2, 3, 4] [] [] (envL_cons (compareI_ctr h) (envL_cons (compareT_ctr h) (envL_cons (or_ctr h) (env0 h.hP)))) ?_ (by rw [h.hP]; exact Tryz.func75) rfl (by kernel_rfl) rfl ?_ ?_
  · rw [h.hP]; exact ⟨_, Tryz.func75, by kernel_rfl, by kernel_rfl⟩
  · rintro xs ⟨a, b, rfl⟩; exact ⟨_, a, b, rfl, rfl⟩
  · rintro xs ⟨a, b, rfl⟩
    refine ⟨by rw [Tryz.ntmps75]; simp, ?_⟩
    simp only [go_sem, h.hP, List.cons_append, List.nil_append, Meets_e, Below_e, Prod.exists, exists_eq, exists_eq_left, exists_eq_left', exists_eq_right, exists_eq_right', exists_and_left, exists_and_right, Ob.arr.injEq, AV.own.injEq, AV.fv.injEq, eordS_q, eordS_p, eordS_c, eordS_f, cmpISp_q, cmpISp_p, cmpISp_c, cmpISp_f, cmpTSp_q, cmpTSp_p, cmpTSp_c, cmpTSp_f, orSp_q, orSp_p, orSp_c, orSp_f, TEvent.row, ints1, intsc, Tryz.ntmps75, Nat.reduceEqDiff, reduceCtorEq, Nat.reduceMul, Nat.reduceAdd, Nat.reduceSub, Nat.reduceDiv, Nat.reduceMod, Nat.reduceLeDiff, Nat.reduceLT, Nat.reduceBNe, Nat.reduceBEq, reduceIte, Int.reduceLE, Int.reduceLT, Int.reduceToNat, Int.reduceNeg, Int.reduceAdd, Int.reduceSub, Int.reduceMul, Int.reduceEq]
    rw [or_two]
    unfold eordF cmpI
    by_cases c1 : a.at_ < b.at_
    · rw [if_pos c1, if_pos c1]; rfl
    · rw [if_neg c1, if_neg c1]
      by_cases c2 : a.at_ > b.at_
      · rw [if_pos c2, if_pos c2]; rfl
      · rw [if_neg c2, if_neg c2]; rfl
def befS  : Spec where
  pre xs := ∃ (a : TEvent) (b : TEvent), xs = [.dv (.ag a.row), .dv (.ag b.row)]
  post xs y := ∃ (a : TEvent) (b : TEvent), xs = [.dv (.ag a.row), .dv (.ag b.row)] ∧ y = .b (befB a b)
  cost _ := 0
  fresh := true
theorem befS_c  (xs : List AV) : (befS).cost xs = 0 := nr rfl
theorem befS_f  : (befS).fresh = true := nr rfl
theorem befS_q  (a : TEvent) (b : TEvent) : (befS).pre [.dv (.ag [.str a.id, .str a.name, .int .i64 a.at_, .int .i64 a.who.kind, .str a.who.text, .sl (TField.rows a.fields)]), .dv (.ag [.str b.id, .str b.name, .int .i64 b.at_, .int .i64 b.who.kind, .str b.who.text, .sl (TField.rows b.fields)])] = (True) := propext ⟨fun h => by
  have h' : ∃ (a' : TEvent) (b' : TEvent), ([.dv (.ag a.row), .dv (.ag b.row)] : List AV) = [.dv (.ag a'.row), .dv (.ag b'.row)] := h
  obtain ⟨a', b', e⟩ := h'
  simp only [List.cons.injEq, AV.dv.injEq, AV.dp.injEq, AV.fv.injEq, DV.d.injEq, DV.ag.injEq, D.int.injEq, D.str.injEq, D.bool.injEq, D.sl.injEq, true_and, and_true, intsDi_inj, rowsT_inj, rowsKi_inj, TEvent.row_inj, TEvent.rows_inj, TEvent.row_inj, TEvent.rows_inj] at e
  obtain ⟨rfl, rfl⟩ := e
  exact trivial, fun h => ⟨a, b, rfl⟩⟩
theorem befS_p  (a : TEvent) (b : TEvent) : (befS).post [.dv (.ag [.str a.id, .str a.name, .int .i64 a.at_, .int .i64 a.who.kind, .str a.who.text, .sl (TField.rows a.fields)]), .dv (.ag [.str b.id, .str b.name, .int .i64 b.at_, .int .i64 b.who.kind, .str b.who.text, .sl (TField.rows b.fields)])] = fun y => y = .b (befB a b) := funext fun y => propext ⟨fun h => by
  have h' : ∃ (a' : TEvent) (b' : TEvent), ([.dv (.ag a.row), .dv (.ag b.row)] : List AV) = [.dv (.ag a'.row), .dv (.ag b'.row)] ∧ y = .b (befB a' b') := h
  obtain ⟨a', b', e, h⟩ := h'
  simp only [List.cons.injEq, AV.dv.injEq, AV.dp.injEq, AV.fv.injEq, DV.d.injEq, DV.ag.injEq, D.int.injEq, D.str.injEq, D.bool.injEq, D.sl.injEq, true_and, and_true, intsDi_inj, rowsT_inj, rowsKi_inj, TEvent.row_inj, TEvent.rows_inj, TEvent.row_inj, TEvent.rows_inj] at e
  obtain ⟨rfl, rfl⟩ := e
  exact h, fun h => ⟨a, b, rfl, h⟩⟩
theorem before_ctr {cx : Cx} (h : Seat cx) : Ctr cx 77 befS := by
  refine ctr_of (fn := Tryz.f77) (l := [.tmp 4]) (envL []) [0, 1, 2, 3, 4] [] [] (env0 h.hP) ?_ (by rw [h.hP]; exact Tryz.func77) rfl (by kernel_rfl) rfl ?_ ?_
  · rw [h.hP]; exact ⟨_, Tryz.func77, by kernel_rfl, by kernel_rfl⟩
  · rintro xs ⟨a, b, rfl⟩; exact ⟨_, a, b, rfl, rfl⟩
  · rintro xs ⟨a, b, rfl⟩
    refine ⟨by rw [Tryz.ntmps77]; simp, ?_⟩
    simp only [go_sem, h.hP, List.cons_append, List.nil_append, Meets_e, Below_e, Prod.exists, exists_eq, exists_eq_left, exists_eq_left', exists_eq_right, exists_eq_right', exists_and_left, exists_and_right, Ob.arr.injEq, AV.own.injEq, AV.fv.injEq, befS_q, befS_p, befS_c, befS_f, TEvent.row, Tryz.ntmps77, Nat.reduceEqDiff, reduceCtorEq, Nat.reduceMul, Nat.reduceAdd, Nat.reduceSub, Nat.reduceDiv, Nat.reduceMod, Nat.reduceLeDiff, Nat.reduceLT, Nat.reduceBNe, Nat.reduceBEq, reduceIte, Int.reduceLE, Int.reduceLT, Int.reduceToNat, Int.reduceNeg, Int.reduceAdd, Int.reduceSub, Int.reduceMul, Int.reduceEq]
    have e : befB a b = decide (a.at_ < b.at_ ∨ (a.at_ = b.at_ ∧ Op.bytesLess a.id.toList b.id.toList = true)) := rfl
    rw [e]
    generalize Op.bytesLess a.id.toList b.id.toList = q
    refine ⟨fun c => ⟨fun d => ?_, fun d => (decide_eq_false fun z => z.elim c fun z => d z.1).symm⟩, fun c => (decide_eq_true (.inl c)).symm⟩
    cases q with
    | false => exact (decide_eq_false fun z => z.elim c fun z => Bool.false_ne_true z.2).symm
    | true => exact (decide_eq_true (.inr ⟨d, rfl⟩)).symm

/-! ### Ids that were seen -/
def hasId (l : List TEvent) (s : ByteArray) : Bool := l.any fun e => decide (e.id = s)
def seenM (l : List TEvent) : List (D × D) := l.map fun e => (.str e.id, .bool true)
theorem mget_seen (l : List TEvent) (s : ByteArray) : (mget (seenM l) (.str s)).getD (.bool false) = .bool (hasId l s) := by
  induction l with
  | nil => rfl
  | cons e r ih =>
    show ((if decide (e.id = s) = true then some (D.bool true) else mget (seenM r) (.str s)).getD (.bool false)) = .bool (decide (e.id = s) || hasId r s)
    by_cases h : e.id = s
    · rw [decide_eq_true h]; rfl
    · rw [decide_eq_false h, Bool.false_or]; exact ih
theorem mput_seen {l : List TEvent} {s : ByteArray} (h : hasId l s = false) : mput (seenM l) (.str s) (.bool true) = seenM l ++ [(.str s, .bool true)] := by
  induction l with
  | nil => rfl
  | cons e r ih =>
    have h' : (decide (e.id = s) || hasId r s) = false := h
    rw [Bool.or_eq_false_iff] at h'
    show (if decide (e.id = s) = true then ((D.str s, D.bool true) :: seenM r) else (D.str e.id, D.bool true) :: mput (seenM r) (.str s) (.bool true)) = _
    rw [h'.1, ih h'.2]
    rfl
theorem seen_step {l : List TEvent} {i : Int} (h0 : 0 ≤ i) (hi : i < l.length) (h : hasId (l.take i.toNat) (l.getD i.toNat TEvent.z).id = false) : mput (seenM (l.take i.toNat)) (.str (l.getD i.toNat TEvent.z).id) (.bool true) = seenM (l.take (i + 1).toNat) := by
  rw [mput_seen h]
  have hi' : i.toNat < l.length := by omega
  rw [show (i + 1).toNat = i.toNat + 1 by omega, List.take_add_one, List.getElem?_eq_getElem hi']
  unfold seenM
  rw [List.map_append, List.getD_eq_getElem?_getD, List.getElem?_eq_getElem hi']
  rfl
def evE (l : List TEvent) (i : Nat) : Int := if evF (l.getD i TEvent.z) ≠ 0 then evF (l.getD i TEvent.z) else if 0 < (i : Int) ∧ befB (l.getD (i - 1) TEvent.z) (l.getD i TEvent.z) = false then 7 else if hasId (l.take i) (l.getD i TEvent.z).id = true then 6 else 0
def eventsF (l : List TEvent) : Int := if 5000 < (l.length : Int) then 2 else firstI l.length (evE l)
theorem evE_i (l : List TEvent) {i : Int} (hi : 0 ≤ i) : evE l i.toNat = if evF (l.getD i.toNat TEvent.z) ≠ 0 then evF (l.getD i.toNat TEvent.z) else if 0 < i ∧ befB (l.getD (i - 1).toNat TEvent.z) (l.getD i.toNat TEvent.z) = false then 7 else if hasId (l.take i.toNat) (l.getD i.toNat TEvent.z).id = true then 6 else 0 := by
  unfold evE
  rw [Int.toNat_of_nonneg hi, show i.toNat - 1 = (i - 1).toNat by omega]
def eventsS  : Spec where
  pre xs := ∃ (l : List TEvent), xs = [.sl (TEvent.rows l)] ∧ (okL TEvent.ok l)
  post xs y := ∃ (l : List TEvent), xs = [.sl (TEvent.rows l)] ∧ y = .i (eventsF l)
  cost _ := 0
  fresh := true
theorem eventsS_c  (xs : List AV) : (eventsS).cost xs = 0 := nr rfl
theorem eventsS_f  : (eventsS).fresh = true := nr rfl
theorem eventsS_q  (l : List TEvent) : (eventsS).pre [.sl (TEvent.rows l)] = (okL TEvent.ok l) := propext ⟨fun h => by
  have h' : ∃ (l' : List TEvent), ([.sl (TEvent.rows l)] : List AV) = [.sl (TEvent.rows l')] ∧ (okL TEvent.ok l') := h
  obtain ⟨l', e, h⟩ := h'
  simp only [List.cons.injEq, AV.dv.injEq, AV.dp.injEq, AV.fv.injEq, DV.d.injEq, DV.ag.injEq, D.int.injEq, D.str.injEq, D.bool.injEq, D.sl.injEq, true_and, and_true, intsDi_inj, rowsT_inj, rowsKi_inj, TEvent.row_inj, TEvent.rows_inj] at e
  obtain rfl := e
  exact h, fun h => ⟨l, rfl, h⟩⟩
theorem eventsS_p  (l : List TEvent) : (eventsS).post [.sl (TEvent.rows l)] = fun y => y = .i (eventsF l) := funext fun y => propext ⟨fun h => by
  have h' : ∃ (l' : List TEvent), ([.sl (TEvent.rows l)] : List AV) = [.sl (TEvent.rows l')] ∧ y = .i (eventsF l') := h
  obtain ⟨l', e, h⟩ := h'
  simp only [List.cons.injEq, AV.dv.injEq, AV.dp.injEq, AV.fv.injEq, DV.d.injEq, DV.ag.injEq, D.int.injEq, D.str.injEq, D.bool.injEq, D.sl.injEq, true_and, and_true, intsDi_inj, rowsT_inj, rowsKi_inj, TEvent.row_inj, TEvent.rows_inj] at e
  obtain rfl := e
  exact h, fun h => ⟨l, rfl, h⟩⟩
theorem check_round {l : List TEvent} (h1 : okL TEvent.ok l) {i : Int} (hr : Rounds l.length (evE l) i) : 0 ≤ i ∧ (0 < i → i < l.length → IntKind.i64.wrap (i - 1) = i - 1) ∧
    (i < l.length → ¬ evF (l.getD i.toNat TEvent.z) = 0 → evF (l.getD i.toNat TEvent.z) = firstI l.length (evE l)) ∧
    (i < l.length → evF (l.getD i.toNat TEvent.z) = 0 → 0 < i → befB (l.getD (i - 1).toNat TEvent.z) (l.getD i.toNat TEvent.z) = false → 7 = firstI l.length (evE l)) ∧
    (i < l.length → evF (l.getD i.toNat TEvent.z) = 0 → (0 < i → befB (l.getD (i - 1).toNat TEvent.z) (l.getD i.toNat TEvent.z) = true) → hasId (l.take i.toNat) (l.getD i.toNat TEvent.z).id = true → 6 = firstI l.length (evE l)) ∧
    (i < l.length → evF (l.getD i.toNat TEvent.z) = 0 → (0 < i → befB (l.getD (i - 1).toNat TEvent.z) (l.getD i.toNat TEvent.z) = true) → hasId (l.take i.toNat) (l.getD i.toNat TEvent.z).id = false →
      mput (seenM (l.take i.toNat)) (.str (l.getD i.toNat TEvent.z).id) (.bool true) = seenM (l.take (IntKind.i64.wrap (i + 1)).toNat) ∧ Rounds l.length (evE l) (IntKind.i64.wrap (i + 1)) ∧ ((l.length : Int) - IntKind.i64.wrap (i + 1)).toNat < ((l.length : Int) - i).toNat) ∧
    (¬ i < l.length → 0 = firstI l.length (evE l)) := by
  have hl := h1.1
  obtain ⟨hi, hS, hM, hE, hN⟩ := hr.use (by omega)
  have e0 := evE_i l hi
  have e1 : evF (l.getD i.toNat TEvent.z) = 0 → (0 < i → befB (l.getD (i - 1).toNat TEvent.z) (l.getD i.toNat TEvent.z) = true) → evE l i.toNat = if hasId (l.take i.toNat) (l.getD i.toNat TEvent.z).id = true then 6 else 0 := fun b d => by
    rw [e0, if_neg (fun z => z b), if_neg (fun z => ne_tf z.2 (d z.1))]
  refine ⟨hi, fun a b => i64w (by omega) (by omega), fun a b => (hE _ a (e0.trans (if_pos b)) b).symm, fun a b c d => (hE 7 a ?_ (by decide)).symm, fun a b c d => (hE 6 a ((e1 b c).trans (if_pos d)) (by decide)).symm, fun a b c d => ?_, fun a => (hN a).symm⟩
  · rw [e0, if_neg (fun z => z b), if_pos ⟨c, d⟩]
  · have hw : IntKind.i64.wrap (i + 1) = i + 1 := i64w (by omega) (by omega)
    refine ⟨?_, hS a ((e1 b c).trans (if_neg (ne_tf d))), hM a⟩
    rw [hw]
    exact seen_step hi a d
set_option maxHeartbeats 4000000 in
theorem ECheck_ctr {cx : Cx} (h : Seat cx) (hU : Utf8 cx) (hM : MaxL cx) : Ctr cx 32 eventsS := by
  refine ctr_of (fn := Tryz.f32) (l := [.tmp 2]) (envL [(74, evS), (75, eordS)]) [0, 2, 3, 4, 5, 6, 9, 11, 12, 13, 14, 21, 34, 38] [] [] (envL_cons (CheckOne_ctr h hU hM) (envL_cons (EOrder_ctr h) (env0 h.hP))) ?_ (by rw [h.hP]; exact Tryz.func32) rfl (by kernel_rfl) rfl ?_ ?_
  · rw [h.hP]; exact ⟨_, Tryz.func32, by kernel_rfl, by kernel_rfl⟩
  · rintro xs ⟨l, rfl, h1⟩; exact ⟨_, l, rfl, rfl⟩
  · rintro xs ⟨l, rfl, h1⟩
    refine ⟨by rw [Tryz.ntmps32]; simp, ?_⟩
    simp only [go_sem, h.hP, List.cons_append, List.nil_append, Meets_e, Below_e, Prod.exists, exists_eq, exists_eq_left, exists_eq_left', exists_eq_right, exists_eq_right', exists_and_left, exists_and_right, Ob.arr.injEq, AV.own.injEq, AV.fv.injEq, eventsS_q, eventsS_p, eventsS_c, eventsS_f, TEvent.len, Tryz.ntmps32, Nat.reduceEqDiff, reduceCtorEq, Nat.reduceMul, Nat.reduceAdd, Nat.reduceSub, Nat.reduceDiv, Nat.reduceMod, Nat.reduceLeDiff, Nat.reduceLT, Nat.reduceBNe, Nat.reduceBEq, reduceIte, Int.reduceLE, Int.reduceLT, Int.reduceToNat, Int.reduceNeg, Int.reduceAdd, Int.reduceSub, Int.reduceMul, Int.reduceEq]
    refine ⟨fun c => (if_pos c).symm, fun c => ?_⟩
    have hc : eventsF l = firstI l.length (evE l) := if_neg c
    rw [hc]
    refine vc_loopS (Int) (fun (i : Int) => [(13, .i i)]) [] (fun (i : Int) => []) (fun (i : Int) => [(10, .mp 122 (seenM (l.take i.toNat)))]) (fun (i : Int) => 0) (fun (i : Int) => Rounds l.length (evE l) i) (fun (i : Int) => (l.length - i).toNat) [] ?_ ?_
    · simp only [go_sem, h.hP, List.cons_append, List.nil_append, Meets_e, Below_e, Prod.exists, exists_eq, exists_eq_left, exists_eq_left', exists_eq_right, exists_eq_right', exists_and_left, exists_and_right, Ob.arr.injEq, AV.own.injEq, AV.fv.injEq, Tryz.ntmps32, Nat.reduceEqDiff, reduceCtorEq, Nat.reduceMul, Nat.reduceAdd, Nat.reduceSub, Nat.reduceDiv, Nat.reduceMod, Nat.reduceLeDiff, Nat.reduceLT, Nat.reduceBNe, Nat.reduceBEq, reduceIte, Int.reduceLE, Int.reduceLT, Int.reduceToNat, Int.reduceNeg, Int.reduceAdd, Int.reduceSub, Int.reduceMul, Int.reduceEq]
      exact ⟨rfl, Rounds.start⟩
    · rintro i hr
      obtain ⟨hi, hw, f5, f7, f6, f0, fe⟩ := check_round h1 hr
      have ho := okL_get h1 TEvent.z_ok
      simp only [go_sem, h.hP, List.cons_append, List.nil_append, Meets_e, Below_e, Prod.exists, exists_eq, exists_eq_left, exists_eq_left', exists_eq_right, exists_eq_right', exists_and_left, exists_and_right, Ob.arr.injEq, AV.own.injEq, AV.fv.injEq, eventsS_q, eventsS_p, eventsS_c, eventsS_f, evS_q, evS_p, evS_c, evS_f, eordS_q, eordS_p, eordS_c, eordS_f, TEvent.row, TEvent.len, TEvent.get, mget_seen, eord_neg, Tryz.ntmps32, Nat.reduceEqDiff, reduceCtorEq, Nat.reduceMul, Nat.reduceAdd, Nat.reduceSub, Nat.reduceDiv, Nat.reduceMod, Nat.reduceLeDiff, Nat.reduceLT, Nat.reduceBNe, Nat.reduceBEq, reduceIte, Int.reduceLE, Int.reduceLT, Int.reduceToNat, Int.reduceNeg, Int.reduceAdd, Int.reduceSub, Int.reduceMul, Int.reduceEq]
      refine ⟨fun a => ⟨hi, a, ho _, f5 a, fun b => ⟨fun c => ?_, fun c => ⟨f6 a b (fun d => absurd d c), f0 a b (fun d => absurd d c)⟩⟩⟩, fe⟩
      rw [hw c a]
      exact ⟨by omega, by omega, f7 a b c, fun d => ⟨f6 a b (fun _ => by simpa using d), f0 a b (fun _ => by simpa using d)⟩⟩
set_option maxHeartbeats 4000000 in
theorem EventsFault_ctr {cx : Cx} (h : Seat cx) (hU : Utf8 cx) (hM : MaxL cx) : Ctr cx 33 eventsS := by
  refine ctr_of (fn := Tryz.f33) (l := [.tmp 2]) (envL [(76, evS), (77, befS)]) [0, 2, 3, 4, 5, 6, 9, 11, 12, 13, 14, 21, 34, 38] [] [] (envL_cons (eventFault_ctr h hU hM) (envL_cons (before_ctr h) (env0 h.hP))) ?_ (by rw [h.hP]; exact Tryz.func33) rfl (by kernel_rfl) rfl ?_ ?_
  · rw [h.hP]; exact ⟨_, Tryz.func33, by kernel_rfl, by kernel_rfl⟩
  · rintro xs ⟨l, rfl, h1⟩; exact ⟨_, l, rfl, rfl⟩
  · rintro xs ⟨l, rfl, h1⟩
    refine ⟨by rw [Tryz.ntmps33]; simp, ?_⟩
    simp only [go_sem, h.hP, List.cons_append, List.nil_append, Meets_e, Below_e, Prod.exists, exists_eq, exists_eq_left, exists_eq_left', exists_eq_right, exists_eq_right', exists_and_left, exists_and_right, Ob.arr.injEq, AV.own.injEq, AV.fv.injEq, eventsS_q, eventsS_p, eventsS_c, eventsS_f, TEvent.len, Tryz.ntmps33, Nat.reduceEqDiff, reduceCtorEq, Nat.reduceMul, Nat.reduceAdd, Nat.reduceSub, Nat.reduceDiv, Nat.reduceMod, Nat.reduceLeDiff, Nat.reduceLT, Nat.reduceBNe, Nat.reduceBEq, reduceIte, Int.reduceLE, Int.reduceLT, Int.reduceToNat, Int.reduceNeg, Int.reduceAdd, Int.reduceSub, Int.reduceMul, Int.reduceEq]
    refine ⟨fun c => (if_pos c).symm, fun c => ?_⟩
    have hc : eventsF l = firstI l.length (evE l) := if_neg c
    rw [hc]
    refine vc_loopS (Int) (fun (i : Int) => [(13, .i i)]) [] (fun (i : Int) => []) (fun (i : Int) => [(10, .mp 122 (seenM (l.take i.toNat)))]) (fun (i : Int) => 0) (fun (i : Int) => Rounds l.length (evE l) i) (fun (i : Int) => (l.length - i).toNat) [] ?_ ?_
    · simp only [go_sem, h.hP, List.cons_append, List.nil_append, Meets_e, Below_e, Prod.exists, exists_eq, exists_eq_left, exists_eq_left', exists_eq_right, exists_eq_right', exists_and_left, exists_and_right, Ob.arr.injEq, AV.own.injEq, AV.fv.injEq, Tryz.ntmps33, Nat.reduceEqDiff, reduceCtorEq, Nat.reduceMul, Nat.reduceAdd, Nat.reduceSub, Nat.reduceDiv, Nat.reduceMod, Nat.reduceLeDiff, Nat.reduceLT, Nat.reduceBNe, Nat.reduceBEq, reduceIte, Int.reduceLE, Int.reduceLT, Int.reduceToNat, Int.reduceNeg, Int.reduceAdd, Int.reduceSub, Int.reduceMul, Int.reduceEq]
      exact ⟨rfl, Rounds.start⟩
    · rintro i hr
      obtain ⟨hi, hw, f5, f7, f6, f0, fe⟩ := check_round h1 hr
      have ho := okL_get h1 TEvent.z_ok
      simp only [go_sem, h.hP, List.cons_append, List.nil_append, Meets_e, Below_e, Prod.exists, exists_eq, exists_eq_left, exists_eq_left', exists_eq_right, exists_eq_right', exists_and_left, exists_and_right, Ob.arr.injEq, AV.own.injEq, AV.fv.injEq, eventsS_q, eventsS_p, eventsS_c, eventsS_f, evS_q, evS_p, evS_c, evS_f, befS_q, befS_p, befS_c, befS_f, TEvent.row, TEvent.len, TEvent.get, mget_seen, Tryz.ntmps33, Nat.reduceEqDiff, reduceCtorEq, Nat.reduceMul, Nat.reduceAdd, Nat.reduceSub, Nat.reduceDiv, Nat.reduceMod, Nat.reduceLeDiff, Nat.reduceLT, Nat.reduceBNe, Nat.reduceBEq, reduceIte, Int.reduceLE, Int.reduceLT, Int.reduceToNat, Int.reduceNeg, Int.reduceAdd, Int.reduceSub, Int.reduceMul, Int.reduceEq]
      refine ⟨fun a => ⟨hi, a, ho _, f5 a, fun b => ⟨fun c => ?_, fun c => ⟨f6 a b (fun d => absurd d c), f0 a b (fun d => absurd d c)⟩⟩⟩, fe⟩
      rw [hw c a]
      exact ⟨by omega, by omega, f7 a b c, fun d => ⟨f6 a b (fun _ => by simpa using d), f0 a b (fun _ => by simpa using d)⟩⟩
/-! ### What holds of events that are right -/
theorem ev_right {l : List TEvent} (h : eventsF l = 0) : l.length ≤ 5000 ∧ (∀ i, i < l.length → evF (l.getD i TEvent.z) = 0) ∧ ∀ i, 0 < i → i < l.length → befB (l.getD (i - 1) TEvent.z) (l.getD i TEvent.z) = true := by
  unfold eventsF at h
  split at h
  · cases h
  · rename_i hl
    have key := fun i (hi : i < l.length) => firstI_zero h i hi
    have h1 : ∀ i, i < l.length → evF (l.getD i TEvent.z) = 0 := fun i hi => by
      have := key i hi
      unfold evE at this
      split at this
      · rename_i c; exact absurd this c
      · rename_i c; exact Decidable.not_not.1 c
    refine ⟨by omega, h1, fun i h0 hi => ?_⟩
    have := key i hi
    unfold evE at this
    rw [if_neg (fun z => z (h1 i hi))] at this
    split at this
    · cases this
    · rename_i c
      cases hb : befB (l.getD (i - 1) TEvent.z) (l.getD i TEvent.z) with
      | true => rfl
      | false => exact absurd ⟨by omega, hb⟩ c
end Go.Avc

namespace Go.Avc
open Go Go.Proofs

def winE (w : TWindow) : Int := if 0 ≤ w.from_ ∧ w.from_ ≤ w.to_ ∧ w.to_ ≤ 4321440 then 0 else 1
def winS  : Spec where
  pre xs := ∃ (w : TWindow), xs = [.dv (.ag w.row)]
  post xs y := ∃ (w : TWindow), xs = [.dv (.ag w.row)] ∧ y = .i (winE w)
  cost _ := 0
  fresh := true
theorem winS_c  (xs : List AV) : (winS).cost xs = 0 := nr rfl
theorem winS_f  : (winS).fresh = true := nr rfl
theorem winS_q  (w : TWindow) : (winS).pre [.dv (.ag [.int .i64 w.from_, .int .i64 w.to_])] = (True) := propext ⟨fun h => by
  have h' : ∃ (w' : TWindow), ([.dv (.ag w.row)] : List AV) = [.dv (.ag w'.row)] := h
  obtain ⟨w', e⟩ := h'
  simp only [List.cons.injEq, AV.dv.injEq, AV.dp.injEq, AV.fv.injEq, DV.d.injEq, DV.ag.injEq, D.int.injEq, D.str.injEq, D.bool.injEq, D.sl.injEq, true_and, and_true, intsDi_inj, rowsT_inj, rowsKi_inj, TWindow.row_inj, TWindow.rows_inj] at e
  obtain rfl := e
  exact trivial, fun h => ⟨w, rfl⟩⟩
theorem winS_p  (w : TWindow) : (winS).post [.dv (.ag [.int .i64 w.from_, .int .i64 w.to_])] = fun y => y = .i (winE w) := funext fun y => propext ⟨fun h => by
  have h' : ∃ (w' : TWindow), ([.dv (.ag w.row)] : List AV) = [.dv (.ag w'.row)] ∧ y = .i (winE w') := h
  obtain ⟨w', e, h⟩ := h'
  simp only [List.cons.injEq, AV.dv.injEq, AV.dp.injEq, AV.fv.injEq, DV.d.injEq, DV.ag.injEq, D.int.injEq, D.str.injEq, D.bool.injEq, D.sl.injEq, true_and, and_true, intsDi_inj, rowsT_inj, rowsKi_inj, TWindow.row_inj, TWindow.rows_inj] at e
  obtain rfl := e
  exact h, fun h => ⟨w, rfl, h⟩⟩
theorem checkWindow_ctr {cx : Cx} (h : Seat cx) : Ctr cx 110 winS := by
  refine ctr_of (fn := Tryz.f110) (l := [.tmp 2]) (envL []) [0, 1, 2, 17] [] [] (env0 h.hP) ?_ (by rw [h.hP]; exact Tryz.func110) rfl (by kernel_rfl) rfl ?_ ?_
  · rw [h.hP]; exact ⟨_, Tryz.func110, by kernel_rfl, by kernel_rfl⟩
  · rintro xs ⟨w, rfl⟩; exact ⟨_, w, rfl, rfl⟩
  · rintro xs ⟨w, rfl⟩
    refine ⟨by rw [Tryz.ntmps110]; simp, ?_⟩
    simp only [go_sem, h.hP, List.cons_append, List.nil_append, Meets_e, Below_e, Prod.exists, exists_eq, exists_eq_left, exists_eq_left', exists_eq_right, exists_eq_right', exists_and_left, exists_and_right, Ob.arr.injEq, AV.own.injEq, AV.fv.injEq, winS_q, winS_p, winS_c, winS_f, TWindow.row, Tryz.ntmps110, Nat.reduceEqDiff, reduceCtorEq, Nat.reduceMul, Nat.reduceAdd, Nat.reduceSub, Nat.reduceDiv, Nat.reduceMod, Nat.reduceLeDiff, Nat.reduceLT, Nat.reduceBNe, Nat.reduceBEq, reduceIte, Int.reduceLE, Int.reduceLT, Int.reduceToNat, Int.reduceNeg, Int.reduceAdd, Int.reduceSub, Int.reduceMul, Int.reduceEq]
    unfold winE
    ((repeat' (first | with_reducible apply And.intro | with_reducible intro)) <;> (split <;> omega))
theorem WindowFault_ctr {cx : Cx} (h : Seat cx) : Ctr cx 50 winS := by
  refine ctr_of (fn := Tryz.f50) (l := [.tmp 2]) (envL [(57, inS)]) [0, 1, 2, 13] [] [] (envL_cons (in_ctr h) (env0 h.hP)) ?_ (by rw [h.hP]; exact Tryz.func50) rfl (by kernel_rfl) rfl ?_ ?_
  · rw [h.hP]; exact ⟨_, Tryz.func50, by kernel_rfl, by kernel_rfl⟩
  · rintro xs ⟨w, rfl⟩; exact ⟨_, w, rfl, rfl⟩
  · rintro xs ⟨w, rfl⟩
    refine ⟨by rw [Tryz.ntmps50]; simp, ?_⟩
    simp only [go_sem, h.hP, List.cons_append, List.nil_append, Meets_e, Below_e, Prod.exists, exists_eq, exists_eq_left, exists_eq_left', exists_eq_right, exists_eq_right', exists_and_left, exists_and_right, Ob.arr.injEq, AV.own.injEq, AV.fv.injEq, winS_q, winS_p, winS_c, winS_f, inS_q, inS_p, inS_c, inS_f, TWindow.row, Tryz.ntmps50, Nat.reduceEqDiff, reduceCtorEq, Nat.reduceMul, Nat.reduceAdd, Nat.reduceSub, Nat.reduceDiv, Nat.reduceMod, Nat.reduceLeDiff, Nat.reduceLT, Nat.reduceBNe, Nat.reduceBEq, reduceIte, Int.reduceLE, Int.reduceLT, Int.reduceToNat, Int.reduceNeg, Int.reduceAdd, Int.reduceSub, Int.reduceMul, Int.reduceEq]
    unfold winE inB
    simp only [decide_eq_true_eq, decide_eq_false_iff_not]
    ((repeat' (first | with_reducible apply And.intro | with_reducible intro)) <;> (split <;> omega))
def nameE (l : List ByteArray) (i : Nat) : Int := if keyB (l.getD i ⟨#[]⟩) = false then 5 else 0
def namesF (l : List ByteArray) : Int := firstI l.length (nameE l)
def namesS  : Spec where
  pre xs := ∃ (l : List ByteArray), xs = [.sl (rowsT l)] ∧ (okL okS l)
  post xs y := ∃ (l : List ByteArray), xs = [.sl (rowsT l)] ∧ y = .i (namesF l)
  cost _ := 0
  fresh := true
theorem namesS_c  (xs : List AV) : (namesS).cost xs = 0 := nr rfl
theorem namesS_f  : (namesS).fresh = true := nr rfl
theorem namesS_q  (l : List ByteArray) : (namesS).pre [.sl (rowsT l)] = (okL okS l) := propext ⟨fun h => by
  have h' : ∃ (l' : List ByteArray), ([.sl (rowsT l)] : List AV) = [.sl (rowsT l')] ∧ (okL okS l') := h
  obtain ⟨l', e, h⟩ := h'
  simp only [List.cons.injEq, AV.dv.injEq, AV.dp.injEq, AV.fv.injEq, DV.d.injEq, DV.ag.injEq, D.int.injEq, D.str.injEq, D.bool.injEq, D.sl.injEq, true_and, and_true, intsDi_inj, rowsT_inj, rowsKi_inj] at e
  obtain rfl := e
  exact h, fun h => ⟨l, rfl, h⟩⟩
theorem namesS_p  (l : List ByteArray) : (namesS).post [.sl (rowsT l)] = fun y => y = .i (namesF l) := funext fun y => propext ⟨fun h => by
  have h' : ∃ (l' : List ByteArray), ([.sl (rowsT l)] : List AV) = [.sl (rowsT l')] ∧ y = .i (namesF l') := h
  obtain ⟨l', e, h⟩ := h'
  simp only [List.cons.injEq, AV.dv.injEq, AV.dp.injEq, AV.fv.injEq, DV.d.injEq, DV.ag.injEq, D.int.injEq, D.str.injEq, D.bool.injEq, D.sl.injEq, true_and, and_true, intsDi_inj, rowsT_inj, rowsKi_inj] at e
  obtain rfl := e
  exact h, fun h => ⟨l, rfl, h⟩⟩
theorem nameFault_ctr {cx : Cx} (h : Seat cx) : Ctr cx 22 namesS := by
  refine ctr_of (fn := Tryz.f22) (l := [.tmp 2]) (envL [(65, (strB keyB))]) [0, 2, 4, 5, 6, 7, 8, 13] [] [] (envL_cons (Key_ctr h) (env0 h.hP)) ?_ (by rw [h.hP]; exact Tryz.func22) rfl (by kernel_rfl) rfl ?_ ?_
  · rw [h.hP]; exact ⟨_, Tryz.func22, by kernel_rfl, by kernel_rfl⟩
  · rintro xs ⟨l, rfl, h1⟩; exact ⟨_, l, rfl, rfl⟩
  · rintro xs ⟨l, rfl, h1⟩
    refine ⟨by rw [Tryz.ntmps22]; simp, ?_⟩
    simp only [go_sem, h.hP, List.cons_append, List.nil_append, Meets_e, Below_e, Prod.exists, exists_eq, exists_eq_left, exists_eq_left', exists_eq_right, exists_eq_right', exists_and_left, exists_and_right, Ob.arr.injEq, AV.own.injEq, AV.fv.injEq, namesS_q, namesS_p, namesS_c, namesS_f, rowsT_len, Tryz.ntmps22, Nat.reduceEqDiff, reduceCtorEq, Nat.reduceMul, Nat.reduceAdd, Nat.reduceSub, Nat.reduceDiv, Nat.reduceMod, Nat.reduceLeDiff, Nat.reduceLT, Nat.reduceBNe, Nat.reduceBEq, reduceIte, Int.reduceLE, Int.reduceLT, Int.reduceToNat, Int.reduceNeg, Int.reduceAdd, Int.reduceSub, Int.reduceMul, Int.reduceEq]
    refine vc_loopS (Int) (fun (i : Int) => [(7, .i i)]) [] (fun (i : Int) => []) (fun (i : Int) => []) (fun (i : Int) => 0) (fun (i : Int) => Rounds l.length (nameE l) i) (fun (i : Int) => (l.length - i).toNat) [] ?_ ?_
    · simp only [go_sem, h.hP, List.cons_append, List.nil_append, Meets_e, Below_e, Prod.exists, exists_eq, exists_eq_left, exists_eq_left', exists_eq_right, exists_eq_right', exists_and_left, exists_and_right, Ob.arr.injEq, AV.own.injEq, AV.fv.injEq, Tryz.ntmps22, Nat.reduceEqDiff, reduceCtorEq, Nat.reduceMul, Nat.reduceAdd, Nat.reduceSub, Nat.reduceDiv, Nat.reduceMod, Nat.reduceLeDiff, Nat.reduceLT, Nat.reduceBNe, Nat.reduceBEq, reduceIte, Int.reduceLE, Int.reduceLT, Int.reduceToNat, Int.reduceNeg, Int.reduceAdd, Int.reduceSub, Int.reduceMul, Int.reduceEq]
      exact Rounds.start
    · rintro i hr
      obtain ⟨hi, hS, hM, hE, hN⟩ := hr.use (by have := h1.1; omega)
      have ho : okS (l.getD i.toNat ⟨#[]⟩) := okL_get h1 okS_z _
      simp only [go_sem, h.hP, List.cons_append, List.nil_append, Meets_e, Below_e, Prod.exists, exists_eq, exists_eq_left, exists_eq_left', exists_eq_right, exists_eq_right', exists_and_left, exists_and_right, Ob.arr.injEq, AV.own.injEq, AV.fv.injEq, namesS_q, namesS_p, namesS_c, namesS_f, strB_q, strB_p, strB_c, strB_f, rowsT_len, rowsT_get, Tryz.ntmps22, Nat.reduceEqDiff, reduceCtorEq, Nat.reduceMul, Nat.reduceAdd, Nat.reduceSub, Nat.reduceDiv, Nat.reduceMod, Nat.reduceLeDiff, Nat.reduceLT, Nat.reduceBNe, Nat.reduceBEq, reduceIte, Int.reduceLE, Int.reduceLT, Int.reduceToNat, Int.reduceNeg, Int.reduceAdd, Int.reduceSub, Int.reduceMul, Int.reduceEq]
      unfold okS at ho
      exact ⟨fun a => ⟨hi, a, by omega, fun b => (hE 5 a (if_pos b) (by decide)).symm, fun b => ⟨hS a (if_neg (ne_ft b)), hM a⟩⟩, fun a => (hN a).symm⟩
def cnS  : Spec where
  pre xs := ∃ (l : List TEvent) (w : TWindow) (ns : List ByteArray), xs = [.sl (TEvent.rows l), .dv (.ag w.row), .sl (rowsT ns)] ∧ (okL TEvent.ok l ∧ okL okS ns)
  post xs y := ∃ (l : List TEvent) (w : TWindow) (ns : List ByteArray), xs = [.sl (TEvent.rows l), .dv (.ag w.row), .sl (rowsT ns)] ∧ y = .i (orE (eventsF l) (orE (namesF ns) (winE w)))
  cost _ := 0
  fresh := true
theorem cnS_c  (xs : List AV) : (cnS).cost xs = 0 := nr rfl
theorem cnS_f  : (cnS).fresh = true := nr rfl
theorem cnS_q  (l : List TEvent) (w : TWindow) (ns : List ByteArray) : (cnS).pre [.sl (TEvent.rows l), .dv (.ag [.int .i64 w.from_, .int .i64 w.to_]), .sl (rowsT ns)] = (okL TEvent.ok l ∧ okL okS ns) := propext ⟨fun h => by
  have h' : ∃ (l' : List TEvent) (w' : TWindow) (ns' : List ByteArray), ([.sl (TEvent.rows l), .dv (.ag w.row), .sl (rowsT ns)] : List AV) = [.sl (TEvent.rows l'), .dv (.ag w'.row), .sl (rowsT ns')] ∧ (okL TEvent.ok l' ∧ okL okS ns') := h
  obtain ⟨l', w', ns', e, h⟩ := h'
  simp only [List.cons.injEq, AV.dv.injEq, AV.dp.injEq, AV.fv.injEq, DV.d.injEq, DV.ag.injEq, D.int.injEq, D.str.injEq, D.bool.injEq, D.sl.injEq, true_and, and_true, intsDi_inj, rowsT_inj, rowsKi_inj, TEvent.row_inj, TEvent.rows_inj, TWindow.row_inj, TWindow.rows_inj] at e
  obtain ⟨rfl, rfl, rfl⟩ := e
  exact h, fun h => ⟨l, w, ns, rfl, h⟩⟩
theorem cnS_p  (l : List TEvent) (w : TWindow) (ns : List ByteArray) : (cnS).post [.sl (TEvent.rows l), .dv (.ag [.int .i64 w.from_, .int .i64 w.to_]), .sl (rowsT ns)] = fun y => y = .i (orE (eventsF l) (orE (namesF ns) (winE w))) := funext fun y => propext ⟨fun h => by
  have h' : ∃ (l' : List TEvent) (w' : TWindow) (ns' : List ByteArray), ([.sl (TEvent.rows l), .dv (.ag w.row), .sl (rowsT ns)] : List AV) = [.sl (TEvent.rows l'), .dv (.ag w'.row), .sl (rowsT ns')] ∧ y = .i (orE (eventsF l') (orE (namesF ns') (winE w'))) := h
  obtain ⟨l', w', ns', e, h⟩ := h'
  simp only [List.cons.injEq, AV.dv.injEq, AV.dp.injEq, AV.fv.injEq, DV.d.injEq, DV.ag.injEq, D.int.injEq, D.str.injEq, D.bool.injEq, D.sl.injEq, true_and, and_true, intsDi_inj, rowsT_inj, rowsKi_inj, TEvent.row_inj, TEvent.rows_inj, TWindow.row_inj, TWindow.rows_inj] at e
  obtain ⟨rfl, rfl, rfl⟩ := e
  exact h, fun h => ⟨l, w, ns, rfl, h⟩⟩
theorem checkNamed_ctr {cx : Cx} (h : Seat cx) (hU : Utf8 cx) (hM : MaxL cx) : Ctr cx 62 cnS := by
  refine ctr_of (fn := Tryz.f62) (l := [.tmp 6]) (envL [(32, eventsS), (90, (strB keyB)), (110, winS)]) [0, 1, 2, 4, 6, 7, 9, 13, 15, 16, 17, 18, 23] [] [] (envL_cons (ECheck_ctr h hU hM) (envL_cons (IsKey_ctr h) (envL_cons (checkWindow_ctr h) (env0 h.hP)))) ?_ (by rw [h.hP]; exact Tryz.func62) rfl (by kernel_rfl) rfl ?_ ?_
  · rw [h.hP]; exact ⟨_, Tryz.func62, by kernel_rfl, by kernel_rfl⟩
  · rintro xs ⟨l, w, ns, rfl, h1⟩; exact ⟨_, l, w, ns, rfl, rfl⟩
  · rintro xs ⟨l, w, ns, rfl, h1, h2⟩
    refine ⟨by rw [Tryz.ntmps62]; simp, ?_⟩
    simp only [go_sem, h.hP, List.cons_append, List.nil_append, Meets_e, Below_e, Prod.exists, exists_eq, exists_eq_left, exists_eq_left', exists_eq_right, exists_eq_right', exists_and_left, exists_and_right, Ob.arr.injEq, AV.own.injEq, AV.fv.injEq, cnS_q, cnS_p, cnS_c, cnS_f, eventsS_q, eventsS_p, eventsS_c, eventsS_f, TWindow.row, rowsT_len, Tryz.ntmps62, Nat.reduceEqDiff, reduceCtorEq, Nat.reduceMul, Nat.reduceAdd, Nat.reduceSub, Nat.reduceDiv, Nat.reduceMod, Nat.reduceLeDiff, Nat.reduceLT, Nat.reduceBNe, Nat.reduceBEq, reduceIte, Int.reduceLE, Int.reduceLT, Int.reduceToNat, Int.reduceNeg, Int.reduceAdd, Int.reduceSub, Int.reduceMul, Int.reduceEq]
    refine ⟨h1, fun c => (orE_l c).symm, fun c => ?_⟩
    rw [orE_r c]
    refine vc_loopS (Int) (fun (i : Int) => [(17, .i i)]) [4] (fun (i : Int) => []) (fun (i : Int) => []) (fun (i : Int) => 0) (fun (i : Int) => Rounds ns.length (nameE ns) i) (fun (i : Int) => (ns.length - i).toNat) [] ?_ ?_
    · simp only [go_sem, h.hP, List.cons_append, List.nil_append, Meets_e, Below_e, Prod.exists, exists_eq, exists_eq_left, exists_eq_left', exists_eq_right, exists_eq_right', exists_and_left, exists_and_right, Ob.arr.injEq, AV.own.injEq, AV.fv.injEq, Tryz.ntmps62, Nat.reduceEqDiff, reduceCtorEq, Nat.reduceMul, Nat.reduceAdd, Nat.reduceSub, Nat.reduceDiv, Nat.reduceMod, Nat.reduceLeDiff, Nat.reduceLT, Nat.reduceBNe, Nat.reduceBEq, reduceIte, Int.reduceLE, Int.reduceLT, Int.reduceToNat, Int.reduceNeg, Int.reduceAdd, Int.reduceSub, Int.reduceMul, Int.reduceEq]
      exact Rounds.start
    · rintro i hr
      obtain ⟨hi, hS, hM2, hE, hN⟩ := hr.use (by have := h2.1; omega)
      have ho : okS (ns.getD i.toNat ⟨#[]⟩) := okL_get h2 okS_z _
      simp only [go_sem, h.hP, List.cons_append, List.nil_append, Meets_e, Below_e, Prod.exists, exists_eq, exists_eq_left, exists_eq_left', exists_eq_right, exists_eq_right', exists_and_left, exists_and_right, Ob.arr.injEq, AV.own.injEq, AV.fv.injEq, cnS_q, cnS_p, cnS_c, cnS_f, strB_q, strB_p, strB_c, strB_f, winS_q, winS_p, winS_c, winS_f, TWindow.row, rowsT_len, rowsT_get, Tryz.ntmps62, Nat.reduceEqDiff, reduceCtorEq, Nat.reduceMul, Nat.reduceAdd, Nat.reduceSub, Nat.reduceDiv, Nat.reduceMod, Nat.reduceLeDiff, Nat.reduceLT, Nat.reduceBNe, Nat.reduceBEq, reduceIte, Int.reduceLE, Int.reduceLT, Int.reduceToNat, Int.reduceNeg, Int.reduceAdd, Int.reduceSub, Int.reduceMul, Int.reduceEq]
      unfold okS at ho
      exact ⟨fun a => ⟨hi, a, by omega, fun b => ((orE_l (by rw [hE 5 a (if_pos b) (by decide)]; decide)).trans (hE 5 a (if_pos b) (by decide))).symm, fun b => ⟨hS a (if_neg (ne_ft b)), hM2 a⟩⟩, fun a => (orE_r (hN a)).symm⟩
def nameG : Spec where
  pre xs := xs = [.st]
  post xs y := ∃ s : ByteArray, okS s ∧ y = .str s
  cost _ := 2
  fresh := false
theorem Name_ctr {cx : Cx} (h : Seat cx) : Ctr cx 19 nameG := by
  refine ctr_of (fn := Tryz.f19) (l := [.tmp 2]) (envL [(26, flipS), (61, oneS)]) [0, 2, 4] [] [] (envL_cons (flip_ctr cx h.hP h.hS) (envL_cons (one_ctr h) (env0 h.hP))) ?_ (by rw [h.hP]; exact Tryz.func19) rfl (by kernel_rfl) rfl ?_ ?_
  · rw [h.hP]; exact ⟨_, Tryz.func19, by kernel_rfl, by kernel_rfl⟩
  · rintro xs rfl; exact ⟨_, ⟨#[]⟩, okS_z, rfl⟩
  · rintro xs rfl
    refine ⟨by rw [Tryz.ntmps19]; simp, ?_⟩
    simp only [go_sem, h.hP, List.cons_append, List.nil_append, Meets_e, Below_e, Prod.exists, exists_eq, exists_eq_left, exists_eq_left', exists_eq_right, exists_eq_right', exists_and_left, exists_and_right, Ob.arr.injEq, AV.own.injEq, AV.fv.injEq, nameG, flipS_q, flipS_p, flipS_c, flipS_f, oneS_q, oneS_p, oneS_c, oneS_f, strs1, strsc, Tryz.ntmps19, Nat.reduceEqDiff, reduceCtorEq, Nat.reduceMul, Nat.reduceAdd, Nat.reduceSub, Nat.reduceDiv, Nat.reduceMod, Nat.reduceLeDiff, Nat.reduceLT, Nat.reduceBNe, Nat.reduceBEq, reduceIte, Int.reduceLE, Int.reduceLT, Int.reduceToNat, Int.reduceNeg, Int.reduceAdd, Int.reduceSub, Int.reduceMul, Int.reduceEq]
    exact fun f => ⟨fun _ s hs => okS_of (isOf_ok hs (by decide +kernel)), fun _ s hs => okS_of (isOf_ok hs (by decide +kernel))⟩
end Go.Avc

namespace Go.Avc
open Go Go.Proofs

theorem enc_size (n : Int) : (Utf8.encode n).size ≤ 4 := by
  unfold Utf8.encode
  dsimp only
  (repeat' split) <;> exact Nat.le_of_ble_eq_true rfl
theorem rsetE (l : List TEvent) (i : Nat) (x : TEvent) : (TEvent.rows l).set i [.str x.id, .str x.name, .int .i64 x.at_, .int .i64 x.who.kind, .str x.who.text, .sl (TField.rows x.fields)] = TEvent.rows (l.set i x) := TEvent.rset l i x
theorem eok_set {l : List TEvent} (h : ∀ c ∈ l, c.ok) {n : Nat} {x : TEvent} (hx : x.ok) : ∀ c ∈ l.set n x, c.ok := fun c hc => by
  rcases List.mem_or_eq_of_mem_set hc with hc | rfl
  · exact h c hc
  · exact hx
theorem eok_get {l : List TEvent} (h : ∀ c ∈ l, c.ok) (n : Nat) : (l.getD n TEvent.z).ok := by
  rw [List.getD_eq_getElem?_getD]
  cases e : l[n]? with
  | none => exact TEvent.z_ok
  | some x => exact h x (List.mem_of_getElem? e)
def eidS : Spec where
  pre xs := ∃ i : Int, xs = [.i i] ∧ 0 ≤ i ∧ i ≤ 1000
  post xs y := ∃ s : ByteArray, okS s ∧ y = .str s
  cost _ := 0
  fresh := true
theorem eventId_ctr {cx : Cx} (h : Seat cx) : Ctr cx 73 eidS := by
  refine ctr_of (fn := Tryz.f73) (l := [.tmp 2]) (envL []) [0, 2] [] [] (env0 h.hP) ?_ (by rw [h.hP]; exact Tryz.func73) rfl (by kernel_rfl) rfl ?_ ?_
  · rw [h.hP]; exact ⟨_, Tryz.func73, by kernel_rfl, by kernel_rfl⟩
  · rintro xs ⟨i, rfl, h1⟩; exact ⟨_, ⟨#[]⟩, okS_z, rfl⟩
  · rintro xs ⟨i, rfl, h1, h2⟩
    refine ⟨by rw [Tryz.ntmps73]; simp, ?_⟩
    simp only [go_sem, h.hP, List.cons_append, List.nil_append, Meets_e, Below_e, Prod.exists, exists_eq, exists_eq_left, exists_eq_left', exists_eq_right, exists_eq_right', exists_and_left, exists_and_right, Ob.arr.injEq, AV.own.injEq, AV.fv.injEq, eidS, Tryz.ntmps73, Nat.reduceEqDiff, reduceCtorEq, Nat.reduceMul, Nat.reduceAdd, Nat.reduceSub, Nat.reduceDiv, Nat.reduceMod, Nat.reduceLeDiff, Nat.reduceLT, Nat.reduceBNe, Nat.reduceBEq, reduceIte, Int.reduceLE, Int.reduceLT, Int.reduceToNat, Int.reduceNeg, Int.reduceAdd, Int.reduceSub, Int.reduceMul, Int.reduceEq]
    have e1 := enc_size (IntKind.i32.wrap (IntKind.i64.wrap (97 + (IntKind.i64.wrap (i.tdiv 26)).tmod 26)))
    have e2 := enc_size (IntKind.i32.wrap (IntKind.i64.wrap (97 + i.tmod 26)))
    generalize Utf8.encode (IntKind.i32.wrap (IntKind.i64.wrap (97 + (IntKind.i64.wrap (i.tdiv 26)).tmod 26))) = a at e1
    generalize Utf8.encode (IntKind.i32.wrap (IntKind.i64.wrap (97 + i.tmod 26))) = b at e2
    refine ⟨by omega, by omega, okS_of ?_⟩
    rw [ByteArray.size_append, ByteArray.size_append]
    have : (⟨#[101]⟩ : ByteArray).size = 1 := rfl
    omega
def eventsG : Spec where
  pre xs := ∃ m : Int, xs = [.st, .i m] ∧ m ≤ 20
  post xs y := ∃ (m : Int) (l : List TEvent), xs = [.st, .i m] ∧ l.length ≤ 20 ∧ (∀ x ∈ l, x.ok) ∧ y = .sl (TEvent.rows l)
  cost _ := 2000
  fresh := false
set_option maxHeartbeats 8000000 in
theorem Events_own {cx : Cx} (h : Seat cx) (hN : cx.glob 2 = some namesD) (hI : cx.glob 0 = some poolD) (hE : cx.glob 1 = some evNamesD) : CtrO cx 31 eventsG 52 6 := by
  refine ctrO_of (fn := Tryz.f31) (t := 4) (envL [(12, pickS), (26, flipS), (72, eventG), (73, eidS)]) [0, 1, 4, 5, 6, 7, 11, 12, 13, 34] [] [(10, [0, 1, 2, 5], [3, 4, 6, 7, 8, 9, 10, 11])] (envL_cons (pick_ctr cx h.hP h.hS) (envL_cons (flip_ctr cx h.hP h.hS) (envL_cons (Event_ctr h hN hI hE) (envL_cons (eventId_ctr h) (env0 h.hP))))) ?_ (by rw [h.hP]; exact Tryz.func31) rfl (by kernel_rfl) rfl ?_ (by decide)
  · rw [h.hP]; exact ⟨_, Tryz.func31, by kernel_rfl, by kernel_rfl⟩
  · rintro xs ⟨m, rfl, h1⟩
    refine ⟨by rw [Tryz.ntmps31]; simp, ?_⟩
    simp only [go_sem, h.hP, List.cons_append, List.nil_append, Meets_e, Below_e, Prod.exists, exists_eq, exists_eq_left, exists_eq_left', exists_eq_right, exists_eq_right', exists_and_left, exists_and_right, Ob.arr.injEq, AV.own.injEq, AV.fv.injEq, eventsG, pickS_q, pickS_p, pickS_c, pickS_f, ints1, intsc, Tryz.ntmps31, Nat.reduceEqDiff, reduceCtorEq, Nat.reduceMul, Nat.reduceAdd, Nat.reduceSub, Nat.reduceDiv, Nat.reduceMod, Nat.reduceLeDiff, Nat.reduceLT, Nat.reduceBNe, Nat.reduceBEq, reduceIte, Int.reduceLE, Int.reduceLT, Int.reduceToNat, Int.reduceNeg, Int.reduceAdd, Int.reduceSub, Int.reduceMul, Int.reduceEq]
    intro a0 ha0
    have ha : 0 ≤ a0 ∧ a0 ≤ 1000 := by
      simp only [isIn, List.mem_cons, List.not_mem_nil, or_false] at ha0
      omega
    refine vc_loopS (Int × Int × List TEvent) (fun (x : Int × Int × List TEvent) => match x with | (i, n, l) => [(12, .i i), (6, .i n), (5, .own 5)]) [] (fun (x : Int × Int × List TEvent) => match x with | (i, n, l) => []) (fun (x : Int × Int × List TEvent) => match x with | (i, n, l) => [(5, .arr 52 6 (TEvent.rows l))]) (fun (x : Int × Int × List TEvent) => match x with | (i, n, l) => 81 * i.toNat + 1) (fun (x : Int × Int × List TEvent) => match x with | (i, n, l) => 0 ≤ i ∧ i ≤ max 0 m ∧ (l.length : Int) = i ∧ 0 ≤ n ∧ n ≤ 1000 + 1440 * i ∧ ∀ c ∈ l, c.ok) (fun (x : Int × Int × List TEvent) => match x with | (i, n, l) => (m - i).toNat) [(5, 52, 6)] ?_ ?_
    · simp only [go_sem, h.hP, List.cons_append, List.nil_append, Meets_e, Below_e, Prod.exists, exists_eq, exists_eq_left, exists_eq_left', exists_eq_right, exists_eq_right', exists_and_left, exists_and_right, Ob.arr.injEq, AV.own.injEq, AV.fv.injEq, TEvent.nil2, Tryz.ntmps31, Nat.reduceEqDiff, reduceCtorEq, Nat.reduceMul, Nat.reduceAdd, Nat.reduceSub, Nat.reduceDiv, Nat.reduceMod, Nat.reduceLeDiff, Nat.reduceLT, Nat.reduceBNe, Nat.reduceBEq, reduceIte, Int.reduceLE, Int.reduceLT, Int.reduceToNat, Int.reduceNeg, Int.reduceAdd, Int.reduceSub, Int.reduceMul, Int.reduceEq]
      exact ⟨by omega, rfl, ha.1, ha.2⟩
    · rintro ⟨i, n, l⟩ ⟨j1, j2, j3, j4, j5, j6⟩
      have hw : IntKind.i64.wrap (i + 1) = i + 1 := i64w (by omega) (by omega)
      simp only [go_sem, h.hP, List.cons_append, List.nil_append, Meets_e, Below_e, Prod.exists, exists_eq, exists_eq_left, exists_eq_left', exists_eq_right, exists_eq_right', exists_and_left, exists_and_right, Ob.arr.injEq, AV.own.injEq, AV.fv.injEq, eventsG, eventG, eidS, pickS_q, pickS_p, pickS_c, pickS_f, flipS_q, flipS_p, flipS_c, flipS_f, ints1, intsc, TEvent.row, TEvent.fold1, TEvent.app', TEvent.rows_inj, TEvent.zlT, TEvent.len, TEvent.get, rsetE, List.length_append, List.length_singleton, List.length_set, List.drop_succ_cons, List.drop_zero, List.drop_nil, hw, Tryz.ntmps31, Nat.reduceEqDiff, reduceCtorEq, Nat.reduceMul, Nat.reduceAdd, Nat.reduceSub, Nat.reduceDiv, Nat.reduceMod, Nat.reduceLeDiff, Nat.reduceLT, Nat.reduceBNe, Nat.reduceBEq, reduceIte, Int.reduceLE, Int.reduceLT, Int.reduceToNat, Int.reduceNeg, Int.reduceAdd, Int.reduceSub, Int.reduceMul, Int.reduceEq]
      have b1 : 81 * i.toNat ≤ 1918 := by omega
      have b2 : 81 * i.toNat ≤ 1998 := by omega
      have b3 : 81 * i.toNat ≤ 1999 := by omega
      have b4 : (l.length + 1) * 88 ≤ 140737488355328 := by omega
      have b5 : l.length ≤ 9223372036854775806 := by omega
      have b6 : (l.length : Int) ≤ 20 := by omega
      clear hw
      simp only [b1, b2, b3, b4, b5, true_and]
      refine ⟨fun c a ha1 => ⟨j1, by omega, fun s hs => ⟨hs, ?_, fun e he => ?_⟩⟩, fun c => ?_⟩
      · have ha2 : 0 ≤ a ∧ a ≤ 1440 := by
          simp only [isIn, List.mem_cons, List.not_mem_nil, or_false] at ha1
          omega
        rw [i64w (by omega) (by omega)]
        exact ⟨by omega, by omega⟩
      · have ha2 : 0 ≤ a ∧ a ≤ 1440 := by
          simp only [isIn, List.mem_cons, List.not_mem_nil, or_false] at ha1
          omega
        rw [i64w (by omega) (by omega)]
        exact ⟨by omega, by omega, by omega, by omega, by omega, by omega, okL_app j6 he, by omega⟩
      · refine ⟨fun d f => ⟨fun _ => ⟨by omega, by omega, by omega, by omega, by omega, by omega, by omega, by omega, _, ?_, eok_set (eok_set j6 (eok_get j6 1)) (eok_get j6 0), rfl⟩, fun _ => ⟨l, by omega, j6, rfl⟩⟩, fun _ => ⟨l, by omega, j6, rfl⟩⟩
        rw [List.length_set, List.length_set]
        omega
def anyB : Spec where
  pre xs := ∃ e : TEvent, xs = [.dv (.ag e.row)] ∧ e.ok
  post xs y := ∃ b : Bool, y = .b b
  cost _ := 0
  fresh := true
theorem Right1_ctr {cx : Cx} (h : Seat cx) (hU : Utf8 cx) (hM : MaxL cx) : Ctr cx 105 anyB := by
  refine ctr_of (fn := Tryz.f105) (l := [.tmp 2]) (envL [(33, eventsS)]) [0, 1, 2] [] [] (envL_cons (EventsFault_ctr h hU hM) (env0 h.hP)) ?_ (by rw [h.hP]; exact Tryz.func105) rfl (by kernel_rfl) rfl ?_ ?_
  · rw [h.hP]; exact ⟨_, Tryz.func105, by kernel_rfl, by kernel_rfl⟩
  · rintro xs ⟨e, rfl, h1⟩; exact ⟨_, true, rfl⟩
  · rintro xs ⟨e, rfl, h1⟩
    refine ⟨by rw [Tryz.ntmps105]; simp, ?_⟩
    simp only [go_sem, h.hP, List.cons_append, List.nil_append, Meets_e, Below_e, Prod.exists, exists_eq, exists_eq_left, exists_eq_left', exists_eq_right, exists_eq_right', exists_and_left, exists_and_right, Ob.arr.injEq, AV.own.injEq, AV.fv.injEq, anyB, eventsS_q, eventsS_p, eventsS_c, eventsS_f, TEvent.row, TEvent.fold1, TEvent.rows_inj, Tryz.ntmps105, Nat.reduceEqDiff, reduceCtorEq, Nat.reduceMul, Nat.reduceAdd, Nat.reduceSub, Nat.reduceDiv, Nat.reduceMod, Nat.reduceLeDiff, Nat.reduceLT, Nat.reduceBNe, Nat.reduceBEq, reduceIte, Int.reduceLE, Int.reduceLT, Int.reduceToNat, Int.reduceNeg, Int.reduceAdd, Int.reduceSub, Int.reduceMul, Int.reduceEq]
    exact okL_one h1
end Go.Avc

namespace Go.Avc
open Go Go.Proofs
open Classical in
noncomputable def eqFB (l m : List TField) : Bool := decide (l = m)
open Classical in
theorem eqFB_t {l m : List TField} (h : l = m) : eqFB l m = true := by unfold eqFB; exact decide_eq_true h
open Classical in
theorem eqFB_f {l m : List TField} (h : ¬ l = m) : eqFB l m = false := by unfold eqFB; exact decide_eq_false h
def eqFS  : Spec where
  pre xs := ∃ (l : List TField) (m : List TField), xs = [.sl (TField.rows l), .sl (TField.rows m)] ∧ (l.length ≤ 1048576)
  post xs y := ∃ (l : List TField) (m : List TField), xs = [.sl (TField.rows l), .sl (TField.rows m)] ∧ y = .b (eqFB l m)
  cost _ := 0
  fresh := true
theorem eqFS_c  (xs : List AV) : (eqFS).cost xs = 0 := nr rfl
theorem eqFS_f  : (eqFS).fresh = true := nr rfl
theorem eqFS_q  (l : List TField) (m : List TField) : (eqFS).pre [.sl (TField.rows l), .sl (TField.rows m)] = (l.length ≤ 1048576) := propext ⟨fun h => by
  have h' : ∃ (l' : List TField) (m' : List TField), ([.sl (TField.rows l), .sl (TField.rows m)] : List AV) = [.sl (TField.rows l'), .sl (TField.rows m')] ∧ (l'.length ≤ 1048576) := h
  obtain ⟨l', m', e, h⟩ := h'
  simp only [List.cons.injEq, AV.dv.injEq, AV.dp.injEq, AV.fv.injEq, DV.d.injEq, DV.ag.injEq, D.int.injEq, D.str.injEq, D.bool.injEq, D.sl.injEq, true_and, and_true, intsDi_inj, rowsT_inj, rowsKi_inj, TField.row_inj, TField.rows_inj, TField.row_inj, TField.rows_inj] at e
  obtain ⟨rfl, rfl⟩ := e
  exact h, fun h => ⟨l, m, rfl, h⟩⟩
theorem eqFS_p  (l : List TField) (m : List TField) : (eqFS).post [.sl (TField.rows l), .sl (TField.rows m)] = fun y => y = .b (eqFB l m) := funext fun y => propext ⟨fun h => by
  have h' : ∃ (l' : List TField) (m' : List TField), ([.sl (TField.rows l), .sl (TField.rows m)] : List AV) = [.sl (TField.rows l'), .sl (TField.rows m')] ∧ y = .b (eqFB l' m') := h
  obtain ⟨l', m', e, h⟩ := h'
  simp only [List.cons.injEq, AV.dv.injEq, AV.dp.injEq, AV.fv.injEq, DV.d.injEq, DV.ag.injEq, D.int.injEq, D.str.injEq, D.bool.injEq, D.sl.injEq, true_and, and_true, intsDi_inj, rowsT_inj, rowsKi_inj, TField.row_inj, TField.rows_inj, TField.row_inj, TField.rows_inj] at e
  obtain ⟨rfl, rfl⟩ := e
  exact h, fun h => ⟨l, m, rfl, h⟩⟩
set_option maxHeartbeats 4000000 in
theorem eqF_ctr {cx : Cx} (h : Seat cx) : Ctr cx 66 eqFS := by
  refine ctr_of (fn := Tryz.f66) (l := [.tmp 4]) (envL []) [0, 1, 4, 5, 10, 12, 13, 14, 24] [] [] (env0 h.hP) ?_ (by rw [h.hP]; exact Tryz.func66) rfl (by kernel_rfl) rfl ?_ ?_
  · rw [h.hP]; exact ⟨_, Tryz.func66, by kernel_rfl, by kernel_rfl⟩
  · rintro xs ⟨l, m, rfl, h1⟩; exact ⟨_, l, m, rfl, rfl⟩
  · rintro xs ⟨l, m, rfl, h1⟩
    refine ⟨by rw [Tryz.ntmps66]; simp, ?_⟩
    simp only [go_sem, h.hP, List.cons_append, List.nil_append, Meets_e, Below_e, Prod.exists, exists_eq, exists_eq_left, exists_eq_left', exists_eq_right, exists_eq_right', exists_and_left, exists_and_right, Ob.arr.injEq, AV.own.injEq, AV.fv.injEq, eqFS_q, eqFS_p, eqFS_c, eqFS_f, TField.len, Tryz.ntmps66, Nat.reduceEqDiff, reduceCtorEq, Nat.reduceMul, Nat.reduceAdd, Nat.reduceSub, Nat.reduceDiv, Nat.reduceMod, Nat.reduceLeDiff, Nat.reduceLT, Nat.reduceBNe, Nat.reduceBEq, reduceIte, Int.reduceLE, Int.reduceLT, Int.reduceToNat, Int.reduceNeg, Int.reduceAdd, Int.reduceSub, Int.reduceMul, Int.reduceEq]
    refine ⟨fun c => (eqFB_f (fun e => c (by rw [e]))).symm, fun c => ?_⟩
    refine vc_loopS (Int) (fun (i : Int) => [(13, .i i)]) [] (fun (i : Int) => []) (fun (i : Int) => []) (fun (i : Int) => 0) (fun (i : Int) => 0 ≤ i ∧ i ≤ l.length ∧ ∀ j : Nat, (j : Int) < i → l.getD j TField.z = m.getD j TField.z) (fun (i : Int) => (l.length - i).toNat) [] ?_ ?_
    · simp only [go_sem, h.hP, List.cons_append, List.nil_append, Meets_e, Below_e, Prod.exists, exists_eq, exists_eq_left, exists_eq_left', exists_eq_right, exists_eq_right', exists_and_left, exists_and_right, Ob.arr.injEq, AV.own.injEq, AV.fv.injEq, Tryz.ntmps66, Nat.reduceEqDiff, reduceCtorEq, Nat.reduceMul, Nat.reduceAdd, Nat.reduceSub, Nat.reduceDiv, Nat.reduceMod, Nat.reduceLeDiff, Nat.reduceLT, Nat.reduceBNe, Nat.reduceBEq, reduceIte, Int.reduceLE, Int.reduceLT, Int.reduceToNat, Int.reduceNeg, Int.reduceAdd, Int.reduceSub, Int.reduceMul, Int.reduceEq]
      exact ⟨by omega, fun j hj => by omega⟩
    · rintro i ⟨i0, i1, hj⟩
      have hw : i < l.length → IntKind.i64.wrap (i + 1) = i + 1 := fun _ => i64w (by omega) (by omega)
      simp only [go_sem, h.hP, List.cons_append, List.nil_append, Meets_e, Below_e, Prod.exists, exists_eq, exists_eq_left, exists_eq_left', exists_eq_right, exists_eq_right', exists_and_left, exists_and_right, Ob.arr.injEq, AV.own.injEq, AV.fv.injEq, eqFS_q, eqFS_p, eqFS_c, eqFS_f, TField.len, TField.get, TField.row, Tryz.ntmps66, Nat.reduceEqDiff, reduceCtorEq, Nat.reduceMul, Nat.reduceAdd, Nat.reduceSub, Nat.reduceDiv, Nat.reduceMod, Nat.reduceLeDiff, Nat.reduceLT, Nat.reduceBNe, Nat.reduceBEq, reduceIte, Int.reduceLE, Int.reduceLT, Int.reduceToNat, Int.reduceNeg, Int.reduceAdd, Int.reduceSub, Int.reduceMul, Int.reduceEq]
      refine ⟨fun z => ⟨i0, z, i0, by omega, fun f => (eqFB_f fun e => ?_).symm, fun ⟨f1, f2, f3, f4⟩ => ?_⟩, fun z => (eqFB_t ?_).symm⟩
      · rw [e] at f
        simp at f
      · rw [hw z]
        refine ⟨by omega, by omega, fun j hj2 => ?_, by omega⟩
        by_cases e : (j : Int) = i
        · have : i.toNat = j := by omega
          rw [← this]
          apply TField.inj
          unfold TField.row
          rw [f1, f2, f3, f4]
        · exact hj j (by omega)
      · apply List.ext_getElem (by omega)
        intro j h2 h3
        have := hj j (by omega)
        rwa [List.getD_eq_getElem?_getD, List.getD_eq_getElem?_getD, List.getElem?_eq_getElem h2, List.getElem?_eq_getElem h3] at this
open Classical in
noncomputable def sameB (a b : TEvent) : Bool := decide (a = b)
open Classical in
theorem sameB_t {a b : TEvent} (h : a = b) : sameB a b = true := by unfold sameB; exact decide_eq_true h
open Classical in
theorem sameB_f {a b : TEvent} (h : ¬ a = b) : sameB a b = false := by unfold sameB; exact decide_eq_false h
def sameS  : Spec where
  pre xs := ∃ (a : TEvent) (b : TEvent), xs = [.dv (.ag a.row), .dv (.ag b.row)] ∧ (a.ok ∧ b.ok)
  post xs y := ∃ (a : TEvent) (b : TEvent), xs = [.dv (.ag a.row), .dv (.ag b.row)] ∧ y = .b (sameB a b)
  cost _ := 0
  fresh := true
theorem sameS_c  (xs : List AV) : (sameS).cost xs = 0 := nr rfl
theorem sameS_f  : (sameS).fresh = true := nr rfl
theorem sameS_q  (a : TEvent) (b : TEvent) : (sameS).pre [.dv (.ag [.str a.id, .str a.name, .int .i64 a.at_, .int .i64 a.who.kind, .str a.who.text, .sl (TField.rows a.fields)]), .dv (.ag [.str b.id, .str b.name, .int .i64 b.at_, .int .i64 b.who.kind, .str b.who.text, .sl (TField.rows b.fields)])] = (a.ok ∧ b.ok) := propext ⟨fun h => by
  have h' : ∃ (a' : TEvent) (b' : TEvent), ([.dv (.ag a.row), .dv (.ag b.row)] : List AV) = [.dv (.ag a'.row), .dv (.ag b'.row)] ∧ (a'.ok ∧ b'.ok) := h
  obtain ⟨a', b', e, h⟩ := h'
  simp only [List.cons.injEq, AV.dv.injEq, AV.dp.injEq, AV.fv.injEq, DV.d.injEq, DV.ag.injEq, D.int.injEq, D.str.injEq, D.bool.injEq, D.sl.injEq, true_and, and_true, intsDi_inj, rowsT_inj, rowsKi_inj, TEvent.row_inj, TEvent.rows_inj, TEvent.row_inj, TEvent.rows_inj] at e
  obtain ⟨rfl, rfl⟩ := e
  exact h, fun h => ⟨a, b, rfl, h⟩⟩
theorem sameS_p  (a : TEvent) (b : TEvent) : (sameS).post [.dv (.ag [.str a.id, .str a.name, .int .i64 a.at_, .int .i64 a.who.kind, .str a.who.text, .sl (TField.rows a.fields)]), .dv (.ag [.str b.id, .str b.name, .int .i64 b.at_, .int .i64 b.who.kind, .str b.who.text, .sl (TField.rows b.fields)])] = fun y => y = .b (sameB a b) := funext fun y => propext ⟨fun h => by
  have h' : ∃ (a' : TEvent) (b' : TEvent), ([.dv (.ag a.row), .dv (.ag b.row)] : List AV) = [.dv (.ag a'.row), .dv (.ag b'.row)] ∧ y = .b (sameB a' b') := h
  obtain ⟨a', b', e, h⟩ := h'
  simp only [List.cons.injEq, AV.dv.injEq, AV.dp.injEq, AV.fv.injEq, DV.d.injEq, DV.ag.injEq, D.int.injEq, D.str.injEq, D.bool.injEq, D.sl.injEq, true_and, and_true, intsDi_inj, rowsT_inj, rowsKi_inj, TEvent.row_inj, TEvent.rows_inj, TEvent.row_inj, TEvent.rows_inj] at e
  obtain ⟨rfl, rfl⟩ := e
  exact h, fun h => ⟨a, b, rfl, h⟩⟩
set_option maxHeartbeats 4000000 in
theorem SameEvent_ctr {cx : Cx} (h : Seat cx) : Ctr cx 24 sameS := by
  refine ctr_of (fn := Tryz.f24) (l := [.tmp 4]) (envL [(66, eqFS)]) [0, 1, 2, 3, 4] [] [] (envL_cons (eqF_ctr h) (env0 h.hP)) ?_ (by rw [h.hP]; exact Tryz.func24) rfl (by kernel_rfl) rfl ?_ ?_
  · rw [h.hP]; exact ⟨_, Tryz.func24, by kernel_rfl, by kernel_rfl⟩
  · rintro xs ⟨a, b, rfl, h1⟩; exact ⟨_, a, b, rfl, rfl⟩
  · rintro xs ⟨a, b, rfl, h1, h2⟩
    refine ⟨by rw [Tryz.ntmps24]; simp, ?_⟩
    simp only [go_sem, h.hP, List.cons_append, List.nil_append, Meets_e, Below_e, Prod.exists, exists_eq, exists_eq_left, exists_eq_left', exists_eq_right, exists_eq_right', exists_and_left, exists_and_right, Ob.arr.injEq, AV.own.injEq, AV.fv.injEq, sameS_q, sameS_p, sameS_c, sameS_f, eqFS_q, eqFS_p, eqFS_c, eqFS_f, TEvent.row, TId.row, Tryz.ntmps24, Nat.reduceEqDiff, reduceCtorEq, Nat.reduceMul, Nat.reduceAdd, Nat.reduceSub, Nat.reduceDiv, Nat.reduceMod, Nat.reduceLeDiff, Nat.reduceLT, Nat.reduceBNe, Nat.reduceBEq, reduceIte, Int.reduceLE, Int.reduceLT, Int.reduceToNat, Int.reduceNeg, Int.reduceAdd, Int.reduceSub, Int.reduceMul, Int.reduceEq]
    have no : ¬ a = b → false = sameB a b := fun z => (sameB_f z).symm
    refine ⟨fun i1 => ⟨fun i2 => ⟨fun i3 => ⟨fun i4 => ⟨h1.2.2.2.2.1, ?_⟩, fun i4 => no fun e => ?_⟩, fun i3 => no fun e => i3 (by rw [e])⟩, fun i2 => no fun e => i2 (by rw [e])⟩, fun i1 => no fun e => i1 (by rw [e])⟩
    · by_cases f : a.fields = b.fields
      · rw [eqFB_t f, sameB_t]
        apply TEvent.inj
        unfold TEvent.row
        rw [i1, i2, i3, i4.1, i4.2, f]
      · rw [eqFB_f f, sameB_f fun e => f (by rw [e])]
    · rw [e] at i4
      simp at i4

/-! ### Events with a name in a window -/
def nmB (n : ByteArray) (w : TWindow) (e : TEvent) : Bool := decide (e.name = n) && inB e.at_ w.from_ (w.to_ - 1)
def namedL (l : List TEvent) (n : ByteArray) (w : TWindow) : List TEvent := l.filter (nmB n w)
def namedOfS  : Spec where
  pre xs := ∃ (l : List TEvent) (n : ByteArray) (w : TWindow), xs = [.sl (TEvent.rows l), .str n, .dv (.ag w.row)] ∧ (okL TEvent.ok l ∧ w.ok)
  post xs y := ∃ (l : List TEvent) (n : ByteArray) (w : TWindow), xs = [.sl (TEvent.rows l), .str n, .dv (.ag w.row)] ∧ y = .sl (TEvent.rows (namedL l n w))
  cost _ := 0
  fresh := false
theorem namedOfS_c  (xs : List AV) : (namedOfS).cost xs = 0 := nr rfl
theorem namedOfS_f  : (namedOfS).fresh = false := nr rfl
theorem namedOfS_q  (l : List TEvent) (n : ByteArray) (w : TWindow) : (namedOfS).pre [.sl (TEvent.rows l), .str n, .dv (.ag [.int .i64 w.from_, .int .i64 w.to_])] = (okL TEvent.ok l ∧ w.ok) := propext ⟨fun h => by
  have h' : ∃ (l' : List TEvent) (n' : ByteArray) (w' : TWindow), ([.sl (TEvent.rows l), .str n, .dv (.ag w.row)] : List AV) = [.sl (TEvent.rows l'), .str n', .dv (.ag w'.row)] ∧ (okL TEvent.ok l' ∧ w'.ok) := h
  obtain ⟨l', n', w', e, h⟩ := h'
  simp only [List.cons.injEq, AV.dv.injEq, AV.dp.injEq, AV.fv.injEq, DV.d.injEq, DV.ag.injEq, D.int.injEq, D.str.injEq, D.bool.injEq, D.sl.injEq, true_and, and_true, intsDi_inj, rowsT_inj, rowsKi_inj, TEvent.row_inj, TEvent.rows_inj, TWindow.row_inj, TWindow.rows_inj] at e
  obtain ⟨rfl, rfl, rfl⟩ := e
  exact h, fun h => ⟨l, n, w, rfl, h⟩⟩
theorem namedOfS_p  (l : List TEvent) (n : ByteArray) (w : TWindow) : (namedOfS).post [.sl (TEvent.rows l), .str n, .dv (.ag [.int .i64 w.from_, .int .i64 w.to_])] = fun y => y = .sl (TEvent.rows (namedL l n w)) := funext fun y => propext ⟨fun h => by
  have h' : ∃ (l' : List TEvent) (n' : ByteArray) (w' : TWindow), ([.sl (TEvent.rows l), .str n, .dv (.ag w.row)] : List AV) = [.sl (TEvent.rows l'), .str n', .dv (.ag w'.row)] ∧ y = .sl (TEvent.rows (namedL l' n' w')) := h
  obtain ⟨l', n', w', e, h⟩ := h'
  simp only [List.cons.injEq, AV.dv.injEq, AV.dp.injEq, AV.fv.injEq, DV.d.injEq, DV.ag.injEq, D.int.injEq, D.str.injEq, D.bool.injEq, D.sl.injEq, true_and, and_true, intsDi_inj, rowsT_inj, rowsKi_inj, TEvent.row_inj, TEvent.rows_inj, TWindow.row_inj, TWindow.rows_inj] at e
  obtain ⟨rfl, rfl, rfl⟩ := e
  exact h, fun h => ⟨l, n, w, rfl, h⟩⟩
theorem filter_step {l : List TEvent} (p : TEvent → Bool) {i : Int} (h0 : 0 ≤ i) (hi : i < l.length) : (l.take (i + 1).toNat).filter p = (l.take i.toNat).filter p ++ if p (l.getD i.toNat TEvent.z) = true then [l.getD i.toNat TEvent.z] else [] := by
  have hi' : i.toNat < l.length := by omega
  rw [show (i + 1).toNat = i.toNat + 1 by omega, List.take_add_one, List.getElem?_eq_getElem hi', List.getD_eq_getElem?_getD, List.getElem?_eq_getElem hi', List.filter_append]
  show _ ++ List.filter p [l[i.toNat]] = _ ++ if p l[i.toNat] = true then [l[i.toNat]] else []
  cases h : p l[i.toNat]
  · rw [List.filter_cons_of_neg (by rw [h]; decide)]; rfl
  · rw [List.filter_cons_of_pos h]; rfl
set_option maxHeartbeats 8000000 in
theorem NamedOf_ctr {cx : Cx} (h : Seat cx) : Ctr cx 23 namedOfS := by
  refine ctr_of (fn := Tryz.f23) (l := [.tmp 6]) (envL [(57, inS)]) [0, 1, 2, 5, 6, 7, 9, 10, 11, 12, 13, 29] [] [] (envL_cons (in_ctr h) (env0 h.hP)) ?_ (by rw [h.hP]; exact Tryz.func23) rfl (by kernel_rfl) rfl ?_ ?_
  · rw [h.hP]; exact ⟨_, Tryz.func23, by kernel_rfl, by kernel_rfl⟩
  · rintro xs ⟨l, n, w, rfl, h1⟩; exact ⟨_, l, n, w, rfl, rfl⟩
  · rintro xs ⟨l, n, w, rfl, h1, h2⟩
    have hl := h1.1
    have hw1 : IntKind.i64.wrap (w.to_ - 1) = w.to_ - 1 := by
      have := h2.2
      unfold okI at this
      exact i64w (by omega) (by omega)
    refine ⟨by rw [Tryz.ntmps23]; simp, ?_⟩
    simp only [go_sem, h.hP, List.cons_append, List.nil_append, Meets_e, Below_e, Prod.exists, exists_eq, exists_eq_left, exists_eq_left', exists_eq_right, exists_eq_right', exists_and_left, exists_and_right, Ob.arr.injEq, AV.own.injEq, AV.fv.injEq, namedOfS_q, namedOfS_p, namedOfS_c, namedOfS_f, TEvent.len, TWindow.row, Tryz.ntmps23, Nat.reduceEqDiff, reduceCtorEq, Nat.reduceMul, Nat.reduceAdd, Nat.reduceSub, Nat.reduceDiv, Nat.reduceMod, Nat.reduceLeDiff, Nat.reduceLT, Nat.reduceBNe, Nat.reduceBEq, reduceIte, Int.reduceLE, Int.reduceLT, Int.reduceToNat, Int.reduceNeg, Int.reduceAdd, Int.reduceSub, Int.reduceMul, Int.reduceEq]
    refine vc_loopS (Int × List TEvent) (fun (x : Int × List TEvent) => match x with | (i, out) => [(12, .i i), (7, .own 7)]) [5] (fun (x : Int × List TEvent) => match x with | (i, out) => []) (fun (x : Int × List TEvent) => match x with | (i, out) => [(7, .arr 52 6 (TEvent.rows out))]) (fun (x : Int × List TEvent) => match x with | (i, out) => 0) (fun (x : Int × List TEvent) => match x with | (i, out) => 0 ≤ i ∧ i ≤ l.length ∧ out = (l.take i.toNat).filter (nmB n w)) (fun (x : Int × List TEvent) => match x with | (i, out) => (l.length - i).toNat) [(7, 52, 6)] ?_ ?_
    · simp only [go_sem, h.hP, List.cons_append, List.nil_append, Meets_e, Below_e, Prod.exists, exists_eq, exists_eq_left, exists_eq_left', exists_eq_right, exists_eq_right', exists_and_left, exists_and_right, Ob.arr.injEq, AV.own.injEq, AV.fv.injEq, TEvent.nil2, Tryz.ntmps23, Nat.reduceEqDiff, reduceCtorEq, Nat.reduceMul, Nat.reduceAdd, Nat.reduceSub, Nat.reduceDiv, Nat.reduceMod, Nat.reduceLeDiff, Nat.reduceLT, Nat.reduceBNe, Nat.reduceBEq, reduceIte, Int.reduceLE, Int.reduceLT, Int.reduceToNat, Int.reduceNeg, Int.reduceAdd, Int.reduceSub, Int.reduceMul, Int.reduceEq]
      exact ⟨by omega, rfl⟩
    · rintro ⟨i, out⟩ ⟨i0, i1, ho⟩
      have hlo : (out.length : Int) ≤ i := by
        have := List.length_filter_le (nmB n w) (l.take i.toNat)
        rw [← ho, List.length_take] at this
        omega
      simp only [go_sem, h.hP, List.cons_append, List.nil_append, Meets_e, Below_e, Prod.exists, exists_eq, exists_eq_left, exists_eq_left', exists_eq_right, exists_eq_right', exists_and_left, exists_and_right, Ob.arr.injEq, AV.own.injEq, AV.fv.injEq, namedOfS_q, namedOfS_p, namedOfS_c, namedOfS_f, inS_q, inS_p, inS_c, inS_f, TEvent.row, TEvent.fold1, TEvent.app', TEvent.rows_inj, TEvent.zlT, TEvent.len, TEvent.get, TWindow.row, List.length_append, List.length_singleton, hw1, Tryz.ntmps23, Nat.reduceEqDiff, reduceCtorEq, Nat.reduceMul, Nat.reduceAdd, Nat.reduceSub, Nat.reduceDiv, Nat.reduceMod, Nat.reduceLeDiff, Nat.reduceLT, Nat.reduceBNe, Nat.reduceBEq, reduceIte, Int.reduceLE, Int.reduceLT, Int.reduceToNat, Int.reduceNeg, Int.reduceAdd, Int.reduceSub, Int.reduceMul, Int.reduceEq]
      have hst := fun z => filter_step (l := l) (nmB n w) i0 z
      refine ⟨fun z => ⟨i0, z, fun y => ⟨fun x => ?_, fun x => ?_⟩, fun y => ?_⟩, fun z => ?_⟩
      · rw [i64w (n := i + 1) (by omega) (by omega), hst z, ← ho, if_pos (by unfold nmB; rw [decide_eq_true y, x]; rfl)]
        exact ⟨by omega, by omega, by omega, by omega, rfl, by omega⟩
      · rw [i64w (n := i + 1) (by omega) (by omega), hst z, ← ho, if_neg (by unfold nmB; rw [decide_eq_true y, x]; decide), List.append_nil]
        exact ⟨by omega, by omega, rfl, by omega⟩
      · rw [i64w (n := i + 1) (by omega) (by omega), hst z, ← ho, if_neg (by unfold nmB; rw [decide_eq_false y, Bool.false_and]; decide), List.append_nil]
        exact ⟨by omega, by omega, rfl, by omega⟩
      · have : i.toNat = l.length := by omega
        rw [ho, this, List.take_of_length_le (Nat.le_refl _)]
        rfl

/-! ### Copies -/
def cloneFS : Spec where
  pre xs := ∃ l : List TField, xs = [.sl (TField.rows l)] ∧ l.length ≤ 1048576
  post xs y := ∃ l : List TField, xs = [.sl (TField.rows l)] ∧ y = .sl (TField.rows l)
  cost _ := 0
  fresh := true
set_option maxHeartbeats 2000000 in
theorem cloneF_empty (a : Addr) (c : Nat) (w : World) : Calls Tryz.prog 112 #[.slice (some a) 0 c] w fun e w' => ∃ v', e = .returned v' ∧ w'.ownsRow w.heap.size 118 4 v' 0 [] ∧ RowKit.Below w.heap.size w w' := by
  have q22 : ∀ (w : World) (a : Option Addr) (n c n' c' : Nat), (binOp .eql 50 (.slice a n c) (.slice none n' c')).run Tryz.prog w = .ok (.bool a.isNone) w := fun w a n c n' c' => Lib.run_eql_slice_nil w _ _ a n c n' c' Tryz.underlying50
  go_enter Tryz.func112, Tryz.ntmps112
  go_wp2
  go_ret
  exact ⟨_, rfl, ⟨rfl, .inr ⟨w.heap.size, 0, #[], rfl, Nat.le_refl _, heap_alloc_new w _, Nat.le_refl _, by decide, rfl, rfl⟩⟩, (RowKit.Below.refl _ w).alloc (Nat.le_refl _) _⟩
theorem cloneF_rest (l : List TField) (b o c : Nat) (w : World) (hl : l.length ≤ 1048576) (hc : ∀ j u, ((TField.rows l).flatten.map vD)[j]? = some u → w.cell? ⟨b, o + j, none⟩ = some u) :
    Calls Tryz.prog 112 #[.slice (some ⟨b, o, none⟩) l.length c] w fun e w' => ∃ v', e = .returned v' ∧ w'.ownsRow w.heap.size 118 4 v' l.length ((TField.rows l).flatten.map vD) ∧ RowKit.Below w.heap.size w w' := by
  obtain ⟨i0, hi, hz0, hz1, hz2⟩ := info_parts (P := Tryz.prog) (e := 118) (z := .agg #[.string ⟨#[]⟩, .int .i64 0, .string ⟨#[]⟩, .int .i64 0]) (size := 4) (bytes := 48) (by kernel_rfl)
  have hcc : Tryz.prog.cellsOf 118 = 4 := by kernel_rfl
  have hs := fun w => size_run (P := Tryz.prog) (t := 118) (by rw [hcc]; decide) w
  rw [hcc] at hs
  have hlen : ((TField.rows l).flatten.map vD).length = l.length * 4 := flat_len (row := TField.row) (k := 4) (by decide) (fun _ => rfl) l
  refine (AnyE.slices_Clone Tryz.laysCloneField i0 _ 4 48 hi hz0 hz1 hz2 rfl (by decide) hs b o l.length c _ w hlen (by unfold maxLen; omega) (by omega) hc (fun u hu => ?_)).mono ?_
  · obtain ⟨y, hy, rfl⟩ := List.mem_map.1 hu
    exact oneV (List.all_eq_true.1 (flat_rows (row := TField.row) (fun _ => rfl) l) _ (List.mem_map.2 ⟨y, hy, rfl⟩))
  · rintro e w' ⟨v', h1, h2, _, h3⟩
    exact ⟨v', h1, h2, h3⟩
theorem CloneF_own {cx : Cx} (h : Seat cx) : CtrO cx 112 cloneFS 118 4 := by
  refine ⟨by rw [h.hP]; exact ⟨_, Tryz.func112, by kernel_rfl, by kernel_rfl⟩, fun _ => ?_, fun hz => by omega⟩
  rintro F xs vals hcx hF hst hgl hco hlen hargs ⟨l, rfl, hl⟩
  obtain ⟨u, rfl⟩ : ∃ u, vals = [u] := List.length_eq_one_iff.1 (by simpa using hlen.symm)
  have hu : Rd F.ok F.w0 (.sl (TField.rows l)) u := hargs 0 _ u rfl rfl
  have fin : ∀ (e : Ending) (w' : World), (∃ v', e = .returned v' ∧ World.ownsRow w' F.w0.heap.size 118 4 v' l.length ((TField.rows l).flatten.map vD) ∧ RowKit.Below F.w0.heap.size F.w0 w') →
      ∃ (v : Value) (r : AV), e = .returned v ∧ Gr cx.g F.w0 w' ∧ StAt cx (F.N + cloneFS.cost [.sl (TField.rows l)]) w' ∧ cloneFS.post [.sl (TField.rows l)] r ∧ Hands (resOk F cloneFS.fresh) w' F.w0.heap.size 118 4 v r := by
    rintro e w' ⟨v', rfl, hown, hb⟩
    have hg : Gr cx.g F.w0 w' := ⟨hb.os, hb.tape, hb.output, hb.size, fun k hk _ => hb.block k hk⟩
    refine ⟨v', .sl (TField.rows l), rfl, hg, hst.keep hb.size (fun k hk => hb.block k hk), ⟨l, rfl, rfl⟩, .inl ⟨TField.rows l, (TField.rows l).flatten.map vD, by decide, rfl, by rw [TField.len]; exact hown, len_rows (row := TField.row) (fun _ => rfl) l, rdL_flat_mk (flat_rows (row := TField.row) (fun _ => rfl) l)⟩⟩
  rw [h.hP]
  generalize hL : TField.rows l = L at hu
  cases hu with
  | nil A c =>
    obtain rfl : l = [] := by
      have := congrArg List.length hL
      rw [TField.len] at this
      exact List.eq_nil_of_length_eq_zero this
    cases A with
    | none => exact (AnyE.slices_Clone_nil Tryz.laysCloneField 0 c F.w0).mono fun e w' ⟨e1, e2⟩ => fin e w' ⟨_, e1, World.ownsRow_nil .., e2 ▸ RowKit.Below.refl _ _⟩
    | some a => exact (cloneF_empty a c F.w0).mono fun e w' hq => fin e w' hq
  | sl _ z b o c uu hc hb hlt hz hcell hr =>
    rw [← hL, TField.len]
    refine (cloneF_rest l b o c F.w0 hl fun j v hj => ?_).mono fun e w' hq => fin e w' hq
    subst hL
    have hj2 : j < l.length * 4 := by
      have := (List.getElem?_eq_some_iff.1 hj).1
      exact Nat.lt_of_lt_of_eq this (flat_len (row := TField.row) (k := 4) (by decide) (fun _ => rfl) l)
    obtain ⟨x, h1, h2, h3⟩ := (flat_index (z := 4) (by decide) (len_rows (row := TField.row) (fun _ => rfl) l)).2 j (by rw [List.length_map]; exact hj2)
    have hx2 : x.length = 4 := len_rows (row := TField.row) (fun _ => rfl) l _ x h1
    have hzz : z = 4 := by rw [← hx2]; exact (hz _ x h1).symm
    obtain ⟨y, hy⟩ : ∃ y, x[j % 4]? = some y := ⟨_, List.getElem?_eq_getElem h3⟩
    have h4 := hcell _ x h1 _ y hy
    have h5 := hr _ x h1 _ y hy
    rw [List.getElem?_map] at hj
    have h6 : (TField.rows l).flatten[j]? = some y := h2.trans hy
    rw [h6] at hj
    cases hj
    have hyk : y.ek.ok = true := List.all_eq_true.1 (flat_rows (row := TField.row) (fun _ => rfl) l) _ (List.mem_map.2 ⟨y, List.mem_of_getElem? h6, rfl⟩)
    rw [rd_vD h5 hyk] at h4
    rw [hzz] at h4
    rw [show o + j = o + j / 4 * 4 + j % 4 by omega]
    exact h4
theorem CloneF_ctr {cx : Cx} (h : Seat cx) : Ctr cx 112 cloneFS :=
  ctr_ofO (by decide) (fun xs ⟨l, hl, _⟩ => ⟨_, l, hl, rfl⟩) (CloneF_own h)
theorem cloneFS_c (xs : List AV) : cloneFS.cost xs = 0 := nr rfl
theorem cloneFS_f : cloneFS.fresh = true := nr rfl
theorem cloneFS_q (l : List TField) : cloneFS.pre [.sl (TField.rows l)] = (l.length ≤ 1048576) := propext ⟨fun ⟨l', e, h⟩ => by
  simp only [List.cons.injEq, AV.dv.injEq, DV.d.injEq, D.sl.injEq, TField.rows_inj, and_true] at e
  subst e
  exact h, fun h => ⟨l, rfl, h⟩⟩
theorem cloneFS_p (l : List TField) : cloneFS.post [.sl (TField.rows l)] = fun y => y = .sl (TField.rows l) := funext fun y => propext ⟨fun ⟨l', e, h⟩ => by
  simp only [List.cons.injEq, AV.dv.injEq, DV.d.injEq, D.sl.injEq, TField.rows_inj, and_true] at e
  subst e
  exact h, fun h => ⟨l, rfl, h⟩⟩
def copyS  : Spec where
  pre xs := ∃ (e : TEvent), xs = [.dv (.ag e.row)] ∧ (e.ok)
  post xs y := ∃ (e : TEvent), xs = [.dv (.ag e.row)] ∧ y = .dv (.ag e.row)
  cost _ := 0
  fresh := false
theorem copyS_c  (xs : List AV) : (copyS).cost xs = 0 := nr rfl
theorem copyS_f  : (copyS).fresh = false := nr rfl
theorem copyS_q  (e : TEvent) : (copyS).pre [.dv (.ag [.str e.id, .str e.name, .int .i64 e.at_, .int .i64 e.who.kind, .str e.who.text, .sl (TField.rows e.fields)])] = (e.ok) := propext ⟨fun h => by
  have h' : ∃ (e' : TEvent), ([.dv (.ag e.row)] : List AV) = [.dv (.ag e'.row)] ∧ (e'.ok) := h
  obtain ⟨e', e, h⟩ := h'
  simp only [List.cons.injEq, AV.dv.injEq, AV.dp.injEq, AV.fv.injEq, DV.d.injEq, DV.ag.injEq, D.int.injEq, D.str.injEq, D.bool.injEq, D.sl.injEq, true_and, and_true, intsDi_inj, rowsT_inj, rowsKi_inj, TEvent.row_inj, TEvent.rows_inj] at e
  obtain rfl := e
  exact h, fun h => ⟨e, rfl, h⟩⟩
theorem copyS_p  (e : TEvent) : (copyS).post [.dv (.ag [.str e.id, .str e.name, .int .i64 e.at_, .int .i64 e.who.kind, .str e.who.text, .sl (TField.rows e.fields)])] = fun y => y = .dv (.ag e.row) := funext fun y => propext ⟨fun h => by
  have h' : ∃ (e' : TEvent), ([.dv (.ag e.row)] : List AV) = [.dv (.ag e'.row)] ∧ y = .dv (.ag e'.row) := h
  obtain ⟨e', e, h⟩ := h'
  simp only [List.cons.injEq, AV.dv.injEq, AV.dp.injEq, AV.fv.injEq, DV.d.injEq, DV.ag.injEq, D.int.injEq, D.str.injEq, D.bool.injEq, D.sl.injEq, true_and, and_true, intsDi_inj, rowsT_inj, rowsKi_inj, TEvent.row_inj, TEvent.rows_inj] at e
  obtain rfl := e
  exact h, fun h => ⟨e, rfl, h⟩⟩
set_option maxHeartbeats 4000000 in
theorem Copy_ctr {cx : Cx} (h : Seat cx) : Ctr cx 64 copyS := by
  refine ctr_of (fn := Tryz.f64) (l := [.cell 2 52]) (envL [(112, cloneFS)]) [0, 1, 2] [] [] (envL_cons (CloneF_ctr h) (env0 h.hP)) ?_ (by rw [h.hP]; exact Tryz.func64) rfl (by kernel_rfl) rfl ?_ ?_
  · rw [h.hP]; exact ⟨_, Tryz.func64, by kernel_rfl, by kernel_rfl⟩
  · rintro xs ⟨e, rfl, h1⟩; exact ⟨_, e, rfl, rfl⟩
  · rintro xs ⟨e, rfl, h1⟩
    refine ⟨by rw [Tryz.ntmps64]; simp, ?_⟩
    simp only [go_sem, h.hP, List.cons_append, List.nil_append, Meets_e, Below_e, Prod.exists, exists_eq, exists_eq_left, exists_eq_left', exists_eq_right, exists_eq_right', exists_and_left, exists_and_right, Ob.arr.injEq, AV.own.injEq, AV.fv.injEq, copyS_q, copyS_p, copyS_c, copyS_f, cloneFS_q, cloneFS_p, cloneFS_c, cloneFS_f, TEvent.row, TId.row, Tryz.ntmps64, Nat.reduceEqDiff, reduceCtorEq, Nat.reduceMul, Nat.reduceAdd, Nat.reduceSub, Nat.reduceDiv, Nat.reduceMod, Nat.reduceLeDiff, Nat.reduceLT, Nat.reduceBNe, Nat.reduceBEq, reduceIte, Int.reduceLE, Int.reduceLT, Int.reduceToNat, Int.reduceNeg, Int.reduceAdd, Int.reduceSub, Int.reduceMul, Int.reduceEq]
    exact h1.2.2.2.2.1
end Go.Avc

namespace Go.Avc
open Go Go.Proofs

theorem DelW.list {w W : World} {b off : Nat} {S : TEvent × EvV → Prop} : ∀ {n : Nat}, (∀ j, j < n → ∃ p, S p ∧ ∀ c v, p.2.enc[c]? = some v → W.cell? ⟨b, off + j * 6 + c, none⟩ = some v) →
    ∃ ps : List (TEvent × EvV), ps.length = n ∧ (∀ p ∈ ps, S p) ∧ ∀ j u, (encP ps)[j]? = some u → W.cell? ⟨b, off + j, none⟩ = some u := by
  intro n
  induction n with
  | zero => exact fun _ => ⟨[], rfl, fun p hp => (by cases hp), fun j u hj => by simp [encP] at hj⟩
  | succ n ih =>
    intro h
    obtain ⟨ps, h1, h2, h3⟩ := ih fun j hj => h j (by omega)
    obtain ⟨p, hp, hc⟩ := h n (by omega)
    have he : encP (ps ++ [p]) = encP ps ++ p.2.enc := by
      unfold encP
      rw [List.map_append, List.flatten_append]
      simp
    refine ⟨ps ++ [p], by rw [List.length_append, h1]; rfl, fun q hq => ?_, fun j u hj => ?_⟩
    · rcases List.mem_append.1 hq with hq | hq
      · exact h2 q hq
      · rw [List.mem_singleton.1 hq]; exact hp
    · rw [he] at hj
      have hl : (encP ps).length = n * 6 := by rw [encP_len, h1]
      by_cases hi : j < n * 6
      · rw [List.getElem?_append_left (by omega)] at hj
        exact h3 j u hj
      · rw [List.getElem?_append_right (by omega), hl] at hj
        have := hc (j - n * 6) u hj
        rwa [show off + n * 6 + (j - n * 6) = off + j by omega] at this
set_option maxHeartbeats 4000000 in
theorem sorted_raw {v : Value} {w : World} {ps : List (TEvent × EvV)} (hlen : ps.length ≤ 1048576)
    (hclone : Calls Tryz.prog 38 #[v] w fun e w' => ∃ v', e = .returned v' ∧ w'.ownsRow w.heap.size 52 6 v' ps.length (encP ps) ∧ RowKit.Below w.heap.size w w') :
    Calls Tryz.prog 104 #[v] w fun e w' => ∃ (v' : Value) (ps' : List (TEvent × EvV)), e = .returned v' ∧ ps'.Perm ps ∧ w'.ownsRow w.heap.size 52 6 v' ps'.length (encP ps') ∧ RowKit.Below w.heap.size w w' := by
  go_enter Tryz.func104, Tryz.ntmps104
  go_wp2_with (go_at_call 38; refine hclone.mono ?_)
  rintro e w1 ⟨v', rfl, hown, hb⟩
  have hs := sortE hlen hown
  go_wp2_with (go_at_call 155; refine hs.mono ?_)
  rintro e w2 ⟨rfl, ps', hp, ⟨q1, q2, q3, q4, q5⟩, hown2⟩
  go_wp2
  go_ret
  refine ⟨_, ps', rfl, hp, hown2, q1.trans hb.os, q2.trans hb.tape, q3.trans hb.output, Nat.le_trans hb.size q4, fun k hk => (q5 k (Nat.lt_of_lt_of_le hk hb.size) (fun e => ?_)).trans (hb.block k hk)⟩
  rcases hown.2 with ⟨h1, _⟩ | ⟨g, cap, cur, h1, h2, _⟩
  · rw [h1] at e; cases e
  · rw [h1] at e
    have e2 : g = k := Option.some.inj e
    omega
set_option maxHeartbeats 4000000 in
theorem idx_nil (g : Nat) (w : World) : Calls Tryz.prog 87 #[.slice none 0 0, .func (.func g) #[] #[]] w fun e W => e = .returned (.int .i64 (-1)) ∧ W = w := by
  go_enter Tryz.func87, Tryz.ntmps87
  go_wp2
  go_loopw [8] (fun i wr => i = .int .i64 0 ∧ wr = w) (fun _ _ => 0)
  case atStart => exact ⟨rfl, rfl⟩
  case round =>
    obtain ⟨rfl, rfl⟩ := hrel
    go_wp2
    go_ret
    exact ⟨rfl, rfl⟩
set_option maxHeartbeats 4000000 in
theorem del_nil (g : Nat) (w : World) : Calls Tryz.prog 37 #[.slice none 0 0, .func (.func g) #[] #[]] w fun e W => e = .returned (.slice none 0 0) ∧ W = w := by
  go_enter Tryz.func37, Tryz.ntmps37
  go_wp2_with (go_at_call 87; refine (idx_nil g w).mono ?_; rintro e w1 ⟨rfl, rfl⟩)
  go_ret
  exact ⟨rfl, rfl⟩
/-- The context without the stream. -/
def Cx.dry (cx : Cx) : Cx := ⟨cx.P, none, cx.L, cx.ST, cx.ng, cx.glob⟩
theorem Seat.dry {cx : Cx} (h : Seat cx) : Seat cx.dry := ⟨h.hP, h.hS⟩
theorem glAt_dry {cx : Cx} {w : World} (h : GlAt cx w) : GlAt cx.dry w := h
set_option maxHeartbeats 8000000 in
theorem Right_own {cx : Cx} (h : Seat cx) (hN : cx.glob 2 = some namesD) (hI : cx.glob 0 = some poolD) (hE : cx.glob 1 = some evNamesD) (hD : Ctr cx.dry 105 anyB) :
    CtrO cx 54 eventsG 52 6 := by
  refine ⟨by rw [h.hP]; exact ⟨_, Tryz.func54, by kernel_rfl, by kernel_rfl⟩, fun _ => ?_, fun hz => by omega⟩
  rintro F xs vals hcx hF hst hgl hco hlen hargs ⟨m, rfl, hm⟩
  subst hcx
  obtain ⟨sv, mv, rfl⟩ : ∃ a b, vals = [a, b] := by
    match vals, hlen with
    | [a, b], _ => exact ⟨a, b, rfl⟩
  have hmv : mv = .int .i64 m := rd_int_val (show Rd F.ok F.w0 (.int .i64 m) mv from hargs 1 _ mv rfl rfl)
  have hev := (Events_own h hN hI hE).2.1 (by decide) F [.st, .i m] [sv, mv] rfl hF hst hgl hco rfl hargs ⟨m, rfl, hm⟩
  have hen : Enters F.cx.P 105 := hD.1
  rw [h.hP] at hev hen ⊢
  subst hmv
  have fin : ∀ (w1 w2 w3 : World) (v v' : Value) (ps ps2 ps3 : List (TEvent × EvV)), Gr F.cx.g F.w0 w1 → StAt F.cx (F.N + eventsG.cost [.st, .i m]) w1 → (∀ b, v.ownBlock = some b → F.w0.heap.size ≤ b) → ps.length ≤ 20 → ps2.length ≤ ps.length → (∀ p ∈ ps, p.1.ok) → (∀ p ∈ ps, Lay (fun b => resOk F false b ∧ v.ownBlock ≠ some b) w1 p) → (∀ p ∈ ps2, p ∈ ps) →
      w2.os = w1.os → w2.tape = w1.tape → w2.output = w1.output → w1.heap.size ≤ w2.heap.size → (∀ k, k < w1.heap.size → v.ownBlock ≠ some k → w2.heap[k]? = w1.heap[k]?) → ps3.Perm ps2 → w3.ownsRow w2.heap.size 52 6 v' ps3.length (encP ps3) → RowKit.Below w2.heap.size w2 w3 →
      ∃ (v0 : Value) (r : AV), Ending.returned v' = .returned v0 ∧ Gr F.cx.g F.w0 w3 ∧ StAt F.cx (F.N + eventsG.cost [.st, .i m]) w3 ∧ eventsG.post [.st, .i m] r ∧ Hands (resOk F eventsG.fresh) w3 F.w0.heap.size 52 6 v0 r := by
    intro w1 w2 w3 v v' ps ps2 ps3 hg1 hst1 hvb hl hl2 hok hlay hsub o1 o2 o3 o4 o5 hp hown hb
    have hsz : F.w0.heap.size ≤ w1.heap.size := hg1.size
    have hkeep : ∀ k, k < w1.heap.size → v.ownBlock ≠ some k → w3.heap[k]? = w1.heap[k]? := fun k hk hne => (hb.block k (Nat.lt_of_lt_of_le hk o4)).trans (o5 k hk hne)
    have hkeep0 : ∀ k, k < F.w0.heap.size → w3.heap[k]? = w1.heap[k]? := fun k hk => hkeep k (Nat.lt_of_lt_of_le hk hsz) (fun e => by have := hvb k e; omega)
    have hg : ∀ b, F.cx.g = some b → b < F.w0.heap.size := hF.g
    refine ⟨v', .sl (TEvent.rows (ps3.map Prod.fst)), rfl, ⟨(hb.os.trans o1).trans hg1.os, (hb.tape.trans o2).trans hg1.tape, (hb.output.trans o3).trans hg1.output, Nat.le_trans hsz (Nat.le_trans o4 hb.size), fun k hk hne => (hkeep0 k hk).trans (hg1.block k hk hne)⟩,
      hst1.keep2 (Nat.le_trans o4 hb.size) (fun b b' e hle => hkeep0 b' (Nat.lt_of_le_of_lt hle (hg b e))), ⟨m, ps3.map Prod.fst, rfl, by rw [List.length_map, hp.length_eq]; omega, fun x hx => ?_, rfl⟩, .inl ⟨_, encP ps3, by decide, rfl, ?_, fun i x hx => TEvent.z_len _ x (List.mem_of_getElem? hx), lays_to ps3 fun p hp3 => ?_⟩⟩
    · obtain ⟨p, hp3, rfl⟩ := List.mem_map.1 hx
      exact hok p (hsub p (hp.mem_iff.1 hp3))
    · rw [TEvent.len, List.length_map]
      refine ⟨hown.1, hown.2.imp id fun ⟨g, cap, cur, q1, q2, q3⟩ => ⟨g, cap, cur, q1, by omega, q3⟩⟩
    · refine (hlay p (hsub p (hp.mem_iff.1 hp3))).mono (Nat.le_trans o4 hb.size) (fun b hb1 hlt => ⟨hb1.1, fun e => ?_⟩) (fun b hb1 hlt => hkeep b hlt hb1.2)
      rcases hown.2 with ⟨q1, _⟩ | ⟨g, cap, cur, q1, q2, _⟩
      · rw [q1] at e; cases e
      · rw [q1] at e
        have e2 : g = b := Option.some.inj e
        omega
  go_enter Tryz.func54, Tryz.ntmps54
  go_wp2_with (go_at_call 31; refine hev.mono ?_)
  rintro e w1 ⟨v, r, rfl, hg1, hst1, ⟨m', l, hx, hl, hok, rfl⟩, hands⟩
  rcases hands with ⟨l', cs, _, hr, hown, hz, hR⟩ | ⟨_, _, _, _, _, h1000, _⟩
  case inr => omega
  have hr : TEvent.rows l = l' := by simpa using hr
  subst hr
  obtain ⟨ps, hps, rfl, hlay⟩ := lays_of l cs hR
  rw [TEvent.len] at hown
  have hpl : ps.length = l.length := by rw [← hps, List.length_map]
  have hpok : ∀ p ∈ ps, p.1.ok := fun p hp => hok p.1 (by rw [← hps]; exact List.mem_map.2 ⟨p, hp, rfl⟩)
  have hvb : ∀ b, v.ownBlock = some b → F.w0.heap.size ≤ b := fun b hb => by
    rcases hown.2 with ⟨q1, _⟩ | ⟨g, cap, cur, q1, q2, _⟩
    · rw [q1] at hb; cases hb
    · rw [q1] at hb
      cases hb
      exact q2
  rcases hown.2 with ⟨h1, hn⟩ | ⟨b, cap, cur, h1, h2, h3, h4, h5, h6, h7⟩
  · subst h1
    have hs := sorted_raw (v := .slice none 0 0) (w := w1) (ps := []) (Nat.zero_le _) ((AnyE.slices_Clone_nil Tryz.laysCloneEvent 0 0 w1).mono fun e w' ⟨e1, e2⟩ => ⟨_, e1, World.ownsRow_nil .., e2 ▸ RowKit.Below.refl _ _⟩)
    go_wp2_with (go_at_call 37; refine (del_nil _ w1).mono ?_)
    rintro e w2 ⟨rfl, rfl⟩
    go_wp2_with (go_at_call 104; refine hs.mono ?_)
    rintro e w3 ⟨v', ps', rfl, hp, hown3, hb3⟩
    go_wp2
    go_ret
    exact fin w2 w2 w3 _ v' ps [] ps' hg1 hst1 hvb (by omega) (Nat.zero_le _) hpok hlay (fun p hp => by cases hp) rfl rfl rfl (Nat.le_refl _) (fun _ _ _ => rfl) hp hown3 hb3
  · subst h1
    have hb : b < w1.heap.size := (Array.getElem?_eq_some_iff.1 h3).1
    have hrow : RowsIn (· ∈ ps) cur ps.length := RowsIn.of (by rw [hpl]; exact h7)
    have hd0 : DelW w1 b 0 l.length (· ∈ ps) w1 := by
      refine ⟨rfl, rfl, rfl, Nat.le_refl _, fun _ _ _ => rfl, fun j hj => ?_, fun o => ?_⟩
      · obtain ⟨p, hp, hc⟩ := hrow j (by omega)
        refine ⟨p, hp, fun c v hv => ?_⟩
        have hc6 : c < 6 := (List.getElem?_eq_some_iff.1 hv).1
        unfold World.cell?
        rw [h3]
        have := hc c hc6
        rw [hv] at this
        simpa using this
      · unfold World.frozen?
        rw [h3]
        simp
    have hgl0 := hgl
    have hcall : ∀ p, p ∈ ps → ∀ W, DelW w1 b 0 l.length (· ∈ ps) W → Calls Tryz.prog 105 #[.agg p.2.enc.toArray] W fun e W' => ∃ q : Bool, e = .returned (.bool q) ∧ RowKit.Below W.heap.size W W' := by
      intro p hp W hW
      have hgW : Gr F.cx.g F.w0 W := ⟨hW.os.trans hg1.os, hW.tape.trans hg1.tape, hW.out.trans hg1.output, Nat.le_trans hg1.size hW.size, fun k hk hne => (hW.keep k (Nat.lt_of_lt_of_le hk hg1.size) (by omega)).trans (hg1.block k hk hne)⟩
      have hglW : GlAt F.cx W := hgl.keep hst hgW
      have hng : ∀ k, k < F.cx.ng → k < W.heap.size := fun k hk => by
        have h1 := hF.gl k hk
        have h2 := (hF.ok k h1).1
        have h3 := hgW.size
        omega
      let F' : Fr := ⟨F.cx.dry, W, fun b => b < W.heap.size, 0, 0, 0, W, fun _ => False⟩
      have hF' : F'.Wf := ⟨fun b hb => ⟨hb, fun e => (by cases e)⟩, fun b hb => hng b hb, fun b hb => (by cases hb), by show 0 + 0 ≤ _; decide⟩
      have hl1 : Lay (fun b => b < W.heap.size) W p := (hlay p hp).mono hW.size (fun k hk hlt => Nat.lt_of_lt_of_le hlt hW.size) (fun k hk hlt => hW.keep k hlt (fun e => hk.2 (by rw [e]; rfl)))
      have hc := hD.2.2 F' [.dv (.ag p.1.row)] [.agg p.2.enc.toArray] rfl hF' (fun b hb => (by cases hb)) (glAt_dry hglW) (Nat.zero_le _) rfl (fun i a u ha hu => by
        cases i with
        | zero =>
          simp only [List.getElem?_cons_zero, Option.some.injEq] at ha hu
          subst ha
          subst hu
          exact ⟨p.2.enc, rfl, hl1⟩
        | succ i => simp at ha) ⟨p.1, rfl, hpok p hp⟩
      rw [show F.cx.dry.P = Tryz.prog from h.hP] at hc
      refine hc.mono ?_
      rintro e W' ⟨u, r, rfl, hg2, _, ⟨q, rfl⟩, _, hr⟩
      have hu : u = .bool q := by
        have hr : Rd (resOk F' anyB.fresh) W' (.bool q) u := hr
        cases hr
        rfl
      subst hu
      exact ⟨q, rfl, hg2.os, hg2.tape, hg2.output, hg2.size, fun k hk => hg2.block k hk (fun e => by cases e)⟩
    have hdel := del_walk (cap := cap) (g := 105) hb (show l.length ≤ 1048576 by omega) (show l.length ≤ cap by omega) hd0 (fun args w => callFunc_run hen args w) hcall
    go_wp2_with (go_at_call 37; refine hdel.mono ?_)
    rintro e w2 ⟨i, hi, rfl, hd2⟩
    obtain ⟨ps2, hp1, hp2, hp3⟩ := DelW.list (w := w2) hd2.rows
    have hs := sorted_raw (v := .slice (some ⟨b, 0, none⟩) i cap) (w := w2) (ps := ps2) (by omega) (by
      have := cloneE_rest ps2 b 0 cap w2 (by omega) hp3
      rwa [hp1] at this ⊢)
    go_wp2_with (go_at_call 104; refine hs.mono ?_)
    rintro e w3 ⟨v', ps', rfl, hp, hown3, hb3⟩
    go_wp2
    go_ret
    exact fin w1 w2 w3 _ v' ps ps2 ps' hg1 hst1 hvb (by omega) (by omega) hpok hlay hp2 hd2.os hd2.tape hd2.out hd2.size (fun k hk hne => hd2.keep k hk (fun e => hne (by rw [e]; rfl))) hp hown3 hb3
end Go.Avc

namespace Go.Avc
open Go Go.Proofs

theorem evG_ne (xs : List AV) (h : eventsG.pre xs) : ∃ r, eventsG.post xs r := by
  obtain ⟨m, hm, _⟩ := h
  exact ⟨.sl (TEvent.rows []), m, [], hm, Nat.zero_le _, (fun x hx => by cases hx), rfl⟩
def someG : Spec where
  pre xs := ∃ m : Int, xs = [.st, .i m] ∧ m ≤ 20
  post xs y := ∃ l : List TEvent, l.length ≤ 20 ∧ (∀ x ∈ l, x.ok) ∧ y = .tcons (.sl (TEvent.rows l)) (.tcons (.i (eventsF l)) .tnil)
  cost _ := 4001
  fresh := false
theorem some_ctr {cx : Cx} (h : Seat cx) (hN : cx.glob 2 = some namesD) (hI : cx.glob 0 = some poolD) (hE : cx.glob 1 = some evNamesD) (hU : Utf8 cx) (hM : MaxL cx) : Ctr cx 10 someG := by
  refine ctr_of (fn := Tryz.f10) (l := [.tmp 4, .tmp 5]) (envL [(54, eventsG), (31, eventsG), (26, flipS), (33, eventsS)]) [0, 1, 4, 5, 6, 11] [] [] (envL_cons (ctr_ofO (by decide) evG_ne (Right_own h hN hI hE (Right1_ctr h.dry hU hM))) (envL_cons (ctr_ofO (by decide) evG_ne (Events_own h hN hI hE)) (envL_cons (flip_ctr cx h.hP h.hS) (envL_cons (EventsFault_ctr h hU hM) (env0 h.hP))))) ?_ (by rw [h.hP]; exact Tryz.func10) rfl (by kernel_rfl) rfl ?_ ?_
  · rw [h.hP]; exact ⟨_, Tryz.func10, by kernel_rfl, by kernel_rfl⟩
  · rintro xs ⟨m, rfl, hm⟩; exact ⟨_, [], Nat.zero_le _, (fun x hx => by cases hx), rfl⟩
  · rintro xs ⟨m, rfl, hm⟩
    refine ⟨by rw [Tryz.ntmps10]; simp, ?_⟩
    simp only [go_sem, h.hP, List.cons_append, List.nil_append, Meets_e, Below_e, Prod.exists, exists_eq, exists_eq_left, exists_eq_left', exists_eq_right, exists_eq_right', exists_and_left, exists_and_right, Ob.arr.injEq, AV.own.injEq, AV.fv.injEq, someG, eventsG, flipS_q, flipS_p, flipS_c, flipS_f, eventsS_q, eventsS_p, eventsS_c, eventsS_f, TEvent.rows_inj, Tryz.ntmps10, Nat.reduceEqDiff, reduceCtorEq, Nat.reduceMul, Nat.reduceAdd, Nat.reduceSub, Nat.reduceDiv, Nat.reduceMod, Nat.reduceLeDiff, Nat.reduceLT, Nat.reduceBNe, Nat.reduceBEq, reduceIte, Int.reduceLE, Int.reduceLT, Int.reduceToNat, Int.reduceNeg, Int.reduceAdd, Int.reduceSub, Int.reduceMul, Int.reduceEq]
    have ok : ∀ a : List TEvent, a.length ≤ 20 → (∀ x ∈ a, x.ok) → okL TEvent.ok a := fun a h1 h2 => ⟨by omega, h2⟩
    exact ⟨hm, fun a h1 h2 f => ⟨fun _ => ⟨hm, fun a h1 h2 => ⟨ok a h1 h2, a, h1, h2, rfl, rfl⟩⟩, fun _ => ⟨ok a h1 h2, a, h1, h2, rfl, rfl⟩⟩⟩
end Go.Avc

namespace Go.Avc
open Go Go.Proofs
theorem set_same {α : Type} {l : List α} {i : Nat} {d : α} (h : i < l.length) : l.set i (l.getD i d) = l := by
  apply List.ext_getElem?
  intro j
  rw [List.getElem?_set]
  split
  · rename_i e
    subst e
    rw [List.getD_eq_getElem?_getD, List.getElem?_eq_getElem h]
    rfl
  · rfl
theorem okL_two {α : Type} {p : α → Prop} {x y : α} (hx : p x) (hy : p y) : okL p [x, y] := ⟨by simp, fun z hz => by
  rcases List.mem_cons.1 hz with rfl | hz
  · exact hx
  · rw [List.mem_singleton] at hz; rw [hz]; exact hy⟩
theorem ne_ft' {b : Bool} (h : b = false) : ¬ b = true := by rw [h]; decide
set_option maxHeartbeats 8000000 in
theorem named_ctr {cx : Cx} (h : Seat cx) : Ctr cx 95 namedOfS := by
  refine ctr_of (fn := Tryz.f95) (l := [.tmp 6]) (envL []) [0, 1, 2, 5, 6, 7, 9, 10, 11, 12, 13, 33] [] [] (env0 h.hP) ?_ (by rw [h.hP]; exact Tryz.func95) rfl (by kernel_rfl) rfl ?_ ?_
  · rw [h.hP]; exact ⟨_, Tryz.func95, by kernel_rfl, by kernel_rfl⟩
  · rintro xs ⟨l, n, w, rfl, h1⟩; exact ⟨_, l, n, w, rfl, rfl⟩
  · rintro xs ⟨l, n, w, rfl, h1, h2⟩
    have hl := h1.1
    refine ⟨by rw [Tryz.ntmps95]; simp, ?_⟩
    simp only [go_sem, h.hP, List.cons_append, List.nil_append, Meets_e, Below_e, Prod.exists, exists_eq, exists_eq_left, exists_eq_left', exists_eq_right, exists_eq_right', exists_and_left, exists_and_right, Ob.arr.injEq, AV.own.injEq, AV.fv.injEq, namedOfS_q, namedOfS_p, namedOfS_c, namedOfS_f, TEvent.len, TWindow.row, Tryz.ntmps95, Nat.reduceEqDiff, reduceCtorEq, Nat.reduceMul, Nat.reduceAdd, Nat.reduceSub, Nat.reduceDiv, Nat.reduceMod, Nat.reduceLeDiff, Nat.reduceLT, Nat.reduceBNe, Nat.reduceBEq, reduceIte, Int.reduceLE, Int.reduceLT, Int.reduceToNat, Int.reduceNeg, Int.reduceAdd, Int.reduceSub, Int.reduceMul, Int.reduceEq]
    refine vc_loopS (Int × List TEvent) (fun (x : Int × List TEvent) => match x with | (i, out) => [(12, .i i), (7, .own 7)]) [5] (fun (x : Int × List TEvent) => match x with | (i, out) => []) (fun (x : Int × List TEvent) => match x with | (i, out) => [(7, .arr 52 6 (TEvent.rows out))]) (fun (x : Int × List TEvent) => match x with | (i, out) => 0) (fun (x : Int × List TEvent) => match x with | (i, out) => 0 ≤ i ∧ i ≤ l.length ∧ out = (l.take i.toNat).filter (nmB n w)) (fun (x : Int × List TEvent) => match x with | (i, out) => (l.length - i).toNat) [(7, 52, 6)] ?_ ?_
    · simp only [go_sem, h.hP, List.cons_append, List.nil_append, Meets_e, Below_e, Prod.exists, exists_eq, exists_eq_left, exists_eq_left', exists_eq_right, exists_eq_right', exists_and_left, exists_and_right, Ob.arr.injEq, AV.own.injEq, AV.fv.injEq, TEvent.nil2, Tryz.ntmps95, Nat.reduceEqDiff, reduceCtorEq, Nat.reduceMul, Nat.reduceAdd, Nat.reduceSub, Nat.reduceDiv, Nat.reduceMod, Nat.reduceLeDiff, Nat.reduceLT, Nat.reduceBNe, Nat.reduceBEq, reduceIte, Int.reduceLE, Int.reduceLT, Int.reduceToNat, Int.reduceNeg, Int.reduceAdd, Int.reduceSub, Int.reduceMul, Int.reduceEq]
      exact ⟨by omega, rfl⟩
    · rintro ⟨i, out⟩ ⟨i0, i1, ho⟩
      have hlo : (out.length : Int) ≤ i := by
        have := List.length_filter_le (nmB n w) (l.take i.toNat)
        rw [← ho, List.length_take] at this
        omega
      simp only [go_sem, h.hP, List.cons_append, List.nil_append, Meets_e, Below_e, Prod.exists, exists_eq, exists_eq_left, exists_eq_left', exists_eq_right, exists_eq_right', exists_and_left, exists_and_right, Ob.arr.injEq, AV.own.injEq, AV.fv.injEq, namedOfS_q, namedOfS_p, namedOfS_c, namedOfS_f, TEvent.row, TEvent.fold1, TEvent.app', TEvent.rows_inj, TEvent.zlT, TEvent.len, TEvent.get, TWindow.row, List.length_append, List.length_singleton, Tryz.ntmps95, Nat.reduceEqDiff, reduceCtorEq, Nat.reduceMul, Nat.reduceAdd, Nat.reduceSub, Nat.reduceDiv, Nat.reduceMod, Nat.reduceLeDiff, Nat.reduceLT, Nat.reduceBNe, Nat.reduceBEq, reduceIte, Int.reduceLE, Int.reduceLT, Int.reduceToNat, Int.reduceNeg, Int.reduceAdd, Int.reduceSub, Int.reduceMul, Int.reduceEq]
      have hst := fun z => filter_step (l := l) (nmB n w) i0 z
      have skip : i < l.length → nmB n w (l.getD i.toNat TEvent.z) = false → 0 ≤ IntKind.i64.wrap (i + 1) ∧ IntKind.i64.wrap (i + 1) ≤ l.length ∧ out = (l.take (IntKind.i64.wrap (i + 1)).toNat).filter (nmB n w) ∧ (l.length - IntKind.i64.wrap (i + 1)).toNat < (l.length - i).toNat := fun z e => by
        rw [i64w (n := i + 1) (by omega) (by omega), hst z, ← ho, if_neg (ne_ft' e), List.append_nil]
        exact ⟨by omega, by omega, rfl, by omega⟩
      refine ⟨fun z => ⟨i0, z, fun y => ⟨fun x1 => ⟨fun x2 => ?_, fun x2 => skip z ?_⟩, fun x1 => skip z ?_⟩, fun y => skip z ?_⟩, fun z => ?_⟩
      · rw [i64w (n := i + 1) (by omega) (by omega), hst z, ← ho, if_pos (by unfold nmB; rw [decide_eq_true y, inB_iff.2 ⟨x1, by omega⟩]; rfl)]
        exact ⟨by omega, by omega, by omega, by omega, rfl, by omega⟩
      · unfold nmB
        rw [show inB (l.getD i.toNat TEvent.z).at_ w.from_ (w.to_ - 1) = false from Bool.eq_false_iff.2 fun e => by have := inB_iff.1 e; omega, Bool.and_false]
      · unfold nmB
        rw [show inB (l.getD i.toNat TEvent.z).at_ w.from_ (w.to_ - 1) = false from Bool.eq_false_iff.2 fun e => by have := inB_iff.1 e; omega, Bool.and_false]
      · unfold nmB
        rw [decide_eq_false y, Bool.false_and]
      · have : i.toNat = l.length := by omega
        rw [ho, this, List.take_of_length_le (Nat.le_refl _)]
        rfl
def cloneES : Spec where
  pre xs := ∃ l : List TEvent, xs = [.sl (TEvent.rows l)] ∧ l.length ≤ 1048576
  post xs y := ∃ l : List TEvent, xs = [.sl (TEvent.rows l)] ∧ y = .sl (TEvent.rows l)
  cost _ := 0
  fresh := false
theorem cloneES_c (xs : List AV) : cloneES.cost xs = 0 := nr rfl
theorem cloneES_f : cloneES.fresh = false := nr rfl
theorem cloneES_q (l : List TEvent) : cloneES.pre [.sl (TEvent.rows l)] = (l.length ≤ 1048576) := propext ⟨fun ⟨l', e, h⟩ => by
  simp only [List.cons.injEq, AV.dv.injEq, DV.d.injEq, D.sl.injEq, TEvent.rows_inj, and_true] at e
  subst e
  exact h, fun h => ⟨l, rfl, h⟩⟩
theorem cloneES_p (l : List TEvent) : cloneES.post [.sl (TEvent.rows l)] = fun y => y = .sl (TEvent.rows l) := funext fun y => propext ⟨fun ⟨l', e, h⟩ => by
  simp only [List.cons.injEq, AV.dv.injEq, DV.d.injEq, D.sl.injEq, TEvent.rows_inj, and_true] at e
  subst e
  exact h, fun h => ⟨l, rfl, h⟩⟩
theorem CloneE_own {cx : Cx} (h : Seat cx) : CtrO cx 38 cloneES 52 6 := by
  refine ⟨by rw [h.hP]; exact ⟨_, Tryz.func38, by kernel_rfl, by kernel_rfl⟩, fun _ => ?_, fun hz => by omega⟩
  rintro F xs vals hcx hF hst hgl hco hlen hargs ⟨l, rfl, hl⟩
  obtain ⟨u, rfl⟩ : ∃ u, vals = [u] := List.length_eq_one_iff.1 (by simpa using hlen.symm)
  have hu : Rd F.ok F.w0 (.sl (TEvent.rows l)) u := hargs 0 _ u rfl rfl
  have fin : ∀ (ps : List (TEvent × EvV)) (e : Ending) (w' : World), ps.map Prod.fst = l → (∀ p ∈ ps, Lay F.ok F.w0 p) → (∃ v', e = .returned v' ∧ World.ownsRow w' F.w0.heap.size 52 6 v' ps.length (encP ps) ∧ RowKit.Below F.w0.heap.size F.w0 w') →
      ∃ (v : Value) (r : AV), e = .returned v ∧ Gr cx.g F.w0 w' ∧ StAt cx (F.N + cloneES.cost [.sl (TEvent.rows l)]) w' ∧ cloneES.post [.sl (TEvent.rows l)] r ∧ Hands (resOk F cloneES.fresh) w' F.w0.heap.size 52 6 v r := by
    rintro ps e w' rfl hlay ⟨v', rfl, hown, hb⟩
    have hg : Gr cx.g F.w0 w' := ⟨hb.os, hb.tape, hb.output, hb.size, fun k hk _ => hb.block k hk⟩
    refine ⟨v', .sl (TEvent.rows (ps.map Prod.fst)), rfl, hg, hst.keep hb.size (fun k hk => hb.block k hk), ⟨_, rfl, rfl⟩, .inl ⟨_, encP ps, by decide, rfl, ?_, fun i x hx => TEvent.z_len _ x (List.mem_of_getElem? hx), lays_to ps fun p hp => ?_⟩⟩
    · rw [TEvent.len, List.length_map]; exact hown
    · refine (hlay p hp).mono hb.size (fun b hb1 hlt => ⟨.inl ⟨rfl, hb1⟩, fun e => ?_⟩) (fun b _ hlt => hb.block b hlt)
      rcases hown.2 with ⟨q1, _⟩ | ⟨g, cap, cur, q1, q2, _⟩
      · rw [q1] at e; cases e
      · rw [q1] at e
        have e2 : g = b := Option.some.inj e
        omega
  rw [h.hP]
  obtain ⟨news, A, c, rfl, hR, hA⟩ := data_cells (F := F) (M := fun _ => False) (w := F.w0) (z := 6) (by decide) (fun y hy => TEvent.z_len _ y hy) (hu.mono (Nat.le_refl _) (fun b hb _ => ⟨.inl hb, fun e => e⟩) (fun _ _ _ => rfl))
  obtain ⟨ps, hps, rfl, hlay⟩ := lays_of l news hR
  have hlay' : ∀ p ∈ ps, Lay F.ok F.w0 p := fun p hp => (hlay p hp).mono (Nat.le_refl _) (fun b hb hlt => hb.1.elim id (fun e => by omega)) (fun _ _ _ => rfl)
  have hpl : (TEvent.rows l).length = ps.length := by rw [TEvent.len, ← hps, List.length_map]
  rw [hpl]
  by_cases hn : ps = []
  · subst hn
    cases A with
    | none => exact (AnyE.slices_Clone_nil Tryz.laysCloneEvent 0 c F.w0).mono fun e w' ⟨e1, e2⟩ => fin [] e w' hps hlay' ⟨_, e1, World.ownsRow_nil .., e2 ▸ RowKit.Below.refl _ _⟩
    | some a => exact (cloneE_empty a c F.w0).mono fun e w' hq => fin [] e w' hps hlay' hq
  · obtain ⟨b, o, rfl, hc⟩ := hA (fun e => hn (by
      have : ps.length = 0 := by rw [← hpl, e]; rfl
      exact List.eq_nil_of_length_eq_zero this))
    exact (cloneE_rest ps b o c F.w0 (by rw [← hpl, TEvent.len]; exact hl) (fun j u hj => hc j u hj)).mono fun e w' hq => fin ps e w' hps hlay' hq
def copyAllS  : Spec where
  pre xs := ∃ (l : List TEvent), xs = [.sl (TEvent.rows l)] ∧ (okL TEvent.ok l)
  post xs y := ∃ (l : List TEvent), xs = [.sl (TEvent.rows l)] ∧ y = .sl (TEvent.rows l)
  cost _ := 0
  fresh := false
theorem copyAllS_c  (xs : List AV) : (copyAllS).cost xs = 0 := nr rfl
theorem copyAllS_f  : (copyAllS).fresh = false := nr rfl
theorem copyAllS_q  (l : List TEvent) : (copyAllS).pre [.sl (TEvent.rows l)] = (okL TEvent.ok l) := propext ⟨fun h => by
  have h' : ∃ (l' : List TEvent), ([.sl (TEvent.rows l)] : List AV) = [.sl (TEvent.rows l')] ∧ (okL TEvent.ok l') := h
  obtain ⟨l', e, h⟩ := h'
  simp only [List.cons.injEq, AV.dv.injEq, AV.dp.injEq, AV.fv.injEq, DV.d.injEq, DV.ag.injEq, D.int.injEq, D.str.injEq, D.bool.injEq, D.sl.injEq, true_and, and_true, intsDi_inj, rowsT_inj, rowsKi_inj, TEvent.row_inj, TEvent.rows_inj] at e
  obtain rfl := e
  exact h, fun h => ⟨l, rfl, h⟩⟩
theorem copyAllS_p  (l : List TEvent) : (copyAllS).post [.sl (TEvent.rows l)] = fun y => y = .sl (TEvent.rows l) := funext fun y => propext ⟨fun h => by
  have h' : ∃ (l' : List TEvent), ([.sl (TEvent.rows l)] : List AV) = [.sl (TEvent.rows l')] ∧ y = .sl (TEvent.rows l') := h
  obtain ⟨l', e, h⟩ := h'
  simp only [List.cons.injEq, AV.dv.injEq, AV.dp.injEq, AV.fv.injEq, DV.d.injEq, DV.ag.injEq, D.int.injEq, D.str.injEq, D.bool.injEq, D.sl.injEq, true_and, and_true, intsDi_inj, rowsT_inj, rowsKi_inj, TEvent.row_inj, TEvent.rows_inj] at e
  obtain rfl := e
  exact h, fun h => ⟨l, rfl, h⟩⟩
set_option maxHeartbeats 8000000 in
theorem copyAll_ctr {cx : Cx} (h : Seat cx) : Ctr cx 94 copyAllS := by
  refine ctr_of (fn := Tryz.f94) (l := [.tmp 2]) (envO [(64, copyS)] [] [(38, cloneES, 52, 6)]) [0, 2, 3, 4, 5, 8, 9, 10, 11] [] [] (envO_cons (CloneE_own h) (envO_nil (envF_nil (envL_cons (Copy_ctr h) (env0 h.hP))))) ?_ (by rw [h.hP]; exact Tryz.func94) rfl (by kernel_rfl) rfl ?_ ?_
  · rw [h.hP]; exact ⟨_, Tryz.func94, by kernel_rfl, by kernel_rfl⟩
  · rintro xs ⟨l, rfl, h1⟩; exact ⟨_, l, rfl, rfl⟩
  · rintro xs ⟨l, rfl, h1⟩
    have hl := h1.1
    refine ⟨by rw [Tryz.ntmps94]; simp, ?_⟩
    simp only [go_sem, h.hP, List.cons_append, List.nil_append, Meets_e, Below_e, Prod.exists, exists_eq, exists_eq_left, exists_eq_left', exists_eq_right, exists_eq_right', exists_and_left, exists_and_right, Ob.arr.injEq, AV.own.injEq, AV.fv.injEq, copyAllS_q, copyAllS_p, copyAllS_c, copyAllS_f, cloneES_q, cloneES_p, cloneES_c, cloneES_f, TEvent.len, Tryz.ntmps94, Nat.reduceEqDiff, reduceCtorEq, Nat.reduceMul, Nat.reduceAdd, Nat.reduceSub, Nat.reduceDiv, Nat.reduceMod, Nat.reduceLeDiff, Nat.reduceLT, Nat.reduceBNe, Nat.reduceBEq, reduceIte, Int.reduceLE, Int.reduceLT, Int.reduceToNat, Int.reduceNeg, Int.reduceAdd, Int.reduceSub, Int.reduceMul, Int.reduceEq]
    refine ⟨hl, .inr trivial, ?_⟩
    refine vc_loopS (Int) (fun (i : Int) => [(10, .i i), (8, .own 7)]) [] (fun (i : Int) => []) (fun (i : Int) => [(7, .arr 52 6 (TEvent.rows l))]) (fun (i : Int) => 0) (fun (i : Int) => 0 ≤ i ∧ i ≤ l.length) (fun (i : Int) => (l.length - i).toNat) [] ?_ ?_
    · simp only [go_sem, h.hP, List.cons_append, List.nil_append, Meets_e, Below_e, Prod.exists, exists_eq, exists_eq_left, exists_eq_left', exists_eq_right, exists_eq_right', exists_and_left, exists_and_right, Ob.arr.injEq, AV.own.injEq, AV.fv.injEq, Tryz.ntmps94, Nat.reduceEqDiff, reduceCtorEq, Nat.reduceMul, Nat.reduceAdd, Nat.reduceSub, Nat.reduceDiv, Nat.reduceMod, Nat.reduceLeDiff, Nat.reduceLT, Nat.reduceBNe, Nat.reduceBEq, reduceIte, Int.reduceLE, Int.reduceLT, Int.reduceToNat, Int.reduceNeg, Int.reduceAdd, Int.reduceSub, Int.reduceMul, Int.reduceEq]
      omega
    · rintro i ⟨i0, i1⟩
      simp only [go_sem, h.hP, List.cons_append, List.nil_append, Meets_e, Below_e, Prod.exists, exists_eq, exists_eq_left, exists_eq_left', exists_eq_right, exists_eq_right', exists_and_left, exists_and_right, Ob.arr.injEq, AV.own.injEq, AV.fv.injEq, copyAllS_q, copyAllS_p, copyAllS_c, copyAllS_f, copyS_q, copyS_p, copyS_c, copyS_f, TEvent.row, TEvent.len, TEvent.get, Tryz.ntmps94, Nat.reduceEqDiff, reduceCtorEq, Nat.reduceMul, Nat.reduceAdd, Nat.reduceSub, Nat.reduceDiv, Nat.reduceMod, Nat.reduceLeDiff, Nat.reduceLT, Nat.reduceBNe, Nat.reduceBEq, reduceIte, Int.reduceLE, Int.reduceLT, Int.reduceToNat, Int.reduceNeg, Int.reduceAdd, Int.reduceSub, Int.reduceMul, Int.reduceEq]
      refine fun z => ⟨i0, z, by omega, okL_get h1 TEvent.z_ok _, i0, z, by omega, ?_, ?_⟩
      · have := TEvent.rset l i.toNat (l.getD i.toNat TEvent.z)
        rw [set_same (by omega)] at this
        exact this
      · rw [i64w (n := i + 1) (by omega) (by omega)]
        omega
def nmdE (l : List TEvent) (ns : List ByteArray) (w : TWindow) : Int := orE (eventsF l) (orE (namesF ns) (winE w))
def nmdV (l : List TEvent) (n : ByteArray) (w : TWindow) : List TEvent := if nmdE l [n] w = 0 then namedL l n w else []
def nmdS  : Spec where
  pre xs := ∃ (l : List TEvent) (n : ByteArray) (w : TWindow), xs = [.sl (TEvent.rows l), .str n, .dv (.ag w.row)] ∧ (okL TEvent.ok l ∧ okS n ∧ w.ok)
  post xs y := ∃ (l : List TEvent) (n : ByteArray) (w : TWindow), xs = [.sl (TEvent.rows l), .str n, .dv (.ag w.row)] ∧ y = .tcons (.sl (TEvent.rows (nmdV l n w))) (.tcons (.i (nmdE l [n] w)) .tnil)
  cost _ := 0
  fresh := false
theorem nmdS_c  (xs : List AV) : (nmdS).cost xs = 0 := nr rfl
theorem nmdS_f  : (nmdS).fresh = false := nr rfl
theorem nmdS_q  (l : List TEvent) (n : ByteArray) (w : TWindow) : (nmdS).pre [.sl (TEvent.rows l), .str n, .dv (.ag [.int .i64 w.from_, .int .i64 w.to_])] = (okL TEvent.ok l ∧ okS n ∧ w.ok) := propext ⟨fun h => by
  have h' : ∃ (l' : List TEvent) (n' : ByteArray) (w' : TWindow), ([.sl (TEvent.rows l), .str n, .dv (.ag w.row)] : List AV) = [.sl (TEvent.rows l'), .str n', .dv (.ag w'.row)] ∧ (okL TEvent.ok l' ∧ okS n' ∧ w'.ok) := h
  obtain ⟨l', n', w', e, h⟩ := h'
  simp only [List.cons.injEq, AV.dv.injEq, AV.dp.injEq, AV.fv.injEq, DV.d.injEq, DV.ag.injEq, D.int.injEq, D.str.injEq, D.bool.injEq, D.sl.injEq, true_and, and_true, intsDi_inj, rowsT_inj, rowsKi_inj, TEvent.row_inj, TEvent.rows_inj, TWindow.row_inj, TWindow.rows_inj] at e
  obtain ⟨rfl, rfl, rfl⟩ := e
  exact h, fun h => ⟨l, n, w, rfl, h⟩⟩
theorem nmdS_p  (l : List TEvent) (n : ByteArray) (w : TWindow) : (nmdS).post [.sl (TEvent.rows l), .str n, .dv (.ag [.int .i64 w.from_, .int .i64 w.to_])] = fun y => y = .tcons (.sl (TEvent.rows (nmdV l n w))) (.tcons (.i (nmdE l [n] w)) .tnil) := funext fun y => propext ⟨fun h => by
  have h' : ∃ (l' : List TEvent) (n' : ByteArray) (w' : TWindow), ([.sl (TEvent.rows l), .str n, .dv (.ag w.row)] : List AV) = [.sl (TEvent.rows l'), .str n', .dv (.ag w'.row)] ∧ y = .tcons (.sl (TEvent.rows (nmdV l' n' w'))) (.tcons (.i (nmdE l' [n'] w')) .tnil) := h
  obtain ⟨l', n', w', e, h⟩ := h'
  simp only [List.cons.injEq, AV.dv.injEq, AV.dp.injEq, AV.fv.injEq, DV.d.injEq, DV.ag.injEq, D.int.injEq, D.str.injEq, D.bool.injEq, D.sl.injEq, true_and, and_true, intsDi_inj, rowsT_inj, rowsKi_inj, TEvent.row_inj, TEvent.rows_inj, TWindow.row_inj, TWindow.rows_inj] at e
  obtain ⟨rfl, rfl, rfl⟩ := e
  exact h, fun h => ⟨l, n, w, rfl, h⟩⟩
theorem nmd_ok {l : List TEvent} {n : ByteArray} {w : TWindow} (h : okL TEvent.ok l) : okL TEvent.ok (namedL l n w) :=
  ⟨Nat.le_trans (List.length_filter_le _ _) h.1, fun e he => h.2 e (List.mem_filter.1 he).1⟩
set_option maxHeartbeats 8000000 in
theorem Named_ctr {cx : Cx} (h : Seat cx) (hU : Utf8 cx) (hM : MaxL cx) : Ctr cx 47 nmdS := by
  refine ctr_of (fn := Tryz.f47) (l := [.tmp 6, .tmp 7]) (envL [(62, cnS), (95, namedOfS), (94, copyAllS)]) [0, 1, 2, 5, 6, 7, 8, 15] [] [] (envL_cons (checkNamed_ctr h hU hM) (envL_cons (named_ctr h) (envL_cons (copyAll_ctr h) (env0 h.hP)))) ?_ (by rw [h.hP]; exact Tryz.func47) rfl (by kernel_rfl) rfl ?_ ?_
  · rw [h.hP]; exact ⟨_, Tryz.func47, by kernel_rfl, by kernel_rfl⟩
  · rintro xs ⟨l, n, w, rfl, h1⟩; exact ⟨_, l, n, w, rfl, rfl⟩
  · rintro xs ⟨l, n, w, rfl, h1, h2, h3⟩
    refine ⟨by rw [Tryz.ntmps47]; simp, ?_⟩
    simp only [go_sem, h.hP, List.cons_append, List.nil_append, Meets_e, Below_e, Prod.exists, exists_eq, exists_eq_left, exists_eq_left', exists_eq_right, exists_eq_right', exists_and_left, exists_and_right, Ob.arr.injEq, AV.own.injEq, AV.fv.injEq, nmdS_q, nmdS_p, nmdS_c, nmdS_f, cnS_q, cnS_p, cnS_c, cnS_f, namedOfS_q, namedOfS_p, namedOfS_c, namedOfS_f, copyAllS_q, copyAllS_p, copyAllS_c, copyAllS_f, TEvent.len, TWindow.row, strs1, strsc, Tryz.ntmps47, Nat.reduceEqDiff, reduceCtorEq, Nat.reduceMul, Nat.reduceAdd, Nat.reduceSub, Nat.reduceDiv, Nat.reduceMod, Nat.reduceLeDiff, Nat.reduceLT, Nat.reduceBNe, Nat.reduceBEq, reduceIte, Int.reduceLE, Int.reduceLT, Int.reduceToNat, Int.reduceNeg, Int.reduceAdd, Int.reduceSub, Int.reduceMul, Int.reduceEq]
    refine ⟨h1, okL_one h2, fun c => ⟨?_, rfl⟩, fun c => ⟨h1, h3, nmd_ok h1, ?_, c.symm⟩⟩
    · rw [show nmdV l n w = [] from if_neg c]
      rfl
    · rw [show nmdV l n w = namedL l n w from if_pos c]
/-- Events of a right list are right. -/
def evsR (m : List TEvent) : Prop := m.length ≤ 5000 ∧ ∀ j, j < m.length → evF (m.getD j TEvent.z) = 0 ∧ (m.getD j TEvent.z).ok ∧ ascF (m.getD j TEvent.z).fields ∧ (m.getD j TEvent.z).fields.length ≤ 1048576
theorem evsR_of {l : List TEvent} {n : ByteArray} {w : TWindow} (h : eventsF l = 0) (ho : okL TEvent.ok l) : evsR (namedL l n w) := by
  obtain ⟨h1, h2, _⟩ := ev_right h
  refine ⟨Nat.le_trans (List.length_filter_le _ _) h1, fun j hj => ?_⟩
  have hm : (namedL l n w).getD j TEvent.z ∈ l := by
    rw [List.getD_eq_getElem?_getD, List.getElem?_eq_getElem hj]
    exact (List.mem_filter.1 (List.getElem_mem hj)).1
  obtain ⟨i, hi, e⟩ := List.mem_iff_getElem.1 hm
  have hz := h2 i hi
  rw [List.getD_eq_getElem?_getD, List.getElem?_eq_getElem hi] at hz
  have hz : evF l[i] = 0 := hz
  rw [e] at hz
  have hf : fieldsF ((namedL l n w).getD j TEvent.z).fields = 0 := by
    have hz' := hz
    unfold evF at hz'
    split at hz'
    · cases hz'
    split at hz'
    · cases hz'
    exact (orE_zero hz').2
  obtain ⟨a1, a2⟩ := asc_of_fields hf
  exact ⟨hz, ho.2 _ hm, a1, by omega⟩
theorem fold_step {β : Type} {m : List TEvent} (f : β → TEvent → β) (b : β) {i : Int} (h0 : 0 ≤ i) (hi : i < m.length) : (m.take (i + 1).toNat).foldl f b = f ((m.take i.toNat).foldl f b) (m.getD i.toNat TEvent.z) := by
  rw [show (i + 1).toNat = i.toNat + 1 by omega, List.take_add_one, List.getElem?_eq_getElem (by omega), List.foldl_append, List.getD_eq_getElem?_getD, List.getElem?_eq_getElem (by omega)]
  rfl
def fvF (f : ByteArray) (e : TEvent) : Option TValue := (findF e.fields f).map TField.value
def addW (f : ByteArray) (s : Int) (e : TEvent) : Int := match fvF f e with
  | some v => if v.kind = 1 then s else IntKind.i64.wrap (s + v.number)
  | none => s
def sumW (f : ByteArray) (l : List TEvent) : Int := l.foldl (addW f) 0
def sumV (l : List TEvent) (n f : ByteArray) (w : TWindow) : Int := if nmdE l [n, f] w = 0 then sumW f (namedL l n w) else 0
def sumS  : Spec where
  pre xs := ∃ (l : List TEvent) (n : ByteArray) (f : ByteArray) (w : TWindow), xs = [.sl (TEvent.rows l), .str n, .str f, .dv (.ag w.row)] ∧ (okL TEvent.ok l ∧ okS n ∧ okS f ∧ w.ok)
  post xs y := ∃ (l : List TEvent) (n : ByteArray) (f : ByteArray) (w : TWindow), xs = [.sl (TEvent.rows l), .str n, .str f, .dv (.ag w.row)] ∧ y = .tcons (.i (sumV l n f w)) (.tcons (.i (nmdE l [n, f] w)) .tnil)
  cost _ := 0
  fresh := true
theorem sumS_c  (xs : List AV) : (sumS).cost xs = 0 := nr rfl
theorem sumS_f  : (sumS).fresh = true := nr rfl
theorem sumS_q  (l : List TEvent) (n : ByteArray) (f : ByteArray) (w : TWindow) : (sumS).pre [.sl (TEvent.rows l), .str n, .str f, .dv (.ag [.int .i64 w.from_, .int .i64 w.to_])] = (okL TEvent.ok l ∧ okS n ∧ okS f ∧ w.ok) := propext ⟨fun h => by
  have h' : ∃ (l' : List TEvent) (n' : ByteArray) (f' : ByteArray) (w' : TWindow), ([.sl (TEvent.rows l), .str n, .str f, .dv (.ag w.row)] : List AV) = [.sl (TEvent.rows l'), .str n', .str f', .dv (.ag w'.row)] ∧ (okL TEvent.ok l' ∧ okS n' ∧ okS f' ∧ w'.ok) := h
  obtain ⟨l', n', f', w', e, h⟩ := h'
  simp only [List.cons.injEq, AV.dv.injEq, AV.dp.injEq, AV.fv.injEq, DV.d.injEq, DV.ag.injEq, D.int.injEq, D.str.injEq, D.bool.injEq, D.sl.injEq, true_and, and_true, intsDi_inj, rowsT_inj, rowsKi_inj, TEvent.row_inj, TEvent.rows_inj, TWindow.row_inj, TWindow.rows_inj] at e
  obtain ⟨rfl, rfl, rfl, rfl⟩ := e
  exact h, fun h => ⟨l, n, f, w, rfl, h⟩⟩
theorem sumS_p  (l : List TEvent) (n : ByteArray) (f : ByteArray) (w : TWindow) : (sumS).post [.sl (TEvent.rows l), .str n, .str f, .dv (.ag [.int .i64 w.from_, .int .i64 w.to_])] = fun y => y = .tcons (.i (sumV l n f w)) (.tcons (.i (nmdE l [n, f] w)) .tnil) := funext fun y => propext ⟨fun h => by
  have h' : ∃ (l' : List TEvent) (n' : ByteArray) (f' : ByteArray) (w' : TWindow), ([.sl (TEvent.rows l), .str n, .str f, .dv (.ag w.row)] : List AV) = [.sl (TEvent.rows l'), .str n', .str f', .dv (.ag w'.row)] ∧ y = .tcons (.i (sumV l' n' f' w')) (.tcons (.i (nmdE l' [n', f'] w')) .tnil) := h
  obtain ⟨l', n', f', w', e, h⟩ := h'
  simp only [List.cons.injEq, AV.dv.injEq, AV.dp.injEq, AV.fv.injEq, DV.d.injEq, DV.ag.injEq, D.int.injEq, D.str.injEq, D.bool.injEq, D.sl.injEq, true_and, and_true, intsDi_inj, rowsT_inj, rowsKi_inj, TEvent.row_inj, TEvent.rows_inj, TWindow.row_inj, TWindow.rows_inj] at e
  obtain ⟨rfl, rfl, rfl, rfl⟩ := e
  exact h, fun h => ⟨l, n, f, w, rfl, h⟩⟩
set_option maxHeartbeats 8000000 in
theorem Sum_ctr {cx : Cx} (h : Seat cx) (hU : Utf8 cx) (hM : MaxL cx) : Ctr cx 48 sumS := by
  refine ctr_of (fn := Tryz.f48) (l := [.tmp 8, .tmp 9]) (envL [(62, cnS), (95, namedOfS), (96, findS)]) [0, 1, 2, 3, 7, 8, 9, 10, 11, 13, 14, 15, 23, 28, 29, 30, 31, 46] [] [] (envL_cons (checkNamed_ctr h hU hM) (envL_cons (named_ctr h) (envL_cons (Find_ctr h) (env0 h.hP)))) ?_ (by rw [h.hP]; exact Tryz.func48) rfl (by kernel_rfl) rfl ?_ ?_
  · rw [h.hP]; exact ⟨_, Tryz.func48, by kernel_rfl, by kernel_rfl⟩
  · rintro xs ⟨l, n, f, w, rfl, h1⟩; exact ⟨_, l, n, f, w, rfl, rfl⟩
  · rintro xs ⟨l, n, f, w, rfl, h1, h2, h3, h4⟩
    refine ⟨by rw [Tryz.ntmps48]; simp, ?_⟩
    simp only [go_sem, h.hP, List.cons_append, List.nil_append, Meets_e, Below_e, Prod.exists, exists_eq, exists_eq_left, exists_eq_left', exists_eq_right, exists_eq_right', exists_and_left, exists_and_right, Ob.arr.injEq, AV.own.injEq, AV.fv.injEq, sumS_q, sumS_p, sumS_c, sumS_f, cnS_q, cnS_p, cnS_c, cnS_f, namedOfS_q, namedOfS_p, namedOfS_c, namedOfS_f, TEvent.len, TWindow.row, strs1, strsc, Tryz.ntmps48, Nat.reduceEqDiff, reduceCtorEq, Nat.reduceMul, Nat.reduceAdd, Nat.reduceSub, Nat.reduceDiv, Nat.reduceMod, Nat.reduceLeDiff, Nat.reduceLT, Nat.reduceBNe, Nat.reduceBEq, reduceIte, Int.reduceLE, Int.reduceLT, Int.reduceToNat, Int.reduceNeg, Int.reduceAdd, Int.reduceSub, Int.reduceMul, Int.reduceEq]
    refine ⟨h1, okL_two h2 h3, fun c => ⟨?_, rfl⟩, fun c => ⟨h1, h4, ?_⟩⟩
    · rw [show sumV l n f w = 0 from if_neg c]
    · have hV : sumV l n f w = sumW f (namedL l n w) := if_pos c
      have hE : nmdE l [n, f] w = 0 := c
      rw [hV, hE]
      obtain ⟨q1, q2⟩ := evsR_of (n := n) (w := w) (orE_zero c).1 h1
      generalize namedL l n w = m at *
      refine vc_loopS (Int × Int) (fun (x : Int × Int) => match x with | (i, s) => [(30, .i i), (11, .i s)]) [7] (fun (x : Int × Int) => match x with | (i, s) => []) (fun (x : Int × Int) => match x with | (i, s) => []) (fun (x : Int × Int) => match x with | (i, s) => 0) (fun (x : Int × Int) => match x with | (i, s) => 0 ≤ i ∧ i ≤ m.length ∧ s = (m.take i.toNat).foldl (addW f) 0) (fun (x : Int × Int) => match x with | (i, s) => (m.length - i).toNat) [] ?_ ?_
      · simp only [go_sem, h.hP, List.cons_append, List.nil_append, Meets_e, Below_e, Prod.exists, exists_eq, exists_eq_left, exists_eq_left', exists_eq_right, exists_eq_right', exists_and_left, exists_and_right, Ob.arr.injEq, AV.own.injEq, AV.fv.injEq, TEvent.len, Tryz.ntmps48, Nat.reduceEqDiff, reduceCtorEq, Nat.reduceMul, Nat.reduceAdd, Nat.reduceSub, Nat.reduceDiv, Nat.reduceMod, Nat.reduceLeDiff, Nat.reduceLT, Nat.reduceBNe, Nat.reduceBEq, reduceIte, Int.reduceLE, Int.reduceLT, Int.reduceToNat, Int.reduceNeg, Int.reduceAdd, Int.reduceSub, Int.reduceMul, Int.reduceEq]
        exact ⟨by omega, rfl⟩
      · rintro ⟨i, s⟩ ⟨i0, i1, hs⟩
        simp only [go_sem, h.hP, List.cons_append, List.nil_append, Meets_e, Below_e, Prod.exists, exists_eq, exists_eq_left, exists_eq_left', exists_eq_right, exists_eq_right', exists_and_left, exists_and_right, Ob.arr.injEq, AV.own.injEq, AV.fv.injEq, sumS_q, sumS_p, sumS_c, sumS_f, findS_c, findS_f, findS_p, findS_q, TEvent.row, TEvent.len, TEvent.get, TValue.row, Tryz.ntmps48, Nat.reduceEqDiff, reduceCtorEq, Nat.reduceMul, Nat.reduceAdd, Nat.reduceSub, Nat.reduceDiv, Nat.reduceMod, Nat.reduceLeDiff, Nat.reduceLT, Nat.reduceBNe, Nat.reduceBEq, reduceIte, Int.reduceLE, Int.reduceLT, Int.reduceToNat, Int.reduceNeg, Int.reduceAdd, Int.reduceSub, Int.reduceMul, Int.reduceEq]
        have stp : ∀ s' : Int, i < m.length → addW f s (m.getD i.toNat TEvent.z) = s' → 0 ≤ IntKind.i64.wrap (i + 1) ∧ IntKind.i64.wrap (i + 1) ≤ m.length ∧ s' = (m.take (IntKind.i64.wrap (i + 1)).toNat).foldl (addW f) 0 ∧ (m.length - IntKind.i64.wrap (i + 1)).toNat < (m.length - i).toNat := fun s' z e => by
          rw [i64w (n := i + 1) (by omega) (by omega), fold_step (addW f) 0 i0 z, ← hs, e]
          exact ⟨by omega, by omega, rfl, by omega⟩
        refine ⟨fun z => ⟨i0, z, (q2 _ (by omega)).2.2.1, (q2 _ (by omega)).2.2.2, fun a ha => ⟨fun c1 => ?_, fun c1 => ?_⟩⟩, fun z => ?_⟩
        · obtain ⟨x, hx⟩ := Option.isSome_iff_exists.1 c1
          have hv : fvF f (m.getD i.toNat TEvent.z) = some a := by unfold fvF; rw [hx, ha x hx]; rfl
          refine ⟨fun c2 => stp _ z ?_, fun c2 => stp _ z ?_⟩
          · unfold addW; rw [hv]; exact if_neg c2
          · unfold addW; rw [hv]; exact if_pos c2
        · have hv : fvF f (m.getD i.toNat TEvent.z) = none := by
            unfold fvF
            rw [Option.isSome_eq_false_iff, Option.isNone_iff_eq_none] at c1
            rw [c1]
            rfl
          exact stp _ z (by unfold addW; rw [hv])
        · have : i.toNat = m.length := by omega
          rw [hs, this, List.take_of_length_le (Nat.le_refl _)]
          rfl
end Go.Avc

namespace Go.Avc
open Go Go.Proofs
theorem find_first {l : List TField} {i : Nat} {n : ByteArray} (hi : i < l.length) (h : (l.getD i TField.z).name = n) (hj : ∀ j, j < i → (l.getD j TField.z).name ≠ n) : findF l n = some (l.getD i TField.z) := by
  have e : ∀ j (hj : j < l.length), l.getD j TField.z = l[j] := fun j hj => by rw [List.getD_eq_getElem?_getD, List.getElem?_eq_getElem hj]; rfl
  unfold findF
  rw [List.find?_eq_some_iff_getElem]
  refine ⟨decide_eq_true h, i, hi, (e i hi).symm, fun j hji => ?_⟩
  have := hj j hji
  rw [e j (by omega)] at this
  simpa using this
theorem find_nil {l : List TField} {n : ByteArray} (hj : ∀ j, j < l.length → (l.getD j TField.z).name ≠ n) : findF l n = none := by
  unfold findF
  rw [List.find?_eq_none]
  intro x hx
  obtain ⟨j, h1, rfl⟩ := List.mem_iff_getElem.1 hx
  have := hj j h1
  rw [List.getD_eq_getElem?_getD, List.getElem?_eq_getElem h1] at this
  simpa using this
def vinS  : Spec where
  pre xs := ∃ (e : TEvent) (f : ByteArray), xs = [.dv (.ag e.row), .str f] ∧ (e.fields.length ≤ 1048576)
  post xs y := ∃ (e : TEvent) (f : ByteArray), xs = [.dv (.ag e.row), .str f] ∧ y = .tcons (.dv (.ag ((fvF f e).getD TValue.z).row)) (.tcons (.b (fvF f e).isSome) .tnil)
  cost _ := 0
  fresh := true
theorem vinS_c  (xs : List AV) : (vinS).cost xs = 0 := nr rfl
theorem vinS_f  : (vinS).fresh = true := nr rfl
theorem vinS_q  (e : TEvent) (f : ByteArray) : (vinS).pre [.dv (.ag [.str e.id, .str e.name, .int .i64 e.at_, .int .i64 e.who.kind, .str e.who.text, .sl (TField.rows e.fields)]), .str f] = (e.fields.length ≤ 1048576) := propext ⟨fun h => by
  have h' : ∃ (e' : TEvent) (f' : ByteArray), ([.dv (.ag e.row), .str f] : List AV) = [.dv (.ag e'.row), .str f'] ∧ (e'.fields.length ≤ 1048576) := h
  obtain ⟨e', f', e, h⟩ := h'
  simp only [List.cons.injEq, AV.dv.injEq, AV.dp.injEq, AV.fv.injEq, DV.d.injEq, DV.ag.injEq, D.int.injEq, D.str.injEq, D.bool.injEq, D.sl.injEq, true_and, and_true, intsDi_inj, rowsT_inj, rowsKi_inj, TEvent.row_inj, TEvent.rows_inj] at e
  obtain ⟨rfl, rfl⟩ := e
  exact h, fun h => ⟨e, f, rfl, h⟩⟩
theorem vinS_p  (e : TEvent) (f : ByteArray) : (vinS).post [.dv (.ag [.str e.id, .str e.name, .int .i64 e.at_, .int .i64 e.who.kind, .str e.who.text, .sl (TField.rows e.fields)]), .str f] = fun y => y = .tcons (.dv (.ag ((fvF f e).getD TValue.z).row)) (.tcons (.b (fvF f e).isSome) .tnil) := funext fun y => propext ⟨fun h => by
  have h' : ∃ (e' : TEvent) (f' : ByteArray), ([.dv (.ag e.row), .str f] : List AV) = [.dv (.ag e'.row), .str f'] ∧ y = .tcons (.dv (.ag ((fvF f' e').getD TValue.z).row)) (.tcons (.b (fvF f' e').isSome) .tnil) := h
  obtain ⟨e', f', e, h⟩ := h'
  simp only [List.cons.injEq, AV.dv.injEq, AV.dp.injEq, AV.fv.injEq, DV.d.injEq, DV.ag.injEq, D.int.injEq, D.str.injEq, D.bool.injEq, D.sl.injEq, true_and, and_true, intsDi_inj, rowsT_inj, rowsKi_inj, TEvent.row_inj, TEvent.rows_inj] at e
  obtain ⟨rfl, rfl⟩ := e
  exact h, fun h => ⟨e, f, rfl, h⟩⟩
set_option maxHeartbeats 4000000 in
theorem valueIn_ctr {cx : Cx} (h : Seat cx) : Ctr cx 100 vinS := by
  refine ctr_of (fn := Tryz.f100) (l := [.cell 4 97, .tmp 5]) (envL []) [0, 1, 2, 4, 5, 7, 9, 10, 11, 12, 18] [] [] (env0 h.hP) ?_ (by rw [h.hP]; exact Tryz.func100) rfl (by kernel_rfl) rfl ?_ ?_
  · rw [h.hP]; exact ⟨_, Tryz.func100, by kernel_rfl, by kernel_rfl⟩
  · rintro xs ⟨e, f, rfl, h1⟩; exact ⟨_, e, f, rfl, rfl⟩
  · rintro xs ⟨e, f, rfl, h1⟩
    refine ⟨by rw [Tryz.ntmps100]; simp, ?_⟩
    simp only [go_sem, h.hP, List.cons_append, List.nil_append, Meets_e, Below_e, Prod.exists, exists_eq, exists_eq_left, exists_eq_left', exists_eq_right, exists_eq_right', exists_and_left, exists_and_right, Ob.arr.injEq, AV.own.injEq, AV.fv.injEq, vinS_q, vinS_p, vinS_c, vinS_f, TEvent.row, TField.len, TValue.row, Tryz.ntmps100, Nat.reduceEqDiff, reduceCtorEq, Nat.reduceMul, Nat.reduceAdd, Nat.reduceSub, Nat.reduceDiv, Nat.reduceMod, Nat.reduceLeDiff, Nat.reduceLT, Nat.reduceBNe, Nat.reduceBEq, reduceIte, Int.reduceLE, Int.reduceLT, Int.reduceToNat, Int.reduceNeg, Int.reduceAdd, Int.reduceSub, Int.reduceMul, Int.reduceEq]
    refine vc_loopS (Int) (fun (i : Int) => [(11, .i i)]) [4] (fun (i : Int) => []) (fun (i : Int) => []) (fun (i : Int) => 0) (fun (i : Int) => 0 ≤ i ∧ i ≤ e.fields.length ∧ ∀ j : Nat, (j : Int) < i → (e.fields.getD j TField.z).name ≠ f) (fun (i : Int) => (e.fields.length - i).toNat) [] ?_ ?_
    · simp only [go_sem, h.hP, List.cons_append, List.nil_append, Meets_e, Below_e, Prod.exists, exists_eq, exists_eq_left, exists_eq_left', exists_eq_right, exists_eq_right', exists_and_left, exists_and_right, Ob.arr.injEq, AV.own.injEq, AV.fv.injEq, Tryz.ntmps100, Nat.reduceEqDiff, reduceCtorEq, Nat.reduceMul, Nat.reduceAdd, Nat.reduceSub, Nat.reduceDiv, Nat.reduceMod, Nat.reduceLeDiff, Nat.reduceLT, Nat.reduceBNe, Nat.reduceBEq, reduceIte, Int.reduceLE, Int.reduceLT, Int.reduceToNat, Int.reduceNeg, Int.reduceAdd, Int.reduceSub, Int.reduceMul, Int.reduceEq]
      exact ⟨by omega, fun j hj => by omega⟩
    · rintro i ⟨i0, i1, hj⟩
      simp only [go_sem, h.hP, List.cons_append, List.nil_append, Meets_e, Below_e, Prod.exists, exists_eq, exists_eq_left, exists_eq_left', exists_eq_right, exists_eq_right', exists_and_left, exists_and_right, Ob.arr.injEq, AV.own.injEq, AV.fv.injEq, vinS_q, vinS_p, vinS_c, vinS_f, TField.len, TField.get, TValue.row, Tryz.ntmps100, Nat.reduceEqDiff, reduceCtorEq, Nat.reduceMul, Nat.reduceAdd, Nat.reduceSub, Nat.reduceDiv, Nat.reduceMod, Nat.reduceLeDiff, Nat.reduceLT, Nat.reduceBNe, Nat.reduceBEq, reduceIte, Int.reduceLE, Int.reduceLT, Int.reduceToNat, Int.reduceNeg, Int.reduceAdd, Int.reduceSub, Int.reduceMul, Int.reduceEq]
      refine ⟨fun z => ⟨i0, z, fun c => ?_, fun c => ?_⟩, fun z => ?_⟩
      · have hv : fvF f e = some (e.fields.getD i.toNat TField.z).value := by
          unfold fvF
          rw [find_first (i := i.toNat) (by omega) c (fun j hj2 => hj j (by omega))]
          rfl
        rw [hv]
        exact ⟨rfl, rfl, rfl, rfl⟩
      · rw [i64w (n := i + 1) (by omega) (by omega)]
        refine ⟨by omega, by omega, fun j hj2 => ?_, by omega⟩
        by_cases q : (j : Int) < i
        · exact hj j q
        · rw [show j = i.toNat by omega]
          exact c
      · have hv : fvF f e = none := by
          unfold fvF
          rw [find_nil (fun j hj2 => hj j (by omega))]
          rfl
        rw [hv]
        exact ⟨rfl, rfl, rfl, rfl⟩
def sumOS  : Spec where
  pre xs := ∃ (l : List TEvent) (n : ByteArray) (f : ByteArray) (w : TWindow), xs = [.sl (TEvent.rows l), .str n, .str f, .dv (.ag w.row)] ∧ (okL TEvent.ok l ∧ w.ok)
  post xs y := ∃ (l : List TEvent) (n : ByteArray) (f : ByteArray) (w : TWindow), xs = [.sl (TEvent.rows l), .str n, .str f, .dv (.ag w.row)] ∧ y = .i (sumW f (namedL l n w))
  cost _ := 0
  fresh := true
theorem sumOS_c  (xs : List AV) : (sumOS).cost xs = 0 := nr rfl
theorem sumOS_f  : (sumOS).fresh = true := nr rfl
theorem sumOS_q  (l : List TEvent) (n : ByteArray) (f : ByteArray) (w : TWindow) : (sumOS).pre [.sl (TEvent.rows l), .str n, .str f, .dv (.ag [.int .i64 w.from_, .int .i64 w.to_])] = (okL TEvent.ok l ∧ w.ok) := propext ⟨fun h => by
  have h' : ∃ (l' : List TEvent) (n' : ByteArray) (f' : ByteArray) (w' : TWindow), ([.sl (TEvent.rows l), .str n, .str f, .dv (.ag w.row)] : List AV) = [.sl (TEvent.rows l'), .str n', .str f', .dv (.ag w'.row)] ∧ (okL TEvent.ok l' ∧ w'.ok) := h
  obtain ⟨l', n', f', w', e, h⟩ := h'
  simp only [List.cons.injEq, AV.dv.injEq, AV.dp.injEq, AV.fv.injEq, DV.d.injEq, DV.ag.injEq, D.int.injEq, D.str.injEq, D.bool.injEq, D.sl.injEq, true_and, and_true, intsDi_inj, rowsT_inj, rowsKi_inj, TEvent.row_inj, TEvent.rows_inj, TWindow.row_inj, TWindow.rows_inj] at e
  obtain ⟨rfl, rfl, rfl, rfl⟩ := e
  exact h, fun h => ⟨l, n, f, w, rfl, h⟩⟩
theorem sumOS_p  (l : List TEvent) (n : ByteArray) (f : ByteArray) (w : TWindow) : (sumOS).post [.sl (TEvent.rows l), .str n, .str f, .dv (.ag [.int .i64 w.from_, .int .i64 w.to_])] = fun y => y = .i (sumW f (namedL l n w)) := funext fun y => propext ⟨fun h => by
  have h' : ∃ (l' : List TEvent) (n' : ByteArray) (f' : ByteArray) (w' : TWindow), ([.sl (TEvent.rows l), .str n, .str f, .dv (.ag w.row)] : List AV) = [.sl (TEvent.rows l'), .str n', .str f', .dv (.ag w'.row)] ∧ y = .i (sumW f' (namedL l' n' w')) := h
  obtain ⟨l', n', f', w', e, h⟩ := h'
  simp only [List.cons.injEq, AV.dv.injEq, AV.dp.injEq, AV.fv.injEq, DV.d.injEq, DV.ag.injEq, D.int.injEq, D.str.injEq, D.bool.injEq, D.sl.injEq, true_and, and_true, intsDi_inj, rowsT_inj, rowsKi_inj, TEvent.row_inj, TEvent.rows_inj, TWindow.row_inj, TWindow.rows_inj] at e
  obtain ⟨rfl, rfl, rfl, rfl⟩ := e
  exact h, fun h => ⟨l, n, f, w, rfl, h⟩⟩
set_option maxHeartbeats 4000000 in
theorem SumOf_ctr {cx : Cx} (h : Seat cx) : Ctr cx 51 sumOS := by
  refine ctr_of (fn := Tryz.f51) (l := [.tmp 8]) (envL [(23, namedOfS), (100, vinS)]) [0, 1, 2, 3, 7, 8, 9, 11, 12, 13, 17, 18, 19, 20, 34] [] [] (envL_cons (NamedOf_ctr h) (envL_cons (valueIn_ctr h) (env0 h.hP))) ?_ (by rw [h.hP]; exact Tryz.func51) rfl (by kernel_rfl) rfl ?_ ?_
  · rw [h.hP]; exact ⟨_, Tryz.func51, by kernel_rfl, by kernel_rfl⟩
  · rintro xs ⟨l, n, f, w, rfl, h1⟩; exact ⟨_, l, n, f, w, rfl, rfl⟩
  · rintro xs ⟨l, n, f, w, rfl, h1, h2⟩
    refine ⟨by rw [Tryz.ntmps51]; simp, ?_⟩
    simp only [go_sem, h.hP, List.cons_append, List.nil_append, Meets_e, Below_e, Prod.exists, exists_eq, exists_eq_left, exists_eq_left', exists_eq_right, exists_eq_right', exists_and_left, exists_and_right, Ob.arr.injEq, AV.own.injEq, AV.fv.injEq, sumOS_q, sumOS_p, sumOS_c, sumOS_f, namedOfS_q, namedOfS_p, namedOfS_c, namedOfS_f, TEvent.len, TWindow.row, Tryz.ntmps51, Nat.reduceEqDiff, reduceCtorEq, Nat.reduceMul, Nat.reduceAdd, Nat.reduceSub, Nat.reduceDiv, Nat.reduceMod, Nat.reduceLeDiff, Nat.reduceLT, Nat.reduceBNe, Nat.reduceBEq, reduceIte, Int.reduceLE, Int.reduceLT, Int.reduceToNat, Int.reduceNeg, Int.reduceAdd, Int.reduceSub, Int.reduceMul, Int.reduceEq]
    refine ⟨h1, h2, ?_⟩
    have ho := nmd_ok (n := n) (w := w) h1
    generalize namedL l n w = m at *
    refine vc_loopS (Int × Int) (fun (x : Int × Int) => match x with | (i, s) => [(19, .i i), (9, .i s)]) [7] (fun (x : Int × Int) => match x with | (i, s) => []) (fun (x : Int × Int) => match x with | (i, s) => []) (fun (x : Int × Int) => match x with | (i, s) => 0) (fun (x : Int × Int) => match x with | (i, s) => 0 ≤ i ∧ i ≤ m.length ∧ s = (m.take i.toNat).foldl (addW f) 0) (fun (x : Int × Int) => match x with | (i, s) => (m.length - i).toNat) [] ?_ ?_
    · simp only [go_sem, h.hP, List.cons_append, List.nil_append, Meets_e, Below_e, Prod.exists, exists_eq, exists_eq_left, exists_eq_left', exists_eq_right, exists_eq_right', exists_and_left, exists_and_right, Ob.arr.injEq, AV.own.injEq, AV.fv.injEq, TEvent.len, Tryz.ntmps51, Nat.reduceEqDiff, reduceCtorEq, Nat.reduceMul, Nat.reduceAdd, Nat.reduceSub, Nat.reduceDiv, Nat.reduceMod, Nat.reduceLeDiff, Nat.reduceLT, Nat.reduceBNe, Nat.reduceBEq, reduceIte, Int.reduceLE, Int.reduceLT, Int.reduceToNat, Int.reduceNeg, Int.reduceAdd, Int.reduceSub, Int.reduceMul, Int.reduceEq]
      exact ⟨by omega, rfl⟩
    · rintro ⟨i, s⟩ ⟨i0, i1, hs⟩
      have hf : (m.getD i.toNat TEvent.z).fields.length ≤ 1048576 := (okL_get ho TEvent.z_ok _).2.2.2.2.1
      have hl := ho.1
      simp only [go_sem, h.hP, List.cons_append, List.nil_append, Meets_e, Below_e, Prod.exists, exists_eq, exists_eq_left, exists_eq_left', exists_eq_right, exists_eq_right', exists_and_left, exists_and_right, Ob.arr.injEq, AV.own.injEq, AV.fv.injEq, sumOS_q, sumOS_p, sumOS_c, sumOS_f, vinS_q, vinS_p, vinS_c, vinS_f, TEvent.row, TEvent.len, TEvent.get, TValue.row, Tryz.ntmps51, Nat.reduceEqDiff, reduceCtorEq, Nat.reduceMul, Nat.reduceAdd, Nat.reduceSub, Nat.reduceDiv, Nat.reduceMod, Nat.reduceLeDiff, Nat.reduceLT, Nat.reduceBNe, Nat.reduceBEq, reduceIte, Int.reduceLE, Int.reduceLT, Int.reduceToNat, Int.reduceNeg, Int.reduceAdd, Int.reduceSub, Int.reduceMul, Int.reduceEq]
      have stp : ∀ s' : Int, i < m.length → addW f s (m.getD i.toNat TEvent.z) = s' → 0 ≤ IntKind.i64.wrap (i + 1) ∧ IntKind.i64.wrap (i + 1) ≤ m.length ∧ s' = (m.take (IntKind.i64.wrap (i + 1)).toNat).foldl (addW f) 0 ∧ (m.length - IntKind.i64.wrap (i + 1)).toNat < (m.length - i).toNat := fun s' z e => by
        rw [i64w (n := i + 1) (by omega) (by omega), fold_step (addW f) 0 i0 z, ← hs, e]
        exact ⟨by omega, by omega, rfl, by omega⟩
      refine ⟨fun z => ⟨i0, z, hf, fun c1 => ?_, fun c1 => ?_⟩, fun z => ?_⟩
      · obtain ⟨a, hv⟩ := Option.isSome_iff_exists.1 c1
        rw [hv]
        refine ⟨fun c2 => stp _ z ?_, fun c2 => stp _ z ?_⟩
        · unfold addW; rw [hv]; exact if_neg c2
        · unfold addW; rw [hv]; exact if_pos c2
      · rw [Option.isSome_eq_false_iff, Option.isNone_iff_eq_none] at c1
        exact stp _ z (by unfold addW; rw [c1])
      · have : i.toNat = m.length := by omega
        rw [hs, this, List.take_of_length_le (Nat.le_refl _)]
        rfl
def sameΦ (caps : List (List D)) : FSpec where
  pre xs := caps = [] ∧ ∃ a b : TEvent, xs = [.ag a.row, .ag b.row] ∧ a.ok ∧ b.ok
  post xs r := caps = [] ∧ ∃ a b : TEvent, xs = [.ag a.row, .ag b.row] ∧ r = .d (.bool (sameB a b))
theorem sameΦ_of {cx : Cx} {fn : FuncId} (h : Ctr cx fn sameS) (caps : List (List D)) : Ctr cx fn (clo sameΦ caps) := by
  refine h.weaken (fun xs hx => ?_) (fun xs r hx hr => ?_) (fun _ => Nat.le_refl _) rfl
  · obtain ⟨ys, rfl, rfl, a, b, rfl, h1⟩ := hx
    exact ⟨a, b, rfl, h1⟩
  · obtain ⟨ys, rfl, rfl, a, b, rfl, h1⟩ := hx
    obtain ⟨a', b', e, rfl⟩ := hr
    simp only [List.map_cons, List.map_nil, List.append_nil, List.cons.injEq, AV.dv.injEq, DV.ag.injEq, and_true] at e
    obtain ⟨e1, e2⟩ := e
    obtain rfl := TEvent.inj e1
    obtain rfl := TEvent.inj e2
    exact ⟨_, _, rfl, rfl, rfl, _, _, rfl, rfl⟩
theorem sameΦ_pre (a b : TEvent) : (sameΦ []).pre [.ag a.row, .ag b.row] = (a.ok ∧ b.ok) := propext ⟨fun ⟨_, a', b', e, h⟩ => by
  simp only [List.cons.injEq, DV.ag.injEq, and_true] at e
  rw [TEvent.inj e.1, TEvent.inj e.2]
  exact h, fun h => ⟨rfl, a, b, rfl, h⟩⟩
theorem sameΦ_post (a b : TEvent) (y : DV) : (sameΦ []).post [.ag a.row, .ag b.row] y = (y = .d (.bool (sameB a b))) := propext ⟨fun ⟨_, a', b', e, h⟩ => by
  simp only [List.cons.injEq, DV.ag.injEq, and_true] at e
  rw [TEvent.inj e.1, TEvent.inj e.2]
  exact h, fun h => ⟨rfl, a, b, rfl, h⟩⟩
theorem sameΦ_pre' (a b : TEvent) : (sameΦ []).pre [.ag [.str a.id, .str a.name, .int .i64 a.at_, .int .i64 a.who.kind, .str a.who.text, .sl (TField.rows a.fields)], .ag [.str b.id, .str b.name, .int .i64 b.at_, .int .i64 b.who.kind, .str b.who.text, .sl (TField.rows b.fields)]] = (a.ok ∧ b.ok) := sameΦ_pre a b
theorem sameΦ_post' (a b : TEvent) (y : DV) : (sameΦ []).post [.ag [.str a.id, .str a.name, .int .i64 a.at_, .int .i64 a.who.kind, .str a.who.text, .sl (TField.rows a.fields)], .ag [.str b.id, .str b.name, .int .i64 b.at_, .int .i64 b.who.kind, .str b.who.text, .sl (TField.rows b.fields)]] y = (y = .d (.bool (sameB a b))) := sameΦ_post a b y
open Classical in
noncomputable def eqEB (l m : List TEvent) : Bool := decide (l = m)
open Classical in
theorem eqEB_t {l m : List TEvent} (h : l = m) : eqEB l m = true := by unfold eqEB; exact decide_eq_true h
open Classical in
theorem eqEB_f {l m : List TEvent} (h : ¬ l = m) : eqEB l m = false := by unfold eqEB; exact decide_eq_false h
theorem sameB_eq {a b : TEvent} (h : sameB a b = true) : a = b := by
  by_cases e : a = b
  · exact e
  · rw [sameB_f e] at h; cases h
def eqES  : Spec where
  pre xs := ∃ (l : List TEvent) (m : List TEvent), xs = [.sl (TEvent.rows l), .sl (TEvent.rows m), .fv (sameΦ [])] ∧ (okL TEvent.ok l ∧ okL TEvent.ok m)
  post xs y := ∃ (l : List TEvent) (m : List TEvent), xs = [.sl (TEvent.rows l), .sl (TEvent.rows m), .fv (sameΦ [])] ∧ y = .b (eqEB l m)
  cost _ := 0
  fresh := true
theorem eqES_c  (xs : List AV) : (eqES).cost xs = 0 := nr rfl
theorem eqES_f  : (eqES).fresh = true := nr rfl
theorem eqES_q  (l : List TEvent) (m : List TEvent) : (eqES).pre [.sl (TEvent.rows l), .sl (TEvent.rows m), .fv (sameΦ [])] = (okL TEvent.ok l ∧ okL TEvent.ok m) := propext ⟨fun h => by
  have h' : ∃ (l' : List TEvent) (m' : List TEvent), ([.sl (TEvent.rows l), .sl (TEvent.rows m), .fv (sameΦ [])] : List AV) = [.sl (TEvent.rows l'), .sl (TEvent.rows m'), .fv (sameΦ [])] ∧ (okL TEvent.ok l' ∧ okL TEvent.ok m') := h
  obtain ⟨l', m', e, h⟩ := h'
  simp only [List.cons.injEq, AV.dv.injEq, AV.dp.injEq, AV.fv.injEq, DV.d.injEq, DV.ag.injEq, D.int.injEq, D.str.injEq, D.bool.injEq, D.sl.injEq, true_and, and_true, intsDi_inj, rowsT_inj, rowsKi_inj, TEvent.row_inj, TEvent.rows_inj, TEvent.row_inj, TEvent.rows_inj] at e
  obtain ⟨rfl, rfl⟩ := e
  exact h, fun h => ⟨l, m, rfl, h⟩⟩
theorem eqES_p  (l : List TEvent) (m : List TEvent) : (eqES).post [.sl (TEvent.rows l), .sl (TEvent.rows m), .fv (sameΦ [])] = fun y => y = .b (eqEB l m) := funext fun y => propext ⟨fun h => by
  have h' : ∃ (l' : List TEvent) (m' : List TEvent), ([.sl (TEvent.rows l), .sl (TEvent.rows m), .fv (sameΦ [])] : List AV) = [.sl (TEvent.rows l'), .sl (TEvent.rows m'), .fv (sameΦ [])] ∧ y = .b (eqEB l' m') := h
  obtain ⟨l', m', e, h⟩ := h'
  simp only [List.cons.injEq, AV.dv.injEq, AV.dp.injEq, AV.fv.injEq, DV.d.injEq, DV.ag.injEq, D.int.injEq, D.str.injEq, D.bool.injEq, D.sl.injEq, true_and, and_true, intsDi_inj, rowsT_inj, rowsKi_inj, TEvent.row_inj, TEvent.rows_inj, TEvent.row_inj, TEvent.rows_inj] at e
  obtain ⟨rfl, rfl⟩ := e
  exact h, fun h => ⟨l, m, rfl, h⟩⟩
set_option maxHeartbeats 4000000 in
theorem eqE_ctr {cx : Cx} (h : Seat cx) : Ctr cx 89 eqES := by
  refine ctr_of (fn := Tryz.f89) (l := [.tmp 6]) (envL []) [0, 1, 2, 6, 7, 8, 9, 14, 15, 16, 17, 18, 30] [] [] (env0 h.hP) ?_ (by rw [h.hP]; exact Tryz.func89) rfl (by kernel_rfl) rfl ?_ ?_
  · rw [h.hP]; exact ⟨_, Tryz.func89, by kernel_rfl, by kernel_rfl⟩
  · rintro xs ⟨l, m, rfl, h1⟩; exact ⟨_, l, m, rfl, rfl⟩
  · rintro xs ⟨l, m, rfl, h1, h2⟩
    have hl := h1.1
    have hm := h2.1
    refine ⟨by rw [Tryz.ntmps89]; simp, ?_⟩
    simp only [go_sem, h.hP, List.cons_append, List.nil_append, Meets_e, Below_e, Prod.exists, exists_eq, exists_eq_left, exists_eq_left', exists_eq_right, exists_eq_right', exists_and_left, exists_and_right, Ob.arr.injEq, AV.own.injEq, AV.fv.injEq, eqES_q, eqES_p, eqES_c, eqES_f, TEvent.len, Tryz.ntmps89, Nat.reduceEqDiff, reduceCtorEq, Nat.reduceMul, Nat.reduceAdd, Nat.reduceSub, Nat.reduceDiv, Nat.reduceMod, Nat.reduceLeDiff, Nat.reduceLT, Nat.reduceBNe, Nat.reduceBEq, reduceIte, Int.reduceLE, Int.reduceLT, Int.reduceToNat, Int.reduceNeg, Int.reduceAdd, Int.reduceSub, Int.reduceMul, Int.reduceEq]
    refine ⟨fun c => (eqEB_f (fun e => c (by rw [e]))).symm, fun c => ?_⟩
    refine vc_loopS (Int) (fun (i : Int) => [(17, .i i)]) [] (fun (i : Int) => []) (fun (i : Int) => []) (fun (i : Int) => 0) (fun (i : Int) => 0 ≤ i ∧ i ≤ l.length ∧ ∀ j : Nat, (j : Int) < i → l.getD j TEvent.z = m.getD j TEvent.z) (fun (i : Int) => (l.length - i).toNat) [] ?_ ?_
    · simp only [go_sem, h.hP, List.cons_append, List.nil_append, Meets_e, Below_e, Prod.exists, exists_eq, exists_eq_left, exists_eq_left', exists_eq_right, exists_eq_right', exists_and_left, exists_and_right, Ob.arr.injEq, AV.own.injEq, AV.fv.injEq, TEvent.len, Tryz.ntmps89, Nat.reduceEqDiff, reduceCtorEq, Nat.reduceMul, Nat.reduceAdd, Nat.reduceSub, Nat.reduceDiv, Nat.reduceMod, Nat.reduceLeDiff, Nat.reduceLT, Nat.reduceBNe, Nat.reduceBEq, reduceIte, Int.reduceLE, Int.reduceLT, Int.reduceToNat, Int.reduceNeg, Int.reduceAdd, Int.reduceSub, Int.reduceMul, Int.reduceEq]
      exact ⟨by omega, fun j hj => by omega⟩
    · rintro i ⟨i0, i1, hj⟩
      simp only [go_sem, h.hP, List.cons_append, List.nil_append, Meets_e, Below_e, Prod.exists, exists_eq, exists_eq_left, exists_eq_left', exists_eq_right, exists_eq_right', exists_and_left, exists_and_right, Ob.arr.injEq, AV.own.injEq, AV.fv.injEq, eqES_q, eqES_p, eqES_c, eqES_f, TEvent.len, TEvent.get, sameΦ_pre', sameΦ_post', Tryz.ntmps89, Nat.reduceEqDiff, reduceCtorEq, Nat.reduceMul, Nat.reduceAdd, Nat.reduceSub, Nat.reduceDiv, Nat.reduceMod, Nat.reduceLeDiff, Nat.reduceLT, Nat.reduceBNe, Nat.reduceBEq, reduceIte, Int.reduceLE, Int.reduceLT, Int.reduceToNat, Int.reduceNeg, Int.reduceAdd, Int.reduceSub, Int.reduceMul, Int.reduceEq]
      have e : l.length = m.length := by first | exact c | (exact Decidable.of_not_not c) | omega
      refine ⟨fun z => ⟨i0, z, i0, by omega, okL_get h1 TEvent.z_ok _, okL_get h2 TEvent.z_ok _, fun q => (eqEB_f fun e => ?_).symm, fun q => ?_⟩, fun z => (eqEB_t ?_).symm⟩
      · rw [e, sameB_t rfl] at q
        cases q
      · rw [i64w (n := i + 1) (by omega) (by omega)]
        refine ⟨by omega, by omega, fun j hj2 => ?_, by omega⟩
        by_cases q2 : (j : Int) < i
        · exact hj j q2
        · rw [show j = i.toNat by omega]
          exact sameB_eq q
      · apply List.ext_getElem e
        intro j g2 g3
        have := hj j (by omega)
        rwa [List.getD_eq_getElem?_getD, List.getD_eq_getElem?_getD, List.getElem?_eq_getElem g2, List.getElem?_eq_getElem g3] at this
def smEvS  : Spec where
  pre xs := ∃ (l : List TEvent) (m : List TEvent), xs = [.sl (TEvent.rows l), .sl (TEvent.rows m)] ∧ (okL TEvent.ok l ∧ okL TEvent.ok m)
  post xs y := ∃ (l : List TEvent) (m : List TEvent), xs = [.sl (TEvent.rows l), .sl (TEvent.rows m)] ∧ y = .b (eqEB l m)
  cost _ := 0
  fresh := true
theorem smEvS_c  (xs : List AV) : (smEvS).cost xs = 0 := nr rfl
theorem smEvS_f  : (smEvS).fresh = true := nr rfl
theorem smEvS_q  (l : List TEvent) (m : List TEvent) : (smEvS).pre [.sl (TEvent.rows l), .sl (TEvent.rows m)] = (okL TEvent.ok l ∧ okL TEvent.ok m) := propext ⟨fun h => by
  have h' : ∃ (l' : List TEvent) (m' : List TEvent), ([.sl (TEvent.rows l), .sl (TEvent.rows m)] : List AV) = [.sl (TEvent.rows l'), .sl (TEvent.rows m')] ∧ (okL TEvent.ok l' ∧ okL TEvent.ok m') := h
  obtain ⟨l', m', e, h⟩ := h'
  simp only [List.cons.injEq, AV.dv.injEq, AV.dp.injEq, AV.fv.injEq, DV.d.injEq, DV.ag.injEq, D.int.injEq, D.str.injEq, D.bool.injEq, D.sl.injEq, true_and, and_true, intsDi_inj, rowsT_inj, rowsKi_inj, TEvent.row_inj, TEvent.rows_inj, TEvent.row_inj, TEvent.rows_inj] at e
  obtain ⟨rfl, rfl⟩ := e
  exact h, fun h => ⟨l, m, rfl, h⟩⟩
theorem smEvS_p  (l : List TEvent) (m : List TEvent) : (smEvS).post [.sl (TEvent.rows l), .sl (TEvent.rows m)] = fun y => y = .b (eqEB l m) := funext fun y => propext ⟨fun h => by
  have h' : ∃ (l' : List TEvent) (m' : List TEvent), ([.sl (TEvent.rows l), .sl (TEvent.rows m)] : List AV) = [.sl (TEvent.rows l'), .sl (TEvent.rows m')] ∧ y = .b (eqEB l' m') := h
  obtain ⟨l', m', e, h⟩ := h'
  simp only [List.cons.injEq, AV.dv.injEq, AV.dp.injEq, AV.fv.injEq, DV.d.injEq, DV.ag.injEq, D.int.injEq, D.str.injEq, D.bool.injEq, D.sl.injEq, true_and, and_true, intsDi_inj, rowsT_inj, rowsKi_inj, TEvent.row_inj, TEvent.rows_inj, TEvent.row_inj, TEvent.rows_inj] at e
  obtain ⟨rfl, rfl⟩ := e
  exact h, fun h => ⟨l, m, rfl, h⟩⟩
theorem sameEvents_ctr {cx : Cx} (h : Seat cx) : Ctr cx 41 smEvS := by
  refine ctr_of (fn := Tryz.f41) (l := [.tmp 4]) (envF [(89, eqES)] [(24, sameΦ)]) [0, 1, 4] [] [] (envF_cons (sameΦ_of (SameEvent_ctr h)) (envF_nil (envL_cons (eqE_ctr h) (env0 h.hP)))) ?_ (by rw [h.hP]; exact Tryz.func41) rfl (by kernel_rfl) rfl ?_ ?_
  · rw [h.hP]; exact ⟨_, Tryz.func41, by kernel_rfl, by kernel_rfl⟩
  · rintro xs ⟨l, m, rfl, h1⟩; exact ⟨_, l, m, rfl, rfl⟩
  · rintro xs ⟨l, m, rfl, h1, h2⟩
    refine ⟨by rw [Tryz.ntmps41]; simp, ?_⟩
    simp only [go_sem, h.hP, List.cons_append, List.nil_append, Meets_e, Below_e, Prod.exists, exists_eq, exists_eq_left, exists_eq_left', exists_eq_right, exists_eq_right', exists_and_left, exists_and_right, Ob.arr.injEq, AV.own.injEq, AV.fv.injEq, smEvS_q, smEvS_p, smEvS_c, smEvS_f, eqES_q, eqES_p, eqES_c, eqES_f, Tryz.ntmps41, Nat.reduceEqDiff, reduceCtorEq, Nat.reduceMul, Nat.reduceAdd, Nat.reduceSub, Nat.reduceDiv, Nat.reduceMod, Nat.reduceLeDiff, Nat.reduceLT, Nat.reduceBNe, Nat.reduceBEq, reduceIte, Int.reduceLE, Int.reduceLT, Int.reduceToNat, Int.reduceNeg, Int.reduceAdd, Int.reduceSub, Int.reduceMul, Int.reduceEq]
    exact ⟨h1, h2⟩
/-! ### A field's name; a window -/
def fieldG : Spec where
  pre xs := xs = [.st]
  post xs y := ∃ s : ByteArray, okS s ∧ y = .str s
  cost _ := 1
  fresh := false
theorem field_ctr {cx : Cx} (h : Seat cx) : Ctr cx 45 fieldG := by
  refine ctr_of (fn := Tryz.f45) (l := [.tmp 2]) (envL [(12, pickS)]) [0, 2] [] [] (envL_cons (pick_ctr cx h.hP h.hS) (env0 h.hP)) ?_ (by rw [h.hP]; exact Tryz.func45) rfl (by kernel_rfl) rfl ?_ ?_
  · rw [h.hP]; exact ⟨_, Tryz.func45, by kernel_rfl, by kernel_rfl⟩
  · rintro xs rfl; exact ⟨_, ⟨#[]⟩, okS_z, rfl⟩
  · rintro xs rfl
    refine ⟨by rw [Tryz.ntmps45]; simp, ?_⟩
    simp only [go_sem, h.hP, List.cons_append, List.nil_append, Meets_e, Below_e, Prod.exists, exists_eq, exists_eq_left, exists_eq_left', exists_eq_right, exists_eq_right', exists_and_left, exists_and_right, Ob.arr.injEq, AV.own.injEq, AV.fv.injEq, fieldG, pickS_q, pickS_p, pickS_c, pickS_f, ints1, intsc, strs1, strsc, rowsT_len, rowsT_get, Tryz.ntmps45, Nat.reduceEqDiff, reduceCtorEq, Nat.reduceMul, Nat.reduceAdd, Nat.reduceSub, Nat.reduceDiv, Nat.reduceMod, Nat.reduceLeDiff, Nat.reduceLT, Nat.reduceBNe, Nat.reduceBEq, reduceIte, Int.reduceLE, Int.reduceLT, Int.reduceToNat, Int.reduceNeg, Int.reduceAdd, Int.reduceSub, Int.reduceMul, Int.reduceEq]
    intro a ha
    have ha2 : 0 ≤ a ∧ a ≤ 8 := by
      simp only [isIn, List.mem_cons, List.not_mem_nil, or_false] at ha
      omega
    refine ⟨ha2.1, by omega, ?_⟩
    have hk : ∀ k : Nat, k < 9 → ([⟨#[97, 103, 101]⟩, ⟨#[99, 105, 116, 121]⟩, ⟨#[106, 111, 105, 110, 101, 100]⟩, ⟨#[110, 97, 109, 101]⟩, ⟨#[112, 108, 97, 110]⟩, ⟨#[118, 105, 112]⟩, ⟨#[122, 111, 111]⟩, ⟨#[]⟩, ⟨#[65]⟩].getD k (⟨#[]⟩ : ByteArray)).size ≤ 1000 := by decide
    exact okS_of (hk _ (by omega))
def windowG : Spec where
  pre xs := xs = [.st]
  post xs y := ∃ w : TWindow, w.ok ∧ y = .dv (.ag w.row)
  cost _ := 5
  fresh := false
theorem Window_ctr {cx : Cx} (h : Seat cx) : Ctr cx 46 windowG := by
  refine ctr_of (fn := Tryz.f46) (l := [.cell 2 43]) (envL [(12, pickS), (26, flipS)]) [0, 2, 3, 16] [] [] (envL_cons (pick_ctr cx h.hP h.hS) (envL_cons (flip_ctr cx h.hP h.hS) (env0 h.hP))) ?_ (by rw [h.hP]; exact Tryz.func46) rfl (by kernel_rfl) rfl ?_ ?_
  · rw [h.hP]; exact ⟨_, Tryz.func46, by kernel_rfl, by kernel_rfl⟩
  · rintro xs rfl; exact ⟨_, ⟨0, 0⟩, ⟨okI_z, okI_z⟩, rfl⟩
  · rintro xs rfl
    refine ⟨by rw [Tryz.ntmps46]; simp, ?_⟩
    simp only [go_sem, h.hP, List.cons_append, List.nil_append, Meets_e, Below_e, Prod.exists, exists_eq, exists_eq_left, exists_eq_left', exists_eq_right, exists_eq_right', exists_and_left, exists_and_right, Ob.arr.injEq, AV.own.injEq, AV.fv.injEq, windowG, pickS_q, pickS_p, pickS_c, pickS_f, flipS_q, flipS_p, flipS_c, flipS_f, ints1, intsc, TWindow.row, Tryz.ntmps46, Nat.reduceEqDiff, reduceCtorEq, Nat.reduceMul, Nat.reduceAdd, Nat.reduceSub, Nat.reduceDiv, Nat.reduceMod, Nat.reduceLeDiff, Nat.reduceLT, Nat.reduceBNe, Nat.reduceBEq, reduceIte, Int.reduceLE, Int.reduceLT, Int.reduceToNat, Int.reduceNeg, Int.reduceAdd, Int.reduceSub, Int.reduceMul, Int.reduceEq]
    intro a ha b hb f
    simp only [isIn, List.mem_cons, List.not_mem_nil, or_false] at ha hb
    refine ⟨fun _ c hc d hd => ⟨⟨c, d⟩, ?_, rfl, rfl⟩, fun _ => ⟨⟨a, IntKind.i64.wrap (a + b)⟩, ?_, rfl, rfl⟩⟩
    · simp only [isIn, List.mem_cons, List.not_mem_nil, or_false] at hc hd
      exact ⟨⟨by show _ ≤ c; omega, by show c ≤ _; omega⟩, by show _ ≤ d; omega, by show d ≤ _; omega⟩
    · rw [i64w (n := a + b) (by omega) (by omega)]
      exact ⟨⟨by show _ ≤ a; omega, by show a ≤ _; omega⟩, by show _ ≤ a + b; omega, by show a + b ≤ _; omega⟩
end Go.Avc

namespace Go.Avc
open Go Go.Proofs Go.Shelf Go.Sort
def ltV (x y : TValue) : Prop := x.kind < y.kind ∨ (x.kind = y.kind ∧ (x.number < y.number ∨ (x.number = y.number ∧ lessS x.text y.text = true)))
theorem ltV_irrefl (x : TValue) : ¬ ltV x x := by
  rintro (h | ⟨_, h | ⟨_, h⟩⟩)
  · omega
  · omega
  · rw [lessS_irrefl] at h; cases h
theorem ltV_trans {x y z : TValue} (h : ltV x y) (k : ltV y z) : ltV x z := by
  rcases h with h | ⟨h1, h | ⟨h2, h⟩⟩ <;> rcases k with k | ⟨k1, k | ⟨k2, k⟩⟩
  · exact .inl (by omega)
  · exact .inl (by omega)
  · exact .inl (by omega)
  · exact .inl (by omega)
  · exact .inr ⟨by omega, .inl (by omega)⟩
  · exact .inr ⟨by omega, .inl (by omega)⟩
  · exact .inl (by omega)
  · exact .inr ⟨by omega, .inl (by omega)⟩
  · exact .inr ⟨by omega, .inr ⟨by omega, lessS_trans h k⟩⟩
theorem ltV_total {x y : TValue} (h1 : ¬ ltV x y) (h2 : ¬ ltV y x) : x = y := by
  have e1 : x.kind = y.kind := by
    have a1 : ¬ x.kind < y.kind := fun e => h1 (.inl e)
    have a2 : ¬ y.kind < x.kind := fun e => h2 (.inl e)
    omega
  have e2 : x.number = y.number := by
    have a1 : ¬ x.number < y.number := fun e => h1 (.inr ⟨e1, .inl e⟩)
    have a2 : ¬ y.number < x.number := fun e => h2 (.inr ⟨e1.symm, .inl e⟩)
    omega
  have e3 : x.text = y.text := by
    by_cases e : x.text = y.text
    · exact e
    · by_cases a1 : lessS x.text y.text = true
      · exact absurd (.inr ⟨e1, .inr ⟨e2, a1⟩⟩) h1
      · exact absurd (.inr ⟨e1.symm, .inr ⟨e2.symm, lessS_total (fun q => q.elim a1 e)⟩⟩) h2
  cases x; cases y
  simp only at e1 e2 e3
  rw [e1, e2, e3]
theorem ltV_ntrans {x y z : TValue} (h : ¬ ltV x y) (k : ¬ ltV y z) : ¬ ltV x z := fun c => by
  by_cases e : ltV y x
  · exact k (ltV_trans e c)
  · rw [ltV_total h e] at c
    exact k c
def cfC (x y : TValue) : Int := OrdW.ordC x.kind y.kind x.number y.number x.text y.text
theorem cmpSV_neg (s t : ByteArray) : OrdW.cmpSV s t < 0 ↔ lessS s t = true := by
  unfold OrdW.cmpSV lessS
  constructor
  · intro h
    split at h
    · assumption
    · split at h <;> exact absurd h (by decide)
  · intro h
    rw [if_pos h]; decide
theorem cfC_lt (x y : TValue) : ltOf cfC x y = true ↔ ltV x y := by
  unfold ltOf cfC OrdW.ordC ltV
  rw [decide_eq_true_eq]
  by_cases h1 : x.kind < y.kind
  · rw [if_pos h1]; exact ⟨fun _ => .inl h1, fun _ => by decide⟩
  · rw [if_neg h1]
    by_cases h2 : x.kind > y.kind
    · rw [if_pos h2]; exact ⟨fun h => absurd h (by decide), fun h => by omega⟩
    · rw [if_neg h2]
      have e : x.kind = y.kind := by omega
      by_cases h3 : x.number < y.number
      · rw [if_pos h3]; exact ⟨fun _ => .inr ⟨e, .inl h3⟩, fun _ => by decide⟩
      · rw [if_neg h3]
        by_cases h4 : x.number > y.number
        · rw [if_pos h4]; exact ⟨fun h => absurd h (by decide), fun h => by omega⟩
        · rw [if_neg h4, cmpSV_neg]
          exact ⟨fun h => .inr ⟨e, .inr ⟨by omega, h⟩⟩, fun h => by
            rcases h with h | ⟨_, h | ⟨_, h⟩⟩
            · omega
            · omega
            · exact h⟩
abbrev VK := { v : TValue // 0 ≤ v.kind ∧ v.kind ≤ 100 }
instance : Inhabited VK := ⟨⟨TValue.z, by decide⟩⟩
def cfR (x y : VK) : Int := OrdW.ordR x.1.kind y.1.kind x.1.number y.1.number x.1.text y.1.text
theorem cfR_lt (x y : VK) : ltOf cfR x y = true ↔ ltV x.1 y.1 := by
  unfold ltOf cfR OrdW.ordR ltV
  rw [decide_eq_true_eq]
  by_cases h1 : x.1.kind = y.1.kind
  · rw [if_pos h1]
    by_cases h2 : x.1.number = y.1.number
    · rw [if_pos h2, cmpSV_neg]
      exact ⟨fun h => .inr ⟨h1, .inr ⟨h2, h⟩⟩, fun h => by
        rcases h with h | ⟨_, h | ⟨_, h⟩⟩
        · omega
        · omega
        · exact h⟩
    · rw [if_neg h2]
      by_cases h3 : x.1.number < y.1.number
      · rw [if_pos h3]; exact ⟨fun _ => .inr ⟨h1, .inl h3⟩, fun _ => by decide⟩
      · rw [if_neg h3]; exact ⟨fun h => absurd h (by decide), fun h => by omega⟩
  · rw [if_neg h1]
    exact ⟨fun h => .inl (by omega), fun h => by omega⟩
theorem swo_of {α : Type} {f : α → TValue} {cf : α → α → Int} (h : ∀ x y, ltOf cf x y = true ↔ ltV (f x) (f y)) : SWO (ltOf cf) where
  irrefl x := by rw [Bool.eq_false_iff, Ne, h]; exact ltV_irrefl _
  trans x y z a b := by rw [h] at a b ⊢; exact ltV_trans a b
  ntrans x y z a b := by
    rw [Bool.eq_false_iff, Ne, h] at a b ⊢
    exact ltV_ntrans a b
/-- Sorted: the same elements, none less than one that stands ahead of it. -/
def sortVS (g : FuncId) : Spec where
  pre az := ∃ l : List TValue, az = [.sl (TValue.rows l), .fn g []] ∧ l.length ≤ 1048576 ∧ ∀ x ∈ l, 0 ≤ x.kind ∧ x.kind ≤ 100
  post az r := ∃ l l' : List TValue, az = [.sl (TValue.rows l), .fn g []] ∧ l'.Perm l ∧ l'.Pairwise (fun x y => ¬ ltV y x) ∧ r = .sl (TValue.rows l')
  cost _ := 0
  fresh := true
theorem sortVS_c (g : FuncId) (xs : List AV) : (sortVS g).cost xs = 0 := nr rfl
theorem sortVS_f (g : FuncId) : (sortVS g).fresh = true := nr rfl
theorem sortVS_q (g : FuncId) (l : List TValue) : (sortVS g).pre [.sl (TValue.rows l), .fn g []] = (l.length ≤ 1048576 ∧ ∀ x ∈ l, 0 ≤ x.kind ∧ x.kind ≤ 100) := propext ⟨fun ⟨l', e, h⟩ => by
  simp only [List.cons.injEq, AV.dv.injEq, DV.d.injEq, D.sl.injEq, TValue.rows_inj, and_true] at e
  subst e
  exact h, fun h => ⟨l, rfl, h⟩⟩
theorem sortVS_p (g : FuncId) (l : List TValue) : (sortVS g).post [.sl (TValue.rows l), .fn g []] = fun r => ∃ l' : List TValue, (l'.Perm l ∧ l'.Pairwise (fun x y => ¬ ltV y x)) ∧ r = .sl (TValue.rows l') := funext fun r => propext ⟨fun ⟨l0, l', e, h1, h2, h3⟩ => by
  simp only [List.cons.injEq, AV.dv.injEq, DV.d.injEq, D.sl.injEq, TValue.rows_inj, and_true] at e
  subst e
  exact ⟨l', ⟨h1, h2⟩, h3⟩, fun ⟨l', ⟨h1, h2⟩, h3⟩ => ⟨l, l', rfl, h1, h2, h3⟩⟩
theorem enc_val (x : TValue) : (encR TValue.row x).toArray = #[.int .i64 x.kind, .string x.text, .int .i64 x.number] := rfl
theorem isAgg_val {cx : Cx} (h : Seat cx) (w : World) : (isAgg 97).run cx.P w = .ok true w := by
  rw [h.hP]
  simp [isAgg, run_underlying Tryz.underlying97]
theorem sizeOf_val {cx : Cx} (h : Seat cx) (w : World) : (Go.sizeOf 97).run cx.P w = .ok 3 w := by
  rw [h.hP]
  have hc : Tryz.prog.cellsOf 97 = 3 := by kernel_rfl
  have := size_run (P := Tryz.prog) (t := 97) (by rw [hc]; decide) w
  rw [hc] at this
  exact this
theorem sortC {cx : Cx} (h : Seat cx) : CtrO cx 97 (sortVS 98) 97 1000003 := by
  have hs := sort_own (row := TValue.row) (k := 3) (cx := cx) (ρ := Tryz.laysSortValue_ren) (by rw [h.hP]; exact Tryz.laysSortValue) (e := 97) (by decide) (isAgg_val h) (sizeOf_val h) (fun _ => rfl) (fun _ => rfl) cfC (swo_of (f := id) cfC_lt)
    (g := 98) (by rw [h.hP]; exact ⟨_, Tryz.func98, by kernel_rfl, by kernel_rfl⟩) (fun x y W => by rw [h.hP, enc_val, enc_val]; exact OrdW.ordC_walk _ _ _ _ _ _ W)
    (by rw [h.hP]; exact ⟨_, Tryz.func97, by kernel_rfl, by kernel_rfl⟩)
  refine hs.weakenM (by decide) (fun xs ⟨l, e, h1, _⟩ => ⟨l, e, h1⟩) (fun xs r hx hr => ?_)
  obtain ⟨l, l', e, hp, hw, rfl⟩ := hr
  exact ⟨l, l', e, hp, hw.imp fun {x y} hxy c => hxy (by have := (cfC_lt y x).2 c; unfold ltOf at this; simpa using this), rfl⟩
theorem sortR {cx : Cx} (h : Seat cx) : CtrO cx 97 (sortVS 102) 97 1000003 := by
  have hs := sort_own (α := VK) (row := fun v => v.1.row) (k := 3) (cx := cx) (ρ := Tryz.laysSortValue_ren) (by rw [h.hP]; exact Tryz.laysSortValue) (e := 97) (by decide) (isAgg_val h) (sizeOf_val h) (fun _ => rfl) (fun _ => rfl) cfR (swo_of (f := Subtype.val) cfR_lt)
    (g := 102) (by rw [h.hP]; exact ⟨_, Tryz.func102, by kernel_rfl, by kernel_rfl⟩) (fun x y W => by rw [h.hP]; exact OrdW.ordR_walk x.1.kind y.1.kind x.1.number y.1.number x.1.text y.1.text x.2 y.2 W)
    (by rw [h.hP]; exact ⟨_, Tryz.func97, by kernel_rfl, by kernel_rfl⟩)
  have hatt : ∀ (l : List TValue) (hl : ∀ x ∈ l, 0 ≤ x.kind ∧ x.kind ≤ 100), ∃ l2 : List VK, l2.map (fun v => v.1.row) = TValue.rows l ∧ l2.map Subtype.val = l := fun l hl => by
    induction l with
    | nil => exact ⟨[], rfl, rfl⟩
    | cons x r ih =>
      obtain ⟨l2, a, b⟩ := ih (fun y hy => hl y (List.mem_cons_of_mem _ hy))
      exact ⟨⟨x, hl x List.mem_cons_self⟩ :: l2, by rw [List.map_cons, a]; rfl, by rw [List.map_cons, b]⟩
  refine hs.weakenM (by decide) (fun xs ⟨l, e, h1, h2⟩ => ?_) (fun xs r hx hr => ?_)
  · obtain ⟨l2, a, b⟩ := hatt l h2
    exact ⟨l2, by rw [e, a], by rw [← b, List.length_map] at h1; exact h1⟩
  · obtain ⟨l, l', e, hp, hw, rfl⟩ := hr
    refine ⟨l.map Subtype.val, l'.map Subtype.val, by rw [e]; unfold TValue.rows; rw [List.map_map]; rfl, hp.map _, ?_, by unfold TValue.rows; rw [List.map_map]; rfl⟩
    rw [List.pairwise_map]
    exact hw.imp fun {x y} hxy c => hxy (by have := (cfR_lt y x).2 c; unfold ltOf at this; simpa using this)
end Go.Avc

namespace Go.Avc
open Go Go.Proofs
/-! ### The plain law: sorted and each once -/
theorem strict_ext {R : TValue → TValue → Prop} (irr : ∀ x, ¬ R x x) (tr : ∀ x y z, R x y → R y z → R x z) : ∀ {l m : List TValue}, l.Pairwise R → m.Pairwise R → (∀ x, x ∈ l ↔ x ∈ m) → l = m
  | [], [], _, _, _ => rfl
  | [], y :: m, _, _, h => absurd ((h y).2 List.mem_cons_self) (by simp)
  | x :: l, [], _, _, h => absurd ((h x).1 List.mem_cons_self) (by simp)
  | x :: l, y :: m, hl, hm, h => by
    obtain ⟨hx, hl'⟩ := List.pairwise_cons.1 hl
    obtain ⟨hy, hm'⟩ := List.pairwise_cons.1 hm
    have e : x = y := by
      rcases List.mem_cons.1 ((h x).1 List.mem_cons_self) with e | e
      · exact e
      · rcases List.mem_cons.1 ((h y).2 List.mem_cons_self) with e2 | e2
        · exact e2.symm
        · exact absurd (tr _ _ _ (hy x e) (hx y e2)) (irr _)
    subst e
    rw [strict_ext irr tr hl' hm' fun z => ⟨fun hz => ?_, fun hz => ?_⟩]
    · rcases List.mem_cons.1 ((h z).1 (List.mem_cons_of_mem _ hz)) with e | e
      · subst e; exact absurd (hx _ hz) (irr _)
      · exact e
    · rcases List.mem_cons.1 ((h z).2 (List.mem_cons_of_mem _ hz)) with e | e
      · subst e; exact absurd (hy _ hz) (irr _)
      · exact e
theorem kpt_step {l : List TValue} {m : Nat} (h : kpt l m = true) (hm : m ≠ 0) : l.getD m TValue.z ≠ l.getD (m - 1) TValue.z := fun e => by
  unfold kpt at h
  rw [decide_eq_false hm, Bool.false_or, valB_iff.2 e] at h
  cases h
theorem kpt_not {l : List TValue} {m : Nat} (h : kpt l m = false) : m ≠ 0 ∧ l.getD m TValue.z = l.getD (m - 1) TValue.z := by
  unfold kpt at h
  rw [Bool.or_eq_false_iff] at h
  refine ⟨of_decide_eq_false h.1, valB_iff.1 ?_⟩
  have := h.2
  rwa [Bool.not_eq_false'] at this
theorem cptN_mem {l : List TValue} : ∀ m, m ≤ l.length → ∀ x, x ∈ cptN l m ↔ ∃ j, j < m ∧ l.getD j TValue.z = x
  | 0, _, x => ⟨fun h => (by cases h), fun ⟨j, hj, _⟩ => (by omega)⟩
  | m + 1, hm, x => by
    have ih := cptN_mem (l := l) m (by omega) x
    show x ∈ cptN l m ++ _ ↔ _
    rw [List.mem_append, ih]
    cases hk : kpt l m with
    | true =>
      rw [if_pos rfl, List.mem_singleton]
      constructor
      · rintro (⟨j, hj, e⟩ | e)
        · exact ⟨j, by omega, e⟩
        · exact ⟨m, by omega, e.symm⟩
      · rintro ⟨j, hj, e⟩
        by_cases q : j = m
        · subst q; exact .inr e.symm
        · exact .inl ⟨j, by omega, e⟩
    | false =>
      rw [if_neg (by decide)]
      obtain ⟨h1, h2⟩ := kpt_not hk
      constructor
      · rintro (⟨j, hj, e⟩ | e)
        · exact ⟨j, by omega, e⟩
        · cases e
      · rintro ⟨j, hj, e⟩
        by_cases q : j = m
        · subst q; exact .inl ⟨j - 1, by omega, h2.symm.trans e⟩
        · exact .inl ⟨j, by omega, e⟩
theorem cptN_strict {l : List TValue} (hs : l.Pairwise fun x y => ¬ ltV y x) : ∀ m, m ≤ l.length → (cptN l m).Pairwise ltV
  | 0, _ => List.Pairwise.nil
  | m + 1, hm => by
    have ih := cptN_strict hs m (by omega)
    show (cptN l m ++ _).Pairwise ltV
    cases hk : kpt l m with
    | false => rw [if_neg (by decide), List.append_nil]; exact ih
    | true =>
      rw [if_pos rfl, List.pairwise_append]
      refine ⟨ih, List.pairwise_singleton _ _, fun x hx y hy => ?_⟩
      rw [List.mem_singleton] at hy
      subst hy
      obtain ⟨j, hj, rfl⟩ := (cptN_mem m (by omega) x).1 hx
      have hg : ∀ i k, i < k → k < l.length → ¬ ltV (l.getD k TValue.z) (l.getD i TValue.z) := fun i k h1 h2 => by
        have := (List.pairwise_iff_getElem.1 hs) i k (by omega) h2 h1
        rwa [List.getD_eq_getElem?_getD, List.getElem?_eq_getElem h2, List.getD_eq_getElem?_getD, List.getElem?_eq_getElem (by omega)]
      -- the one before it is strictly less
      have h1 : ltV (l.getD (m - 1) TValue.z) (l.getD m TValue.z) := by
        by_cases e : ltV (l.getD (m - 1) TValue.z) (l.getD m TValue.z)
        · exact e
        · exact absurd (ltV_total (hg (m - 1) m (by omega) (by omega)) e) (kpt_step hk (by omega))
      by_cases q : j = m - 1
      · rw [q]; exact h1
      · have h2 := hg j (m - 1) (by omega) (by omega)
        by_cases e : ltV (l.getD j TValue.z) (l.getD m TValue.z)
        · exact e
        · exact absurd h1 (ltV_ntrans h2 e)
/-- The program's way and the reference's give the same. -/
theorem dist_same {a s d t : List TValue} (h1 : s.Perm a) (h2 : s.Pairwise fun x y => ¬ ltV y x) (h3 : d.Nodup) (h4 : ∀ x, x ∈ d ↔ x ∈ a) (h5 : t.Perm d) (h6 : t.Pairwise fun x y => ¬ ltV y x) : cptN s s.length = t := by
  have ht : t.Pairwise ltV := by
    have hn : t.Nodup := h5.nodup_iff.2 h3
    rw [List.pairwise_iff_getElem] at h6 ⊢
    intro i j hi hj hij
    by_cases e : ltV t[i] t[j]
    · exact e
    · have e2 := ltV_total e (h6 i j hi hj hij)
      have := (List.pairwise_iff_getElem.1 hn) i j hi hj hij
      exact absurd e2 this
  refine strict_ext ltV_irrefl (fun x y z => ltV_trans) (cptN_strict h2 _ (Nat.le_refl _)) ht fun x => ?_
  rw [cptN_mem _ (Nat.le_refl _), h5.mem_iff, h4, ← h1.mem_iff]
  constructor
  · rintro ⟨j, hj, rfl⟩
    rw [List.getD_eq_getElem?_getD, List.getElem?_eq_getElem hj]
    exact List.getElem_mem hj
  · intro hx
    obtain ⟨j, hj, rfl⟩ := List.mem_iff_getElem.1 hx
    exact ⟨j, hj, by rw [List.getD_eq_getElem?_getD, List.getElem?_eq_getElem hj]; rfl⟩
/-! ### The program -/
def valsF (f : ByteArray) (l : List TEvent) : List TValue := l.filterMap (fvF f)
theorem vals_step {m : List TEvent} (f : ByteArray) {i : Int} (h0 : 0 ≤ i) (hi : i < m.length) : valsF f (m.take (i + 1).toNat) = valsF f (m.take i.toNat) ++ (match fvF f (m.getD i.toNat TEvent.z) with
    | some v => [v]
    | none => []) := by
  unfold valsF
  rw [show (i + 1).toNat = i.toNat + 1 by omega, List.take_add_one, List.getElem?_eq_getElem (by omega), List.filterMap_append, List.getD_eq_getElem?_getD, List.getElem?_eq_getElem (by omega)]
  show _ ++ List.filterMap (fvF f) [m[i.toNat]] = _ ++ _
  congr 1
  rw [List.filterMap_cons, List.filterMap_nil]
  rw [Option.getD_some]
  cases fvF f m[i.toNat] <;> rfl
theorem field_kind {l : List TField} (h : fieldsF l = 0) : ∀ x ∈ l, 0 ≤ x.value.kind ∧ x.value.kind ≤ 100 := fun x hx => by
  unfold fieldsF at h
  split at h
  · cases h
  obtain ⟨j, hj, rfl⟩ := List.mem_iff_getElem.1 hx
  have h1 := firstI_zero h j hj
  unfold fieldF at h1
  split at h1
  · cases h1
  split at h1
  · rename_i q; exact absurd h1 q
  · rename_i q
    have q : valF (l.getD j TField.z).value = 0 := by simpa using q
    rw [List.getD_eq_getElem?_getD, List.getElem?_eq_getElem hj] at q
    have q : valF l[j].value = 0 := q
    unfold valF at q
    split at q
    · cases q
    · rename_i k
      have := inB_iff.1 (by simpa using k)
      omega
theorem evF_flds {e : TEvent} (h : evF e = 0) : fieldsF e.fields = 0 := by
  unfold evF at h
  split at h
  · cases h
  split at h
  · cases h
  exact (orE_zero h).2
theorem vals_kind {m : List TEvent} (h : ∀ j, j < m.length → evF (m.getD j TEvent.z) = 0) (f : ByteArray) : ∀ x ∈ valsF f m, 0 ≤ x.kind ∧ x.kind ≤ 100 := fun x hx => by
  obtain ⟨e, he, hv⟩ := List.mem_filterMap.1 hx
  obtain ⟨j, hj, rfl⟩ := List.mem_iff_getElem.1 he
  have h1 := h j hj
  rw [List.getD_eq_getElem?_getD, List.getElem?_eq_getElem hj] at h1
  unfold fvF at hv
  obtain ⟨y, hy, rfl⟩ := Option.map_eq_some_iff.1 hv
  exact field_kind (evF_flds h1) y (List.mem_of_find?_eq_some hy)
theorem sort_ex (l : List TValue) : ∃ s : List TValue, s.Perm l ∧ s.Pairwise (fun x y => ¬ ltV y x) := by
  classical
  refine ⟨l.mergeSort (fun x y => decide (¬ ltV y x)), List.mergeSort_perm _ _, ?_⟩
  have := List.pairwise_mergeSort (le := fun x y => decide (¬ ltV y x)) (fun a b c h1 h2 => by
    simp only [decide_eq_true_eq] at h1 h2 ⊢
    exact ltV_ntrans h2 h1) (fun a b => by
    by_cases e : ltV b a
    · have : ¬ ltV a b := fun c => ltV_irrefl _ (ltV_trans e c)
      simp [this]
    · simp [e]) l
  exact this.imp fun {x y} h => by simpa using h
def distS : Spec where
  pre az := ∃ (l : List TEvent) (n f : ByteArray) (w : TWindow), az = [.sl (TEvent.rows l), .str n, .str f, .dv (.ag w.row)] ∧ okL TEvent.ok l ∧ okS n ∧ okS f ∧ w.ok
  post az r := ∃ (l : List TEvent) (n f : ByteArray) (w : TWindow) (v : List TValue), az = [.sl (TEvent.rows l), .str n, .str f, .dv (.ag w.row)] ∧ (nmdE l [n, f] w ≠ 0 → v = []) ∧ (nmdE l [n, f] w = 0 → ∃ s : List TValue, s.Perm (valsF f (namedL l n w)) ∧ s.Pairwise (fun x y => ¬ ltV y x) ∧ v = cptN s s.length) ∧ r = .tcons (.sl (TValue.rows v)) (.tcons (.i (nmdE l [n, f] w)) .tnil)
  cost _ := 0
  fresh := true
theorem distS_c (xs : List AV) : distS.cost xs = 0 := nr rfl
theorem distS_f : distS.fresh = true := nr rfl
theorem distS_q (l : List TEvent) (n f : ByteArray) (w : TWindow) : distS.pre [.sl (TEvent.rows l), .str n, .str f, .dv (.ag [.int .i64 w.from_, .int .i64 w.to_])] = (okL TEvent.ok l ∧ okS n ∧ okS f ∧ w.ok) := propext ⟨fun ⟨l', n', f', w', e, h⟩ => by
  simp only [List.cons.injEq, AV.dv.injEq, DV.d.injEq, D.sl.injEq, D.str.injEq, DV.ag.injEq, TEvent.rows_inj, and_true] at e
  obtain ⟨rfl, rfl, rfl, e⟩ := e
  rw [show w = w' from TWindow.inj (x := w) (by exact e)]
  exact h, fun h => ⟨l, n, f, w, rfl, h⟩⟩
theorem distS_p (l : List TEvent) (n f : ByteArray) (w : TWindow) : distS.post [.sl (TEvent.rows l), .str n, .str f, .dv (.ag [.int .i64 w.from_, .int .i64 w.to_])] = fun r => ∃ v : List TValue, ((nmdE l [n, f] w ≠ 0 → v = []) ∧ (nmdE l [n, f] w = 0 → ∃ s : List TValue, s.Perm (valsF f (namedL l n w)) ∧ s.Pairwise (fun x y => ¬ ltV y x) ∧ v = cptN s s.length)) ∧ r = .tcons (.sl (TValue.rows v)) (.tcons (.i (nmdE l [n, f] w)) .tnil) := funext fun r => propext ⟨fun ⟨l', n', f', w', v, e, h1, h2, h3⟩ => by
  simp only [List.cons.injEq, AV.dv.injEq, DV.d.injEq, D.sl.injEq, D.str.injEq, DV.ag.injEq, TEvent.rows_inj, and_true] at e
  obtain ⟨rfl, rfl, rfl, e⟩ := e
  obtain rfl : w = w' := TWindow.inj (x := w) (by exact e)
  exact ⟨v, ⟨h1, h2⟩, h3⟩, fun ⟨v, ⟨h1, h2⟩, h3⟩ => ⟨l, n, f, w, v, rfl, h1, h2, h3⟩⟩
set_option maxHeartbeats 8000000 in
theorem Distinct_ctr {cx : Cx} (h : Seat cx) (hU : Utf8 cx) (hM : MaxL cx) : Ctr cx 49 distS := by
  refine ctr_of (fn := Tryz.f49) (l := [.tmp 8, .tmp 9]) (envO [(62, cnS), (95, namedOfS), (96, findS)] [] [(97, (sortVS 98), 97, 1000003), (99, compS, 97, 2000003)]) [0, 1, 2, 3, 7, 8, 9, 10, 11, 13, 14, 15, 23, 28, 29, 30, 31, 41] [] [] (envO_cons (sortC h) (envO_cons (comp_own h) (envO_nil (envF_nil (envL_cons (checkNamed_ctr h hU hM) (envL_cons (named_ctr h) (envL_cons (Find_ctr h) (env0 h.hP)))))))) ?_ (by rw [h.hP]; exact Tryz.func49) rfl (by kernel_rfl) rfl ?_ ?_
  · rw [h.hP]; exact ⟨_, Tryz.func49, by kernel_rfl, by kernel_rfl⟩
  · rintro xs ⟨l, n, f, w, rfl, h1⟩
    obtain ⟨s, s1, s2⟩ := sort_ex (valsF f (namedL l n w))
    by_cases e : nmdE l [n, f] w = 0
    · exact ⟨_, l, n, f, w, cptN s s.length, rfl, fun c => absurd e c, fun _ => ⟨s, s1, s2, rfl⟩, rfl⟩
    · exact ⟨_, l, n, f, w, [], rfl, fun _ => rfl, fun c => absurd c e, rfl⟩
  · rintro xs ⟨l, n, f, w, rfl, h1, h2, h3, h4⟩
    refine ⟨by rw [Tryz.ntmps49]; simp, ?_⟩
    simp only [go_sem, h.hP, List.cons_append, List.nil_append, Meets_e, Below_e, Prod.exists, exists_eq, exists_eq_left, exists_eq_left', exists_eq_right, exists_eq_right', exists_and_left, exists_and_right, Ob.arr.injEq, AV.own.injEq, AV.fv.injEq, distS_c, distS_f, distS_p, distS_q, cnS_q, cnS_p, cnS_c, cnS_f, namedOfS_q, namedOfS_p, namedOfS_c, namedOfS_f, TEvent.len, TWindow.row, strs1, strsc, Tryz.ntmps49, Nat.reduceEqDiff, reduceCtorEq, Nat.reduceMul, Nat.reduceAdd, Nat.reduceSub, Nat.reduceDiv, Nat.reduceMod, Nat.reduceLeDiff, Nat.reduceLT, Nat.reduceBNe, Nat.reduceBEq, reduceIte, Int.reduceLE, Int.reduceLT, Int.reduceToNat, Int.reduceNeg, Int.reduceAdd, Int.reduceSub, Int.reduceMul, Int.reduceEq]
    have hz : ∀ c : ¬ orE (eventsF l) (orE (namesF [n, f]) (winE w)) = 0, ∃ v : List TValue, (¬ nmdE l [n, f] w = 0 → v = []) ∧ (nmdE l [n, f] w = 0 → ∃ s : List TValue, s.Perm (valsF f (namedL l n w)) ∧ s.Pairwise (fun x y => ¬ ltV y x) ∧ v = cptN s s.length) ∧ [] = TValue.rows v ∧ orE (eventsF l) (orE (namesF [n, f]) (winE w)) = nmdE l [n, f] w := fun c => ⟨[], fun _ => rfl, fun e => absurd e c, rfl, rfl⟩
    refine ⟨h1, okL_two h2 h3, hz, fun c => ⟨h1, h4, ?_⟩⟩
    have hE : nmdE l [n, f] w = 0 := c
    simp only [hE]
    obtain ⟨q1, q2⟩ := evsR_of (n := n) (w := w) (orE_zero c).1 h1
    generalize namedL l n w = m at *
    have hk := vals_kind (fun j hj => (q2 j hj).1) f
    refine vc_loopS (Int × List TValue) (fun (x : Int × List TValue) => match x with | (i, out) => [(30, .i i), (11, .own 11)]) [7] (fun (x : Int × List TValue) => match x with | (i, out) => []) (fun (x : Int × List TValue) => match x with | (i, out) => [(11, .arr 97 3 (TValue.rows out))]) (fun (x : Int × List TValue) => match x with | (i, out) => 0) (fun (x : Int × List TValue) => match x with | (i, out) => 0 ≤ i ∧ i ≤ m.length ∧ out = valsF f (m.take i.toNat)) (fun (x : Int × List TValue) => match x with | (i, out) => (m.length - i).toNat) [(11, 97, 3)] ?_ ?_
    · simp only [go_sem, h.hP, List.cons_append, List.nil_append, Meets_e, Below_e, Prod.exists, exists_eq, exists_eq_left, exists_eq_left', exists_eq_right, exists_eq_right', exists_and_left, exists_and_right, Ob.arr.injEq, AV.own.injEq, AV.fv.injEq, TEvent.len, TValue.nil2, Tryz.ntmps49, Nat.reduceEqDiff, reduceCtorEq, Nat.reduceMul, Nat.reduceAdd, Nat.reduceSub, Nat.reduceDiv, Nat.reduceMod, Nat.reduceLeDiff, Nat.reduceLT, Nat.reduceBNe, Nat.reduceBEq, reduceIte, Int.reduceLE, Int.reduceLT, Int.reduceToNat, Int.reduceNeg, Int.reduceAdd, Int.reduceSub, Int.reduceMul, Int.reduceEq]
      exact ⟨by omega, rfl⟩
    · rintro ⟨i, out⟩ ⟨i0, i1, ho⟩
      have hlo : (out.length : Int) ≤ i := by
        have := List.length_filterMap_le (fvF f) (m.take i.toNat)
        rw [show List.filterMap (fvF f) (m.take i.toNat) = out from ho.symm, List.length_take] at this
        omega
      simp only [go_sem, h.hP, List.cons_append, List.nil_append, Meets_e, Below_e, Prod.exists, exists_eq, exists_eq_left, exists_eq_left', exists_eq_right, exists_eq_right', exists_and_left, exists_and_right, Ob.arr.injEq, AV.own.injEq, AV.fv.injEq, distS_c, distS_f, distS_p, distS_q, findS_c, findS_f, findS_p, findS_q, sortVS_c, sortVS_f, sortVS_q, sortVS_p, compS_c, compS_f, compS_q, compS_p, TEvent.row, TEvent.len, TEvent.get, TValue.row, TValue.fold1, TValue.app', TValue.rows_inj, TValue.zlT, TValue.len, TValue.flat, List.length_append, List.length_singleton, List.tail_cons, List.any_nil, List.any_cons, Bool.or_false, Tryz.ntmps49, Nat.reduceEqDiff, reduceCtorEq, Nat.reduceMul, Nat.reduceAdd, Nat.reduceSub, Nat.reduceDiv, Nat.reduceMod, Nat.reduceLeDiff, Nat.reduceLT, Nat.reduceBNe, Nat.reduceBEq, reduceIte, Int.reduceLE, Int.reduceLT, Int.reduceToNat, Int.reduceNeg, Int.reduceAdd, Int.reduceSub, Int.reduceMul, Int.reduceEq]
      have stp : ∀ o' : List TValue, i < m.length → o' = out ++ (match fvF f (m.getD i.toNat TEvent.z) with
          | some v => [v]
          | none => []) → 0 ≤ IntKind.i64.wrap (i + 1) ∧ IntKind.i64.wrap (i + 1) ≤ m.length ∧ o' = valsF f (m.take (IntKind.i64.wrap (i + 1)).toNat) ∧ (m.length - IntKind.i64.wrap (i + 1)).toNat < (m.length - i).toNat := fun o' z e => by
        rw [i64w (n := i + 1) (by omega) (by omega), vals_step f i0 z, ← ho, e]
        exact ⟨by omega, by omega, rfl, by omega⟩
      refine ⟨fun z => ⟨i0, z, (q2 _ (by omega)).2.2.1, (q2 _ (by omega)).2.2.2, fun a ha => ⟨fun c1 => ⟨by omega, by omega, stp _ z ?_⟩, fun c1 => stp _ z ?_⟩⟩, fun z => ?_⟩
      · obtain ⟨x, hx⟩ := Option.isSome_iff_exists.1 c1
        have hv : fvF f (m.getD i.toNat TEvent.z) = some a := by unfold fvF; rw [hx, ha x hx]; rfl
        rw [hv]
      · have hv : fvF f (m.getD i.toNat TEvent.z) = none := by
          unfold fvF
          rw [Option.isSome_eq_false_iff, Option.isNone_iff_eq_none] at c1
          rw [c1]
          rfl
        rw [hv, List.append_nil]
      · have ht : m.take i.toNat = m := List.take_of_length_le (by omega)
        rw [ht] at ho
        subst ho
        exact ⟨by omega, hk, fun a hp hw => ⟨by rw [hp.length_eq]; omega, cptN a a.length, fun e => absurd trivial e, ⟨a, hp, hw, rfl⟩, rfl⟩⟩
/-! ### The reference -/
noncomputable def dedL (l : List TValue) : List TValue := l.foldl (fun o v => if conE v o = true then o else o ++ [v]) []
theorem ded_snoc (l : List TValue) (x : TValue) : dedL (l ++ [x]) = if conE x (dedL l) = true then dedL l else dedL l ++ [x] := by
  unfold dedL
  rw [List.foldl_append]
  rfl
theorem snoc_ind {P : List TValue → Prop} (h0 : P []) (h1 : ∀ l x, P l → P (l ++ [x])) (l : List TValue) : P l := by
  rw [← List.reverse_reverse l]
  induction l.reverse with
  | nil => exact h0
  | cons x r ih => rw [List.reverse_cons]; exact h1 _ _ ih
theorem ded_facts (l : List TValue) : (dedL l).Nodup ∧ (dedL l).length ≤ l.length ∧ ∀ x, x ∈ dedL l ↔ x ∈ l := by
  induction l using snoc_ind with
  | h0 => exact ⟨List.nodup_nil, Nat.le_refl _, fun x => Iff.rfl⟩
  | h1 l y ih =>
    obtain ⟨h1, h2, h3⟩ := ih
    rw [ded_snoc]
    split
    · rename_i c
      rw [conE_iff] at c
      refine ⟨h1, by rw [List.length_append]; simp; omega, fun x => ?_⟩
      rw [List.mem_append, List.mem_singleton, h3]
      exact ⟨.inl, fun h => h.elim id fun e => e ▸ (h3 y).1 c⟩
    · rename_i c
      rw [conE_iff] at c
      refine ⟨List.nodup_append.2 ⟨h1, by simp, fun a ha b hb e => ?_⟩, by rw [List.length_append, List.length_append]; simp; omega, fun x => ?_⟩
      · rw [List.mem_singleton] at hb
        exact c (hb ▸ e ▸ ha)
      · rw [List.mem_append, List.mem_append, h3]
def idx_TValueS  : Spec where
  pre xs := ∃ (l : List TValue) (k : Int) (s : ByteArray) (n : Int), xs = [.sl (TValue.rows l), .dv (.ag [.int .i64 k, .str s, .int .i64 n])] ∧ (l.length ≤ 4611686018427387904)
  post xs y := ∃ (l : List TValue) (k : Int) (s : ByteArray) (n : Int), xs = [.sl (TValue.rows l), .dv (.ag [.int .i64 k, .str s, .int .i64 n])] ∧ y = .i (idxE ⟨k, s, n⟩ l)
  cost _ := 0
  fresh := true
theorem idx_TValueS_c  (xs : List AV) : (idx_TValueS).cost xs = 0 := nr rfl
theorem idx_TValueS_f  : (idx_TValueS).fresh = true := nr rfl
theorem idx_TValueS_q  (l : List TValue) (k : Int) (s : ByteArray) (n : Int) : (idx_TValueS).pre [.sl (TValue.rows l), .dv (.ag [.int .i64 k, .str s, .int .i64 n])] = (l.length ≤ 4611686018427387904) := propext ⟨fun h => by
  have h' : ∃ (l' : List TValue) (k' : Int) (s' : ByteArray) (n' : Int), ([.sl (TValue.rows l), .dv (.ag [.int .i64 k, .str s, .int .i64 n])] : List AV) = [.sl (TValue.rows l'), .dv (.ag [.int .i64 k', .str s', .int .i64 n'])] ∧ (l'.length ≤ 4611686018427387904) := h
  obtain ⟨l', k', s', n', e, h⟩ := h'
  simp only [List.cons.injEq, AV.dv.injEq, AV.dp.injEq, AV.fv.injEq, DV.d.injEq, DV.ag.injEq, D.int.injEq, D.str.injEq, D.bool.injEq, D.sl.injEq, true_and, and_true, intsDi_inj, rowsT_inj, rowsKi_inj, TValue.row_inj, TValue.rows_inj] at e
  obtain ⟨rfl, rfl, rfl, rfl⟩ := e
  exact h, fun h => ⟨l, k, s, n, rfl, h⟩⟩
theorem idx_TValueS_p  (l : List TValue) (k : Int) (s : ByteArray) (n : Int) : (idx_TValueS).post [.sl (TValue.rows l), .dv (.ag [.int .i64 k, .str s, .int .i64 n])] = fun y => y = .i (idxE ⟨k, s, n⟩ l) := funext fun y => propext ⟨fun h => by
  have h' : ∃ (l' : List TValue) (k' : Int) (s' : ByteArray) (n' : Int), ([.sl (TValue.rows l), .dv (.ag [.int .i64 k, .str s, .int .i64 n])] : List AV) = [.sl (TValue.rows l'), .dv (.ag [.int .i64 k', .str s', .int .i64 n'])] ∧ y = .i (idxE ⟨k', s', n'⟩ l') := h
  obtain ⟨l', k', s', n', e, h⟩ := h'
  simp only [List.cons.injEq, AV.dv.injEq, AV.dp.injEq, AV.fv.injEq, DV.d.injEq, DV.ag.injEq, D.int.injEq, D.str.injEq, D.bool.injEq, D.sl.injEq, true_and, and_true, intsDi_inj, rowsT_inj, rowsKi_inj, TValue.row_inj, TValue.rows_inj] at e
  obtain ⟨rfl, rfl, rfl, rfl⟩ := e
  exact h, fun h => ⟨l, k, s, n, rfl, h⟩⟩
def con_TValueS  : Spec where
  pre xs := ∃ (l : List TValue) (k : Int) (s : ByteArray) (n : Int), xs = [.sl (TValue.rows l), .dv (.ag [.int .i64 k, .str s, .int .i64 n])] ∧ (l.length ≤ 4611686018427387904)
  post xs y := ∃ (l : List TValue) (k : Int) (s : ByteArray) (n : Int), xs = [.sl (TValue.rows l), .dv (.ag [.int .i64 k, .str s, .int .i64 n])] ∧ y = .b (conE ⟨k, s, n⟩ l)
  cost _ := 0
  fresh := true
theorem con_TValueS_c  (xs : List AV) : (con_TValueS).cost xs = 0 := nr rfl
theorem con_TValueS_f  : (con_TValueS).fresh = true := nr rfl
theorem con_TValueS_q  (l : List TValue) (k : Int) (s : ByteArray) (n : Int) : (con_TValueS).pre [.sl (TValue.rows l), .dv (.ag [.int .i64 k, .str s, .int .i64 n])] = (l.length ≤ 4611686018427387904) := propext ⟨fun h => by
  have h' : ∃ (l' : List TValue) (k' : Int) (s' : ByteArray) (n' : Int), ([.sl (TValue.rows l), .dv (.ag [.int .i64 k, .str s, .int .i64 n])] : List AV) = [.sl (TValue.rows l'), .dv (.ag [.int .i64 k', .str s', .int .i64 n'])] ∧ (l'.length ≤ 4611686018427387904) := h
  obtain ⟨l', k', s', n', e, h⟩ := h'
  simp only [List.cons.injEq, AV.dv.injEq, AV.dp.injEq, AV.fv.injEq, DV.d.injEq, DV.ag.injEq, D.int.injEq, D.str.injEq, D.bool.injEq, D.sl.injEq, true_and, and_true, intsDi_inj, rowsT_inj, rowsKi_inj, TValue.row_inj, TValue.rows_inj] at e
  obtain ⟨rfl, rfl, rfl, rfl⟩ := e
  exact h, fun h => ⟨l, k, s, n, rfl, h⟩⟩
theorem con_TValueS_p  (l : List TValue) (k : Int) (s : ByteArray) (n : Int) : (con_TValueS).post [.sl (TValue.rows l), .dv (.ag [.int .i64 k, .str s, .int .i64 n])] = fun y => y = .b (conE ⟨k, s, n⟩ l) := funext fun y => propext ⟨fun h => by
  have h' : ∃ (l' : List TValue) (k' : Int) (s' : ByteArray) (n' : Int), ([.sl (TValue.rows l), .dv (.ag [.int .i64 k, .str s, .int .i64 n])] : List AV) = [.sl (TValue.rows l'), .dv (.ag [.int .i64 k', .str s', .int .i64 n'])] ∧ y = .b (conE ⟨k', s', n'⟩ l') := h
  obtain ⟨l', k', s', n', e, h⟩ := h'
  simp only [List.cons.injEq, AV.dv.injEq, AV.dp.injEq, AV.fv.injEq, DV.d.injEq, DV.ag.injEq, D.int.injEq, D.str.injEq, D.bool.injEq, D.sl.injEq, true_and, and_true, intsDi_inj, rowsT_inj, rowsKi_inj, TValue.row_inj, TValue.rows_inj] at e
  obtain ⟨rfl, rfl, rfl, rfl⟩ := e
  exact h, fun h => ⟨l, k, s, n, rfl, h⟩⟩
theorem index_TValue {cx : Cx} (h : Seat cx) : Ctr cx 153 idx_TValueS := by
  refine ctr_of (fn := Tryz.f153) (l := [.tmp 4]) (envL []) [0, 1, 3, 4, 5, 7, 8, 9, 16] [] [] (env0 h.hP) ?_ (by rw [h.hP]; exact Tryz.func153) rfl (by kernel_rfl) rfl ?_ ?_
  · rw [h.hP]; exact ⟨_, Tryz.func153, by kernel_rfl, by kernel_rfl⟩
  · rintro xs ⟨l, k, s, n, rfl, h1⟩; exact ⟨_, l, k, s, n, rfl, rfl⟩
  · rintro xs ⟨l, k, s, n, rfl, h1⟩
    refine ⟨by rw [Tryz.ntmps153]; simp, ?_⟩
    simp only [go_sem, h.hP, List.cons_append, List.nil_append, Meets_e, Below_e, Prod.exists, exists_eq, exists_eq_left, exists_eq_left', exists_eq_right, exists_eq_right', exists_and_left, exists_and_right, Ob.arr.injEq, AV.own.injEq, AV.fv.injEq, idx_TValueS_q, idx_TValueS_p, idx_TValueS_c, idx_TValueS_f, Tryz.ntmps153, Nat.reduceEqDiff, reduceCtorEq, Nat.reduceMul, Nat.reduceAdd, Nat.reduceSub, Nat.reduceDiv, Nat.reduceMod, Nat.reduceLeDiff, Nat.reduceLT, Nat.reduceBNe, Nat.reduceBEq, reduceIte, Int.reduceLE, Int.reduceLT, Int.reduceToNat, Int.reduceNeg, Int.reduceAdd, Int.reduceSub, Int.reduceMul, Int.reduceEq]
    refine vc_loopS (Int) (fun (i : Int) => [(8, .i i)]) [3] (fun (i : Int) => []) (fun (i : Int) => []) (fun (i : Int) => 0) (fun (i : Int) => 0 ≤ i ∧ i ≤ l.length ∧ ∀ j : Nat, (j : Int) < i → ¬ (⟨k, s, n⟩ : TValue) = l.getD j TValue.z) (fun (i : Int) => (l.length - i).toNat) [] ?_ ?_
    · simp only [go_sem, h.hP, List.cons_append, List.nil_append, Meets_e, Below_e, Prod.exists, exists_eq, exists_eq_left, exists_eq_left', exists_eq_right, exists_eq_right', exists_and_left, exists_and_right, Ob.arr.injEq, AV.own.injEq, AV.fv.injEq, TValue.len, Tryz.ntmps153, Nat.reduceEqDiff, reduceCtorEq, Nat.reduceMul, Nat.reduceAdd, Nat.reduceSub, Nat.reduceDiv, Nat.reduceMod, Nat.reduceLeDiff, Nat.reduceLT, Nat.reduceBNe, Nat.reduceBEq, reduceIte, Int.reduceLE, Int.reduceLT, Int.reduceToNat, Int.reduceNeg, Int.reduceAdd, Int.reduceSub, Int.reduceMul, Int.reduceEq]
      exact ⟨Int.natCast_nonneg _, fun j hj => by omega⟩
    · rintro i ⟨j1, j2, j3⟩
      simp only [go_sem, h.hP, List.cons_append, List.nil_append, Meets_e, Below_e, Prod.exists, exists_eq, exists_eq_left, exists_eq_left', exists_eq_right, exists_eq_right', exists_and_left, exists_and_right, Ob.arr.injEq, AV.own.injEq, AV.fv.injEq, idx_TValueS_q, idx_TValueS_p, idx_TValueS_c, idx_TValueS_f, TValue.len, TValue.get, Tryz.ntmps153, Nat.reduceEqDiff, reduceCtorEq, Nat.reduceMul, Nat.reduceAdd, Nat.reduceSub, Nat.reduceDiv, Nat.reduceMod, Nat.reduceLeDiff, Nat.reduceLT, Nat.reduceBNe, Nat.reduceBEq, reduceIte, Int.reduceLE, Int.reduceLT, Int.reduceToNat, Int.reduceNeg, Int.reduceAdd, Int.reduceSub, Int.reduceMul, Int.reduceEq]
      have h0 := idx_leafT j1 j2 j3 h1
      refine ⟨fun c => ?_, h0.2⟩
      obtain ⟨a1, a2, a3, a4⟩ := h0.1 c
      refine ⟨a1, a2, fun e => a3 (by rw [e.1, e.2.1, e.2.2]), fun e => a4 fun q => ?_⟩
      rw [← q] at e
      simp at e
theorem contains_TValue {cx : Cx} (h : Seat cx) : Ctr cx 101 con_TValueS := by
  refine ctr_of (fn := Tryz.f101) (l := [.tmp 4]) (envL [(153, idx_TValueS)]) [0, 1, 3, 4] [] [] (envL_cons (index_TValue h) (env0 h.hP)) ?_ (by rw [h.hP]; exact Tryz.func101) rfl (by kernel_rfl) rfl ?_ ?_
  · rw [h.hP]; exact ⟨_, Tryz.func101, by kernel_rfl, by kernel_rfl⟩
  · rintro xs ⟨l, k, s, n, rfl, h1⟩; exact ⟨_, l, k, s, n, rfl, rfl⟩
  · rintro xs ⟨l, k, s, n, rfl, h1⟩
    refine ⟨by rw [Tryz.ntmps101]; simp, ?_⟩
    simp only [go_sem, h.hP, List.cons_append, List.nil_append, Meets_e, Below_e, Prod.exists, exists_eq, exists_eq_left, exists_eq_left', exists_eq_right, exists_eq_right', exists_and_left, exists_and_right, Ob.arr.injEq, AV.own.injEq, AV.fv.injEq, idx_TValueS_q, idx_TValueS_p, idx_TValueS_c, idx_TValueS_f, con_TValueS_q, con_TValueS_p, con_TValueS_c, con_TValueS_f, Tryz.ntmps101, Nat.reduceEqDiff, reduceCtorEq, Nat.reduceMul, Nat.reduceAdd, Nat.reduceSub, Nat.reduceDiv, Nat.reduceMod, Nat.reduceLeDiff, Nat.reduceLT, Nat.reduceBNe, Nat.reduceBEq, reduceIte, Int.reduceLE, Int.reduceLT, Int.reduceToNat, Int.reduceNeg, Int.reduceAdd, Int.reduceSub, Int.reduceMul, Int.reduceEq]
    exact ⟨h1, conE_ge _ l⟩
open Classical in
noncomputable def eqVB (l m : List TValue) : Bool := decide (l = m)
open Classical in
theorem eqVB_t {l m : List TValue} (h : l = m) : eqVB l m = true := by unfold eqVB; exact decide_eq_true h
open Classical in
theorem eqVB_f {l m : List TValue} (h : ¬ l = m) : eqVB l m = false := by unfold eqVB; exact decide_eq_false h
def distRS : Spec where
  pre az := ∃ (l : List TEvent) (n f : ByteArray) (w : TWindow), az = [.sl (TEvent.rows l), .str n, .str f, .dv (.ag w.row)] ∧ okL TEvent.ok l ∧ w.ok ∧ ∀ x ∈ valsF f (namedL l n w), 0 ≤ x.kind ∧ x.kind ≤ 100
  post az r := ∃ (l : List TEvent) (n f : ByteArray) (w : TWindow) (v : List TValue), az = [.sl (TEvent.rows l), .str n, .str f, .dv (.ag w.row)] ∧ v.Perm (dedL (valsF f (namedL l n w))) ∧ v.Pairwise (fun x y => ¬ ltV y x) ∧ r = .sl (TValue.rows v)
  cost _ := 0
  fresh := true
theorem distRS_c (xs : List AV) : distRS.cost xs = 0 := nr rfl
theorem distRS_f : distRS.fresh = true := nr rfl
theorem distRS_q (l : List TEvent) (n f : ByteArray) (w : TWindow) : distRS.pre [.sl (TEvent.rows l), .str n, .str f, .dv (.ag [.int .i64 w.from_, .int .i64 w.to_])] = (okL TEvent.ok l ∧ w.ok ∧ ∀ x ∈ valsF f (namedL l n w), 0 ≤ x.kind ∧ x.kind ≤ 100) := propext ⟨fun ⟨l', n', f', w', e, h⟩ => by
  simp only [List.cons.injEq, AV.dv.injEq, DV.d.injEq, D.sl.injEq, D.str.injEq, DV.ag.injEq, TEvent.rows_inj, and_true] at e
  obtain ⟨rfl, rfl, rfl, e⟩ := e
  obtain rfl : w = w' := TWindow.inj (x := w) (by exact e)
  exact h, fun h => ⟨l, n, f, w, rfl, h⟩⟩
theorem distRS_p (l : List TEvent) (n f : ByteArray) (w : TWindow) : distRS.post [.sl (TEvent.rows l), .str n, .str f, .dv (.ag [.int .i64 w.from_, .int .i64 w.to_])] = fun r => ∃ v : List TValue, (v.Perm (dedL (valsF f (namedL l n w))) ∧ v.Pairwise (fun x y => ¬ ltV y x)) ∧ r = .sl (TValue.rows v) := funext fun r => propext ⟨fun ⟨l', n', f', w', v, e, h1, h2, h3⟩ => by
  simp only [List.cons.injEq, AV.dv.injEq, DV.d.injEq, D.sl.injEq, D.str.injEq, DV.ag.injEq, TEvent.rows_inj, and_true] at e
  obtain ⟨rfl, rfl, rfl, e⟩ := e
  obtain rfl : w = w' := TWindow.inj (x := w) (by exact e)
  exact ⟨v, ⟨h1, h2⟩, h3⟩, fun ⟨v, ⟨h1, h2⟩, h3⟩ => ⟨l, n, f, w, v, rfl, h1, h2, h3⟩⟩
set_option maxHeartbeats 8000000 in
theorem DistinctOf_ctr {cx : Cx} (h : Seat cx) : Ctr cx 53 distRS := by
  refine ctr_of (fn := Tryz.f53) (l := [.tmp 8]) (envO [(23, namedOfS), (100, vinS), (101, con_TValueS)] [] [(97, (sortVS 102), 97, 1000003)]) [0, 1, 2, 3, 7, 8, 9, 11, 12, 13, 17, 18, 19, 20, 35] [] [] (envO_cons (sortR h) (envO_nil (envF_nil (envL_cons (NamedOf_ctr h) (envL_cons (valueIn_ctr h) (envL_cons (contains_TValue h) (env0 h.hP))))))) ?_ (by rw [h.hP]; exact Tryz.func53) rfl (by kernel_rfl) rfl ?_ ?_
  · rw [h.hP]; exact ⟨_, Tryz.func53, by kernel_rfl, by kernel_rfl⟩
  · rintro xs ⟨l, n, f, w, rfl, h1⟩
    obtain ⟨s, s1, s2⟩ := sort_ex (dedL (valsF f (namedL l n w)))
    exact ⟨_, l, n, f, w, s, rfl, s1, s2, rfl⟩
  · rintro xs ⟨l, n, f, w, rfl, h1, h2, h3⟩
    refine ⟨by rw [Tryz.ntmps53]; simp, ?_⟩
    simp only [go_sem, h.hP, List.cons_append, List.nil_append, Meets_e, Below_e, Prod.exists, exists_eq, exists_eq_left, exists_eq_left', exists_eq_right, exists_eq_right', exists_and_left, exists_and_right, Ob.arr.injEq, AV.own.injEq, AV.fv.injEq, distRS_c, distRS_f, distRS_p, distRS_q, namedOfS_q, namedOfS_p, namedOfS_c, namedOfS_f, TEvent.len, TWindow.row, Tryz.ntmps53, Nat.reduceEqDiff, reduceCtorEq, Nat.reduceMul, Nat.reduceAdd, Nat.reduceSub, Nat.reduceDiv, Nat.reduceMod, Nat.reduceLeDiff, Nat.reduceLT, Nat.reduceBNe, Nat.reduceBEq, reduceIte, Int.reduceLE, Int.reduceLT, Int.reduceToNat, Int.reduceNeg, Int.reduceAdd, Int.reduceSub, Int.reduceMul, Int.reduceEq]
    refine ⟨h1, h2, ?_⟩
    have hom := nmd_ok (n := n) (w := w) h1
    generalize namedL l n w = m at *
    refine vc_loopS (Int × List TValue) (fun (x : Int × List TValue) => match x with | (i, out) => [(19, .i i), (9, .own 9)]) [7] (fun (x : Int × List TValue) => match x with | (i, out) => []) (fun (x : Int × List TValue) => match x with | (i, out) => [(9, .arr 97 3 (TValue.rows out))]) (fun (x : Int × List TValue) => match x with | (i, out) => 0) (fun (x : Int × List TValue) => match x with | (i, out) => 0 ≤ i ∧ i ≤ m.length ∧ out = dedL (valsF f (m.take i.toNat))) (fun (x : Int × List TValue) => match x with | (i, out) => (m.length - i).toNat) [(9, 97, 3)] ?_ ?_
    · simp only [go_sem, h.hP, List.cons_append, List.nil_append, Meets_e, Below_e, Prod.exists, exists_eq, exists_eq_left, exists_eq_left', exists_eq_right, exists_eq_right', exists_and_left, exists_and_right, Ob.arr.injEq, AV.own.injEq, AV.fv.injEq, TEvent.len, TValue.nil2, Tryz.ntmps53, Nat.reduceEqDiff, reduceCtorEq, Nat.reduceMul, Nat.reduceAdd, Nat.reduceSub, Nat.reduceDiv, Nat.reduceMod, Nat.reduceLeDiff, Nat.reduceLT, Nat.reduceBNe, Nat.reduceBEq, reduceIte, Int.reduceLE, Int.reduceLT, Int.reduceToNat, Int.reduceNeg, Int.reduceAdd, Int.reduceSub, Int.reduceMul, Int.reduceEq]
      exact ⟨by omega, rfl⟩
    · rintro ⟨i, out⟩ ⟨i0, i1, ho⟩
      have hf : (m.getD i.toNat TEvent.z).fields.length ≤ 1048576 := (okL_get hom TEvent.z_ok _).2.2.2.2.1
      have hl := hom.1
      have hlo : (out.length : Int) ≤ i := by
        have h1 := (ded_facts (valsF f (m.take i.toNat))).2.1
        have := List.length_filterMap_le (fvF f) (m.take i.toNat)
        rw [List.length_take] at this
        rw [← ho] at h1
        unfold valsF at h1
        omega
      simp only [go_sem, h.hP, List.cons_append, List.nil_append, Meets_e, Below_e, Prod.exists, exists_eq, exists_eq_left, exists_eq_left', exists_eq_right, exists_eq_right', exists_and_left, exists_and_right, Ob.arr.injEq, AV.own.injEq, AV.fv.injEq, distRS_c, distRS_f, distRS_p, distRS_q, vinS_q, vinS_p, vinS_c, vinS_f, con_TValueS_q, con_TValueS_p, con_TValueS_c, con_TValueS_f, sortVS_c, sortVS_f, sortVS_q, sortVS_p, TEvent.row, TEvent.len, TEvent.get, TValue.row, TValue.fold1, TValue.app', TValue.rows_inj, TValue.zlT, TValue.len, TValue.flat, List.length_append, List.length_singleton, List.tail_cons, List.any_nil, List.any_cons, Bool.or_false, Tryz.ntmps53, Nat.reduceEqDiff, reduceCtorEq, Nat.reduceMul, Nat.reduceAdd, Nat.reduceSub, Nat.reduceDiv, Nat.reduceMod, Nat.reduceLeDiff, Nat.reduceLT, Nat.reduceBNe, Nat.reduceBEq, reduceIte, Int.reduceLE, Int.reduceLT, Int.reduceToNat, Int.reduceNeg, Int.reduceAdd, Int.reduceSub, Int.reduceMul, Int.reduceEq]
      have stp : ∀ o' : List TValue, i < m.length → o' = dedL (valsF f (m.take i.toNat) ++ (match fvF f (m.getD i.toNat TEvent.z) with
          | some v => [v]
          | none => [])) → 0 ≤ IntKind.i64.wrap (i + 1) ∧ IntKind.i64.wrap (i + 1) ≤ m.length ∧ o' = dedL (valsF f (m.take (IntKind.i64.wrap (i + 1)).toNat)) ∧ (m.length - IntKind.i64.wrap (i + 1)).toNat < (m.length - i).toNat := fun o' z e => by
        rw [i64w (n := i + 1) (by omega) (by omega), vals_step f i0 z, e]
        exact ⟨by omega, by omega, rfl, by omega⟩
      refine ⟨fun z => ⟨i0, z, hf, fun c1 => ?_, fun c1 => stp _ z ?_⟩, fun z => ?_⟩
      · obtain ⟨a, hv⟩ := Option.isSome_iff_exists.1 c1
        rw [hv] at stp ⊢
        have e : ({ kind := ((some a).getD TValue.z).kind, text := ((some a).getD TValue.z).text, number := ((some a).getD TValue.z).number } : TValue) = a := rfl
        rw [e]
        refine ⟨by omega, fun c2 => ⟨by omega, by omega, stp _ z ?_⟩, fun c2 => stp _ z ?_⟩
        · rw [ded_snoc, ← ho, if_neg (ne_ft' c2)]
        · rw [ded_snoc, ← ho, if_pos c2]
      · rw [Option.isSome_eq_false_iff, Option.isNone_iff_eq_none] at c1
        rw [c1, List.append_nil]
        exact ho
      · have ht : m.take i.toNat = m := List.take_of_length_le (by omega)
        rw [ht] at ho
        refine ⟨by omega, fun x hx => h3 x ?_, fun a hp hw => ⟨a, by rw [ho] at hp; exact hp, hw, rfl⟩⟩
        rw [ho] at hx
        exact ((ded_facts _).2.2 x).1 hx
def eqVS  : Spec where
  pre xs := ∃ (l : List TValue) (m : List TValue), xs = [.sl (TValue.rows l), .sl (TValue.rows m)] ∧ (l.length ≤ 1048576)
  post xs y := ∃ (l : List TValue) (m : List TValue), xs = [.sl (TValue.rows l), .sl (TValue.rows m)] ∧ y = .b (eqVB l m)
  cost _ := 0
  fresh := true
theorem eqVS_c  (xs : List AV) : (eqVS).cost xs = 0 := nr rfl
theorem eqVS_f  : (eqVS).fresh = true := nr rfl
theorem eqVS_q  (l : List TValue) (m : List TValue) : (eqVS).pre [.sl (TValue.rows l), .sl (TValue.rows m)] = (l.length ≤ 1048576) := propext ⟨fun h => by
  have h' : ∃ (l' : List TValue) (m' : List TValue), ([.sl (TValue.rows l), .sl (TValue.rows m)] : List AV) = [.sl (TValue.rows l'), .sl (TValue.rows m')] ∧ (l'.length ≤ 1048576) := h
  obtain ⟨l', m', e, h⟩ := h'
  simp only [List.cons.injEq, AV.dv.injEq, AV.dp.injEq, AV.fv.injEq, DV.d.injEq, DV.ag.injEq, D.int.injEq, D.str.injEq, D.bool.injEq, D.sl.injEq, true_and, and_true, intsDi_inj, rowsT_inj, rowsKi_inj, TValue.row_inj, TValue.rows_inj, TValue.row_inj, TValue.rows_inj] at e
  obtain ⟨rfl, rfl⟩ := e
  exact h, fun h => ⟨l, m, rfl, h⟩⟩
theorem eqVS_p  (l : List TValue) (m : List TValue) : (eqVS).post [.sl (TValue.rows l), .sl (TValue.rows m)] = fun y => y = .b (eqVB l m) := funext fun y => propext ⟨fun h => by
  have h' : ∃ (l' : List TValue) (m' : List TValue), ([.sl (TValue.rows l), .sl (TValue.rows m)] : List AV) = [.sl (TValue.rows l'), .sl (TValue.rows m')] ∧ y = .b (eqVB l' m') := h
  obtain ⟨l', m', e, h⟩ := h'
  simp only [List.cons.injEq, AV.dv.injEq, AV.dp.injEq, AV.fv.injEq, DV.d.injEq, DV.ag.injEq, D.int.injEq, D.str.injEq, D.bool.injEq, D.sl.injEq, true_and, and_true, intsDi_inj, rowsT_inj, rowsKi_inj, TValue.row_inj, TValue.rows_inj, TValue.row_inj, TValue.rows_inj] at e
  obtain ⟨rfl, rfl⟩ := e
  exact h, fun h => ⟨l, m, rfl, h⟩⟩
set_option maxHeartbeats 4000000 in
theorem eqV_ctr {cx : Cx} (h : Seat cx) : Ctr cx 52 eqVS := by
  refine ctr_of (fn := Tryz.f52) (l := [.tmp 4]) (envL []) [0, 1, 4, 5, 10, 12, 13, 14, 24] [] [] (env0 h.hP) ?_ (by rw [h.hP]; exact Tryz.func52) rfl (by kernel_rfl) rfl ?_ ?_
  · rw [h.hP]; exact ⟨_, Tryz.func52, by kernel_rfl, by kernel_rfl⟩
  · rintro xs ⟨l, m, rfl, h1⟩; exact ⟨_, l, m, rfl, rfl⟩
  · rintro xs ⟨l, m, rfl, h1⟩
    refine ⟨by rw [Tryz.ntmps52]; simp, ?_⟩
    simp only [go_sem, h.hP, List.cons_append, List.nil_append, Meets_e, Below_e, Prod.exists, exists_eq, exists_eq_left, exists_eq_left', exists_eq_right, exists_eq_right', exists_and_left, exists_and_right, Ob.arr.injEq, AV.own.injEq, AV.fv.injEq, eqVS_q, eqVS_p, eqVS_c, eqVS_f, TValue.len, Tryz.ntmps52, Nat.reduceEqDiff, reduceCtorEq, Nat.reduceMul, Nat.reduceAdd, Nat.reduceSub, Nat.reduceDiv, Nat.reduceMod, Nat.reduceLeDiff, Nat.reduceLT, Nat.reduceBNe, Nat.reduceBEq, reduceIte, Int.reduceLE, Int.reduceLT, Int.reduceToNat, Int.reduceNeg, Int.reduceAdd, Int.reduceSub, Int.reduceMul, Int.reduceEq]
    refine ⟨fun c => (eqVB_f (fun e => c (by rw [e]))).symm, fun c => ?_⟩
    refine vc_loopS (Int) (fun (i : Int) => [(13, .i i)]) [] (fun (i : Int) => []) (fun (i : Int) => []) (fun (i : Int) => 0) (fun (i : Int) => 0 ≤ i ∧ i ≤ l.length ∧ ∀ j : Nat, (j : Int) < i → l.getD j TValue.z = m.getD j TValue.z) (fun (i : Int) => (l.length - i).toNat) [] ?_ ?_
    · simp only [go_sem, h.hP, List.cons_append, List.nil_append, Meets_e, Below_e, Prod.exists, exists_eq, exists_eq_left, exists_eq_left', exists_eq_right, exists_eq_right', exists_and_left, exists_and_right, Ob.arr.injEq, AV.own.injEq, AV.fv.injEq, Tryz.ntmps52, Nat.reduceEqDiff, reduceCtorEq, Nat.reduceMul, Nat.reduceAdd, Nat.reduceSub, Nat.reduceDiv, Nat.reduceMod, Nat.reduceLeDiff, Nat.reduceLT, Nat.reduceBNe, Nat.reduceBEq, reduceIte, Int.reduceLE, Int.reduceLT, Int.reduceToNat, Int.reduceNeg, Int.reduceAdd, Int.reduceSub, Int.reduceMul, Int.reduceEq]
      exact ⟨by omega, fun j hj => by omega⟩
    · rintro i ⟨i0, i1, hj⟩
      have hw : i < l.length → IntKind.i64.wrap (i + 1) = i + 1 := fun _ => i64w (by omega) (by omega)
      simp only [go_sem, h.hP, List.cons_append, List.nil_append, Meets_e, Below_e, Prod.exists, exists_eq, exists_eq_left, exists_eq_left', exists_eq_right, exists_eq_right', exists_and_left, exists_and_right, Ob.arr.injEq, AV.own.injEq, AV.fv.injEq, eqVS_q, eqVS_p, eqVS_c, eqVS_f, TValue.len, TValue.get, TValue.row, Tryz.ntmps52, Nat.reduceEqDiff, reduceCtorEq, Nat.reduceMul, Nat.reduceAdd, Nat.reduceSub, Nat.reduceDiv, Nat.reduceMod, Nat.reduceLeDiff, Nat.reduceLT, Nat.reduceBNe, Nat.reduceBEq, reduceIte, Int.reduceLE, Int.reduceLT, Int.reduceToNat, Int.reduceNeg, Int.reduceAdd, Int.reduceSub, Int.reduceMul, Int.reduceEq]
      have e : l.length = m.length := by first | exact c | (exact Decidable.of_not_not c) | omega
      refine ⟨fun z => ⟨i0, z, i0, by omega, fun q => (eqVB_f fun e2 => ?_).symm, fun ⟨f1, f2, f3⟩ => ?_⟩, fun z => (eqVB_t ?_).symm⟩
      · rw [e2] at q
        simp at q
      · rw [hw z]
        refine ⟨by omega, by omega, fun j hj2 => ?_, by omega⟩
        by_cases q2 : (j : Int) < i
        · exact hj j q2
        · rw [show j = i.toNat by omega]
          apply TValue.inj
          unfold TValue.row
          rw [f1, f2, f3]
      · apply List.ext_getElem e
        intro j g2 g3
        have := hj j (by omega)
        rwa [List.getD_eq_getElem?_getD, List.getD_eq_getElem?_getD, List.getElem?_eq_getElem g2, List.getElem?_eq_getElem g3] at this
end Go.Avc

namespace Go.Avc
open Go Go.Proofs

theorem maxL_of {cx W0 : Cx} {m : Int} (hW : W0.glob 3 = some [.int .i64 m]) (h : ∀ w, GlAt cx w → GlAt W0 w) : MaxL cx := by
  intro w hw
  obtain ⟨_, _, cs, hc, hr⟩ := h w hw 3 _ hW
  obtain ⟨v, hv, hr⟩ := hr.get (j := 0) (x := .int .i64 m) rfl
  refine ⟨m, ?_⟩
  have := hc 0 v hv
  rw [this]
  cases hr
  rfl
set_option maxHeartbeats 8000000 in
theorem en_walk {L : List Int} {A : Option Addr} {cp : Nat} {W : World} (hng : 6 ≤ W.heap.size) (hrd : Rd (fun k => k < W.heap.size) W (.sl (intRows L)) (.slice A L.length cp)) {glob : Nat → Option (List D)} (hgl : GlAt ⟨Tryz.prog, none, L, 25, 6, glob⟩ W) (hU : ∀ cx : Cx, (∀ w, GlAt cx w → GlAt ⟨Tryz.prog, none, L, 25, 6, glob⟩ w) → Utf8 cx) (hfn : glob 2 = some namesD) (hip : glob 0 = some poolD) (hen : glob 1 = some evNamesD) {m : Int} (hml : glob 3 = some [.int .i64 m]) :
    Calls Tryz.prog 9 [Value.slice A L.length cp].toArray W fun e W' => e = .returned (.bool true) ∧ RowKit.Below W.heap.size W W' := by
  refine law_calls (E := envL [(11, rangeS), (19, nameG), (45, fieldG), (46, windowG), (10, someG), (47, nmdS), (48, sumS), (49, distS), (23, namedOfS), (51, sumOS), (53, distRS), (41, smEvS), (22, namesS), (50, winS), (21, wrongS), (52, eqVS), (15, happeningsS)]) (B := 5000) (live := [0, 2, 3, 4, 5, 6, 7, 8, 9, 10, 11, 12, 13, 14, 15, 16, 85, 105, 116]) (HH := [9, 11, 13, 15]) (hz := []) (d := 2) (x1 := 17) (x2 := 18) (x3 := 19) (x4 := 3) (ng := 6) (glob := glob) Tryz.func9 rfl rfl (by kernel_rfl) ⟨rfl, rfl, rfl⟩ ⟨rfl, rfl, rfl⟩ ⟨rfl, rfl, rfl⟩ ⟨rfl, rfl, rfl⟩ ⟨rfl, rfl, rfl⟩ build_stream ⟨by simp, by decide, by decide, by decide, by decide, by decide, by rw [Tryz.ntmps9]; decide⟩ (ex := []) (xv := []) rfl (fun i x u hx hu => by simp at hx) (by decide) hng hrd hgl ?_
  intro cx hP hS hG hGl
  have h : Seat cx := ⟨hP, hS⟩
  refine ⟨envL_cons (range_ctr cx h.hP h.hS) (envL_cons (Name_ctr h) (envL_cons (field_ctr h) (envL_cons (Window_ctr h) (envL_cons (some_ctr h ((congrFun hGl _).trans hfn) ((congrFun hGl _).trans hip) ((congrFun hGl _).trans hen) (hU cx hG) (maxL_of hml hG)) (envL_cons (Named_ctr h (hU cx hG) (maxL_of hml hG)) (envL_cons (Sum_ctr h (hU cx hG) (maxL_of hml hG)) (envL_cons (Distinct_ctr h (hU cx hG) (maxL_of hml hG)) (envL_cons (NamedOf_ctr h) (envL_cons (SumOf_ctr h) (envL_cons (DistinctOf_ctr h) (envL_cons (sameEvents_ctr h) (envL_cons (nameFault_ctr h) (envL_cons (WindowFault_ctr h) (envL_cons (wrongOr_ctr h) (envL_cons (eqV_ctr h) (envL_cons (happenings_ctr h) (env0 h.hP))))))))))))))))), ?_⟩
  simp only [go_sem, h.hP, List.cons_append, List.nil_append, Meets_e, Below_e, Prod.exists, exists_eq, exists_eq_left, exists_eq_left', exists_eq_right, exists_eq_right', exists_and_left, exists_and_right, Ob.arr.injEq, AV.own.injEq, AV.fv.injEq, someG, nameG, fieldG, windowG, nmdS_c, rangeS_q, rangeS_p, rangeS_c, rangeS_f, nmdS_q, nmdS_p, nmdS_c, nmdS_f, sumS_q, sumS_p, sumS_c, sumS_f, namesS_q, namesS_p, namesS_c, namesS_f, winS_q, winS_p, winS_c, winS_f, wrongS_q, wrongS_p, wrongS_c, wrongS_f, distS_c, distS_f, distS_p, distS_q, ints1, intsc, strs1, strsc, TEvent.rows_inj, TWindow.row, Tryz.ntmps9, Nat.reduceEqDiff, reduceCtorEq, Nat.reduceMul, Nat.reduceAdd, Nat.reduceSub, Nat.reduceDiv, Nat.reduceMod, Nat.reduceLeDiff, Nat.reduceLT, Nat.reduceBNe, Nat.reduceBEq, reduceIte, Int.reduceLE, Int.reduceLT, Int.reduceToNat, Int.reduceNeg, Int.reduceAdd, Int.reduceSub, Int.reduceMul, Int.reduceEq]
  intro a a0 a14
  refine ⟨by omega, fun l l20 lo n hn f hf w hw => ?_⟩
  have ok : okL TEvent.ok l := ⟨by omega, lo⟩
  refine ⟨ok, hn, hw, ok, hn, hf, hw, ok, hn, hf, hw, fun c d1 d2 => ⟨okL_one hn, ?_⟩⟩
  refine vc_cutS (Unit) (fun (y : Unit) => [(15, .i (nmdE l [n] w)), (16, .i (nmdE l [n, f] w))]) [8] (fun (y : Unit) => []) (fun (y : Unit) => []) (fun (y : Unit) => 4100) (fun (y : Unit) => True) [] ?_ ?_ ?_
  · rfl
  · simp only [go_sem, h.hP, List.cons_append, List.nil_append, Meets_e, Below_e, Prod.exists, exists_eq, exists_eq_left, exists_eq_left', exists_eq_right, exists_eq_right', exists_and_left, exists_and_right, Ob.arr.injEq, AV.own.injEq, AV.fv.injEq, namesS_q, namesS_p, namesS_c, namesS_f, winS_q, winS_p, winS_c, winS_f, wrongS_q, wrongS_p, wrongS_c, wrongS_f, ints1, intsc, strs1, strsc, TWindow.row, TValue.rows_inj, TValue.len, TEvent.len, Tryz.ntmps9, Nat.reduceEqDiff, reduceCtorEq, Nat.reduceMul, Nat.reduceAdd, Nat.reduceSub, Nat.reduceDiv, Nat.reduceMod, Nat.reduceLeDiff, Nat.reduceLT, Nat.reduceBNe, Nat.reduceBEq, reduceIte, Int.reduceLE, Int.reduceLT, Int.reduceToNat, Int.reduceNeg, Int.reduceAdd, Int.reduceSub, Int.reduceMul, Int.reduceEq]
    exact ⟨okL_two hn hf, wrong_three _ _ _, wrong_three _ _ _⟩
  · rintro y _
    refine vc_cutS (Unit) (fun (u : Unit) => [(85, .un)]) [8] (fun (u : Unit) => []) (fun (u : Unit) => []) (fun (u : Unit) => 4100) (fun (u : Unit) => True) [] ?_ ?_ ?_
    · rfl
    · simp only [go_sem, h.hP, List.cons_append, List.nil_append, Meets_e, Below_e, Prod.exists, exists_eq, exists_eq_left, exists_eq_left', exists_eq_right, exists_eq_right', exists_and_left, exists_and_right, Ob.arr.injEq, AV.own.injEq, AV.fv.injEq, Tryz.ntmps9, Nat.reduceEqDiff, reduceCtorEq, Nat.reduceMul, Nat.reduceAdd, Nat.reduceSub, Nat.reduceDiv, Nat.reduceMod, Nat.reduceLeDiff, Nat.reduceLT, Nat.reduceBNe, Nat.reduceBEq, reduceIte, Int.reduceLE, Int.reduceLT, Int.reduceToNat, Int.reduceNeg, Int.reduceAdd, Int.reduceSub, Int.reduceMul, Int.reduceEq]
    · rintro u _
      refine vc_cutS (Unit) (fun (v : Unit) => [(105, .un)]) [8] (fun (v : Unit) => []) (fun (v : Unit) => []) (fun (v : Unit) => 4100) (fun (v : Unit) => True) [] ?_ ?_ ?_
      · rfl
      · simp only [go_sem, h.hP, List.cons_append, List.nil_append, Meets_e, Below_e, Prod.exists, exists_eq, exists_eq_left, exists_eq_left', exists_eq_right, exists_eq_right', exists_and_left, exists_and_right, Ob.arr.injEq, AV.own.injEq, AV.fv.injEq, TEvent.len, TValue.len, Tryz.ntmps9, Nat.reduceEqDiff, reduceCtorEq, Nat.reduceMul, Nat.reduceAdd, Nat.reduceSub, Nat.reduceDiv, Nat.reduceMod, Nat.reduceLeDiff, Nat.reduceLT, Nat.reduceBNe, Nat.reduceBEq, reduceIte, Int.reduceLE, Int.reduceLT, Int.reduceToNat, Int.reduceNeg, Int.reduceAdd, Int.reduceSub, Int.reduceMul, Int.reduceEq]
        have q : ¬ nmdE l [n, f] w = 0 → (sumV l n f w = 0 → 0 < (c.length : Int) → False) ∧ (¬ sumV l n f w = 0 → False) := fun h2 => ⟨fun _ e => by rw [d1 h2] at e; simp at e, fun e => e (if_neg h2)⟩
        refine ⟨fun h1 => ⟨fun _ => q, fun e => ?_⟩, fun _ => q⟩
        rw [show nmdV l n w = [] from if_neg h1] at e
        simp at e
      · rintro v _
        refine vc_cutS (Unit) (fun (x : Unit) => [(116, .un)]) [8] (fun (x : Unit) => []) (fun (x : Unit) => []) (fun (x : Unit) => 4200) (fun (x : Unit) => True) [] ?_ ?_ ?_
        · rfl
        · simp only [go_sem, h.hP, List.cons_append, List.nil_append, Meets_e, Below_e, Prod.exists, exists_eq, exists_eq_left, exists_eq_left', exists_eq_right, exists_eq_right', exists_and_left, exists_and_right, Ob.arr.injEq, AV.own.injEq, AV.fv.injEq, namedOfS_q, namedOfS_p, namedOfS_c, namedOfS_f, smEvS_q, smEvS_p, smEvS_c, smEvS_f, TEvent.len, TValue.len, TWindow.row, TEvent.rows_inj, Tryz.ntmps9, Nat.reduceEqDiff, reduceCtorEq, Nat.reduceMul, Nat.reduceAdd, Nat.reduceSub, Nat.reduceDiv, Nat.reduceMod, Nat.reduceLeDiff, Nat.reduceLT, Nat.reduceBNe, Nat.reduceBEq, reduceIte, Int.reduceLE, Int.reduceLT, Int.reduceToNat, Int.reduceNeg, Int.reduceAdd, Int.reduceSub, Int.reduceMul, Int.reduceEq]
          refine fun z => ?_
          have ev : nmdV l n w = namedL l n w := if_pos z
          rw [ev]
          exact ⟨ok, hw, nmd_ok ok, nmd_ok ok, fun e => by rw [eqEB_t rfl] at e; cases e⟩
        · rintro x _
          simp only [go_sem, h.hP, List.cons_append, List.nil_append, Meets_e, Below_e, Prod.exists, exists_eq, exists_eq_left, exists_eq_left', exists_eq_right, exists_eq_right', exists_and_left, exists_and_right, Ob.arr.injEq, AV.own.injEq, AV.fv.injEq, sumOS_q, sumOS_p, sumOS_c, sumOS_f, eqVS_q, eqVS_p, eqVS_c, eqVS_f, happeningsS_q, happeningsS_p, happeningsS_c, happeningsS_f, distRS_c, distRS_f, distRS_p, distRS_q, TEvent.len, TValue.len, TWindow.row, TValue.rows_inj, Tryz.ntmps9, Nat.reduceEqDiff, reduceCtorEq, Nat.reduceMul, Nat.reduceAdd, Nat.reduceSub, Nat.reduceDiv, Nat.reduceMod, Nat.reduceLeDiff, Nat.reduceLT, Nat.reduceBNe, Nat.reduceBEq, reduceIte, Int.reduceLE, Int.reduceLT, Int.reduceToNat, Int.reduceNeg, Int.reduceAdd, Int.reduceSub, Int.reduceMul, Int.reduceEq]
          refine fun z => ⟨ok, hw, fun _ => ⟨ok, hw, ?_, fun a hp hs => ?_⟩, fun e => e (if_pos z)⟩
          · exact vals_kind (fun j hj => ((evsR_of (n := n) (w := w) (orE_zero z).1 ok).2 j hj).1) f
          · obtain ⟨s, s1, s2, rfl⟩ := d2 z
            obtain ⟨e1, e2, e3⟩ := ded_facts (valsF f (namedL l n w))
            refine ⟨?_, fun e => ?_⟩
            · have g1 := cptN_le s s.length
              have g2 := s1.length_eq
              have g3 := List.length_filterMap_le (fvF f) (namedL l n w)
              have g4 := (nmd_ok (n := n) (w := w) ok).1
              unfold valsF at g2
              omega
            · rw [eqVB_t (dist_same s1 s2 e1 e3 hp hs)] at e
              cases e
end Go.Avc

namespace Go.Proofs.YtkkcjnimbejalaaGreatDoor.eventNamed
open Go.ChangeShapes Go.ChangeMaps Go.WideShapes Go.ChangeAt Go.RowKit Go.Avc

def exF (m : Int) : Nat → Option (List D)
  | 0 => some poolD
  | 2 => some namesD
  | 1 => some evNamesD
  | 3 => some [.int .i64 m]
  | _ => none
theorem lies {W : World} {m : Int} (hm : W.cell? ⟨3, 0, none⟩ = some (.int .i64 m)) (hL : laidMetH Tryz.prog Rows.eventNamedRow.laid W) : Lies W (exF m) := by
  intro k l hk
  have hk' : exF m k = some l := hk
  match k, hk' with
  | 0, hk' =>
    cases hk'
    have h := lies_of_reads (l := poolD) (m := 20) (Lib.laidMet.reads hL (n := "handbill/handmake.idPool") (d := Rows.laid_handbill_handmake_idPool) (by simp [Rows.eventNamedRow])) (g := 0) rfl rfl (by kernel_rfl) (by kernel_rfl) (by decide)
    exact ⟨by decide, h.1, by decide, h.2⟩
  | 2, hk' =>
    cases hk'
    have h := lies_of_reads (l := namesD) (m := 6) (Lib.laidMet.reads hL (n := "handbill/handmake.fieldNames") (d := Rows.laid_handbill_handmake_fieldNames) (by simp [Rows.eventNamedRow])) (g := 2) rfl rfl (by kernel_rfl) (by kernel_rfl) (by decide)
    exact ⟨by decide, h.1, by decide, h.2⟩
  | 1, hk' =>
    cases hk'
    have h := lies_of_reads (l := evNamesD) (m := 4) (Lib.laidMet.reads hL (n := "handbill/handmake.eventNames") (d := Rows.laid_handbill_handmake_eventNames) (by simp [Rows.eventNamedRow])) (g := 1) rfl rfl (by kernel_rfl) (by kernel_rfl) (by decide)
    exact ⟨by decide, h.1, by decide, h.2⟩
  | 3, hk' =>
    cases hk'
    refine ⟨by decide, ?_, rfl, fun j u hj => ?_⟩
    · by_cases hb : 3 < W.heap.size
      · exact hb
      · unfold World.cell? at hm
        rw [Array.getElem?_eq_none (show W.heap.size ≤ 3 by omega)] at hm
        cases hm
    · cases j with
      | zero => cases hj; exact hm
      | succ j => simp at hj
/-- A world for a witness. -/
def fillC (l : List D) : Obj → Obj
  | .cells _ t frozen => .cells (l.map vD).toArray t frozen
  | o => o
noncomputable def heapF (os : Os) : Array Obj :=
  (((laidWorld os).heap.modify 0 (fillC poolD)).modify 2 (fillC namesD)).modify 1 (fillC evNamesD)
noncomputable def worldF (os : Os) : World := { laidWorld os with heap := heapF os }
theorem metF (os : Os) (args : Array Value) : laidMet Tryz.prog Rows.eventNamedRow.laid ((worldF os).forCall (fun _ _ => 0) ⟨#[], args, []⟩).memory := laidMet_of_run' 8 (by kernel_rfl) (by kernel_rfl)
theorem own : ownKnob Tryz.prog.godebug = none := by kernel_rfl
theorem one3 : Tryz.prog.cellsOf 3 = 1 := by kernel_rfl

/-- WHAT THE WALK GIVES. -/
theorem contract (H : Type) (enc : TypeId × Value → H) (W : World) (base : Nat) (args : Array Value) (ds gs : List (DataW H)) (before : List MemPlace)
    (hval : ∀ (j : Nat) t v, Tryz.f9.params[j]? = some t → args[j]? = some v → Value.okWide Tryz.prog W .any base t v)
    (hW : DataW.Whole enc Tryz.prog Tryz.f9.params.toList Rows.eventNamedSpec.vars false W args.toList ds gs before) (hL : laidMetH Tryz.prog Rows.eventNamedRow.laid W) (hSh : W.ShapedOpen Tryz.prog) :
    Calls Tryz.prog 9 args W fun e W' => ∃ v, e = .returned v ∧ Rows.eventNamedSpec.post enc Tryz.prog Tryz.f9 false true false false W args v W' := by
  have hW' := hW
  obtain ⟨p, q, hA0, hV, rfl, hfz, hnd⟩ := hW
  have hA : DataW.TrodAll enc Tryz.prog W 0 (fun _ => true) true Tryz.f9.params.toList args.toList ds p := hA0
  rw [Tryz.params9] at hA hval
  obtain ⟨v0, vs0, d0, ds0, p0, q0, hargs, rfl, rfl, h0, r0⟩ := trodAll_cons hA
  obtain ⟨rfl, rfl, rfl⟩ := trodAll_nil r0
  obtain rfl : args = #[v0] := by cases args; simp_all
  obtain ⟨rfl, rfl⟩ := trodVars_none hV
  obtain ⟨A, L, cp, rfl, hrd, hsh⟩ := open_nums Tryz.underlying22 Tryz.underlying3 one3 (hval 0 22 v0 rfl rfl) h0
  clear hA0
  simp only [List.append_nil] at hW'
  obtain ⟨mx, hmx⟩ := Tryz.laysM144.s1_3 W hSh
  have hg := glAt_X (L := L) (ST := 25) (tabs_of_list hL (by simp [Rows.eventNamedRow]) (by simp [Rows.eventNamedRow])) (lies hmx hL)
  refine (en_walk (ng_of_shaped hSh) hrd hg (fun cx h => utf8_of_globX rfl h) rfl rfl rfl rfl).mono fun e W' ⟨he, hbl⟩ => ?_
  subst he
  refine ⟨_, rfl, post_of_below (pa := p0) (pv := []) hW' (fun _ _ _ => trodAll_cons_mk (shut_bool Tryz.underlying4 _) trodAll_mk0)
    (fun sp hsp => ?_) (fun _ _ => rfl) (List.append_nil _).symm hbl (ok_one (by kernel_rfl) rfl (okWide_bool_mk Tryz.underlying4 _))⟩
  have := trodAll_cons_mk (hsh W' hbl sp hsp) (trodAll_mk0 (w := W') (base := 0) (spare := sp) (held := true) (enc := enc))
  rw [List.append_nil] at this
  exact this
theorem reads (os : Os) {H : Type} (enc : TypeId × Value → H) : ∃ places, DataW.whole enc Tryz.prog ((worldF os).forCall (fun _ _ => 0) ⟨#[], #[.slice none 0 0], []⟩).memory Tryz.f9.params.toList Rows.eventNamedSpec.vars false #[Value.slice none 0 0].toList 8 = some ([.nil], [], places) :=
  ⟨[], by kernel_rfl⟩
theorem lifted (os : Os) (started : os.Started) (H : Type) (enc : TypeId × Value → H) (F : Stop.Interp) :
    ReturnsInHanded {} Tryz.checked os 9 .any ((OpenSpec.ofChange Rows.eventNamedSpec).preRow enc Tryz.prog Tryz.f9 Rows.eventNamedRow.domain false Rows.eventNamedRow.laid) (((OpenSpec.ofChange Rows.eventNamedSpec).at F).post enc Tryz.prog Tryz.f9 false true false false) := by
  obtain ⟨places, hx⟩ := reads os enc
  refine returnsInHanded_of_row (C := Tryz.checked) (s := OpenSpec.ofChange Rows.eventNamedSpec) own started (by kernel_rfl) Tryz.func9
    (witness_row_at (enc := enc) (C := Tryz.checked) false (worldF os) #[.slice none 0 0] rfl (by kernel_rfl) (by kernel_rfl) (by kernel_rfl)
      (OpenSpec.preRow_of_cond 8 hx (by kernel_rfl) (fun k hk => by cases hk) (by kernel_rfl) (metF os _))) ?_
  intro W base args ds gs before hval hW _ _ _ hL hSh _
  exact contract H enc W base args ds gs before hval hW hL hSh
theorem said : Rows.EventNamedSaid :=
  OpenClaim.holds_of_cond 9 Tryz.f9 rfl rfl rfl rfl rfl rfl rfl ⟨rfl, rfl, rfl, rfl, rfl⟩ rfl rfl rfl rfl rfl (by kernel_rfl) Tryz.func9 (by kernel_rfl)
    (of_decide_eq_true (by kernel_rfl)) (by unfold Func.isWrapper; first | (rw [if_pos (by decide +kernel)]; kernel_rfl) | (rw [if_neg (by decide +kernel)]; exact ⟨rfl, rfl⟩))
    (fun os started H enc _ F => by rw [OpenClaim.pre_eq_preRow]; exact lifted os started H enc F)
theorem plain (f : FuncId) (fn : Func) (hf : Tryz.pinned.checked.prog.funcNamed "handbill/handlaw2.EventNamed" = some f) (hfn : Tryz.pinned.checked.prog.funcs[f]? = some fn) :
    false = Tryz.pinned.checked.prog.looks [] ∧ ∀ (j : Nat) t, fn.params[j]? = some t → Tryz.pinned.checked.prog.wantsStandIn t = false := by
  obtain rfl : f = 9 := Option.some.inj ((show Tryz.prog.funcNamed "handbill/handlaw2.EventNamed" = some 9 by kernel_rfl).symm.trans hf) |>.symm
  obtain rfl : fn = Tryz.f9 := (Option.some.inj (Tryz.func9.symm.trans hfn)).symm
  refine ⟨by kernel_rfl, fun j t ht => ?_⟩
  rw [Tryz.params9] at ht
  obtain rfl : t = 22 := by simpa using Array.mem_of_getElem? ht
  exact (show Tryz.prog.wantsStandIn 22 = false by kernel_rfl)
theorem card : Rows.EventNamedCardSaid :=
  Claim7.holds_tied_plain_at .later [] _ _ _ _ said (fun _ h => by cases h) (by kernel_rfl) (fun _ h => by cases h) eventNamed_row_tie rfl ⟨rfl, rfl⟩ (by kernel_rfl) rfl plain (by kernel_rfl)
end Go.Proofs.YtkkcjnimbejalaaGreatDoor.eventNamed
