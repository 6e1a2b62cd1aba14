/- EventLasts returns true for every slice of numbers, and leaves it as it was; the two tables of unicode/utf8, the pool of ids and the names of fields and of events, which its row lists, lie as the program lays them. -/
import Derived.Test.YtkkcjnimbejalaaGreatDoorCards
import Derived.Test.YtkkcjnimbejalaaGreatDoorTie
import Derived.WalkKit
import Derived.ProofKit
import Derived.OpenShut
import Derived.Deep.DeepHandedRow
import Derived.Test.YtkkcjnimbejalaaGreatDoorKEveLas1
import Derived.Test.YtkkcjnimbejalaaGreatDoorKEveLas2
import Derived.Test.YtkkcjnimbejalaaGreatDoorKEveLas3
import Derived.Test.YtkkcjnimbejalaaGreatDoorKEveLas4
import Derived.Test.YtkkcjnimbejalaaGreatDoorKEveLas5
/- Lists of events: what is wrong with them, by the program and by the reference. No condition. -/
set_option linter.unusedVariables false
set_option linter.unusedSimpArgs false
set_option maxRecDepth 100000
namespace Go.Avc
open Go Go.Proofs

/-! ### The order of events -/
def befB (a b : TEvent) : Bool := decide (a.at_ < b.at_ ∨ (a.at_ = b.at_ ∧ lessS a.id b.id = true))
def eordF (a b : TEvent) : Int := if a.at_ < b.at_ then -1 else if a.at_ > b.at_ then 1 else cmpT a.id b.id
theorem eord_neg (a b : TEvent) : (0 ≤ eordF a b) = (befB a b = false) := by
  apply propext
  unfold eordF befB cmpT
  rw [decide_eq_false_iff_not]
  by_cases h1 : a.at_ < b.at_
  · rw [if_pos h1]; exact ⟨fun h => absurd h (by decide), fun h => absurd (.inl h1) h⟩
  · rw [if_neg h1]
    by_cases h2 : a.at_ > b.at_
    · rw [if_pos h2]; exact ⟨fun _ h => by omega, fun _ => by decide⟩
    · rw [if_neg h2]
      have h3 : a.at_ = b.at_ := by omega
      by_cases h4 : lessS a.id b.id = true
      · rw [if_pos h4]; exact ⟨fun h => absurd h (by decide), fun h => absurd (.inr ⟨h3, h4⟩) h⟩
      · rw [if_neg h4]
        refine ⟨fun _ h => h.elim h1 (fun h => h4 h.2), fun _ => ?_⟩
        split <;> decide
def eordS  : Spec where
  pre xs := ∃ (a : TEvent) (b : TEvent), xs = [.dv (.ag a.row), .dv (.ag b.row)]
  post xs y := ∃ (a : TEvent) (b : TEvent), xs = [.dv (.ag a.row), .dv (.ag b.row)] ∧ y = .i (eordF a b)
  cost _ := 0
  fresh := true
theorem eordS_c  (xs : List AV) : (eordS).cost xs = 0 := nr rfl
theorem eordS_f  : (eordS).fresh = true := nr rfl
theorem eordS_q  (a : TEvent) (b : TEvent) : (eordS).pre [.dv (.ag [.str a.id, .str a.name, .int .i64 a.at_, .int .i64 a.who.kind, .str a.who.text, .sl (TField.rows a.fields)]), .dv (.ag [.str b.id, .str b.name, .int .i64 b.at_, .int .i64 b.who.kind, .str b.who.text, .sl (TField.rows b.fields)])] = (True) := propext ⟨fun h => by
  have h' : ∃ (a' : TEvent) (b' : TEvent), ([.dv (.ag a.row), .dv (.ag b.row)] : List AV) = [.dv (.ag a'.row), .dv (.ag b'.row)] := h
  obtain ⟨a', b', e⟩ := h'
  simp only [List.cons.injEq, AV.dv.injEq, AV.dp.injEq, AV.fv.injEq, DV.d.injEq, DV.ag.injEq, D.int.injEq, D.str.injEq, D.bool.injEq, D.sl.injEq, true_and, and_true, intsDi_inj, rowsT_inj, rowsKi_inj, TEvent.row_inj, TEvent.rows_inj, TEvent.row_inj, TEvent.rows_inj] at e
  obtain ⟨rfl, rfl⟩ := e
  exact trivial, fun h => ⟨a, b, rfl⟩⟩
theorem eordS_p  (a : TEvent) (b : TEvent) : (eordS).post [.dv (.ag [.str a.id, .str a.name, .int .i64 a.at_, .int .i64 a.who.kind, .str a.who.text, .sl (TField.rows a.fields)]), .dv (.ag [.str b.id, .str b.name, .int .i64 b.at_, .int .i64 b.who.kind, .str b.who.text, .sl (TField.rows b.fields)])] = fun y => y = .i (eordF a b) := funext fun y => propext ⟨fun h => by
  have h' : ∃ (a' : TEvent) (b' : TEvent), ([.dv (.ag a.row), .dv (.ag b.row)] : List AV) = [.dv (.ag a'.row), .dv (.ag b'.row)] ∧ y = .i (eordF a' b') := h
  obtain ⟨a', b', e, h⟩ := h'
  simp only [List.cons.injEq, AV.dv.injEq, AV.dp.injEq, AV.fv.injEq, DV.d.injEq, DV.ag.injEq, D.int.injEq, D.str.injEq, D.bool.injEq, D.sl.injEq, true_and, and_true, intsDi_inj, rowsT_inj, rowsKi_inj, TEvent.row_inj, TEvent.rows_inj, TEvent.row_inj, TEvent.rows_inj] at e
  obtain ⟨rfl, rfl⟩ := e
  exact h, fun h => ⟨a, b, rfl, h⟩⟩
theorem EOrder_ctr {cx : Cx} (h : Seat cx) : Ctr cx 75 eordS := by
  refine ctr_of (fn := Tryz.f75) (l := [.tmp 4]) (envL [(119, cmpISp), (120, cmpTSp), (118, orSp)]) [0, 1, 2, 3, 4] [] [] (envL_cons (compareI_ctr h) (envL_cons (compareT_ctr h) (envL_cons (or_ctr h) (env0 h.hP)))) ?_ (by rw [h.hP]; exact Tryz.func75) rfl (by kernel_rfl) rfl ?_ ?_
  · rw [h.hP]; exact ⟨_, Tryz.func75, by kernel_rfl, by kernel_rfl⟩
  · rintro xs ⟨a, b, rfl⟩; exact ⟨_, a, b, rfl, rfl⟩
  · rintro xs ⟨a, b, rfl⟩
    refine ⟨by rw [Tryz.ntmps75]; simp, ?_⟩
    simp only [go_sem, h.hP, List.cons_append, List.nil_append, Meets_e, Below_e, Prod.exists, exists_eq, exists_eq_left, exists_eq_left', exists_eq_right, exists_eq_right', exists_and_left, exists_and_right, Ob.arr.injEq, AV.own.injEq, AV.fv.injEq, eordS_q, eordS_p, eordS_c, eordS_f, cmpISp_q, cmpISp_p, cmpISp_c, cmpISp_f, cmpTSp_q, cmpTSp_p, cmpTSp_c, cmpTSp_f, orSp_q, orSp_p, orSp_c, orSp_f, TEvent.row, ints1, intsc, Tryz.ntmps75, Nat.reduceEqDiff, reduceCtorEq, Nat.reduceMul, Nat.reduceAdd, Nat.reduceSub, Nat.reduceDiv, Nat.reduceMod, Nat.reduceLeDiff, Nat.reduceLT, Nat.reduceBNe, Nat.reduceBEq, reduceIte, Int.reduceLE, Int.reduceLT, Int.reduceToNat, Int.reduceNeg, Int.reduceAdd, Int.reduceSub, Int.reduceMul, Int.reduceEq]
    rw [or_two]
    unfold eordF cmpI
    by_cases c1 : a.at_ < b.at_
    · rw [if_pos c1, if_pos c1]; rfl
    · rw [if_neg c1, if_neg c1]
      by_cases c2 : a.at_ > b.at_
      · rw [if_pos c2, if_pos c2]; rfl
      · rw [if_neg c2, if_neg c2]; rfl
def befS  : Spec where
  pre xs := ∃ (a : TEvent) (b : TEvent), xs = [.dv (.ag a.row), .dv (.ag b.row)]
  post xs y := ∃ (a : TEvent) (b : TEvent), xs = [.dv (.ag a.row), .dv (.ag b.row)] ∧ y = .b (befB a b)
  cost _ := 0
  fresh := true
theorem befS_c  (xs : List AV) : (befS).cost xs = 0 := nr rfl
theorem befS_f  : (befS).fresh = true := nr rfl
theorem befS_q  (a : TEvent) (b : TEvent) : (befS).pre [.dv (.ag [.str a.id, .str a.name, .int .i64 a.at_, .int .i64 a.who.kind, .str a.who.text, .sl (TField.rows a.fields)]), .dv (.ag [.str b.id, .str b.name, .int .i64 b.at_, .int .i64 b.who.kind, .str b.who.text, .sl (TField.rows b.fields)])] = (True) := propext ⟨fun h => by
  have h' : ∃ (a' : TEvent) (b' : TEvent), ([.dv (.ag a.row), .dv (.ag b.row)] : List AV) = [.dv (.ag a'.row), .dv (.ag b'.row)] := h
  obtain ⟨a', b', e⟩ := h'
  simp only [List.cons.injEq, AV.dv.injEq, AV.dp.injEq, AV.fv.injEq, DV.d.injEq, DV.ag.injEq, D.int.injEq, D.str.injEq, D.bool.injEq, D.sl.injEq, true_and, and_true, intsDi_inj, rowsT_inj, rowsKi_inj, TEvent.row_inj, TEvent.rows_inj, TEvent.row_inj, TEvent.rows_inj] at e
  obtain ⟨rfl, rfl⟩ := e
  exact trivial, fun h => ⟨a, b, rfl⟩⟩
theorem befS_p  (a : TEvent) (b : TEvent) : (befS).post [.dv (.ag [.str a.id, .str a.name, .int .i64 a.at_, .int .i64 a.who.kind, .str a.who.text, .sl (TField.rows a.fields)]), .dv (.ag [.str b.id, .str b.name, .int .i64 b.at_, .int .i64 b.who.kind, .str b.who.text, .sl (TField.rows b.fields)])] = fun y => y = .b (befB a b) := funext fun y => propext ⟨fun h => by
  have h' : ∃ (a' : TEvent) (b' : TEvent), ([.dv (.ag a.row), .dv (.ag b.row)] : List AV) = [.dv (.ag a'.row), .dv (.ag b'.row)] ∧ y = .b (befB a' b') := h
  obtain ⟨a', b', e, h⟩ := h'
  simp only [List.cons.injEq, AV.dv.injEq, AV.dp.injEq, AV.fv.injEq, DV.d.injEq, DV.ag.injEq, D.int.injEq, D.str.injEq, D.bool.injEq, D.sl.injEq, true_and, and_true, intsDi_inj, rowsT_inj, rowsKi_inj, TEvent.row_inj, TEvent.rows_inj, TEvent.row_inj, TEvent.rows_inj] at e
  obtain ⟨rfl, rfl⟩ := e
  exact h, fun h => ⟨a, b, rfl, h⟩⟩
theorem before_ctr {cx : Cx} (h : Seat cx) : Ctr cx 77 befS := by
  refine ctr_of (fn := Tryz.f77) (l := [.tmp 4]) (envL []) [0, 1, 2, 3, 4] [] [] (env0 h.hP) ?_ (by rw [h.hP]; exact Tryz.func77) rfl (by kernel_rfl) rfl ?_ ?_
  · rw [h.hP]; exact ⟨_, Tryz.func77, by kernel_rfl, by kernel_rfl⟩
  · rintro xs ⟨a, b, rfl⟩; exact ⟨_, a, b, rfl, rfl⟩
  · rintro xs ⟨a, b, rfl⟩
    refine ⟨by rw [Tryz.ntmps77]; simp, ?_⟩
    simp only [go_sem, h.hP, List.cons_append, List.nil_append, Meets_e, Below_e, Prod.exists, exists_eq, exists_eq_left, exists_eq_left', exists_eq_right, exists_eq_right', exists_and_left, exists_and_right, Ob.arr.injEq, AV.own.injEq, AV.fv.injEq, befS_q, befS_p, befS_c, befS_f, TEvent.row, Tryz.ntmps77, Nat.reduceEqDiff, reduceCtorEq, Nat.reduceMul, Nat.reduceAdd, Nat.reduceSub, Nat.reduceDiv, Nat.reduceMod, Nat.reduceLeDiff, Nat.reduceLT, Nat.reduceBNe, Nat.reduceBEq, reduceIte, Int.reduceLE, Int.reduceLT, Int.reduceToNat, Int.reduceNeg, Int.reduceAdd, Int.reduceSub, Int.reduceMul, Int.reduceEq]
    have e : befB a b = decide (a.at_ < b.at_ ∨ (a.at_ = b.at_ ∧ Op.bytesLess a.id.toList b.id.toList = true)) := rfl
    rw [e]
    generalize Op.bytesLess a.id.toList b.id.toList = q
    refine ⟨fun c => ⟨fun d => ?_, fun d => (decide_eq_false fun z => z.elim c fun z => d z.1).symm⟩, fun c => (decide_eq_true (.inl c)).symm⟩
    cases q with
    | false => exact (decide_eq_false fun z => z.elim c fun z => Bool.false_ne_true z.2).symm
    | true => exact (decide_eq_true (.inr ⟨d, rfl⟩)).symm

/-! ### Ids that were seen -/
def hasId (l : List TEvent) (s : ByteArray) : Bool := l.any fun e => decide (e.id = s)
def seenM (l : List TEvent) : List (D × D) := l.map fun e => (.str e.id, .bool true)
theorem mget_seen (l : List TEvent) (s : ByteArray) : (mget (seenM l) (.str s)).getD (.bool false) = .bool (hasId l s) := by
  induction l with
  | nil => rfl
  | cons e r ih =>
    show ((if decide (e.id = s) = true then some (D.bool true) else mget (seenM r) (.str s)).getD (.bool false)) = .bool (decide (e.id = s) || hasId r s)
    by_cases h : e.id = s
    · rw [decide_eq_true h]; rfl
    · rw [decide_eq_false h, Bool.false_or]; exact ih
theorem mput_seen {l : List TEvent} {s : ByteArray} (h : hasId l s = false) : mput (seenM l) (.str s) (.bool true) = seenM l ++ [(.str s, .bool true)] := by
  induction l with
  | nil => rfl
  | cons e r ih =>
    have h' : (decide (e.id = s) || hasId r s) = false := h
    rw [Bool.or_eq_false_iff] at h'
    show (if decide (e.id = s) = true then ((D.str s, D.bool true) :: seenM r) else (D.str e.id, D.bool true) :: mput (seenM r) (.str s) (.bool true)) = _
    rw [h'.1, ih h'.2]
    rfl
theorem seen_step {l : List TEvent} {i : Int} (h0 : 0 ≤ i) (hi : i < l.length) (h : hasId (l.take i.toNat) (l.getD i.toNat TEvent.z).id = false) : mput (seenM (l.take i.toNat)) (.str (l.getD i.toNat TEvent.z).id) (.bool true) = seenM (l.take (i + 1).toNat) := by
  rw [mput_seen h]
  have hi' : i.toNat < l.length := by omega
  rw [show (i + 1).toNat = i.toNat + 1 by omega, List.take_add_one, List.getElem?_eq_getElem hi']
  unfold seenM
  rw [List.map_append, List.getD_eq_getElem?_getD, List.getElem?_eq_getElem hi']
  rfl
def evE (l : List TEvent) (i : Nat) : Int := if evF (l.getD i TEvent.z) ≠ 0 then evF (l.getD i TEvent.z) else if 0 < (i : Int) ∧ befB (l.getD (i - 1) TEvent.z) (l.getD i TEvent.z) = false then 7 else if hasId (l.take i) (l.getD i TEvent.z).id = true then 6 else 0
def eventsF (l : List TEvent) : Int := if 5000 < (l.length : Int) then 2 else firstI l.length (evE l)
theorem evE_i (l : List TEvent) {i : Int} (hi : 0 ≤ i) : evE l i.toNat = if evF (l.getD i.toNat TEvent.z) ≠ 0 then evF (l.getD i.toNat TEvent.z) else if 0 < i ∧ befB (l.getD (i - 1).toNat TEvent.z) (l.getD i.toNat TEvent.z) = false then 7 else if hasId (l.take i.toNat) (l.getD i.toNat TEvent.z).id = true then 6 else 0 := by
  unfold evE
  rw [Int.toNat_of_nonneg hi, show i.toNat - 1 = (i - 1).toNat by omega]
def eventsS  : Spec where
  pre xs := ∃ (l : List TEvent), xs = [.sl (TEvent.rows l)] ∧ (okL TEvent.ok l)
  post xs y := ∃ (l : List TEvent), xs = [.sl (TEvent.rows l)] ∧ y = .i (eventsF l)
  cost _ := 0
  fresh := true
theorem eventsS_c  (xs : List AV) : (eventsS).cost xs = 0 := nr rfl
theorem eventsS_f  : (eventsS).fresh = true := nr rfl
theorem eventsS_q  (l : List TEvent) : (eventsS).pre [.sl (TEvent.rows l)] = (okL TEvent.ok l) := propext ⟨fun h => by
  have h' : ∃ (l' : List TEvent), ([.sl (TEvent.rows l)] : List AV) = [.sl (TEvent.rows l')] ∧ (okL TEvent.ok l') := h
  obtain ⟨l', e, h⟩ := h'
  simp only [List.cons.injEq, AV.dv.injEq, AV.dp.injEq, AV.fv.injEq, DV.d.injEq, DV.ag.injEq, D.int.injEq, D.str.injEq, D.bool.injEq, D.sl.injEq, true_and, and_true, intsDi_inj, rowsT_inj, rowsKi_inj, TEvent.row_inj, TEvent.rows_inj] at e
  obtain rfl := e
  exact h, fun h => ⟨l, rfl, h⟩⟩
theorem eventsS_p  (l : List TEvent) : (eventsS).post [.sl (TEvent.rows l)] = fun y => y = .i (eventsF l) := funext fun y => propext ⟨fun h => by
  have h' : ∃ (l' : List TEvent), ([.sl (TEvent.rows l)] : List AV) = [.sl (TEvent.rows l')] ∧ y = .i (eventsF l') := h
  obtain ⟨l', e, h⟩ := h'
  simp only [List.cons.injEq, AV.dv.injEq, AV.dp.injEq, AV.fv.injEq, DV.d.injEq, DV.ag.injEq, D.int.injEq, D.str.injEq, D.bool.injEq, D.sl.injEq, true_and, and_true, intsDi_inj, rowsT_inj, rowsKi_inj, TEvent.row_inj, TEvent.rows_inj] at e
  obtain rfl := e
  exact h, fun h => ⟨l, rfl, h⟩⟩
theorem check_round {l : List TEvent} (h1 : okL TEvent.ok l) {i : Int} (hr : Rounds l.length (evE l) i) : 0 ≤ i ∧ (0 < i → i < l.length → IntKind.i64.wrap (i - 1) = i - 1) ∧
    (i < l.length → ¬ evF (l.getD i.toNat TEvent.z) = 0 → evF (l.getD i.toNat TEvent.z) = firstI l.length (evE l)) ∧
    (i < l.length → evF (l.getD i.toNat TEvent.z) = 0 → 0 < i → befB (l.getD (i - 1).toNat TEvent.z) (l.getD i.toNat TEvent.z) = false → 7 = firstI l.length (evE l)) ∧
    (i < l.length → evF (l.getD i.toNat TEvent.z) = 0 → (0 < i → befB (l.getD (i - 1).toNat TEvent.z) (l.getD i.toNat TEvent.z) = true) → hasId (l.take i.toNat) (l.getD i.toNat TEvent.z).id = true → 6 = firstI l.length (evE l)) ∧
    (i < l.length → evF (l.getD i.toNat TEvent.z) = 0 → (0 < i → befB (l.getD (i - 1).toNat TEvent.z) (l.getD i.toNat TEvent.z) = true) → hasId (l.take i.toNat) (l.getD i.toNat TEvent.z).id = false →
      mput (seenM (l.take i.toNat)) (.str (l.getD i.toNat TEvent.z).id) (.bool true) = seenM (l.take (IntKind.i64.wrap (i + 1)).toNat) ∧ Rounds l.length (evE l) (IntKind.i64.wrap (i + 1)) ∧ ((l.length : Int) - IntKind.i64.wrap (i + 1)).toNat < ((l.length : Int) - i).toNat) ∧
    (¬ i < l.length → 0 = firstI l.length (evE l)) := by
  have hl := h1.1
  obtain ⟨hi, hS, hM, hE, hN⟩ := hr.use (by omega)
  have e0 := evE_i l hi
  have e1 : evF (l.getD i.toNat TEvent.z) = 0 → (0 < i → befB (l.getD (i - 1).toNat TEvent.z) (l.getD i.toNat TEvent.z) = true) → evE l i.toNat = if hasId (l.take i.toNat) (l.getD i.toNat TEvent.z).id = true then 6 else 0 := fun b d => by
    rw [e0, if_neg (fun z => z b), if_neg (fun z => ne_tf z.2 (d z.1))]
  refine ⟨hi, fun a b => i64w (by omega) (by omega), fun a b => (hE _ a (e0.trans (if_pos b)) b).symm, fun a b c d => (hE 7 a ?_ (by decide)).symm, fun a b c d => (hE 6 a ((e1 b c).trans (if_pos d)) (by decide)).symm, fun a b c d => ?_, fun a => (hN a).symm⟩
  · rw [e0, if_neg (fun z => z b), if_pos ⟨c, d⟩]
  · have hw : IntKind.i64.wrap (i + 1) = i + 1 := i64w (by omega) (by omega)
    refine ⟨?_, hS a ((e1 b c).trans (if_neg (ne_tf d))), hM a⟩
    rw [hw]
    exact seen_step hi a d
set_option maxHeartbeats 4000000 in
theorem ECheck_ctr {cx : Cx} (h : Seat cx) (hU : Utf8 cx) (hM : MaxL cx) : Ctr cx 32 eventsS := by
  refine ctr_of (fn := Tryz.f32) (l := [.tmp 2]) (envL [(74, evS), (75, eordS)]) [0, 2, 3, 4, 5, 6, 9, 11, 12, 13, 14, 21, 34, 38] [] [] (envL_cons (CheckOne_ctr h hU hM) (envL_cons (EOrder_ctr h) (env0 h.hP))) ?_ (by rw [h.hP]; exact Tryz.func32) rfl (by kernel_rfl) rfl ?_ ?_
  · rw [h.hP]; exact ⟨_, Tryz.func32, by kernel_rfl, by kernel_rfl⟩
  · rintro xs ⟨l, rfl, h1⟩; exact ⟨_, l, rfl, rfl⟩
  · rintro xs ⟨l, rfl, h1⟩
    refine ⟨by rw [Tryz.ntmps32]; simp, ?_⟩
    simp only [go_sem, h.hP, List.cons_append, List.nil_append, Meets_e, Below_e, Prod.exists, exists_eq, exists_eq_left, exists_eq_left', exists_eq_right, exists_eq_right', exists_and_left, exists_and_right, Ob.arr.injEq, AV.own.injEq, AV.fv.injEq, eventsS_q, eventsS_p, eventsS_c, eventsS_f, TEvent.len, Tryz.ntmps32, Nat.reduceEqDiff, reduceCtorEq, Nat.reduceMul, Nat.reduceAdd, Nat.reduceSub, Nat.reduceDiv, Nat.reduceMod, Nat.reduceLeDiff, Nat.reduceLT, Nat.reduceBNe, Nat.reduceBEq, reduceIte, Int.reduceLE, Int.reduceLT, Int.reduceToNat, Int.reduceNeg, Int.reduceAdd, Int.reduceSub, Int.reduceMul, Int.reduceEq]
    refine ⟨fun c => (if_pos c).symm, fun c => ?_⟩
    have hc : eventsF l = firstI l.length (evE l) := if_neg c
    rw [hc]
    refine vc_loopS (Int) (fun (i : Int) => [(13, .i i)]) [] (fun (i : Int) => []) (fun (i : Int) => [(10, .mp 122 (seenM (l.take i.toNat)))]) (fun (i : Int) => 0) (fun (i : Int) => Rounds l.length (evE l) i) (fun (i : Int) => (l.length - i).toNat) [] ?_ ?_
    · simp only [go_sem, h.hP, List.cons_append, List.nil_append, Meets_e, Below_e, Prod.exists, exists_eq, exists_eq_left, exists_eq_left', exists_eq_right, exists_eq_right', exists_and_left, exists_and_right, Ob.arr.injEq, AV.own.injEq, AV.fv.injEq, Tryz.ntmps32, Nat.reduceEqDiff, reduceCtorEq, Nat.reduceMul, Nat.reduceAdd, Nat.reduceSub, Nat.reduceDiv, Nat.reduceMod, Nat.reduceLeDiff, Nat.reduceLT, Nat.reduceBNe, Nat.reduceBEq, reduceIte, Int.reduceLE, Int.reduceLT, Int.reduceToNat, Int.reduceNeg, Int.reduceAdd, Int.reduceSub, Int.reduceMul, Int.reduceEq]
      exact ⟨rfl, Rounds.start⟩
    · rintro i hr
      obtain ⟨hi, hw, f5, f7, f6, f0, fe⟩ := check_round h1 hr
      have ho := okL_get h1 TEvent.z_ok
      simp only [go_sem, h.hP, List.cons_append, List.nil_append, Meets_e, Below_e, Prod.exists, exists_eq, exists_eq_left, exists_eq_left', exists_eq_right, exists_eq_right', exists_and_left, exists_and_right, Ob.arr.injEq, AV.own.injEq, AV.fv.injEq, eventsS_q, eventsS_p, eventsS_c, eventsS_f, evS_q, evS_p, evS_c, evS_f, eordS_q, eordS_p, eordS_c, eordS_f, TEvent.row, TEvent.len, TEvent.get, mget_seen, eord_neg, Tryz.ntmps32, Nat.reduceEqDiff, reduceCtorEq, Nat.reduceMul, Nat.reduceAdd, Nat.reduceSub, Nat.reduceDiv, Nat.reduceMod, Nat.reduceLeDiff, Nat.reduceLT, Nat.reduceBNe, Nat.reduceBEq, reduceIte, Int.reduceLE, Int.reduceLT, Int.reduceToNat, Int.reduceNeg, Int.reduceAdd, Int.reduceSub, Int.reduceMul, Int.reduceEq]
      refine ⟨fun a => ⟨hi, a, ho _, f5 a, fun b => ⟨fun c => ?_, fun c => ⟨f6 a b (fun d => absurd d c), f0 a b (fun d => absurd d c)⟩⟩⟩, fe⟩
      rw [hw c a]
      exact ⟨by omega, by omega, f7 a b c, fun d => ⟨f6 a b (fun _ => by simpa using d), f0 a b (fun _ => by simpa using d)⟩⟩
set_option maxHeartbeats 4000000 in
theorem EventsFault_ctr {cx : Cx} (h : Seat cx) (hU : Utf8 cx) (hM : MaxL cx) : Ctr cx 33 eventsS := by
  refine ctr_of (fn := Tryz.f33) (l := [.tmp 2]) (envL [(76, evS), (77, befS)]) [0, 2, 3, 4, 5, 6, 9, 11, 12, 13, 14, 21, 34, 38] [] [] (envL_cons (eventFault_ctr h hU hM) (envL_cons (before_ctr h) (env0 h.hP))) ?_ (by rw [h.hP]; exact Tryz.func33) rfl (by kernel_rfl) rfl ?_ ?_
  · rw [h.hP]; exact ⟨_, Tryz.func33, by kernel_rfl, by kernel_rfl⟩
  · rintro xs ⟨l, rfl, h1⟩; exact ⟨_, l, rfl, rfl⟩
  · rintro xs ⟨l, rfl, h1⟩
    refine ⟨by rw [Tryz.ntmps33]; simp, ?_⟩
    simp only [go_sem, h.hP, List.cons_append, List.nil_append, Meets_e, Below_e, Prod.exists, exists_eq, exists_eq_left, exists_eq_left', exists_eq_right, exists_eq_right', exists_and_left, exists_and_right, Ob.arr.injEq, AV.own.injEq, AV.fv.injEq, eventsS_q, eventsS_p, eventsS_c, eventsS_f, TEvent.len, Tryz.ntmps33, Nat.reduceEqDiff, reduceCtorEq, Nat.reduceMul, Nat.reduceAdd, Nat.reduceSub, Nat.reduceDiv, Nat.reduceMod, Nat.reduceLeDiff, Nat.reduceLT, Nat.reduceBNe, Nat.reduceBEq, reduceIte, Int.reduceLE, Int.reduceLT, Int.reduceToNat, Int.reduceNeg, Int.reduceAdd, Int.reduceSub, Int.reduceMul, Int.reduceEq]
    refine ⟨fun c => (if_pos c).symm, fun c => ?_⟩
    have hc : eventsF l = firstI l.length (evE l) := if_neg c
    rw [hc]
    refine vc_loopS (Int) (fun (i : Int) => [(13, .i i)]) [] (fun (i : Int) => []) (fun (i : Int) => [(10, .mp 122 (seenM (l.take i.toNat)))]) (fun (i : Int) => 0) (fun (i : Int) => Rounds l.length (evE l) i) (fun (i : Int) => (l.length - i).toNat) [] ?_ ?_
    · simp only [go_sem, h.hP, List.cons_append, List.nil_append, Meets_e, Below_e, Prod.exists, exists_eq, exists_eq_left, exists_eq_left', exists_eq_right, exists_eq_right', exists_and_left, exists_and_right, Ob.arr.injEq, AV.own.injEq, AV.fv.injEq, Tryz.ntmps33, Nat.reduceEqDiff, reduceCtorEq, Nat.reduceMul, Nat.reduceAdd, Nat.reduceSub, Nat.reduceDiv, Nat.reduceMod, Nat.reduceLeDiff, Nat.reduceLT, Nat.reduceBNe, Nat.reduceBEq, reduceIte, Int.reduceLE, Int.reduceLT, Int.reduceToNat, Int.reduceNeg, Int.reduceAdd, Int.reduceSub, Int.reduceMul, Int.reduceEq]
      exact ⟨rfl, Rounds.start⟩
    · rintro i hr
      obtain ⟨hi, hw, f5, f7, f6, f0, fe⟩ := check_round h1 hr
      have ho := okL_get h1 TEvent.z_ok
      simp only [go_sem, h.hP, List.cons_append, List.nil_append, Meets_e, Below_e, Prod.exists, exists_eq, exists_eq_left, exists_eq_left', exists_eq_right, exists_eq_right', exists_and_left, exists_and_right, Ob.arr.injEq, AV.own.injEq, AV.fv.injEq, eventsS_q, eventsS_p, eventsS_c, eventsS_f, evS_q, evS_p, evS_c, evS_f, befS_q, befS_p, befS_c, befS_f, TEvent.row, TEvent.len, TEvent.get, mget_seen, Tryz.ntmps33, Nat.reduceEqDiff, reduceCtorEq, Nat.reduceMul, Nat.reduceAdd, Nat.reduceSub, Nat.reduceDiv, Nat.reduceMod, Nat.reduceLeDiff, Nat.reduceLT, Nat.reduceBNe, Nat.reduceBEq, reduceIte, Int.reduceLE, Int.reduceLT, Int.reduceToNat, Int.reduceNeg, Int.reduceAdd, Int.reduceSub, Int.reduceMul, Int.reduceEq]
      refine ⟨fun a => ⟨hi, a, ho _, f5 a, fun b => ⟨fun c => ?_, fun c => ⟨f6 a b (fun d => absurd d c), f0 a b (fun d => absurd d c)⟩⟩⟩, fe⟩
      rw [hw c a]
      exact ⟨by omega, by omega, f7 a b c, fun d => ⟨f6 a b (fun _ => by simpa using d), f0 a b (fun _ => by simpa using d)⟩⟩
/-! ### What holds of events that are right -/
theorem ev_right {l : List TEvent} (h : eventsF l = 0) : l.length ≤ 5000 ∧ (∀ i, i < l.length → evF (l.getD i TEvent.z) = 0) ∧ ∀ i, 0 < i → i < l.length → befB (l.getD (i - 1) TEvent.z) (l.getD i TEvent.z) = true := by
  unfold eventsF at h
  split at h
  · cases h
  · rename_i hl
    have key := fun i (hi : i < l.length) => firstI_zero h i hi
    have h1 : ∀ i, i < l.length → evF (l.getD i TEvent.z) = 0 := fun i hi => by
      have := key i hi
      unfold evE at this
      split at this
      · rename_i c; exact absurd this c
      · rename_i c; exact Decidable.not_not.1 c
    refine ⟨by omega, h1, fun i h0 hi => ?_⟩
    have := key i hi
    unfold evE at this
    rw [if_neg (fun z => z (h1 i hi))] at this
    split at this
    · cases this
    · rename_i c
      cases hb : befB (l.getD (i - 1) TEvent.z) (l.getD i TEvent.z) with
      | true => rfl
      | false => exact absurd ⟨by omega, hb⟩ c
theorem evF_at {e : TEvent} (h : evF e = 0) : 0 ≤ e.at_ ∧ e.at_ ≤ 4321439 := by
  unfold evF at h
  split at h
  · cases h
  · split at h
    · cases h
    · rename_i c
      rw [Bool.not_eq_false] at c
      exact inB_iff.1 c
def atsL (l : List TEvent) : List Int := l.map TEvent.at_
theorem atsL_get (l : List TEvent) {i : Nat} (hi : i < l.length) : (atsL l).getD i 0 = (l.getD i TEvent.z).at_ := by
  unfold atsL
  rw [List.getD_eq_getElem?_getD, List.getD_eq_getElem?_getD, List.getElem?_map, List.getElem?_eq_getElem hi]
  rfl
theorem ats_sorted {l : List TEvent} (h : eventsF l = 0) : (atsL l).Pairwise (· ≤ ·) := by
  obtain ⟨_, _, h2⟩ := ev_right h
  have hstep : ∀ i, 0 < i → i < l.length → (l.getD (i - 1) TEvent.z).at_ ≤ (l.getD i TEvent.z).at_ := fun i h0 hi => by
    have := h2 i h0 hi
    unfold befB at this
    rw [decide_eq_true_eq] at this
    omega
  have hall : ∀ j i, i ≤ j → j < l.length → (l.getD i TEvent.z).at_ ≤ (l.getD j TEvent.z).at_ := by
    intro j
    induction j with
    | zero => intro i hi _; obtain rfl : i = 0 := by omega
              exact Int.le_refl _
    | succ j ih =>
      intro i hi hj
      by_cases e : i = j + 1
      · subst e; exact Int.le_refl _
      · have h3 := ih i (by omega) (by omega)
        have h4 := hstep (j + 1) (by omega) hj
        rw [Nat.add_sub_cancel] at h4
        omega
  rw [List.pairwise_iff_getElem]
  intro i j hi hj hij
  have hi' : i < l.length := by unfold atsL at hi; simpa using hi
  have hj' : j < l.length := by unfold atsL at hj; simpa using hj
  have h3 := hall j i (by omega) hj'
  rw [← atsL_get l hi', ← atsL_get l hj', List.getD_eq_getElem?_getD, List.getD_eq_getElem?_getD, List.getElem?_eq_getElem hi, List.getElem?_eq_getElem hj] at h3
  exact h3
end Go.Avc

/- Names and windows: what is wrong with them. No condition. -/
set_option linter.unusedVariables false
set_option linter.unusedSimpArgs false
set_option maxRecDepth 100000
namespace Go.Avc
open Go Go.Proofs

def winE (w : TWindow) : Int := if 0 ≤ w.from_ ∧ w.from_ ≤ w.to_ ∧ w.to_ ≤ 4321440 then 0 else 1
def winS  : Spec where
  pre xs := ∃ (w : TWindow), xs = [.dv (.ag w.row)]
  post xs y := ∃ (w : TWindow), xs = [.dv (.ag w.row)] ∧ y = .i (winE w)
  cost _ := 0
  fresh := true
theorem winS_c  (xs : List AV) : (winS).cost xs = 0 := nr rfl
theorem winS_f  : (winS).fresh = true := nr rfl
theorem winS_q  (w : TWindow) : (winS).pre [.dv (.ag [.int .i64 w.from_, .int .i64 w.to_])] = (True) := propext ⟨fun h => by
  have h' : ∃ (w' : TWindow), ([.dv (.ag w.row)] : List AV) = [.dv (.ag w'.row)] := h
  obtain ⟨w', e⟩ := h'
  simp only [List.cons.injEq, AV.dv.injEq, AV.dp.injEq, AV.fv.injEq, DV.d.injEq, DV.ag.injEq, D.int.injEq, D.str.injEq, D.bool.injEq, D.sl.injEq, true_and, and_true, intsDi_inj, rowsT_inj, rowsKi_inj, TWindow.row_inj, TWindow.rows_inj] at e
  obtain rfl := e
  exact trivial, fun h => ⟨w, rfl⟩⟩
theorem winS_p  (w : TWindow) : (winS).post [.dv (.ag [.int .i64 w.from_, .int .i64 w.to_])] = fun y => y = .i (winE w) := funext fun y => propext ⟨fun h => by
  have h' : ∃ (w' : TWindow), ([.dv (.ag w.row)] : List AV) = [.dv (.ag w'.row)] ∧ y = .i (winE w') := h
  obtain ⟨w', e, h⟩ := h'
  simp only [List.cons.injEq, AV.dv.injEq, AV.dp.injEq, AV.fv.injEq, DV.d.injEq, DV.ag.injEq, D.int.injEq, D.str.injEq, D.bool.injEq, D.sl.injEq, true_and, and_true, intsDi_inj, rowsT_inj, rowsKi_inj, TWindow.row_inj, TWindow.rows_inj] at e
  obtain rfl := e
  exact h, fun h => ⟨w, rfl, h⟩⟩
theorem checkWindow_ctr {cx : Cx} (h : Seat cx) : Ctr cx 110 winS := by
  refine ctr_of (fn := Tryz.f110) (l := [.tmp 2]) (envL []) [0, 1, 2, 17] [] [] (env0 h.hP) ?_ (by rw [h.hP]; exact Tryz.func110) rfl (by kernel_rfl) rfl ?_ ?_
  · rw [h.hP]; exact ⟨_, Tryz.func110, by kernel_rfl, by kernel_rfl⟩
  · rintro xs ⟨w, rfl⟩; exact ⟨_, w, rfl, rfl⟩
  · rintro xs ⟨w, rfl⟩
    refine ⟨by rw [Tryz.ntmps110]; simp, ?_⟩
    simp only [go_sem, h.hP, List.cons_append, List.nil_append, Meets_e, Below_e, Prod.exists, exists_eq, exists_eq_left, exists_eq_left', exists_eq_right, exists_eq_right', exists_and_left, exists_and_right, Ob.arr.injEq, AV.own.injEq, AV.fv.injEq, winS_q, winS_p, winS_c, winS_f, TWindow.row, Tryz.ntmps110, Nat.reduceEqDiff, reduceCtorEq, Nat.reduceMul, Nat.reduceAdd, Nat.reduceSub, Nat.reduceDiv, Nat.reduceMod, Nat.reduceLeDiff, Nat.reduceLT, Nat.reduceBNe, Nat.reduceBEq, reduceIte, Int.reduceLE, Int.reduceLT, Int.reduceToNat, Int.reduceNeg, Int.reduceAdd, Int.reduceSub, Int.reduceMul, Int.reduceEq]
    unfold winE
    ((repeat' (first | with_reducible apply And.intro | with_reducible intro)) <;> (split <;> omega))
def nameE (l : List ByteArray) (i : Nat) : Int := if keyB (l.getD i ⟨#[]⟩) = false then 5 else 0
def namesF (l : List ByteArray) : Int := firstI l.length (nameE l)
def namesS  : Spec where
  pre xs := ∃ (l : List ByteArray), xs = [.sl (rowsT l)] ∧ (okL okS l)
  post xs y := ∃ (l : List ByteArray), xs = [.sl (rowsT l)] ∧ y = .i (namesF l)
  cost _ := 0
  fresh := true
theorem namesS_c  (xs : List AV) : (namesS).cost xs = 0 := nr rfl
theorem namesS_f  : (namesS).fresh = true := nr rfl
theorem namesS_q  (l : List ByteArray) : (namesS).pre [.sl (rowsT l)] = (okL okS l) := propext ⟨fun h => by
  have h' : ∃ (l' : List ByteArray), ([.sl (rowsT l)] : List AV) = [.sl (rowsT l')] ∧ (okL okS l') := h
  obtain ⟨l', e, h⟩ := h'
  simp only [List.cons.injEq, AV.dv.injEq, AV.dp.injEq, AV.fv.injEq, DV.d.injEq, DV.ag.injEq, D.int.injEq, D.str.injEq, D.bool.injEq, D.sl.injEq, true_and, and_true, intsDi_inj, rowsT_inj, rowsKi_inj] at e
  obtain rfl := e
  exact h, fun h => ⟨l, rfl, h⟩⟩
theorem namesS_p  (l : List ByteArray) : (namesS).post [.sl (rowsT l)] = fun y => y = .i (namesF l) := funext fun y => propext ⟨fun h => by
  have h' : ∃ (l' : List ByteArray), ([.sl (rowsT l)] : List AV) = [.sl (rowsT l')] ∧ y = .i (namesF l') := h
  obtain ⟨l', e, h⟩ := h'
  simp only [List.cons.injEq, AV.dv.injEq, AV.dp.injEq, AV.fv.injEq, DV.d.injEq, DV.ag.injEq, D.int.injEq, D.str.injEq, D.bool.injEq, D.sl.injEq, true_and, and_true, intsDi_inj, rowsT_inj, rowsKi_inj] at e
  obtain rfl := e
  exact h, fun h => ⟨l, rfl, h⟩⟩
theorem nameFault_ctr {cx : Cx} (h : Seat cx) : Ctr cx 22 namesS := by
  refine ctr_of (fn := Tryz.f22) (l := [.tmp 2]) (envL [(65, (strB keyB))]) [0, 2, 4, 5, 6, 7, 8, 13] [] [] (envL_cons (Key_ctr h) (env0 h.hP)) ?_ (by rw [h.hP]; exact Tryz.func22) rfl (by kernel_rfl) rfl ?_ ?_
  · rw [h.hP]; exact ⟨_, Tryz.func22, by kernel_rfl, by kernel_rfl⟩
  · rintro xs ⟨l, rfl, h1⟩; exact ⟨_, l, rfl, rfl⟩
  · rintro xs ⟨l, rfl, h1⟩
    refine ⟨by rw [Tryz.ntmps22]; simp, ?_⟩
    simp only [go_sem, h.hP, List.cons_append, List.nil_append, Meets_e, Below_e, Prod.exists, exists_eq, exists_eq_left, exists_eq_left', exists_eq_right, exists_eq_right', exists_and_left, exists_and_right, Ob.arr.injEq, AV.own.injEq, AV.fv.injEq, namesS_q, namesS_p, namesS_c, namesS_f, rowsT_len, Tryz.ntmps22, Nat.reduceEqDiff, reduceCtorEq, Nat.reduceMul, Nat.reduceAdd, Nat.reduceSub, Nat.reduceDiv, Nat.reduceMod, Nat.reduceLeDiff, Nat.reduceLT, Nat.reduceBNe, Nat.reduceBEq, reduceIte, Int.reduceLE, Int.reduceLT, Int.reduceToNat, Int.reduceNeg, Int.reduceAdd, Int.reduceSub, Int.reduceMul, Int.reduceEq]
    refine vc_loopS (Int) (fun (i : Int) => [(7, .i i)]) [] (fun (i : Int) => []) (fun (i : Int) => []) (fun (i : Int) => 0) (fun (i : Int) => Rounds l.length (nameE l) i) (fun (i : Int) => (l.length - i).toNat) [] ?_ ?_
    · simp only [go_sem, h.hP, List.cons_append, List.nil_append, Meets_e, Below_e, Prod.exists, exists_eq, exists_eq_left, exists_eq_left', exists_eq_right, exists_eq_right', exists_and_left, exists_and_right, Ob.arr.injEq, AV.own.injEq, AV.fv.injEq, Tryz.ntmps22, Nat.reduceEqDiff, reduceCtorEq, Nat.reduceMul, Nat.reduceAdd, Nat.reduceSub, Nat.reduceDiv, Nat.reduceMod, Nat.reduceLeDiff, Nat.reduceLT, Nat.reduceBNe, Nat.reduceBEq, reduceIte, Int.reduceLE, Int.reduceLT, Int.reduceToNat, Int.reduceNeg, Int.reduceAdd, Int.reduceSub, Int.reduceMul, Int.reduceEq]
      exact Rounds.start
    · rintro i hr
      obtain ⟨hi, hS, hM, hE, hN⟩ := hr.use (by have := h1.1; omega)
      have ho : okS (l.getD i.toNat ⟨#[]⟩) := okL_get h1 okS_z _
      simp only [go_sem, h.hP, List.cons_append, List.nil_append, Meets_e, Below_e, Prod.exists, exists_eq, exists_eq_left, exists_eq_left', exists_eq_right, exists_eq_right', exists_and_left, exists_and_right, Ob.arr.injEq, AV.own.injEq, AV.fv.injEq, namesS_q, namesS_p, namesS_c, namesS_f, strB_q, strB_p, strB_c, strB_f, rowsT_len, rowsT_get, Tryz.ntmps22, Nat.reduceEqDiff, reduceCtorEq, Nat.reduceMul, Nat.reduceAdd, Nat.reduceSub, Nat.reduceDiv, Nat.reduceMod, Nat.reduceLeDiff, Nat.reduceLT, Nat.reduceBNe, Nat.reduceBEq, reduceIte, Int.reduceLE, Int.reduceLT, Int.reduceToNat, Int.reduceNeg, Int.reduceAdd, Int.reduceSub, Int.reduceMul, Int.reduceEq]
      unfold okS at ho
      exact ⟨fun a => ⟨hi, a, by omega, fun b => (hE 5 a (if_pos b) (by decide)).symm, fun b => ⟨hS a (if_neg (ne_ft b)), hM a⟩⟩, fun a => (hN a).symm⟩
def cnS  : Spec where
  pre xs := ∃ (l : List TEvent) (w : TWindow) (ns : List ByteArray), xs = [.sl (TEvent.rows l), .dv (.ag w.row), .sl (rowsT ns)] ∧ (okL TEvent.ok l ∧ okL okS ns)
  post xs y := ∃ (l : List TEvent) (w : TWindow) (ns : List ByteArray), xs = [.sl (TEvent.rows l), .dv (.ag w.row), .sl (rowsT ns)] ∧ y = .i (orE (eventsF l) (orE (namesF ns) (winE w)))
  cost _ := 0
  fresh := true
theorem cnS_c  (xs : List AV) : (cnS).cost xs = 0 := nr rfl
theorem cnS_f  : (cnS).fresh = true := nr rfl
theorem cnS_q  (l : List TEvent) (w : TWindow) (ns : List ByteArray) : (cnS).pre [.sl (TEvent.rows l), .dv (.ag [.int .i64 w.from_, .int .i64 w.to_]), .sl (rowsT ns)] = (okL TEvent.ok l ∧ okL okS ns) := propext ⟨fun h => by
  have h' : ∃ (l' : List TEvent) (w' : TWindow) (ns' : List ByteArray), ([.sl (TEvent.rows l), .dv (.ag w.row), .sl (rowsT ns)] : List AV) = [.sl (TEvent.rows l'), .dv (.ag w'.row), .sl (rowsT ns')] ∧ (okL TEvent.ok l' ∧ okL okS ns') := h
  obtain ⟨l', w', ns', e, h⟩ := h'
  simp only [List.cons.injEq, AV.dv.injEq, AV.dp.injEq, AV.fv.injEq, DV.d.injEq, DV.ag.injEq, D.int.injEq, D.str.injEq, D.bool.injEq, D.sl.injEq, true_and, and_true, intsDi_inj, rowsT_inj, rowsKi_inj, TEvent.row_inj, TEvent.rows_inj, TWindow.row_inj, TWindow.rows_inj] at e
  obtain ⟨rfl, rfl, rfl⟩ := e
  exact h, fun h => ⟨l, w, ns, rfl, h⟩⟩
theorem cnS_p  (l : List TEvent) (w : TWindow) (ns : List ByteArray) : (cnS).post [.sl (TEvent.rows l), .dv (.ag [.int .i64 w.from_, .int .i64 w.to_]), .sl (rowsT ns)] = fun y => y = .i (orE (eventsF l) (orE (namesF ns) (winE w))) := funext fun y => propext ⟨fun h => by
  have h' : ∃ (l' : List TEvent) (w' : TWindow) (ns' : List ByteArray), ([.sl (TEvent.rows l), .dv (.ag w.row), .sl (rowsT ns)] : List AV) = [.sl (TEvent.rows l'), .dv (.ag w'.row), .sl (rowsT ns')] ∧ y = .i (orE (eventsF l') (orE (namesF ns') (winE w'))) := h
  obtain ⟨l', w', ns', e, h⟩ := h'
  simp only [List.cons.injEq, AV.dv.injEq, AV.dp.injEq, AV.fv.injEq, DV.d.injEq, DV.ag.injEq, D.int.injEq, D.str.injEq, D.bool.injEq, D.sl.injEq, true_and, and_true, intsDi_inj, rowsT_inj, rowsKi_inj, TEvent.row_inj, TEvent.rows_inj, TWindow.row_inj, TWindow.rows_inj] at e
  obtain ⟨rfl, rfl, rfl⟩ := e
  exact h, fun h => ⟨l, w, ns, rfl, h⟩⟩
theorem checkNamed_ctr {cx : Cx} (h : Seat cx) (hU : Utf8 cx) (hM : MaxL cx) : Ctr cx 62 cnS := by
  refine ctr_of (fn := Tryz.f62) (l := [.tmp 6]) (envL [(32, eventsS), (90, (strB keyB)), (110, winS)]) [0, 1, 2, 4, 6, 7, 9, 13, 15, 16, 17, 18, 23] [] [] (envL_cons (ECheck_ctr h hU hM) (envL_cons (IsKey_ctr h) (envL_cons (checkWindow_ctr h) (env0 h.hP)))) ?_ (by rw [h.hP]; exact Tryz.func62) rfl (by kernel_rfl) rfl ?_ ?_
  · rw [h.hP]; exact ⟨_, Tryz.func62, by kernel_rfl, by kernel_rfl⟩
  · rintro xs ⟨l, w, ns, rfl, h1⟩; exact ⟨_, l, w, ns, rfl, rfl⟩
  · rintro xs ⟨l, w, ns, rfl, h1, h2⟩
    refine ⟨by rw [Tryz.ntmps62]; simp, ?_⟩
    simp only [go_sem, h.hP, List.cons_append, List.nil_append, Meets_e, Below_e, Prod.exists, exists_eq, exists_eq_left, exists_eq_left', exists_eq_right, exists_eq_right', exists_and_left, exists_and_right, Ob.arr.injEq, AV.own.injEq, AV.fv.injEq, cnS_q, cnS_p, cnS_c, cnS_f, eventsS_q, eventsS_p, eventsS_c, eventsS_f, TWindow.row, rowsT_len, Tryz.ntmps62, Nat.reduceEqDiff, reduceCtorEq, Nat.reduceMul, Nat.reduceAdd, Nat.reduceSub, Nat.reduceDiv, Nat.reduceMod, Nat.reduceLeDiff, Nat.reduceLT, Nat.reduceBNe, Nat.reduceBEq, reduceIte, Int.reduceLE, Int.reduceLT, Int.reduceToNat, Int.reduceNeg, Int.reduceAdd, Int.reduceSub, Int.reduceMul, Int.reduceEq]
    refine ⟨h1, fun c => (orE_l c).symm, fun c => ?_⟩
    rw [orE_r c]
    refine vc_loopS (Int) (fun (i : Int) => [(17, .i i)]) [4] (fun (i : Int) => []) (fun (i : Int) => []) (fun (i : Int) => 0) (fun (i : Int) => Rounds ns.length (nameE ns) i) (fun (i : Int) => (ns.length - i).toNat) [] ?_ ?_
    · simp only [go_sem, h.hP, List.cons_append, List.nil_append, Meets_e, Below_e, Prod.exists, exists_eq, exists_eq_left, exists_eq_left', exists_eq_right, exists_eq_right', exists_and_left, exists_and_right, Ob.arr.injEq, AV.own.injEq, AV.fv.injEq, Tryz.ntmps62, Nat.reduceEqDiff, reduceCtorEq, Nat.reduceMul, Nat.reduceAdd, Nat.reduceSub, Nat.reduceDiv, Nat.reduceMod, Nat.reduceLeDiff, Nat.reduceLT, Nat.reduceBNe, Nat.reduceBEq, reduceIte, Int.reduceLE, Int.reduceLT, Int.reduceToNat, Int.reduceNeg, Int.reduceAdd, Int.reduceSub, Int.reduceMul, Int.reduceEq]
      exact Rounds.start
    · rintro i hr
      obtain ⟨hi, hS, hM2, hE, hN⟩ := hr.use (by have := h2.1; omega)
      have ho : okS (ns.getD i.toNat ⟨#[]⟩) := okL_get h2 okS_z _
      simp only [go_sem, h.hP, List.cons_append, List.nil_append, Meets_e, Below_e, Prod.exists, exists_eq, exists_eq_left, exists_eq_left', exists_eq_right, exists_eq_right', exists_and_left, exists_and_right, Ob.arr.injEq, AV.own.injEq, AV.fv.injEq, cnS_q, cnS_p, cnS_c, cnS_f, strB_q, strB_p, strB_c, strB_f, winS_q, winS_p, winS_c, winS_f, TWindow.row, rowsT_len, rowsT_get, Tryz.ntmps62, Nat.reduceEqDiff, reduceCtorEq, Nat.reduceMul, Nat.reduceAdd, Nat.reduceSub, Nat.reduceDiv, Nat.reduceMod, Nat.reduceLeDiff, Nat.reduceLT, Nat.reduceBNe, Nat.reduceBEq, reduceIte, Int.reduceLE, Int.reduceLT, Int.reduceToNat, Int.reduceNeg, Int.reduceAdd, Int.reduceSub, Int.reduceMul, Int.reduceEq]
      unfold okS at ho
      exact ⟨fun a => ⟨hi, a, by omega, fun b => ((orE_l (by rw [hE 5 a (if_pos b) (by decide)]; decide)).trans (hE 5 a (if_pos b) (by decide))).symm, fun b => ⟨hS a (if_neg (ne_ft b)), hM2 a⟩⟩, fun a => (orE_r (hN a)).symm⟩
def nameG : Spec where
  pre xs := xs = [.st]
  post xs y := ∃ s : ByteArray, okS s ∧ y = .str s
  cost _ := 2
  fresh := false
theorem Name_ctr {cx : Cx} (h : Seat cx) : Ctr cx 19 nameG := by
  refine ctr_of (fn := Tryz.f19) (l := [.tmp 2]) (envL [(26, flipS), (61, oneS)]) [0, 2, 4] [] [] (envL_cons (flip_ctr cx h.hP h.hS) (envL_cons (one_ctr h) (env0 h.hP))) ?_ (by rw [h.hP]; exact Tryz.func19) rfl (by kernel_rfl) rfl ?_ ?_
  · rw [h.hP]; exact ⟨_, Tryz.func19, by kernel_rfl, by kernel_rfl⟩
  · rintro xs rfl; exact ⟨_, ⟨#[]⟩, okS_z, rfl⟩
  · rintro xs rfl
    refine ⟨by rw [Tryz.ntmps19]; simp, ?_⟩
    simp only [go_sem, h.hP, List.cons_append, List.nil_append, Meets_e, Below_e, Prod.exists, exists_eq, exists_eq_left, exists_eq_left', exists_eq_right, exists_eq_right', exists_and_left, exists_and_right, Ob.arr.injEq, AV.own.injEq, AV.fv.injEq, nameG, flipS_q, flipS_p, flipS_c, flipS_f, oneS_q, oneS_p, oneS_c, oneS_f, strs1, strsc, Tryz.ntmps19, Nat.reduceEqDiff, reduceCtorEq, Nat.reduceMul, Nat.reduceAdd, Nat.reduceSub, Nat.reduceDiv, Nat.reduceMod, Nat.reduceLeDiff, Nat.reduceLT, Nat.reduceBNe, Nat.reduceBEq, reduceIte, Int.reduceLE, Int.reduceLT, Int.reduceToNat, Int.reduceNeg, Int.reduceAdd, Int.reduceSub, Int.reduceMul, Int.reduceEq]
    exact fun f => ⟨fun _ s hs => okS_of (isOf_ok hs (by decide +kernel)), fun _ s hs => okS_of (isOf_ok hs (by decide +kernel))⟩
end Go.Avc

/- The generator of events: its contract; the predicate by which some are struck out. No condition. -/
set_option linter.unusedVariables false
set_option linter.unusedSimpArgs false
set_option maxRecDepth 100000
namespace Go.Avc
open Go Go.Proofs

theorem enc_size (n : Int) : (Utf8.encode n).size ≤ 4 := by
  unfold Utf8.encode
  dsimp only
  (repeat' split) <;> exact Nat.le_of_ble_eq_true rfl
theorem rsetE (l : List TEvent) (i : Nat) (x : TEvent) : (TEvent.rows l).set i [.str x.id, .str x.name, .int .i64 x.at_, .int .i64 x.who.kind, .str x.who.text, .sl (TField.rows x.fields)] = TEvent.rows (l.set i x) := TEvent.rset l i x
theorem eok_set {l : List TEvent} (h : ∀ c ∈ l, c.ok) {n : Nat} {x : TEvent} (hx : x.ok) : ∀ c ∈ l.set n x, c.ok := fun c hc => by
  rcases List.mem_or_eq_of_mem_set hc with hc | rfl
  · exact h c hc
  · exact hx
theorem eok_get {l : List TEvent} (h : ∀ c ∈ l, c.ok) (n : Nat) : (l.getD n TEvent.z).ok := by
  rw [List.getD_eq_getElem?_getD]
  cases e : l[n]? with
  | none => exact TEvent.z_ok
  | some x => exact h x (List.mem_of_getElem? e)
def eidS : Spec where
  pre xs := ∃ i : Int, xs = [.i i] ∧ 0 ≤ i ∧ i ≤ 1000
  post xs y := ∃ s : ByteArray, okS s ∧ y = .str s
  cost _ := 0
  fresh := true
theorem eventId_ctr {cx : Cx} (h : Seat cx) : Ctr cx 73 eidS := by
  refine ctr_of (fn := Tryz.f73) (l := [.tmp 2]) (envL []) [0, 2] [] [] (env0 h.hP) ?_ (by rw [h.hP]; exact Tryz.func73) rfl (by kernel_rfl) rfl ?_ ?_
  · rw [h.hP]; exact ⟨_, Tryz.func73, by kernel_rfl, by kernel_rfl⟩
  · rintro xs ⟨i, rfl, h1⟩; exact ⟨_, ⟨#[]⟩, okS_z, rfl⟩
  · rintro xs ⟨i, rfl, h1, h2⟩
    refine ⟨by rw [Tryz.ntmps73]; simp, ?_⟩
    simp only [go_sem, h.hP, List.cons_append, List.nil_append, Meets_e, Below_e, Prod.exists, exists_eq, exists_eq_left, exists_eq_left', exists_eq_right, exists_eq_right', exists_and_left, exists_and_right, Ob.arr.injEq, AV.own.injEq, AV.fv.injEq, eidS, Tryz.ntmps73, Nat.reduceEqDiff, reduceCtorEq, Nat.reduceMul, Nat.reduceAdd, Nat.reduceSub, Nat.reduceDiv, Nat.reduceMod, Nat.reduceLeDiff, Nat.reduceLT, Nat.reduceBNe, Nat.reduceBEq, reduceIte, Int.reduceLE, Int.reduceLT, Int.reduceToNat, Int.reduceNeg, Int.reduceAdd, Int.reduceSub, Int.reduceMul, Int.reduceEq]
    have e1 := enc_size (IntKind.i32.wrap (IntKind.i64.wrap (97 + (IntKind.i64.wrap (i.tdiv 26)).tmod 26)))
    have e2 := enc_size (IntKind.i32.wrap (IntKind.i64.wrap (97 + i.tmod 26)))
    generalize Utf8.encode (IntKind.i32.wrap (IntKind.i64.wrap (97 + (IntKind.i64.wrap (i.tdiv 26)).tmod 26))) = a at e1
    generalize Utf8.encode (IntKind.i32.wrap (IntKind.i64.wrap (97 + i.tmod 26))) = b at e2
    refine ⟨by omega, by omega, okS_of ?_⟩
    rw [ByteArray.size_append, ByteArray.size_append]
    have : (⟨#[101]⟩ : ByteArray).size = 1 := rfl
    omega
def eventsG : Spec where
  pre xs := ∃ m : Int, xs = [.st, .i m] ∧ m ≤ 20
  post xs y := ∃ (m : Int) (l : List TEvent), xs = [.st, .i m] ∧ l.length ≤ 20 ∧ (∀ x ∈ l, x.ok) ∧ y = .sl (TEvent.rows l)
  cost _ := 2000
  fresh := false
set_option maxHeartbeats 8000000 in
theorem Events_own {cx : Cx} (h : Seat cx) (hN : cx.glob 2 = some namesD) (hI : cx.glob 0 = some poolD) (hE : cx.glob 1 = some evNamesD) : CtrO cx 31 eventsG 52 6 := by
  refine ctrO_of (fn := Tryz.f31) (t := 4) (envL [(12, pickS), (26, flipS), (72, eventG), (73, eidS)]) [0, 1, 4, 5, 6, 7, 11, 12, 13, 34] [] [(10, [0, 1, 2, 5], [3, 4, 6, 7, 8, 9, 10, 11])] (envL_cons (pick_ctr cx h.hP h.hS) (envL_cons (flip_ctr cx h.hP h.hS) (envL_cons (Event_ctr h hN hI hE) (envL_cons (eventId_ctr h) (env0 h.hP))))) ?_ (by rw [h.hP]; exact Tryz.func31) rfl (by kernel_rfl) rfl ?_ (by decide)
  · rw [h.hP]; exact ⟨_, Tryz.func31, by kernel_rfl, by kernel_rfl⟩
  · rintro xs ⟨m, rfl, h1⟩
    refine ⟨by rw [Tryz.ntmps31]; simp, ?_⟩
    simp only [go_sem, h.hP, List.cons_append, List.nil_append, Meets_e, Below_e, Prod.exists, exists_eq, exists_eq_left, exists_eq_left', exists_eq_right, exists_eq_right', exists_and_left, exists_and_right, Ob.arr.injEq, AV.own.injEq, AV.fv.injEq, eventsG, pickS_q, pickS_p, pickS_c, pickS_f, ints1, intsc, Tryz.ntmps31, Nat.reduceEqDiff, reduceCtorEq, Nat.reduceMul, Nat.reduceAdd, Nat.reduceSub, Nat.reduceDiv, Nat.reduceMod, Nat.reduceLeDiff, Nat.reduceLT, Nat.reduceBNe, Nat.reduceBEq, reduceIte, Int.reduceLE, Int.reduceLT, Int.reduceToNat, Int.reduceNeg, Int.reduceAdd, Int.reduceSub, Int.reduceMul, Int.reduceEq]
    intro a0 ha0
    have ha : 0 ≤ a0 ∧ a0 ≤ 1000 := by
      simp only [isIn, List.mem_cons, List.not_mem_nil, or_false] at ha0
      omega
    refine vc_loopS (Int × Int × List TEvent) (fun (x : Int × Int × List TEvent) => match x with | (i, n, l) => [(12, .i i), (6, .i n), (5, .own 5)]) [] (fun (x : Int × Int × List TEvent) => match x with | (i, n, l) => []) (fun (x : Int × Int × List TEvent) => match x with | (i, n, l) => [(5, .arr 52 6 (TEvent.rows l))]) (fun (x : Int × Int × List TEvent) => match x with | (i, n, l) => 81 * i.toNat + 1) (fun (x : Int × Int × List TEvent) => match x with | (i, n, l) => 0 ≤ i ∧ i ≤ max 0 m ∧ (l.length : Int) = i ∧ 0 ≤ n ∧ n ≤ 1000 + 1440 * i ∧ ∀ c ∈ l, c.ok) (fun (x : Int × Int × List TEvent) => match x with | (i, n, l) => (m - i).toNat) [(5, 52, 6)] ?_ ?_
    · simp only [go_sem, h.hP, List.cons_append, List.nil_append, Meets_e, Below_e, Prod.exists, exists_eq, exists_eq_left, exists_eq_left', exists_eq_right, exists_eq_right', exists_and_left, exists_and_right, Ob.arr.injEq, AV.own.injEq, AV.fv.injEq, TEvent.nil2, Tryz.ntmps31, Nat.reduceEqDiff, reduceCtorEq, Nat.reduceMul, Nat.reduceAdd, Nat.reduceSub, Nat.reduceDiv, Nat.reduceMod, Nat.reduceLeDiff, Nat.reduceLT, Nat.reduceBNe, Nat.reduceBEq, reduceIte, Int.reduceLE, Int.reduceLT, Int.reduceToNat, Int.reduceNeg, Int.reduceAdd, Int.reduceSub, Int.reduceMul, Int.reduceEq]
      exact ⟨by omega, rfl, ha.1, ha.2⟩
    · rintro ⟨i, n, l⟩ ⟨j1, j2, j3, j4, j5, j6⟩
      have hw : IntKind.i64.wrap (i + 1) = i + 1 := i64w (by omega) (by omega)
      simp only [go_sem, h.hP, List.cons_append, List.nil_append, Meets_e, Below_e, Prod.exists, exists_eq, exists_eq_left, exists_eq_left', exists_eq_right, exists_eq_right', exists_and_left, exists_and_right, Ob.arr.injEq, AV.own.injEq, AV.fv.injEq, eventsG, eventG, eidS, pickS_q, pickS_p, pickS_c, pickS_f, flipS_q, flipS_p, flipS_c, flipS_f, ints1, intsc, TEvent.row, TEvent.fold1, TEvent.app', TEvent.rows_inj, TEvent.zlT, TEvent.len, TEvent.get, rsetE, List.length_append, List.length_singleton, List.length_set, List.drop_succ_cons, List.drop_zero, List.drop_nil, hw, Tryz.ntmps31, Nat.reduceEqDiff, reduceCtorEq, Nat.reduceMul, Nat.reduceAdd, Nat.reduceSub, Nat.reduceDiv, Nat.reduceMod, Nat.reduceLeDiff, Nat.reduceLT, Nat.reduceBNe, Nat.reduceBEq, reduceIte, Int.reduceLE, Int.reduceLT, Int.reduceToNat, Int.reduceNeg, Int.reduceAdd, Int.reduceSub, Int.reduceMul, Int.reduceEq]
      have b1 : 81 * i.toNat ≤ 1918 := by omega
      have b2 : 81 * i.toNat ≤ 1998 := by omega
      have b3 : 81 * i.toNat ≤ 1999 := by omega
      have b4 : (l.length + 1) * 88 ≤ 140737488355328 := by omega
      have b5 : l.length ≤ 9223372036854775806 := by omega
      have b6 : (l.length : Int) ≤ 20 := by omega
      clear hw
      simp only [b1, b2, b3, b4, b5, true_and]
      refine ⟨fun c a ha1 => ⟨j1, by omega, fun s hs => ⟨hs, ?_, fun e he => ?_⟩⟩, fun c => ?_⟩
      · have ha2 : 0 ≤ a ∧ a ≤ 1440 := by
          simp only [isIn, List.mem_cons, List.not_mem_nil, or_false] at ha1
          omega
        rw [i64w (by omega) (by omega)]
        exact ⟨by omega, by omega⟩
      · have ha2 : 0 ≤ a ∧ a ≤ 1440 := by
          simp only [isIn, List.mem_cons, List.not_mem_nil, or_false] at ha1
          omega
        rw [i64w (by omega) (by omega)]
        exact ⟨by omega, by omega, by omega, by omega, by omega, by omega, okL_app j6 he, by omega⟩
      · refine ⟨fun d f => ⟨fun _ => ⟨by omega, by omega, by omega, by omega, by omega, by omega, by omega, by omega, _, ?_, eok_set (eok_set j6 (eok_get j6 1)) (eok_get j6 0), rfl⟩, fun _ => ⟨l, by omega, j6, rfl⟩⟩, fun _ => ⟨l, by omega, j6, rfl⟩⟩
        rw [List.length_set, List.length_set]
        omega
def anyB : Spec where
  pre xs := ∃ e : TEvent, xs = [.dv (.ag e.row)] ∧ e.ok
  post xs y := ∃ b : Bool, y = .b b
  cost _ := 0
  fresh := true
theorem Right1_ctr {cx : Cx} (h : Seat cx) (hU : Utf8 cx) (hM : MaxL cx) : Ctr cx 105 anyB := by
  refine ctr_of (fn := Tryz.f105) (l := [.tmp 2]) (envL [(33, eventsS)]) [0, 1, 2] [] [] (envL_cons (EventsFault_ctr h hU hM) (env0 h.hP)) ?_ (by rw [h.hP]; exact Tryz.func105) rfl (by kernel_rfl) rfl ?_ ?_
  · rw [h.hP]; exact ⟨_, Tryz.func105, by kernel_rfl, by kernel_rfl⟩
  · rintro xs ⟨e, rfl, h1⟩; exact ⟨_, true, rfl⟩
  · rintro xs ⟨e, rfl, h1⟩
    refine ⟨by rw [Tryz.ntmps105]; simp, ?_⟩
    simp only [go_sem, h.hP, List.cons_append, List.nil_append, Meets_e, Below_e, Prod.exists, exists_eq, exists_eq_left, exists_eq_left', exists_eq_right, exists_eq_right', exists_and_left, exists_and_right, Ob.arr.injEq, AV.own.injEq, AV.fv.injEq, anyB, eventsS_q, eventsS_p, eventsS_c, eventsS_f, TEvent.row, TEvent.fold1, TEvent.rows_inj, Tryz.ntmps105, Nat.reduceEqDiff, reduceCtorEq, Nat.reduceMul, Nat.reduceAdd, Nat.reduceSub, Nat.reduceDiv, Nat.reduceMod, Nat.reduceLeDiff, Nat.reduceLT, Nat.reduceBNe, Nat.reduceBEq, reduceIte, Int.reduceLE, Int.reduceLT, Int.reduceToNat, Int.reduceNeg, Int.reduceAdd, Int.reduceSub, Int.reduceMul, Int.reduceEq]
    exact okL_one h1
end Go.Avc

/- Events that are equal, that have a name, that are copied. No condition. -/
set_option linter.unusedVariables false
set_option linter.unusedSimpArgs false
set_option maxRecDepth 100000
namespace Go.Avc
open Go Go.Proofs
open Classical in
noncomputable def eqFB (l m : List TField) : Bool := decide (l = m)
open Classical in
theorem eqFB_t {l m : List TField} (h : l = m) : eqFB l m = true := by unfold eqFB; exact decide_eq_true h
open Classical in
theorem eqFB_f {l m : List TField} (h : ¬ l = m) : eqFB l m = false := by unfold eqFB; exact decide_eq_false h
def eqFS  : Spec where
  pre xs := ∃ (l : List TField) (m : List TField), xs = [.sl (TField.rows l), .sl (TField.rows m)] ∧ (l.length ≤ 1048576)
  post xs y := ∃ (l : List TField) (m : List TField), xs = [.sl (TField.rows l), .sl (TField.rows m)] ∧ y = .b (eqFB l m)
  cost _ := 0
  fresh := true
theorem eqFS_c  (xs : List AV) : (eqFS).cost xs = 0 := nr rfl
theorem eqFS_f  : (eqFS).fresh = true := nr rfl
theorem eqFS_q  (l : List TField) (m : List TField) : (eqFS).pre [.sl (TField.rows l), .sl (TField.rows m)] = (l.length ≤ 1048576) := propext ⟨fun h => by
  have h' : ∃ (l' : List TField) (m' : List TField), ([.sl (TField.rows l), .sl (TField.rows m)] : List AV) = [.sl (TField.rows l'), .sl (TField.rows m')] ∧ (l'.length ≤ 1048576) := h
  obtain ⟨l', m', e, h⟩ := h'
  simp only [List.cons.injEq, AV.dv.injEq, AV.dp.injEq, AV.fv.injEq, DV.d.injEq, DV.ag.injEq, D.int.injEq, D.str.injEq, D.bool.injEq, D.sl.injEq, true_and, and_true, intsDi_inj, rowsT_inj, rowsKi_inj, TField.row_inj, TField.rows_inj, TField.row_inj, TField.rows_inj] at e
  obtain ⟨rfl, rfl⟩ := e
  exact h, fun h => ⟨l, m, rfl, h⟩⟩
theorem eqFS_p  (l : List TField) (m : List TField) : (eqFS).post [.sl (TField.rows l), .sl (TField.rows m)] = fun y => y = .b (eqFB l m) := funext fun y => propext ⟨fun h => by
  have h' : ∃ (l' : List TField) (m' : List TField), ([.sl (TField.rows l), .sl (TField.rows m)] : List AV) = [.sl (TField.rows l'), .sl (TField.rows m')] ∧ y = .b (eqFB l' m') := h
  obtain ⟨l', m', e, h⟩ := h'
  simp only [List.cons.injEq, AV.dv.injEq, AV.dp.injEq, AV.fv.injEq, DV.d.injEq, DV.ag.injEq, D.int.injEq, D.str.injEq, D.bool.injEq, D.sl.injEq, true_and, and_true, intsDi_inj, rowsT_inj, rowsKi_inj, TField.row_inj, TField.rows_inj, TField.row_inj, TField.rows_inj] at e
  obtain ⟨rfl, rfl⟩ := e
  exact h, fun h => ⟨l, m, rfl, h⟩⟩
set_option maxHeartbeats 4000000 in
theorem eqF_ctr {cx : Cx} (h : Seat cx) : Ctr cx 66 eqFS := by
  refine ctr_of (fn := Tryz.f66) (l := [.tmp 4]) (envL []) [0, 1, 4, 5, 10, 12, 13, 14, 24] [] [] (env0 h.hP) ?_ (by rw [h.hP]; exact Tryz.func66) rfl (by kernel_rfl) rfl ?_ ?_
  · rw [h.hP]; exact ⟨_, Tryz.func66, by kernel_rfl, by kernel_rfl⟩
  · rintro xs ⟨l, m, rfl, h1⟩; exact ⟨_, l, m, rfl, rfl⟩
  · rintro xs ⟨l, m, rfl, h1⟩
    refine ⟨by rw [Tryz.ntmps66]; simp, ?_⟩
    simp only [go_sem, h.hP, List.cons_append, List.nil_append, Meets_e, Below_e, Prod.exists, exists_eq, exists_eq_left, exists_eq_left', exists_eq_right, exists_eq_right', exists_and_left, exists_and_right, Ob.arr.injEq, AV.own.injEq, AV.fv.injEq, eqFS_q, eqFS_p, eqFS_c, eqFS_f, TField.len, Tryz.ntmps66, Nat.reduceEqDiff, reduceCtorEq, Nat.reduceMul, Nat.reduceAdd, Nat.reduceSub, Nat.reduceDiv, Nat.reduceMod, Nat.reduceLeDiff, Nat.reduceLT, Nat.reduceBNe, Nat.reduceBEq, reduceIte, Int.reduceLE, Int.reduceLT, Int.reduceToNat, Int.reduceNeg, Int.reduceAdd, Int.reduceSub, Int.reduceMul, Int.reduceEq]
    refine ⟨fun c => (eqFB_f (fun e => c (by rw [e]))).symm, fun c => ?_⟩
    refine vc_loopS (Int) (fun (i : Int) => [(13, .i i)]) [] (fun (i : Int) => []) (fun (i : Int) => []) (fun (i : Int) => 0) (fun (i : Int) => 0 ≤ i ∧ i ≤ l.length ∧ ∀ j : Nat, (j : Int) < i → l.getD j TField.z = m.getD j TField.z) (fun (i : Int) => (l.length - i).toNat) [] ?_ ?_
    · simp only [go_sem, h.hP, List.cons_append, List.nil_append, Meets_e, Below_e, Prod.exists, exists_eq, exists_eq_left, exists_eq_left', exists_eq_right, exists_eq_right', exists_and_left, exists_and_right, Ob.arr.injEq, AV.own.injEq, AV.fv.injEq, Tryz.ntmps66, Nat.reduceEqDiff, reduceCtorEq, Nat.reduceMul, Nat.reduceAdd, Nat.reduceSub, Nat.reduceDiv, Nat.reduceMod, Nat.reduceLeDiff, Nat.reduceLT, Nat.reduceBNe, Nat.reduceBEq, reduceIte, Int.reduceLE, Int.reduceLT, Int.reduceToNat, Int.reduceNeg, Int.reduceAdd, Int.reduceSub, Int.reduceMul, Int.reduceEq]
      exact ⟨by omega, fun j hj => by omega⟩
    · rintro i ⟨i0, i1, hj⟩
      have hw : i < l.length → IntKind.i64.wrap (i + 1) = i + 1 := fun _ => i64w (by omega) (by omega)
      simp only [go_sem, h.hP, List.cons_append, List.nil_append, Meets_e, Below_e, Prod.exists, exists_eq, exists_eq_left, exists_eq_left', exists_eq_right, exists_eq_right', exists_and_left, exists_and_right, Ob.arr.injEq, AV.own.injEq, AV.fv.injEq, eqFS_q, eqFS_p, eqFS_c, eqFS_f, TField.len, TField.get, TField.row, Tryz.ntmps66, Nat.reduceEqDiff, reduceCtorEq, Nat.reduceMul, Nat.reduceAdd, Nat.reduceSub, Nat.reduceDiv, Nat.reduceMod, Nat.reduceLeDiff, Nat.reduceLT, Nat.reduceBNe, Nat.reduceBEq, reduceIte, Int.reduceLE, Int.reduceLT, Int.reduceToNat, Int.reduceNeg, Int.reduceAdd, Int.reduceSub, Int.reduceMul, Int.reduceEq]
      refine ⟨fun z => ⟨i0, z, i0, by omega, fun f => (eqFB_f fun e => ?_).symm, fun ⟨f1, f2, f3, f4⟩ => ?_⟩, fun z => (eqFB_t ?_).symm⟩
      · rw [e] at f
        simp at f
      · rw [hw z]
        refine ⟨by omega, by omega, fun j hj2 => ?_, by omega⟩
        by_cases e : (j : Int) = i
        · have : i.toNat = j := by omega
          rw [← this]
          apply TField.inj
          unfold TField.row
          rw [f1, f2, f3, f4]
        · exact hj j (by omega)
      · apply List.ext_getElem (by omega)
        intro j h2 h3
        have := hj j (by omega)
        rwa [List.getD_eq_getElem?_getD, List.getD_eq_getElem?_getD, List.getElem?_eq_getElem h2, List.getElem?_eq_getElem h3] at this
open Classical in
noncomputable def sameB (a b : TEvent) : Bool := decide (a = b)
open Classical in
theorem sameB_t {a b : TEvent} (h : a = b) : sameB a b = true := by unfold sameB; exact decide_eq_true h
open Classical in
theorem sameB_f {a b : TEvent} (h : ¬ a = b) : sameB a b = false := by unfold sameB; exact decide_eq_false h
def sameS  : Spec where
  pre xs := ∃ (a : TEvent) (b : TEvent), xs = [.dv (.ag a.row), .dv (.ag b.row)] ∧ (a.ok ∧ b.ok)
  post xs y := ∃ (a : TEvent) (b : TEvent), xs = [.dv (.ag a.row), .dv (.ag b.row)] ∧ y = .b (sameB a b)
  cost _ := 0
  fresh := true
theorem sameS_c  (xs : List AV) : (sameS).cost xs = 0 := nr rfl
theorem sameS_f  : (sameS).fresh = true := nr rfl
theorem sameS_q  (a : TEvent) (b : TEvent) : (sameS).pre [.dv (.ag [.str a.id, .str a.name, .int .i64 a.at_, .int .i64 a.who.kind, .str a.who.text, .sl (TField.rows a.fields)]), .dv (.ag [.str b.id, .str b.name, .int .i64 b.at_, .int .i64 b.who.kind, .str b.who.text, .sl (TField.rows b.fields)])] = (a.ok ∧ b.ok) := propext ⟨fun h => by
  have h' : ∃ (a' : TEvent) (b' : TEvent), ([.dv (.ag a.row), .dv (.ag b.row)] : List AV) = [.dv (.ag a'.row), .dv (.ag b'.row)] ∧ (a'.ok ∧ b'.ok) := h
  obtain ⟨a', b', e, h⟩ := h'
  simp only [List.cons.injEq, AV.dv.injEq, AV.dp.injEq, AV.fv.injEq, DV.d.injEq, DV.ag.injEq, D.int.injEq, D.str.injEq, D.bool.injEq, D.sl.injEq, true_and, and_true, intsDi_inj, rowsT_inj, rowsKi_inj, TEvent.row_inj, TEvent.rows_inj, TEvent.row_inj, TEvent.rows_inj] at e
  obtain ⟨rfl, rfl⟩ := e
  exact h, fun h => ⟨a, b, rfl, h⟩⟩
theorem sameS_p  (a : TEvent) (b : TEvent) : (sameS).post [.dv (.ag [.str a.id, .str a.name, .int .i64 a.at_, .int .i64 a.who.kind, .str a.who.text, .sl (TField.rows a.fields)]), .dv (.ag [.str b.id, .str b.name, .int .i64 b.at_, .int .i64 b.who.kind, .str b.who.text, .sl (TField.rows b.fields)])] = fun y => y = .b (sameB a b) := funext fun y => propext ⟨fun h => by
  have h' : ∃ (a' : TEvent) (b' : TEvent), ([.dv (.ag a.row), .dv (.ag b.row)] : List AV) = [.dv (.ag a'.row), .dv (.ag b'.row)] ∧ y = .b (sameB a' b') := h
  obtain ⟨a', b', e, h⟩ := h'
  simp only [List.cons.injEq, AV.dv.injEq, AV.dp.injEq, AV.fv.injEq, DV.d.injEq, DV.ag.injEq, D.int.injEq, D.str.injEq, D.bool.injEq, D.sl.injEq, true_and, and_true, intsDi_inj, rowsT_inj, rowsKi_inj, TEvent.row_inj, TEvent.rows_inj, TEvent.row_inj, TEvent.rows_inj] at e
  obtain ⟨rfl, rfl⟩ := e
  exact h, fun h => ⟨a, b, rfl, h⟩⟩
set_option maxHeartbeats 4000000 in
theorem SameEvent_ctr {cx : Cx} (h : Seat cx) : Ctr cx 24 sameS := by
  refine ctr_of (fn := Tryz.f24) (l := [.tmp 4]) (envL [(66, eqFS)]) [0, 1, 2, 3, 4] [] [] (envL_cons (eqF_ctr h) (env0 h.hP)) ?_ (by rw [h.hP]; exact Tryz.func24) rfl (by kernel_rfl) rfl ?_ ?_
  · rw [h.hP]; exact ⟨_, Tryz.func24, by kernel_rfl, by kernel_rfl⟩
  · rintro xs ⟨a, b, rfl, h1⟩; exact ⟨_, a, b, rfl, rfl⟩
  · rintro xs ⟨a, b, rfl, h1, h2⟩
    refine ⟨by rw [Tryz.ntmps24]; simp, ?_⟩
    simp only [go_sem, h.hP, List.cons_append, List.nil_append, Meets_e, Below_e, Prod.exists, exists_eq, exists_eq_left, exists_eq_left', exists_eq_right, exists_eq_right', exists_and_left, exists_and_right, Ob.arr.injEq, AV.own.injEq, AV.fv.injEq, sameS_q, sameS_p, sameS_c, sameS_f, eqFS_q, eqFS_p, eqFS_c, eqFS_f, TEvent.row, TId.row, Tryz.ntmps24, Nat.reduceEqDiff, reduceCtorEq, Nat.reduceMul, Nat.reduceAdd, Nat.reduceSub, Nat.reduceDiv, Nat.reduceMod, Nat.reduceLeDiff, Nat.reduceLT, Nat.reduceBNe, Nat.reduceBEq, reduceIte, Int.reduceLE, Int.reduceLT, Int.reduceToNat, Int.reduceNeg, Int.reduceAdd, Int.reduceSub, Int.reduceMul, Int.reduceEq]
    have no : ¬ a = b → false = sameB a b := fun z => (sameB_f z).symm
    refine ⟨fun i1 => ⟨fun i2 => ⟨fun i3 => ⟨fun i4 => ⟨h1.2.2.2.2.1, ?_⟩, fun i4 => no fun e => ?_⟩, fun i3 => no fun e => i3 (by rw [e])⟩, fun i2 => no fun e => i2 (by rw [e])⟩, fun i1 => no fun e => i1 (by rw [e])⟩
    · by_cases f : a.fields = b.fields
      · rw [eqFB_t f, sameB_t]
        apply TEvent.inj
        unfold TEvent.row
        rw [i1, i2, i3, i4.1, i4.2, f]
      · rw [eqFB_f f, sameB_f fun e => f (by rw [e])]
    · rw [e] at i4
      simp at i4

/-! ### Events with a name in a window -/
def nmB (n : ByteArray) (w : TWindow) (e : TEvent) : Bool := decide (e.name = n) && inB e.at_ w.from_ (w.to_ - 1)
def namedL (l : List TEvent) (n : ByteArray) (w : TWindow) : List TEvent := l.filter (nmB n w)
def namedOfS  : Spec where
  pre xs := ∃ (l : List TEvent) (n : ByteArray) (w : TWindow), xs = [.sl (TEvent.rows l), .str n, .dv (.ag w.row)] ∧ (okL TEvent.ok l ∧ w.ok)
  post xs y := ∃ (l : List TEvent) (n : ByteArray) (w : TWindow), xs = [.sl (TEvent.rows l), .str n, .dv (.ag w.row)] ∧ y = .sl (TEvent.rows (namedL l n w))
  cost _ := 0
  fresh := false
theorem namedOfS_c  (xs : List AV) : (namedOfS).cost xs = 0 := nr rfl
theorem namedOfS_f  : (namedOfS).fresh = false := nr rfl
theorem namedOfS_q  (l : List TEvent) (n : ByteArray) (w : TWindow) : (namedOfS).pre [.sl (TEvent.rows l), .str n, .dv (.ag [.int .i64 w.from_, .int .i64 w.to_])] = (okL TEvent.ok l ∧ w.ok) := propext ⟨fun h => by
  have h' : ∃ (l' : List TEvent) (n' : ByteArray) (w' : TWindow), ([.sl (TEvent.rows l), .str n, .dv (.ag w.row)] : List AV) = [.sl (TEvent.rows l'), .str n', .dv (.ag w'.row)] ∧ (okL TEvent.ok l' ∧ w'.ok) := h
  obtain ⟨l', n', w', e, h⟩ := h'
  simp only [List.cons.injEq, AV.dv.injEq, AV.dp.injEq, AV.fv.injEq, DV.d.injEq, DV.ag.injEq, D.int.injEq, D.str.injEq, D.bool.injEq, D.sl.injEq, true_and, and_true, intsDi_inj, rowsT_inj, rowsKi_inj, TEvent.row_inj, TEvent.rows_inj, TWindow.row_inj, TWindow.rows_inj] at e
  obtain ⟨rfl, rfl, rfl⟩ := e
  exact h, fun h => ⟨l, n, w, rfl, h⟩⟩
theorem namedOfS_p  (l : List TEvent) (n : ByteArray) (w : TWindow) : (namedOfS).post [.sl (TEvent.rows l), .str n, .dv (.ag [.int .i64 w.from_, .int .i64 w.to_])] = fun y => y = .sl (TEvent.rows (namedL l n w)) := funext fun y => propext ⟨fun h => by
  have h' : ∃ (l' : List TEvent) (n' : ByteArray) (w' : TWindow), ([.sl (TEvent.rows l), .str n, .dv (.ag w.row)] : List AV) = [.sl (TEvent.rows l'), .str n', .dv (.ag w'.row)] ∧ y = .sl (TEvent.rows (namedL l' n' w')) := h
  obtain ⟨l', n', w', e, h⟩ := h'
  simp only [List.cons.injEq, AV.dv.injEq, AV.dp.injEq, AV.fv.injEq, DV.d.injEq, DV.ag.injEq, D.int.injEq, D.str.injEq, D.bool.injEq, D.sl.injEq, true_and, and_true, intsDi_inj, rowsT_inj, rowsKi_inj, TEvent.row_inj, TEvent.rows_inj, TWindow.row_inj, TWindow.rows_inj] at e
  obtain ⟨rfl, rfl, rfl⟩ := e
  exact h, fun h => ⟨l, n, w, rfl, h⟩⟩
theorem filter_step {l : List TEvent} (p : TEvent → Bool) {i : Int} (h0 : 0 ≤ i) (hi : i < l.length) : (l.take (i + 1).toNat).filter p = (l.take i.toNat).filter p ++ if p (l.getD i.toNat TEvent.z) = true then [l.getD i.toNat TEvent.z] else [] := by
  have hi' : i.toNat < l.length := by omega
  rw [show (i + 1).toNat = i.toNat + 1 by omega, List.take_add_one, List.getElem?_eq_getElem hi', List.getD_eq_getElem?_getD, List.getElem?_eq_getElem hi', List.filter_append]
  show _ ++ List.filter p [l[i.toNat]] = _ ++ if p l[i.toNat] = true then [l[i.toNat]] else []
  cases h : p l[i.toNat]
  · rw [List.filter_cons_of_neg (by rw [h]; decide)]; rfl
  · rw [List.filter_cons_of_pos h]; rfl
set_option maxHeartbeats 8000000 in
theorem NamedOf_ctr {cx : Cx} (h : Seat cx) : Ctr cx 23 namedOfS := by
  refine ctr_of (fn := Tryz.f23) (l := [.tmp 6]) (envL [(57, inS)]) [0, 1, 2, 5, 6, 7, 9, 10, 11, 12, 13, 29] [] [] (envL_cons (in_ctr h) (env0 h.hP)) ?_ (by rw [h.hP]; exact Tryz.func23) rfl (by kernel_rfl) rfl ?_ ?_
  · rw [h.hP]; exact ⟨_, Tryz.func23, by kernel_rfl, by kernel_rfl⟩
  · rintro xs ⟨l, n, w, rfl, h1⟩; exact ⟨_, l, n, w, rfl, rfl⟩
  · rintro xs ⟨l, n, w, rfl, h1, h2⟩
    have hl := h1.1
    have hw1 : IntKind.i64.wrap (w.to_ - 1) = w.to_ - 1 := by
      have := h2.2
      unfold okI at this
      exact i64w (by omega) (by omega)
    refine ⟨by rw [Tryz.ntmps23]; simp, ?_⟩
    simp only [go_sem, h.hP, List.cons_append, List.nil_append, Meets_e, Below_e, Prod.exists, exists_eq, exists_eq_left, exists_eq_left', exists_eq_right, exists_eq_right', exists_and_left, exists_and_right, Ob.arr.injEq, AV.own.injEq, AV.fv.injEq, namedOfS_q, namedOfS_p, namedOfS_c, namedOfS_f, TEvent.len, TWindow.row, Tryz.ntmps23, Nat.reduceEqDiff, reduceCtorEq, Nat.reduceMul, Nat.reduceAdd, Nat.reduceSub, Nat.reduceDiv, Nat.reduceMod, Nat.reduceLeDiff, Nat.reduceLT, Nat.reduceBNe, Nat.reduceBEq, reduceIte, Int.reduceLE, Int.reduceLT, Int.reduceToNat, Int.reduceNeg, Int.reduceAdd, Int.reduceSub, Int.reduceMul, Int.reduceEq]
    refine vc_loopS (Int × List TEvent) (fun (x : Int × List TEvent) => match x with | (i, out) => [(12, .i i), (7, .own 7)]) [5] (fun (x : Int × List TEvent) => match x with | (i, out) => []) (fun (x : Int × List TEvent) => match x with | (i, out) => [(7, .arr 52 6 (TEvent.rows out))]) (fun (x : Int × List TEvent) => match x with | (i, out) => 0) (fun (x : Int × List TEvent) => match x with | (i, out) => 0 ≤ i ∧ i ≤ l.length ∧ out = (l.take i.toNat).filter (nmB n w)) (fun (x : Int × List TEvent) => match x with | (i, out) => (l.length - i).toNat) [(7, 52, 6)] ?_ ?_
    · simp only [go_sem, h.hP, List.cons_append, List.nil_append, Meets_e, Below_e, Prod.exists, exists_eq, exists_eq_left, exists_eq_left', exists_eq_right, exists_eq_right', exists_and_left, exists_and_right, Ob.arr.injEq, AV.own.injEq, AV.fv.injEq, TEvent.nil2, Tryz.ntmps23, Nat.reduceEqDiff, reduceCtorEq, Nat.reduceMul, Nat.reduceAdd, Nat.reduceSub, Nat.reduceDiv, Nat.reduceMod, Nat.reduceLeDiff, Nat.reduceLT, Nat.reduceBNe, Nat.reduceBEq, reduceIte, Int.reduceLE, Int.reduceLT, Int.reduceToNat, Int.reduceNeg, Int.reduceAdd, Int.reduceSub, Int.reduceMul, Int.reduceEq]
      exact ⟨by omega, rfl⟩
    · rintro ⟨i, out⟩ ⟨i0, i1, ho⟩
      have hlo : (out.length : Int) ≤ i := by
        have := List.length_filter_le (nmB n w) (l.take i.toNat)
        rw [← ho, List.length_take] at this
        omega
      simp only [go_sem, h.hP, List.cons_append, List.nil_append, Meets_e, Below_e, Prod.exists, exists_eq, exists_eq_left, exists_eq_left', exists_eq_right, exists_eq_right', exists_and_left, exists_and_right, Ob.arr.injEq, AV.own.injEq, AV.fv.injEq, namedOfS_q, namedOfS_p, namedOfS_c, namedOfS_f, inS_q, inS_p, inS_c, inS_f, TEvent.row, TEvent.fold1, TEvent.app', TEvent.rows_inj, TEvent.zlT, TEvent.len, TEvent.get, TWindow.row, List.length_append, List.length_singleton, hw1, Tryz.ntmps23, Nat.reduceEqDiff, reduceCtorEq, Nat.reduceMul, Nat.reduceAdd, Nat.reduceSub, Nat.reduceDiv, Nat.reduceMod, Nat.reduceLeDiff, Nat.reduceLT, Nat.reduceBNe, Nat.reduceBEq, reduceIte, Int.reduceLE, Int.reduceLT, Int.reduceToNat, Int.reduceNeg, Int.reduceAdd, Int.reduceSub, Int.reduceMul, Int.reduceEq]
      have hst := fun z => filter_step (l := l) (nmB n w) i0 z
      refine ⟨fun z => ⟨i0, z, fun y => ⟨fun x => ?_, fun x => ?_⟩, fun y => ?_⟩, fun z => ?_⟩
      · rw [i64w (n := i + 1) (by omega) (by omega), hst z, ← ho, if_pos (by unfold nmB; rw [decide_eq_true y, x]; rfl)]
        exact ⟨by omega, by omega, by omega, by omega, rfl, by omega⟩
      · rw [i64w (n := i + 1) (by omega) (by omega), hst z, ← ho, if_neg (by unfold nmB; rw [decide_eq_true y, x]; decide), List.append_nil]
        exact ⟨by omega, by omega, rfl, by omega⟩
      · rw [i64w (n := i + 1) (by omega) (by omega), hst z, ← ho, if_neg (by unfold nmB; rw [decide_eq_false y, Bool.false_and]; decide), List.append_nil]
        exact ⟨by omega, by omega, rfl, by omega⟩
      · have : i.toNat = l.length := by omega
        rw [ho, this, List.take_of_length_le (Nat.le_refl _)]
        rfl

/-! ### Copies -/
def cloneFS : Spec where
  pre xs := ∃ l : List TField, xs = [.sl (TField.rows l)] ∧ l.length ≤ 1048576
  post xs y := ∃ l : List TField, xs = [.sl (TField.rows l)] ∧ y = .sl (TField.rows l)
  cost _ := 0
  fresh := true
set_option maxHeartbeats 2000000 in
theorem cloneF_empty (a : Addr) (c : Nat) (w : World) : Calls Tryz.prog 112 #[.slice (some a) 0 c] w fun e w' => ∃ v', e = .returned v' ∧ w'.ownsRow w.heap.size 118 4 v' 0 [] ∧ RowKit.Below w.heap.size w w' := by
  have q22 : ∀ (w : World) (a : Option Addr) (n c n' c' : Nat), (binOp .eql 50 (.slice a n c) (.slice none n' c')).run Tryz.prog w = .ok (.bool a.isNone) w := fun w a n c n' c' => Lib.run_eql_slice_nil w _ _ a n c n' c' Tryz.underlying50
  go_enter Tryz.func112, Tryz.ntmps112
  go_wp2
  go_ret
  exact ⟨_, rfl, ⟨rfl, .inr ⟨w.heap.size, 0, #[], rfl, Nat.le_refl _, heap_alloc_new w _, Nat.le_refl _, by decide, rfl, rfl⟩⟩, (RowKit.Below.refl _ w).alloc (Nat.le_refl _) _⟩
theorem cloneF_rest (l : List TField) (b o c : Nat) (w : World) (hl : l.length ≤ 1048576) (hc : ∀ j u, ((TField.rows l).flatten.map vD)[j]? = some u → w.cell? ⟨b, o + j, none⟩ = some u) :
    Calls Tryz.prog 112 #[.slice (some ⟨b, o, none⟩) l.length c] w fun e w' => ∃ v', e = .returned v' ∧ w'.ownsRow w.heap.size 118 4 v' l.length ((TField.rows l).flatten.map vD) ∧ RowKit.Below w.heap.size w w' := by
  obtain ⟨i0, hi, hz0, hz1, hz2⟩ := info_parts (P := Tryz.prog) (e := 118) (z := .agg #[.string ⟨#[]⟩, .int .i64 0, .string ⟨#[]⟩, .int .i64 0]) (size := 4) (bytes := 48) (by kernel_rfl)
  have hcc : Tryz.prog.cellsOf 118 = 4 := by kernel_rfl
  have hs := fun w => size_run (P := Tryz.prog) (t := 118) (by rw [hcc]; decide) w
  rw [hcc] at hs
  have hlen : ((TField.rows l).flatten.map vD).length = l.length * 4 := flat_len (row := TField.row) (k := 4) (by decide) (fun _ => rfl) l
  refine (AnyE.slices_Clone Tryz.laysCloneField i0 _ 4 48 hi hz0 hz1 hz2 rfl (by decide) hs b o l.length c _ w hlen (by unfold maxLen; omega) (by omega) hc (fun u hu => ?_)).mono ?_
  · obtain ⟨y, hy, rfl⟩ := List.mem_map.1 hu
    exact oneV (List.all_eq_true.1 (flat_rows (row := TField.row) (fun _ => rfl) l) _ (List.mem_map.2 ⟨y, hy, rfl⟩))
  · rintro e w' ⟨v', h1, h2, _, h3⟩
    exact ⟨v', h1, h2, h3⟩
theorem CloneF_own {cx : Cx} (h : Seat cx) : CtrO cx 112 cloneFS 118 4 := by
  refine ⟨by rw [h.hP]; exact ⟨_, Tryz.func112, by kernel_rfl, by kernel_rfl⟩, fun _ => ?_, fun hz => by omega⟩
  rintro F xs vals hcx hF hst hgl hco hlen hargs ⟨l, rfl, hl⟩
  obtain ⟨u, rfl⟩ : ∃ u, vals = [u] := List.length_eq_one_iff.1 (by simpa using hlen.symm)
  have hu : Rd F.ok F.w0 (.sl (TField.rows l)) u := hargs 0 _ u rfl rfl
  have fin : ∀ (e : Ending) (w' : World), (∃ v', e = .returned v' ∧ World.ownsRow w' F.w0.heap.size 118 4 v' l.length ((TField.rows l).flatten.map vD) ∧ RowKit.Below F.w0.heap.size F.w0 w') →
      ∃ (v : Value) (r : AV), e = .returned v ∧ Gr cx.g F.w0 w' ∧ StAt cx (F.N + cloneFS.cost [.sl (TField.rows l)]) w' ∧ cloneFS.post [.sl (TField.rows l)] r ∧ Hands (resOk F cloneFS.fresh) w' F.w0.heap.size 118 4 v r := by
    rintro e w' ⟨v', rfl, hown, hb⟩
    have hg : Gr cx.g F.w0 w' := ⟨hb.os, hb.tape, hb.output, hb.size, fun k hk _ => hb.block k hk⟩
    refine ⟨v', .sl (TField.rows l), rfl, hg, hst.keep hb.size (fun k hk => hb.block k hk), ⟨l, rfl, rfl⟩, .inl ⟨TField.rows l, (TField.rows l).flatten.map vD, by decide, rfl, by rw [TField.len]; exact hown, len_rows (row := TField.row) (fun _ => rfl) l, rdL_flat_mk (flat_rows (row := TField.row) (fun _ => rfl) l)⟩⟩
  rw [h.hP]
  generalize hL : TField.rows l = L at hu
  cases hu with
  | nil A c =>
    obtain rfl : l = [] := by
      have := congrArg List.length hL
      rw [TField.len] at this
      exact List.eq_nil_of_length_eq_zero this
    cases A with
    | none => exact (AnyE.slices_Clone_nil Tryz.laysCloneField 0 c F.w0).mono fun e w' ⟨e1, e2⟩ => fin e w' ⟨_, e1, World.ownsRow_nil .., e2 ▸ RowKit.Below.refl _ _⟩
    | some a => exact (cloneF_empty a c F.w0).mono fun e w' hq => fin e w' hq
  | sl _ z b o c uu hc hb hlt hz hcell hr =>
    rw [← hL, TField.len]
    refine (cloneF_rest l b o c F.w0 hl fun j v hj => ?_).mono fun e w' hq => fin e w' hq
    subst hL
    have hj2 : j < l.length * 4 := by
      have := (List.getElem?_eq_some_iff.1 hj).1
      exact Nat.lt_of_lt_of_eq this (flat_len (row := TField.row) (k := 4) (by decide) (fun _ => rfl) l)
    obtain ⟨x, h1, h2, h3⟩ := (flat_index (z := 4) (by decide) (len_rows (row := TField.row) (fun _ => rfl) l)).2 j (by rw [List.length_map]; exact hj2)
    have hx2 : x.length = 4 := len_rows (row := TField.row) (fun _ => rfl) l _ x h1
    have hzz : z = 4 := by rw [← hx2]; exact (hz _ x h1).symm
    obtain ⟨y, hy⟩ : ∃ y, x[j % 4]? = some y := ⟨_, List.getElem?_eq_getElem h3⟩
    have h4 := hcell _ x h1 _ y hy
    have h5 := hr _ x h1 _ y hy
    rw [List.getElem?_map] at hj
    have h6 : (TField.rows l).flatten[j]? = some y := h2.trans hy
    rw [h6] at hj
    cases hj
    have hyk : y.ek.ok = true := List.all_eq_true.1 (flat_rows (row := TField.row) (fun _ => rfl) l) _ (List.mem_map.2 ⟨y, List.mem_of_getElem? h6, rfl⟩)
    rw [rd_vD h5 hyk] at h4
    rw [hzz] at h4
    rw [show o + j = o + j / 4 * 4 + j % 4 by omega]
    exact h4
theorem CloneF_ctr {cx : Cx} (h : Seat cx) : Ctr cx 112 cloneFS :=
  ctr_ofO (by decide) (fun xs ⟨l, hl, _⟩ => ⟨_, l, hl, rfl⟩) (CloneF_own h)
theorem cloneFS_c (xs : List AV) : cloneFS.cost xs = 0 := nr rfl
theorem cloneFS_f : cloneFS.fresh = true := nr rfl
theorem cloneFS_q (l : List TField) : cloneFS.pre [.sl (TField.rows l)] = (l.length ≤ 1048576) := propext ⟨fun ⟨l', e, h⟩ => by
  simp only [List.cons.injEq, AV.dv.injEq, DV.d.injEq, D.sl.injEq, TField.rows_inj, and_true] at e
  subst e
  exact h, fun h => ⟨l, rfl, h⟩⟩
theorem cloneFS_p (l : List TField) : cloneFS.post [.sl (TField.rows l)] = fun y => y = .sl (TField.rows l) := funext fun y => propext ⟨fun ⟨l', e, h⟩ => by
  simp only [List.cons.injEq, AV.dv.injEq, DV.d.injEq, D.sl.injEq, TField.rows_inj, and_true] at e
  subst e
  exact h, fun h => ⟨l, rfl, h⟩⟩
def copyS  : Spec where
  pre xs := ∃ (e : TEvent), xs = [.dv (.ag e.row)] ∧ (e.ok)
  post xs y := ∃ (e : TEvent), xs = [.dv (.ag e.row)] ∧ y = .dv (.ag e.row)
  cost _ := 0
  fresh := false
theorem copyS_c  (xs : List AV) : (copyS).cost xs = 0 := nr rfl
theorem copyS_f  : (copyS).fresh = false := nr rfl
theorem copyS_q  (e : TEvent) : (copyS).pre [.dv (.ag [.str e.id, .str e.name, .int .i64 e.at_, .int .i64 e.who.kind, .str e.who.text, .sl (TField.rows e.fields)])] = (e.ok) := propext ⟨fun h => by
  have h' : ∃ (e' : TEvent), ([.dv (.ag e.row)] : List AV) = [.dv (.ag e'.row)] ∧ (e'.ok) := h
  obtain ⟨e', e, h⟩ := h'
  simp only [List.cons.injEq, AV.dv.injEq, AV.dp.injEq, AV.fv.injEq, DV.d.injEq, DV.ag.injEq, D.int.injEq, D.str.injEq, D.bool.injEq, D.sl.injEq, true_and, and_true, intsDi_inj, rowsT_inj, rowsKi_inj, TEvent.row_inj, TEvent.rows_inj] at e
  obtain rfl := e
  exact h, fun h => ⟨e, rfl, h⟩⟩
theorem copyS_p  (e : TEvent) : (copyS).post [.dv (.ag [.str e.id, .str e.name, .int .i64 e.at_, .int .i64 e.who.kind, .str e.who.text, .sl (TField.rows e.fields)])] = fun y => y = .dv (.ag e.row) := funext fun y => propext ⟨fun h => by
  have h' : ∃ (e' : TEvent), ([.dv (.ag e.row)] : List AV) = [.dv (.ag e'.row)] ∧ y = .dv (.ag e'.row) := h
  obtain ⟨e', e, h⟩ := h'
  simp only [List.cons.injEq, AV.dv.injEq, AV.dp.injEq, AV.fv.injEq, DV.d.injEq, DV.ag.injEq, D.int.injEq, D.str.injEq, D.bool.injEq, D.sl.injEq, true_and, and_true, intsDi_inj, rowsT_inj, rowsKi_inj, TEvent.row_inj, TEvent.rows_inj] at e
  obtain rfl := e
  exact h, fun h => ⟨e, rfl, h⟩⟩
set_option maxHeartbeats 4000000 in
theorem Copy_ctr {cx : Cx} (h : Seat cx) : Ctr cx 64 copyS := by
  refine ctr_of (fn := Tryz.f64) (l := [.cell 2 52]) (envL [(112, cloneFS)]) [0, 1, 2] [] [] (envL_cons (CloneF_ctr h) (env0 h.hP)) ?_ (by rw [h.hP]; exact Tryz.func64) rfl (by kernel_rfl) rfl ?_ ?_
  · rw [h.hP]; exact ⟨_, Tryz.func64, by kernel_rfl, by kernel_rfl⟩
  · rintro xs ⟨e, rfl, h1⟩; exact ⟨_, e, rfl, rfl⟩
  · rintro xs ⟨e, rfl, h1⟩
    refine ⟨by rw [Tryz.ntmps64]; simp, ?_⟩
    simp only [go_sem, h.hP, List.cons_append, List.nil_append, Meets_e, Below_e, Prod.exists, exists_eq, exists_eq_left, exists_eq_left', exists_eq_right, exists_eq_right', exists_and_left, exists_and_right, Ob.arr.injEq, AV.own.injEq, AV.fv.injEq, copyS_q, copyS_p, copyS_c, copyS_f, cloneFS_q, cloneFS_p, cloneFS_c, cloneFS_f, TEvent.row, TId.row, Tryz.ntmps64, Nat.reduceEqDiff, reduceCtorEq, Nat.reduceMul, Nat.reduceAdd, Nat.reduceSub, Nat.reduceDiv, Nat.reduceMod, Nat.reduceLeDiff, Nat.reduceLT, Nat.reduceBNe, Nat.reduceBEq, reduceIte, Int.reduceLE, Int.reduceLT, Int.reduceToNat, Int.reduceNeg, Int.reduceAdd, Int.reduceSub, Int.reduceMul, Int.reduceEq]
    exact h1.2.2.2.2.1
end Go.Avc

/- slices.Backward over events, and the last event with a name: their walks. No condition. -/
set_option linter.unusedVariables false
set_option linter.unusedSimpArgs false
namespace Go.Proofs
open Go.RowKit Go.Shelf Go.Avc
attribute [local go_sem] Oper.semAt_some

/-- The k-th that comes: index, event. -/
def Bke.nth (zs : List EvV) (k : Nat) : Nat × EvV := (zs.length - 1 - k, zs[zs.length - 1 - k]?.getD EvV.z)
def Bke.agg (x : EvV) : Value := .agg #[.string x.id, .string x.name, .int .i64 x.at_, .int .i64 x.kind, .string x.text, .slice x.A x.n x.c]
def Bke.enc (x : Nat × EvV) : Array Value := #[.int .i64 (x.1 : Int), .agg #[.string x.2.id, .string x.2.name, .int .i64 x.2.at_, .int .i64 x.2.kind, .string x.2.text, .slice x.2.A x.2.n x.2.c]]
/-- An event's six cells. -/
def Bke.At (W : World) (b o : Nat) (x : EvV) : Prop := W.cell? ⟨b, o, none⟩ = some (.string x.id) ∧ W.cell? ⟨b, o + 1, none⟩ = some (.string x.name) ∧ W.cell? ⟨b, o + 2, none⟩ = some (.int .i64 x.at_) ∧ W.cell? ⟨b, o + 3, none⟩ = some (.int .i64 x.kind) ∧ W.cell? ⟨b, o + 4, none⟩ = some (.string x.text) ∧ W.cell? ⟨b, o + 5, none⟩ = some (.slice x.A x.n x.c)
theorem Bke.At.below {n₀ : Nat} {A B : World} {b o : Nat} {x : EvV} (h : Below n₀ A B) (hb : b < n₀) (k : Bke.At A b o x) : Bke.At B b o x :=
  ⟨(h.cell (p := ⟨b, o, none⟩) hb).trans k.1, (h.cell (p := ⟨b, o + 1, none⟩) hb).trans k.2.1, (h.cell (p := ⟨b, o + 2, none⟩) hb).trans k.2.2.1, (h.cell (p := ⟨b, o + 3, none⟩) hb).trans k.2.2.2.1, (h.cell (p := ⟨b, o + 4, none⟩) hb).trans k.2.2.2.2.1, (h.cell (p := ⟨b, o + 5, none⟩) hb).trans k.2.2.2.2.2⟩
/-- What comes, and that it is one of those. -/
def Bke.El (zs : List EvV) : Type := {x : Nat × EvV // zs = [] ∨ ∃ k, k < zs.length ∧ x = Bke.nth zs k}
def Bke.nthE (zs : List EvV) (k : Nat) : Bke.El zs := ⟨Bke.nth zs k, by
  by_cases h : zs.length = 0
  · exact .inl (List.eq_nil_of_length_eq_zero h)
  · by_cases h2 : k < zs.length
    · exact .inr ⟨k, h2, rfl⟩
    · refine .inr ⟨zs.length - 1, by omega, ?_⟩
      unfold Bke.nth
      rw [show zs.length - 1 - k = 0 by omega, show zs.length - 1 - (zs.length - 1) = 0 by omega]⟩
set_option maxRecDepth 100000 in
set_option maxHeartbeats 4000000 in
theorem Bke.back1_in (F : Fence) (n : Nat) (h7 : F.fn 111) (hro : F.round = none) (hn : 1 ≤ n) (l Bs n₀ b off cap : Nat) (zs : List EvV) (hreach : zs.length ≤ 1048576) (hb : b < n₀) (J Jx : List (Bke.El zs) → World → Prop)
    (hY : ∀ pre x W, J pre W → pre.length < zs.length → YieldAt F (n - 1) Tryz.prog l (Bke.enc x.1) W fun e W' =>
      (e = .returned (.bool true) ∧ J (pre ++ [x]) W' ∧ Below n₀ W W') ∨ (e = .returned (.bool false) ∧ Jx (pre ++ [x]) W'))
    (W : World) (hBs : W.cell? ⟨Bs, 0, none⟩ = some (.slice (some ⟨b, off, none⟩) zs.length cap)) (hBsn : Bs < n₀) (hc : ∀ j, j < zs.length → Bke.At W b (off + j * 6) (zs[j]?.getD EvV.z)) (h0 : J [] W) :
    CallsIn F n Tryz.prog 111 #[.func (.yield l) #[] #[], .pointer (some ⟨Bs, 0, none⟩)] W fun e W' => (∃ v, e = .returned v) ∧
      ((∃ ys, ys = Clk.upto (Bke.nthE zs) zs.length ∧ J ys W') ∨ (∃ pre, (∃ k, k ≤ zs.length ∧ pre = Clk.upto (Bke.nthE zs) k) ∧ Jx pre W')) := by
  refine callsIn_of_wp Tryz.func111 rfl h7 ?_ hro
  simp only [Tryz.ntmps111, List.size_toArray, List.length_cons, List.length_nil, Nat.reduceAdd, Nat.reduceSub, Array.replicate_succ, Array.replicate_zero, List.push_toArray, List.append_toArray, List.nil_append, List.cons_append]
  gi_wp2
  gi_loopw [3] (fun i wr => ∃ k : Nat, k ≤ zs.length ∧ i = .int .i64 ((zs.length : Int) - 1 - k) ∧ J (Clk.upto (Bke.nthE zs) k) wr ∧ Below n₀ W wr)
    (fun i _ => (intOf i + 1).toNat)
  case atStart => exact ⟨0, Nat.zero_le _, by simp, h0, Below.refl _ _⟩
  case round =>
    obtain ⟨k, hk, rfl, hJs, hnx⟩ := hrel
    by_cases hlt : k < zs.length
    · obtain ⟨c0, c1, c2, c3, c4, c5⟩ := Bke.At.below hnx hb (hc (zs.length - 1 - k) (by omega))
      have hBs' := (hnx.cell (p := ⟨Bs, 0, none⟩) hBsn).trans hBs
      obtain ⟨fn, tmps, assign, body, hy, hR⟩ := hY _ (Bke.nthE zs k) wr hJs (by rw [Clk.upto_length]; exact hlt)
      have ei : ((zs.length : Int) - 1 - k) = ((zs.length - 1 - k : Nat) : Int) := by omega
      simp only [Bke.enc, Bke.nthE, Bke.nth] at hy hR
      rw [ei]
      gi_wp2
      refine hR.mono ?_
      rintro e W3 (⟨rfl, hJ3, hk3⟩ | ⟨rfl, hJx3⟩)
      · gi_wp2
        go_roundw
        case rel => exact ⟨k + 1, by omega, by simp; omega, by rw [Clk.upto_succ]; exact hJ3, hnx.trans hk3⟩
        case measure => simp [intOf] <;> omega
      · gi_wp2
        refine bodyPost_ret (results_none rfl _ _ _) rfl ?_
        exact ⟨⟨_, rfl⟩, .inr ⟨_, ⟨k + 1, by omega, (Clk.upto_succ _ _).symm⟩, hJx3⟩⟩
    · obtain rfl : k = zs.length := by omega
      have e1 : ((zs.length : Int) - 1 - zs.length) = -1 := by omega
      rw [e1]
      gi_wp2
      go_end0
      exact ⟨⟨_, rfl⟩, .inl ⟨_, rfl, hJs⟩⟩
set_option maxRecDepth 100000 in
set_option maxHeartbeats 1000000 in
theorem Bke.back1_nil_in (F : Fence) (n : Nat) (h7 : F.fn 111) (hro : F.round = none) (l Bs : Nat) (A : Option Addr) (cap : Nat) {α : Type} (J : List α → World → Prop) (W : World) (hBs : W.cell? ⟨Bs, 0, none⟩ = some (.slice A 0 cap)) (h0 : J [] W) :
    CallsIn F n Tryz.prog 111 #[.func (.yield l) #[] #[], .pointer (some ⟨Bs, 0, none⟩)] W fun e W' => (∃ v, e = .returned v) ∧ J [] W' := by
  refine callsIn_of_wp Tryz.func111 rfl h7 ?_ hro
  simp only [Tryz.ntmps111, List.size_toArray, List.length_cons, List.length_nil, Nat.reduceAdd, Nat.reduceSub, Array.replicate_succ, Array.replicate_zero, List.push_toArray, List.append_toArray, List.nil_append, List.cons_append]
  gi_wp2
  gi_loopw [3] (fun i wr => i = .int .i64 (-1) ∧ J [] wr) (fun _ _ => 0)
  case atStart => exact ⟨rfl, h0⟩
  case round =>
    obtain ⟨rfl, hJs⟩ := hrel
    gi_wp2
    go_end0
    exact ⟨⟨_, rfl⟩, hJs⟩
set_option maxHeartbeats 1000000 in
theorem Bke.back_in (F : Fence) (n : Nat) (h5 : F.fn 63) (hro : F.round = none) (a : Option Addr) (len cap : Nat) (w : World) :
    CallsIn F n Tryz.prog 63 #[.slice a len cap] w fun e w' => e = .returned (.func (.func 111) #[] #[.pointer (some ⟨w.heap.size, 0, none⟩)]) ∧ w' = w.alloc (.cells #[.slice a len cap] 26) := by
  refine callsIn_of_wp Tryz.func63 rfl h5 ?_ hro
  simp only [Tryz.ntmps63, List.size_toArray, List.length_cons, List.length_nil, Nat.reduceAdd, Nat.reduceSub, Array.replicate_succ, Array.replicate_zero, List.push_toArray, List.append_toArray, List.nil_append, List.cons_append]
  gi_wp2
  go_ret
  exact ⟨rfl, rfl⟩
/-- The slice value sv holds the events zs, in a block below n₀; or there are none. -/
def Bke.Evs (n₀ : Nat) (W : World) (sv : Value) (zs : List EvV) : Prop :=
  (∃ A cap, sv = .slice A 0 cap ∧ zs = []) ∨ ∃ b off cap, sv = .slice (some ⟨b, off, none⟩) zs.length cap ∧ b < n₀ ∧ ∀ j, j < zs.length → Bke.At W b (off + j * 6) (zs[j]?.getD EvV.z)
theorem Bke.Evs.below {n₀ : Nat} {A B : World} (h : Below n₀ A B) {sv : Value} {zs : List EvV} : Bke.Evs n₀ A sv zs → Bke.Evs n₀ B sv zs
  | .inl e => .inl e
  | .inr ⟨b, off, cap, e, hb, hc⟩ => .inr ⟨b, off, cap, e, hb, fun j hj => (hc j hj).below h hb⟩
theorem Bke.back_stops (F : Fence) (n : Nat) (h7 : F.fn 111) (hro : F.round = none) (hn : 1 ≤ n) (Bs n₀ : Nat) (sv : Value) (zs : List EvV) (hreach : zs.length ≤ 1048576) (w : World) (hBs : Bs < n₀) (hn₀ : n₀ ≤ w.heap.size)
    (hc : w.cell? ⟨Bs, 0, none⟩ = some sv) (hI : Bke.Evs n₀ w sv zs) :
    SeqStopsK F n Tryz.prog 111 #[.pointer (some ⟨Bs, 0, none⟩)] (fun x : Bke.El zs => Bke.enc x.1) (Below n₀) (fun ys => ys = Clk.upto (Bke.nthE zs) zs.length) (fun pre => ∃ k, k ≤ zs.length ∧ pre = Clk.upto (Bke.nthE zs) k) zs.length w := fun l J Jx W hW _ _ hY h0 => by
  have hc' := (hW.cell (p := ⟨Bs, 0, none⟩) (show Bs < w.heap.size by omega)).trans hc
  rcases hI.below (hW.mono hn₀) with ⟨A, cap, rfl, rfl⟩ | ⟨b, off, cap, rfl, hb, hcs⟩
  · exact (Bke.back1_nil_in F n h7 hro l Bs A cap J W hc' h0).mono fun e W' ⟨he, hj⟩ => ⟨he, .inl ⟨_, rfl, hj⟩⟩
  · exact Bke.back1_in F n h7 hro hn l Bs n₀ b off cap zs hreach hb J Jx hY W hc' hBs hcs h0

/-! ### A block of six cells, held -/
def Bke.Six (W : World) (B : Nat) (x : EvV) : Prop := W.heap[B]? = some (.cells #[.string x.id, .string x.name, .int .i64 x.at_, .int .i64 x.kind, .string x.text, .slice x.A x.n x.c] 52 (0, 0))
theorem Bke.Six.cells {W : World} {B : Nat} {x : EvV} (h : Bke.Six W B x) : W.cell? ⟨B, 0, none⟩ = some (.string x.id) ∧ W.cell? ⟨B, 1, none⟩ = some (.string x.name) ∧ W.cell? ⟨B, 2, none⟩ = some (.int .i64 x.at_) ∧ W.cell? ⟨B, 3, none⟩ = some (.int .i64 x.kind) ∧ W.cell? ⟨B, 4, none⟩ = some (.string x.text) ∧ W.cell? ⟨B, 5, none⟩ = some (.slice x.A x.n x.c) := box_at h
theorem Bke.Six.frz {W : World} {B : Nat} {x : EvV} (h : Bke.Six W B x) (o : Nat) : W.frozen? ⟨B, o, none⟩ = false := Lib.frozen_of_heap h o
theorem Bke.six_own {β : Type} (B : Nat) (x : EvV) : Own (fun (_ : β) W => Bke.Six W B x) := fun s X Y row hs hg hrow => by
  have hlt : B < X.heap.size := (Array.getElem?_eq_some_iff.1 hs).1
  exact (hg.block B hlt (fun e' => by obtain ⟨o', ho, hc'⟩ := hrow B e'.symm; rw [show X.heap[B]? = _ from hs] at ho; cases ho; cases hc')).trans hs
theorem Bke.Six.alloc {W : World} {B : Nat} {x : EvV} (h : Bke.Six W B x) (o : Obj) : Bke.Six (W.alloc o) B x := (Lib.alloc_old W o B (Array.getElem?_eq_some_iff.1 h).1).trans h
theorem Bke.Six.below {W W' : World} {B n : Nat} {x : EvV} (h : Bke.Six W B x) (hb : Below n W W') (hlt : B < n) : Bke.Six W' B x := (hb.block B hlt).trans h
theorem Bke.Boxed.below {W W' : World} {B n : Nat} {t : TypeId} {v : Value} (h : Boxed W B t v) (hb : Below n W W') (hlt : B < n) : Boxed W' B t v := (hb.block B hlt).trans h
def Bke.hit (nm : ByteArray) (m : Int) (x : Nat × EvV) : Bool := decide (x.2.name = nm) && decide (x.2.at_ < m)
def Bke.W5 (w : World) (nm : ByteArray) (m : Int) : World := ((((w.alloc (.cells #[.string nm] 9)).alloc (.cells #[.int .i64 m] 3)).alloc (.cells #[.string ⟨#[]⟩, .string ⟨#[]⟩, .int .i64 0, .int .i64 0, .string ⟨#[]⟩, .slice none 0 0] 52)).alloc (.cells #[.int .i64 0] 27)).alloc (.cells #[.string nm] 9)
/-- What Last's four cells hold. -/
structure Bke.Its (w : World) (nm : ByteArray) (m : Int) (y : EvV) (er : Int) (W : World) : Prop where
  below : Below w.heap.size w W
  size : w.heap.size + 5 ≤ W.heap.size
  nm : Boxed W w.heap.size 9 (.string nm)
  m : Boxed W (w.heap.size + 1) 3 (.int .i64 m)
  y : Bke.Six W (w.heap.size + 1 + 1) y
  er : Boxed W (w.heap.size + 1 + 1 + 1) 27 (.int .i64 er)
theorem Bke.Its.step {w : World} {nm : ByteArray} {m : Int} {y : EvV} {er : Int} {A B : World} (h : Bke.Its w nm m y er A) (hb : Below A.heap.size A B) : Bke.Its w nm m y er B :=
  have hs := h.size
  ⟨h.below.trans (hb.mono (by omega)), Nat.le_trans hs hb.size, Bke.Boxed.below h.nm hb (by omega), Bke.Boxed.below h.m hb (by omega), h.y.below hb (by omega), Bke.Boxed.below h.er hb (by omega)⟩
theorem Bke.set_block {W : World} {B i : Nat} {cs : Array Value} {t : TypeId} {z : Nat × Nat} {v : Value} (h : W.heap[B]? = some (.cells cs t z)) : (W.setCell ⟨B, i, none⟩ v).heap[B]? = some (.cells (cs.setIfInBounds i v) t z) := by
  obtain ⟨hlt, hk⟩ := Array.getElem?_eq_some_iff.1 h
  show (W.heap.modify B _)[B]? = _
  rw [Array.getElem?_eq_getElem (by rw [Array.size_modify]; exact hlt), Array.getElem_modify_self, hk]
  rfl
/-- The six stores of an event, and the fault's. -/
def Bke.put (W : World) (B : Nat) (y : EvV) (er : Int) : World :=
  (((((((W.setCell ⟨B, 0, none⟩ (.string y.id)).setCell ⟨B, 1, none⟩ (.string y.name)).setCell ⟨B, 2, none⟩ (.int .i64 y.at_)).setCell ⟨B, 3, none⟩ (.int .i64 y.kind)).setCell ⟨B, 4, none⟩ (.string y.text)).setCell ⟨B, 5, none⟩ (.slice y.A y.n y.c)).setCell ⟨B + 1, 0, none⟩ (.int .i64 er))
theorem Bke.set_other {W : World} {B B' i : Nat} {v : Value} (h : B ≠ B') : (W.setCell ⟨B', i, none⟩ v).heap[B]? = W.heap[B]? := Below.heap_setCell _ _ _ _ h
theorem Bke.set_size {W : World} {p : Addr} {v : Value} : (W.setCell p v).heap.size = W.heap.size := by simp [World.setCell]
theorem Bke.Its.put {w : World} {nm : ByteArray} {m : Int} {y : EvV} {er : Int} {A : World} (h : Bke.Its w nm m y er A) (y' : EvV) (er' : Int) : Bke.Its w nm m y' er' (Bke.put A (w.heap.size + 1 + 1) y' er') := by
  refine ⟨?_, ?_, ?_, ?_, ?_, ?_⟩
  · have hb := h.below
    unfold Bke.put
    exact ((((((hb.setCell (p := ⟨w.heap.size + 1 + 1, 0, none⟩) (by show _ ≤ w.heap.size + 1 + 1; omega) _).setCell (p := ⟨w.heap.size + 1 + 1, 1, none⟩) (by show _ ≤ w.heap.size + 1 + 1; omega) _).setCell (p := ⟨w.heap.size + 1 + 1, 2, none⟩) (by show _ ≤ w.heap.size + 1 + 1; omega) _).setCell (p := ⟨w.heap.size + 1 + 1, 3, none⟩) (by show _ ≤ w.heap.size + 1 + 1; omega) _).setCell (p := ⟨w.heap.size + 1 + 1, 4, none⟩) (by show _ ≤ w.heap.size + 1 + 1; omega) _).setCell (p := ⟨w.heap.size + 1 + 1, 5, none⟩) (by show _ ≤ w.heap.size + 1 + 1; omega) _).setCell (p := ⟨w.heap.size + 1 + 1 + 1, 0, none⟩) (by show _ ≤ w.heap.size + 1 + 1 + 1; omega) _
  · unfold Bke.put
    simp only [Bke.set_size]
    exact h.size
  · show (Bke.put A _ y' er').heap[w.heap.size]? = _
    unfold Bke.put
    rw [Bke.set_other (by omega), Bke.set_other (by omega), Bke.set_other (by omega), Bke.set_other (by omega), Bke.set_other (by omega), Bke.set_other (by omega), Bke.set_other (by omega)]
    exact h.nm
  · show (Bke.put A _ y' er').heap[w.heap.size + 1]? = _
    unfold Bke.put
    rw [Bke.set_other (by omega), Bke.set_other (by omega), Bke.set_other (by omega), Bke.set_other (by omega), Bke.set_other (by omega), Bke.set_other (by omega), Bke.set_other (by omega)]
    exact h.m
  · show (Bke.put A _ y' er').heap[w.heap.size + 1 + 1]? = _
    unfold Bke.put
    rw [Bke.set_other (by omega)]
    exact Bke.set_block (Bke.set_block (Bke.set_block (Bke.set_block (Bke.set_block (Bke.set_block h.y)))))
  · show (Bke.put A _ y' er').heap[w.heap.size + 1 + 1 + 1]? = _
    unfold Bke.put
    refine Bke.set_block (cs := #[.int .i64 er]) ?_
    rw [Bke.set_other (by omega), Bke.set_other (by omega), Bke.set_other (by omega), Bke.set_other (by omega), Bke.set_other (by omega), Bke.set_other (by omega)]
    exact h.er
theorem Bke.w5 (w : World) (nm : ByteArray) (m : Int) : Bke.Its w nm m EvV.z 0 (Bke.W5 w nm m) ∧ (Bke.W5 w nm m).heap[w.heap.size + 1 + 1 + 1 + 1]? = some (.cells #[.string nm] 9 (0, 0)) := by
  unfold Bke.W5
  have a1 := Boxed.new w 9 (.string nm)
  obtain ⟨w1, h1⟩ : ∃ w1, w.alloc (.cells #[.string nm] 9) = w1 := ⟨_, rfl⟩
  have s1 : w1.heap.size = w.heap.size + 1 := by rw [← h1]; simp
  have b1 : Below w.heap.size w w1 := by rw [← h1]; exact (Below.refl _ w).alloc (Nat.le_refl _) _
  rw [h1] at a1 ⊢
  have a2 := Boxed.new w1 3 (.int .i64 m)
  have a1 := a1.alloc (.cells #[.int .i64 m] 3)
  obtain ⟨w2, h2⟩ : ∃ w2, w1.alloc (.cells #[.int .i64 m] 3) = w2 := ⟨_, rfl⟩
  have s2 : w2.heap.size = w.heap.size + 1 + 1 := by rw [← h2]; simp [s1]
  have b2 : Below w.heap.size w w2 := by rw [← h2]; exact b1.alloc (by omega) _
  rw [h2] at a1 a2 ⊢
  have a3 : Bke.Six (w2.alloc (.cells #[.string ⟨#[]⟩, .string ⟨#[]⟩, .int .i64 0, .int .i64 0, .string ⟨#[]⟩, .slice none 0 0] 52)) w2.heap.size EvV.z := World.alloc_heap_new w2 _
  have a1 := a1.alloc (.cells #[.string ⟨#[]⟩, .string ⟨#[]⟩, .int .i64 0, .int .i64 0, .string ⟨#[]⟩, .slice none 0 0] 52)
  have a2 := a2.alloc (.cells #[.string ⟨#[]⟩, .string ⟨#[]⟩, .int .i64 0, .int .i64 0, .string ⟨#[]⟩, .slice none 0 0] 52)
  obtain ⟨w3, h3⟩ : ∃ w3, w2.alloc (.cells #[.string ⟨#[]⟩, .string ⟨#[]⟩, .int .i64 0, .int .i64 0, .string ⟨#[]⟩, .slice none 0 0] 52) = w3 := ⟨_, rfl⟩
  have s3 : w3.heap.size = w.heap.size + 1 + 1 + 1 := by rw [← h3]; simp [s2]
  have b3 : Below w.heap.size w w3 := by rw [← h3]; exact b2.alloc (by omega) _
  rw [h3] at a1 a2 a3 ⊢
  have a4 := Boxed.new w3 27 (.int .i64 0)
  have a1 := a1.alloc (.cells #[.int .i64 0] 27)
  have a2 := a2.alloc (.cells #[.int .i64 0] 27)
  have a3 := a3.alloc (.cells #[.int .i64 0] 27)
  obtain ⟨w4, h4⟩ : ∃ w4, w3.alloc (.cells #[.int .i64 0] 27) = w4 := ⟨_, rfl⟩
  have s4 : w4.heap.size = w.heap.size + 1 + 1 + 1 + 1 := by rw [← h4]; simp [s3]
  have b4 : Below w.heap.size w w4 := by rw [← h4]; exact b3.alloc (by omega) _
  rw [h4] at a1 a2 a3 a4 ⊢
  have a5 : (w4.alloc (.cells #[.string nm] 9)).heap[w4.heap.size]? = some (.cells #[.string nm] 9 (0, 0)) := World.alloc_heap_new w4 _
  have a1 := a1.alloc (.cells #[.string nm] 9)
  have a2 := a2.alloc (.cells #[.string nm] 9)
  have a3 := a3.alloc (.cells #[.string nm] 9)
  have a4 := a4.alloc (.cells #[.string nm] 9)
  rw [s1] at a2
  rw [s2] at a3
  rw [s3] at a4
  rw [s4] at a5
  exact ⟨⟨b4.alloc (by omega) _, by simp [s4], a1, a2, a3, a4⟩, a5⟩
set_option maxRecDepth 100000 in
theorem Bke.out {w : World} {y : EvV} {er : Int} {W : World} (hy : Bke.Six W (w.heap.size + 1 + 1) y) (he : Boxed W (w.heap.size + 1 + 1 + 1) 27 (.int .i64 er)) (ts : Array Value) (h6 : ts[6]?.getD undef = .pointer (some ⟨w.heap.size + 1 + 1, 0, none⟩)) (h7 : ts[7]?.getD undef = .pointer (some ⟨w.heap.size + 1 + 1 + 1, 0, none⟩)) :
    (results Tryz.f20 ts).run Tryz.prog W = .ok (.tuple #[.agg y.enc.toArray, .int .i64 er]) W := by
  obtain ⟨y0, y1, y2, y3, y4, y5⟩ := hy.cells
  have c7 := he.cell
  simp [results, Tryz.f20, go_sem, y0, y1, y2, y3, y4, y5, c7, h6, h7]
  rfl
theorem Bke.put_other {W : World} {B D : Nat} {y : EvV} {er : Int} (h : D ≠ B) (h' : D ≠ B + 1) : (Bke.put W B y er).heap[D]? = W.heap[D]? := by
  unfold Bke.put
  rw [Bke.set_other h', Bke.set_other h, Bke.set_other h, Bke.set_other h, Bke.set_other h, Bke.set_other h, Bke.set_other h]
theorem Bke.put_size {W : World} {B : Nat} {y : EvV} {er : Int} : (Bke.put W B y er).heap.size = W.heap.size := by
  unfold Bke.put
  simp only [Bke.set_size]
theorem Bke.put_keeps {W W' : World} {B : Nat} {y : EvV} {er : Int} (h : Below W.heap.size W W') : KeepsOthers W (Bke.put W' B y er) := by
  unfold Bke.put
  exact ((((((KeepsOthers.trans ⟨h.size, fun k o hk _ => (h.block k (Array.getElem?_eq_some_iff.1 hk).1).trans hk⟩ (KeepsOthers.setCell _ _ _)).trans (KeepsOthers.setCell _ _ _)).trans (KeepsOthers.setCell _ _ _)).trans (KeepsOthers.setCell _ _ _)).trans (KeepsOthers.setCell _ _ _)).trans (KeepsOthers.setCell _ _ _)).trans (KeepsOthers.setCell _ _ _)
theorem Bke.out_own {w : World} {y : EvV} {er : Int} {W W' : World} {row : Option Nat} (hy : Bke.Six W (w.heap.size + 1 + 1) y) (he : Boxed W (w.heap.size + 1 + 1 + 1) 27 (.int .i64 er)) (hg : W.grownBy W' row) (hr : ∀ r, row = some r → ∃ o : Obj, W.heap[r]? = some o ∧ o.isCells = false) (ts : Array Value) (h6 : ts[6]?.getD undef = .pointer (some ⟨w.heap.size + 1 + 1, 0, none⟩)) (h7 : ts[7]?.getD undef = .pointer (some ⟨w.heap.size + 1 + 1 + 1, 0, none⟩)) :
    (results Tryz.f20 ts).run Tryz.prog W' = .ok (.tuple #[.agg y.enc.toArray, .int .i64 er]) W' :=
  Bke.out (Bke.six_own _ y () W W' row hy hg hr) (boxed_own _ _ (fun _ => Value.int .i64 er) () W W' row he hg hr) ts h6 h7
theorem Bke.nthE_last {zs : List EvV} {n k : Nat} {ini : List (Bke.El zs)} {last : Bke.El zs} (hn : n ≤ zs.length) (e : Clk.upto (Bke.nthE zs) n = ini ++ [last]) (hk : k < zs.length) (hl : last.1 = Bke.nth zs k) : n = k + 1 ∧ ini = Clk.upto (Bke.nthE zs) k := by
  have hlen := congrArg List.length e
  rw [Clk.upto_length, List.length_append, List.length_singleton] at hlen
  subst hlen
  rw [Clk.upto_succ] at e
  obtain ⟨e1, e2⟩ := List.append_inj' e rfl
  have e3 : Bke.nthE zs ini.length = last := by simpa using e2
  have e4 : Bke.nth zs ini.length = Bke.nth zs k := by rw [← hl, ← e3]; rfl
  have e5 : zs.length - 1 - ini.length = zs.length - 1 - k := congrArg Prod.fst e4
  have : ini.length = k := by omega
  exact ⟨by rw [this], by rw [← e1, this]⟩
theorem Bke.upto_mem {zs : List EvV} {k j : Nat} (h : j < k) : Bke.nthE zs j ∈ Clk.upto (Bke.nthE zs) k := List.mem_map.2 ⟨j, List.mem_range.2 h, rfl⟩
set_option maxRecDepth 100000 in
set_option maxHeartbeats 8000000 in
theorem Bke.Last_in (nm : ByteArray) (a : Option Addr) (len cap : Nat) (m c1 : Int) (zs : List EvV) (hreach : zs.length ≤ 1048576) (w : World) (hI : Bke.Evs w.heap.size w (.slice a len cap) zs) (T : Nat → EvV → World → Prop)
    (hCN : ∀ (W : World) (B : Nat), Below w.heap.size w W → B < W.heap.size → W.heap[B]? = some (.cells #[.string nm] 9 (0, 0)) → Calls Tryz.prog 62 #[.slice a len cap, .agg #[.int .i64 0, .int .i64 0], .slice (some ⟨B, 0, none⟩) 1 1] W fun e W' => e = .returned (.int .i64 c1) ∧ Below W.heap.size W W')
    (hIn : ∀ W : World, Below w.heap.size w W → Calls Tryz.prog 56 #[.int .i64 m, .int .i64 0, .int .i64 4321440] W fun e W' => e = .returned (.bool (inB m 0 4321440)) ∧ Below W.heap.size W W')
    (hCp : ∀ (k : Nat) (W : World), k < zs.length → Below w.heap.size w W → w.heap.size + 5 ≤ W.heap.size → Calls Tryz.prog 64 #[.agg (Bke.nth zs k).2.enc.toArray] W fun e W' => ∃ y : EvV, e = .returned (.agg y.enc.toArray) ∧ Below W.heap.size W W' ∧ T k y W')
    (hT : ∀ k y (A B : World), T k y A → A.heap.size ≤ B.heap.size → (∀ b, b < w.heap.size ∨ w.heap.size + 5 ≤ b → b < A.heap.size → B.heap[b]? = A.heap[b]?) → T k y B) (hTo : ∀ k, Own (fun y W => T k y W)) :
    CallsIn Fence.wide 6 Tryz.prog 20 #[.slice a len cap, .string nm, .int .i64 m] w fun e W' => Below w.heap.size w W' ∧ ∃ (y : EvV) (er : Int), e = .returned (.tuple #[.agg y.enc.toArray, .int .i64 er]) ∧
      ((c1 ≠ 0 ∧ er = c1 ∧ y = EvV.z) ∨ (c1 = 0 ∧ inB m 0 4321440 = false ∧ er = 1 ∧ y = EvV.z) ∨ (c1 = 0 ∧ inB m 0 4321440 = true ∧ er = 8 ∧ y = EvV.z ∧ ∀ k, k < zs.length → Bke.hit nm m (Bke.nth zs k) = false) ∨
        (c1 = 0 ∧ inB m 0 4321440 = true ∧ er = 0 ∧ ∃ k, k < zs.length ∧ (∀ j, j < k → Bke.hit nm m (Bke.nth zs j) = false) ∧ Bke.hit nm m (Bke.nth zs k) = true ∧ T k y W')) := by
  refine callsIn_of_wp_marks Tryz.func20 rfl trivial ?_ rfl
  simp only [Tryz.ntmps20, List.size_toArray, List.length_cons, List.length_nil, Nat.reduceAdd, Nat.reduceSub, Array.replicate_succ, Array.replicate_zero, List.push_toArray, List.append_toArray, List.nil_append, List.cons_append]
  have hfn : ∀ f, Fence.wide.fn f := fun _ => trivial
  obtain ⟨hi5, hn5⟩ := Bke.w5 w nm m
  gi_wp2_with (gi_at_call 62; refine ((callsIn_wide (n := 5)).2 (hCN (Bke.W5 w nm m) _ hi5.below (by have := hi5.size; omega) hn5)).mono ?_; rintro e W1 ⟨rfl, hk1⟩; have hi1 := hi5.step hk1; clear hk1; obtain ⟨y0, y1, y2, y3, y4, y5⟩ := hi1.y.cells; have yf := hi1.y.frz; have c7 := hi1.er.cell; have f7 := hi1.er.frozen; have cm := hi1.m.cell)
  · rename_i hc
    exact ⟨_, Bke.out (hi1.put EvV.z c1).y (hi1.put EvV.z c1).er _ rfl rfl, (hi1.put EvV.z c1).below, EvV.z, c1, rfl, .inl ⟨by simpa using hc, rfl, rfl⟩⟩
  · have hc0 : c1 = 0 := by
      have h0 : (c1 != 0) = false := by assumption
      simpa using h0
    refine ((callsIn_wide (n := 5)).2 (hIn W1 hi1.below)).mono ?_
    rintro e W2 ⟨rfl, hk2⟩
    have hi2 := hi1.step hk2
    clear hk2
    obtain ⟨y0, y1, y2, y3, y4, y5⟩ := hi2.y.cells
    have yf := hi2.y.frz
    have c7 := hi2.er.cell
    have f7 := hi2.er.frozen
    have cm := hi2.m.cell
    gi_wp2_with (gi_at_call 63; refine (Bke.back_in Fence.wide 5 trivial rfl _ _ _ _).mono ?_; rintro e w' ⟨rfl, rfl⟩)
    · have h0 : (!inB m 0 4321440) = true := by assumption
      have h0 : inB m 0 4321440 = false := by simpa using h0
      exact ⟨_, Bke.out (hi2.put EvV.z 1).y (hi2.put EvV.z 1).er _ rfl rfl, (hi2.put EvV.z 1).below, EvV.z, 1, rfl, .inr (.inl ⟨hc0, h0, rfl, rfl⟩)⟩
    · have h0 : (!inB m 0 4321440) = false := by assumption
      have h0 : inB m 0 4321440 = true := by simpa using h0
      have hi3 := hi2.step ((Below.refl _ W2).alloc (Nat.le_refl _) (.cells #[.slice a len cap] 26))
      have bN := Boxed.new W2 26 (.slice a len cap)
      have hs3 : (W2.alloc (.cells #[.slice a len cap] 26)).heap.size = W2.heap.size + 1 := by simp
      obtain ⟨W3, hW3⟩ : ∃ W3, W2.alloc (.cells #[.slice a len cap] 26) = W3 := ⟨_, rfl⟩
      rw [hW3] at hi3 bN hs3 ⊢
      clear y0 y1 y2 y3 y4 y5 yf c7 f7 cm
      have hsw := hi3.size
      have hI3 : Bke.Evs W3.heap.size W3 (.slice a len cap) zs := by
        have := hi3.below.size
        rcases hI.below hi3.below with e | ⟨b, off, cap', e1, hb, hc⟩
        · exact .inl e
        · exact .inr ⟨b, off, cap', e1, by omega, hc⟩
      refine wpIn_rangeFunc_ownH rfl (by omega) (gf := 111) (lb := #[.pointer (some ⟨W2.heap.size, 0, none⟩)]) rfl trivial (enters_of Tryz.func111 (by kernel_rfl) rfl)
        (Bke.back_stops Fence.wide 5 trivial rfl (by omega) W2.heap.size W3.heap.size _ zs hreach W3 (by omega) (Nat.le_refl _) bN.cell hI3) belowK_t (belowK_b (Nat.le_refl _)) (Below.refl _ _) (fun _ => rfl)
        (fun pre W => ((∀ p ∈ pre, Bke.hit nm m p.1 = false) ∧ Boxed W w.heap.size 9 (.string nm) ∧ Boxed W (w.heap.size + 1) 3 (.int .i64 m) ∧ Bke.Six W (w.heap.size + 1 + 1) EvV.z ∧ Boxed W (w.heap.size + 1 + 1 + 1) 27 (.int .i64 0)) ∧ (Below w.heap.size w W ∧ Below W3.heap.size W3 W))
        (fun c pre W => (c = .ret ∧ ∃ ini last y k, pre = ini ++ [last] ∧ (∀ p ∈ ini, Bke.hit nm m p.1 = false) ∧ Bke.hit nm m last.1 = true ∧ k < zs.length ∧ last.1 = Bke.nth zs k ∧ Bke.Six W (w.heap.size + 1 + 1) y ∧ Boxed W (w.heap.size + 1 + 1 + 1) 27 (.int .i64 0) ∧ T k y W) ∧ Below w.heap.size w W)
        ?hI ?hIx ?h0
        (fun x a' W => ∃ Bx, W3.heap.size ≤ Bx ∧ Bke.Six W Bx x.1.2 ∧ a' = { tmps := #[.slice a len cap, .string nm, .int .i64 m, undef, .pointer (some ⟨w.heap.size, 0, none⟩), .pointer (some ⟨w.heap.size + 1, 0, none⟩), .pointer (some ⟨w.heap.size + 1 + 1, 0, none⟩), .pointer (some ⟨w.heap.size + 1 + 1 + 1, 0, none⟩), .int .i64 0, undef, .pointer (some ⟨Bx, 0, none⟩), .slice a len cap, .agg #[.int .i64 0, .int .i64 0], .string nm, .slice (some ⟨w.heap.size + 1 + 1 + 1 + 1, 0, none⟩) 1 1, .int .i64 0, .int .i64 0, .bool false, undef, undef, .int .i64 m, .bool true, .bool false, undef, .slice a len cap, .func (.func 111) #[] #[.pointer (some ⟨W2.heap.size, 0, none⟩)], .int .i64 (x.1.1 : Int), .agg #[.string x.1.2.id, .string x.1.2.name, .int .i64 x.1.2.at_, .int .i64 x.1.2.kind, .string x.1.2.text, .slice x.1.2.A x.1.2.n x.1.2.c], undef, undef, undef, undef, undef, undef, undef, undef, undef, undef, undef, undef, undef], defers := [] })
        ?hAx ?assign ?body ?done ?stop
      case hI => exact OwnFrom.and (Own.from (fun s A B row hs hg hr => ⟨hs.1, boxed_own _ _ (fun _ => Value.string nm) () A B row hs.2.1 hg hr, boxed_own _ _ (fun _ => Value.int .i64 m) () A B row hs.2.2.1 hg hr, Bke.six_own _ EvV.z () A B row hs.2.2.2.1 hg hr, boxed_own _ _ (fun _ => Value.int .i64 0) () A B row hs.2.2.2.2 hg hr⟩) _) (OwnFrom.and (ownFrom_below (Nat.le_refl _) (by omega)) (ownFrom_below (Nat.le_refl _) (Nat.le_refl _)))
      case hIx => exact fun c => OwnFrom.and (Own.from (fun s A B row hs hg hr => by obtain ⟨hc, ini, last, y, k, e1, e2, e3, e4, e5, e6, e7, e8⟩ := hs; exact ⟨hc, ini, last, y, k, e1, e2, e3, e4, e5, Bke.six_own _ y () A B row e6 hg hr, boxed_own _ _ (fun _ => Value.int .i64 0) () A B row e7 hg hr, hTo k y A B row e8 hg hr⟩) _) (ownFrom_below (Nat.le_refl _) (by omega))
      case h0 => exact ⟨⟨by simp, hi3.nm, hi3.m, hi3.y, hi3.er⟩, hi3.below, Below.refl _ _⟩
      case hAx => exact fun x a' => Own.from (fun s A B row hs hg hr => by obtain ⟨Bx, h1, h2, h3⟩ := hs; exact ⟨Bx, h1, Bke.six_own _ x.1.2 () A B row h2 hg hr, h3⟩) _
      case assign =>
        rintro l pre x W K ⟨⟨hp, b1, b2, b3, b4⟩, hB1, hB2⟩ hK
        dsimp only [Bke.enc]
        gi_wp2
        have hs1 := hB2.size
        exact hK _ _ ((KeepsOthers.alloc _ _).from _) ((Below.refl _ W).alloc hs1 _) ⟨⟨hp, b1.alloc _, b2.alloc _, b3.alloc _, b4.alloc _⟩, hB1.alloc hB1.size _, hB2.alloc hs1 _⟩ ⟨W.heap.size, hs1, World.alloc_heap_new W _, rfl⟩
      case body =>
        rintro l pre x a' W hl ⟨r, hr⟩ ⟨⟨hp, b1, b2, b3, b4⟩, hB1, hB2⟩ ⟨Bx, hBx, hx6, rfl⟩ hlt
        obtain ⟨k, hk, hxk⟩ : ∃ k, k < zs.length ∧ x.1 = Bke.nth zs k := by
          rcases x.2 with e | e
          · have := congrArg List.length e
            rw [List.length_nil] at this
            omega
          · exact e
        have cn := b1.cell
        have cm := b2.cell
        obtain ⟨y0, y1, y2, y3, y4, y5⟩ := b3.cells
        have yf := b3.frz
        have c7 := b4.cell
        have f7 := b4.frozen
        obtain ⟨x0, x1, x2, x3, x4, x5⟩ := hx6.cells
        have hsz := hB2.size
        gi_wp2
        · have hx : (Bke.nth zs k).2.name = nm := by assumption
          have hx2 : (Bke.nth zs k).2.at_ < m := by assumption
          have hcp := hCp k W hk hB1 (by omega)
          rw [show (Bke.nth zs k).2.enc.toArray = #[.string (Bke.nth zs k).2.id, .string nm, .int .i64 (Bke.nth zs k).2.at_, .int .i64 (Bke.nth zs k).2.kind, .string (Bke.nth zs k).2.text, .slice (Bke.nth zs k).2.A (Bke.nth zs k).2.n (Bke.nth zs k).2.c] from by unfold EvV.enc; rw [hx]] at hcp
          refine (((callsIn_wide (n := 3)).2 hcp).inRound l).mono ?_
          rintro e W' ⟨y, he, hk4, ht⟩
          rw [show y.enc.toArray = #[.string y.id, .string y.name, .int .i64 y.at_, .int .i64 y.kind, .string y.text, .slice y.A y.n y.c] from rfl] at he
          subst he
          have hits : Bke.Its w nm m EvV.z 0 W' := Bke.Its.step ⟨hB1, by omega, b1, b2, b3, b4⟩ hk4
          have hput := hits.put y 0
          have b3 := hits.y
          have b4 := hits.er
          obtain ⟨y0, y1, y2, y3, y4, y5⟩ := b3.cells
          have yf := b3.frz
          have c7 := b4.cell
          have f7 := b4.frozen
          gi_wp2
          exact ⟨(Bke.put_keeps hk4).from _, ⟨rfl, pre, x, y, k, rfl, hp, by unfold Bke.hit; rw [hxk, decide_eq_true hx, decide_eq_true hx2]; rfl, hk, hxk, hput.y, hput.er, hT k y W' _ ht (Nat.le_of_eq Bke.put_size.symm) (fun b hb hlt => Bke.put_other (by omega) (by omega))⟩, hput.below⟩
        · have hx2 : ¬ (Bke.nth zs k).2.at_ < m := by
            have : m ≤ (Bke.nth zs k).2.at_ := by assumption
            omega
          exact ⟨KeepsFrom.refl _ _, Below.refl _ _, ⟨⟨fun p hp' => (List.mem_append.1 hp').elim (hp p) (fun e => by rw [List.mem_singleton] at e; subst e; unfold Bke.hit; rw [hxk, decide_eq_false hx2, Bool.and_false]), b1, b2, b3, b4⟩, hB1, hB2⟩⟩
        · have hx : ¬ (Bke.nth zs k).2.name = nm := by assumption
          exact ⟨KeepsFrom.refl _ _, Below.refl _ _, ⟨⟨fun p hp' => (List.mem_append.1 hp').elim (hp p) (fun e => by rw [List.mem_singleton] at e; subst e; unfold Bke.hit; rw [hxk, decide_eq_false hx, Bool.false_and]), b1, b2, b3, b4⟩, hB1, hB2⟩⟩
      case done =>
        rintro D ys W hD rfl ⟨⟨hp, b1, b2, b3, b4⟩, hB1, hB2⟩ hK
        have hsz := hB2.size
        have hits : Bke.Its w nm m EvV.z 0 W := ⟨hB1, by omega, b1, b2, b3, b4⟩
        have hput := hits.put EvV.z 8
        obtain ⟨y0, y1, y2, y3, y4, y5⟩ := b3.cells
        have yf := b3.frz
        have c7 := b4.cell
        have f7 := b4.frozen
        gi_wp2
        have hK' : (Bke.put W (w.heap.size + 1 + 1) EvV.z 8).heap[D]? = some (.deferred (some [])) := (Bke.put_other (by omega) (by omega)).trans hK
        refine ⟨by simp, .inl ⟨_, _, rfl, run_takeDeferred hK', ?_⟩⟩
        exact ⟨_, Bke.out_own hput.y hput.er (grownBy_putObj' _ D (.deferred none)) (fun r e => by cases e; exact ⟨_, hK', rfl⟩) _ rfl rfl, hput.below.trans (belowK_b (w := w) (Nat.le_refl _) _ D _ _ (by omega) hK' rfl rfl), EvV.z, 8, rfl, .inr (.inr (.inl ⟨hc0, h0, rfl, rfl, fun k hk => hp (Bke.nthE zs k) (Bke.upto_mem hk)⟩))⟩
      case stop =>
        rintro D c pre W hD ⟨n, hn, rfl⟩ ⟨⟨rfl, ini, last, y, k, e1, e2, e3, hk, e4, e5, e6, ht⟩, hB⟩ hK
        obtain ⟨rfl, rfl⟩ := Bke.nthE_last hn e1 hk e4
        gi_wp2
        refine ⟨by simp, .inl ⟨_, _, rfl, run_takeDeferred hK, ?_⟩⟩
        exact ⟨_, Bke.out_own e5 e6 (grownBy_putObj' _ D (.deferred none)) (fun r e => by cases e; exact ⟨_, hK, rfl⟩) _ rfl rfl, hB.trans (belowK_b (w := w) (Nat.le_refl _) _ D _ _ (by omega) hK rfl rfl), y, 0, rfl, .inr (.inr (.inr ⟨hc0, h0, rfl, k, hk, fun j hj => e2 (Bke.nthE zs j) (Bke.upto_mem hj), by rw [← e4]; exact e3, hTo k y W _ (some D) ht (grownBy_putObj' _ D (.deferred none)) (fun r e => by cases e; exact ⟨_, hK, rfl⟩)⟩))⟩
end Go.Proofs

/- Events that are right, in order: the generator's contract. No condition. -/
set_option linter.unusedVariables false
set_option linter.unusedSimpArgs false
set_option maxRecDepth 100000
namespace Go.Avc
open Go Go.Proofs

theorem DelW.list {w W : World} {b off : Nat} {S : TEvent × EvV → Prop} : ∀ {n : Nat}, (∀ j, j < n → ∃ p, S p ∧ ∀ c v, p.2.enc[c]? = some v → W.cell? ⟨b, off + j * 6 + c, none⟩ = some v) →
    ∃ ps : List (TEvent × EvV), ps.length = n ∧ (∀ p ∈ ps, S p) ∧ ∀ j u, (encP ps)[j]? = some u → W.cell? ⟨b, off + j, none⟩ = some u := by
  intro n
  induction n with
  | zero => exact fun _ => ⟨[], rfl, fun p hp => (by cases hp), fun j u hj => by simp [encP] at hj⟩
  | succ n ih =>
    intro h
    obtain ⟨ps, h1, h2, h3⟩ := ih fun j hj => h j (by omega)
    obtain ⟨p, hp, hc⟩ := h n (by omega)
    have he : encP (ps ++ [p]) = encP ps ++ p.2.enc := by
      unfold encP
      rw [List.map_append, List.flatten_append]
      simp
    refine ⟨ps ++ [p], by rw [List.length_append, h1]; rfl, fun q hq => ?_, fun j u hj => ?_⟩
    · rcases List.mem_append.1 hq with hq | hq
      · exact h2 q hq
      · rw [List.mem_singleton.1 hq]; exact hp
    · rw [he] at hj
      have hl : (encP ps).length = n * 6 := by rw [encP_len, h1]
      by_cases hi : j < n * 6
      · rw [List.getElem?_append_left (by omega)] at hj
        exact h3 j u hj
      · rw [List.getElem?_append_right (by omega), hl] at hj
        have := hc (j - n * 6) u hj
        rwa [show off + n * 6 + (j - n * 6) = off + j by omega] at this
set_option maxHeartbeats 4000000 in
theorem sorted_raw {v : Value} {w : World} {ps : List (TEvent × EvV)} (hlen : ps.length ≤ 1048576)
    (hclone : Calls Tryz.prog 38 #[v] w fun e w' => ∃ v', e = .returned v' ∧ w'.ownsRow w.heap.size 52 6 v' ps.length (encP ps) ∧ RowKit.Below w.heap.size w w') :
    Calls Tryz.prog 104 #[v] w fun e w' => ∃ (v' : Value) (ps' : List (TEvent × EvV)), e = .returned v' ∧ ps'.Perm ps ∧ w'.ownsRow w.heap.size 52 6 v' ps'.length (encP ps') ∧ RowKit.Below w.heap.size w w' := by
  go_enter Tryz.func104, Tryz.ntmps104
  go_wp2_with (go_at_call 38; refine hclone.mono ?_)
  rintro e w1 ⟨v', rfl, hown, hb⟩
  have hs := sortE hlen hown
  go_wp2_with (go_at_call 155; refine hs.mono ?_)
  rintro e w2 ⟨rfl, ps', hp, ⟨q1, q2, q3, q4, q5⟩, hown2⟩
  go_wp2
  go_ret
  refine ⟨_, ps', rfl, hp, hown2, q1.trans hb.os, q2.trans hb.tape, q3.trans hb.output, Nat.le_trans hb.size q4, fun k hk => (q5 k (Nat.lt_of_lt_of_le hk hb.size) (fun e => ?_)).trans (hb.block k hk)⟩
  rcases hown.2 with ⟨h1, _⟩ | ⟨g, cap, cur, h1, h2, _⟩
  · rw [h1] at e; cases e
  · rw [h1] at e
    have e2 : g = k := Option.some.inj e
    omega
set_option maxHeartbeats 4000000 in
theorem idx_nil (g : Nat) (w : World) : Calls Tryz.prog 87 #[.slice none 0 0, .func (.func g) #[] #[]] w fun e W => e = .returned (.int .i64 (-1)) ∧ W = w := by
  go_enter Tryz.func87, Tryz.ntmps87
  go_wp2
  go_loopw [8] (fun i wr => i = .int .i64 0 ∧ wr = w) (fun _ _ => 0)
  case atStart => exact ⟨rfl, rfl⟩
  case round =>
    obtain ⟨rfl, rfl⟩ := hrel
    go_wp2
    go_ret
    exact ⟨rfl, rfl⟩
set_option maxHeartbeats 4000000 in
theorem del_nil (g : Nat) (w : World) : Calls Tryz.prog 37 #[.slice none 0 0, .func (.func g) #[] #[]] w fun e W => e = .returned (.slice none 0 0) ∧ W = w := by
  go_enter Tryz.func37, Tryz.ntmps37
  go_wp2_with (go_at_call 87; refine (idx_nil g w).mono ?_; rintro e w1 ⟨rfl, rfl⟩)
  go_ret
  exact ⟨rfl, rfl⟩
/-- The context without the stream. -/
def Cx.dry (cx : Cx) : Cx := ⟨cx.P, none, cx.L, cx.ST, cx.ng, cx.glob⟩
theorem Seat.dry {cx : Cx} (h : Seat cx) : Seat cx.dry := ⟨h.hP, h.hS⟩
theorem glAt_dry {cx : Cx} {w : World} (h : GlAt cx w) : GlAt cx.dry w := h
set_option maxHeartbeats 8000000 in
theorem Right_own {cx : Cx} (h : Seat cx) (hN : cx.glob 2 = some namesD) (hI : cx.glob 0 = some poolD) (hE : cx.glob 1 = some evNamesD) (hD : Ctr cx.dry 105 anyB) :
    CtrO cx 54 eventsG 52 6 := by
  refine ⟨by rw [h.hP]; exact ⟨_, Tryz.func54, by kernel_rfl, by kernel_rfl⟩, fun _ => ?_, fun hz => by omega⟩
  rintro F xs vals hcx hF hst hgl hco hlen hargs ⟨m, rfl, hm⟩
  subst hcx
  obtain ⟨sv, mv, rfl⟩ : ∃ a b, vals = [a, b] := by
    match vals, hlen with
    | [a, b], _ => exact ⟨a, b, rfl⟩
  have hmv : mv = .int .i64 m := rd_int_val (show Rd F.ok F.w0 (.int .i64 m) mv from hargs 1 _ mv rfl rfl)
  have hev := (Events_own h hN hI hE).2.1 (by decide) F [.st, .i m] [sv, mv] rfl hF hst hgl hco rfl hargs ⟨m, rfl, hm⟩
  have hen : Enters F.cx.P 105 := hD.1
  rw [h.hP] at hev hen ⊢
  subst hmv
  have fin : ∀ (w1 w2 w3 : World) (v v' : Value) (ps ps2 ps3 : List (TEvent × EvV)), Gr F.cx.g F.w0 w1 → StAt F.cx (F.N + eventsG.cost [.st, .i m]) w1 → (∀ b, v.ownBlock = some b → F.w0.heap.size ≤ b) → ps.length ≤ 20 → ps2.length ≤ ps.length → (∀ p ∈ ps, p.1.ok) → (∀ p ∈ ps, Lay (fun b => resOk F false b ∧ v.ownBlock ≠ some b) w1 p) → (∀ p ∈ ps2, p ∈ ps) →
      w2.os = w1.os → w2.tape = w1.tape → w2.output = w1.output → w1.heap.size ≤ w2.heap.size → (∀ k, k < w1.heap.size → v.ownBlock ≠ some k → w2.heap[k]? = w1.heap[k]?) → ps3.Perm ps2 → w3.ownsRow w2.heap.size 52 6 v' ps3.length (encP ps3) → RowKit.Below w2.heap.size w2 w3 →
      ∃ (v0 : Value) (r : AV), Ending.returned v' = .returned v0 ∧ Gr F.cx.g F.w0 w3 ∧ StAt F.cx (F.N + eventsG.cost [.st, .i m]) w3 ∧ eventsG.post [.st, .i m] r ∧ Hands (resOk F eventsG.fresh) w3 F.w0.heap.size 52 6 v0 r := by
    intro w1 w2 w3 v v' ps ps2 ps3 hg1 hst1 hvb hl hl2 hok hlay hsub o1 o2 o3 o4 o5 hp hown hb
    have hsz : F.w0.heap.size ≤ w1.heap.size := hg1.size
    have hkeep : ∀ k, k < w1.heap.size → v.ownBlock ≠ some k → w3.heap[k]? = w1.heap[k]? := fun k hk hne => (hb.block k (Nat.lt_of_lt_of_le hk o4)).trans (o5 k hk hne)
    have hkeep0 : ∀ k, k < F.w0.heap.size → w3.heap[k]? = w1.heap[k]? := fun k hk => hkeep k (Nat.lt_of_lt_of_le hk hsz) (fun e => by have := hvb k e; omega)
    have hg : ∀ b, F.cx.g = some b → b < F.w0.heap.size := hF.g
    refine ⟨v', .sl (TEvent.rows (ps3.map Prod.fst)), rfl, ⟨(hb.os.trans o1).trans hg1.os, (hb.tape.trans o2).trans hg1.tape, (hb.output.trans o3).trans hg1.output, Nat.le_trans hsz (Nat.le_trans o4 hb.size), fun k hk hne => (hkeep0 k hk).trans (hg1.block k hk hne)⟩,
      hst1.keep2 (Nat.le_trans o4 hb.size) (fun b b' e hle => hkeep0 b' (Nat.lt_of_le_of_lt hle (hg b e))), ⟨m, ps3.map Prod.fst, rfl, by rw [List.length_map, hp.length_eq]; omega, fun x hx => ?_, rfl⟩, .inl ⟨_, encP ps3, by decide, rfl, ?_, fun i x hx => TEvent.z_len _ x (List.mem_of_getElem? hx), lays_to ps3 fun p hp3 => ?_⟩⟩
    · obtain ⟨p, hp3, rfl⟩ := List.mem_map.1 hx
      exact hok p (hsub p (hp.mem_iff.1 hp3))
    · rw [TEvent.len, List.length_map]
      refine ⟨hown.1, hown.2.imp id fun ⟨g, cap, cur, q1, q2, q3⟩ => ⟨g, cap, cur, q1, by omega, q3⟩⟩
    · refine (hlay p (hsub p (hp.mem_iff.1 hp3))).mono (Nat.le_trans o4 hb.size) (fun b hb1 hlt => ⟨hb1.1, fun e => ?_⟩) (fun b hb1 hlt => hkeep b hlt hb1.2)
      rcases hown.2 with ⟨q1, _⟩ | ⟨g, cap, cur, q1, q2, _⟩
      · rw [q1] at e; cases e
      · rw [q1] at e
        have e2 : g = b := Option.some.inj e
        omega
  go_enter Tryz.func54, Tryz.ntmps54
  go_wp2_with (go_at_call 31; refine hev.mono ?_)
  rintro e w1 ⟨v, r, rfl, hg1, hst1, ⟨m', l, hx, hl, hok, rfl⟩, hands⟩
  rcases hands with ⟨l', cs, _, hr, hown, hz, hR⟩ | ⟨_, _, _, _, _, h1000, _⟩
  case inr => omega
  have hr : TEvent.rows l = l' := by simpa using hr
  subst hr
  obtain ⟨ps, hps, rfl, hlay⟩ := lays_of l cs hR
  rw [TEvent.len] at hown
  have hpl : ps.length = l.length := by rw [← hps, List.length_map]
  have hpok : ∀ p ∈ ps, p.1.ok := fun p hp => hok p.1 (by rw [← hps]; exact List.mem_map.2 ⟨p, hp, rfl⟩)
  have hvb : ∀ b, v.ownBlock = some b → F.w0.heap.size ≤ b := fun b hb => by
    rcases hown.2 with ⟨q1, _⟩ | ⟨g, cap, cur, q1, q2, _⟩
    · rw [q1] at hb; cases hb
    · rw [q1] at hb
      cases hb
      exact q2
  rcases hown.2 with ⟨h1, hn⟩ | ⟨b, cap, cur, h1, h2, h3, h4, h5, h6, h7⟩
  · subst h1
    have hs := sorted_raw (v := .slice none 0 0) (w := w1) (ps := []) (Nat.zero_le _) ((AnyE.slices_Clone_nil Tryz.laysCloneEvent 0 0 w1).mono fun e w' ⟨e1, e2⟩ => ⟨_, e1, World.ownsRow_nil .., e2 ▸ RowKit.Below.refl _ _⟩)
    go_wp2_with (go_at_call 37; refine (del_nil _ w1).mono ?_)
    rintro e w2 ⟨rfl, rfl⟩
    go_wp2_with (go_at_call 104; refine hs.mono ?_)
    rintro e w3 ⟨v', ps', rfl, hp, hown3, hb3⟩
    go_wp2
    go_ret
    exact fin w2 w2 w3 _ v' ps [] ps' hg1 hst1 hvb (by omega) (Nat.zero_le _) hpok hlay (fun p hp => by cases hp) rfl rfl rfl (Nat.le_refl _) (fun _ _ _ => rfl) hp hown3 hb3
  · subst h1
    have hb : b < w1.heap.size := (Array.getElem?_eq_some_iff.1 h3).1
    have hrow : RowsIn (· ∈ ps) cur ps.length := RowsIn.of (by rw [hpl]; exact h7)
    have hd0 : DelW w1 b 0 l.length (· ∈ ps) w1 := by
      refine ⟨rfl, rfl, rfl, Nat.le_refl _, fun _ _ _ => rfl, fun j hj => ?_, fun o => ?_⟩
      · obtain ⟨p, hp, hc⟩ := hrow j (by omega)
        refine ⟨p, hp, fun c v hv => ?_⟩
        have hc6 : c < 6 := (List.getElem?_eq_some_iff.1 hv).1
        unfold World.cell?
        rw [h3]
        have := hc c hc6
        rw [hv] at this
        simpa using this
      · unfold World.frozen?
        rw [h3]
        simp
    have hgl0 := hgl
    have hcall : ∀ p, p ∈ ps → ∀ W, DelW w1 b 0 l.length (· ∈ ps) W → Calls Tryz.prog 105 #[.agg p.2.enc.toArray] W fun e W' => ∃ q : Bool, e = .returned (.bool q) ∧ RowKit.Below W.heap.size W W' := by
      intro p hp W hW
      have hgW : Gr F.cx.g F.w0 W := ⟨hW.os.trans hg1.os, hW.tape.trans hg1.tape, hW.out.trans hg1.output, Nat.le_trans hg1.size hW.size, fun k hk hne => (hW.keep k (Nat.lt_of_lt_of_le hk hg1.size) (by omega)).trans (hg1.block k hk hne)⟩
      have hglW : GlAt F.cx W := hgl.keep hst hgW
      have hng : ∀ k, k < F.cx.ng → k < W.heap.size := fun k hk => by
        have h1 := hF.gl k hk
        have h2 := (hF.ok k h1).1
        have h3 := hgW.size
        omega
      let F' : Fr := ⟨F.cx.dry, W, fun b => b < W.heap.size, 0, 0, 0, W, fun _ => False⟩
      have hF' : F'.Wf := ⟨fun b hb => ⟨hb, fun e => (by cases e)⟩, fun b hb => hng b hb, fun b hb => (by cases hb), by show 0 + 0 ≤ _; decide⟩
      have hl1 : Lay (fun b => b < W.heap.size) W p := (hlay p hp).mono hW.size (fun k hk hlt => Nat.lt_of_lt_of_le hlt hW.size) (fun k hk hlt => hW.keep k hlt (fun e => hk.2 (by rw [e]; rfl)))
      have hc := hD.2.2 F' [.dv (.ag p.1.row)] [.agg p.2.enc.toArray] rfl hF' (fun b hb => (by cases hb)) (glAt_dry hglW) (Nat.zero_le _) rfl (fun i a u ha hu => by
        cases i with
        | zero =>
          simp only [List.getElem?_cons_zero, Option.some.injEq] at ha hu
          subst ha
          subst hu
          exact ⟨p.2.enc, rfl, hl1⟩
        | succ i => simp at ha) ⟨p.1, rfl, hpok p hp⟩
      rw [show F.cx.dry.P = Tryz.prog from h.hP] at hc
      refine hc.mono ?_
      rintro e W' ⟨u, r, rfl, hg2, _, ⟨q, rfl⟩, _, hr⟩
      have hu : u = .bool q := by
        have hr : Rd (resOk F' anyB.fresh) W' (.bool q) u := hr
        cases hr
        rfl
      subst hu
      exact ⟨q, rfl, hg2.os, hg2.tape, hg2.output, hg2.size, fun k hk => hg2.block k hk (fun e => by cases e)⟩
    have hdel := del_walk (cap := cap) (g := 105) hb (show l.length ≤ 1048576 by omega) (show l.length ≤ cap by omega) hd0 (fun args w => callFunc_run hen args w) hcall
    go_wp2_with (go_at_call 37; refine hdel.mono ?_)
    rintro e w2 ⟨i, hi, rfl, hd2⟩
    obtain ⟨ps2, hp1, hp2, hp3⟩ := DelW.list (w := w2) hd2.rows
    have hs := sorted_raw (v := .slice (some ⟨b, 0, none⟩) i cap) (w := w2) (ps := ps2) (by omega) (by
      have := cloneE_rest ps2 b 0 cap w2 (by omega) hp3
      rwa [hp1] at this ⊢)
    go_wp2_with (go_at_call 104; refine hs.mono ?_)
    rintro e w3 ⟨v', ps', rfl, hp, hown3, hb3⟩
    go_wp2
    go_ret
    exact fin w1 w2 w3 _ v' ps ps2 ps' hg1 hst1 hvb (by omega) (by omega) hpok hlay hp2 hd2.os hd2.tape hd2.out hd2.size (fun k hk hne => hd2.keep k hk (fun e => hne (by rw [e]; rfl))) hp hown3 hb3
end Go.Avc

/- Events and what is wrong with them, as the statements draw them. No condition. -/
set_option linter.unusedVariables false
set_option linter.unusedSimpArgs false
set_option maxRecDepth 100000
namespace Go.Avc
open Go Go.Proofs

theorem evG_ne (xs : List AV) (h : eventsG.pre xs) : ∃ r, eventsG.post xs r := by
  obtain ⟨m, hm, _⟩ := h
  exact ⟨.sl (TEvent.rows []), m, [], hm, Nat.zero_le _, (fun x hx => by cases hx), rfl⟩
def someG : Spec where
  pre xs := ∃ m : Int, xs = [.st, .i m] ∧ m ≤ 20
  post xs y := ∃ l : List TEvent, l.length ≤ 20 ∧ (∀ x ∈ l, x.ok) ∧ y = .tcons (.sl (TEvent.rows l)) (.tcons (.i (eventsF l)) .tnil)
  cost _ := 4001
  fresh := false
theorem some_ctr {cx : Cx} (h : Seat cx) (hN : cx.glob 2 = some namesD) (hI : cx.glob 0 = some poolD) (hE : cx.glob 1 = some evNamesD) (hU : Utf8 cx) (hM : MaxL cx) : Ctr cx 10 someG := by
  refine ctr_of (fn := Tryz.f10) (l := [.tmp 4, .tmp 5]) (envL [(54, eventsG), (31, eventsG), (26, flipS), (33, eventsS)]) [0, 1, 4, 5, 6, 11] [] [] (envL_cons (ctr_ofO (by decide) evG_ne (Right_own h hN hI hE (Right1_ctr h.dry hU hM))) (envL_cons (ctr_ofO (by decide) evG_ne (Events_own h hN hI hE)) (envL_cons (flip_ctr cx h.hP h.hS) (envL_cons (EventsFault_ctr h hU hM) (env0 h.hP))))) ?_ (by rw [h.hP]; exact Tryz.func10) rfl (by kernel_rfl) rfl ?_ ?_
  · rw [h.hP]; exact ⟨_, Tryz.func10, by kernel_rfl, by kernel_rfl⟩
  · rintro xs ⟨m, rfl, hm⟩; exact ⟨_, [], Nat.zero_le _, (fun x hx => by cases hx), rfl⟩
  · rintro xs ⟨m, rfl, hm⟩
    refine ⟨by rw [Tryz.ntmps10]; simp, ?_⟩
    simp only [go_sem, h.hP, List.cons_append, List.nil_append, Meets_e, Below_e, Prod.exists, exists_eq, exists_eq_left, exists_eq_left', exists_eq_right, exists_eq_right', exists_and_left, exists_and_right, Ob.arr.injEq, AV.own.injEq, AV.fv.injEq, someG, eventsG, flipS_q, flipS_p, flipS_c, flipS_f, eventsS_q, eventsS_p, eventsS_c, eventsS_f, TEvent.rows_inj, Tryz.ntmps10, Nat.reduceEqDiff, reduceCtorEq, Nat.reduceMul, Nat.reduceAdd, Nat.reduceSub, Nat.reduceDiv, Nat.reduceMod, Nat.reduceLeDiff, Nat.reduceLT, Nat.reduceBNe, Nat.reduceBEq, reduceIte, Int.reduceLE, Int.reduceLT, Int.reduceToNat, Int.reduceNeg, Int.reduceAdd, Int.reduceSub, Int.reduceMul, Int.reduceEq]
    have ok : ∀ a : List TEvent, a.length ≤ 20 → (∀ x ∈ a, x.ok) → okL TEvent.ok a := fun a h1 h2 => ⟨by omega, h2⟩
    exact ⟨hm, fun a h1 h2 f => ⟨fun _ => ⟨hm, fun a h1 h2 => ⟨ok a h1 h2, a, h1, h2, rfl, rfl⟩⟩, fun _ => ⟨ok a h1 h2, a, h1, h2, rfl, rfl⟩⟩⟩
end Go.Avc

/- The last event with a name before a moment: its contract. No condition. -/
set_option linter.unusedVariables false
set_option linter.unusedSimpArgs false
set_option maxRecDepth 100000
namespace Go.Avc
open Go Go.Proofs

/-- A call by a contract over the context without the stream: nothing that was there changes. -/
theorem dry_call {cx : Cx} (h : Seat cx) {f : FuncId} {sp : Spec} (hD : Ctr cx.dry f sp) {W : World} {avs : List AV} {vals : List Value} (okp : Nat → Prop) (hgl : GlAt cx W) (hok : ∀ k, okp k → k < W.heap.size) (hng : ∀ k, k < cx.ng → okp k) (hcost : sp.cost avs = 0) (hlen : avs.length = vals.length)
    (hargs : ∀ (i : Nat) (a : AV) (u : Value), avs[i]? = some a → vals[i]? = some u → rel0 cx.dry W okp (fun _ => undef) W a u) (hpre : sp.pre avs) :
    Calls Tryz.prog f vals.toArray W fun e W' => ∃ (v : Value) (r : AV), e = .returned v ∧ RowKit.Below W.heap.size W W' ∧ sp.post avs r ∧ relA cx.dry W (fun b => (sp.fresh = false ∧ okp b) ∨ W.heap.size ≤ b) (fun _ => undef) W' r v := by
  let F' : Fr := ⟨cx.dry, W, okp, 0, 0, 0, W, fun _ => False⟩
  have hF' : F'.Wf := ⟨fun b hb => ⟨hok b hb, fun e => (by cases e)⟩, fun b hb => hng b hb, fun b hb => (by cases hb), by show 0 + 0 ≤ _; decide⟩
  have hc := hD.2.2 F' avs vals rfl hF' (fun b hb => (by cases hb)) (glAt_dry hgl) (by rw [hcost]; exact Nat.zero_le _) hlen hargs hpre
  rw [show cx.dry.P = Tryz.prog from h.hP] at hc
  refine hc.mono ?_
  rintro e W' ⟨v, r, rfl, hg2, _, hpo, _, hr⟩
  exact ⟨v, r, rfl, ⟨hg2.os, hg2.tape, hg2.output, hg2.size, fun k hk => hg2.block k hk (fun e => by cases e)⟩, hpo, hr⟩
theorem rd_bool_val {ok : Nat → Prop} {w : World} {b : Bool} {v : Value} (h : Rd ok w (.bool b) v) : v = .bool b := by
  cases h; rfl
theorem lay_z {ok : Nat → Prop} {w : World} : Lay ok w (TEvent.z, EvV.z) := by
  refine ⟨rfl, fun i x v hx hv => ?_⟩
  have hi : i < 6 := (List.getElem?_eq_some_iff.1 hv).1
  match i, hi with
  | 0, _ => cases hx; cases hv; exact Rd.str _
  | 1, _ => cases hx; cases hv; exact Rd.str _
  | 2, _ => cases hx; cases hv; exact Rd.int _ _
  | 3, _ => cases hx; cases hv; exact Rd.int _ _
  | 4, _ => cases hx; cases hv; exact Rd.str _
  | 5, _ => cases hx; cases hv; exact Rd.nil _ _
theorem orE_twoL {a b c : Int} (h : orE a (orE b 0) ≠ 0) : orE a (orE b c) = orE a (orE b 0) := by
  by_cases ha : a = 0
  · rw [orE_r ha] at h ⊢
    rw [orE_r ha]
    by_cases hb : b = 0
    · rw [orE_r hb] at h
      exact absurd rfl h
    · rw [orE_l hb, orE_l hb]
  · rw [orE_l ha, orE_l ha]
theorem orE_zeroL {a b : Int} (h : orE a (orE b 0) = 0) : a = 0 ∧ b = 0 := by
  by_cases ha : a = 0
  · rw [orE_r ha] at h
    by_cases hb : b = 0
    · exact ⟨ha, hb⟩
    · rw [orE_l hb] at h
      exact absurd h hb
  · rw [orE_l ha] at h
    exact absurd h ha
theorem evs_of {ok : Nat → Prop} {w : World} {l : List TEvent} {sv : Value} (h : Rd ok w (.sl (TEvent.rows l)) sv) : ∃ (A : Option Addr) (cap : Nat) (zs : List EvV), sv = .slice A l.length cap ∧ zs.length = l.length ∧ Bke.Evs w.heap.size w sv zs ∧ ∀ j, j < l.length → Lay ok w (l.getD j TEvent.z, zs[j]?.getD EvV.z) := by
  generalize e : TEvent.rows l = r at h
  cases h with
  | nil A c =>
    have : l = [] := by simpa [TEvent.nil1] using e
    subst this
    exact ⟨A, c, [], rfl, rfl, .inl ⟨A, c, rfl, rfl⟩, fun j hj => absurd hj (Nat.not_lt_zero _)⟩
  | sl r z b o c u hc hb hlt hz hu hr =>
    subst e
    have hg : ∀ j : Nat, j < l.length → (TEvent.rows l)[j]? = some (l.getD j TEvent.z).row := fun j hj => by
      unfold TEvent.rows
      rw [List.getElem?_map, List.getD_eq_getElem?_getD, List.getElem?_eq_getElem hj]
      rfl
    have hone : ∀ j : Fin l.length, ∃ v : EvV, z = 6 ∧ (∀ c', c' < 6 → v.enc[c']? = some (u j c')) := fun j => by
      have hgj := hg j j.2
      have hz6 : z = 6 := (hz j _ hgj).symm
      have hR : RdL ok w (l.getD j TEvent.z).row [u j 0, u j 1, u j 2, u j 3, u j 4, u j 5] := by
        refine ⟨rfl, fun i x v hx hv => ?_⟩
        have hi : i < 6 := (List.getElem?_eq_some_iff.1 hv).1
        have := hr j _ hgj i x hx
        have e2 : v = u j i := by
          match i, hi with
          | 0, _ => cases hv; rfl
          | 1, _ => cases hv; rfl
          | 2, _ => cases hv; rfl
          | 3, _ => cases hv; rfl
          | 4, _ => cases hv; rfl
          | 5, _ => cases hv; rfl
        rw [e2]
        exact this
      obtain ⟨v, hv⟩ := lay_one hR
      refine ⟨v, hz6, fun c' hc' => ?_⟩
      rw [← hv]
      match c', hc' with
      | 0, _ => rfl
      | 1, _ => rfl
      | 2, _ => rfl
      | 3, _ => rfl
      | 4, _ => rfl
      | 5, _ => rfl
    let f : Fin l.length → EvV := fun j => (hone j).choose
    have hf : ∀ j : Fin l.length, z = 6 ∧ (∀ c', c' < 6 → (f j).enc[c']? = some (u j c')) := fun j => (hone j).choose_spec
    have hget : ∀ j (hj : j < l.length), (List.ofFn f)[j]?.getD EvV.z = f ⟨j, hj⟩ := fun j hj => by
      rw [List.getElem?_eq_getElem (by rw [List.length_ofFn]; exact hj), List.getElem_ofFn]
      rfl
    have hcell : ∀ j (hj : j < l.length) c' (v : Value), c' < 6 → (f ⟨j, hj⟩).enc[c']? = some v → w.cell? ⟨b, o + j * 6 + c', none⟩ = some v := fun j hj c' v hc' hv => by
      obtain ⟨h6, h7⟩ := hf ⟨j, hj⟩
      subst h6
      rw [h7 c' hc'] at hv
      cases hv
      have hl6 : c' < (l.getD j TEvent.z).row.length := hc'
      exact hu j _ (hg j hj) c' _ (List.getElem?_eq_getElem hl6)
    refine ⟨_, _, List.ofFn f, by rw [TEvent.len], List.length_ofFn, .inr ⟨b, o, c, by rw [TEvent.len, List.length_ofFn], hlt, fun j hj => ?_⟩, fun j hj => ?_⟩
    · rw [List.length_ofFn] at hj
      rw [hget j hj]
      have := hcell j hj
      exact ⟨this 0 _ (by decide) rfl, this 1 _ (by decide) rfl, this 2 _ (by decide) rfl, this 3 _ (by decide) rfl, this 4 _ (by decide) rfl, this 5 _ (by decide) rfl⟩
    · rw [hget j hj]
      refine ⟨rfl, fun i x v hx hv => ?_⟩
      have hi : i < 6 := (List.getElem?_eq_some_iff.1 hv).1
      rw [(hf ⟨j, hj⟩).2 i hi] at hv
      cases hv
      exact hr j _ (hg j hj) i x hx
theorem rd_kept {ok : Nat → Prop} {W W' : World} {row : Option Nat} {x : D} {v : Value} (h : Rd ok W x v) (hg : W.grownBy W' row) (hrow : ∀ r, row = some r → ∃ o : Obj, W.heap[r]? = some o ∧ o.isCells = false) : Rd ok W' x v := by
  induction h with
  | int k n => exact .int k n
  | bool b => exact .bool b
  | str s => exact .str s
  | nil A c => exact .nil A c
  | sl l z b o c u hc hb hlt hz hu hr ih =>
    exact .sl l z b o c u hc hb (Nat.lt_of_lt_of_le hlt hg.size) hz (fun i x hi j y hj => cell_kept (hu i x hi j y hj) hg hrow) ih
theorem lay_kept {ok : Nat → Prop} {W W' : World} {row : Option Nat} {p : TEvent × EvV} (h : Lay ok W p) (hg : W.grownBy W' row) (hrow : ∀ r, row = some r → ∃ o : Obj, W.heap[r]? = some o ∧ o.isCells = false) : Lay ok W' p :=
  ⟨h.1, fun j x v hx hv => rd_kept (h.2 j x v hx hv) hg hrow⟩
def lastP (n : ByteArray) (b : Int) (e : TEvent) : Bool := decide (e.name = n) && decide (e.at_ < b)
def lastO (l : List TEvent) (n : ByteArray) (b : Int) : Option TEvent := (l.filter (lastP n b)).getLast?
def lastE (l : List TEvent) (n : ByteArray) (b : Int) : Int := orE (eventsF l) (orE (namesF [n]) (if inB b 0 4321440 = false then 1 else if (lastO l n b).isSome = true then 0 else 8))
def lastV (l : List TEvent) (n : ByteArray) (b : Int) : TEvent := if lastE l n b = 0 then (lastO l n b).getD TEvent.z else TEvent.z
def lastS  : Spec where
  pre xs := ∃ (l : List TEvent) (n : ByteArray) (b : Int), xs = [.sl (TEvent.rows l), .str n, .i b] ∧ (okL TEvent.ok l ∧ okS n ∧ okI b)
  post xs y := ∃ (l : List TEvent) (n : ByteArray) (b : Int), xs = [.sl (TEvent.rows l), .str n, .i b] ∧ y = .tcons (.dv (.ag (lastV l n b).row)) (.tcons (.i (lastE l n b)) .tnil)
  cost _ := 0
  fresh := false
theorem lastS_c  (xs : List AV) : (lastS).cost xs = 0 := nr rfl
theorem lastS_f  : (lastS).fresh = false := nr rfl
theorem lastS_q  (l : List TEvent) (n : ByteArray) (b : Int) : (lastS).pre [.sl (TEvent.rows l), .str n, .i b] = (okL TEvent.ok l ∧ okS n ∧ okI b) := propext ⟨fun h => by
  have h' : ∃ (l' : List TEvent) (n' : ByteArray) (b' : Int), ([.sl (TEvent.rows l), .str n, .i b] : List AV) = [.sl (TEvent.rows l'), .str n', .i b'] ∧ (okL TEvent.ok l' ∧ okS n' ∧ okI b') := h
  obtain ⟨l', n', b', e, h⟩ := h'
  simp only [List.cons.injEq, AV.dv.injEq, AV.dp.injEq, AV.fv.injEq, DV.d.injEq, DV.ag.injEq, D.int.injEq, D.str.injEq, D.bool.injEq, D.sl.injEq, true_and, and_true, intsDi_inj, rowsT_inj, rowsKi_inj, TEvent.row_inj, TEvent.rows_inj] at e
  obtain ⟨rfl, rfl, rfl⟩ := e
  exact h, fun h => ⟨l, n, b, rfl, h⟩⟩
theorem lastS_p  (l : List TEvent) (n : ByteArray) (b : Int) : (lastS).post [.sl (TEvent.rows l), .str n, .i b] = fun y => y = .tcons (.dv (.ag (lastV l n b).row)) (.tcons (.i (lastE l n b)) .tnil) := funext fun y => propext ⟨fun h => by
  have h' : ∃ (l' : List TEvent) (n' : ByteArray) (b' : Int), ([.sl (TEvent.rows l), .str n, .i b] : List AV) = [.sl (TEvent.rows l'), .str n', .i b'] ∧ y = .tcons (.dv (.ag (lastV l' n' b').row)) (.tcons (.i (lastE l' n' b')) .tnil) := h
  obtain ⟨l', n', b', e, h⟩ := h'
  simp only [List.cons.injEq, AV.dv.injEq, AV.dp.injEq, AV.fv.injEq, DV.d.injEq, DV.ag.injEq, D.int.injEq, D.str.injEq, D.bool.injEq, D.sl.injEq, true_and, and_true, intsDi_inj, rowsT_inj, rowsKi_inj, TEvent.row_inj, TEvent.rows_inj] at e
  obtain ⟨rfl, rfl, rfl⟩ := e
  exact h, fun h => ⟨l, n, b, rfl, h⟩⟩
theorem Lay.name {ok : Nat → Prop} {w : World} {p : TEvent × EvV} (h : Lay ok w p) : p.2.name = p.1.name := by
  have h0 := rd_str_val (h.2 1 (.str p.1.name) (.string p.2.name) rfl rfl)
  simpa using h0
theorem last_none {l : List TEvent} {n : ByteArray} {b : Int} (h : ∀ j, j < l.length → lastP n b (l.getD j TEvent.z) = false) : lastO l n b = none := by
  unfold lastO
  rw [List.filter_eq_nil_iff.2 fun e he => ?_]
  · rfl
  · obtain ⟨j, hj, rfl⟩ := List.mem_iff_getElem.1 he
    have := h j hj
    rw [List.getD_eq_getElem?_getD, List.getElem?_eq_getElem hj] at this
    exact ne_tf this
theorem last_some {l : List TEvent} {n : ByteArray} {b : Int} {j : Nat} (hj : j < l.length) (hp : lastP n b (l.getD j TEvent.z) = true) (h : ∀ i, j < i → i < l.length → lastP n b (l.getD i TEvent.z) = false) : lastO l n b = some (l.getD j TEvent.z) := by
  have e : l.getD j TEvent.z = l[j] := by rw [List.getD_eq_getElem?_getD, List.getElem?_eq_getElem hj]; rfl
  have hd : l = l.take j ++ l[j] :: l.drop (j + 1) := by rw [← List.drop_eq_getElem_cons hj, List.take_append_drop]
  rw [e] at hp ⊢
  unfold lastO
  have hn : (l.drop (j + 1)).filter (lastP n b) = [] := List.filter_eq_nil_iff.2 fun x hx => by
    obtain ⟨i, hi, rfl⟩ := List.mem_iff_getElem.1 hx
    rw [List.length_drop] at hi
    have := h (j + 1 + i) (by omega) (by omega)
    rw [List.getD_eq_getElem?_getD, List.getElem?_eq_getElem (by omega)] at this
    rw [List.getElem_drop]
    exact ne_tf this
  have hf : l.filter (lastP n b) = (l.take j).filter (lastP n b) ++ [l[j]] := by
    conv => lhs; rw [hd]
    rw [List.filter_append, List.filter_cons_of_pos hp, hn]
  rw [hf, List.getLast?_append]
  rfl
theorem named_last {l : List TEvent} {n : ByteArray} {b : Int} (h : eventsF l = 0) : namedL l n ⟨0, b⟩ = l.filter (lastP n b) := by
  unfold namedL
  refine List.filter_congr fun e he => ?_
  obtain ⟨j, hj, rfl⟩ := List.mem_iff_getElem.1 he
  have ha := evF_at ((ev_right h).2.1 j hj)
  rw [List.getD_eq_getElem?_getD, List.getElem?_eq_getElem hj] at ha
  have ha : 0 ≤ l[j].at_ ∧ l[j].at_ ≤ 4321439 := ha
  unfold nmB lastP inB
  congr 1
  rw [decide_eq_decide]
  show 0 ≤ l[j].at_ ∧ l[j].at_ ≤ b - 1 ↔ _
  omega
theorem last_get (l : List TEvent) (n : ByteArray) (b : Int) : (l.filter (lastP n b)).getD ((l.filter (lastP n b)).length - 1) TEvent.z = (lastO l n b).getD TEvent.z ∧ ((lastO l n b).isSome = true ↔ 0 < (l.filter (lastP n b)).length) := by
  unfold lastO
  generalize l.filter (lastP n b) = x
  rw [List.getLast?_eq_getElem?, List.getD_eq_getElem?_getD]
  refine ⟨rfl, ?_⟩
  cases x with
  | nil => simp
  | cons y r => simp
theorem Last_ctr {cx : Cx} (h : Seat cx) (hU : Utf8 cx.dry) (hM : MaxL cx.dry) : Ctr cx 20 lastS := by
  refine ⟨by rw [h.hP]; exact ⟨_, Tryz.func20, by kernel_rfl, by kernel_rfl⟩, fun xs ⟨l, n, b, e, _⟩ => ⟨_, l, n, b, e, rfl⟩, ?_⟩
  rintro F xs us hcx hF hst hgl hco hlen hargs ⟨l, n, b, rfl, h1, h2, h3⟩
  subst hcx
  match us, hlen with
  | [sv, nv, bv], _ =>
  have hs : Rd F.ok F.w0 (.sl (TEvent.rows l)) sv := hargs 0 _ sv rfl rfl
  have hn : nv = .string n := rd_str_val (show Rd F.ok F.w0 (.str n) nv from hargs 1 _ nv rfl rfl)
  have hb : bv = .int .i64 b := rd_int_val (show Rd F.ok F.w0 (.int .i64 b) bv from hargs 2 _ bv rfl rfl)
  subst hn hb
  obtain ⟨A, cap, zs, rfl, hzl, hI, hlay⟩ := evs_of hs
  have hglW : ∀ W, RowKit.Below F.w0.heap.size F.w0 W → GlAt F.cx W := fun W hW => hgl.keep hst ⟨hW.os, hW.tape, hW.output, hW.size, fun k hk _ => hW.block k hk⟩
  have hng : ∀ W, RowKit.Below F.w0.heap.size F.w0 W → ∀ k, k < F.cx.ng → k < W.heap.size := fun W hW k hk => Nat.lt_of_lt_of_le (hF.ok k (hF.gl k hk)).1 hW.size
  have hin : ∀ W, RowKit.Below F.w0.heap.size F.w0 W → Rd (fun b => b < W.heap.size) W (.sl (TEvent.rows l)) (.slice A l.length cap) := fun W hW => hs.mono hW.size (fun k _ hlt => Nat.lt_of_lt_of_le hlt hW.size) (fun k _ hlt => hW.block k hlt)
  have hnth : ∀ k, k < l.length → Bke.nth zs k = (l.length - 1 - k, zs[l.length - 1 - k]?.getD EvV.z) := fun k hk => by unfold Bke.nth; rw [hzl]
  have hlayk : ∀ k, k < l.length → Lay F.ok F.w0 (l.getD (l.length - 1 - k) TEvent.z, (Bke.nth zs k).2) := fun k hk => by rw [hnth k hk]; exact hlay _ (by omega)
  have hok : ∀ j, (l.getD j TEvent.z).ok := okL_get h1 TEvent.z_ok
  have hw := Bke.Last_in n A l.length cap b (orE (eventsF l) (orE (namesF [n]) 0)) zs (by rw [hzl]; exact h1.1) F.w0 hI (fun k y W => Lay (fun b => F.ok b ∨ F.w0.heap.size + 5 ≤ b) W (l.getD (l.length - 1 - k) TEvent.z, y)) ?_ ?_ ?_ ?_ ?_
  · rw [h.hP]
    refine ((callsIn_wide (n := 6)).1 hw).mono ?_
    rintro e W' ⟨hB, y, er, rfl, hcase⟩
    have hg : Gr F.cx.g F.w0 W' := ⟨hB.os, hB.tape, hB.output, hB.size, fun k hk _ => hB.block k hk⟩
    have key : lastE l n b = er → Lay (fun b => F.ok b ∨ F.w0.heap.size ≤ b) W' (lastV l n b, y) → ∃ (v : Value) (r : AV), Ending.returned (.tuple #[.agg y.enc.toArray, .int .i64 er]) = .returned v ∧ Gr F.cx.g F.w0 W' ∧ StAt F.cx (F.N + lastS.cost [.sl (TEvent.rows l), .str n, .i b]) W' ∧ lastS.post [.sl (TEvent.rows l), .str n, .i b] r ∧ r.plain = true ∧ relA F.cx F.w0 (resOk F lastS.fresh) (fun _ => undef) W' r v := fun he hy => by
      refine ⟨_, .tcons (.dv (.ag (lastV l n b).row)) (.tcons (.i (lastE l n b)) .tnil), rfl, hg, hst.keep hB.size (fun k hk => hB.block k hk), ⟨l, n, b, rfl, rfl⟩, rfl, ⟨[.agg y.enc.toArray, .int .i64 er], rfl, _, _, rfl, ?_, _, _, rfl, ?_, rfl⟩⟩
      · exact ⟨y.enc, rfl, RdL.mono (show RdL _ W' (lastV l n b).row y.enc from hy) (Nat.le_refl _) (fun k hk _ => hk.imp (fun hk => ⟨rfl, hk⟩) id) (fun _ _ _ => rfl)⟩
      · rw [he]
        exact Rd.int .i64 _
    have hhit : ∀ k, k < zs.length → Bke.hit n b (Bke.nth zs k) = lastP n b (l.getD (l.length - 1 - k) TEvent.z) := fun k hk => by
      have hk2 := hlayk k (by omega)
      have q1 := (Lay.same hk2).2
      have q2 := Lay.name hk2
      unfold Bke.hit lastP
      rw [show (Bke.nth zs k).2.name = _ from q2, show (Bke.nth zs k).2.at_ = _ from q1]
    have hE : lastE l n b = orE (eventsF l) (orE (namesF [n]) (if inB b 0 4321440 = false then 1 else if (lastO l n b).isSome = true then 0 else 8)) := rfl
    rcases hcase with ⟨c, rfl, rfl⟩ | ⟨c, d, rfl, rfl⟩ | ⟨c, d, rfl, rfl, hno⟩ | ⟨c, d, rfl, k, hk, hbf, hhk, hyT⟩
    · have e : lastE l n b = orE (eventsF l) (orE (namesF [n]) 0) := orE_twoL c
      refine key e ?_
      rw [show lastV l n b = TEvent.z from if_neg (by rw [e]; exact c)]
      exact lay_z
    · obtain ⟨c1, c2⟩ := orE_zeroL c
      have e : lastE l n b = 1 := hE.trans ((orE_r c1).trans ((orE_r c2).trans (if_pos d)))
      refine key e ?_
      rw [show lastV l n b = TEvent.z from if_neg (by rw [e]; decide)]
      exact lay_z
    · obtain ⟨c1, c2⟩ := orE_zeroL c
      have hO : lastO l n b = none := last_none fun j hj => by
        have := hno (l.length - 1 - j) (by omega)
        rw [hhit _ (by omega), show l.length - 1 - (l.length - 1 - j) = j by omega] at this
        exact this
      have e : lastE l n b = 8 := hE.trans ((orE_r c1).trans ((orE_r c2).trans ((if_neg (ne_ft d)).trans (by rw [hO]; rfl))))
      refine key e ?_
      rw [show lastV l n b = TEvent.z from if_neg (by rw [e]; decide)]
      exact lay_z
    · obtain ⟨c1, c2⟩ := orE_zeroL c
      have hO : lastO l n b = some (l.getD (l.length - 1 - k) TEvent.z) := last_some (by omega) (by rw [← hhit k hk]; exact hhk) fun i hi hil => by
        have := hbf (l.length - 1 - i) (by omega)
        rw [hhit _ (by omega), show l.length - 1 - (l.length - 1 - i) = i by omega] at this
        exact this
      have e : lastE l n b = 0 := hE.trans ((orE_r c1).trans ((orE_r c2).trans ((if_neg (ne_ft d)).trans (by rw [hO]; rfl))))
      refine key e ?_
      rw [show lastV l n b = l.getD (l.length - 1 - k) TEvent.z from (if_pos e).trans (by rw [hO]; rfl)]
      exact hyT.mono (Nat.le_refl _) (fun b hb _ => hb.imp id (fun hb => by omega)) (fun _ _ _ => rfl)
  · intro W B hW hBlt hBc
    have hc := dry_call h (checkNamed_ctr h.dry hU hM) (W := W) (avs := [.sl (TEvent.rows l), .dv (.ag [.int .i64 0, .int .i64 0]), .sl (rowsT [n])]) (vals := [.slice A l.length cap, .agg #[.int .i64 0, .int .i64 0], .slice (some ⟨B, 0, none⟩) 1 1]) (fun b => b < W.heap.size) (hglW W hW) (fun _ hk => hk) (hng W hW) rfl rfl (fun i a u ha hu => by
      match i with
      | 0 => cases ha; cases hu; exact hin W hW
      | 1 => cases ha; cases hu; exact ⟨[.int .i64 0, .int .i64 0], rfl, RdL.append (RdL.one (Rd.int .i64 0)) (RdL.one (Rd.int .i64 0))⟩
      | 2 =>
        cases ha
        cases hu
        refine Rd.sl [[D.str n]] 1 B 0 1 (fun _ _ => .string n) (Nat.le_refl _) hBlt hBlt (fun i x hx => ?_) (fun i x hx j y hy => ?_) (fun i x hx j y hy => ?_)
        · match i, hx with
          | 0, hx => cases hx; rfl
        · match i, hx with
          | 0, hx =>
            cases hx
            match j, hy with
            | 0, hy =>
              rw [show (⟨B, 0 + 0 * 1 + 0, none⟩ : Addr) = ⟨B, 0, none⟩ from rfl, Lib.cell_of_heap hBc]
              rfl
        · match i, hx with
          | 0, hx =>
            cases hx
            match j, hy with
            | 0, hy => cases hy; exact Rd.str _
      | i + 3 => simp at ha) ⟨l, ⟨0, 0⟩, [n], rfl, h1, okL_one h2⟩
    refine hc.mono ?_
    rintro e W' ⟨v, r, rfl, hb, hpo, hr⟩
    have hpo' : r = .i (orE (eventsF l) (orE (namesF [n]) 0)) := by
      have := hpo
      rw [show cnS.post [.sl (TEvent.rows l), .dv (.ag [.int .i64 0, .int .i64 0]), .sl (rowsT [n])] = fun y => y = .i (orE (eventsF l) (orE (namesF [n]) 0)) from cnS_p l ⟨0, 0⟩ [n]] at this
      exact this
    subst hpo'
    have hv := rd_int_val (show Rd _ W' (.int .i64 (orE (eventsF l) (orE (namesF [n]) 0))) v from hr)
    subst hv
    exact ⟨rfl, hb⟩
  · intro W hW
    have hc := dry_call h (ewithin_ctr h.dry) (W := W) (avs := [.i b, .i 0, .i 4321440]) (vals := [.int .i64 b, .int .i64 0, .int .i64 4321440]) (fun b => b < W.heap.size) (hglW W hW) (fun _ hk => hk) (hng W hW) rfl rfl (fun i a u ha hu => by
      match i with
      | 0 => cases ha; cases hu; exact Rd.int _ _
      | 1 => cases ha; cases hu; exact Rd.int _ _
      | 2 => cases ha; cases hu; exact Rd.int _ _
      | i + 3 => simp at ha) ((inS_q b 0 4321440).symm ▸ trivial)
    refine hc.mono ?_
    rintro e W' ⟨v, r, rfl, hb, hpo, hr⟩
    have hpo' : r = .b (inB b 0 4321440) := by
      have := hpo
      rw [inS_p b 0 4321440] at this
      exact this
    subst hpo'
    have hv := rd_bool_val (show Rd _ W' (.bool (inB b 0 4321440)) v from hr)
    subst hv
    exact ⟨rfl, hb⟩
  · intro k W hk hW hsz5
    have hl0 := hlayk k (by omega)
    have hl1 : Lay (fun b => (F.ok b ∨ F.w0.heap.size + 5 ≤ b) ∧ b < W.heap.size) W (l.getD (l.length - 1 - k) TEvent.z, (Bke.nth zs k).2) := hl0.mono hW.size (fun b hb hlt => ⟨.inl hb, Nat.lt_of_lt_of_le hlt hW.size⟩) (fun b _ hlt => hW.block b hlt)
    have hc := dry_call h (Copy_ctr h.dry) (W := W) (avs := [.dv (.ag (l.getD (l.length - 1 - k) TEvent.z).row)]) (vals := [.agg (Bke.nth zs k).2.enc.toArray]) (fun b => (F.ok b ∨ F.w0.heap.size + 5 ≤ b) ∧ b < W.heap.size) (hglW W hW) (fun _ hk => hk.2) (fun k hk => ⟨.inl (hF.gl k hk), hng W hW k hk⟩) rfl rfl (fun i a u ha hu => by
      match i with
      | 0 => cases ha; cases hu; exact ⟨(Bke.nth zs k).2.enc, rfl, hl1⟩
      | i + 1 => simp at ha) ⟨_, rfl, hok _⟩
    refine hc.mono ?_
    rintro e W' ⟨v, r, rfl, hb, ⟨e', he', hr'⟩, hr⟩
    simp only [List.cons.injEq, AV.dv.injEq, DV.ag.injEq, TEvent.row_inj, and_true] at he'
    subst he'
    subst hr'
    obtain ⟨cs, rfl, hcs⟩ := (show RdV _ W' (.ag (l.getD (l.length - 1 - k) TEvent.z).row) v from hr)
    obtain ⟨y, rfl⟩ := lay_one hcs
    refine ⟨y, rfl, hb, RdL.mono hcs (Nat.le_refl _) (fun b hb2 _ => ?_) (fun _ _ _ => rfl)⟩
    rcases hb2 with ⟨_, hb2⟩ | hb2
    · exact hb2.1
    · exact .inr (Nat.le_trans hsz5 hb2)
  · intro k y A' B' hl hs hw
    exact Lay.mono hl hs (fun _ hb _ => hb) (fun b hb hlt => hw b (hb.imp (fun hb => (hF.ok b hb).1) id) hlt)
  · exact fun k y A' B' row hl hg hr => lay_kept hl hg hr
end Go.Avc

/- EventLasts: its walk. No condition. -/
set_option linter.unusedVariables false
set_option linter.unusedSimpArgs false
set_option maxRecDepth 100000
namespace Go.Avc
open Go Go.Proofs

theorem sameS_qz (a : TEvent) : sameS.pre [.dv (.ag [.str a.id, .str a.name, .int .i64 a.at_, .int .i64 a.who.kind, .str a.who.text, .sl (TField.rows a.fields)]), .dv (.ag [.str ⟨#[]⟩, .str ⟨#[]⟩, .int .i64 0, .int .i64 0, .str ⟨#[]⟩, .sl []])] = (a.ok ∧ TEvent.z.ok) := sameS_q a TEvent.z
theorem sameS_pz (a : TEvent) : sameS.post [.dv (.ag [.str a.id, .str a.name, .int .i64 a.at_, .int .i64 a.who.kind, .str a.who.text, .sl (TField.rows a.fields)]), .dv (.ag [.str ⟨#[]⟩, .str ⟨#[]⟩, .int .i64 0, .int .i64 0, .str ⟨#[]⟩, .sl []])] = fun y => y = .b (sameB a TEvent.z) := sameS_p a TEvent.z
theorem orE_two' {a b x : Int} (h : ¬ orE a b = 0) : orE a b = orE a (orE b x) := by
  by_cases ha : a = 0
  · rw [orE_r ha] at h ⊢
    rw [orE_r ha, orE_l h]
  · rw [orE_l ha, orE_l ha]
theorem namedOfS_q0 (l : List TEvent) (n : ByteArray) (b : Int) : namedOfS.pre [.sl (TEvent.rows l), .str n, .dv (.ag [.int .i64 0, .int .i64 b])] = (okL TEvent.ok l ∧ TWindow.ok ⟨0, b⟩) := namedOfS_q l n ⟨0, b⟩
theorem namedOfS_p0 (l : List TEvent) (n : ByteArray) (b : Int) : namedOfS.post [.sl (TEvent.rows l), .str n, .dv (.ag [.int .i64 0, .int .i64 b])] = fun y => y = .sl (TEvent.rows (namedL l n ⟨0, b⟩)) := namedOfS_p l n ⟨0, b⟩
theorem lastV_ok {l : List TEvent} {n : ByteArray} {b : Int} (h : okL TEvent.ok l) : (lastV l n b).ok := by
  unfold lastV
  split
  · cases e : lastO l n b with
    | none => exact TEvent.z_ok
    | some x =>
      unfold lastO at e
      exact h.2 x (List.mem_filter.1 (List.mem_of_getLast? e)).1
  · exact TEvent.z_ok
theorem maxL_of {cx W0 : Cx} {m : Int} (hW : W0.glob 3 = some [.int .i64 m]) (h : ∀ w, GlAt cx w → GlAt W0 w) : MaxL cx := by
  intro w hw
  obtain ⟨_, _, cs, hc, hr⟩ := h w hw 3 _ hW
  obtain ⟨v, hv, hr⟩ := hr.get (j := 0) (x := .int .i64 m) rfl
  refine ⟨m, ?_⟩
  have := hc 0 v hv
  rw [this]
  cases hr
  rfl
set_option maxHeartbeats 8000000 in
theorem el_walk {L : List Int} {A : Option Addr} {cp : Nat} {W : World} (hng : 6 ≤ W.heap.size) (hrd : Rd (fun k => k < W.heap.size) W (.sl (intRows L)) (.slice A L.length cp)) {glob : Nat → Option (List D)} (hgl : GlAt ⟨Tryz.prog, none, L, 25, 6, glob⟩ W) (hU : ∀ cx : Cx, (∀ w, GlAt cx w → GlAt ⟨Tryz.prog, none, L, 25, 6, glob⟩ w) → Utf8 cx) (hfn : glob 2 = some namesD) (hip : glob 0 = some poolD) (hen : glob 1 = some evNamesD) {m : Int} (hml : glob 3 = some [.int .i64 m]) :
    Calls Tryz.prog 5 [Value.slice A L.length cp].toArray W fun e W' => e = .returned (.bool true) ∧ RowKit.Below W.heap.size W W' := by
  refine law_calls (E := envL [(11, rangeS), (12, pickS), (19, nameG), (10, someG), (20, lastS), (23, namedOfS), (24, sameS), (22, namesS), (21, wrongS), (15, happeningsS)]) (B := 5000) (live := [0, 2, 3, 4, 5, 6, 7, 8, 9, 10, 48, 50, 58]) (HH := [8, 13]) (hz := []) (d := 2) (x1 := 11) (x2 := 12) (x3 := 13) (x4 := 3) (ng := 6) (glob := glob) Tryz.func5 rfl rfl (by kernel_rfl) ⟨rfl, rfl, rfl⟩ ⟨rfl, rfl, rfl⟩ ⟨rfl, rfl, rfl⟩ ⟨rfl, rfl, rfl⟩ ⟨rfl, rfl, rfl⟩ build_stream ⟨by simp, by decide, by decide, by decide, by decide, by decide, by rw [Tryz.ntmps5]; decide⟩ (ex := []) (xv := []) rfl (fun i x u hx hu => by simp at hx) (by decide) hng hrd hgl ?_
  intro cx hP hS hG hGl
  have h : Seat cx := ⟨hP, hS⟩
  refine ⟨envL_cons (range_ctr cx h.hP h.hS) (envL_cons (pick_ctr cx h.hP h.hS) (envL_cons (Name_ctr h) (envL_cons (some_ctr h ((congrFun hGl _).trans hfn) ((congrFun hGl _).trans hip) ((congrFun hGl _).trans hen) (hU cx hG) (maxL_of hml hG)) (envL_cons (Last_ctr h (hU cx.dry hG) (maxL_of (cx := cx.dry) hml hG)) (envL_cons (NamedOf_ctr h) (envL_cons (SameEvent_ctr h) (envL_cons (nameFault_ctr h) (envL_cons (wrongOr_ctr h) (envL_cons (happenings_ctr h) (env0 h.hP)))))))))), ?_⟩
  simp only [go_sem, h.hP, List.cons_append, List.nil_append, Meets_e, Below_e, Prod.exists, exists_eq, exists_eq_left, exists_eq_left', exists_eq_right, exists_eq_right', exists_and_left, exists_and_right, Ob.arr.injEq, AV.own.injEq, AV.fv.injEq, someG, nameG, rangeS_q, rangeS_p, rangeS_c, rangeS_f, pickS_q, pickS_p, pickS_c, pickS_f, lastS_q, lastS_p, lastS_c, lastS_f, namesS_q, namesS_p, namesS_c, namesS_f, wrongS_q, wrongS_p, wrongS_c, wrongS_f, ints1, intsc, strs1, strsc, TEvent.rows_inj, TEvent.row, Tryz.ntmps5, Nat.reduceEqDiff, reduceCtorEq, Nat.reduceMul, Nat.reduceAdd, Nat.reduceSub, Nat.reduceDiv, Nat.reduceMod, Nat.reduceLeDiff, Nat.reduceLT, Nat.reduceBNe, Nat.reduceBEq, reduceIte, Int.reduceLE, Int.reduceLT, Int.reduceToNat, Int.reduceNeg, Int.reduceAdd, Int.reduceSub, Int.reduceMul, Int.reduceEq]
  intro a a0 a14
  refine ⟨by omega, fun l l20 lo n hn b hb => ?_⟩
  have ok : okL TEvent.ok l := ⟨by omega, lo⟩
  have hbr : -1 ≤ b ∧ b ≤ 4321441 := by
    simp only [isIn, List.mem_cons, List.not_mem_nil, or_false] at hb
    omega
  refine ⟨ok, hn, ⟨by omega, by omega⟩, ?_⟩
  refine vc_cutS (Int) (fun (f : Int) => [(5, .i f), (48, .un)]) [8] (fun (f : Int) => []) (fun (f : Int) => []) (fun (f : Int) => 4300) (fun (f : Int) => f = orE (eventsF l) (orE (namesF [n]) (if inB b 0 4321440 = false then 1 else 0))) [] ?_ ?_ ?_
  · rfl
  · simp only [go_sem, h.hP, List.cons_append, List.nil_append, Meets_e, Below_e, Prod.exists, exists_eq, exists_eq_left, exists_eq_left', exists_eq_right, exists_eq_right', exists_and_left, exists_and_right, Ob.arr.injEq, AV.own.injEq, AV.fv.injEq, namesS_q, namesS_p, namesS_c, namesS_f, wrongS_q, wrongS_p, wrongS_c, wrongS_f, ints1, intsc, strs1, strsc, Tryz.ntmps5, Nat.reduceEqDiff, reduceCtorEq, Nat.reduceMul, Nat.reduceAdd, Nat.reduceSub, Nat.reduceDiv, Nat.reduceMod, Nat.reduceLeDiff, Nat.reduceLT, Nat.reduceBNe, Nat.reduceBEq, reduceIte, Int.reduceLE, Int.reduceLT, Int.reduceToNat, Int.reduceNeg, Int.reduceAdd, Int.reduceSub, Int.reduceMul, Int.reduceEq]
    rw [wrong_two]
    refine ⟨okL_one hn, fun c => ?_, fun c => orE_two' c⟩
    obtain ⟨c1, c2⟩ := orE_zero c
    have e := fun x => (orE_r c1 (b := orE (namesF [n]) x)).trans (orE_r c2)
    refine ⟨fun d1 => ⟨fun d2 => ((e _).trans (if_pos ?_)).symm, fun d2 => c.trans ((e _).trans (if_neg ?_)).symm⟩, fun d1 => ((e _).trans (if_pos ?_)).symm⟩
    · rw [Bool.eq_false_iff]; exact fun u => by have := inB_iff.1 u; omega
    · exact ne_ft (inB_iff.2 ⟨by omega, by omega⟩)
    · rw [Bool.eq_false_iff]; exact fun u => by have := inB_iff.1 u; omega
  · rintro f hf
    refine vc_cutS (Int) (fun (g : Int) => [(5, .i g), (10, .un), (48, .un), (58, .un)]) [8] (fun (g : Int) => []) (fun (g : Int) => []) (fun (g : Int) => 4300) (fun (g : Int) => g = lastE l n b ∧ lastE l n b ≠ 0) [] ?_ ?_ ?_
    · rfl
    · simp only [go_sem, h.hP, List.cons_append, List.nil_append, Meets_e, Below_e, Prod.exists, exists_eq, exists_eq_left, exists_eq_left', exists_eq_right, exists_eq_right', exists_and_left, exists_and_right, Ob.arr.injEq, AV.own.injEq, AV.fv.injEq, namedOfS_q, namedOfS_p, namedOfS_c, namedOfS_f, sameS_q, sameS_p, sameS_c, sameS_f, happeningsS_q, happeningsS_p, happeningsS_c, happeningsS_f, namedOfS_q0, namedOfS_p0, sameS_qz, sameS_pz, TEvent.row, TEvent.len, TEvent.get, TWindow.row, TEvent.rows_inj, Tryz.ntmps5, Nat.reduceEqDiff, reduceCtorEq, Nat.reduceMul, Nat.reduceAdd, Nat.reduceSub, Nat.reduceDiv, Nat.reduceMod, Nat.reduceLeDiff, Nat.reduceLT, Nat.reduceBNe, Nat.reduceBEq, reduceIte, Int.reduceLE, Int.reduceLT, Int.reduceToNat, Int.reduceNeg, Int.reduceAdd, Int.reduceSub, Int.reduceMul, Int.reduceEq]
      have hE : lastE l n b = orE (eventsF l) (orE (namesF [n]) (if inB b 0 4321440 = false then 1 else if (lastO l n b).isSome = true then 0 else 8)) := rfl
      refine ⟨fun z => ?_, fun z => ?_⟩
      · rw [z] at hf
        obtain ⟨c1, c23⟩ := orE_zero hf.symm
        obtain ⟨c2, c3⟩ := orE_zero c23
        have c4 : ¬ inB b 0 4321440 = false := fun e => by rw [if_pos e] at c3; cases c3
        rw [orE_r c1, orE_r c2, if_neg c4] at hE
        obtain ⟨g1, g2⟩ := last_get l n b
        have hl := List.length_filter_le (lastP n b) l
        refine ⟨ok, ⟨okI_z, by show _ ≤ b; omega, by show b ≤ _; omega⟩, ?_⟩
        rw [named_last c1]
        refine ⟨fun q => ?_, fun q => ?_⟩
        · have e0 : lastE l n b = 0 := hE.trans (if_pos (g2.2 (by omega)))
          have hw : IntKind.i64.wrap (((l.filter (lastP n b)).length : Int) - 1) = ((l.filter (lastP n b)).length : Int) - 1 := i64w (by omega) (by omega)
          rw [hw, show (((l.filter (lastP n b)).length : Int) - 1).toNat = (l.filter (lastP n b)).length - 1 by omega, g1]
          have ev : lastV l n b = (lastO l n b).getD TEvent.z := if_pos e0
          refine ⟨fun _ => ⟨by omega, by omega, lastV_ok ok, ?_, fun x => ?_⟩, fun x => x e0⟩
          · rw [← ev]; exact lastV_ok ok
          · rw [← ev, sameB_t rfl] at x
            cases x
        · have e0 : lastE l n b = 8 := hE.trans (if_neg fun e => q (by have := g2.1 e; omega))
          exact ⟨e0.symm, by rw [e0]; decide⟩
      · have e0 : f = lastE l n b := by
          rw [hf] at z ⊢
          unfold lastE
          by_cases c1 : eventsF l = 0
          · rw [orE_r c1] at z ⊢
            rw [orE_r c1]
            by_cases c2 : namesF [n] = 0
            · rw [orE_r c2] at z ⊢
              rw [orE_r c2]
              by_cases c4 : inB b 0 4321440 = false
              · rw [if_pos c4, if_pos c4]
              · rw [if_neg c4] at z
                exact absurd rfl z
            · rw [orE_l c2, orE_l c2]
          · rw [orE_l c1, orE_l c1]
        exact ⟨e0, fun e => z (e0.trans e)⟩
    · rintro g ⟨hg, h0⟩
      simp only [go_sem, h.hP, List.cons_append, List.nil_append, Meets_e, Below_e, Prod.exists, exists_eq, exists_eq_left, exists_eq_left', exists_eq_right, exists_eq_right', exists_and_left, exists_and_right, Ob.arr.injEq, AV.own.injEq, AV.fv.injEq, namedOfS_q, namedOfS_p, namedOfS_c, namedOfS_f, sameS_q, sameS_p, sameS_c, sameS_f, happeningsS_q, happeningsS_p, happeningsS_c, happeningsS_f, sameS_qz, sameS_pz, TEvent.row, TEvent.len, TEvent.get, TWindow.row, TEvent.rows_inj, Tryz.ntmps5, Nat.reduceEqDiff, reduceCtorEq, Nat.reduceMul, Nat.reduceAdd, Nat.reduceSub, Nat.reduceDiv, Nat.reduceMod, Nat.reduceLeDiff, Nat.reduceLT, Nat.reduceBNe, Nat.reduceBEq, reduceIte, Int.reduceLE, Int.reduceLT, Int.reduceToNat, Int.reduceNeg, Int.reduceAdd, Int.reduceSub, Int.reduceMul, Int.reduceEq]
      refine ⟨fun _ => ⟨lastV_ok ok, TEvent.z_ok, fun x => ?_⟩, fun x => x hg.symm⟩
      rw [show lastV l n b = TEvent.z from if_neg h0, sameB_t rfl] at x
      cases x
end Go.Avc

/- EventLasts returns true for every slice of numbers, and leaves it as it was; the two tables of unicode/utf8, the pool of ids and the names of fields and of events, which its row lists, lie as the program lays them. -/
set_option linter.unusedVariables false
set_option linter.unusedSimpArgs false
set_option maxRecDepth 100000
namespace Go.Proofs.YtkkcjnimbejalaaGreatDoor.eventLasts
open Go.ChangeShapes Go.ChangeMaps Go.WideShapes Go.ChangeAt Go.RowKit Go.Avc

def exF (m : Int) : Nat → Option (List D)
  | 0 => some poolD
  | 2 => some namesD
  | 1 => some evNamesD
  | 3 => some [.int .i64 m]
  | _ => none
theorem lies {W : World} {m : Int} (hm : W.cell? ⟨3, 0, none⟩ = some (.int .i64 m)) (hL : laidMetH Tryz.prog Rows.eventLastsRow.laid W) : Lies W (exF m) := by
  intro k l hk
  have hk' : exF m k = some l := hk
  match k, hk' with
  | 0, hk' =>
    cases hk'
    have h := lies_of_reads (l := poolD) (m := 20) (Lib.laidMet.reads hL (n := "handbill/handmake.idPool") (d := Rows.laid_handbill_handmake_idPool) (by simp [Rows.eventLastsRow])) (g := 0) rfl rfl (by kernel_rfl) (by kernel_rfl) (by decide)
    exact ⟨by decide, h.1, by decide, h.2⟩
  | 2, hk' =>
    cases hk'
    have h := lies_of_reads (l := namesD) (m := 6) (Lib.laidMet.reads hL (n := "handbill/handmake.fieldNames") (d := Rows.laid_handbill_handmake_fieldNames) (by simp [Rows.eventLastsRow])) (g := 2) rfl rfl (by kernel_rfl) (by kernel_rfl) (by decide)
    exact ⟨by decide, h.1, by decide, h.2⟩
  | 1, hk' =>
    cases hk'
    have h := lies_of_reads (l := evNamesD) (m := 4) (Lib.laidMet.reads hL (n := "handbill/handmake.eventNames") (d := Rows.laid_handbill_handmake_eventNames) (by simp [Rows.eventLastsRow])) (g := 1) rfl rfl (by kernel_rfl) (by kernel_rfl) (by decide)
    exact ⟨by decide, h.1, by decide, h.2⟩
  | 3, hk' =>
    cases hk'
    refine ⟨by decide, ?_, rfl, fun j u hj => ?_⟩
    · by_cases hb : 3 < W.heap.size
      · exact hb
      · unfold World.cell? at hm
        rw [Array.getElem?_eq_none (show W.heap.size ≤ 3 by omega)] at hm
        cases hm
    · cases j with
      | zero => cases hj; exact hm
      | succ j => simp at hj
/-- A world for a witness. -/
def fillC (l : List D) : Obj → Obj
  | .cells _ t frozen => .cells (l.map vD).toArray t frozen
  | o => o
noncomputable def heapF (os : Os) : Array Obj :=
  (((laidWorld os).heap.modify 0 (fillC poolD)).modify 2 (fillC namesD)).modify 1 (fillC evNamesD)
noncomputable def worldF (os : Os) : World := { laidWorld os with heap := heapF os }
theorem metF (os : Os) (args : Array Value) : laidMet Tryz.prog Rows.eventLastsRow.laid ((worldF os).forCall (fun _ _ => 0) ⟨#[], args, []⟩).memory := laidMet_of_run' 8 (by kernel_rfl) (by kernel_rfl)
theorem own : ownKnob Tryz.prog.godebug = none := by kernel_rfl
theorem one3 : Tryz.prog.cellsOf 3 = 1 := by kernel_rfl

/-- WHAT THE WALK GIVES. -/
theorem contract (H : Type) (enc : TypeId × Value → H) (W : World) (base : Nat) (args : Array Value) (ds gs : List (DataW H)) (before : List MemPlace)
    (hval : ∀ (j : Nat) t v, Tryz.f5.params[j]? = some t → args[j]? = some v → Value.okWide Tryz.prog W .any base t v)
    (hW : DataW.Whole enc Tryz.prog Tryz.f5.params.toList Rows.eventLastsSpec.vars false W args.toList ds gs before) (hL : laidMetH Tryz.prog Rows.eventLastsRow.laid W) (hSh : W.ShapedOpen Tryz.prog) :
    Calls Tryz.prog 5 args W fun e W' => ∃ v, e = .returned v ∧ Rows.eventLastsSpec.post enc Tryz.prog Tryz.f5 false true false false W args v W' := by
  have hW' := hW
  obtain ⟨p, q, hA0, hV, rfl, hfz, hnd⟩ := hW
  have hA : DataW.TrodAll enc Tryz.prog W 0 (fun _ => true) true Tryz.f5.params.toList args.toList ds p := hA0
  rw [Tryz.params5] at hA hval
  obtain ⟨v0, vs0, d0, ds0, p0, q0, hargs, rfl, rfl, h0, r0⟩ := trodAll_cons hA
  obtain ⟨rfl, rfl, rfl⟩ := trodAll_nil r0
  obtain rfl : args = #[v0] := by cases args; simp_all
  obtain ⟨rfl, rfl⟩ := trodVars_none hV
  obtain ⟨A, L, cp, rfl, hrd, hsh⟩ := open_nums Tryz.underlying22 Tryz.underlying3 one3 (hval 0 22 v0 rfl rfl) h0
  clear hA0
  simp only [List.append_nil] at hW'
  obtain ⟨mx, hmx⟩ := Tryz.laysM144.s1_3 W hSh
  have hg := glAt_X (L := L) (ST := 25) (tabs_of_list hL (by simp [Rows.eventLastsRow]) (by simp [Rows.eventLastsRow])) (lies hmx hL)
  refine (el_walk (ng_of_shaped hSh) hrd hg (fun cx h => utf8_of_globX rfl h) rfl rfl rfl rfl).mono fun e W' ⟨he, hbl⟩ => ?_
  subst he
  refine ⟨_, rfl, post_of_below (pa := p0) (pv := []) hW' (fun _ _ _ => trodAll_cons_mk (shut_bool Tryz.underlying4 _) trodAll_mk0)
    (fun sp hsp => ?_) (fun _ _ => rfl) (List.append_nil _).symm hbl (ok_one (by kernel_rfl) rfl (okWide_bool_mk Tryz.underlying4 _))⟩
  have := trodAll_cons_mk (hsh W' hbl sp hsp) (trodAll_mk0 (w := W') (base := 0) (spare := sp) (held := true) (enc := enc))
  rw [List.append_nil] at this
  exact this
theorem reads (os : Os) {H : Type} (enc : TypeId × Value → H) : ∃ places, DataW.whole enc Tryz.prog ((worldF os).forCall (fun _ _ => 0) ⟨#[], #[.slice none 0 0], []⟩).memory Tryz.f5.params.toList Rows.eventLastsSpec.vars false #[Value.slice none 0 0].toList 8 = some ([.nil], [], places) :=
  ⟨[], by kernel_rfl⟩
theorem lifted (os : Os) (started : os.Started) (H : Type) (enc : TypeId × Value → H) (F : Stop.Interp) :
    ReturnsInHanded {} Tryz.checked os 5 .any ((OpenSpec.ofChange Rows.eventLastsSpec).preRow enc Tryz.prog Tryz.f5 Rows.eventLastsRow.domain false Rows.eventLastsRow.laid) (((OpenSpec.ofChange Rows.eventLastsSpec).at F).post enc Tryz.prog Tryz.f5 false true false false) := by
  obtain ⟨places, hx⟩ := reads os enc
  refine returnsInHanded_of_row (C := Tryz.checked) (s := OpenSpec.ofChange Rows.eventLastsSpec) own started (by kernel_rfl) Tryz.func5
    (witness_row_at (enc := enc) (C := Tryz.checked) false (worldF os) #[.slice none 0 0] rfl (by kernel_rfl) (by kernel_rfl) (by kernel_rfl)
      (OpenSpec.preRow_of_cond 8 hx (by kernel_rfl) (fun k hk => by cases hk) (by kernel_rfl) (metF os _))) ?_
  intro W base args ds gs before hval hW _ _ _ hL hSh _
  exact contract H enc W base args ds gs before hval hW hL hSh
theorem said : Rows.EventLastsSaid :=
  OpenClaim.holds_of_cond 5 Tryz.f5 rfl rfl rfl rfl rfl rfl rfl ⟨rfl, rfl, rfl, rfl, rfl⟩ rfl rfl rfl rfl rfl (by kernel_rfl) Tryz.func5 (by kernel_rfl)
    (of_decide_eq_true (by kernel_rfl)) (by unfold Func.isWrapper; first | (rw [if_pos (by decide +kernel)]; kernel_rfl) | (rw [if_neg (by decide +kernel)]; exact ⟨rfl, rfl⟩))
    (fun os started H enc _ F => by rw [OpenClaim.pre_eq_preRow]; exact lifted os started H enc F)
theorem plain (f : FuncId) (fn : Func) (hf : Tryz.pinned.checked.prog.funcNamed "handbill/handlaw2.EventLasts" = some f) (hfn : Tryz.pinned.checked.prog.funcs[f]? = some fn) :
    false = Tryz.pinned.checked.prog.looks [] ∧ ∀ (j : Nat) t, fn.params[j]? = some t → Tryz.pinned.checked.prog.wantsStandIn t = false := by
  obtain rfl : f = 5 := Option.some.inj ((show Tryz.prog.funcNamed "handbill/handlaw2.EventLasts" = some 5 by kernel_rfl).symm.trans hf) |>.symm
  obtain rfl : fn = Tryz.f5 := (Option.some.inj (Tryz.func5.symm.trans hfn)).symm
  refine ⟨by kernel_rfl, fun j t ht => ?_⟩
  rw [Tryz.params5] at ht
  obtain rfl : t = 22 := by simpa using Array.mem_of_getElem? ht
  exact (show Tryz.prog.wantsStandIn 22 = false by kernel_rfl)
theorem card : Rows.EventLastsCardSaid :=
  Claim7.holds_tied_plain_at .later [] _ _ _ _ said (fun _ h => by cases h) (by kernel_rfl) (fun _ h => by cases h) eventLasts_row_tie rfl ⟨rfl, rfl⟩ (by kernel_rfl) rfl plain (by kernel_rfl)
end Go.Proofs.YtkkcjnimbejalaaGreatDoor.eventLasts
