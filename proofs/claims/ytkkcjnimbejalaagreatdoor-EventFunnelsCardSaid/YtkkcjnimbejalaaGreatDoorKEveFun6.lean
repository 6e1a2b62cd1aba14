/- EventFunnels returns true for every slice of numbers, and leaves it as it was; the two tables of unicode/utf8, the pool of ids and the names of fields and of events, which its row lists, lie as the program lays them. -/
import Derived.Test.YtkkcjnimbejalaaGreatDoorCards
import Derived.Test.YtkkcjnimbejalaaGreatDoorTie
import Derived.WalkKit
import Derived.ProofKit
import Derived.OpenShut
import Derived.Deep.DeepHandedRow
import Derived.Test.YtkkcjnimbejalaaGreatDoorKEveFun1
import Derived.Test.YtkkcjnimbejalaaGreatDoorKEveFun2
import Derived.Test.YtkkcjnimbejalaaGreatDoorKEveFun3
import Derived.Test.YtkkcjnimbejalaaGreatDoorKEveFun4
import Derived.Test.YtkkcjnimbejalaaGreatDoorKEveFun5
/- Lists of events: what is wrong with them, by the program and by the reference. No condition. -/
set_option linter.unusedVariables false
set_option linter.unusedSimpArgs false
set_option maxRecDepth 100000
namespace Go.Avc
open Go Go.Proofs

/-! ### The order of events -/
def befB (a b : TEvent) : Bool := decide (a.at_ < b.at_ ∨ (a.at_ = b.at_ ∧ lessS a.id b.id = true))
def eordF (a b : TEvent) : Int := if a.at_ < b.at_ then -1 else if a.at_ > b.at_ then 1 else cmpT a.id b.id
theorem eord_neg (a b : TEvent) : (0 ≤ eordF a b) = (befB a b = false) := by
  apply propext
  unfold eordF befB cmpT
  rw [decide_eq_false_iff_not]
  by_cases h1 : a.at_ < b.at_
  · rw [if_pos h1]; exact ⟨fun h => absurd h (by decide), fun h => absurd (.inl h1) h⟩
  · rw [if_neg h1]
    by_cases h2 : a.at_ > b.at_
    · rw [if_pos h2]; exact ⟨fun _ h => by omega, fun _ => by decide⟩
    · rw [if_neg h2]
      have h3 : a.at_ = b.at_ := by omega
      by_cases h4 : lessS a.id b.id = true
      · rw [if_pos h4]; exact ⟨fun h => absurd h (by decide), fun h => absurd (.inr ⟨h3, h4⟩) h⟩
      · rw [if_neg h4]
        refine ⟨fun _ h => h.elim h1 (fun h => h4 h.2), fun _ => ?_⟩
        split <;> decide
def eordS  : Spec where
  pre xs := ∃ (a : TEvent) (b : TEvent), xs = [.dv (.ag a.row), .dv (.ag b.row)]
  post xs y := ∃ (a : TEvent) (b : TEvent), xs = [.dv (.ag a.row), .dv (.ag b.row)] ∧ y = .i (eordF a b)
  cost _ := 0
  fresh := true
theorem eordS_c  (xs : List AV) : (eordS).cost xs = 0 := nr rfl
theorem eordS_f  : (eordS).fresh = true := nr rfl
theorem eordS_q  (a : TEvent) (b : TEvent) : (eordS).pre [.dv (.ag [.str a.id, .str a.name, .int .i64 a.at_, .int .i64 a.who.kind, .str a.who.text, .sl (TField.rows a.fields)]), .dv (.ag [.str b.id, .str b.name, .int .i64 b.at_, .int .i64 b.who.kind, .str b.who.text, .sl (TField.rows b.fields)])] = (True) := propext ⟨fun h => by
  have h' : ∃ (a' : TEvent) (b' : TEvent), ([.dv (.ag a.row), .dv (.ag b.row)] : List AV) = [.dv (.ag a'.row), .dv (.ag b'.row)] := h
  obtain ⟨a', b', e⟩ := h'
  simp only [List.cons.injEq, AV.dv.injEq, AV.dp.injEq, AV.fv.injEq, DV.d.injEq, DV.ag.injEq, D.int.injEq, D.str.injEq, D.bool.injEq, D.sl.injEq, true_and, and_true, intsDi_inj, rowsT_inj, rowsKi_inj, TEvent.row_inj, TEvent.rows_inj, TEvent.row_inj, TEvent.rows_inj] at e
  obtain ⟨rfl, rfl⟩ := e
  exact trivial, fun h => ⟨a, b, rfl⟩⟩
theorem eordS_p  (a : TEvent) (b : TEvent) : (eordS).post [.dv (.ag [.str a.id, .str a.name, .int .i64 a.at_, .int .i64 a.who.kind, .str a.who.text, .sl (TField.rows a.fields)]), .dv (.ag [.str b.id, .str b.name, .int .i64 b.at_, .int .i64 b.who.kind, .str b.who.text, .sl (TField.rows b.fields)])] = fun y => y = .i (eordF a b) := funext fun y => propext ⟨fun h => by
  have h' : ∃ (a' : TEvent) (b' : TEvent), ([.dv (.ag a.row), .dv (.ag b.row)] : List AV) = [.dv (.ag a'.row), .dv (.ag b'.row)] ∧ y = .i (eordF a' b') := h
  obtain ⟨a', b', e, h⟩ := h'
  simp only [List.cons.injEq, AV.dv.injEq, AV.dp.injEq, AV.fv.injEq, DV.d.injEq, DV.ag.injEq, D.int.injEq, D.str.injEq, D.bool.injEq, D.sl.injEq, true_and, and_true, intsDi_inj, rowsT_inj, rowsKi_inj, TEvent.row_inj, TEvent.rows_inj, TEvent.row_inj, TEvent.rows_inj] at e
  obtain ⟨rfl, rfl⟩ := e
  exact h, fun h => ⟨a, b, rfl, h⟩⟩
theorem EOrder_ctr {cx : Cx} (h : Seat cx) : Ctr cx 75 eordS := by
  refine ctr_of (fn := Tryz.f75) (l := [.tmp 4]) (envL [(119, cmpISp), (120, cmpTSp), (118, orSp)]) [0, 1, 2, 3, 4] [] [] (envL_cons (compareI_ctr h) (envL_cons (compareT_ctr h) (envL_cons (or_ctr h) (env0 h.hP)))) ?_ (by rw [h.hP]; exact Tryz.func75) rfl (by kernel_rfl) rfl ?_ ?_
  · rw [h.hP]; exact ⟨_, Tryz.func75, by kernel_rfl, by kernel_rfl⟩
  · rintro xs ⟨a, b, rfl⟩; exact ⟨_, a, b, rfl, rfl⟩
  · rintro xs ⟨a, b, rfl⟩
    refine ⟨by rw [Tryz.ntmps75]; simp, ?_⟩
    simp only [go_sem, h.hP, List.cons_append, List.nil_append, Meets_e, Below_e, Prod.exists, exists_eq, exists_eq_left, exists_eq_left', exists_eq_right, exists_eq_right', exists_and_left, exists_and_right, Ob.arr.injEq, AV.own.injEq, AV.fv.injEq, eordS_q, eordS_p, eordS_c, eordS_f, cmpISp_q, cmpISp_p, cmpISp_c, cmpISp_f, cmpTSp_q, cmpTSp_p, cmpTSp_c, cmpTSp_f, orSp_q, orSp_p, orSp_c, orSp_f, TEvent.row, ints1, intsc, Tryz.ntmps75, Nat.reduceEqDiff, reduceCtorEq, Nat.reduceMul, Nat.reduceAdd, Nat.reduceSub, Nat.reduceDiv, Nat.reduceMod, Nat.reduceLeDiff, Nat.reduceLT, Nat.reduceBNe, Nat.reduceBEq, reduceIte, Int.reduceLE, Int.reduceLT, Int.reduceToNat, Int.reduceNeg, Int.reduceAdd, Int.reduceSub, Int.reduceMul, Int.reduceEq]
    rw [or_two]
    unfold eordF cmpI
    by_cases c1 : a.at_ < b.at_
    · rw [if_pos c1, if_pos c1]; rfl
    · rw [if_neg c1, if_neg c1]
      by_cases c2 : a.at_ > b.at_
      · rw [if_pos c2, if_pos c2]; rfl
      · rw [if_neg c2, if_neg c2]; rfl
def befS  : Spec where
  pre xs := ∃ (a : TEvent) (b : TEvent), xs = [.dv (.ag a.row), .dv (.ag b.row)]
  post xs y := ∃ (a : TEvent) (b : TEvent), xs = [.dv (.ag a.row), .dv (.ag b.row)] ∧ y = .b (befB a b)
  cost _ := 0
  fresh := true
theorem befS_c  (xs : List AV) : (befS).cost xs = 0 := nr rfl
theorem befS_f  : (befS).fresh = true := nr rfl
theorem befS_q  (a : TEvent) (b : TEvent) : (befS).pre [.dv (.ag [.str a.id, .str a.name, .int .i64 a.at_, .int .i64 a.who.kind, .str a.who.text, .sl (TField.rows a.fields)]), .dv (.ag [.str b.id, .str b.name, .int .i64 b.at_, .int .i64 b.who.kind, .str b.who.text, .sl (TField.rows b.fields)])] = (True) := propext ⟨fun h => by
  have h' : ∃ (a' : TEvent) (b' : TEvent), ([.dv (.ag a.row), .dv (.ag b.row)] : List AV) = [.dv (.ag a'.row), .dv (.ag b'.row)] := h
  obtain ⟨a', b', e⟩ := h'
  simp only [List.cons.injEq, AV.dv.injEq, AV.dp.injEq, AV.fv.injEq, DV.d.injEq, DV.ag.injEq, D.int.injEq, D.str.injEq, D.bool.injEq, D.sl.injEq, true_and, and_true, intsDi_inj, rowsT_inj, rowsKi_inj, TEvent.row_inj, TEvent.rows_inj, TEvent.row_inj, TEvent.rows_inj] at e
  obtain ⟨rfl, rfl⟩ := e
  exact trivial, fun h => ⟨a, b, rfl⟩⟩
theorem befS_p  (a : TEvent) (b : TEvent) : (befS).post [.dv (.ag [.str a.id, .str a.name, .int .i64 a.at_, .int .i64 a.who.kind, .str a.who.text, .sl (TField.rows a.fields)]), .dv (.ag [.str b.id, .str b.name, .int .i64 b.at_, .int .i64 b.who.kind, .str b.who.text, .sl (TField.rows b.fields)])] = fun y => y = .b (befB a b) := funext fun y => propext ⟨fun h => by
  have h' : ∃ (a' : TEvent) (b' : TEvent), ([.dv (.ag a.row), .dv (.ag b.row)] : List AV) = [.dv (.ag a'.row), .dv (.ag b'.row)] ∧ y = .b (befB a' b') := h
  obtain ⟨a', b', e, h⟩ := h'
  simp only [List.cons.injEq, AV.dv.injEq, AV.dp.injEq, AV.fv.injEq, DV.d.injEq, DV.ag.injEq, D.int.injEq, D.str.injEq, D.bool.injEq, D.sl.injEq, true_and, and_true, intsDi_inj, rowsT_inj, rowsKi_inj, TEvent.row_inj, TEvent.rows_inj, TEvent.row_inj, TEvent.rows_inj] at e
  obtain ⟨rfl, rfl⟩ := e
  exact h, fun h => ⟨a, b, rfl, h⟩⟩
theorem before_ctr {cx : Cx} (h : Seat cx) : Ctr cx 77 befS := by
  refine ctr_of (fn := Tryz.f77) (l := [.tmp 4]) (envL []) [0, 1, 2, 3, 4] [] [] (env0 h.hP) ?_ (by rw [h.hP]; exact Tryz.func77) rfl (by kernel_rfl) rfl ?_ ?_
  · rw [h.hP]; exact ⟨_, Tryz.func77, by kernel_rfl, by kernel_rfl⟩
  · rintro xs ⟨a, b, rfl⟩; exact ⟨_, a, b, rfl, rfl⟩
  · rintro xs ⟨a, b, rfl⟩
    refine ⟨by rw [Tryz.ntmps77]; simp, ?_⟩
    simp only [go_sem, h.hP, List.cons_append, List.nil_append, Meets_e, Below_e, Prod.exists, exists_eq, exists_eq_left, exists_eq_left', exists_eq_right, exists_eq_right', exists_and_left, exists_and_right, Ob.arr.injEq, AV.own.injEq, AV.fv.injEq, befS_q, befS_p, befS_c, befS_f, TEvent.row, Tryz.ntmps77, Nat.reduceEqDiff, reduceCtorEq, Nat.reduceMul, Nat.reduceAdd, Nat.reduceSub, Nat.reduceDiv, Nat.reduceMod, Nat.reduceLeDiff, Nat.reduceLT, Nat.reduceBNe, Nat.reduceBEq, reduceIte, Int.reduceLE, Int.reduceLT, Int.reduceToNat, Int.reduceNeg, Int.reduceAdd, Int.reduceSub, Int.reduceMul, Int.reduceEq]
    have e : befB a b = decide (a.at_ < b.at_ ∨ (a.at_ = b.at_ ∧ Op.bytesLess a.id.toList b.id.toList = true)) := rfl
    rw [e]
    generalize Op.bytesLess a.id.toList b.id.toList = q
    refine ⟨fun c => ⟨fun d => ?_, fun d => (decide_eq_false fun z => z.elim c fun z => d z.1).symm⟩, fun c => (decide_eq_true (.inl c)).symm⟩
    cases q with
    | false => exact (decide_eq_false fun z => z.elim c fun z => Bool.false_ne_true z.2).symm
    | true => exact (decide_eq_true (.inr ⟨d, rfl⟩)).symm

/-! ### Ids that were seen -/
def hasId (l : List TEvent) (s : ByteArray) : Bool := l.any fun e => decide (e.id = s)
def seenM (l : List TEvent) : List (D × D) := l.map fun e => (.str e.id, .bool true)
theorem mget_seen (l : List TEvent) (s : ByteArray) : (mget (seenM l) (.str s)).getD (.bool false) = .bool (hasId l s) := by
  induction l with
  | nil => rfl
  | cons e r ih =>
    show ((if decide (e.id = s) = true then some (D.bool true) else mget (seenM r) (.str s)).getD (.bool false)) = .bool (decide (e.id = s) || hasId r s)
    by_cases h : e.id = s
    · rw [decide_eq_true h]; rfl
    · rw [decide_eq_false h, Bool.false_or]; exact ih
theorem mput_seen {l : List TEvent} {s : ByteArray} (h : hasId l s = false) : mput (seenM l) (.str s) (.bool true) = seenM l ++ [(.str s, .bool true)] := by
  induction l with
  | nil => rfl
  | cons e r ih =>
    have h' : (decide (e.id = s) || hasId r s) = false := h
    rw [Bool.or_eq_false_iff] at h'
    show (if decide (e.id = s) = true then ((D.str s, D.bool true) :: seenM r) else (D.str e.id, D.bool true) :: mput (seenM r) (.str s) (.bool true)) = _
    rw [h'.1, ih h'.2]
    rfl
theorem seen_step {l : List TEvent} {i : Int} (h0 : 0 ≤ i) (hi : i < l.length) (h : hasId (l.take i.toNat) (l.getD i.toNat TEvent.z).id = false) : mput (seenM (l.take i.toNat)) (.str (l.getD i.toNat TEvent.z).id) (.bool true) = seenM (l.take (i + 1).toNat) := by
  rw [mput_seen h]
  have hi' : i.toNat < l.length := by omega
  rw [show (i + 1).toNat = i.toNat + 1 by omega, List.take_add_one, List.getElem?_eq_getElem hi']
  unfold seenM
  rw [List.map_append, List.getD_eq_getElem?_getD, List.getElem?_eq_getElem hi']
  rfl
def evE (l : List TEvent) (i : Nat) : Int := if evF (l.getD i TEvent.z) ≠ 0 then evF (l.getD i TEvent.z) else if 0 < (i : Int) ∧ befB (l.getD (i - 1) TEvent.z) (l.getD i TEvent.z) = false then 7 else if hasId (l.take i) (l.getD i TEvent.z).id = true then 6 else 0
def eventsF (l : List TEvent) : Int := if 5000 < (l.length : Int) then 2 else firstI l.length (evE l)
theorem evE_i (l : List TEvent) {i : Int} (hi : 0 ≤ i) : evE l i.toNat = if evF (l.getD i.toNat TEvent.z) ≠ 0 then evF (l.getD i.toNat TEvent.z) else if 0 < i ∧ befB (l.getD (i - 1).toNat TEvent.z) (l.getD i.toNat TEvent.z) = false then 7 else if hasId (l.take i.toNat) (l.getD i.toNat TEvent.z).id = true then 6 else 0 := by
  unfold evE
  rw [Int.toNat_of_nonneg hi, show i.toNat - 1 = (i - 1).toNat by omega]
def eventsS  : Spec where
  pre xs := ∃ (l : List TEvent), xs = [.sl (TEvent.rows l)] ∧ (okL TEvent.ok l)
  post xs y := ∃ (l : List TEvent), xs = [.sl (TEvent.rows l)] ∧ y = .i (eventsF l)
  cost _ := 0
  fresh := true
theorem eventsS_c  (xs : List AV) : (eventsS).cost xs = 0 := nr rfl
theorem eventsS_f  : (eventsS).fresh = true := nr rfl
theorem eventsS_q  (l : List TEvent) : (eventsS).pre [.sl (TEvent.rows l)] = (okL TEvent.ok l) := propext ⟨fun h => by
  have h' : ∃ (l' : List TEvent), ([.sl (TEvent.rows l)] : List AV) = [.sl (TEvent.rows l')] ∧ (okL TEvent.ok l') := h
  obtain ⟨l', e, h⟩ := h'
  simp only [List.cons.injEq, AV.dv.injEq, AV.dp.injEq, AV.fv.injEq, DV.d.injEq, DV.ag.injEq, D.int.injEq, D.str.injEq, D.bool.injEq, D.sl.injEq, true_and, and_true, intsDi_inj, rowsT_inj, rowsKi_inj, TEvent.row_inj, TEvent.rows_inj] at e
  obtain rfl := e
  exact h, fun h => ⟨l, rfl, h⟩⟩
theorem eventsS_p  (l : List TEvent) : (eventsS).post [.sl (TEvent.rows l)] = fun y => y = .i (eventsF l) := funext fun y => propext ⟨fun h => by
  have h' : ∃ (l' : List TEvent), ([.sl (TEvent.rows l)] : List AV) = [.sl (TEvent.rows l')] ∧ y = .i (eventsF l') := h
  obtain ⟨l', e, h⟩ := h'
  simp only [List.cons.injEq, AV.dv.injEq, AV.dp.injEq, AV.fv.injEq, DV.d.injEq, DV.ag.injEq, D.int.injEq, D.str.injEq, D.bool.injEq, D.sl.injEq, true_and, and_true, intsDi_inj, rowsT_inj, rowsKi_inj, TEvent.row_inj, TEvent.rows_inj] at e
  obtain rfl := e
  exact h, fun h => ⟨l, rfl, h⟩⟩
theorem check_round {l : List TEvent} (h1 : okL TEvent.ok l) {i : Int} (hr : Rounds l.length (evE l) i) : 0 ≤ i ∧ (0 < i → i < l.length → IntKind.i64.wrap (i - 1) = i - 1) ∧
    (i < l.length → ¬ evF (l.getD i.toNat TEvent.z) = 0 → evF (l.getD i.toNat TEvent.z) = firstI l.length (evE l)) ∧
    (i < l.length → evF (l.getD i.toNat TEvent.z) = 0 → 0 < i → befB (l.getD (i - 1).toNat TEvent.z) (l.getD i.toNat TEvent.z) = false → 7 = firstI l.length (evE l)) ∧
    (i < l.length → evF (l.getD i.toNat TEvent.z) = 0 → (0 < i → befB (l.getD (i - 1).toNat TEvent.z) (l.getD i.toNat TEvent.z) = true) → hasId (l.take i.toNat) (l.getD i.toNat TEvent.z).id = true → 6 = firstI l.length (evE l)) ∧
    (i < l.length → evF (l.getD i.toNat TEvent.z) = 0 → (0 < i → befB (l.getD (i - 1).toNat TEvent.z) (l.getD i.toNat TEvent.z) = true) → hasId (l.take i.toNat) (l.getD i.toNat TEvent.z).id = false →
      mput (seenM (l.take i.toNat)) (.str (l.getD i.toNat TEvent.z).id) (.bool true) = seenM (l.take (IntKind.i64.wrap (i + 1)).toNat) ∧ Rounds l.length (evE l) (IntKind.i64.wrap (i + 1)) ∧ ((l.length : Int) - IntKind.i64.wrap (i + 1)).toNat < ((l.length : Int) - i).toNat) ∧
    (¬ i < l.length → 0 = firstI l.length (evE l)) := by
  have hl := h1.1
  obtain ⟨hi, hS, hM, hE, hN⟩ := hr.use (by omega)
  have e0 := evE_i l hi
  have e1 : evF (l.getD i.toNat TEvent.z) = 0 → (0 < i → befB (l.getD (i - 1).toNat TEvent.z) (l.getD i.toNat TEvent.z) = true) → evE l i.toNat = if hasId (l.take i.toNat) (l.getD i.toNat TEvent.z).id = true then 6 else 0 := fun b d => by
    rw [e0, if_neg (fun z => z b), if_neg (fun z => ne_tf z.2 (d z.1))]
  refine ⟨hi, fun a b => i64w (by omega) (by omega), fun a b => (hE _ a (e0.trans (if_pos b)) b).symm, fun a b c d => (hE 7 a ?_ (by decide)).symm, fun a b c d => (hE 6 a ((e1 b c).trans (if_pos d)) (by decide)).symm, fun a b c d => ?_, fun a => (hN a).symm⟩
  · rw [e0, if_neg (fun z => z b), if_pos ⟨c, d⟩]
  · have hw : IntKind.i64.wrap (i + 1) = i + 1 := i64w (by omega) (by omega)
    refine ⟨?_, hS a ((e1 b c).trans (if_neg (ne_tf d))), hM a⟩
    rw [hw]
    exact seen_step hi a d
set_option maxHeartbeats 4000000 in
theorem ECheck_ctr {cx : Cx} (h : Seat cx) (hU : Utf8 cx) (hM : MaxL cx) : Ctr cx 32 eventsS := by
  refine ctr_of (fn := Tryz.f32) (l := [.tmp 2]) (envL [(74, evS), (75, eordS)]) [0, 2, 3, 4, 5, 6, 9, 11, 12, 13, 14, 21, 34, 38] [] [] (envL_cons (CheckOne_ctr h hU hM) (envL_cons (EOrder_ctr h) (env0 h.hP))) ?_ (by rw [h.hP]; exact Tryz.func32) rfl (by kernel_rfl) rfl ?_ ?_
  · rw [h.hP]; exact ⟨_, Tryz.func32, by kernel_rfl, by kernel_rfl⟩
  · rintro xs ⟨l, rfl, h1⟩; exact ⟨_, l, rfl, rfl⟩
  · rintro xs ⟨l, rfl, h1⟩
    refine ⟨by rw [Tryz.ntmps32]; simp, ?_⟩
    simp only [go_sem, h.hP, List.cons_append, List.nil_append, Meets_e, Below_e, Prod.exists, exists_eq, exists_eq_left, exists_eq_left', exists_eq_right, exists_eq_right', exists_and_left, exists_and_right, Ob.arr.injEq, AV.own.injEq, AV.fv.injEq, eventsS_q, eventsS_p, eventsS_c, eventsS_f, TEvent.len, Tryz.ntmps32, Nat.reduceEqDiff, reduceCtorEq, Nat.reduceMul, Nat.reduceAdd, Nat.reduceSub, Nat.reduceDiv, Nat.reduceMod, Nat.reduceLeDiff, Nat.reduceLT, Nat.reduceBNe, Nat.reduceBEq, reduceIte, Int.reduceLE, Int.reduceLT, Int.reduceToNat, Int.reduceNeg, Int.reduceAdd, Int.reduceSub, Int.reduceMul, Int.reduceEq]
    refine ⟨fun c => (if_pos c).symm, fun c => ?_⟩
    have hc : eventsF l = firstI l.length (evE l) := if_neg c
    rw [hc]
    refine vc_loopS (Int) (fun (i : Int) => [(13, .i i)]) [] (fun (i : Int) => []) (fun (i : Int) => [(10, .mp 122 (seenM (l.take i.toNat)))]) (fun (i : Int) => 0) (fun (i : Int) => Rounds l.length (evE l) i) (fun (i : Int) => (l.length - i).toNat) [] ?_ ?_
    · simp only [go_sem, h.hP, List.cons_append, List.nil_append, Meets_e, Below_e, Prod.exists, exists_eq, exists_eq_left, exists_eq_left', exists_eq_right, exists_eq_right', exists_and_left, exists_and_right, Ob.arr.injEq, AV.own.injEq, AV.fv.injEq, Tryz.ntmps32, Nat.reduceEqDiff, reduceCtorEq, Nat.reduceMul, Nat.reduceAdd, Nat.reduceSub, Nat.reduceDiv, Nat.reduceMod, Nat.reduceLeDiff, Nat.reduceLT, Nat.reduceBNe, Nat.reduceBEq, reduceIte, Int.reduceLE, Int.reduceLT, Int.reduceToNat, Int.reduceNeg, Int.reduceAdd, Int.reduceSub, Int.reduceMul, Int.reduceEq]
      exact ⟨rfl, Rounds.start⟩
    · rintro i hr
      obtain ⟨hi, hw, f5, f7, f6, f0, fe⟩ := check_round h1 hr
      have ho := okL_get h1 TEvent.z_ok
      simp only [go_sem, h.hP, List.cons_append, List.nil_append, Meets_e, Below_e, Prod.exists, exists_eq, exists_eq_left, exists_eq_left', exists_eq_right, exists_eq_right', exists_and_left, exists_and_right, Ob.arr.injEq, AV.own.injEq, AV.fv.injEq, eventsS_q, eventsS_p, eventsS_c, eventsS_f, evS_q, evS_p, evS_c, evS_f, eordS_q, eordS_p, eordS_c, eordS_f, TEvent.row, TEvent.len, TEvent.get, mget_seen, eord_neg, Tryz.ntmps32, Nat.reduceEqDiff, reduceCtorEq, Nat.reduceMul, Nat.reduceAdd, Nat.reduceSub, Nat.reduceDiv, Nat.reduceMod, Nat.reduceLeDiff, Nat.reduceLT, Nat.reduceBNe, Nat.reduceBEq, reduceIte, Int.reduceLE, Int.reduceLT, Int.reduceToNat, Int.reduceNeg, Int.reduceAdd, Int.reduceSub, Int.reduceMul, Int.reduceEq]
      refine ⟨fun a => ⟨hi, a, ho _, f5 a, fun b => ⟨fun c => ?_, fun c => ⟨f6 a b (fun d => absurd d c), f0 a b (fun d => absurd d c)⟩⟩⟩, fe⟩
      rw [hw c a]
      exact ⟨by omega, by omega, f7 a b c, fun d => ⟨f6 a b (fun _ => by simpa using d), f0 a b (fun _ => by simpa using d)⟩⟩
set_option maxHeartbeats 4000000 in
theorem EventsFault_ctr {cx : Cx} (h : Seat cx) (hU : Utf8 cx) (hM : MaxL cx) : Ctr cx 33 eventsS := by
  refine ctr_of (fn := Tryz.f33) (l := [.tmp 2]) (envL [(76, evS), (77, befS)]) [0, 2, 3, 4, 5, 6, 9, 11, 12, 13, 14, 21, 34, 38] [] [] (envL_cons (eventFault_ctr h hU hM) (envL_cons (before_ctr h) (env0 h.hP))) ?_ (by rw [h.hP]; exact Tryz.func33) rfl (by kernel_rfl) rfl ?_ ?_
  · rw [h.hP]; exact ⟨_, Tryz.func33, by kernel_rfl, by kernel_rfl⟩
  · rintro xs ⟨l, rfl, h1⟩; exact ⟨_, l, rfl, rfl⟩
  · rintro xs ⟨l, rfl, h1⟩
    refine ⟨by rw [Tryz.ntmps33]; simp, ?_⟩
    simp only [go_sem, h.hP, List.cons_append, List.nil_append, Meets_e, Below_e, Prod.exists, exists_eq, exists_eq_left, exists_eq_left', exists_eq_right, exists_eq_right', exists_and_left, exists_and_right, Ob.arr.injEq, AV.own.injEq, AV.fv.injEq, eventsS_q, eventsS_p, eventsS_c, eventsS_f, TEvent.len, Tryz.ntmps33, Nat.reduceEqDiff, reduceCtorEq, Nat.reduceMul, Nat.reduceAdd, Nat.reduceSub, Nat.reduceDiv, Nat.reduceMod, Nat.reduceLeDiff, Nat.reduceLT, Nat.reduceBNe, Nat.reduceBEq, reduceIte, Int.reduceLE, Int.reduceLT, Int.reduceToNat, Int.reduceNeg, Int.reduceAdd, Int.reduceSub, Int.reduceMul, Int.reduceEq]
    refine ⟨fun c => (if_pos c).symm, fun c => ?_⟩
    have hc : eventsF l = firstI l.length (evE l) := if_neg c
    rw [hc]
    refine vc_loopS (Int) (fun (i : Int) => [(13, .i i)]) [] (fun (i : Int) => []) (fun (i : Int) => [(10, .mp 122 (seenM (l.take i.toNat)))]) (fun (i : Int) => 0) (fun (i : Int) => Rounds l.length (evE l) i) (fun (i : Int) => (l.length - i).toNat) [] ?_ ?_
    · simp only [go_sem, h.hP, List.cons_append, List.nil_append, Meets_e, Below_e, Prod.exists, exists_eq, exists_eq_left, exists_eq_left', exists_eq_right, exists_eq_right', exists_and_left, exists_and_right, Ob.arr.injEq, AV.own.injEq, AV.fv.injEq, Tryz.ntmps33, Nat.reduceEqDiff, reduceCtorEq, Nat.reduceMul, Nat.reduceAdd, Nat.reduceSub, Nat.reduceDiv, Nat.reduceMod, Nat.reduceLeDiff, Nat.reduceLT, Nat.reduceBNe, Nat.reduceBEq, reduceIte, Int.reduceLE, Int.reduceLT, Int.reduceToNat, Int.reduceNeg, Int.reduceAdd, Int.reduceSub, Int.reduceMul, Int.reduceEq]
      exact ⟨rfl, Rounds.start⟩
    · rintro i hr
      obtain ⟨hi, hw, f5, f7, f6, f0, fe⟩ := check_round h1 hr
      have ho := okL_get h1 TEvent.z_ok
      simp only [go_sem, h.hP, List.cons_append, List.nil_append, Meets_e, Below_e, Prod.exists, exists_eq, exists_eq_left, exists_eq_left', exists_eq_right, exists_eq_right', exists_and_left, exists_and_right, Ob.arr.injEq, AV.own.injEq, AV.fv.injEq, eventsS_q, eventsS_p, eventsS_c, eventsS_f, evS_q, evS_p, evS_c, evS_f, befS_q, befS_p, befS_c, befS_f, TEvent.row, TEvent.len, TEvent.get, mget_seen, Tryz.ntmps33, Nat.reduceEqDiff, reduceCtorEq, Nat.reduceMul, Nat.reduceAdd, Nat.reduceSub, Nat.reduceDiv, Nat.reduceMod, Nat.reduceLeDiff, Nat.reduceLT, Nat.reduceBNe, Nat.reduceBEq, reduceIte, Int.reduceLE, Int.reduceLT, Int.reduceToNat, Int.reduceNeg, Int.reduceAdd, Int.reduceSub, Int.reduceMul, Int.reduceEq]
      refine ⟨fun a => ⟨hi, a, ho _, f5 a, fun b => ⟨fun c => ?_, fun c => ⟨f6 a b (fun d => absurd d c), f0 a b (fun d => absurd d c)⟩⟩⟩, fe⟩
      rw [hw c a]
      exact ⟨by omega, by omega, f7 a b c, fun d => ⟨f6 a b (fun _ => by simpa using d), f0 a b (fun _ => by simpa using d)⟩⟩
/-! ### What holds of events that are right -/
theorem ev_right {l : List TEvent} (h : eventsF l = 0) : l.length ≤ 5000 ∧ (∀ i, i < l.length → evF (l.getD i TEvent.z) = 0) ∧ ∀ i, 0 < i → i < l.length → befB (l.getD (i - 1) TEvent.z) (l.getD i TEvent.z) = true := by
  unfold eventsF at h
  split at h
  · cases h
  · rename_i hl
    have key := fun i (hi : i < l.length) => firstI_zero h i hi
    have h1 : ∀ i, i < l.length → evF (l.getD i TEvent.z) = 0 := fun i hi => by
      have := key i hi
      unfold evE at this
      split at this
      · rename_i c; exact absurd this c
      · rename_i c; exact Decidable.not_not.1 c
    refine ⟨by omega, h1, fun i h0 hi => ?_⟩
    have := key i hi
    unfold evE at this
    rw [if_neg (fun z => z (h1 i hi))] at this
    split at this
    · cases this
    · rename_i c
      cases hb : befB (l.getD (i - 1) TEvent.z) (l.getD i TEvent.z) with
      | true => rfl
      | false => exact absurd ⟨by omega, hb⟩ c
theorem evF_at {e : TEvent} (h : evF e = 0) : 0 ≤ e.at_ ∧ e.at_ ≤ 4321439 := by
  unfold evF at h
  split at h
  · cases h
  · split at h
    · cases h
    · rename_i c
      rw [Bool.not_eq_false] at c
      exact inB_iff.1 c
def atsL (l : List TEvent) : List Int := l.map TEvent.at_
theorem atsL_get (l : List TEvent) {i : Nat} (hi : i < l.length) : (atsL l).getD i 0 = (l.getD i TEvent.z).at_ := by
  unfold atsL
  rw [List.getD_eq_getElem?_getD, List.getD_eq_getElem?_getD, List.getElem?_map, List.getElem?_eq_getElem hi]
  rfl
theorem ats_sorted {l : List TEvent} (h : eventsF l = 0) : (atsL l).Pairwise (· ≤ ·) := by
  obtain ⟨_, _, h2⟩ := ev_right h
  have hstep : ∀ i, 0 < i → i < l.length → (l.getD (i - 1) TEvent.z).at_ ≤ (l.getD i TEvent.z).at_ := fun i h0 hi => by
    have := h2 i h0 hi
    unfold befB at this
    rw [decide_eq_true_eq] at this
    omega
  have hall : ∀ j i, i ≤ j → j < l.length → (l.getD i TEvent.z).at_ ≤ (l.getD j TEvent.z).at_ := by
    intro j
    induction j with
    | zero => intro i hi _; obtain rfl : i = 0 := by omega
              exact Int.le_refl _
    | succ j ih =>
      intro i hi hj
      by_cases e : i = j + 1
      · subst e; exact Int.le_refl _
      · have h3 := ih i (by omega) (by omega)
        have h4 := hstep (j + 1) (by omega) hj
        rw [Nat.add_sub_cancel] at h4
        omega
  rw [List.pairwise_iff_getElem]
  intro i j hi hj hij
  have hi' : i < l.length := by unfold atsL at hi; simpa using hi
  have hj' : j < l.length := by unfold atsL at hj; simpa using hj
  have h3 := hall j i (by omega) hj'
  rw [← atsL_get l hi', ← atsL_get l hj', List.getD_eq_getElem?_getD, List.getD_eq_getElem?_getD, List.getElem?_eq_getElem hi, List.getElem?_eq_getElem hj] at h3
  exact h3
end Go.Avc

/- Names and windows: what is wrong with them. No condition. -/
set_option linter.unusedVariables false
set_option linter.unusedSimpArgs false
set_option maxRecDepth 100000
namespace Go.Avc
open Go Go.Proofs

def winE (w : TWindow) : Int := if 0 ≤ w.from_ ∧ w.from_ ≤ w.to_ ∧ w.to_ ≤ 4321440 then 0 else 1
def winS  : Spec where
  pre xs := ∃ (w : TWindow), xs = [.dv (.ag w.row)]
  post xs y := ∃ (w : TWindow), xs = [.dv (.ag w.row)] ∧ y = .i (winE w)
  cost _ := 0
  fresh := true
def nameE (l : List ByteArray) (i : Nat) : Int := if keyB (l.getD i ⟨#[]⟩) = false then 5 else 0
def namesF (l : List ByteArray) : Int := firstI l.length (nameE l)
def namesS  : Spec where
  pre xs := ∃ (l : List ByteArray), xs = [.sl (rowsT l)] ∧ (okL okS l)
  post xs y := ∃ (l : List ByteArray), xs = [.sl (rowsT l)] ∧ y = .i (namesF l)
  cost _ := 0
  fresh := true
theorem namesS_c  (xs : List AV) : (namesS).cost xs = 0 := nr rfl
theorem namesS_f  : (namesS).fresh = true := nr rfl
theorem namesS_q  (l : List ByteArray) : (namesS).pre [.sl (rowsT l)] = (okL okS l) := propext ⟨fun h => by
  have h' : ∃ (l' : List ByteArray), ([.sl (rowsT l)] : List AV) = [.sl (rowsT l')] ∧ (okL okS l') := h
  obtain ⟨l', e, h⟩ := h'
  simp only [List.cons.injEq, AV.dv.injEq, AV.dp.injEq, AV.fv.injEq, DV.d.injEq, DV.ag.injEq, D.int.injEq, D.str.injEq, D.bool.injEq, D.sl.injEq, true_and, and_true, intsDi_inj, rowsT_inj, rowsKi_inj] at e
  obtain rfl := e
  exact h, fun h => ⟨l, rfl, h⟩⟩
theorem namesS_p  (l : List ByteArray) : (namesS).post [.sl (rowsT l)] = fun y => y = .i (namesF l) := funext fun y => propext ⟨fun h => by
  have h' : ∃ (l' : List ByteArray), ([.sl (rowsT l)] : List AV) = [.sl (rowsT l')] ∧ y = .i (namesF l') := h
  obtain ⟨l', e, h⟩ := h'
  simp only [List.cons.injEq, AV.dv.injEq, AV.dp.injEq, AV.fv.injEq, DV.d.injEq, DV.ag.injEq, D.int.injEq, D.str.injEq, D.bool.injEq, D.sl.injEq, true_and, and_true, intsDi_inj, rowsT_inj, rowsKi_inj] at e
  obtain rfl := e
  exact h, fun h => ⟨l, rfl, h⟩⟩
theorem nameFault_ctr {cx : Cx} (h : Seat cx) : Ctr cx 22 namesS := by
  refine ctr_of (fn := Tryz.f22) (l := [.tmp 2]) (envL [(65, (strB keyB))]) [0, 2, 4, 5, 6, 7, 8, 13] [] [] (envL_cons (Key_ctr h) (env0 h.hP)) ?_ (by rw [h.hP]; exact Tryz.func22) rfl (by kernel_rfl) rfl ?_ ?_
  · rw [h.hP]; exact ⟨_, Tryz.func22, by kernel_rfl, by kernel_rfl⟩
  · rintro xs ⟨l, rfl, h1⟩; exact ⟨_, l, rfl, rfl⟩
  · rintro xs ⟨l, rfl, h1⟩
    refine ⟨by rw [Tryz.ntmps22]; simp, ?_⟩
    simp only [go_sem, h.hP, List.cons_append, List.nil_append, Meets_e, Below_e, Prod.exists, exists_eq, exists_eq_left, exists_eq_left', exists_eq_right, exists_eq_right', exists_and_left, exists_and_right, Ob.arr.injEq, AV.own.injEq, AV.fv.injEq, namesS_q, namesS_p, namesS_c, namesS_f, rowsT_len, Tryz.ntmps22, Nat.reduceEqDiff, reduceCtorEq, Nat.reduceMul, Nat.reduceAdd, Nat.reduceSub, Nat.reduceDiv, Nat.reduceMod, Nat.reduceLeDiff, Nat.reduceLT, Nat.reduceBNe, Nat.reduceBEq, reduceIte, Int.reduceLE, Int.reduceLT, Int.reduceToNat, Int.reduceNeg, Int.reduceAdd, Int.reduceSub, Int.reduceMul, Int.reduceEq]
    refine vc_loopS (Int) (fun (i : Int) => [(7, .i i)]) [] (fun (i : Int) => []) (fun (i : Int) => []) (fun (i : Int) => 0) (fun (i : Int) => Rounds l.length (nameE l) i) (fun (i : Int) => (l.length - i).toNat) [] ?_ ?_
    · simp only [go_sem, h.hP, List.cons_append, List.nil_append, Meets_e, Below_e, Prod.exists, exists_eq, exists_eq_left, exists_eq_left', exists_eq_right, exists_eq_right', exists_and_left, exists_and_right, Ob.arr.injEq, AV.own.injEq, AV.fv.injEq, Tryz.ntmps22, Nat.reduceEqDiff, reduceCtorEq, Nat.reduceMul, Nat.reduceAdd, Nat.reduceSub, Nat.reduceDiv, Nat.reduceMod, Nat.reduceLeDiff, Nat.reduceLT, Nat.reduceBNe, Nat.reduceBEq, reduceIte, Int.reduceLE, Int.reduceLT, Int.reduceToNat, Int.reduceNeg, Int.reduceAdd, Int.reduceSub, Int.reduceMul, Int.reduceEq]
      exact Rounds.start
    · rintro i hr
      obtain ⟨hi, hS, hM, hE, hN⟩ := hr.use (by have := h1.1; omega)
      have ho : okS (l.getD i.toNat ⟨#[]⟩) := okL_get h1 okS_z _
      simp only [go_sem, h.hP, List.cons_append, List.nil_append, Meets_e, Below_e, Prod.exists, exists_eq, exists_eq_left, exists_eq_left', exists_eq_right, exists_eq_right', exists_and_left, exists_and_right, Ob.arr.injEq, AV.own.injEq, AV.fv.injEq, namesS_q, namesS_p, namesS_c, namesS_f, strB_q, strB_p, strB_c, strB_f, rowsT_len, rowsT_get, Tryz.ntmps22, Nat.reduceEqDiff, reduceCtorEq, Nat.reduceMul, Nat.reduceAdd, Nat.reduceSub, Nat.reduceDiv, Nat.reduceMod, Nat.reduceLeDiff, Nat.reduceLT, Nat.reduceBNe, Nat.reduceBEq, reduceIte, Int.reduceLE, Int.reduceLT, Int.reduceToNat, Int.reduceNeg, Int.reduceAdd, Int.reduceSub, Int.reduceMul, Int.reduceEq]
      unfold okS at ho
      exact ⟨fun a => ⟨hi, a, by omega, fun b => (hE 5 a (if_pos b) (by decide)).symm, fun b => ⟨hS a (if_neg (ne_ft b)), hM a⟩⟩, fun a => (hN a).symm⟩
def cnS  : Spec where
  pre xs := ∃ (l : List TEvent) (w : TWindow) (ns : List ByteArray), xs = [.sl (TEvent.rows l), .dv (.ag w.row), .sl (rowsT ns)] ∧ (okL TEvent.ok l ∧ okL okS ns)
  post xs y := ∃ (l : List TEvent) (w : TWindow) (ns : List ByteArray), xs = [.sl (TEvent.rows l), .dv (.ag w.row), .sl (rowsT ns)] ∧ y = .i (orE (eventsF l) (orE (namesF ns) (winE w)))
  cost _ := 0
  fresh := true
def nameG : Spec where
  pre xs := xs = [.st]
  post xs y := ∃ s : ByteArray, okS s ∧ y = .str s
  cost _ := 2
  fresh := false
theorem Name_ctr {cx : Cx} (h : Seat cx) : Ctr cx 19 nameG := by
  refine ctr_of (fn := Tryz.f19) (l := [.tmp 2]) (envL [(26, flipS), (61, oneS)]) [0, 2, 4] [] [] (envL_cons (flip_ctr cx h.hP h.hS) (envL_cons (one_ctr h) (env0 h.hP))) ?_ (by rw [h.hP]; exact Tryz.func19) rfl (by kernel_rfl) rfl ?_ ?_
  · rw [h.hP]; exact ⟨_, Tryz.func19, by kernel_rfl, by kernel_rfl⟩
  · rintro xs rfl; exact ⟨_, ⟨#[]⟩, okS_z, rfl⟩
  · rintro xs rfl
    refine ⟨by rw [Tryz.ntmps19]; simp, ?_⟩
    simp only [go_sem, h.hP, List.cons_append, List.nil_append, Meets_e, Below_e, Prod.exists, exists_eq, exists_eq_left, exists_eq_left', exists_eq_right, exists_eq_right', exists_and_left, exists_and_right, Ob.arr.injEq, AV.own.injEq, AV.fv.injEq, nameG, flipS_q, flipS_p, flipS_c, flipS_f, oneS_q, oneS_p, oneS_c, oneS_f, strs1, strsc, Tryz.ntmps19, Nat.reduceEqDiff, reduceCtorEq, Nat.reduceMul, Nat.reduceAdd, Nat.reduceSub, Nat.reduceDiv, Nat.reduceMod, Nat.reduceLeDiff, Nat.reduceLT, Nat.reduceBNe, Nat.reduceBEq, reduceIte, Int.reduceLE, Int.reduceLT, Int.reduceToNat, Int.reduceNeg, Int.reduceAdd, Int.reduceSub, Int.reduceMul, Int.reduceEq]
    exact fun f => ⟨fun _ s hs => okS_of (isOf_ok hs (by decide +kernel)), fun _ s hs => okS_of (isOf_ok hs (by decide +kernel))⟩
end Go.Avc

/- How far events go along steps: what the program and the reference compute. No condition. -/
set_option linter.unusedVariables false
set_option linter.unusedSimpArgs false
set_option maxRecDepth 100000
namespace Go.Avc
open Go Go.Proofs

theorem upd_lkU (L : List (Nat × AV)) (k : Nat) (v : AV) : upd (lk .un L) k v = lk .un ((k, v) :: L) := rfl
theorem rowsT_appU (l m : List ByteArray) : rowsT l ++ rowsT m = rowsT (l ++ m) := (List.map_append ..).symm
theorem rowsT_zlU (l : List ByteArray) : (∀ y ∈ rowsT l, y.length = 1) = True := eq_true fun y hy => by
  obtain ⟨x, _, rfl⟩ := List.mem_map.1 hy
  rfl
theorem rowsT_nil2 (l : List ByteArray) : ([] = rowsT l) = (l = []) := propext ⟨fun h => List.map_eq_nil_iff.1 h.symm, fun h => h ▸ rfl⟩
theorem rowsT_flatU (l : List ByteArray) : ((rowsT l).all fun x => x.all D.flat) = true := by
  rw [List.all_eq_true]
  intro y hy
  obtain ⟨x, _, rfl⟩ := List.mem_map.1 hy
  rfl
/-- The last event with a name, of the first b ones. -/
def lastN (l : List TEvent) (s : ByteArray) : Nat → Option Nat
  | 0 => none
  | b + 1 => if (l.getD b TEvent.z).name = s then some b else lastN l s b
theorem lastN_lt {l : List TEvent} {s : ByteArray} : ∀ {b j : Nat}, lastN l s b = some j → j < b ∧ (l.getD j TEvent.z).name = s
  | 0, j, h => by cases h
  | b + 1, j, h => by
    unfold lastN at h
    split at h
    · rename_i c
      cases h
      exact ⟨Nat.lt_succ_self _, c⟩
    · have := lastN_lt h
      exact ⟨by omega, this.2⟩
/-- The places of the first m steps, each as late as may be, all below b. -/
def chainP (l : List TEvent) (f : Nat → ByteArray) : Nat → Nat → Option (List Int)
  | 0, _ => some []
  | m + 1, b => match lastN l (f m) b with
    | none => none
    | some j => (chainP l f m j).map (· ++ [(j : Int)])
theorem chainP_congr {l : List TEvent} {f g : Nat → ByteArray} : ∀ {m : Nat} (b : Nat), (∀ k, k < m → f k = g k) → chainP l f m b = chainP l g m b
  | 0, _, _ => rfl
  | m + 1, b, h => by
    unfold chainP
    rw [h m (Nat.lt_succ_self _)]
    cases lastN l (g m) b with
    | none => rfl
    | some j =>
      show Option.map _ (chainP l f m j) = Option.map _ (chainP l g m j)
      rw [chainP_congr j fun k hk => h k (by omega)]
theorem chainP_in {l : List TEvent} {f : Nat → ByteArray} : ∀ {m b : Nat} {c : List Int}, chainP l f m b = some c → c.length = m ∧ ∀ j ∈ c, 0 ≤ j ∧ j < (b : Int)
  | 0, b, c, h => by
    cases h
    exact ⟨rfl, fun j hj => by cases hj⟩
  | m + 1, b, c, h => by
    unfold chainP at h
    split at h
    · cases h
    · rename_i j hj
      have hb := (lastN_lt hj).1
      cases hc : chainP l f m j with
      | none => rw [hc] at h; cases h
      | some d =>
        rw [hc] at h
        cases h
        obtain ⟨h1, h2⟩ := chainP_in hc
        refine ⟨by rw [List.length_append, h1]; rfl, fun x hx => ?_⟩
        rcases List.mem_append.1 hx with hx | hx
        · have := h2 x hx; omega
        · rw [List.mem_singleton] at hx; omega
theorem chainP_hit {l : List TEvent} {f : Nat → ByteArray} {m b : Nat} (h : (l.getD b TEvent.z).name = f m) : chainP l f (m + 1) (b + 1) = (chainP l f m b).map (· ++ [(b : Int)]) := by
  show (match lastN l (f m) (b + 1) with
    | none => none
    | some j => (chainP l f m j).map (· ++ [(j : Int)])) = _
  unfold lastN
  rw [if_pos h]
/-- The first that a search finds. -/
def firstS (g : Nat → Option (List Int)) (n : Nat) : Option (List Int) := (List.range n).findSome? g
theorem firstS_at {g : Nat → Option (List Int)} {n i : Nat} {c : List Int} (hi : i < n) (h : ∀ j, j < i → g j = none) (hg : g i = some c) : firstS g n = some c := by
  unfold firstS
  rw [show n = i + (n - i) by omega, List.range_add, List.findSome?_append, List.findSome?_eq_none_iff.2 (fun x hx => h x (List.mem_range.1 hx))]
  rw [show n - i = (n - i - 1) + 1 by omega, List.range_succ_eq_map, List.map_cons, List.findSome?_cons]
  simp [hg]
theorem firstS_no {g : Nat → Option (List Int)} {n : Nat} (h : ∀ j, j < n → g j = none) : firstS g n = none := by
  unfold firstS
  exact List.findSome?_eq_none_iff.2 fun x hx => h x (List.mem_range.1 hx)
def stepF (ss : List ByteArray) (k : Nat) : ByteArray := ss.getD k ⟨#[]⟩
def headI (c : List Int) : Int := c.headD 0
/-- A chain that is not too long. -/
def cutF (l : List TEvent) (w : Int) (i : Nat) : Option (List Int) → Option (List Int)
  | some c => if (l.getD i TEvent.z).at_ - (l.getD (headI c).toNat TEvent.z).at_ ≤ w then some c else none
  | none => none
/-- The chain of m steps that ends at an event, if it is not too long. -/
def hitF (l : List TEvent) (ss : List ByteArray) (w : Int) (m i : Nat) : Option (List Int) := if (l.getD i TEvent.z).name = stepF ss (m - 1) then cutF l w i (chainP l (stepF ss) m (i + 1)) else none
def funS (l : List TEvent) (ss : List ByteArray) (w : Int) : Nat → Option (List Int)
  | 0 => none
  | m + 1 => match firstS (hitF l ss w (m + 1)) l.length with
    | some c => some c
    | none => funS l ss w m
def idsL (l : List TEvent) (c : List Int) : List ByteArray := c.map fun j => (l.getD j.toNat TEvent.z).id
def funR (l : List TEvent) (ss : List ByteArray) (w : Int) : List ByteArray := match funS l ss w ss.length with
  | some c => idsL l c
  | none => []

theorem idsL_step (l : List TEvent) (c : List Int) {i : Int} (h0 : 0 ≤ i) (hi : i < c.length) : idsL l (c.take (i + 1).toNat) = idsL l (c.take i.toNat) ++ [(l.getD (c.getD i.toNat 0).toNat TEvent.z).id] := by
  have hi' : i.toNat < c.length := by omega
  have e : c.getD i.toNat 0 = c[i.toNat] := by rw [List.getD_eq_getElem?_getD, List.getElem?_eq_getElem hi']; rfl
  rw [e, show (i + 1).toNat = i.toNat + 1 by omega, List.take_add_one, List.getElem?_eq_getElem hi']
  unfold idsL
  rw [List.map_append]
  rfl
theorem idsL_len (l : List TEvent) (c : List Int) : (idsL l c).length = c.length := List.length_map ..
/-! ### The chain, by the program -/
def ledI (l : List TEvent) (ss : List ByteArray) (e : Int) : List Int := (chainP l (stepF ss) ss.length (e + 1).toNat).getD []
def ledB (l : List TEvent) (ss : List ByteArray) (e : Int) : Bool := (chainP l (stepF ss) ss.length (e + 1).toNat).isSome
def ledS  : Spec where
  pre xs := ∃ (l : List TEvent) (ss : List ByteArray) (e : Int), xs = [.sl (TEvent.rows l), .sl (rowsT ss), .i e] ∧ (okL TEvent.ok l ∧ ss.length ≤ 1000 ∧ 0 ≤ e ∧ e < l.length)
  post xs y := ∃ (l : List TEvent) (ss : List ByteArray) (e : Int), xs = [.sl (TEvent.rows l), .sl (rowsT ss), .i e] ∧ y = .tcons (.sl (intsD (ledI l ss e))) (.tcons (.b (ledB l ss e)) .tnil)
  cost _ := 0
  fresh := true
theorem ledS_c  (xs : List AV) : (ledS).cost xs = 0 := nr rfl
theorem ledS_f  : (ledS).fresh = true := nr rfl
theorem ledS_q  (l : List TEvent) (ss : List ByteArray) (e : Int) : (ledS).pre [.sl (TEvent.rows l), .sl (rowsT ss), .i e] = (okL TEvent.ok l ∧ ss.length ≤ 1000 ∧ 0 ≤ e ∧ e < l.length) := propext ⟨fun h => by
  have h' : ∃ (l' : List TEvent) (ss' : List ByteArray) (e' : Int), ([.sl (TEvent.rows l), .sl (rowsT ss), .i e] : List AV) = [.sl (TEvent.rows l'), .sl (rowsT ss'), .i e'] ∧ (okL TEvent.ok l' ∧ ss'.length ≤ 1000 ∧ 0 ≤ e' ∧ e' < l'.length) := h
  obtain ⟨l', ss', e', e, h⟩ := h'
  simp only [List.cons.injEq, AV.dv.injEq, AV.dp.injEq, AV.fv.injEq, DV.d.injEq, DV.ag.injEq, D.int.injEq, D.str.injEq, D.bool.injEq, D.sl.injEq, true_and, and_true, intsDi_inj, rowsT_inj, rowsKi_inj, TEvent.row_inj, TEvent.rows_inj] at e
  obtain ⟨rfl, rfl, rfl⟩ := e
  exact h, fun h => ⟨l, ss, e, rfl, h⟩⟩
theorem ledS_p  (l : List TEvent) (ss : List ByteArray) (e : Int) : (ledS).post [.sl (TEvent.rows l), .sl (rowsT ss), .i e] = fun y => y = .tcons (.sl (intsD (ledI l ss e))) (.tcons (.b (ledB l ss e)) .tnil) := funext fun y => propext ⟨fun h => by
  have h' : ∃ (l' : List TEvent) (ss' : List ByteArray) (e' : Int), ([.sl (TEvent.rows l), .sl (rowsT ss), .i e] : List AV) = [.sl (TEvent.rows l'), .sl (rowsT ss'), .i e'] ∧ y = .tcons (.sl (intsD (ledI l' ss' e'))) (.tcons (.b (ledB l' ss' e')) .tnil) := h
  obtain ⟨l', ss', e', e, h⟩ := h'
  simp only [List.cons.injEq, AV.dv.injEq, AV.dp.injEq, AV.fv.injEq, DV.d.injEq, DV.ag.injEq, D.int.injEq, D.str.injEq, D.bool.injEq, D.sl.injEq, true_and, and_true, intsDi_inj, rowsT_inj, rowsKi_inj, TEvent.row_inj, TEvent.rows_inj] at e
  obtain ⟨rfl, rfl, rfl⟩ := e
  exact h, fun h => ⟨l, ss, e, rfl, h⟩⟩
theorem intsD_flatU (l : List Int) : ((intsD l).all fun x => x.all D.flat) = true := by
  rw [List.all_eq_true]
  intro y hy
  obtain ⟨x, _, rfl⟩ := List.mem_map.1 hy
  rfl
theorem intsD_setU (l : List Int) (k : Nat) (v : Int) : (intsD l).set k [.int .i64 v] = intsD (l.set k v) := by
  show (l.map fun x => [D.int .i64 x]).set k [.int .i64 v] = (l.set k v).map fun x => [D.int .i64 x]
  rw [List.map_set]
theorem intsD_repU (n : Nat) : List.replicate n [D.int .i64 0] = intsD (List.replicate n 0) := by
  show _ = (List.replicate n 0).map fun x => [D.int .i64 x]
  rw [List.map_replicate]
set_option maxHeartbeats 8000000 in
theorem led_ctr {cx : Cx} (h : Seat cx) : Ctr cx 91 ledS := by
  refine ctr_of (fn := Tryz.f91) (l := [.tmp 6, .tmp 7]) (envL []) [0, 1, 2, 6, 7, 8, 9, 10, 19, 35, 39] [] [] (env0 h.hP) ?_ (by rw [h.hP]; exact Tryz.func91) rfl (by kernel_rfl) rfl ?_ ?_
  · rw [h.hP]; exact ⟨_, Tryz.func91, by kernel_rfl, by kernel_rfl⟩
  · rintro xs ⟨l, ss, e, rfl, h1⟩; exact ⟨_, l, ss, e, rfl, rfl⟩
  · rintro xs ⟨l, ss, e, rfl, h1, h2, h3, h4⟩
    have hl := h1.1
    obtain ⟨R, hR⟩ : ∃ R, R = chainP l (stepF ss) ss.length (e + 1).toNat := ⟨_, rfl⟩
    have hI : ledI l ss e = R.getD [] := by rw [hR]; rfl
    have hB : ledB l ss e = R.isSome := by rw [hR]; rfl
    have hw0 : IntKind.i64.wrap ((ss.length : Int) - 1) = (ss.length : Int) - 1 := i64w (by omega) (by omega)
    refine ⟨by rw [Tryz.ntmps91]; simp, ?_⟩
    simp only [go_sem, h.hP, List.cons_append, List.nil_append, Meets_e, Below_e, Prod.exists, exists_eq, exists_eq_left, exists_eq_left', exists_eq_right, exists_eq_right', exists_and_left, exists_and_right, Ob.arr.injEq, AV.own.injEq, AV.fv.injEq, ledS_q, ledS_p, ledS_c, ledS_f, TEvent.len, rowsT_len, hw0, Tryz.ntmps91, Nat.reduceEqDiff, reduceCtorEq, Nat.reduceMul, Nat.reduceAdd, Nat.reduceSub, Nat.reduceDiv, Nat.reduceMod, Nat.reduceLeDiff, Nat.reduceLT, Nat.reduceBNe, Nat.reduceBEq, reduceIte, Int.reduceLE, Int.reduceLT, Int.reduceToNat, Int.reduceNeg, Int.reduceAdd, Int.reduceSub, Int.reduceMul, Int.reduceEq]
    rw [hI, hB]
    refine ⟨by omega, by omega, by omega, ?_⟩
    refine vc_loopS (Int × Int × List Int) (fun (x : Int × Int × List Int) => match x with | (k, at', out) => [(10, .i k), (9, .i at')]) [] (fun (x : Int × Int × List Int) => match x with | (k, at', out) => []) (fun (x : Int × Int × List Int) => match x with | (k, at', out) => [(13, .arr 3 1 (intsD out))]) (fun (x : Int × Int × List Int) => match x with | (k, at', out) => 0) (fun (x : Int × Int × List Int) => match x with | (k, at', out) => -1 ≤ k ∧ k < ss.length ∧ -1 ≤ at' ∧ at' < l.length ∧ out.length = ss.length ∧ R = (chainP l (stepF ss) (k + 1).toNat (at' + 1).toNat).map (· ++ out.drop (k + 1).toNat)) (fun (x : Int × Int × List Int) => match x with | (k, at', out) => (k + 1).toNat) [] ?_ ?_
    · simp only [go_sem, h.hP, List.cons_append, List.nil_append, Meets_e, Below_e, Prod.exists, exists_eq, exists_eq_left, exists_eq_left', exists_eq_right, exists_eq_right', exists_and_left, exists_and_right, Ob.arr.injEq, AV.own.injEq, AV.fv.injEq, Tryz.ntmps91, Nat.reduceEqDiff, reduceCtorEq, Nat.reduceMul, Nat.reduceAdd, Nat.reduceSub, Nat.reduceDiv, Nat.reduceMod, Nat.reduceLeDiff, Nat.reduceLT, Nat.reduceBNe, Nat.reduceBEq, reduceIte, Int.reduceLE, Int.reduceLT, Int.reduceToNat, Int.reduceNeg, Int.reduceAdd, Int.reduceSub, Int.reduceMul, Int.reduceEq]
      refine ⟨_, intsD_repU _, by omega, by omega, by omega, by omega, by rw [List.length_replicate], ?_⟩
      rw [show ((ss.length : Int) - 1 + 1).toNat = ss.length by omega, List.drop_eq_nil_of_le (by rw [List.length_replicate]; exact Nat.le_refl _), hR]
      cases chainP l (stepF ss) ss.length (e + 1).toNat with
      | none => rfl
      | some c => simp
    · rintro ⟨k, at', out⟩ ⟨k0, k1, a0, a1, hlo, hr⟩
      simp only [go_sem, h.hP, List.cons_append, List.nil_append, Meets_e, Below_e, Prod.exists, exists_eq, exists_eq_left, exists_eq_left', exists_eq_right, exists_eq_right', exists_and_left, exists_and_right, Ob.arr.injEq, AV.own.injEq, AV.fv.injEq, ledS_q, ledS_p, ledS_c, ledS_f, TEvent.row, TEvent.len, TEvent.get, rowsT_len, rowsT_get, intsD_len, intsD_get, intsDi_inj, intsD_setU, intsD_flatU, Tryz.ntmps91, Nat.reduceEqDiff, reduceCtorEq, Nat.reduceMul, Nat.reduceAdd, Nat.reduceSub, Nat.reduceDiv, Nat.reduceMod, Nat.reduceLeDiff, Nat.reduceLT, Nat.reduceBNe, Nat.reduceBEq, reduceIte, Int.reduceLE, Int.reduceLT, Int.reduceToNat, Int.reduceNeg, Int.reduceAdd, Int.reduceSub, Int.reduceMul, Int.reduceEq]
      refine ⟨fun q => ?_, fun q => ?_⟩
      · have hwk : IntKind.i64.wrap (k - 1) = k - 1 := i64w (by omega) (by omega)
        obtain ⟨m, rfl⟩ : ∃ m : Nat, k = m := ⟨k.toNat, by omega⟩
        have hr2 : R = (match lastN l (stepF ss m) (at' + 1).toNat with | none => none | some j => (chainP l (stepF ss) m j).map (· ++ [(j : Int)])).map (· ++ out.drop (m + 1)) := by
          rw [hr, show ((m : Int) + 1).toNat = m + 1 by omega]
          rfl
        rw [upd_lkU]
        refine vc_loopS (Int) (fun (at2 : Int) => [(9, .i at2)]) [13] (fun (at2 : Int) => []) (fun (at2 : Int) => []) (fun (at2 : Int) => 0) (fun (at2 : Int) => -1 ≤ at2 ∧ at2 ≤ at' ∧ lastN l (stepF ss m) (at' + 1).toNat = lastN l (stepF ss m) (at2 + 1).toNat) (fun (at2 : Int) => (at2 + 1).toNat) [] ?_ ?_
        · simp only [go_sem, h.hP, List.cons_append, List.nil_append, Meets_e, Below_e, Prod.exists, exists_eq, exists_eq_left, exists_eq_left', exists_eq_right, exists_eq_right', exists_and_left, exists_and_right, Ob.arr.injEq, AV.own.injEq, AV.fv.injEq, Tryz.ntmps91, Nat.reduceEqDiff, reduceCtorEq, Nat.reduceMul, Nat.reduceAdd, Nat.reduceSub, Nat.reduceDiv, Nat.reduceMod, Nat.reduceLeDiff, Nat.reduceLT, Nat.reduceBNe, Nat.reduceBEq, reduceIte, Int.reduceLE, Int.reduceLT, Int.reduceToNat, Int.reduceNeg, Int.reduceAdd, Int.reduceSub, Int.reduceMul, Int.reduceEq]
          exact ⟨(decide_eq_true q).symm, a0, Int.le_refl _⟩
        · rintro at2 ⟨b0, b1, hb⟩
          have hwa : IntKind.i64.wrap (at2 - 1) = at2 - 1 := i64w (by omega) (by omega)
          have none2 : at2 < 0 → R = none := fun z => by
            rw [hr2, hb, show (at2 + 1).toNat = 0 by omega]
            rfl
          have hlast : 0 ≤ at2 → lastN l (stepF ss m) (at2 + 1).toNat = if (l.getD at2.toNat TEvent.z).name = stepF ss m then some at2.toNat else lastN l (stepF ss m) at2.toNat := fun z => by
            rw [show (at2 + 1).toNat = at2.toNat + 1 by omega]
            rfl
          simp only [go_sem, h.hP, List.cons_append, List.nil_append, Meets_e, Below_e, Prod.exists, exists_eq, exists_eq_left, exists_eq_left', exists_eq_right, exists_eq_right', exists_and_left, exists_and_right, Ob.arr.injEq, AV.own.injEq, AV.fv.injEq, ledS_q, ledS_p, ledS_c, ledS_f, TEvent.row, TEvent.len, TEvent.get, rowsT_len, rowsT_get, intsD_len, intsD_get, intsDi_inj, intsD_setU, intsD_flatU, hwa, hwk, Tryz.ntmps91, Nat.reduceEqDiff, reduceCtorEq, Nat.reduceMul, Nat.reduceAdd, Nat.reduceSub, Nat.reduceDiv, Nat.reduceMod, Nat.reduceLeDiff, Nat.reduceLT, Nat.reduceBNe, Nat.reduceBEq, reduceIte, Int.reduceLE, Int.reduceLT, Int.reduceToNat, Int.reduceNeg, Int.reduceAdd, Int.reduceSub, Int.reduceMul, Int.reduceEq]
          have nn : at2 < 0 → ([] : List (List D)) = intsD (R.getD []) ∧ false = R.isSome := fun z => by
            rw [none2 z]
            exact ⟨rfl, rfl⟩
          refine ⟨fun z => ⟨z, by omega, q, k1, fun y => ⟨(decide_eq_true q).symm, by omega, by omega, ?_, by omega⟩, fun y => ⟨nn, fun _ => ⟨q, by omega, by omega, by omega, by omega, by omega, by omega, by rw [List.length_set]; exact hlo, ?_, by omega⟩⟩⟩, fun z => ⟨nn, fun y => absurd (by omega) z⟩⟩
          · rw [hb, hlast z, if_neg (show ¬ (l.getD at2.toNat TEvent.z).name = stepF ss m from y), show (at2 - 1 + 1).toNat = at2.toNat by omega]
          · rw [hr2, hb, hlast z, if_pos (show (l.getD at2.toNat TEvent.z).name = stepF ss m from y), show (at2 - 1 + 1).toNat = at2.toNat by omega, show ((m : Int) - 1 + 1).toNat = m by omega]
            show Option.map _ ((chainP l (stepF ss) m at2.toNat).map (· ++ [(at2.toNat : Int)])) = _
            rw [Int.toNat_of_nonneg z]
            have hd : (out.set m at2).drop m = at2 :: out.drop (m + 1) := by
              rw [List.drop_eq_getElem_cons (show m < (out.set m at2).length by rw [List.length_set]; omega), List.getElem_set_self, List.drop_set_of_lt (Nat.lt_succ_self m)]
            rw [hd]
            cases chainP l (stepF ss) m at2.toNat with
            | none => rfl
            | some c => simp
      · obtain rfl : k = -1 := by omega
        rw [hr, show ((-1 : Int) + 1).toNat = 0 from rfl]
        exact ⟨rfl, rfl⟩
/-! ### The program -/
def funE (l : List TEvent) (ss : List ByteArray) (w : Int) : Int := orE (eventsF l) (if ss.length = 0 then 3 else if 20 < (ss.length : Int) then 2 else orE (namesF ss) (if inB w 0 4321440 = false then 1 else 0))
def funV (l : List TEvent) (ss : List ByteArray) (w : Int) : List ByteArray := if funE l ss w = 0 then funR l ss w else []
def funSp  : Spec where
  pre xs := ∃ (l : List TEvent) (ss : List ByteArray) (w : Int), xs = [.sl (TEvent.rows l), .sl (rowsT ss), .i w] ∧ (okL TEvent.ok l ∧ okL okS ss ∧ okI w)
  post xs y := ∃ (l : List TEvent) (ss : List ByteArray) (w : Int), xs = [.sl (TEvent.rows l), .sl (rowsT ss), .i w] ∧ y = .tcons (.sl (rowsT (funV l ss w))) (.tcons (.i (funE l ss w)) .tnil)
  cost _ := 0
  fresh := true
theorem funSp_c  (xs : List AV) : (funSp).cost xs = 0 := nr rfl
theorem funSp_f  : (funSp).fresh = true := nr rfl
theorem funSp_q  (l : List TEvent) (ss : List ByteArray) (w : Int) : (funSp).pre [.sl (TEvent.rows l), .sl (rowsT ss), .i w] = (okL TEvent.ok l ∧ okL okS ss ∧ okI w) := propext ⟨fun h => by
  have h' : ∃ (l' : List TEvent) (ss' : List ByteArray) (w' : Int), ([.sl (TEvent.rows l), .sl (rowsT ss), .i w] : List AV) = [.sl (TEvent.rows l'), .sl (rowsT ss'), .i w'] ∧ (okL TEvent.ok l' ∧ okL okS ss' ∧ okI w') := h
  obtain ⟨l', ss', w', e, h⟩ := h'
  simp only [List.cons.injEq, AV.dv.injEq, AV.dp.injEq, AV.fv.injEq, DV.d.injEq, DV.ag.injEq, D.int.injEq, D.str.injEq, D.bool.injEq, D.sl.injEq, true_and, and_true, intsDi_inj, rowsT_inj, rowsKi_inj, TEvent.row_inj, TEvent.rows_inj] at e
  obtain ⟨rfl, rfl, rfl⟩ := e
  exact h, fun h => ⟨l, ss, w, rfl, h⟩⟩
theorem funSp_p  (l : List TEvent) (ss : List ByteArray) (w : Int) : (funSp).post [.sl (TEvent.rows l), .sl (rowsT ss), .i w] = fun y => y = .tcons (.sl (rowsT (funV l ss w))) (.tcons (.i (funE l ss w)) .tnil) := funext fun y => propext ⟨fun h => by
  have h' : ∃ (l' : List TEvent) (ss' : List ByteArray) (w' : Int), ([.sl (TEvent.rows l), .sl (rowsT ss), .i w] : List AV) = [.sl (TEvent.rows l'), .sl (rowsT ss'), .i w'] ∧ y = .tcons (.sl (rowsT (funV l' ss' w'))) (.tcons (.i (funE l' ss' w')) .tnil) := h
  obtain ⟨l', ss', w', e, h⟩ := h'
  simp only [List.cons.injEq, AV.dv.injEq, AV.dp.injEq, AV.fv.injEq, DV.d.injEq, DV.ag.injEq, D.int.injEq, D.str.injEq, D.bool.injEq, D.sl.injEq, true_and, and_true, intsDi_inj, rowsT_inj, rowsKi_inj, TEvent.row_inj, TEvent.rows_inj] at e
  obtain ⟨rfl, rfl, rfl⟩ := e
  exact h, fun h => ⟨l, ss, w, rfl, h⟩⟩
theorem rowsT_rtake (l : List ByteArray) (n : Nat) : (rowsT l).take n = rowsT (l.take n) := List.map_take.symm
theorem stepF_take {ss : List ByteArray} {m k : Nat} (h : k < m) : stepF (ss.take m) k = stepF ss k := by
  unfold stepF
  rw [List.getD_eq_getElem?_getD, List.getD_eq_getElem?_getD, List.getElem?_take, if_pos h]
set_option maxHeartbeats 16000000 in
theorem Funnel_ctr {cx : Cx} (h : Seat cx) (hU : Utf8 cx) (hM : MaxL cx) : Ctr cx 42 funSp := by
  refine ctr_of (fn := Tryz.f42) (l := [.tmp 6, .tmp 7]) (envL [(32, eventsS), (90, (strB keyB)), (56, inS), (91, ledS)]) [0, 1, 2, 6, 7, 8, 10, 11, 12, 13, 14, 15, 16, 18, 22, 24, 28, 32, 33, 34, 35, 40, 44, 48, 51, 52, 53, 54, 65, 90, 91, 92, 93, 94] [14] [] (envL_cons (ECheck_ctr h hU hM) (envL_cons (IsKey_ctr h) (envL_cons (ewithin_ctr h) (envL_cons (led_ctr h) (env0 h.hP))))) ?_ (by rw [h.hP]; exact Tryz.func42) rfl (by kernel_rfl) rfl ?_ ?_
  · rw [h.hP]; exact ⟨_, Tryz.func42, by kernel_rfl, by kernel_rfl⟩
  · rintro xs ⟨l, ss, w, rfl, h1⟩; exact ⟨_, l, ss, w, rfl, rfl⟩
  · rintro xs ⟨l, ss, w, rfl, h1, h2, h3⟩
    have hE : ∀ e : Int, funE l ss w = e → e ≠ 0 → funV l ss w = [] := fun e he hne => if_neg (by rw [he]; exact hne)
    refine ⟨by rw [Tryz.ntmps42]; simp, ?_⟩
    simp only [go_sem, h.hP, List.cons_append, List.nil_append, Meets_e, Below_e, Prod.exists, exists_eq, exists_eq_left, exists_eq_left', exists_eq_right, exists_eq_right', exists_and_left, exists_and_right, Ob.arr.injEq, AV.own.injEq, AV.fv.injEq, funSp_q, funSp_p, funSp_c, funSp_f, eventsS_q, eventsS_p, eventsS_c, eventsS_f, TEvent.len, rowsT_len, Tryz.ntmps42, Nat.reduceEqDiff, reduceCtorEq, Nat.reduceMul, Nat.reduceAdd, Nat.reduceSub, Nat.reduceDiv, Nat.reduceMod, Nat.reduceLeDiff, Nat.reduceLT, Nat.reduceBNe, Nat.reduceBEq, reduceIte, Int.reduceLE, Int.reduceLT, Int.reduceToNat, Int.reduceNeg, Int.reduceAdd, Int.reduceSub, Int.reduceMul, Int.reduceEq]
    have bad : ∀ e : Int, funE l ss w = e → e ≠ 0 → ([] : List (List D)) = rowsT (funV l ss w) ∧ e = funE l ss w := fun e he hne => by
      rw [hE e he hne, he]
      exact ⟨rfl, rfl⟩
    refine ⟨h1, fun c => bad _ (orE_l c) c, fun c => ?_⟩
    have e0 : funE l ss w = if ss.length = 0 then 3 else if 20 < (ss.length : Int) then 2 else orE (namesF ss) (if inB w 0 4321440 = false then 1 else 0) := orE_r c
    refine ⟨fun q => bad 3 (e0.trans (if_pos (by omega))) (by decide), fun q => ⟨fun q2 => bad 2 (e0.trans ((if_neg (by omega)).trans (if_pos q2))) (by decide), fun q2 => ?_⟩⟩
    have e1 := e0.trans ((if_neg (by omega)).trans (if_neg q2))
    try rw [upd_lkU]
    refine vc_cutS (Unit) (fun (u : Unit) => [(34, .un), (35, .un), (40, .un)]) [] (fun (u : Unit) => []) (fun (u : Unit) => []) (fun (u : Unit) => 0) (fun (u : Unit) => namesF ss = 0) [] ?_ ?_ ?_
    · rfl
    · simp only [go_sem, h.hP, Tryz.ntmps42, Nat.reduceEqDiff, reduceCtorEq, Nat.reduceMul, Nat.reduceAdd, Nat.reduceSub, Nat.reduceDiv, Nat.reduceMod, Nat.reduceLeDiff, Nat.reduceLT, Nat.reduceBNe, Nat.reduceBEq, reduceIte, Int.reduceLE, Int.reduceLT, Int.reduceToNat, Int.reduceNeg, Int.reduceAdd, Int.reduceSub, Int.reduceMul, Int.reduceEq]
      refine vc_loopS (Int) (fun (i : Int) => [(34, .i i)]) [] (fun (i : Int) => []) (fun (i : Int) => []) (fun (i : Int) => 0) (fun (i : Int) => Rounds ss.length (nameE ss) i) (fun (i : Int) => (ss.length - i).toNat) [] ?_ ?_
      · simp only [go_sem, h.hP, List.cons_append, List.nil_append, Meets_e, Below_e, Prod.exists, exists_eq, exists_eq_left, exists_eq_left', exists_eq_right, exists_eq_right', exists_and_left, exists_and_right, Ob.arr.injEq, AV.own.injEq, AV.fv.injEq, Tryz.ntmps42, Nat.reduceEqDiff, reduceCtorEq, Nat.reduceMul, Nat.reduceAdd, Nat.reduceSub, Nat.reduceDiv, Nat.reduceMod, Nat.reduceLeDiff, Nat.reduceLT, Nat.reduceBNe, Nat.reduceBEq, reduceIte, Int.reduceLE, Int.reduceLT, Int.reduceToNat, Int.reduceNeg, Int.reduceAdd, Int.reduceSub, Int.reduceMul, Int.reduceEq]
        exact Rounds.start
      · rintro i hr
        obtain ⟨hi, hS, hM2, hEr, hN⟩ := hr.use (by omega)
        have ho : okS (ss.getD i.toNat ⟨#[]⟩) := okL_get h2 okS_z _
        simp only [go_sem, h.hP, List.cons_append, List.nil_append, Meets_e, Below_e, Prod.exists, exists_eq, exists_eq_left, exists_eq_left', exists_eq_right, exists_eq_right', exists_and_left, exists_and_right, Ob.arr.injEq, AV.own.injEq, AV.fv.injEq, funSp_q, funSp_p, funSp_c, funSp_f, strB_q, strB_p, strB_c, strB_f, rowsT_len, rowsT_get, Tryz.ntmps42, Nat.reduceEqDiff, reduceCtorEq, Nat.reduceMul, Nat.reduceAdd, Nat.reduceSub, Nat.reduceDiv, Nat.reduceMod, Nat.reduceLeDiff, Nat.reduceLT, Nat.reduceBNe, Nat.reduceBEq, reduceIte, Int.reduceLE, Int.reduceLT, Int.reduceToNat, Int.reduceNeg, Int.reduceAdd, Int.reduceSub, Int.reduceMul, Int.reduceEq]
        unfold okS at ho
        have e2 : i < ss.length → keyB (ss.getD i.toNat ⟨#[]⟩) = false → namesF ss = 5 := fun a b => hEr 5 a (if_pos b) (by decide)
        exact ⟨fun a => ⟨hi, a, by omega, fun b => bad 5 (e1.trans ((orE_l (by rw [e2 a b]; decide)).trans (e2 a b))) (by decide), fun b => ⟨hS a (if_neg (ne_ft b)), hM2 a⟩⟩, fun a => ⟨(decide_eq_false q2).symm, hN a⟩⟩
    · rintro u hu
      rw [orE_r hu] at e1
      simp only [go_sem, h.hP, List.cons_append, List.nil_append, Meets_e, Below_e, Prod.exists, exists_eq, exists_eq_left, exists_eq_left', exists_eq_right, exists_eq_right', exists_and_left, exists_and_right, Ob.arr.injEq, AV.own.injEq, AV.fv.injEq, funSp_q, funSp_p, funSp_c, funSp_f, inS_q, inS_p, inS_c, inS_f, TEvent.len, rowsT_len, Tryz.ntmps42, Nat.reduceEqDiff, reduceCtorEq, Nat.reduceMul, Nat.reduceAdd, Nat.reduceSub, Nat.reduceDiv, Nat.reduceMod, Nat.reduceLeDiff, Nat.reduceLT, Nat.reduceBNe, Nat.reduceBEq, reduceIte, Int.reduceLE, Int.reduceLT, Int.reduceToNat, Int.reduceNeg, Int.reduceAdd, Int.reduceSub, Int.reduceMul, Int.reduceEq]
      refine ⟨fun d => bad 1 (e1.trans (if_pos d)) (by decide), fun d => ?_⟩
      have eE : funE l ss w = 0 := e1.trans (if_neg (ne_ft d))
      have eV : funV l ss w = funR l ss w := if_pos eE
      rw [eV, eE]
      obtain ⟨w0, w1⟩ := inB_iff.1 d
      have hl := (ev_right c).1
      have hat : ∀ i, i < l.length → 0 ≤ (l.getD i TEvent.z).at_ ∧ (l.getD i TEvent.z).at_ ≤ 4321439 := fun i hi => evF_at ((ev_right c).2.1 i hi)
      refine vc_loopS (Int) (fun (many : Int) => [(11, .i many)]) [] (fun (many : Int) => []) (fun (many : Int) => []) (fun (many : Int) => 0) (fun (many : Int) => 0 ≤ many ∧ many ≤ ss.length ∧ funS l ss w ss.length = funS l ss w many.toNat) (fun (many : Int) => many.toNat) [] ?_ ?_
      · simp only [go_sem, h.hP, List.cons_append, List.nil_append, Meets_e, Below_e, Prod.exists, exists_eq, exists_eq_left, exists_eq_left', exists_eq_right, exists_eq_right', exists_and_left, exists_and_right, Ob.arr.injEq, AV.own.injEq, AV.fv.injEq, Tryz.ntmps42, Nat.reduceEqDiff, reduceCtorEq, Nat.reduceMul, Nat.reduceAdd, Nat.reduceSub, Nat.reduceDiv, Nat.reduceMod, Nat.reduceLeDiff, Nat.reduceLT, Nat.reduceBNe, Nat.reduceBEq, reduceIte, Int.reduceLE, Int.reduceLT, Int.reduceToNat, Int.reduceNeg, Int.reduceAdd, Int.reduceSub, Int.reduceMul, Int.reduceEq]
        exact ⟨by omega, Int.le_refl _⟩
      · rintro many ⟨m0, m1, hm⟩
        simp only [go_sem, h.hP, List.cons_append, List.nil_append, Meets_e, Below_e, Prod.exists, exists_eq, exists_eq_left, exists_eq_left', exists_eq_right, exists_eq_right', exists_and_left, exists_and_right, Ob.arr.injEq, AV.own.injEq, AV.fv.injEq, funSp_q, funSp_p, funSp_c, funSp_f, TEvent.len, rowsT_len, rowsT_nil2, Tryz.ntmps42, Nat.reduceEqDiff, reduceCtorEq, Nat.reduceMul, Nat.reduceAdd, Nat.reduceSub, Nat.reduceDiv, Nat.reduceMod, Nat.reduceLeDiff, Nat.reduceLT, Nat.reduceBNe, Nat.reduceBEq, reduceIte, Int.reduceLE, Int.reduceLT, Int.reduceToNat, Int.reduceNeg, Int.reduceAdd, Int.reduceSub, Int.reduceMul, Int.reduceEq]
        refine ⟨fun q => ?_, fun q => ?_⟩
        · obtain ⟨m, rfl⟩ : ∃ m : Nat, many = (m + 1 : Nat) := ⟨many.toNat - 1, by omega⟩
          have hwm : IntKind.i64.wrap (((m + 1 : Nat) : Int) - 1) = (m : Int) := by
            rw [i64w (by omega) (by omega)]
            omega
          rw [Int.toNat_natCast] at hm
          refine vc_loopS (Int) (fun (en : Int) => [(53, .i en)]) [] (fun (en : Int) => []) (fun (en : Int) => []) (fun (en : Int) => 0) (fun (en : Int) => 0 ≤ en ∧ en ≤ l.length ∧ ∀ j : Nat, (j : Int) < en → hitF l ss w (m + 1) j = none) (fun (en : Int) => (l.length - en).toNat) [] ?_ ?_
          · simp only [go_sem, h.hP, List.cons_append, List.nil_append, Meets_e, Below_e, Prod.exists, exists_eq, exists_eq_left, exists_eq_left', exists_eq_right, exists_eq_right', exists_and_left, exists_and_right, Ob.arr.injEq, AV.own.injEq, AV.fv.injEq, Tryz.ntmps42, Nat.reduceEqDiff, reduceCtorEq, Nat.reduceMul, Nat.reduceAdd, Nat.reduceSub, Nat.reduceDiv, Nat.reduceMod, Nat.reduceLeDiff, Nat.reduceLT, Nat.reduceBNe, Nat.reduceBEq, reduceIte, Int.reduceLE, Int.reduceLT, Int.reduceToNat, Int.reduceNeg, Int.reduceAdd, Int.reduceSub, Int.reduceMul, Int.reduceEq]
            exact ⟨by omega, fun j hj => by omega⟩
          · rintro en ⟨n0, n1, hn⟩
            have hwe : IntKind.i64.wrap (en + 1) = en + 1 := i64w (by omega) (by omega)
            simp only [go_sem, h.hP, List.cons_append, List.nil_append, Meets_e, Below_e, Prod.exists, exists_eq, exists_eq_left, exists_eq_left', exists_eq_right, exists_eq_right', exists_and_left, exists_and_right, Ob.arr.injEq, AV.own.injEq, AV.fv.injEq, funSp_q, funSp_p, funSp_c, funSp_f, ledS_q, ledS_p, ledS_c, ledS_f, TEvent.row, TEvent.len, TEvent.get, rowsT_len, rowsT_get, rowsT_rtake, rowsT_zlT, intsD_len, intsD_get, hwm, hwe, Tryz.ntmps42, Nat.reduceEqDiff, reduceCtorEq, Nat.reduceMul, Nat.reduceAdd, Nat.reduceSub, Nat.reduceDiv, Nat.reduceMod, Nat.reduceLeDiff, Nat.reduceLT, Nat.reduceBNe, Nat.reduceBEq, reduceIte, Int.reduceLE, Int.reduceLT, Int.reduceToNat, Int.reduceNeg, Int.reduceAdd, Int.reduceSub, Int.reduceMul, Int.reduceEq]
            have next : en < l.length → hitF l ss w (m + 1) en.toNat = none → (0 ≤ en + 1 ∧ en + 1 ≤ l.length ∧ (∀ (j : Nat), (j : Int) < en + 1 → hitF l ss w (m + 1) j = none) ∧ ((l.length : Int) - (en + 1)).toNat < ((l.length : Int) - en).toNat) := fun z hh => by
              refine ⟨by omega, by omega, fun j hj => ?_, by omega⟩
              by_cases e : (j : Int) = en
              · rw [show j = en.toNat by omega]; exact hh
              · exact hn j (by omega)
            refine ⟨fun z => ⟨n0, z, by omega, by omega, fun y => next z (if_neg y), fun y => ?_⟩, fun z => ⟨by omega, by omega, ?_, by omega⟩⟩
            · obtain ⟨C, hC⟩ : ∃ C, C = chainP l (stepF ss) (m + 1) (en + 1).toNat := ⟨_, rfl⟩
              have htl : (ss.take (m + 1)).length = m + 1 := by rw [List.length_take]; omega
              have hct : chainP l (stepF (ss.take (m + 1))) (ss.take (m + 1)).length (en + 1).toNat = C := by
                rw [htl, hC]
                exact chainP_congr _ fun k hk => stepF_take hk
              have hLI : ledI l (ss.take (m + 1)) en = C.getD [] := congrArg (fun o : Option (List Int) => o.getD []) hct
              have hLB : ledB l (ss.take (m + 1)) en = C.isSome := congrArg Option.isSome hct
              have hit : hitF l ss w (m + 1) en.toNat = cutF l w en.toNat C := by
                unfold hitF
                rw [if_pos (show (l.getD en.toNat TEvent.z).name = stepF ss (m + 1 - 1) from y), show en.toNat + 1 = (en + 1).toNat by omega, ← hC]
              cases C with
              | none =>
                rw [show ledB l (ss.take (m + 1)) en = false from hLB, htl]
                exact ⟨m0, m1, h1, by omega, n0, z, fun e => (by cases e), fun _ => next z hit⟩
              | some cc =>
                obtain ⟨cl, ci⟩ := chainP_in hC.symm
                have hh : cc.getD 0 0 = headI cc := by
                  cases cc with
                  | nil => rfl
                  | cons x r => rfl
                have hin : 0 ≤ headI cc ∧ headI cc < ((en + 1).toNat : Nat) := by
                  rw [← hh, List.getD_eq_getElem?_getD, List.getElem?_eq_getElem (by omega)]
                  exact ci _ (List.getElem_mem _)
                have ha := hat en.toNat (by omega)
                have hb := hat (headI cc).toNat (by omega)
                rw [show ledB l (ss.take (m + 1)) en = true from hLB, show ledI l (ss.take (m + 1)) en = cc from hLI, htl, hh]
                have hwd : IntKind.i64.wrap ((l.getD en.toNat TEvent.z).at_ - (l.getD (headI cc).toNat TEvent.z).at_) = (l.getD en.toNat TEvent.z).at_ - (l.getD (headI cc).toNat TEvent.z).at_ := i64w (by omega) (by omega)
                rw [hwd]
                refine ⟨m0, m1, h1, by omega, n0, z, fun _ => ⟨by omega, hin.1, by omega, fun g => next z ?_, fun g => ?_⟩, fun e => (by cases e)⟩
                · rw [hit]
                  exact if_neg (by omega)
                · skip
                  have hfound : hitF l ss w (m + 1) en.toNat = some cc := hit.trans (if_pos (by omega))
                  have hres : funR l ss w = idsL l cc := by
                    unfold funR
                    rw [hm]
                    show (match (match firstS (hitF l ss w (m + 1)) l.length with
                      | some c => some c
                      | none => funS l ss w m) with
                      | some c => idsL l c
                      | none => []) = _
                    rw [firstS_at (i := en.toNat) (by omega) (fun j hj => hn j (by omega)) hfound]
                  rw [hres]
                  refine vc_loopS (Int × List ByteArray) (fun (x : Int × List ByteArray) => match x with | (i, out) => [(93, .i i), (16, .own 16)]) [13] (fun (x : Int × List ByteArray) => match x with | (i, out) => []) (fun (x : Int × List ByteArray) => match x with | (i, out) => [(16, .arr 9 1 (rowsT out))]) (fun (x : Int × List ByteArray) => match x with | (i, out) => 0) (fun (x : Int × List ByteArray) => match x with | (i, out) => 0 ≤ i ∧ i ≤ cc.length ∧ out = idsL l (cc.take i.toNat)) (fun (x : Int × List ByteArray) => match x with | (i, out) => (cc.length - i).toNat) [(16, 9, 1)] ?_ ?_
                  · simp only [go_sem, h.hP, List.cons_append, List.nil_append, Meets_e, Below_e, Prod.exists, exists_eq, exists_eq_left, exists_eq_left', exists_eq_right, exists_eq_right', exists_and_left, exists_and_right, Ob.arr.injEq, AV.own.injEq, AV.fv.injEq, rowsT_nil2, Tryz.ntmps42, Nat.reduceEqDiff, reduceCtorEq, Nat.reduceMul, Nat.reduceAdd, Nat.reduceSub, Nat.reduceDiv, Nat.reduceMod, Nat.reduceLeDiff, Nat.reduceLT, Nat.reduceBNe, Nat.reduceBEq, reduceIte, Int.reduceLE, Int.reduceLT, Int.reduceToNat, Int.reduceNeg, Int.reduceAdd, Int.reduceSub, Int.reduceMul, Int.reduceEq]
                    exact ⟨by omega, rfl⟩
                  · rintro ⟨i, out⟩ ⟨i0, i1, ho⟩
                    simp only [go_sem, h.hP, List.cons_append, List.nil_append, Meets_e, Below_e, Prod.exists, exists_eq, exists_eq_left, exists_eq_left', exists_eq_right, exists_eq_right', exists_and_left, exists_and_right, Ob.arr.injEq, AV.own.injEq, AV.fv.injEq, funSp_q, funSp_p, funSp_c, funSp_f, ledS_q, ledS_p, ledS_c, ledS_f, TEvent.row, TEvent.len, TEvent.get, rowsT_len, rowsT_get, rowsT_app', rowsT_zlT, rowsT_inj, strs1, rowsT_flatU, intsD_len, intsD_get, List.length_append, List.length_singleton, Tryz.ntmps42, Nat.reduceEqDiff, reduceCtorEq, Nat.reduceMul, Nat.reduceAdd, Nat.reduceSub, Nat.reduceDiv, Nat.reduceMod, Nat.reduceLeDiff, Nat.reduceLT, Nat.reduceBNe, Nat.reduceBEq, reduceIte, Int.reduceLE, Int.reduceLT, Int.reduceToNat, Int.reduceNeg, Int.reduceAdd, Int.reduceSub, Int.reduceMul, Int.reduceEq]
                    have hol : (out.length : Int) ≤ i := by
                      rw [ho, idsL_len, List.length_take]
                      omega
                    refine ⟨fun x => ?_, fun x => ?_⟩
                    · have hci := ci (cc.getD i.toNat 0) (by
                        rw [List.getD_eq_getElem?_getD, List.getElem?_eq_getElem (by omega)]
                        exact List.getElem_mem _)
                      rw [i64w (n := i + 1) (by omega) (by omega), idsL_step l cc i0 x, ← ho]
                      exact ⟨i0, x, by omega, by omega, by omega, by omega, by omega, by omega, rfl, by omega⟩
                    · have : i.toNat = cc.length := by omega
                      rw [ho, this, List.take_of_length_le (Nat.le_refl _)]
            · have hn2 : firstS (hitF l ss w (m + 1)) l.length = none := firstS_no fun j hj => hn j (by omega)
              rw [hm]
              show (match firstS (hitF l ss w (m + 1)) l.length with
                | some c => some c
                | none => funS l ss w m) = _
              rw [hn2]
        · have : many.toNat = 0 := by omega
          unfold funR
          rw [hm, this]
          rfl
/-! ### The reference -/
def backI (l : List TEvent) (ss : List ByteArray) (i k : Int) : List ByteArray := match chainP l (stepF ss) k.toNat i.toNat with
  | some c => idsL l (c ++ [i])
  | none => []
def backB (l : List TEvent) (ss : List ByteArray) (w i k : Int) : Bool := match chainP l (stepF ss) k.toNat i.toNat with
  | some c => decide ((l.getD i.toNat TEvent.z).at_ - (l.getD (headI (c ++ [i])).toNat TEvent.z).at_ ≤ w)
  | none => false
def backS : Spec where
  pre xs := ∃ (l : List TEvent) (ss : List ByteArray) (w i k : Int), xs = [.i i, .i k, .dp [.sl (TEvent.rows l)], .dp [.int .i64 w], .dp [.sl (rowsT ss)]] ∧ okL TEvent.ok l ∧ eventsF l = 0 ∧ ss.length ≤ 20 ∧ 0 ≤ i ∧ i < l.length ∧ 0 ≤ k ∧ k < ss.length
  post xs r := ∃ (l : List TEvent) (ss : List ByteArray) (w i k : Int), xs = [.i i, .i k, .dp [.sl (TEvent.rows l)], .dp [.int .i64 w], .dp [.sl (rowsT ss)]] ∧ r = .tcons (.sl (rowsT (backI l ss i k))) (.tcons (.b (backB l ss w i k)) .tnil)
  cost _ := 0
  fresh := true
theorem backS_c (xs : List AV) : backS.cost xs = 0 := nr rfl
theorem backS_f : backS.fresh = true := nr rfl
theorem backS_q (l : List TEvent) (ss : List ByteArray) (w i k : Int) : backS.pre [.i i, .i k, .dp [.sl (TEvent.rows l)], .dp [.int .i64 w], .dp [.sl (rowsT ss)]] = (okL TEvent.ok l ∧ eventsF l = 0 ∧ ss.length ≤ 20 ∧ 0 ≤ i ∧ i < l.length ∧ 0 ≤ k ∧ k < ss.length) := propext ⟨fun h => by
  have h' : ∃ (l' : List TEvent) (ss' : List ByteArray) (w' i' k' : Int), ([.i i, .i k, .dp [.sl (TEvent.rows l)], .dp [.int .i64 w], .dp [.sl (rowsT ss)]] : List AV) = [.i i', .i k', .dp [.sl (TEvent.rows l')], .dp [.int .i64 w'], .dp [.sl (rowsT ss')]] ∧ okL TEvent.ok l' ∧ eventsF l' = 0 ∧ ss'.length ≤ 20 ∧ 0 ≤ i' ∧ i' < l'.length ∧ 0 ≤ k' ∧ k' < ss'.length := h
  obtain ⟨l', ss', w', i', k', e, h1⟩ := h'
  simp only [List.cons.injEq, AV.dv.injEq, AV.dp.injEq, DV.d.injEq, D.sl.injEq, D.int.injEq, TEvent.rows_inj, rowsT_inj, true_and, and_true] at e
  obtain ⟨rfl, rfl, rfl, rfl, rfl⟩ := e
  exact h1, fun h => ⟨l, ss, w, i, k, rfl, h⟩⟩
theorem backS_p (l : List TEvent) (ss : List ByteArray) (w i k : Int) : backS.post [.i i, .i k, .dp [.sl (TEvent.rows l)], .dp [.int .i64 w], .dp [.sl (rowsT ss)]] = fun r => r = .tcons (.sl (rowsT (backI l ss i k))) (.tcons (.b (backB l ss w i k)) .tnil) := funext fun r => propext ⟨fun h => by
  have h' : ∃ (l' : List TEvent) (ss' : List ByteArray) (w' i' k' : Int), ([.i i, .i k, .dp [.sl (TEvent.rows l)], .dp [.int .i64 w], .dp [.sl (rowsT ss)]] : List AV) = [.i i', .i k', .dp [.sl (TEvent.rows l')], .dp [.int .i64 w'], .dp [.sl (rowsT ss')]] ∧ r = .tcons (.sl (rowsT (backI l' ss' i' k'))) (.tcons (.b (backB l' ss' w' i' k')) .tnil) := h
  obtain ⟨l', ss', w', i', k', e, h1⟩ := h'
  simp only [List.cons.injEq, AV.dv.injEq, AV.dp.injEq, DV.d.injEq, D.sl.injEq, D.int.injEq, TEvent.rows_inj, rowsT_inj, true_and, and_true] at e
  obtain ⟨rfl, rfl, rfl, rfl, rfl⟩ := e
  exact h1, fun h => ⟨l, ss, w, i, k, rfl, h⟩⟩
set_option maxHeartbeats 16000000 in
theorem back_ctr {cx : Cx} (h : Seat cx) : Ctr cx 92 backS := by
  refine ctr_of (fn := Tryz.f92) (l := [.tmp 7, .tmp 8]) (envO [] [] [(93, revTS, 9, 1000001)]) [0, 1, 2, 3, 4, 7, 8, 9, 10, 25, 55, 59] [] [] (envO_cons (revT h) (envO_nil (envF_nil (env0 h.hP)))) ?_ (by rw [h.hP]; exact Tryz.func92) rfl (by kernel_rfl) rfl ?_ ?_
  · rw [h.hP]; exact ⟨_, Tryz.func92, by kernel_rfl, by kernel_rfl⟩
  · rintro xs ⟨l, ss, w, i, k, rfl, h1⟩; exact ⟨_, l, ss, w, i, k, rfl, rfl⟩
  · rintro xs ⟨l, ss, w, i0, k0, rfl, h1, c, hs, i1, i2, k1, k2⟩
    refine ⟨by rw [Tryz.ntmps92]; simp, ?_⟩
    simp only [go_sem, h.hP, List.cons_append, List.nil_append, Meets_e, Below_e, Prod.exists, exists_eq, exists_eq_left, exists_eq_left', exists_eq_right, exists_eq_right', exists_and_left, exists_and_right, Ob.arr.injEq, AV.own.injEq, AV.fv.injEq, backS_c, backS_f, backS_p, TEvent.len, rowsT_len, TEvent.get, Tryz.ntmps92, Nat.reduceEqDiff, reduceCtorEq, Nat.reduceMul, Nat.reduceAdd, Nat.reduceSub, Nat.reduceDiv, Nat.reduceMod, Nat.reduceLeDiff, Nat.reduceLT, Nat.reduceBNe, Nat.reduceBEq, reduceIte, Int.reduceLE, Int.reduceLT, Int.reduceToNat, Int.reduceNeg, Int.reduceAdd, Int.reduceSub, Int.reduceMul, Int.reduceEq]
    refine ⟨i1, i2, ?_⟩
    have hl := (ev_right c).1
    obtain ⟨R, hR⟩ : ∃ R, R = chainP l (stepF ss) k0.toNat i0.toNat := ⟨_, rfl⟩
    refine vc_loopS (Int × Int × List ByteArray × List Int) (fun (x : Int × Int × List ByteArray × List Int) => match x with | (i, k, out, tail) => [(0, .i i), (1, .i k), (10, .own 10)]) [] (fun (x : Int × Int × List ByteArray × List Int) => match x with | (i, k, out, tail) => []) (fun (x : Int × Int × List ByteArray × List Int) => match x with | (i, k, out, tail) => [(10, .arr 9 1 (rowsT out))]) (fun (x : Int × Int × List ByteArray × List Int) => match x with | (i, k, out, tail) => 0) (fun (x : Int × Int × List ByteArray × List Int) => match x with | (i, k, out, tail) => 0 ≤ i ∧ i < l.length ∧ 0 ≤ k ∧ k < ss.length ∧ out = (idsL l tail).reverse ∧ tail.length ≤ 20 ∧ (tail.length : Int) = k0 - k ∧ R.map (· ++ [i0]) = (chainP l (stepF ss) k.toNat i.toNat).map (· ++ i :: tail)) (fun (x : Int × Int × List ByteArray × List Int) => match x with | (i, k, out, tail) => k.toNat) [(10, 9, 1)] ?_ ?_
    · simp only [go_sem, h.hP, List.cons_append, List.nil_append, Meets_e, Below_e, Prod.exists, exists_eq, exists_eq_left, exists_eq_left', exists_eq_right, exists_eq_right', exists_and_left, exists_and_right, Ob.arr.injEq, AV.own.injEq, AV.fv.injEq, rowsT_nil2, Tryz.ntmps92, Nat.reduceEqDiff, reduceCtorEq, Nat.reduceMul, Nat.reduceAdd, Nat.reduceSub, Nat.reduceDiv, Nat.reduceMod, Nat.reduceLeDiff, Nat.reduceLT, Nat.reduceBNe, Nat.reduceBEq, reduceIte, Int.reduceLE, Int.reduceLT, Int.reduceToNat, Int.reduceNeg, Int.reduceAdd, Int.reduceSub, Int.reduceMul, Int.reduceEq]
      refine ⟨i1, i2, k1, k2, [], rfl, by decide, by show (0 : Int) = k0 - k0; omega, ?_⟩
      rw [← hR]
    · rintro ⟨i, k, out, tail⟩ ⟨a0, a1, b0, b1, ho, ht, htk, hr⟩
      simp only [go_sem, h.hP, List.cons_append, List.nil_append, Meets_e, Below_e, Prod.exists, exists_eq, exists_eq_left, exists_eq_left', exists_eq_right, exists_eq_right', exists_and_left, exists_and_right, Ob.arr.injEq, AV.own.injEq, AV.fv.injEq, backS_c, backS_f, backS_p, revTS, TEvent.len, rowsT_len, rowsT_get, TEvent.get, strs1, rowsT_flatU, rowsT_appU, rowsT_zlU, rowsT_inj, List.length_append, List.length_singleton, Tryz.ntmps92, Nat.reduceEqDiff, reduceCtorEq, Nat.reduceMul, Nat.reduceAdd, Nat.reduceSub, Nat.reduceDiv, Nat.reduceMod, Nat.reduceLeDiff, Nat.reduceLT, Nat.reduceBNe, Nat.reduceBEq, reduceIte, Int.reduceLE, Int.reduceLT, Int.reduceToNat, Int.reduceNeg, Int.reduceAdd, Int.reduceSub, Int.reduceMul, Int.reduceEq]
      have hat : ∀ i, i < l.length → 0 ≤ (l.getD i TEvent.z).at_ ∧ (l.getD i TEvent.z).at_ ≤ 4321439 := fun i hi => evF_at ((ev_right c).2.1 i hi)
      have hol : out.length = tail.length := by rw [ho, List.length_reverse, idsL_len]
      refine ⟨a0, a1, by omega, by omega, fun z => ⟨by omega, rfl, a0, a1, ?_⟩, fun z => ?_⟩
      · have h3 := hat i.toNat (by omega)
        have h4 := hat i0.toNat (by omega)
        rw [i64w (by omega) (by omega)]
        rw [z] at hr
        cases R with
        | none => cases hr
        | some cc =>
          have hcc : cc ++ [i0] = i :: tail := by
            have hr : some (cc ++ [i0]) = some ([] ++ i :: tail) := hr
            simpa using hr
          have eI : backI l ss i0 k0 = idsL l (i :: tail) := by
            unfold backI
            rw [← hR]
            exact congrArg (idsL l) hcc
          have eB : backB l ss w i0 k0 = decide ((l.getD i0.toNat TEvent.z).at_ - (l.getD i.toNat TEvent.z).at_ ≤ w) := by
            unfold backB
            rw [← hR]
            show decide ((l.getD i0.toNat TEvent.z).at_ - (l.getD (headI (cc ++ [i0])).toNat TEvent.z).at_ ≤ w) = _
            rw [hcc]
            rfl
          rw [eI, eB, ho, List.reverse_append, List.reverse_reverse]
          exact ⟨rfl, rfl⟩
      · obtain ⟨m, rfl⟩ : ∃ m : Nat, k = (m + 1 : Nat) := ⟨k.toNat - 1, by omega⟩
        rw [Int.toNat_natCast] at hr
        have hr2 : R.map (· ++ [i0]) = (match lastN l (stepF ss m) i.toNat with | none => none | some j => (chainP l (stepF ss) m j).map (· ++ [(j : Int)])).map (· ++ i :: tail) := hr
        try rw [upd_lkU]
        have hwm : IntKind.i64.wrap (((m + 1 : Nat) : Int) - 1) = (m : Int) := by
          rw [i64w (by omega) (by omega)]
          omega
        have hwi : IntKind.i64.wrap (i - 1) = i - 1 := i64w (by omega) (by omega)
        refine vc_loopS (Int) (fun (j : Int) => [(0, .i j), (1, .i m)]) [10] (fun (j : Int) => []) (fun (j : Int) => []) (fun (j : Int) => 0) (fun (j : Int) => -1 ≤ j ∧ j < i ∧ lastN l (stepF ss m) i.toNat = lastN l (stepF ss m) (j + 1).toNat) (fun (j : Int) => (j + 1).toNat) [] ?_ ?_
        · simp only [go_sem, h.hP, List.cons_append, List.nil_append, Meets_e, Below_e, Prod.exists, exists_eq, exists_eq_left, exists_eq_left', exists_eq_right, exists_eq_right', exists_and_left, exists_and_right, Ob.arr.injEq, AV.own.injEq, AV.fv.injEq, hwm, hwi, Tryz.ntmps92, Nat.reduceEqDiff, reduceCtorEq, Nat.reduceMul, Nat.reduceAdd, Nat.reduceSub, Nat.reduceDiv, Nat.reduceMod, Nat.reduceLeDiff, Nat.reduceLT, Nat.reduceBNe, Nat.reduceBEq, reduceIte, Int.reduceLE, Int.reduceLT, Int.reduceToNat, Int.reduceNeg, Int.reduceAdd, Int.reduceSub, Int.reduceMul, Int.reduceEq]
          exact ⟨by omega, by omega, by rw [show (i - 1 + 1).toNat = i.toNat by omega]⟩
        · rintro j ⟨j0, j1, hj⟩
          have hwj : IntKind.i64.wrap (j - 1) = j - 1 := i64w (by omega) (by omega)
          simp only [go_sem, h.hP, List.cons_append, List.nil_append, Meets_e, Below_e, Prod.exists, exists_eq, exists_eq_left, exists_eq_left', exists_eq_right, exists_eq_right', exists_and_left, exists_and_right, Ob.arr.injEq, AV.own.injEq, AV.fv.injEq, backS_c, backS_f, backS_p, revTS, TEvent.len, rowsT_len, rowsT_get, TEvent.get, strs1, strs_nil2, rowsT_flatU, rowsT_appU, rowsT_zlU, rowsT_inj, List.length_append, List.length_singleton, hwj, hwm, hwi, Tryz.ntmps92, Nat.reduceEqDiff, reduceCtorEq, Nat.reduceMul, Nat.reduceAdd, Nat.reduceSub, Nat.reduceDiv, Nat.reduceMod, Nat.reduceLeDiff, Nat.reduceLT, Nat.reduceBNe, Nat.reduceBEq, reduceIte, Int.reduceLE, Int.reduceLT, Int.reduceToNat, Int.reduceNeg, Int.reduceAdd, Int.reduceSub, Int.reduceMul, Int.reduceEq]
          have hlast : 0 ≤ j → lastN l (stepF ss m) (j + 1).toNat = if (l.getD j.toNat TEvent.z).name = stepF ss m then some j.toNat else lastN l (stepF ss m) j.toNat := fun z => by
            rw [show (j + 1).toNat = j.toNat + 1 by omega]
            rfl
          have nn : j < 0 → backI l ss i0 k0 = [] ∧ false = backB l ss w i0 k0 := fun z => by
            rw [hj, show (j + 1).toNat = 0 by omega] at hr2
            have hn : R = none := by
              cases R with
              | none => rfl
              | some cc => cases hr2
            rw [hn] at hR
            unfold backI backB
            rw [← hR]
            exact ⟨rfl, rfl⟩
          refine ⟨fun z => ⟨z, by omega, by omega, by omega, fun y => ⟨by omega, by omega, ?_, by omega⟩, fun y => ⟨nn, fun _ => ⟨z, by omega, by omega, by omega, i :: tail, ?_, by rw [List.length_cons]; omega, by rw [List.length_cons]; omega, ?_, by omega⟩⟩⟩, fun z => ⟨nn, fun y => absurd (by omega) z⟩⟩
          · rw [hj, hlast z, if_neg (show ¬ (l.getD j.toNat TEvent.z).name = stepF ss m from y), show (j - 1 + 1).toNat = j.toNat by omega]
          · rw [ho]
            show _ = ((l.getD i.toNat TEvent.z).id :: idsL l tail).reverse
            rw [List.reverse_cons]
          · rw [hr2, hj, hlast z, if_pos (show (l.getD j.toNat TEvent.z).name = stepF ss m from y)]
            show Option.map _ ((chainP l (stepF ss) m j.toNat).map (· ++ [(j.toNat : Int)])) = _
            rw [Int.toNat_of_nonneg z]
            cases chainP l (stepF ss) m j.toNat with
            | none => rfl
            | some cc => simp
end Go.Avc

/- How far events go along steps: the reference's search. No condition. -/
set_option linter.unusedVariables false
set_option linter.unusedSimpArgs false
set_option maxRecDepth 100000
namespace Go.Avc
open Go Go.Proofs
def funRS  : Spec where
  pre xs := ∃ (l : List TEvent) (ss : List ByteArray) (w : Int), xs = [.sl (TEvent.rows l), .sl (rowsT ss), .i w] ∧ (okL TEvent.ok l ∧ eventsF l = 0 ∧ 1 ≤ ss.length ∧ ss.length ≤ 20 ∧ 0 ≤ w ∧ w ≤ 4321440)
  post xs y := ∃ (l : List TEvent) (ss : List ByteArray) (w : Int), xs = [.sl (TEvent.rows l), .sl (rowsT ss), .i w] ∧ y = .sl (rowsT (funR l ss w))
  cost _ := 0
  fresh := false
theorem funRS_c  (xs : List AV) : (funRS).cost xs = 0 := nr rfl
theorem funRS_f  : (funRS).fresh = false := nr rfl
theorem funRS_q  (l : List TEvent) (ss : List ByteArray) (w : Int) : (funRS).pre [.sl (TEvent.rows l), .sl (rowsT ss), .i w] = (okL TEvent.ok l ∧ eventsF l = 0 ∧ 1 ≤ ss.length ∧ ss.length ≤ 20 ∧ 0 ≤ w ∧ w ≤ 4321440) := propext ⟨fun h => by
  have h' : ∃ (l' : List TEvent) (ss' : List ByteArray) (w' : Int), ([.sl (TEvent.rows l), .sl (rowsT ss), .i w] : List AV) = [.sl (TEvent.rows l'), .sl (rowsT ss'), .i w'] ∧ (okL TEvent.ok l' ∧ eventsF l' = 0 ∧ 1 ≤ ss'.length ∧ ss'.length ≤ 20 ∧ 0 ≤ w' ∧ w' ≤ 4321440) := h
  obtain ⟨l', ss', w', e, h⟩ := h'
  simp only [List.cons.injEq, AV.dv.injEq, AV.dp.injEq, AV.fv.injEq, DV.d.injEq, DV.ag.injEq, D.int.injEq, D.str.injEq, D.bool.injEq, D.sl.injEq, true_and, and_true, intsDi_inj, rowsT_inj, rowsKi_inj, TEvent.row_inj, TEvent.rows_inj] at e
  obtain ⟨rfl, rfl, rfl⟩ := e
  exact h, fun h => ⟨l, ss, w, rfl, h⟩⟩
theorem funRS_p  (l : List TEvent) (ss : List ByteArray) (w : Int) : (funRS).post [.sl (TEvent.rows l), .sl (rowsT ss), .i w] = fun y => y = .sl (rowsT (funR l ss w)) := funext fun y => propext ⟨fun h => by
  have h' : ∃ (l' : List TEvent) (ss' : List ByteArray) (w' : Int), ([.sl (TEvent.rows l), .sl (rowsT ss), .i w] : List AV) = [.sl (TEvent.rows l'), .sl (rowsT ss'), .i w'] ∧ y = .sl (rowsT (funR l' ss' w')) := h
  obtain ⟨l', ss', w', e, h⟩ := h'
  simp only [List.cons.injEq, AV.dv.injEq, AV.dp.injEq, AV.fv.injEq, DV.d.injEq, DV.ag.injEq, D.int.injEq, D.str.injEq, D.bool.injEq, D.sl.injEq, true_and, and_true, intsDi_inj, rowsT_inj, rowsKi_inj, TEvent.row_inj, TEvent.rows_inj] at e
  obtain ⟨rfl, rfl, rfl⟩ := e
  exact h, fun h => ⟨l, ss, w, rfl, h⟩⟩
theorem cap354 : (10 == 3 || (10 == 5 || (10 == 4 || false))) = false := rfl
theorem back_hit {l : List TEvent} {ss : List ByteArray} {w : Int} {m i : Nat} (h : (l.getD i TEvent.z).name = stepF ss m) : (backB l ss w i m = true → ∃ c, hitF l ss w (m + 1) i = some c ∧ backI l ss i m = idsL l c) ∧ (backB l ss w i m = false → hitF l ss w (m + 1) i = none) := by
  have hh : hitF l ss w (m + 1) i = cutF l w i ((chainP l (stepF ss) m i).map (· ++ [(i : Int)])) := by
    unfold hitF
    rw [if_pos (show (l.getD i TEvent.z).name = stepF ss (m + 1 - 1) from h), chainP_hit h]
  rw [hh]
  unfold backB backI
  rw [Int.toNat_natCast, Int.toNat_natCast]
  cases chainP l (stepF ss) m i with
  | none => exact ⟨fun e => (by cases e), fun _ => rfl⟩
  | some c =>
    refine ⟨fun e => ⟨c ++ [(i : Int)], if_pos (of_decide_eq_true e), rfl⟩, fun e => if_neg (of_decide_eq_false e)⟩
set_option maxHeartbeats 16000000 in
theorem FunnelOf_ctr {cx : Cx} (h : Seat cx) : Ctr cx 44 funRS := by
  refine ctr_of (fn := Tryz.f44) (l := [.tmp 6]) (envL [(92, backS)]) [0, 1, 2, 3, 4, 5, 6, 7, 8, 9, 10, 11, 12, 18, 21, 22, 23, 24, 34, 42] [] [] (envL_cons (back_ctr h) (env0 h.hP)) ?_ (by rw [h.hP]; exact Tryz.func44) rfl (by kernel_rfl) rfl ?_ ?_
  · rw [h.hP]; exact ⟨_, Tryz.func44, by kernel_rfl, by kernel_rfl⟩
  · rintro xs ⟨l, ss, w, rfl, h1⟩; exact ⟨_, l, ss, w, rfl, rfl⟩
  · rintro xs ⟨l, ss, w, rfl, h1, c, s1, s2, w0, w1⟩
    have hl := (ev_right c).1
    have hwl : IntKind.i64.wrap ((ss.length : Int) - 1) = (ss.length : Int) - 1 := i64w (by omega) (by omega)
    refine ⟨by rw [Tryz.ntmps44]; simp, ?_⟩
    simp only [go_sem, h.hP, List.cons_append, List.nil_append, Meets_e, Below_e, Prod.exists, exists_eq, exists_eq_left, exists_eq_left', exists_eq_right, exists_eq_right', exists_and_left, exists_and_right, Ob.arr.injEq, AV.own.injEq, AV.fv.injEq, funRS_q, funRS_p, funRS_c, funRS_f, TEvent.len, rowsT_len, hwl, Tryz.ntmps44, Nat.reduceEqDiff, reduceCtorEq, Nat.reduceMul, Nat.reduceAdd, Nat.reduceSub, Nat.reduceDiv, Nat.reduceMod, Nat.reduceLeDiff, Nat.reduceLT, Nat.reduceBNe, Nat.reduceBEq, reduceIte, Int.reduceLE, Int.reduceLT, Int.reduceToNat, Int.reduceNeg, Int.reduceAdd, Int.reduceSub, Int.reduceMul, Int.reduceEq]
    refine vc_loopS (Int) (fun (k : Int) => [(8, .i k), (7, .fn 92 [3, 5, 4])]) [3, 4, 5] (fun (k : Int) => []) (fun (k : Int) => []) (fun (k : Int) => 0) (fun (k : Int) => -1 ≤ k ∧ k < ss.length ∧ funS l ss w ss.length = funS l ss w (k + 1).toNat) (fun (k : Int) => (k + 1).toNat) [] ?_ ?_
    · simp only [go_sem, h.hP, List.cons_append, List.nil_append, Meets_e, Below_e, Prod.exists, exists_eq, exists_eq_left, exists_eq_left', exists_eq_right, exists_eq_right', exists_and_left, exists_and_right, Ob.arr.injEq, AV.own.injEq, AV.fv.injEq, Tryz.ntmps44, Nat.reduceEqDiff, reduceCtorEq, Nat.reduceMul, Nat.reduceAdd, Nat.reduceSub, Nat.reduceDiv, Nat.reduceMod, Nat.reduceLeDiff, Nat.reduceLT, Nat.reduceBNe, Nat.reduceBEq, reduceIte, Int.reduceLE, Int.reduceLT, Int.reduceToNat, Int.reduceNeg, Int.reduceAdd, Int.reduceSub, Int.reduceMul, Int.reduceEq]
      exact ⟨by omega, by omega, by rw [show ((ss.length : Int) - 1 + 1).toNat = ss.length by omega]⟩
    · rintro k ⟨k0, k1, hm⟩
      simp only [go_sem, h.hP, List.cons_append, List.nil_append, Meets_e, Below_e, Prod.exists, exists_eq, exists_eq_left, exists_eq_left', exists_eq_right, exists_eq_right', exists_and_left, exists_and_right, Ob.arr.injEq, AV.own.injEq, AV.fv.injEq, funRS_q, funRS_p, funRS_c, funRS_f, TEvent.len, rowsT_len, strs_nil2, Tryz.ntmps44, Nat.reduceEqDiff, reduceCtorEq, Nat.reduceMul, Nat.reduceAdd, Nat.reduceSub, Nat.reduceDiv, Nat.reduceMod, Nat.reduceLeDiff, Nat.reduceLT, Nat.reduceBNe, Nat.reduceBEq, reduceIte, Int.reduceLE, Int.reduceLT, Int.reduceToNat, Int.reduceNeg, Int.reduceAdd, Int.reduceSub, Int.reduceMul, Int.reduceEq]
      refine ⟨fun q => ?_, fun q => ?_⟩
      · obtain ⟨m, rfl⟩ : ∃ m : Nat, k = m := ⟨k.toNat, by omega⟩
        rw [show ((m : Int) + 1).toNat = m + 1 by omega] at hm
        have hwm : IntKind.i64.wrap ((m : Int) - 1) = (m : Int) - 1 := i64w (by omega) (by omega)
        refine vc_loopS (Int) (fun (en : Int) => [(23, .i en), (7, .fn 92 [3, 5, 4])]) [3, 4, 5] (fun (en : Int) => []) (fun (en : Int) => []) (fun (en : Int) => 0) (fun (en : Int) => 0 ≤ en ∧ en ≤ l.length ∧ ∀ j : Nat, (j : Int) < en → hitF l ss w (m + 1) j = none) (fun (en : Int) => (l.length - en).toNat) [] ?_ ?_
        · simp only [go_sem, h.hP, List.cons_append, List.nil_append, Meets_e, Below_e, Prod.exists, exists_eq, exists_eq_left, exists_eq_left', exists_eq_right, exists_eq_right', exists_and_left, exists_and_right, Ob.arr.injEq, AV.own.injEq, AV.fv.injEq, Tryz.ntmps44, Nat.reduceEqDiff, reduceCtorEq, Nat.reduceMul, Nat.reduceAdd, Nat.reduceSub, Nat.reduceDiv, Nat.reduceMod, Nat.reduceLeDiff, Nat.reduceLT, Nat.reduceBNe, Nat.reduceBEq, reduceIte, Int.reduceLE, Int.reduceLT, Int.reduceToNat, Int.reduceNeg, Int.reduceAdd, Int.reduceSub, Int.reduceMul, Int.reduceEq]
          exact ⟨by omega, fun j hj => by omega⟩
        · rintro en ⟨n0, n1, hn⟩
          have hwe : IntKind.i64.wrap (en + 1) = en + 1 := i64w (by omega) (by omega)
          simp only [go_sem, h.hP, List.cons_append, List.nil_append, Meets_e, Below_e, Prod.exists, exists_eq, exists_eq_left, exists_eq_left', exists_eq_right, exists_eq_right', exists_and_left, exists_and_right, Ob.arr.injEq, AV.own.injEq, AV.fv.injEq, funRS_q, funRS_p, funRS_c, funRS_f, backS_c, backS_f, backS_p, backS_q, TEvent.row, TEvent.len, TEvent.get, rowsT_len, rowsT_get, rowsT_inj, List.contains_cons, List.contains_nil, cap354, hwm, hwe, Tryz.ntmps44, Nat.reduceEqDiff, reduceCtorEq, Nat.reduceMul, Nat.reduceAdd, Nat.reduceSub, Nat.reduceDiv, Nat.reduceMod, Nat.reduceLeDiff, Nat.reduceLT, Nat.reduceBNe, Nat.reduceBEq, reduceIte, Int.reduceLE, Int.reduceLT, Int.reduceToNat, Int.reduceNeg, Int.reduceAdd, Int.reduceSub, Int.reduceMul, Int.reduceEq]
          have next : en < l.length → hitF l ss w (m + 1) en.toNat = none → (0 ≤ en + 1 ∧ en + 1 ≤ l.length ∧ (∀ (j : Nat), (j : Int) < en + 1 → hitF l ss w (m + 1) j = none) ∧ ((l.length : Int) - (en + 1)).toNat < ((l.length : Int) - en).toNat) := fun z hh => by
            refine ⟨by omega, by omega, fun j hj => ?_, by omega⟩
            by_cases e : (j : Int) = en
            · rw [show j = en.toNat by omega]; exact hh
            · exact hn j (by omega)
          refine ⟨fun z => ⟨n0, z, by omega, by omega, fun y => next z (if_neg y), fun y => ?_⟩, fun z => ⟨by omega, by omega, ?_, by omega⟩⟩
          · obtain ⟨e, rfl⟩ : ∃ e : Nat, en = e := ⟨en.toNat, by omega⟩
            obtain ⟨hb1, hb2⟩ := back_hit (w := w) (show (l.getD e TEvent.z).name = stepF ss m from y)
            refine ⟨h1, c, s2, n0, z, by omega, by omega, fun t => ?_, fun t => next z (hb2 t)⟩
            obtain ⟨cc, hfound, hI⟩ := hb1 t
            have hres : funR l ss w = idsL l cc := by
              unfold funR
              rw [hm]
              show (match (match firstS (hitF l ss w (m + 1)) l.length with
                | some c => some c
                | none => funS l ss w m) with
                | some c => idsL l c
                | none => []) = _
              rw [firstS_at (i := e) (by omega) (fun j hj => hn j (by omega)) hfound]
            rw [hI, hres]
          · have hn2 : firstS (hitF l ss w (m + 1)) l.length = none := firstS_no fun j hj => hn j (by omega)
            rw [hm, show ((m : Int) - 1 + 1).toNat = m by omega]
            show (match firstS (hitF l ss w (m + 1)) l.length with
              | some c => some c
              | none => funS l ss w m) = _
            rw [hn2]
      · have : (k + 1).toNat = 0 := by omega
        unfold funR
        rw [hm, this]
        rfl
theorem namesF_5 {ss : List ByteArray} (h : ¬ namesF ss = 0) : namesF ss = 5 := by
  unfold namesF firstI at *
  split
  · rename_i i hi
    rw [hi] at h
    unfold nameE at *
    split
    · rfl
    · rename_i hk
      exact absurd (if_neg hk) h
  · rename_i hi
    rw [hi] at h
    exact absurd rfl h
theorem funS_len {l : List TEvent} {ss : List ByteArray} {w : Int} : ∀ {m : Nat} {c : List Int}, funS l ss w m = some c → c.length ≤ m
  | 0, c, h => by cases h
  | m + 1, c, h => by
    unfold funS at h
    split at h
    · rename_i d hd
      cases h
      unfold firstS at hd
      obtain ⟨i, _, hi⟩ := List.exists_of_findSome?_eq_some hd
      unfold hitF at hi
      split at hi
      · cases hc : chainP l (stepF ss) (m + 1) (i + 1) with
        | none => rw [hc] at hi; cases hi
        | some e =>
          rw [hc] at hi
          unfold cutF at hi
          simp only at hi
          split at hi
          · cases hi
            exact Nat.le_of_eq (chainP_in hc).1
          · cases hi
      · cases hi
    · exact Nat.le_succ_of_le (funS_len h)
theorem funR_len (l : List TEvent) (ss : List ByteArray) (w : Int) : (funR l ss w).length ≤ ss.length := by
  unfold funR
  split
  · rename_i c hc
    rw [idsL_len]
    exact funS_len hc
  · exact Nat.zero_le _
theorem funE_use {l : List TEvent} {ss : List ByteArray} {w : Int} (h : funE l ss w = 0) : eventsF l = 0 ∧ 1 ≤ ss.length ∧ ss.length ≤ 20 ∧ 0 ≤ w ∧ w ≤ 4321440 := by
  by_cases c : eventsF l = 0
  · have e : funE l ss w = if ss.length = 0 then 3 else if 20 < (ss.length : Int) then 2 else orE (namesF ss) (if inB w 0 4321440 = false then 1 else 0) := orE_r c
    rw [e] at h
    split at h
    · cases h
    · split at h
      · cases h
      · by_cases d : namesF ss = 0
        · rw [orE_r d] at h
          split at h
          · cases h
          · rename_i g
            rw [Bool.not_eq_false] at g
            have := inB_iff.1 g
            exact ⟨c, by omega, by omega, this.1, this.2⟩
        · rw [orE_l d] at h
          exact absurd h d
  · have e : funE l ss w = eventsF l := orE_l c
    exact absurd (e.symm.trans h) c
end Go.Avc

/- The generator of events: its contract; the predicate by which some are struck out. No condition. -/
set_option linter.unusedVariables false
set_option linter.unusedSimpArgs false
set_option maxRecDepth 100000
namespace Go.Avc
open Go Go.Proofs

theorem enc_size (n : Int) : (Utf8.encode n).size ≤ 4 := by
  unfold Utf8.encode
  dsimp only
  (repeat' split) <;> exact Nat.le_of_ble_eq_true rfl
theorem rsetE (l : List TEvent) (i : Nat) (x : TEvent) : (TEvent.rows l).set i [.str x.id, .str x.name, .int .i64 x.at_, .int .i64 x.who.kind, .str x.who.text, .sl (TField.rows x.fields)] = TEvent.rows (l.set i x) := TEvent.rset l i x
theorem eok_set {l : List TEvent} (h : ∀ c ∈ l, c.ok) {n : Nat} {x : TEvent} (hx : x.ok) : ∀ c ∈ l.set n x, c.ok := fun c hc => by
  rcases List.mem_or_eq_of_mem_set hc with hc | rfl
  · exact h c hc
  · exact hx
theorem eok_get {l : List TEvent} (h : ∀ c ∈ l, c.ok) (n : Nat) : (l.getD n TEvent.z).ok := by
  rw [List.getD_eq_getElem?_getD]
  cases e : l[n]? with
  | none => exact TEvent.z_ok
  | some x => exact h x (List.mem_of_getElem? e)
def eidS : Spec where
  pre xs := ∃ i : Int, xs = [.i i] ∧ 0 ≤ i ∧ i ≤ 1000
  post xs y := ∃ s : ByteArray, okS s ∧ y = .str s
  cost _ := 0
  fresh := true
theorem eventId_ctr {cx : Cx} (h : Seat cx) : Ctr cx 73 eidS := by
  refine ctr_of (fn := Tryz.f73) (l := [.tmp 2]) (envL []) [0, 2] [] [] (env0 h.hP) ?_ (by rw [h.hP]; exact Tryz.func73) rfl (by kernel_rfl) rfl ?_ ?_
  · rw [h.hP]; exact ⟨_, Tryz.func73, by kernel_rfl, by kernel_rfl⟩
  · rintro xs ⟨i, rfl, h1⟩; exact ⟨_, ⟨#[]⟩, okS_z, rfl⟩
  · rintro xs ⟨i, rfl, h1, h2⟩
    refine ⟨by rw [Tryz.ntmps73]; simp, ?_⟩
    simp only [go_sem, h.hP, List.cons_append, List.nil_append, Meets_e, Below_e, Prod.exists, exists_eq, exists_eq_left, exists_eq_left', exists_eq_right, exists_eq_right', exists_and_left, exists_and_right, Ob.arr.injEq, AV.own.injEq, AV.fv.injEq, eidS, Tryz.ntmps73, Nat.reduceEqDiff, reduceCtorEq, Nat.reduceMul, Nat.reduceAdd, Nat.reduceSub, Nat.reduceDiv, Nat.reduceMod, Nat.reduceLeDiff, Nat.reduceLT, Nat.reduceBNe, Nat.reduceBEq, reduceIte, Int.reduceLE, Int.reduceLT, Int.reduceToNat, Int.reduceNeg, Int.reduceAdd, Int.reduceSub, Int.reduceMul, Int.reduceEq]
    have e1 := enc_size (IntKind.i32.wrap (IntKind.i64.wrap (97 + (IntKind.i64.wrap (i.tdiv 26)).tmod 26)))
    have e2 := enc_size (IntKind.i32.wrap (IntKind.i64.wrap (97 + i.tmod 26)))
    generalize Utf8.encode (IntKind.i32.wrap (IntKind.i64.wrap (97 + (IntKind.i64.wrap (i.tdiv 26)).tmod 26))) = a at e1
    generalize Utf8.encode (IntKind.i32.wrap (IntKind.i64.wrap (97 + i.tmod 26))) = b at e2
    refine ⟨by omega, by omega, okS_of ?_⟩
    rw [ByteArray.size_append, ByteArray.size_append]
    have : (⟨#[101]⟩ : ByteArray).size = 1 := rfl
    omega
def eventsG : Spec where
  pre xs := ∃ m : Int, xs = [.st, .i m] ∧ m ≤ 20
  post xs y := ∃ (m : Int) (l : List TEvent), xs = [.st, .i m] ∧ l.length ≤ 20 ∧ (∀ x ∈ l, x.ok) ∧ y = .sl (TEvent.rows l)
  cost _ := 2000
  fresh := false
set_option maxHeartbeats 8000000 in
theorem Events_own {cx : Cx} (h : Seat cx) (hN : cx.glob 2 = some namesD) (hI : cx.glob 0 = some poolD) (hE : cx.glob 1 = some evNamesD) : CtrO cx 31 eventsG 52 6 := by
  refine ctrO_of (fn := Tryz.f31) (t := 4) (envL [(12, pickS), (26, flipS), (72, eventG), (73, eidS)]) [0, 1, 4, 5, 6, 7, 11, 12, 13, 34] [] [(10, [0, 1, 2, 5], [3, 4, 6, 7, 8, 9, 10, 11])] (envL_cons (pick_ctr cx h.hP h.hS) (envL_cons (flip_ctr cx h.hP h.hS) (envL_cons (Event_ctr h hN hI hE) (envL_cons (eventId_ctr h) (env0 h.hP))))) ?_ (by rw [h.hP]; exact Tryz.func31) rfl (by kernel_rfl) rfl ?_ (by decide)
  · rw [h.hP]; exact ⟨_, Tryz.func31, by kernel_rfl, by kernel_rfl⟩
  · rintro xs ⟨m, rfl, h1⟩
    refine ⟨by rw [Tryz.ntmps31]; simp, ?_⟩
    simp only [go_sem, h.hP, List.cons_append, List.nil_append, Meets_e, Below_e, Prod.exists, exists_eq, exists_eq_left, exists_eq_left', exists_eq_right, exists_eq_right', exists_and_left, exists_and_right, Ob.arr.injEq, AV.own.injEq, AV.fv.injEq, eventsG, pickS_q, pickS_p, pickS_c, pickS_f, ints1, intsc, Tryz.ntmps31, Nat.reduceEqDiff, reduceCtorEq, Nat.reduceMul, Nat.reduceAdd, Nat.reduceSub, Nat.reduceDiv, Nat.reduceMod, Nat.reduceLeDiff, Nat.reduceLT, Nat.reduceBNe, Nat.reduceBEq, reduceIte, Int.reduceLE, Int.reduceLT, Int.reduceToNat, Int.reduceNeg, Int.reduceAdd, Int.reduceSub, Int.reduceMul, Int.reduceEq]
    intro a0 ha0
    have ha : 0 ≤ a0 ∧ a0 ≤ 1000 := by
      simp only [isIn, List.mem_cons, List.not_mem_nil, or_false] at ha0
      omega
    refine vc_loopS (Int × Int × List TEvent) (fun (x : Int × Int × List TEvent) => match x with | (i, n, l) => [(12, .i i), (6, .i n), (5, .own 5)]) [] (fun (x : Int × Int × List TEvent) => match x with | (i, n, l) => []) (fun (x : Int × Int × List TEvent) => match x with | (i, n, l) => [(5, .arr 52 6 (TEvent.rows l))]) (fun (x : Int × Int × List TEvent) => match x with | (i, n, l) => 81 * i.toNat + 1) (fun (x : Int × Int × List TEvent) => match x with | (i, n, l) => 0 ≤ i ∧ i ≤ max 0 m ∧ (l.length : Int) = i ∧ 0 ≤ n ∧ n ≤ 1000 + 1440 * i ∧ ∀ c ∈ l, c.ok) (fun (x : Int × Int × List TEvent) => match x with | (i, n, l) => (m - i).toNat) [(5, 52, 6)] ?_ ?_
    · simp only [go_sem, h.hP, List.cons_append, List.nil_append, Meets_e, Below_e, Prod.exists, exists_eq, exists_eq_left, exists_eq_left', exists_eq_right, exists_eq_right', exists_and_left, exists_and_right, Ob.arr.injEq, AV.own.injEq, AV.fv.injEq, TEvent.nil2, Tryz.ntmps31, Nat.reduceEqDiff, reduceCtorEq, Nat.reduceMul, Nat.reduceAdd, Nat.reduceSub, Nat.reduceDiv, Nat.reduceMod, Nat.reduceLeDiff, Nat.reduceLT, Nat.reduceBNe, Nat.reduceBEq, reduceIte, Int.reduceLE, Int.reduceLT, Int.reduceToNat, Int.reduceNeg, Int.reduceAdd, Int.reduceSub, Int.reduceMul, Int.reduceEq]
      exact ⟨by omega, rfl, ha.1, ha.2⟩
    · rintro ⟨i, n, l⟩ ⟨j1, j2, j3, j4, j5, j6⟩
      have hw : IntKind.i64.wrap (i + 1) = i + 1 := i64w (by omega) (by omega)
      simp only [go_sem, h.hP, List.cons_append, List.nil_append, Meets_e, Below_e, Prod.exists, exists_eq, exists_eq_left, exists_eq_left', exists_eq_right, exists_eq_right', exists_and_left, exists_and_right, Ob.arr.injEq, AV.own.injEq, AV.fv.injEq, eventsG, eventG, eidS, pickS_q, pickS_p, pickS_c, pickS_f, flipS_q, flipS_p, flipS_c, flipS_f, ints1, intsc, TEvent.row, TEvent.fold1, TEvent.app', TEvent.rows_inj, TEvent.zlT, TEvent.len, TEvent.get, rsetE, List.length_append, List.length_singleton, List.length_set, List.drop_succ_cons, List.drop_zero, List.drop_nil, hw, Tryz.ntmps31, Nat.reduceEqDiff, reduceCtorEq, Nat.reduceMul, Nat.reduceAdd, Nat.reduceSub, Nat.reduceDiv, Nat.reduceMod, Nat.reduceLeDiff, Nat.reduceLT, Nat.reduceBNe, Nat.reduceBEq, reduceIte, Int.reduceLE, Int.reduceLT, Int.reduceToNat, Int.reduceNeg, Int.reduceAdd, Int.reduceSub, Int.reduceMul, Int.reduceEq]
      have b1 : 81 * i.toNat ≤ 1918 := by omega
      have b2 : 81 * i.toNat ≤ 1998 := by omega
      have b3 : 81 * i.toNat ≤ 1999 := by omega
      have b4 : (l.length + 1) * 88 ≤ 140737488355328 := by omega
      have b5 : l.length ≤ 9223372036854775806 := by omega
      have b6 : (l.length : Int) ≤ 20 := by omega
      clear hw
      simp only [b1, b2, b3, b4, b5, true_and]
      refine ⟨fun c a ha1 => ⟨j1, by omega, fun s hs => ⟨hs, ?_, fun e he => ?_⟩⟩, fun c => ?_⟩
      · have ha2 : 0 ≤ a ∧ a ≤ 1440 := by
          simp only [isIn, List.mem_cons, List.not_mem_nil, or_false] at ha1
          omega
        rw [i64w (by omega) (by omega)]
        exact ⟨by omega, by omega⟩
      · have ha2 : 0 ≤ a ∧ a ≤ 1440 := by
          simp only [isIn, List.mem_cons, List.not_mem_nil, or_false] at ha1
          omega
        rw [i64w (by omega) (by omega)]
        exact ⟨by omega, by omega, by omega, by omega, by omega, by omega, okL_app j6 he, by omega⟩
      · refine ⟨fun d f => ⟨fun _ => ⟨by omega, by omega, by omega, by omega, by omega, by omega, by omega, by omega, _, ?_, eok_set (eok_set j6 (eok_get j6 1)) (eok_get j6 0), rfl⟩, fun _ => ⟨l, by omega, j6, rfl⟩⟩, fun _ => ⟨l, by omega, j6, rfl⟩⟩
        rw [List.length_set, List.length_set]
        omega
def anyB : Spec where
  pre xs := ∃ e : TEvent, xs = [.dv (.ag e.row)] ∧ e.ok
  post xs y := ∃ b : Bool, y = .b b
  cost _ := 0
  fresh := true
theorem Right1_ctr {cx : Cx} (h : Seat cx) (hU : Utf8 cx) (hM : MaxL cx) : Ctr cx 105 anyB := by
  refine ctr_of (fn := Tryz.f105) (l := [.tmp 2]) (envL [(33, eventsS)]) [0, 1, 2] [] [] (envL_cons (EventsFault_ctr h hU hM) (env0 h.hP)) ?_ (by rw [h.hP]; exact Tryz.func105) rfl (by kernel_rfl) rfl ?_ ?_
  · rw [h.hP]; exact ⟨_, Tryz.func105, by kernel_rfl, by kernel_rfl⟩
  · rintro xs ⟨e, rfl, h1⟩; exact ⟨_, true, rfl⟩
  · rintro xs ⟨e, rfl, h1⟩
    refine ⟨by rw [Tryz.ntmps105]; simp, ?_⟩
    simp only [go_sem, h.hP, List.cons_append, List.nil_append, Meets_e, Below_e, Prod.exists, exists_eq, exists_eq_left, exists_eq_left', exists_eq_right, exists_eq_right', exists_and_left, exists_and_right, Ob.arr.injEq, AV.own.injEq, AV.fv.injEq, anyB, eventsS_q, eventsS_p, eventsS_c, eventsS_f, TEvent.row, TEvent.fold1, TEvent.rows_inj, Tryz.ntmps105, Nat.reduceEqDiff, reduceCtorEq, Nat.reduceMul, Nat.reduceAdd, Nat.reduceSub, Nat.reduceDiv, Nat.reduceMod, Nat.reduceLeDiff, Nat.reduceLT, Nat.reduceBNe, Nat.reduceBEq, reduceIte, Int.reduceLE, Int.reduceLT, Int.reduceToNat, Int.reduceNeg, Int.reduceAdd, Int.reduceSub, Int.reduceMul, Int.reduceEq]
    exact okL_one h1
end Go.Avc

/- Events that are right, in order: the generator's contract. No condition. -/
set_option linter.unusedVariables false
set_option linter.unusedSimpArgs false
set_option maxRecDepth 100000
namespace Go.Avc
open Go Go.Proofs

theorem DelW.list {w W : World} {b off : Nat} {S : TEvent × EvV → Prop} : ∀ {n : Nat}, (∀ j, j < n → ∃ p, S p ∧ ∀ c v, p.2.enc[c]? = some v → W.cell? ⟨b, off + j * 6 + c, none⟩ = some v) →
    ∃ ps : List (TEvent × EvV), ps.length = n ∧ (∀ p ∈ ps, S p) ∧ ∀ j u, (encP ps)[j]? = some u → W.cell? ⟨b, off + j, none⟩ = some u := by
  intro n
  induction n with
  | zero => exact fun _ => ⟨[], rfl, fun p hp => (by cases hp), fun j u hj => by simp [encP] at hj⟩
  | succ n ih =>
    intro h
    obtain ⟨ps, h1, h2, h3⟩ := ih fun j hj => h j (by omega)
    obtain ⟨p, hp, hc⟩ := h n (by omega)
    have he : encP (ps ++ [p]) = encP ps ++ p.2.enc := by
      unfold encP
      rw [List.map_append, List.flatten_append]
      simp
    refine ⟨ps ++ [p], by rw [List.length_append, h1]; rfl, fun q hq => ?_, fun j u hj => ?_⟩
    · rcases List.mem_append.1 hq with hq | hq
      · exact h2 q hq
      · rw [List.mem_singleton.1 hq]; exact hp
    · rw [he] at hj
      have hl : (encP ps).length = n * 6 := by rw [encP_len, h1]
      by_cases hi : j < n * 6
      · rw [List.getElem?_append_left (by omega)] at hj
        exact h3 j u hj
      · rw [List.getElem?_append_right (by omega), hl] at hj
        have := hc (j - n * 6) u hj
        rwa [show off + n * 6 + (j - n * 6) = off + j by omega] at this
set_option maxHeartbeats 4000000 in
theorem sorted_raw {v : Value} {w : World} {ps : List (TEvent × EvV)} (hlen : ps.length ≤ 1048576)
    (hclone : Calls Tryz.prog 38 #[v] w fun e w' => ∃ v', e = .returned v' ∧ w'.ownsRow w.heap.size 52 6 v' ps.length (encP ps) ∧ RowKit.Below w.heap.size w w') :
    Calls Tryz.prog 104 #[v] w fun e w' => ∃ (v' : Value) (ps' : List (TEvent × EvV)), e = .returned v' ∧ ps'.Perm ps ∧ w'.ownsRow w.heap.size 52 6 v' ps'.length (encP ps') ∧ RowKit.Below w.heap.size w w' := by
  go_enter Tryz.func104, Tryz.ntmps104
  go_wp2_with (go_at_call 38; refine hclone.mono ?_)
  rintro e w1 ⟨v', rfl, hown, hb⟩
  have hs := sortE hlen hown
  go_wp2_with (go_at_call 155; refine hs.mono ?_)
  rintro e w2 ⟨rfl, ps', hp, ⟨q1, q2, q3, q4, q5⟩, hown2⟩
  go_wp2
  go_ret
  refine ⟨_, ps', rfl, hp, hown2, q1.trans hb.os, q2.trans hb.tape, q3.trans hb.output, Nat.le_trans hb.size q4, fun k hk => (q5 k (Nat.lt_of_lt_of_le hk hb.size) (fun e => ?_)).trans (hb.block k hk)⟩
  rcases hown.2 with ⟨h1, _⟩ | ⟨g, cap, cur, h1, h2, _⟩
  · rw [h1] at e; cases e
  · rw [h1] at e
    have e2 : g = k := Option.some.inj e
    omega
set_option maxHeartbeats 4000000 in
theorem idx_nil (g : Nat) (w : World) : Calls Tryz.prog 87 #[.slice none 0 0, .func (.func g) #[] #[]] w fun e W => e = .returned (.int .i64 (-1)) ∧ W = w := by
  go_enter Tryz.func87, Tryz.ntmps87
  go_wp2
  go_loopw [8] (fun i wr => i = .int .i64 0 ∧ wr = w) (fun _ _ => 0)
  case atStart => exact ⟨rfl, rfl⟩
  case round =>
    obtain ⟨rfl, rfl⟩ := hrel
    go_wp2
    go_ret
    exact ⟨rfl, rfl⟩
set_option maxHeartbeats 4000000 in
theorem del_nil (g : Nat) (w : World) : Calls Tryz.prog 37 #[.slice none 0 0, .func (.func g) #[] #[]] w fun e W => e = .returned (.slice none 0 0) ∧ W = w := by
  go_enter Tryz.func37, Tryz.ntmps37
  go_wp2_with (go_at_call 87; refine (idx_nil g w).mono ?_; rintro e w1 ⟨rfl, rfl⟩)
  go_ret
  exact ⟨rfl, rfl⟩
/-- The context without the stream. -/
def Cx.dry (cx : Cx) : Cx := ⟨cx.P, none, cx.L, cx.ST, cx.ng, cx.glob⟩
theorem Seat.dry {cx : Cx} (h : Seat cx) : Seat cx.dry := ⟨h.hP, h.hS⟩
theorem glAt_dry {cx : Cx} {w : World} (h : GlAt cx w) : GlAt cx.dry w := h
set_option maxHeartbeats 8000000 in
theorem Right_own {cx : Cx} (h : Seat cx) (hN : cx.glob 2 = some namesD) (hI : cx.glob 0 = some poolD) (hE : cx.glob 1 = some evNamesD) (hD : Ctr cx.dry 105 anyB) :
    CtrO cx 54 eventsG 52 6 := by
  refine ⟨by rw [h.hP]; exact ⟨_, Tryz.func54, by kernel_rfl, by kernel_rfl⟩, fun _ => ?_, fun hz => by omega⟩
  rintro F xs vals hcx hF hst hgl hco hlen hargs ⟨m, rfl, hm⟩
  subst hcx
  obtain ⟨sv, mv, rfl⟩ : ∃ a b, vals = [a, b] := by
    match vals, hlen with
    | [a, b], _ => exact ⟨a, b, rfl⟩
  have hmv : mv = .int .i64 m := rd_int_val (show Rd F.ok F.w0 (.int .i64 m) mv from hargs 1 _ mv rfl rfl)
  have hev := (Events_own h hN hI hE).2.1 (by decide) F [.st, .i m] [sv, mv] rfl hF hst hgl hco rfl hargs ⟨m, rfl, hm⟩
  have hen : Enters F.cx.P 105 := hD.1
  rw [h.hP] at hev hen ⊢
  subst hmv
  have fin : ∀ (w1 w2 w3 : World) (v v' : Value) (ps ps2 ps3 : List (TEvent × EvV)), Gr F.cx.g F.w0 w1 → StAt F.cx (F.N + eventsG.cost [.st, .i m]) w1 → (∀ b, v.ownBlock = some b → F.w0.heap.size ≤ b) → ps.length ≤ 20 → ps2.length ≤ ps.length → (∀ p ∈ ps, p.1.ok) → (∀ p ∈ ps, Lay (fun b => resOk F false b ∧ v.ownBlock ≠ some b) w1 p) → (∀ p ∈ ps2, p ∈ ps) →
      w2.os = w1.os → w2.tape = w1.tape → w2.output = w1.output → w1.heap.size ≤ w2.heap.size → (∀ k, k < w1.heap.size → v.ownBlock ≠ some k → w2.heap[k]? = w1.heap[k]?) → ps3.Perm ps2 → w3.ownsRow w2.heap.size 52 6 v' ps3.length (encP ps3) → RowKit.Below w2.heap.size w2 w3 →
      ∃ (v0 : Value) (r : AV), Ending.returned v' = .returned v0 ∧ Gr F.cx.g F.w0 w3 ∧ StAt F.cx (F.N + eventsG.cost [.st, .i m]) w3 ∧ eventsG.post [.st, .i m] r ∧ Hands (resOk F eventsG.fresh) w3 F.w0.heap.size 52 6 v0 r := by
    intro w1 w2 w3 v v' ps ps2 ps3 hg1 hst1 hvb hl hl2 hok hlay hsub o1 o2 o3 o4 o5 hp hown hb
    have hsz : F.w0.heap.size ≤ w1.heap.size := hg1.size
    have hkeep : ∀ k, k < w1.heap.size → v.ownBlock ≠ some k → w3.heap[k]? = w1.heap[k]? := fun k hk hne => (hb.block k (Nat.lt_of_lt_of_le hk o4)).trans (o5 k hk hne)
    have hkeep0 : ∀ k, k < F.w0.heap.size → w3.heap[k]? = w1.heap[k]? := fun k hk => hkeep k (Nat.lt_of_lt_of_le hk hsz) (fun e => by have := hvb k e; omega)
    have hg : ∀ b, F.cx.g = some b → b < F.w0.heap.size := hF.g
    refine ⟨v', .sl (TEvent.rows (ps3.map Prod.fst)), rfl, ⟨(hb.os.trans o1).trans hg1.os, (hb.tape.trans o2).trans hg1.tape, (hb.output.trans o3).trans hg1.output, Nat.le_trans hsz (Nat.le_trans o4 hb.size), fun k hk hne => (hkeep0 k hk).trans (hg1.block k hk hne)⟩,
      hst1.keep2 (Nat.le_trans o4 hb.size) (fun b b' e hle => hkeep0 b' (Nat.lt_of_le_of_lt hle (hg b e))), ⟨m, ps3.map Prod.fst, rfl, by rw [List.length_map, hp.length_eq]; omega, fun x hx => ?_, rfl⟩, .inl ⟨_, encP ps3, by decide, rfl, ?_, fun i x hx => TEvent.z_len _ x (List.mem_of_getElem? hx), lays_to ps3 fun p hp3 => ?_⟩⟩
    · obtain ⟨p, hp3, rfl⟩ := List.mem_map.1 hx
      exact hok p (hsub p (hp.mem_iff.1 hp3))
    · rw [TEvent.len, List.length_map]
      refine ⟨hown.1, hown.2.imp id fun ⟨g, cap, cur, q1, q2, q3⟩ => ⟨g, cap, cur, q1, by omega, q3⟩⟩
    · refine (hlay p (hsub p (hp.mem_iff.1 hp3))).mono (Nat.le_trans o4 hb.size) (fun b hb1 hlt => ⟨hb1.1, fun e => ?_⟩) (fun b hb1 hlt => hkeep b hlt hb1.2)
      rcases hown.2 with ⟨q1, _⟩ | ⟨g, cap, cur, q1, q2, _⟩
      · rw [q1] at e; cases e
      · rw [q1] at e
        have e2 : g = b := Option.some.inj e
        omega
  go_enter Tryz.func54, Tryz.ntmps54
  go_wp2_with (go_at_call 31; refine hev.mono ?_)
  rintro e w1 ⟨v, r, rfl, hg1, hst1, ⟨m', l, hx, hl, hok, rfl⟩, hands⟩
  rcases hands with ⟨l', cs, _, hr, hown, hz, hR⟩ | ⟨_, _, _, _, _, h1000, _⟩
  case inr => omega
  have hr : TEvent.rows l = l' := by simpa using hr
  subst hr
  obtain ⟨ps, hps, rfl, hlay⟩ := lays_of l cs hR
  rw [TEvent.len] at hown
  have hpl : ps.length = l.length := by rw [← hps, List.length_map]
  have hpok : ∀ p ∈ ps, p.1.ok := fun p hp => hok p.1 (by rw [← hps]; exact List.mem_map.2 ⟨p, hp, rfl⟩)
  have hvb : ∀ b, v.ownBlock = some b → F.w0.heap.size ≤ b := fun b hb => by
    rcases hown.2 with ⟨q1, _⟩ | ⟨g, cap, cur, q1, q2, _⟩
    · rw [q1] at hb; cases hb
    · rw [q1] at hb
      cases hb
      exact q2
  rcases hown.2 with ⟨h1, hn⟩ | ⟨b, cap, cur, h1, h2, h3, h4, h5, h6, h7⟩
  · subst h1
    have hs := sorted_raw (v := .slice none 0 0) (w := w1) (ps := []) (Nat.zero_le _) ((AnyE.slices_Clone_nil Tryz.laysCloneEvent 0 0 w1).mono fun e w' ⟨e1, e2⟩ => ⟨_, e1, World.ownsRow_nil .., e2 ▸ RowKit.Below.refl _ _⟩)
    go_wp2_with (go_at_call 37; refine (del_nil _ w1).mono ?_)
    rintro e w2 ⟨rfl, rfl⟩
    go_wp2_with (go_at_call 104; refine hs.mono ?_)
    rintro e w3 ⟨v', ps', rfl, hp, hown3, hb3⟩
    go_wp2
    go_ret
    exact fin w2 w2 w3 _ v' ps [] ps' hg1 hst1 hvb (by omega) (Nat.zero_le _) hpok hlay (fun p hp => by cases hp) rfl rfl rfl (Nat.le_refl _) (fun _ _ _ => rfl) hp hown3 hb3
  · subst h1
    have hb : b < w1.heap.size := (Array.getElem?_eq_some_iff.1 h3).1
    have hrow : RowsIn (· ∈ ps) cur ps.length := RowsIn.of (by rw [hpl]; exact h7)
    have hd0 : DelW w1 b 0 l.length (· ∈ ps) w1 := by
      refine ⟨rfl, rfl, rfl, Nat.le_refl _, fun _ _ _ => rfl, fun j hj => ?_, fun o => ?_⟩
      · obtain ⟨p, hp, hc⟩ := hrow j (by omega)
        refine ⟨p, hp, fun c v hv => ?_⟩
        have hc6 : c < 6 := (List.getElem?_eq_some_iff.1 hv).1
        unfold World.cell?
        rw [h3]
        have := hc c hc6
        rw [hv] at this
        simpa using this
      · unfold World.frozen?
        rw [h3]
        simp
    have hgl0 := hgl
    have hcall : ∀ p, p ∈ ps → ∀ W, DelW w1 b 0 l.length (· ∈ ps) W → Calls Tryz.prog 105 #[.agg p.2.enc.toArray] W fun e W' => ∃ q : Bool, e = .returned (.bool q) ∧ RowKit.Below W.heap.size W W' := by
      intro p hp W hW
      have hgW : Gr F.cx.g F.w0 W := ⟨hW.os.trans hg1.os, hW.tape.trans hg1.tape, hW.out.trans hg1.output, Nat.le_trans hg1.size hW.size, fun k hk hne => (hW.keep k (Nat.lt_of_lt_of_le hk hg1.size) (by omega)).trans (hg1.block k hk hne)⟩
      have hglW : GlAt F.cx W := hgl.keep hst hgW
      have hng : ∀ k, k < F.cx.ng → k < W.heap.size := fun k hk => by
        have h1 := hF.gl k hk
        have h2 := (hF.ok k h1).1
        have h3 := hgW.size
        omega
      let F' : Fr := ⟨F.cx.dry, W, fun b => b < W.heap.size, 0, 0, 0, W, fun _ => False⟩
      have hF' : F'.Wf := ⟨fun b hb => ⟨hb, fun e => (by cases e)⟩, fun b hb => hng b hb, fun b hb => (by cases hb), by show 0 + 0 ≤ _; decide⟩
      have hl1 : Lay (fun b => b < W.heap.size) W p := (hlay p hp).mono hW.size (fun k hk hlt => Nat.lt_of_lt_of_le hlt hW.size) (fun k hk hlt => hW.keep k hlt (fun e => hk.2 (by rw [e]; rfl)))
      have hc := hD.2.2 F' [.dv (.ag p.1.row)] [.agg p.2.enc.toArray] rfl hF' (fun b hb => (by cases hb)) (glAt_dry hglW) (Nat.zero_le _) rfl (fun i a u ha hu => by
        cases i with
        | zero =>
          simp only [List.getElem?_cons_zero, Option.some.injEq] at ha hu
          subst ha
          subst hu
          exact ⟨p.2.enc, rfl, hl1⟩
        | succ i => simp at ha) ⟨p.1, rfl, hpok p hp⟩
      rw [show F.cx.dry.P = Tryz.prog from h.hP] at hc
      refine hc.mono ?_
      rintro e W' ⟨u, r, rfl, hg2, _, ⟨q, rfl⟩, _, hr⟩
      have hu : u = .bool q := by
        have hr : Rd (resOk F' anyB.fresh) W' (.bool q) u := hr
        cases hr
        rfl
      subst hu
      exact ⟨q, rfl, hg2.os, hg2.tape, hg2.output, hg2.size, fun k hk => hg2.block k hk (fun e => by cases e)⟩
    have hdel := del_walk (cap := cap) (g := 105) hb (show l.length ≤ 1048576 by omega) (show l.length ≤ cap by omega) hd0 (fun args w => callFunc_run hen args w) hcall
    go_wp2_with (go_at_call 37; refine hdel.mono ?_)
    rintro e w2 ⟨i, hi, rfl, hd2⟩
    obtain ⟨ps2, hp1, hp2, hp3⟩ := DelW.list (w := w2) hd2.rows
    have hs := sorted_raw (v := .slice (some ⟨b, 0, none⟩) i cap) (w := w2) (ps := ps2) (by omega) (by
      have := cloneE_rest ps2 b 0 cap w2 (by omega) hp3
      rwa [hp1] at this ⊢)
    go_wp2_with (go_at_call 104; refine hs.mono ?_)
    rintro e w3 ⟨v', ps', rfl, hp, hown3, hb3⟩
    go_wp2
    go_ret
    exact fin w1 w2 w3 _ v' ps ps2 ps' hg1 hst1 hvb (by omega) (by omega) hpok hlay hp2 hd2.os hd2.tape hd2.out hd2.size (fun k hk hne => hd2.keep k hk (fun e => hne (by rw [e]; rfl))) hp hown3 hb3
end Go.Avc

/- Events and what is wrong with them, as the statements draw them. No condition. -/
set_option linter.unusedVariables false
set_option linter.unusedSimpArgs false
set_option maxRecDepth 100000
namespace Go.Avc
open Go Go.Proofs

theorem evG_ne (xs : List AV) (h : eventsG.pre xs) : ∃ r, eventsG.post xs r := by
  obtain ⟨m, hm, _⟩ := h
  exact ⟨.sl (TEvent.rows []), m, [], hm, Nat.zero_le _, (fun x hx => by cases hx), rfl⟩
def someG : Spec where
  pre xs := ∃ m : Int, xs = [.st, .i m] ∧ m ≤ 20
  post xs y := ∃ l : List TEvent, l.length ≤ 20 ∧ (∀ x ∈ l, x.ok) ∧ y = .tcons (.sl (TEvent.rows l)) (.tcons (.i (eventsF l)) .tnil)
  cost _ := 4001
  fresh := false
theorem some_ctr {cx : Cx} (h : Seat cx) (hN : cx.glob 2 = some namesD) (hI : cx.glob 0 = some poolD) (hE : cx.glob 1 = some evNamesD) (hU : Utf8 cx) (hM : MaxL cx) : Ctr cx 10 someG := by
  refine ctr_of (fn := Tryz.f10) (l := [.tmp 4, .tmp 5]) (envL [(54, eventsG), (31, eventsG), (26, flipS), (33, eventsS)]) [0, 1, 4, 5, 6, 11] [] [] (envL_cons (ctr_ofO (by decide) evG_ne (Right_own h hN hI hE (Right1_ctr h.dry hU hM))) (envL_cons (ctr_ofO (by decide) evG_ne (Events_own h hN hI hE)) (envL_cons (flip_ctr cx h.hP h.hS) (envL_cons (EventsFault_ctr h hU hM) (env0 h.hP))))) ?_ (by rw [h.hP]; exact Tryz.func10) rfl (by kernel_rfl) rfl ?_ ?_
  · rw [h.hP]; exact ⟨_, Tryz.func10, by kernel_rfl, by kernel_rfl⟩
  · rintro xs ⟨m, rfl, hm⟩; exact ⟨_, [], Nat.zero_le _, (fun x hx => by cases hx), rfl⟩
  · rintro xs ⟨m, rfl, hm⟩
    refine ⟨by rw [Tryz.ntmps10]; simp, ?_⟩
    simp only [go_sem, h.hP, List.cons_append, List.nil_append, Meets_e, Below_e, Prod.exists, exists_eq, exists_eq_left, exists_eq_left', exists_eq_right, exists_eq_right', exists_and_left, exists_and_right, Ob.arr.injEq, AV.own.injEq, AV.fv.injEq, someG, eventsG, flipS_q, flipS_p, flipS_c, flipS_f, eventsS_q, eventsS_p, eventsS_c, eventsS_f, TEvent.rows_inj, Tryz.ntmps10, Nat.reduceEqDiff, reduceCtorEq, Nat.reduceMul, Nat.reduceAdd, Nat.reduceSub, Nat.reduceDiv, Nat.reduceMod, Nat.reduceLeDiff, Nat.reduceLT, Nat.reduceBNe, Nat.reduceBEq, reduceIte, Int.reduceLE, Int.reduceLT, Int.reduceToNat, Int.reduceNeg, Int.reduceAdd, Int.reduceSub, Int.reduceMul, Int.reduceEq]
    have ok : ∀ a : List TEvent, a.length ≤ 20 → (∀ x ∈ a, x.ok) → okL TEvent.ok a := fun a h1 h2 => ⟨by omega, h2⟩
    exact ⟨hm, fun a h1 h2 f => ⟨fun _ => ⟨hm, fun a h1 h2 => ⟨ok a h1 h2, a, h1, h2, rfl, rfl⟩⟩, fun _ => ⟨ok a h1 h2, a, h1, h2, rfl, rfl⟩⟩⟩
end Go.Avc

/- EventFunnels: its walk. No condition. -/
set_option linter.unusedVariables false
set_option linter.unusedSimpArgs false
set_option maxRecDepth 100000
namespace Go.Avc
open Go Go.Proofs

theorem maxL_of {cx W0 : Cx} {m : Int} (hW : W0.glob 3 = some [.int .i64 m]) (h : ∀ w, GlAt cx w → GlAt W0 w) : MaxL cx := by
  intro w hw
  obtain ⟨_, _, cs, hc, hr⟩ := h w hw 3 _ hW
  obtain ⟨v, hv, hr⟩ := hr.get (j := 0) (x := .int .i64 m) rfl
  refine ⟨m, ?_⟩
  have := hc 0 v hv
  rw [this]
  cases hr
  rfl
set_option maxHeartbeats 8000000 in
theorem ef_walk {L : List Int} {A : Option Addr} {cp : Nat} {W : World} (hng : 6 ≤ W.heap.size) (hrd : Rd (fun k => k < W.heap.size) W (.sl (intRows L)) (.slice A L.length cp)) {glob : Nat → Option (List D)} (hgl : GlAt ⟨Tryz.prog, none, L, 25, 6, glob⟩ W) (hU : ∀ cx : Cx, (∀ w, GlAt cx w → GlAt ⟨Tryz.prog, none, L, 25, 6, glob⟩ w) → Utf8 cx) (hfn : glob 2 = some namesD) (hip : glob 0 = some poolD) (hen : glob 1 = some evNamesD) {m : Int} (hml : glob 3 = some [.int .i64 m]) :
    Calls Tryz.prog 8 [Value.slice A L.length cp].toArray W fun e W' => e = .returned (.bool true) ∧ RowKit.Below W.heap.size W W' := by
  refine law_calls (E := envL [(11, rangeS), (12, pickS), (26, flipS), (19, nameG), (10, someG), (42, funSp), (44, funRS), (22, namesS), (43, eqTS), (15, happeningsS)]) (B := 5000) (live := [0, 2, 3, 4, 5, 6, 7, 8, 9, 22, 23, 24, 37, 38, 39, 54, 57, 61, 65, 69, 77]) (HH := [13, 24]) (hz := []) (d := 2) (x1 := 10) (x2 := 11) (x3 := 12) (x4 := 3) (ng := 6) (glob := glob) Tryz.func8 rfl rfl (by kernel_rfl) ⟨rfl, rfl, rfl⟩ ⟨rfl, rfl, rfl⟩ ⟨rfl, rfl, rfl⟩ ⟨rfl, rfl, rfl⟩ ⟨rfl, rfl, rfl⟩ build_stream ⟨by simp, by decide, by decide, by decide, by decide, by decide, by rw [Tryz.ntmps8]; decide⟩ (ex := []) (xv := []) rfl (fun i x u hx hu => by simp at hx) (by decide) hng hrd hgl ?_
  intro cx hP hS hG hGl
  have h : Seat cx := ⟨hP, hS⟩
  refine ⟨envL_cons (range_ctr cx h.hP h.hS) (envL_cons (pick_ctr cx h.hP h.hS) (envL_cons (flip_ctr cx h.hP h.hS) (envL_cons (Name_ctr h) (envL_cons (some_ctr h ((congrFun hGl _).trans hfn) ((congrFun hGl _).trans hip) ((congrFun hGl _).trans hen) (hU cx hG) (maxL_of hml hG)) (envL_cons (Funnel_ctr h (hU cx hG) (maxL_of hml hG)) (envL_cons (FunnelOf_ctr h) (envL_cons (nameFault_ctr h) (envL_cons (eqT_ctr h) (envL_cons (happenings_ctr h) (env0 h.hP)))))))))), ?_⟩
  simp only [go_sem, h.hP, List.cons_append, List.nil_append, Meets_e, Below_e, Prod.exists, exists_eq, exists_eq_left, exists_eq_left', exists_eq_right, exists_eq_right', exists_and_left, exists_and_right, Ob.arr.injEq, AV.own.injEq, AV.fv.injEq, someG, nameG, rangeS_q, rangeS_p, rangeS_c, rangeS_f, pickS_q, pickS_p, pickS_c, pickS_f, ints1, intsc, TEvent.rows_inj, Tryz.ntmps8, Nat.reduceEqDiff, reduceCtorEq, Nat.reduceMul, Nat.reduceAdd, Nat.reduceSub, Nat.reduceDiv, Nat.reduceMod, Nat.reduceLeDiff, Nat.reduceLT, Nat.reduceBNe, Nat.reduceBEq, reduceIte, Int.reduceLE, Int.reduceLT, Int.reduceToNat, Int.reduceNeg, Int.reduceAdd, Int.reduceSub, Int.reduceMul, Int.reduceEq]
  intro a a0 a14
  refine ⟨by omega, fun l l20 lo => ?_⟩
  have ok : okL TEvent.ok l := ⟨by omega, lo⟩
  intro p hp
  have hp4 : 0 ≤ p ∧ p ≤ 4 := by
    simp only [isIn, List.mem_cons, List.not_mem_nil, or_false] at hp
    omega
  refine vc_loopS (Int × List ByteArray) (fun (x : Int × List ByteArray) => match x with | (i, ss) => [(23, .i i), (6, .own 6)]) [] (fun (x : Int × List ByteArray) => match x with | (i, ss) => []) (fun (x : Int × List ByteArray) => match x with | (i, ss) => [(6, .arr 9 1 (rowsT ss))]) (fun (x : Int × List ByteArray) => match x with | (i, ss) => 4010 + 2 * i.toNat) (fun (x : Int × List ByteArray) => match x with | (i, ss) => 0 ≤ i ∧ i ≤ p ∧ (ss.length : Int) = i ∧ ∀ s ∈ ss, okS s) (fun (x : Int × List ByteArray) => match x with | (i, ss) => (p - i).toNat) [(6, 9, 1)] ?_ ?_
  · simp only [go_sem, h.hP, List.cons_append, List.nil_append, Meets_e, Below_e, Prod.exists, exists_eq, exists_eq_left, exists_eq_left', exists_eq_right, exists_eq_right', exists_and_left, exists_and_right, Ob.arr.injEq, AV.own.injEq, AV.fv.injEq, strs_nil2, Tryz.ntmps8, Nat.reduceEqDiff, reduceCtorEq, Nat.reduceMul, Nat.reduceAdd, Nat.reduceSub, Nat.reduceDiv, Nat.reduceMod, Nat.reduceLeDiff, Nat.reduceLT, Nat.reduceBNe, Nat.reduceBEq, reduceIte, Int.reduceLE, Int.reduceLT, Int.reduceToNat, Int.reduceNeg, Int.reduceAdd, Int.reduceSub, Int.reduceMul, Int.reduceEq]
    exact ⟨by omega, rfl⟩
  · rintro ⟨i, ss⟩ ⟨i0, i1, hl, hs⟩
    have hw : IntKind.i64.wrap (i + 1) = i + 1 := i64w (by omega) (by omega)
    simp only [go_sem, h.hP, List.cons_append, List.nil_append, Meets_e, Below_e, Prod.exists, exists_eq, exists_eq_left, exists_eq_left', exists_eq_right, exists_eq_right', exists_and_left, exists_and_right, Ob.arr.injEq, AV.own.injEq, AV.fv.injEq, nameG, rowsT_len, strs1, rowsT_app', rowsT_zlT, rowsT_inj, List.length_append, List.length_singleton, hw, Tryz.ntmps8, Nat.reduceEqDiff, reduceCtorEq, Nat.reduceMul, Nat.reduceAdd, Nat.reduceSub, Nat.reduceDiv, Nat.reduceMod, Nat.reduceLeDiff, Nat.reduceLT, Nat.reduceBNe, Nat.reduceBEq, reduceIte, Int.reduceLE, Int.reduceLT, Int.reduceToNat, Int.reduceNeg, Int.reduceAdd, Int.reduceSub, Int.reduceMul, Int.reduceEq]
    refine ⟨by omega, fun q => ⟨by omega, by omega, by omega, fun s hs2 => ⟨by omega, by omega, by omega, by omega, by omega, by omega, by omega, by omega, by omega, by omega, okL_app hs hs2, by omega⟩⟩, fun q => ?_⟩
    rw [upd_lkU]
    refine vc_cutS (List ByteArray) (fun (s2 : List ByteArray) => [(6, .sl (rowsT s2)), (22, .un), (23, .un), (24, .un), (37, .un), (38, .un), (39, .un)]) [] (fun (s2 : List ByteArray) => []) (fun (s2 : List ByteArray) => []) (fun (s2 : List ByteArray) => 4200) (fun (s2 : List ByteArray) => s2.length ≤ 100 ∧ ∀ s ∈ s2, okS s) [] ?_ ?_ ?_
    · rfl
    · simp only [go_sem, h.hP, Tryz.ntmps8, Nat.reduceEqDiff, reduceCtorEq, Nat.reduceMul, Nat.reduceAdd, Nat.reduceSub, Nat.reduceDiv, Nat.reduceMod, Nat.reduceLeDiff, Nat.reduceLT, Nat.reduceBNe, Nat.reduceBEq, reduceIte, Int.reduceLE, Int.reduceLT, Int.reduceToNat, Int.reduceNeg, Int.reduceAdd, Int.reduceSub, Int.reduceMul, Int.reduceEq]
      refine vc_loopS (List ByteArray) (fun (s3 : List ByteArray) => [(6, .own 6)]) [] (fun (s3 : List ByteArray) => []) (fun (s3 : List ByteArray) => [(6, .arr 9 1 (rowsT s3))]) (fun (s3 : List ByteArray) => 4020 + s3.length) (fun (s3 : List ByteArray) => s3.length ≤ 44 ∧ ∀ s ∈ s3, okS s) (fun (s3 : List ByteArray) => (60 - s3.length)) [] ?_ ?_
      · simp only [go_sem, h.hP, List.cons_append, List.nil_append, Meets_e, Below_e, Prod.exists, exists_eq, exists_eq_left, exists_eq_left', exists_eq_right, exists_eq_right', exists_and_left, exists_and_right, Ob.arr.injEq, AV.own.injEq, AV.fv.injEq, strs_nil2, rowsT_inj, Tryz.ntmps8, Nat.reduceEqDiff, reduceCtorEq, Nat.reduceMul, Nat.reduceAdd, Nat.reduceSub, Nat.reduceDiv, Nat.reduceMod, Nat.reduceLeDiff, Nat.reduceLT, Nat.reduceBNe, Nat.reduceBEq, reduceIte, Int.reduceLE, Int.reduceLT, Int.reduceToNat, Int.reduceNeg, Int.reduceAdd, Int.reduceSub, Int.reduceMul, Int.reduceEq]
        exact ⟨(decide_eq_false q).symm, by omega, by omega, hs⟩
      · rintro s3 ⟨g1, g2⟩
        simp only [go_sem, h.hP, List.cons_append, List.nil_append, Meets_e, Below_e, Prod.exists, exists_eq, exists_eq_left, exists_eq_left', exists_eq_right, exists_eq_right', exists_and_left, exists_and_right, Ob.arr.injEq, AV.own.injEq, AV.fv.injEq, flipS_q, flipS_p, flipS_c, flipS_f, nameG, rowsT_len, strs1, rowsT_app', rowsT_zlT, rowsT_inj, List.length_append, List.length_singleton, Tryz.ntmps8, Nat.reduceEqDiff, reduceCtorEq, Nat.reduceMul, Nat.reduceAdd, Nat.reduceSub, Nat.reduceDiv, Nat.reduceMod, Nat.reduceLeDiff, Nat.reduceLT, Nat.reduceBNe, Nat.reduceBEq, reduceIte, Int.reduceLE, Int.reduceLT, Int.reduceToNat, Int.reduceNeg, Int.reduceAdd, Int.reduceSub, Int.reduceMul, Int.reduceEq]
        refine ⟨by omega, by omega, fun f => ⟨by omega, fun _ => ⟨by omega, by omega, by omega, by omega, fun z => ⟨by omega, ?_⟩, fun _ => ⟨by omega, by omega, g2⟩⟩, fun _ => ⟨by omega, by omega, by omega, g2⟩⟩⟩
        try rw [upd_lkU]
        refine vc_loopS (Int × List ByteArray) (fun (x : Int × List ByteArray) => match x with | (j, s4) => [(38, .i j), (6, .own 6)]) [] (fun (x : Int × List ByteArray) => match x with | (j, s4) => []) (fun (x : Int × List ByteArray) => match x with | (j, s4) => [(6, .arr 9 1 (rowsT s4))]) (fun (x : Int × List ByteArray) => match x with | (j, s4) => 4021 + s3.length) (fun (x : Int × List ByteArray) => match x with | (j, s4) => 0 ≤ j ∧ j ≤ 20 ∧ (s4.length : Int) = s3.length + j ∧ ∀ s ∈ s4, okS s) (fun (x : Int × List ByteArray) => match x with | (j, s4) => (20 - j).toNat) [] ?_ ?_
        · simp only [go_sem, h.hP, List.cons_append, List.nil_append, Meets_e, Below_e, Prod.exists, exists_eq, exists_eq_left, exists_eq_left', exists_eq_right, exists_eq_right', exists_and_left, exists_and_right, Ob.arr.injEq, AV.own.injEq, AV.fv.injEq, rowsT_inj, Tryz.ntmps8, Nat.reduceEqDiff, reduceCtorEq, Nat.reduceMul, Nat.reduceAdd, Nat.reduceSub, Nat.reduceDiv, Nat.reduceMod, Nat.reduceLeDiff, Nat.reduceLT, Nat.reduceBNe, Nat.reduceBEq, reduceIte, Int.reduceLE, Int.reduceLT, Int.reduceToNat, Int.reduceNeg, Int.reduceAdd, Int.reduceSub, Int.reduceMul, Int.reduceEq]
          exact ⟨by omega, by omega, g2⟩
        · rintro ⟨j, s4⟩ ⟨j0, j1, k1, k2⟩
          have hw : IntKind.i64.wrap (j + 1) = j + 1 := i64w (by omega) (by omega)
          simp only [go_sem, h.hP, List.cons_append, List.nil_append, Meets_e, Below_e, Prod.exists, exists_eq, exists_eq_left, exists_eq_left', exists_eq_right, exists_eq_right', exists_and_left, exists_and_right, Ob.arr.injEq, AV.own.injEq, AV.fv.injEq, flipS_q, flipS_p, flipS_c, flipS_f, nameG, rowsT_len, strs1, rowsT_app', rowsT_zlT, rowsT_inj, List.length_append, List.length_singleton, hw, Tryz.ntmps8, Nat.reduceEqDiff, reduceCtorEq, Nat.reduceMul, Nat.reduceAdd, Nat.reduceSub, Nat.reduceDiv, Nat.reduceMod, Nat.reduceLeDiff, Nat.reduceLT, Nat.reduceBNe, Nat.reduceBEq, reduceIte, Int.reduceLE, Int.reduceLT, Int.reduceToNat, Int.reduceNeg, Int.reduceAdd, Int.reduceSub, Int.reduceMul, Int.reduceEq]
          exact ⟨by omega, fun z => ⟨by omega, by omega, by omega, by omega, by omega, by omega, by omega, by omega, by omega, by omega, okL_app k2 (okS_of (show (3 : Nat) ≤ 1000 by decide)), by omega⟩, fun z => ⟨(decide_eq_false q).symm, by omega, by omega, k2, by omega⟩⟩
    · rintro s2 ⟨hl2, hs2⟩
      simp only [go_sem, h.hP, List.cons_append, List.nil_append, Meets_e, Below_e, Prod.exists, exists_eq, exists_eq_left, exists_eq_left', exists_eq_right, exists_eq_right', exists_and_left, exists_and_right, Ob.arr.injEq, AV.own.injEq, AV.fv.injEq, pickS_q, pickS_p, pickS_c, pickS_f, funSp_q, funSp_p, funSp_c, funSp_f, ints1, intsc, rowsT_len, Tryz.ntmps8, Nat.reduceEqDiff, reduceCtorEq, Nat.reduceMul, Nat.reduceAdd, Nat.reduceSub, Nat.reduceDiv, Nat.reduceMod, Nat.reduceLeDiff, Nat.reduceLT, Nat.reduceBNe, Nat.reduceBEq, reduceIte, Int.reduceLE, Int.reduceLT, Int.reduceToNat, Int.reduceNeg, Int.reduceAdd, Int.reduceSub, Int.reduceMul, Int.reduceEq]
      intro w hwi
      have hwr : -1 ≤ w ∧ w ≤ 4321441 := by
        simp only [isIn, List.mem_cons, List.not_mem_nil, or_false] at hwi
        omega
      have hok2 : okL okS s2 := ⟨by omega, hs2⟩
      refine ⟨ok, hok2, ⟨by omega, by omega⟩, ?_⟩
      refine vc_cutS (Int) (fun (f : Int) => [(5, .i f), (54, .un), (57, .un), (61, .un), (65, .un), (69, .un)]) [] (fun (f : Int) => []) (fun (f : Int) => []) (fun (f : Int) => 4300) (fun (f : Int) => f = funE l s2 w) [] ?_ ?_ ?_
      · rfl
      · simp only [go_sem, h.hP, List.cons_append, List.nil_append, Meets_e, Below_e, Prod.exists, exists_eq, exists_eq_left, exists_eq_left', exists_eq_right, exists_eq_right', exists_and_left, exists_and_right, Ob.arr.injEq, AV.own.injEq, AV.fv.injEq, namesS_q, namesS_p, namesS_c, namesS_f, rowsT_len, Tryz.ntmps8, Nat.reduceEqDiff, reduceCtorEq, Nat.reduceMul, Nat.reduceAdd, Nat.reduceSub, Nat.reduceDiv, Nat.reduceMod, Nat.reduceLeDiff, Nat.reduceLT, Nat.reduceBNe, Nat.reduceBEq, reduceIte, Int.reduceLE, Int.reduceLT, Int.reduceToNat, Int.reduceNeg, Int.reduceAdd, Int.reduceSub, Int.reduceMul, Int.reduceEq]
        refine ⟨fun c => (orE_l c).symm, fun c => ?_⟩
        have e0 : funE l s2 w = if s2.length = 0 then 3 else if 20 < (s2.length : Int) then 2 else orE (namesF s2) (if inB w 0 4321440 = false then 1 else 0) := orE_r c
        refine ⟨fun z => (e0.trans (if_pos (by omega))).symm, fun z => ⟨fun y => (e0.trans ((if_neg (by omega)).trans (if_pos y))).symm, fun y => ?_⟩⟩
        have e1 := e0.trans ((if_neg (by omega)).trans (if_neg y))
        refine ⟨hok2, fun d => (e1.trans ((orE_l d).trans (namesF_5 d))).symm, fun d => ?_⟩
        rw [orE_r d] at e1
        refine ⟨fun x => ⟨fun v => (e1.trans (if_pos ?_)).symm, fun v => c.trans (e1.trans (if_neg (ne_ft (inB_iff.2 ⟨by omega, by omega⟩)))).symm⟩, fun x => (e1.trans (if_pos ?_)).symm⟩
        · rw [Bool.eq_false_iff]; exact fun u => by have := inB_iff.1 u; omega
        · rw [Bool.eq_false_iff]; exact fun u => by have := inB_iff.1 u; omega
      · rintro f hf
        simp only [go_sem, h.hP, List.cons_append, List.nil_append, Meets_e, Below_e, Prod.exists, exists_eq, exists_eq_left, exists_eq_left', exists_eq_right, exists_eq_right', exists_and_left, exists_and_right, Ob.arr.injEq, AV.own.injEq, AV.fv.injEq, funRS_q, funRS_p, funRS_c, funRS_f, eqTS_q, eqTS_p, eqTS_c, eqTS_f, happeningsS_q, happeningsS_p, happeningsS_c, happeningsS_f, rowsT_len, rowsT_inj, Tryz.ntmps8, Nat.reduceEqDiff, reduceCtorEq, Nat.reduceMul, Nat.reduceAdd, Nat.reduceSub, Nat.reduceDiv, Nat.reduceMod, Nat.reduceLeDiff, Nat.reduceLT, Nat.reduceBNe, Nat.reduceBEq, reduceIte, Int.reduceLE, Int.reduceLT, Int.reduceToNat, Int.reduceNeg, Int.reduceAdd, Int.reduceSub, Int.reduceMul, Int.reduceEq]
        subst hf
        refine ⟨fun c => ⟨fun _ e => e ?_, fun e => e rfl⟩, fun c => ⟨fun _ => ?_, fun e => e c⟩⟩
        · rw [show funV l s2 w = [] from if_neg c]
          rfl
        · obtain ⟨u1, u2, u3, u4, u5⟩ := funE_use c
          have ev : funV l s2 w = funR l s2 w := if_pos c
          have hfl := funR_len l s2 w
          refine ⟨ok, u1, u2, u3, u4, u5, ?_, fun e => ne_ft (eqTB_t ev) e⟩
          rw [ev]
          omega
end Go.Avc

/- EventFunnels returns true for every slice of numbers, and leaves it as it was; the two tables of unicode/utf8, the pool of ids and the names of fields and of events, which its row lists, lie as the program lays them. -/
set_option linter.unusedVariables false
set_option linter.unusedSimpArgs false
set_option maxRecDepth 100000
namespace Go.Proofs.YtkkcjnimbejalaaGreatDoor.eventFunnels
open Go.ChangeShapes Go.ChangeMaps Go.WideShapes Go.ChangeAt Go.RowKit Go.Avc

def exF (m : Int) : Nat → Option (List D)
  | 0 => some poolD
  | 2 => some namesD
  | 1 => some evNamesD
  | 3 => some [.int .i64 m]
  | _ => none
theorem lies {W : World} {m : Int} (hm : W.cell? ⟨3, 0, none⟩ = some (.int .i64 m)) (hL : laidMetH Tryz.prog Rows.eventFunnelsRow.laid W) : Lies W (exF m) := by
  intro k l hk
  have hk' : exF m k = some l := hk
  match k, hk' with
  | 0, hk' =>
    cases hk'
    have h := lies_of_reads (l := poolD) (m := 20) (Lib.laidMet.reads hL (n := "handbill/handmake.idPool") (d := Rows.laid_handbill_handmake_idPool) (by simp [Rows.eventFunnelsRow])) (g := 0) rfl rfl (by kernel_rfl) (by kernel_rfl) (by decide)
    exact ⟨by decide, h.1, by decide, h.2⟩
  | 2, hk' =>
    cases hk'
    have h := lies_of_reads (l := namesD) (m := 6) (Lib.laidMet.reads hL (n := "handbill/handmake.fieldNames") (d := Rows.laid_handbill_handmake_fieldNames) (by simp [Rows.eventFunnelsRow])) (g := 2) rfl rfl (by kernel_rfl) (by kernel_rfl) (by decide)
    exact ⟨by decide, h.1, by decide, h.2⟩
  | 1, hk' =>
    cases hk'
    have h := lies_of_reads (l := evNamesD) (m := 4) (Lib.laidMet.reads hL (n := "handbill/handmake.eventNames") (d := Rows.laid_handbill_handmake_eventNames) (by simp [Rows.eventFunnelsRow])) (g := 1) rfl rfl (by kernel_rfl) (by kernel_rfl) (by decide)
    exact ⟨by decide, h.1, by decide, h.2⟩
  | 3, hk' =>
    cases hk'
    refine ⟨by decide, ?_, rfl, fun j u hj => ?_⟩
    · by_cases hb : 3 < W.heap.size
      · exact hb
      · unfold World.cell? at hm
        rw [Array.getElem?_eq_none (show W.heap.size ≤ 3 by omega)] at hm
        cases hm
    · cases j with
      | zero => cases hj; exact hm
      | succ j => simp at hj
/-- A world for a witness. -/
def fillC (l : List D) : Obj → Obj
  | .cells _ t frozen => .cells (l.map vD).toArray t frozen
  | o => o
noncomputable def heapF (os : Os) : Array Obj :=
  (((laidWorld os).heap.modify 0 (fillC poolD)).modify 2 (fillC namesD)).modify 1 (fillC evNamesD)
noncomputable def worldF (os : Os) : World := { laidWorld os with heap := heapF os }
theorem metF (os : Os) (args : Array Value) : laidMet Tryz.prog Rows.eventFunnelsRow.laid ((worldF os).forCall (fun _ _ => 0) ⟨#[], args, []⟩).memory := laidMet_of_run' 8 (by kernel_rfl) (by kernel_rfl)
theorem own : ownKnob Tryz.prog.godebug = none := by kernel_rfl
theorem one3 : Tryz.prog.cellsOf 3 = 1 := by kernel_rfl

/-- WHAT THE WALK GIVES. -/
theorem contract (H : Type) (enc : TypeId × Value → H) (W : World) (base : Nat) (args : Array Value) (ds gs : List (DataW H)) (before : List MemPlace)
    (hval : ∀ (j : Nat) t v, Tryz.f8.params[j]? = some t → args[j]? = some v → Value.okWide Tryz.prog W .any base t v)
    (hW : DataW.Whole enc Tryz.prog Tryz.f8.params.toList Rows.eventFunnelsSpec.vars false W args.toList ds gs before) (hL : laidMetH Tryz.prog Rows.eventFunnelsRow.laid W) (hSh : W.ShapedOpen Tryz.prog) :
    Calls Tryz.prog 8 args W fun e W' => ∃ v, e = .returned v ∧ Rows.eventFunnelsSpec.post enc Tryz.prog Tryz.f8 false true false false W args v W' := by
  have hW' := hW
  obtain ⟨p, q, hA0, hV, rfl, hfz, hnd⟩ := hW
  have hA : DataW.TrodAll enc Tryz.prog W 0 (fun _ => true) true Tryz.f8.params.toList args.toList ds p := hA0
  rw [Tryz.params8] at hA hval
  obtain ⟨v0, vs0, d0, ds0, p0, q0, hargs, rfl, rfl, h0, r0⟩ := trodAll_cons hA
  obtain ⟨rfl, rfl, rfl⟩ := trodAll_nil r0
  obtain rfl : args = #[v0] := by cases args; simp_all
  obtain ⟨rfl, rfl⟩ := trodVars_none hV
  obtain ⟨A, L, cp, rfl, hrd, hsh⟩ := open_nums Tryz.underlying22 Tryz.underlying3 one3 (hval 0 22 v0 rfl rfl) h0
  clear hA0
  simp only [List.append_nil] at hW'
  obtain ⟨mx, hmx⟩ := Tryz.laysM144.s1_3 W hSh
  have hg := glAt_X (L := L) (ST := 25) (tabs_of_list hL (by simp [Rows.eventFunnelsRow]) (by simp [Rows.eventFunnelsRow])) (lies hmx hL)
  refine (ef_walk (ng_of_shaped hSh) hrd hg (fun cx h => utf8_of_globX rfl h) rfl rfl rfl rfl).mono fun e W' ⟨he, hbl⟩ => ?_
  subst he
  refine ⟨_, rfl, post_of_below (pa := p0) (pv := []) hW' (fun _ _ _ => trodAll_cons_mk (shut_bool Tryz.underlying4 _) trodAll_mk0)
    (fun sp hsp => ?_) (fun _ _ => rfl) (List.append_nil _).symm hbl (ok_one (by kernel_rfl) rfl (okWide_bool_mk Tryz.underlying4 _))⟩
  have := trodAll_cons_mk (hsh W' hbl sp hsp) (trodAll_mk0 (w := W') (base := 0) (spare := sp) (held := true) (enc := enc))
  rw [List.append_nil] at this
  exact this
theorem reads (os : Os) {H : Type} (enc : TypeId × Value → H) : ∃ places, DataW.whole enc Tryz.prog ((worldF os).forCall (fun _ _ => 0) ⟨#[], #[.slice none 0 0], []⟩).memory Tryz.f8.params.toList Rows.eventFunnelsSpec.vars false #[Value.slice none 0 0].toList 8 = some ([.nil], [], places) :=
  ⟨[], by kernel_rfl⟩
theorem lifted (os : Os) (started : os.Started) (H : Type) (enc : TypeId × Value → H) (F : Stop.Interp) :
    ReturnsInHanded {} Tryz.checked os 8 .any ((OpenSpec.ofChange Rows.eventFunnelsSpec).preRow enc Tryz.prog Tryz.f8 Rows.eventFunnelsRow.domain false Rows.eventFunnelsRow.laid) (((OpenSpec.ofChange Rows.eventFunnelsSpec).at F).post enc Tryz.prog Tryz.f8 false true false false) := by
  obtain ⟨places, hx⟩ := reads os enc
  refine returnsInHanded_of_row (C := Tryz.checked) (s := OpenSpec.ofChange Rows.eventFunnelsSpec) own started (by kernel_rfl) Tryz.func8
    (witness_row_at (enc := enc) (C := Tryz.checked) false (worldF os) #[.slice none 0 0] rfl (by kernel_rfl) (by kernel_rfl) (by kernel_rfl)
      (OpenSpec.preRow_of_cond 8 hx (by kernel_rfl) (fun k hk => by cases hk) (by kernel_rfl) (metF os _))) ?_
  intro W base args ds gs before hval hW _ _ _ hL hSh _
  exact contract H enc W base args ds gs before hval hW hL hSh
theorem said : Rows.EventFunnelsSaid :=
  OpenClaim.holds_of_cond 8 Tryz.f8 rfl rfl rfl rfl rfl rfl rfl ⟨rfl, rfl, rfl, rfl, rfl⟩ rfl rfl rfl rfl rfl (by kernel_rfl) Tryz.func8 (by kernel_rfl)
    (of_decide_eq_true (by kernel_rfl)) (by unfold Func.isWrapper; first | (rw [if_pos (by decide +kernel)]; kernel_rfl) | (rw [if_neg (by decide +kernel)]; exact ⟨rfl, rfl⟩))
    (fun os started H enc _ F => by rw [OpenClaim.pre_eq_preRow]; exact lifted os started H enc F)
theorem plain (f : FuncId) (fn : Func) (hf : Tryz.pinned.checked.prog.funcNamed "handbill/handlaw2.EventFunnels" = some f) (hfn : Tryz.pinned.checked.prog.funcs[f]? = some fn) :
    false = Tryz.pinned.checked.prog.looks [] ∧ ∀ (j : Nat) t, fn.params[j]? = some t → Tryz.pinned.checked.prog.wantsStandIn t = false := by
  obtain rfl : f = 8 := Option.some.inj ((show Tryz.prog.funcNamed "handbill/handlaw2.EventFunnels" = some 8 by kernel_rfl).symm.trans hf) |>.symm
  obtain rfl : fn = Tryz.f8 := (Option.some.inj (Tryz.func8.symm.trans hfn)).symm
  refine ⟨by kernel_rfl, fun j t ht => ?_⟩
  rw [Tryz.params8] at ht
  obtain rfl : t = 22 := by simpa using Array.mem_of_getElem? ht
  exact (show Tryz.prog.wantsStandIn 22 = false by kernel_rfl)
theorem card : Rows.EventFunnelsCardSaid :=
  Claim7.holds_tied_plain_at .later [] _ _ _ _ said (fun _ h => by cases h) (by kernel_rfl) (fun _ h => by cases h) eventFunnels_row_tie rfl ⟨rfl, rfl⟩ (by kernel_rfl) rfl plain (by kernel_rfl)
end Go.Proofs.YtkkcjnimbejalaaGreatDoor.eventFunnels
