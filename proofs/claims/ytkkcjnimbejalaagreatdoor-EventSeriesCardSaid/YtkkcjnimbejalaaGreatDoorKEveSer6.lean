/- EventSeries returns true for every slice of numbers, and leaves it as it was; the two tables of unicode/utf8, the pool of ids and the names of fields and of events, which its row lists, lie as the program lays them. -/
import Derived.Test.YtkkcjnimbejalaaGreatDoorCards
import Derived.Test.YtkkcjnimbejalaaGreatDoorTie
import Derived.WalkKit
import Derived.ProofKit
import Derived.OpenShut
import Derived.Deep.DeepHandedRow
import Derived.Test.YtkkcjnimbejalaaGreatDoorKEveSer1
import Derived.Test.YtkkcjnimbejalaaGreatDoorKEveSer2
import Derived.Test.YtkkcjnimbejalaaGreatDoorKEveSer3
import Derived.Test.YtkkcjnimbejalaaGreatDoorKEveSer4
import Derived.Test.YtkkcjnimbejalaaGreatDoorKEveSer5
/- Schemas and needs, found by halving: the program. No condition. -/
set_option linter.unusedVariables false
set_option linter.unusedSimpArgs false
set_option maxRecDepth 100000
namespace Go.Avc
open Go Go.Proofs

def ascSc (l : List TSchema) : Prop := ∀ i j : Nat, i < j → j < l.length → lessS (l.getD i TSchema.z).name (l.getD j TSchema.z).name = true
def find1SSc  : Spec where
  pre xs := ∃ (f : TSchema) (n : ByteArray), xs = [.dv (.ag f.row), .str n]
  post xs y := ∃ (f : TSchema) (n : ByteArray), xs = [.dv (.ag f.row), .str n] ∧ y = .i (cmpT f.name n)
  cost _ := 0
  fresh := true
def cmpΦSc (caps : List (List D)) : FSpec where
  pre xs := caps = [] ∧ ∃ (f : TSchema) (n : ByteArray), xs = [.ag f.row, .d (.str n)]
  post xs r := caps = [] ∧ ∃ (f : TSchema) (n : ByteArray), xs = [.ag f.row, .d (.str n)] ∧ r = .d (.int .i64 (cmpT f.name n))
def bsSSc : Spec where
  pre xs := ∃ (l : List TSchema) (n : ByteArray), xs = [.sl (TSchema.rows l), .str n, .fv (cmpΦSc [])] ∧ ascSc l ∧ l.length ≤ 1048576
  post xs r := ∃ (l : List TSchema) (n : ByteArray) (i : Int) (b : Bool), xs = [.sl (TSchema.rows l), .str n, .fv (cmpΦSc [])] ∧ (b = true → 0 ≤ i ∧ i < l.length ∧ (l.getD i.toNat TSchema.z).name = n) ∧ (b = false → ∀ j : Nat, j < l.length → (l.getD j TSchema.z).name ≠ n) ∧ r = .tcons (.i i) (.tcons (.b b) .tnil)
  cost _ := 0
  fresh := true
def ascNd (l : List TNeed) : Prop := ∀ i j : Nat, i < j → j < l.length → lessS (l.getD i TNeed.z).name (l.getD j TNeed.z).name = true
def find1SNd  : Spec where
  pre xs := ∃ (f : TNeed) (n : ByteArray), xs = [.dv (.ag f.row), .str n]
  post xs y := ∃ (f : TNeed) (n : ByteArray), xs = [.dv (.ag f.row), .str n] ∧ y = .i (cmpT f.name n)
  cost _ := 0
  fresh := true
def cmpΦNd (caps : List (List D)) : FSpec where
  pre xs := caps = [] ∧ ∃ (f : TNeed) (n : ByteArray), xs = [.ag f.row, .d (.str n)]
  post xs r := caps = [] ∧ ∃ (f : TNeed) (n : ByteArray), xs = [.ag f.row, .d (.str n)] ∧ r = .d (.int .i64 (cmpT f.name n))
def bsSNd : Spec where
  pre xs := ∃ (l : List TNeed) (n : ByteArray), xs = [.sl (TNeed.rows l), .str n, .fv (cmpΦNd [])] ∧ ascNd l ∧ l.length ≤ 1048576
  post xs r := ∃ (l : List TNeed) (n : ByteArray) (i : Int) (b : Bool), xs = [.sl (TNeed.rows l), .str n, .fv (cmpΦNd [])] ∧ (b = true → 0 ≤ i ∧ i < l.length ∧ (l.getD i.toNat TNeed.z).name = n) ∧ (b = false → ∀ j : Nat, j < l.length → (l.getD j TNeed.z).name ≠ n) ∧ r = .tcons (.i i) (.tcons (.b b) .tnil)
  cost _ := 0
  fresh := true
def findSc (l : List TSchema) (n : ByteArray) : Option TSchema := l.find? fun f => decide (f.name = n)
def findNd (l : List TNeed) (n : ByteArray) : Option TNeed := l.find? fun f => decide (f.name = n)
end Go.Avc

/- Events by themselves and by schemas: what is wrong with them, by the program and by the reference. No condition. -/
set_option linter.unusedVariables false
set_option linter.unusedSimpArgs false
set_option maxRecDepth 100000
namespace Go.Avc
open Go Go.Proofs

/-! ### An event by itself -/
def evF (e : TEvent) : Int := if keyB e.id = false ∨ keyB e.name = false then 5 else if inB e.at_ 0 4321439 = false then 1 else orE (idF e.who) (fieldsF e.fields)
def evS  : Spec where
  pre xs := ∃ (e : TEvent), xs = [.dv (.ag e.row)] ∧ (e.ok)
  post xs y := ∃ (e : TEvent), xs = [.dv (.ag e.row)] ∧ y = .i (evF e)
  cost _ := 0
  fresh := true
theorem evS_c  (xs : List AV) : (evS).cost xs = 0 := nr rfl
theorem evS_f  : (evS).fresh = true := nr rfl
theorem evS_q  (e : TEvent) : (evS).pre [.dv (.ag [.str e.id, .str e.name, .int .i64 e.at_, .int .i64 e.who.kind, .str e.who.text, .sl (TField.rows e.fields)])] = (e.ok) := propext ⟨fun h => by
  have h' : ∃ (e' : TEvent), ([.dv (.ag e.row)] : List AV) = [.dv (.ag e'.row)] ∧ (e'.ok) := h
  obtain ⟨e', e, h⟩ := h'
  simp only [List.cons.injEq, AV.dv.injEq, AV.dp.injEq, AV.fv.injEq, DV.d.injEq, DV.ag.injEq, D.int.injEq, D.str.injEq, D.bool.injEq, D.sl.injEq, true_and, and_true, intsDi_inj, rowsT_inj, rowsKi_inj, TEvent.row_inj, TEvent.rows_inj] at e
  obtain rfl := e
  exact h, fun h => ⟨e, rfl, h⟩⟩
theorem evS_p  (e : TEvent) : (evS).post [.dv (.ag [.str e.id, .str e.name, .int .i64 e.at_, .int .i64 e.who.kind, .str e.who.text, .sl (TField.rows e.fields)])] = fun y => y = .i (evF e) := funext fun y => propext ⟨fun h => by
  have h' : ∃ (e' : TEvent), ([.dv (.ag e.row)] : List AV) = [.dv (.ag e'.row)] ∧ y = .i (evF e') := h
  obtain ⟨e', e, h⟩ := h'
  simp only [List.cons.injEq, AV.dv.injEq, AV.dp.injEq, AV.fv.injEq, DV.d.injEq, DV.ag.injEq, D.int.injEq, D.str.injEq, D.bool.injEq, D.sl.injEq, true_and, and_true, intsDi_inj, rowsT_inj, rowsKi_inj, TEvent.row_inj, TEvent.rows_inj] at e
  obtain rfl := e
  exact h, fun h => ⟨e, rfl, h⟩⟩
theorem evF_5 {e : TEvent} (c : keyB e.id = false ∨ keyB e.name = false) : evF e = 5 := if_pos c
theorem evF_n {e : TEvent} (a : keyB e.id = true) (b : keyB e.name = true) : evF e = if inB e.at_ 0 4321439 = false then 1 else orE (idF e.who) (fieldsF e.fields) := if_neg fun c => c.elim (ne_ft a) (ne_ft b)
set_option maxHeartbeats 2000000 in
theorem CheckOne_ctr {cx : Cx} (h : Seat cx) (hU : Utf8 cx) (hM : MaxL cx) : Ctr cx 74 evS := by
  refine ctr_of (fn := Tryz.f74) (l := [.tmp 2]) (envL [(90, (strB keyB)), (56, inS), (79, idS), (117, fieldsS)]) [0, 1, 2, 3, 4, 15, 24] [] [] (envL_cons (IsKey_ctr h) (envL_cons (ewithin_ctr h) (envL_cons (CheckId_ctr h hM) (envL_cons (CheckFields_ctr h hU) (env0 h.hP))))) ?_ (by rw [h.hP]; exact Tryz.func74) rfl (by kernel_rfl) rfl ?_ ?_
  · rw [h.hP]; exact ⟨_, Tryz.func74, by kernel_rfl, by kernel_rfl⟩
  · rintro xs ⟨e, rfl, h1⟩; exact ⟨_, e, rfl, rfl⟩
  · rintro xs ⟨e, rfl, h1⟩
    refine ⟨by rw [Tryz.ntmps74]; simp, ?_⟩
    simp only [go_sem, h.hP, List.cons_append, List.nil_append, Meets_e, Below_e, Prod.exists, exists_eq, exists_eq_left, exists_eq_left', exists_eq_right, exists_eq_right', exists_and_left, exists_and_right, Ob.arr.injEq, AV.own.injEq, AV.fv.injEq, evS_q, evS_p, evS_c, evS_f, strB_q, strB_p, strB_c, strB_f, inS_q, inS_p, inS_c, inS_f, idS_q, idS_p, idS_c, idS_f, fieldsS_q, fieldsS_p, fieldsS_c, fieldsS_f, TEvent.row, TId.row, Tryz.ntmps74, Nat.reduceEqDiff, reduceCtorEq, Nat.reduceMul, Nat.reduceAdd, Nat.reduceSub, Nat.reduceDiv, Nat.reduceMod, Nat.reduceLeDiff, Nat.reduceLT, Nat.reduceBNe, Nat.reduceBEq, reduceIte, Int.reduceLE, Int.reduceLT, Int.reduceToNat, Int.reduceNeg, Int.reduceAdd, Int.reduceSub, Int.reduceMul, Int.reduceEq]
    obtain ⟨o1, o2, o3, o4, o5⟩ := h1
    unfold okS at o1 o2
    refine ⟨by omega, fun a => ⟨by omega, fun b => (evF_5 (.inr b)).symm, fun b => ?_⟩, fun a => (evF_5 (.inl a)).symm⟩
    rw [evF_n a b]
    exact ⟨fun c => (if_pos c).symm, fun c => ⟨o4, fun d => ((if_neg (ne_ft c)).trans (orE_l d)).symm, fun d => ⟨o5, ((if_neg (ne_ft c)).trans (orE_r d)).symm⟩⟩⟩
def idOf (e : TEvent) : Int := idF e.who
def fieldsOf (e : TEvent) : Int := fieldsF e.fields
theorem ev1_ctr {cx : Cx} (h : Seat cx) (hM : MaxL cx) : Ctr cx 122 (c1S TEvent.row TEvent.ok idOf) := by
  refine ctr_of (fn := Tryz.f122) (l := [.tmp 1]) (envL [(36, idS)]) [0, 1] [] [] (envL_cons (IdFault_ctr h hM) (env0 h.hP)) ?_ (by rw [h.hP]; exact Tryz.func122) rfl (by kernel_rfl) rfl ?_ ?_
  · rw [h.hP]; exact ⟨_, Tryz.func122, by kernel_rfl, by kernel_rfl⟩
  · rintro xs ⟨e, rfl, h1⟩; exact ⟨_, e, rfl, rfl⟩
  · rintro xs ⟨e, rfl, h1⟩
    refine ⟨by rw [Tryz.ntmps122]; simp, ?_⟩
    simp only [go_sem, h.hP, List.cons_append, List.nil_append, Meets_e, Below_e, Prod.exists, exists_eq, exists_eq_left, exists_eq_left', exists_eq_right, exists_eq_right', exists_and_left, exists_and_right, Ob.arr.injEq, AV.own.injEq, AV.fv.injEq, idS_q, idS_p, idS_c, idS_f, c1S_c, c1S_f, TEvent.row, TId.row, Tryz.ntmps122, Nat.reduceEqDiff, reduceCtorEq, Nat.reduceMul, Nat.reduceAdd, Nat.reduceSub, Nat.reduceDiv, Nat.reduceMod, Nat.reduceLeDiff, Nat.reduceLT, Nat.reduceBNe, Nat.reduceBEq, reduceIte, Int.reduceLE, Int.reduceLT, Int.reduceToNat, Int.reduceNeg, Int.reduceAdd, Int.reduceSub, Int.reduceMul, Int.reduceEq]
    exact ⟨h1.2.2.2.1, e, rfl, rfl⟩
theorem ev2_ctr {cx : Cx} (h : Seat cx) (hU : Utf8 cx) : Ctr cx 123 (c1S TEvent.row TEvent.ok fieldsOf) := by
  refine ctr_of (fn := Tryz.f123) (l := [.tmp 1]) (envL [(124, fieldsS)]) [0, 1] [] [] (envL_cons (FieldsFault_ctr h hU) (env0 h.hP)) ?_ (by rw [h.hP]; exact Tryz.func123) rfl (by kernel_rfl) rfl ?_ ?_
  · rw [h.hP]; exact ⟨_, Tryz.func123, by kernel_rfl, by kernel_rfl⟩
  · rintro xs ⟨e, rfl, h1⟩; exact ⟨_, e, rfl, rfl⟩
  · rintro xs ⟨e, rfl, h1⟩
    refine ⟨by rw [Tryz.ntmps123]; simp, ?_⟩
    simp only [go_sem, h.hP, List.cons_append, List.nil_append, Meets_e, Below_e, Prod.exists, exists_eq, exists_eq_left, exists_eq_left', exists_eq_right, exists_eq_right', exists_and_left, exists_and_right, Ob.arr.injEq, AV.own.injEq, AV.fv.injEq, fieldsS_q, fieldsS_p, fieldsS_c, fieldsS_f, c1S_c, c1S_f, TEvent.row, TId.row, Tryz.ntmps123, Nat.reduceEqDiff, reduceCtorEq, Nat.reduceMul, Nat.reduceAdd, Nat.reduceSub, Nat.reduceDiv, Nat.reduceMod, Nat.reduceLeDiff, Nat.reduceLT, Nat.reduceBNe, Nat.reduceBEq, reduceIte, Int.reduceLE, Int.reduceLT, Int.reduceToNat, Int.reduceNeg, Int.reduceAdd, Int.reduceSub, Int.reduceMul, Int.reduceEq]
    exact ⟨h1.2.2.2.2, e, rfl, rfl⟩
set_option maxHeartbeats 2000000 in
theorem eventFault_ctr {cx : Cx} (h : Seat cx) (hU : Utf8 cx) (hM : MaxL cx) : Ctr cx 76 evS := by
  refine ctr_of (fn := Tryz.f76) (l := [.tmp 2]) (envF [(65, (strB keyB)), (57, inS)] [(122, (c1Φ TEvent.row TEvent.ok idOf)), (123, (c1Φ TEvent.row TEvent.ok fieldsOf))]) [0, 1, 2, 3, 14] [] [(5, [], [])] (envF_cons (c1_of TEvent.inj (ev1_ctr h hM)) (envF_cons (c1_of TEvent.inj (ev2_ctr h hU)) (envF_nil (envL_cons (Key_ctr h) (envL_cons (in_ctr h) (env0 h.hP)))))) ?_ (by rw [h.hP]; exact Tryz.func76) rfl (by kernel_rfl) rfl ?_ ?_
  · rw [h.hP]; exact ⟨_, Tryz.func76, by kernel_rfl, by kernel_rfl⟩
  · rintro xs ⟨e, rfl, h1⟩; exact ⟨_, e, rfl, rfl⟩
  · rintro xs ⟨e, rfl, h1⟩
    refine ⟨by rw [Tryz.ntmps76]; simp, ?_⟩
    have q1 : (c1Φ TEvent.row TEvent.ok idOf [[.str e.id, .str e.name, .int .i64 e.at_, .int .i64 e.who.kind, .str e.who.text, .sl (TField.rows e.fields)]]).pre [] = e.ok := c1_pre (row := TEvent.row) TEvent.inj e
    have p1 : ∀ y, (c1Φ TEvent.row TEvent.ok idOf [[.str e.id, .str e.name, .int .i64 e.at_, .int .i64 e.who.kind, .str e.who.text, .sl (TField.rows e.fields)]]).post [] y = (y = .d (.int .i64 (idOf e))) := c1_post (row := TEvent.row) TEvent.inj e
    have q2 : (c1Φ TEvent.row TEvent.ok fieldsOf [[.str e.id, .str e.name, .int .i64 e.at_, .int .i64 e.who.kind, .str e.who.text, .sl (TField.rows e.fields)]]).pre [] = e.ok := c1_pre (row := TEvent.row) TEvent.inj e
    have p2 : ∀ y, (c1Φ TEvent.row TEvent.ok fieldsOf [[.str e.id, .str e.name, .int .i64 e.at_, .int .i64 e.who.kind, .str e.who.text, .sl (TField.rows e.fields)]]).post [] y = (y = .d (.int .i64 (fieldsOf e))) := c1_post (row := TEvent.row) TEvent.inj e
    simp only [go_sem, h.hP, List.cons_append, List.nil_append, Meets_e, Below_e, Prod.exists, exists_eq, exists_eq_left, exists_eq_left', exists_eq_right, exists_eq_right', exists_and_left, exists_and_right, Ob.arr.injEq, AV.own.injEq, AV.fv.injEq, evS_q, evS_p, evS_c, evS_f, strB_q, strB_p, strB_c, strB_f, inS_q, inS_p, inS_c, inS_f, q1, p1, q2, p2, TEvent.row, DV.d.injEq, D.int.injEq, Tryz.ntmps76, Nat.reduceEqDiff, reduceCtorEq, Nat.reduceMul, Nat.reduceAdd, Nat.reduceSub, Nat.reduceDiv, Nat.reduceMod, Nat.reduceLeDiff, Nat.reduceLT, Nat.reduceBNe, Nat.reduceBEq, reduceIte, Int.reduceLE, Int.reduceLT, Int.reduceToNat, Int.reduceNeg, Int.reduceAdd, Int.reduceSub, Int.reduceMul, Int.reduceEq]
    obtain ⟨o1, o2, o3, o4, o5⟩ := id h1
    unfold okS at o1 o2
    refine ⟨by omega, fun a => ⟨by omega, fun b => (evF_5 (.inr b)).symm, fun b => ?_⟩, fun a => (evF_5 (.inl a)).symm⟩
    rw [evF_n a b]
    exact ⟨fun c => (if_pos c).symm, fun c => ⟨h1, fun d => ((if_neg (ne_ft c)).trans (orE_l d)).symm, fun d => ⟨h1, fun f => ((if_neg (ne_ft c)).trans (orE_r d)).symm, fun f => (((if_neg (ne_ft c)).trans (orE_r d)).trans f).symm⟩⟩⟩
end Go.Avc

/- Lists of events: what is wrong with them, by the program and by the reference. No condition. -/
set_option linter.unusedVariables false
set_option linter.unusedSimpArgs false
set_option maxRecDepth 100000
namespace Go.Avc
open Go Go.Proofs

/-! ### The order of events -/
def befB (a b : TEvent) : Bool := decide (a.at_ < b.at_ ∨ (a.at_ = b.at_ ∧ lessS a.id b.id = true))
def eordF (a b : TEvent) : Int := if a.at_ < b.at_ then -1 else if a.at_ > b.at_ then 1 else cmpT a.id b.id
theorem eord_neg (a b : TEvent) : (0 ≤ eordF a b) = (befB a b = false) := by
  apply propext
  unfold eordF befB cmpT
  rw [decide_eq_false_iff_not]
  by_cases h1 : a.at_ < b.at_
  · rw [if_pos h1]; exact ⟨fun h => absurd h (by decide), fun h => absurd (.inl h1) h⟩
  · rw [if_neg h1]
    by_cases h2 : a.at_ > b.at_
    · rw [if_pos h2]; exact ⟨fun _ h => by omega, fun _ => by decide⟩
    · rw [if_neg h2]
      have h3 : a.at_ = b.at_ := by omega
      by_cases h4 : lessS a.id b.id = true
      · rw [if_pos h4]; exact ⟨fun h => absurd h (by decide), fun h => absurd (.inr ⟨h3, h4⟩) h⟩
      · rw [if_neg h4]
        refine ⟨fun _ h => h.elim h1 (fun h => h4 h.2), fun _ => ?_⟩
        split <;> decide
def eordS  : Spec where
  pre xs := ∃ (a : TEvent) (b : TEvent), xs = [.dv (.ag a.row), .dv (.ag b.row)]
  post xs y := ∃ (a : TEvent) (b : TEvent), xs = [.dv (.ag a.row), .dv (.ag b.row)] ∧ y = .i (eordF a b)
  cost _ := 0
  fresh := true
theorem eordS_c  (xs : List AV) : (eordS).cost xs = 0 := nr rfl
theorem eordS_f  : (eordS).fresh = true := nr rfl
theorem eordS_q  (a : TEvent) (b : TEvent) : (eordS).pre [.dv (.ag [.str a.id, .str a.name, .int .i64 a.at_, .int .i64 a.who.kind, .str a.who.text, .sl (TField.rows a.fields)]), .dv (.ag [.str b.id, .str b.name, .int .i64 b.at_, .int .i64 b.who.kind, .str b.who.text, .sl (TField.rows b.fields)])] = (True) := propext ⟨fun h => by
  have h' : ∃ (a' : TEvent) (b' : TEvent), ([.dv (.ag a.row), .dv (.ag b.row)] : List AV) = [.dv (.ag a'.row), .dv (.ag b'.row)] := h
  obtain ⟨a', b', e⟩ := h'
  simp only [List.cons.injEq, AV.dv.injEq, AV.dp.injEq, AV.fv.injEq, DV.d.injEq, DV.ag.injEq, D.int.injEq, D.str.injEq, D.bool.injEq, D.sl.injEq, true_and, and_true, intsDi_inj, rowsT_inj, rowsKi_inj, TEvent.row_inj, TEvent.rows_inj, TEvent.row_inj, TEvent.rows_inj] at e
  obtain ⟨rfl, rfl⟩ := e
  exact trivial, fun h => ⟨a, b, rfl⟩⟩
theorem eordS_p  (a : TEvent) (b : TEvent) : (eordS).post [.dv (.ag [.str a.id, .str a.name, .int .i64 a.at_, .int .i64 a.who.kind, .str a.who.text, .sl (TField.rows a.fields)]), .dv (.ag [.str b.id, .str b.name, .int .i64 b.at_, .int .i64 b.who.kind, .str b.who.text, .sl (TField.rows b.fields)])] = fun y => y = .i (eordF a b) := funext fun y => propext ⟨fun h => by
  have h' : ∃ (a' : TEvent) (b' : TEvent), ([.dv (.ag a.row), .dv (.ag b.row)] : List AV) = [.dv (.ag a'.row), .dv (.ag b'.row)] ∧ y = .i (eordF a' b') := h
  obtain ⟨a', b', e, h⟩ := h'
  simp only [List.cons.injEq, AV.dv.injEq, AV.dp.injEq, AV.fv.injEq, DV.d.injEq, DV.ag.injEq, D.int.injEq, D.str.injEq, D.bool.injEq, D.sl.injEq, true_and, and_true, intsDi_inj, rowsT_inj, rowsKi_inj, TEvent.row_inj, TEvent.rows_inj, TEvent.row_inj, TEvent.rows_inj] at e
  obtain ⟨rfl, rfl⟩ := e
  exact h, fun h => ⟨a, b, rfl, h⟩⟩
theorem EOrder_ctr {cx : Cx} (h : Seat cx) : Ctr cx 75 eordS := by
  refine ctr_of (fn := Tryz.f75) (l := [.tmp 4]) (envL [(119, cmpISp), (120, cmpTSp), (118, orSp)]) [0, 1, 2, 3, 4] [] [] (envL_cons (compareI_ctr h) (envL_cons (compareT_ctr h) (envL_cons (or_ctr h) (env0 h.hP)))) ?_ (by rw [h.hP]; exact Tryz.func75) rfl (by kernel_rfl) rfl ?_ ?_
  · rw [h.hP]; exact ⟨_, Tryz.func75, by kernel_rfl, by kernel_rfl⟩
  · rintro xs ⟨a, b, rfl⟩; exact ⟨_, a, b, rfl, rfl⟩
  · rintro xs ⟨a, b, rfl⟩
    refine ⟨by rw [Tryz.ntmps75]; simp, ?_⟩
    simp only [go_sem, h.hP, List.cons_append, List.nil_append, Meets_e, Below_e, Prod.exists, exists_eq, exists_eq_left, exists_eq_left', exists_eq_right, exists_eq_right', exists_and_left, exists_and_right, Ob.arr.injEq, AV.own.injEq, AV.fv.injEq, eordS_q, eordS_p, eordS_c, eordS_f, cmpISp_q, cmpISp_p, cmpISp_c, cmpISp_f, cmpTSp_q, cmpTSp_p, cmpTSp_c, cmpTSp_f, orSp_q, orSp_p, orSp_c, orSp_f, TEvent.row, ints1, intsc, Tryz.ntmps75, Nat.reduceEqDiff, reduceCtorEq, Nat.reduceMul, Nat.reduceAdd, Nat.reduceSub, Nat.reduceDiv, Nat.reduceMod, Nat.reduceLeDiff, Nat.reduceLT, Nat.reduceBNe, Nat.reduceBEq, reduceIte, Int.reduceLE, Int.reduceLT, Int.reduceToNat, Int.reduceNeg, Int.reduceAdd, Int.reduceSub, Int.reduceMul, Int.reduceEq]
    rw [or_two]
    unfold eordF cmpI
    by_cases c1 : a.at_ < b.at_
    · rw [if_pos c1, if_pos c1]; rfl
    · rw [if_neg c1, if_neg c1]
      by_cases c2 : a.at_ > b.at_
      · rw [if_pos c2, if_pos c2]; rfl
      · rw [if_neg c2, if_neg c2]; rfl
def befS  : Spec where
  pre xs := ∃ (a : TEvent) (b : TEvent), xs = [.dv (.ag a.row), .dv (.ag b.row)]
  post xs y := ∃ (a : TEvent) (b : TEvent), xs = [.dv (.ag a.row), .dv (.ag b.row)] ∧ y = .b (befB a b)
  cost _ := 0
  fresh := true
theorem befS_c  (xs : List AV) : (befS).cost xs = 0 := nr rfl
theorem befS_f  : (befS).fresh = true := nr rfl
theorem befS_q  (a : TEvent) (b : TEvent) : (befS).pre [.dv (.ag [.str a.id, .str a.name, .int .i64 a.at_, .int .i64 a.who.kind, .str a.who.text, .sl (TField.rows a.fields)]), .dv (.ag [.str b.id, .str b.name, .int .i64 b.at_, .int .i64 b.who.kind, .str b.who.text, .sl (TField.rows b.fields)])] = (True) := propext ⟨fun h => by
  have h' : ∃ (a' : TEvent) (b' : TEvent), ([.dv (.ag a.row), .dv (.ag b.row)] : List AV) = [.dv (.ag a'.row), .dv (.ag b'.row)] := h
  obtain ⟨a', b', e⟩ := h'
  simp only [List.cons.injEq, AV.dv.injEq, AV.dp.injEq, AV.fv.injEq, DV.d.injEq, DV.ag.injEq, D.int.injEq, D.str.injEq, D.bool.injEq, D.sl.injEq, true_and, and_true, intsDi_inj, rowsT_inj, rowsKi_inj, TEvent.row_inj, TEvent.rows_inj, TEvent.row_inj, TEvent.rows_inj] at e
  obtain ⟨rfl, rfl⟩ := e
  exact trivial, fun h => ⟨a, b, rfl⟩⟩
theorem befS_p  (a : TEvent) (b : TEvent) : (befS).post [.dv (.ag [.str a.id, .str a.name, .int .i64 a.at_, .int .i64 a.who.kind, .str a.who.text, .sl (TField.rows a.fields)]), .dv (.ag [.str b.id, .str b.name, .int .i64 b.at_, .int .i64 b.who.kind, .str b.who.text, .sl (TField.rows b.fields)])] = fun y => y = .b (befB a b) := funext fun y => propext ⟨fun h => by
  have h' : ∃ (a' : TEvent) (b' : TEvent), ([.dv (.ag a.row), .dv (.ag b.row)] : List AV) = [.dv (.ag a'.row), .dv (.ag b'.row)] ∧ y = .b (befB a' b') := h
  obtain ⟨a', b', e, h⟩ := h'
  simp only [List.cons.injEq, AV.dv.injEq, AV.dp.injEq, AV.fv.injEq, DV.d.injEq, DV.ag.injEq, D.int.injEq, D.str.injEq, D.bool.injEq, D.sl.injEq, true_and, and_true, intsDi_inj, rowsT_inj, rowsKi_inj, TEvent.row_inj, TEvent.rows_inj, TEvent.row_inj, TEvent.rows_inj] at e
  obtain ⟨rfl, rfl⟩ := e
  exact h, fun h => ⟨a, b, rfl, h⟩⟩
theorem before_ctr {cx : Cx} (h : Seat cx) : Ctr cx 77 befS := by
  refine ctr_of (fn := Tryz.f77) (l := [.tmp 4]) (envL []) [0, 1, 2, 3, 4] [] [] (env0 h.hP) ?_ (by rw [h.hP]; exact Tryz.func77) rfl (by kernel_rfl) rfl ?_ ?_
  · rw [h.hP]; exact ⟨_, Tryz.func77, by kernel_rfl, by kernel_rfl⟩
  · rintro xs ⟨a, b, rfl⟩; exact ⟨_, a, b, rfl, rfl⟩
  · rintro xs ⟨a, b, rfl⟩
    refine ⟨by rw [Tryz.ntmps77]; simp, ?_⟩
    simp only [go_sem, h.hP, List.cons_append, List.nil_append, Meets_e, Below_e, Prod.exists, exists_eq, exists_eq_left, exists_eq_left', exists_eq_right, exists_eq_right', exists_and_left, exists_and_right, Ob.arr.injEq, AV.own.injEq, AV.fv.injEq, befS_q, befS_p, befS_c, befS_f, TEvent.row, Tryz.ntmps77, Nat.reduceEqDiff, reduceCtorEq, Nat.reduceMul, Nat.reduceAdd, Nat.reduceSub, Nat.reduceDiv, Nat.reduceMod, Nat.reduceLeDiff, Nat.reduceLT, Nat.reduceBNe, Nat.reduceBEq, reduceIte, Int.reduceLE, Int.reduceLT, Int.reduceToNat, Int.reduceNeg, Int.reduceAdd, Int.reduceSub, Int.reduceMul, Int.reduceEq]
    have e : befB a b = decide (a.at_ < b.at_ ∨ (a.at_ = b.at_ ∧ Op.bytesLess a.id.toList b.id.toList = true)) := rfl
    rw [e]
    generalize Op.bytesLess a.id.toList b.id.toList = q
    refine ⟨fun c => ⟨fun d => ?_, fun d => (decide_eq_false fun z => z.elim c fun z => d z.1).symm⟩, fun c => (decide_eq_true (.inl c)).symm⟩
    cases q with
    | false => exact (decide_eq_false fun z => z.elim c fun z => Bool.false_ne_true z.2).symm
    | true => exact (decide_eq_true (.inr ⟨d, rfl⟩)).symm

/-! ### Ids that were seen -/
def hasId (l : List TEvent) (s : ByteArray) : Bool := l.any fun e => decide (e.id = s)
def seenM (l : List TEvent) : List (D × D) := l.map fun e => (.str e.id, .bool true)
theorem mget_seen (l : List TEvent) (s : ByteArray) : (mget (seenM l) (.str s)).getD (.bool false) = .bool (hasId l s) := by
  induction l with
  | nil => rfl
  | cons e r ih =>
    show ((if decide (e.id = s) = true then some (D.bool true) else mget (seenM r) (.str s)).getD (.bool false)) = .bool (decide (e.id = s) || hasId r s)
    by_cases h : e.id = s
    · rw [decide_eq_true h]; rfl
    · rw [decide_eq_false h, Bool.false_or]; exact ih
theorem mput_seen {l : List TEvent} {s : ByteArray} (h : hasId l s = false) : mput (seenM l) (.str s) (.bool true) = seenM l ++ [(.str s, .bool true)] := by
  induction l with
  | nil => rfl
  | cons e r ih =>
    have h' : (decide (e.id = s) || hasId r s) = false := h
    rw [Bool.or_eq_false_iff] at h'
    show (if decide (e.id = s) = true then ((D.str s, D.bool true) :: seenM r) else (D.str e.id, D.bool true) :: mput (seenM r) (.str s) (.bool true)) = _
    rw [h'.1, ih h'.2]
    rfl
theorem seen_step {l : List TEvent} {i : Int} (h0 : 0 ≤ i) (hi : i < l.length) (h : hasId (l.take i.toNat) (l.getD i.toNat TEvent.z).id = false) : mput (seenM (l.take i.toNat)) (.str (l.getD i.toNat TEvent.z).id) (.bool true) = seenM (l.take (i + 1).toNat) := by
  rw [mput_seen h]
  have hi' : i.toNat < l.length := by omega
  rw [show (i + 1).toNat = i.toNat + 1 by omega, List.take_add_one, List.getElem?_eq_getElem hi']
  unfold seenM
  rw [List.map_append, List.getD_eq_getElem?_getD, List.getElem?_eq_getElem hi']
  rfl
def evE (l : List TEvent) (i : Nat) : Int := if evF (l.getD i TEvent.z) ≠ 0 then evF (l.getD i TEvent.z) else if 0 < (i : Int) ∧ befB (l.getD (i - 1) TEvent.z) (l.getD i TEvent.z) = false then 7 else if hasId (l.take i) (l.getD i TEvent.z).id = true then 6 else 0
def eventsF (l : List TEvent) : Int := if 5000 < (l.length : Int) then 2 else firstI l.length (evE l)
theorem evE_i (l : List TEvent) {i : Int} (hi : 0 ≤ i) : evE l i.toNat = if evF (l.getD i.toNat TEvent.z) ≠ 0 then evF (l.getD i.toNat TEvent.z) else if 0 < i ∧ befB (l.getD (i - 1).toNat TEvent.z) (l.getD i.toNat TEvent.z) = false then 7 else if hasId (l.take i.toNat) (l.getD i.toNat TEvent.z).id = true then 6 else 0 := by
  unfold evE
  rw [Int.toNat_of_nonneg hi, show i.toNat - 1 = (i - 1).toNat by omega]
def eventsS  : Spec where
  pre xs := ∃ (l : List TEvent), xs = [.sl (TEvent.rows l)] ∧ (okL TEvent.ok l)
  post xs y := ∃ (l : List TEvent), xs = [.sl (TEvent.rows l)] ∧ y = .i (eventsF l)
  cost _ := 0
  fresh := true
theorem eventsS_c  (xs : List AV) : (eventsS).cost xs = 0 := nr rfl
theorem eventsS_f  : (eventsS).fresh = true := nr rfl
theorem eventsS_q  (l : List TEvent) : (eventsS).pre [.sl (TEvent.rows l)] = (okL TEvent.ok l) := propext ⟨fun h => by
  have h' : ∃ (l' : List TEvent), ([.sl (TEvent.rows l)] : List AV) = [.sl (TEvent.rows l')] ∧ (okL TEvent.ok l') := h
  obtain ⟨l', e, h⟩ := h'
  simp only [List.cons.injEq, AV.dv.injEq, AV.dp.injEq, AV.fv.injEq, DV.d.injEq, DV.ag.injEq, D.int.injEq, D.str.injEq, D.bool.injEq, D.sl.injEq, true_and, and_true, intsDi_inj, rowsT_inj, rowsKi_inj, TEvent.row_inj, TEvent.rows_inj] at e
  obtain rfl := e
  exact h, fun h => ⟨l, rfl, h⟩⟩
theorem eventsS_p  (l : List TEvent) : (eventsS).post [.sl (TEvent.rows l)] = fun y => y = .i (eventsF l) := funext fun y => propext ⟨fun h => by
  have h' : ∃ (l' : List TEvent), ([.sl (TEvent.rows l)] : List AV) = [.sl (TEvent.rows l')] ∧ y = .i (eventsF l') := h
  obtain ⟨l', e, h⟩ := h'
  simp only [List.cons.injEq, AV.dv.injEq, AV.dp.injEq, AV.fv.injEq, DV.d.injEq, DV.ag.injEq, D.int.injEq, D.str.injEq, D.bool.injEq, D.sl.injEq, true_and, and_true, intsDi_inj, rowsT_inj, rowsKi_inj, TEvent.row_inj, TEvent.rows_inj] at e
  obtain rfl := e
  exact h, fun h => ⟨l, rfl, h⟩⟩
theorem check_round {l : List TEvent} (h1 : okL TEvent.ok l) {i : Int} (hr : Rounds l.length (evE l) i) : 0 ≤ i ∧ (0 < i → i < l.length → IntKind.i64.wrap (i - 1) = i - 1) ∧
    (i < l.length → ¬ evF (l.getD i.toNat TEvent.z) = 0 → evF (l.getD i.toNat TEvent.z) = firstI l.length (evE l)) ∧
    (i < l.length → evF (l.getD i.toNat TEvent.z) = 0 → 0 < i → befB (l.getD (i - 1).toNat TEvent.z) (l.getD i.toNat TEvent.z) = false → 7 = firstI l.length (evE l)) ∧
    (i < l.length → evF (l.getD i.toNat TEvent.z) = 0 → (0 < i → befB (l.getD (i - 1).toNat TEvent.z) (l.getD i.toNat TEvent.z) = true) → hasId (l.take i.toNat) (l.getD i.toNat TEvent.z).id = true → 6 = firstI l.length (evE l)) ∧
    (i < l.length → evF (l.getD i.toNat TEvent.z) = 0 → (0 < i → befB (l.getD (i - 1).toNat TEvent.z) (l.getD i.toNat TEvent.z) = true) → hasId (l.take i.toNat) (l.getD i.toNat TEvent.z).id = false →
      mput (seenM (l.take i.toNat)) (.str (l.getD i.toNat TEvent.z).id) (.bool true) = seenM (l.take (IntKind.i64.wrap (i + 1)).toNat) ∧ Rounds l.length (evE l) (IntKind.i64.wrap (i + 1)) ∧ ((l.length : Int) - IntKind.i64.wrap (i + 1)).toNat < ((l.length : Int) - i).toNat) ∧
    (¬ i < l.length → 0 = firstI l.length (evE l)) := by
  have hl := h1.1
  obtain ⟨hi, hS, hM, hE, hN⟩ := hr.use (by omega)
  have e0 := evE_i l hi
  have e1 : evF (l.getD i.toNat TEvent.z) = 0 → (0 < i → befB (l.getD (i - 1).toNat TEvent.z) (l.getD i.toNat TEvent.z) = true) → evE l i.toNat = if hasId (l.take i.toNat) (l.getD i.toNat TEvent.z).id = true then 6 else 0 := fun b d => by
    rw [e0, if_neg (fun z => z b), if_neg (fun z => ne_tf z.2 (d z.1))]
  refine ⟨hi, fun a b => i64w (by omega) (by omega), fun a b => (hE _ a (e0.trans (if_pos b)) b).symm, fun a b c d => (hE 7 a ?_ (by decide)).symm, fun a b c d => (hE 6 a ((e1 b c).trans (if_pos d)) (by decide)).symm, fun a b c d => ?_, fun a => (hN a).symm⟩
  · rw [e0, if_neg (fun z => z b), if_pos ⟨c, d⟩]
  · have hw : IntKind.i64.wrap (i + 1) = i + 1 := i64w (by omega) (by omega)
    refine ⟨?_, hS a ((e1 b c).trans (if_neg (ne_tf d))), hM a⟩
    rw [hw]
    exact seen_step hi a d
set_option maxHeartbeats 4000000 in
theorem ECheck_ctr {cx : Cx} (h : Seat cx) (hU : Utf8 cx) (hM : MaxL cx) : Ctr cx 32 eventsS := by
  refine ctr_of (fn := Tryz.f32) (l := [.tmp 2]) (envL [(74, evS), (75, eordS)]) [0, 2, 3, 4, 5, 6, 9, 11, 12, 13, 14, 21, 34, 38] [] [] (envL_cons (CheckOne_ctr h hU hM) (envL_cons (EOrder_ctr h) (env0 h.hP))) ?_ (by rw [h.hP]; exact Tryz.func32) rfl (by kernel_rfl) rfl ?_ ?_
  · rw [h.hP]; exact ⟨_, Tryz.func32, by kernel_rfl, by kernel_rfl⟩
  · rintro xs ⟨l, rfl, h1⟩; exact ⟨_, l, rfl, rfl⟩
  · rintro xs ⟨l, rfl, h1⟩
    refine ⟨by rw [Tryz.ntmps32]; simp, ?_⟩
    simp only [go_sem, h.hP, List.cons_append, List.nil_append, Meets_e, Below_e, Prod.exists, exists_eq, exists_eq_left, exists_eq_left', exists_eq_right, exists_eq_right', exists_and_left, exists_and_right, Ob.arr.injEq, AV.own.injEq, AV.fv.injEq, eventsS_q, eventsS_p, eventsS_c, eventsS_f, TEvent.len, Tryz.ntmps32, Nat.reduceEqDiff, reduceCtorEq, Nat.reduceMul, Nat.reduceAdd, Nat.reduceSub, Nat.reduceDiv, Nat.reduceMod, Nat.reduceLeDiff, Nat.reduceLT, Nat.reduceBNe, Nat.reduceBEq, reduceIte, Int.reduceLE, Int.reduceLT, Int.reduceToNat, Int.reduceNeg, Int.reduceAdd, Int.reduceSub, Int.reduceMul, Int.reduceEq]
    refine ⟨fun c => (if_pos c).symm, fun c => ?_⟩
    have hc : eventsF l = firstI l.length (evE l) := if_neg c
    rw [hc]
    refine vc_loopS (Int) (fun (i : Int) => [(13, .i i)]) [] (fun (i : Int) => []) (fun (i : Int) => [(10, .mp 122 (seenM (l.take i.toNat)))]) (fun (i : Int) => 0) (fun (i : Int) => Rounds l.length (evE l) i) (fun (i : Int) => (l.length - i).toNat) [] ?_ ?_
    · simp only [go_sem, h.hP, List.cons_append, List.nil_append, Meets_e, Below_e, Prod.exists, exists_eq, exists_eq_left, exists_eq_left', exists_eq_right, exists_eq_right', exists_and_left, exists_and_right, Ob.arr.injEq, AV.own.injEq, AV.fv.injEq, Tryz.ntmps32, Nat.reduceEqDiff, reduceCtorEq, Nat.reduceMul, Nat.reduceAdd, Nat.reduceSub, Nat.reduceDiv, Nat.reduceMod, Nat.reduceLeDiff, Nat.reduceLT, Nat.reduceBNe, Nat.reduceBEq, reduceIte, Int.reduceLE, Int.reduceLT, Int.reduceToNat, Int.reduceNeg, Int.reduceAdd, Int.reduceSub, Int.reduceMul, Int.reduceEq]
      exact ⟨rfl, Rounds.start⟩
    · rintro i hr
      obtain ⟨hi, hw, f5, f7, f6, f0, fe⟩ := check_round h1 hr
      have ho := okL_get h1 TEvent.z_ok
      simp only [go_sem, h.hP, List.cons_append, List.nil_append, Meets_e, Below_e, Prod.exists, exists_eq, exists_eq_left, exists_eq_left', exists_eq_right, exists_eq_right', exists_and_left, exists_and_right, Ob.arr.injEq, AV.own.injEq, AV.fv.injEq, eventsS_q, eventsS_p, eventsS_c, eventsS_f, evS_q, evS_p, evS_c, evS_f, eordS_q, eordS_p, eordS_c, eordS_f, TEvent.row, TEvent.len, TEvent.get, mget_seen, eord_neg, Tryz.ntmps32, Nat.reduceEqDiff, reduceCtorEq, Nat.reduceMul, Nat.reduceAdd, Nat.reduceSub, Nat.reduceDiv, Nat.reduceMod, Nat.reduceLeDiff, Nat.reduceLT, Nat.reduceBNe, Nat.reduceBEq, reduceIte, Int.reduceLE, Int.reduceLT, Int.reduceToNat, Int.reduceNeg, Int.reduceAdd, Int.reduceSub, Int.reduceMul, Int.reduceEq]
      refine ⟨fun a => ⟨hi, a, ho _, f5 a, fun b => ⟨fun c => ?_, fun c => ⟨f6 a b (fun d => absurd d c), f0 a b (fun d => absurd d c)⟩⟩⟩, fe⟩
      rw [hw c a]
      exact ⟨by omega, by omega, f7 a b c, fun d => ⟨f6 a b (fun _ => by simpa using d), f0 a b (fun _ => by simpa using d)⟩⟩
set_option maxHeartbeats 4000000 in
theorem EventsFault_ctr {cx : Cx} (h : Seat cx) (hU : Utf8 cx) (hM : MaxL cx) : Ctr cx 33 eventsS := by
  refine ctr_of (fn := Tryz.f33) (l := [.tmp 2]) (envL [(76, evS), (77, befS)]) [0, 2, 3, 4, 5, 6, 9, 11, 12, 13, 14, 21, 34, 38] [] [] (envL_cons (eventFault_ctr h hU hM) (envL_cons (before_ctr h) (env0 h.hP))) ?_ (by rw [h.hP]; exact Tryz.func33) rfl (by kernel_rfl) rfl ?_ ?_
  · rw [h.hP]; exact ⟨_, Tryz.func33, by kernel_rfl, by kernel_rfl⟩
  · rintro xs ⟨l, rfl, h1⟩; exact ⟨_, l, rfl, rfl⟩
  · rintro xs ⟨l, rfl, h1⟩
    refine ⟨by rw [Tryz.ntmps33]; simp, ?_⟩
    simp only [go_sem, h.hP, List.cons_append, List.nil_append, Meets_e, Below_e, Prod.exists, exists_eq, exists_eq_left, exists_eq_left', exists_eq_right, exists_eq_right', exists_and_left, exists_and_right, Ob.arr.injEq, AV.own.injEq, AV.fv.injEq, eventsS_q, eventsS_p, eventsS_c, eventsS_f, TEvent.len, Tryz.ntmps33, Nat.reduceEqDiff, reduceCtorEq, Nat.reduceMul, Nat.reduceAdd, Nat.reduceSub, Nat.reduceDiv, Nat.reduceMod, Nat.reduceLeDiff, Nat.reduceLT, Nat.reduceBNe, Nat.reduceBEq, reduceIte, Int.reduceLE, Int.reduceLT, Int.reduceToNat, Int.reduceNeg, Int.reduceAdd, Int.reduceSub, Int.reduceMul, Int.reduceEq]
    refine ⟨fun c => (if_pos c).symm, fun c => ?_⟩
    have hc : eventsF l = firstI l.length (evE l) := if_neg c
    rw [hc]
    refine vc_loopS (Int) (fun (i : Int) => [(13, .i i)]) [] (fun (i : Int) => []) (fun (i : Int) => [(10, .mp 122 (seenM (l.take i.toNat)))]) (fun (i : Int) => 0) (fun (i : Int) => Rounds l.length (evE l) i) (fun (i : Int) => (l.length - i).toNat) [] ?_ ?_
    · simp only [go_sem, h.hP, List.cons_append, List.nil_append, Meets_e, Below_e, Prod.exists, exists_eq, exists_eq_left, exists_eq_left', exists_eq_right, exists_eq_right', exists_and_left, exists_and_right, Ob.arr.injEq, AV.own.injEq, AV.fv.injEq, Tryz.ntmps33, Nat.reduceEqDiff, reduceCtorEq, Nat.reduceMul, Nat.reduceAdd, Nat.reduceSub, Nat.reduceDiv, Nat.reduceMod, Nat.reduceLeDiff, Nat.reduceLT, Nat.reduceBNe, Nat.reduceBEq, reduceIte, Int.reduceLE, Int.reduceLT, Int.reduceToNat, Int.reduceNeg, Int.reduceAdd, Int.reduceSub, Int.reduceMul, Int.reduceEq]
      exact ⟨rfl, Rounds.start⟩
    · rintro i hr
      obtain ⟨hi, hw, f5, f7, f6, f0, fe⟩ := check_round h1 hr
      have ho := okL_get h1 TEvent.z_ok
      simp only [go_sem, h.hP, List.cons_append, List.nil_append, Meets_e, Below_e, Prod.exists, exists_eq, exists_eq_left, exists_eq_left', exists_eq_right, exists_eq_right', exists_and_left, exists_and_right, Ob.arr.injEq, AV.own.injEq, AV.fv.injEq, eventsS_q, eventsS_p, eventsS_c, eventsS_f, evS_q, evS_p, evS_c, evS_f, befS_q, befS_p, befS_c, befS_f, TEvent.row, TEvent.len, TEvent.get, mget_seen, Tryz.ntmps33, Nat.reduceEqDiff, reduceCtorEq, Nat.reduceMul, Nat.reduceAdd, Nat.reduceSub, Nat.reduceDiv, Nat.reduceMod, Nat.reduceLeDiff, Nat.reduceLT, Nat.reduceBNe, Nat.reduceBEq, reduceIte, Int.reduceLE, Int.reduceLT, Int.reduceToNat, Int.reduceNeg, Int.reduceAdd, Int.reduceSub, Int.reduceMul, Int.reduceEq]
      refine ⟨fun a => ⟨hi, a, ho _, f5 a, fun b => ⟨fun c => ?_, fun c => ⟨f6 a b (fun d => absurd d c), f0 a b (fun d => absurd d c)⟩⟩⟩, fe⟩
      rw [hw c a]
      exact ⟨by omega, by omega, f7 a b c, fun d => ⟨f6 a b (fun _ => by simpa using d), f0 a b (fun _ => by simpa using d)⟩⟩
/-! ### What holds of events that are right -/
theorem ev_right {l : List TEvent} (h : eventsF l = 0) : l.length ≤ 5000 ∧ (∀ i, i < l.length → evF (l.getD i TEvent.z) = 0) ∧ ∀ i, 0 < i → i < l.length → befB (l.getD (i - 1) TEvent.z) (l.getD i TEvent.z) = true := by
  unfold eventsF at h
  split at h
  · cases h
  · rename_i hl
    have key := fun i (hi : i < l.length) => firstI_zero h i hi
    have h1 : ∀ i, i < l.length → evF (l.getD i TEvent.z) = 0 := fun i hi => by
      have := key i hi
      unfold evE at this
      split at this
      · rename_i c; exact absurd this c
      · rename_i c; exact Decidable.not_not.1 c
    refine ⟨by omega, h1, fun i h0 hi => ?_⟩
    have := key i hi
    unfold evE at this
    rw [if_neg (fun z => z (h1 i hi))] at this
    split at this
    · cases this
    · rename_i c
      cases hb : befB (l.getD (i - 1) TEvent.z) (l.getD i TEvent.z) with
      | true => rfl
      | false => exact absurd ⟨by omega, hb⟩ c
theorem evF_at {e : TEvent} (h : evF e = 0) : 0 ≤ e.at_ ∧ e.at_ ≤ 4321439 := by
  unfold evF at h
  split at h
  · cases h
  · split at h
    · cases h
    · rename_i c
      rw [Bool.not_eq_false] at c
      exact inB_iff.1 c
def atsL (l : List TEvent) : List Int := l.map TEvent.at_
theorem atsL_get (l : List TEvent) {i : Nat} (hi : i < l.length) : (atsL l).getD i 0 = (l.getD i TEvent.z).at_ := by
  unfold atsL
  rw [List.getD_eq_getElem?_getD, List.getD_eq_getElem?_getD, List.getElem?_map, List.getElem?_eq_getElem hi]
  rfl
theorem ats_sorted {l : List TEvent} (h : eventsF l = 0) : (atsL l).Pairwise (· ≤ ·) := by
  obtain ⟨_, _, h2⟩ := ev_right h
  have hstep : ∀ i, 0 < i → i < l.length → (l.getD (i - 1) TEvent.z).at_ ≤ (l.getD i TEvent.z).at_ := fun i h0 hi => by
    have := h2 i h0 hi
    unfold befB at this
    rw [decide_eq_true_eq] at this
    omega
  have hall : ∀ j i, i ≤ j → j < l.length → (l.getD i TEvent.z).at_ ≤ (l.getD j TEvent.z).at_ := by
    intro j
    induction j with
    | zero => intro i hi _; obtain rfl : i = 0 := by omega
              exact Int.le_refl _
    | succ j ih =>
      intro i hi hj
      by_cases e : i = j + 1
      · subst e; exact Int.le_refl _
      · have h3 := ih i (by omega) (by omega)
        have h4 := hstep (j + 1) (by omega) hj
        rw [Nat.add_sub_cancel] at h4
        omega
  rw [List.pairwise_iff_getElem]
  intro i j hi hj hij
  have hi' : i < l.length := by unfold atsL at hi; simpa using hi
  have hj' : j < l.length := by unfold atsL at hj; simpa using hj
  have h3 := hall j i (by omega) hj'
  rw [← atsL_get l hi', ← atsL_get l hj', List.getD_eq_getElem?_getD, List.getD_eq_getElem?_getD, List.getElem?_eq_getElem hi, List.getElem?_eq_getElem hj] at h3
  exact h3
end Go.Avc

/- Names and windows: what is wrong with them. No condition. -/
set_option linter.unusedVariables false
set_option linter.unusedSimpArgs false
set_option maxRecDepth 100000
namespace Go.Avc
open Go Go.Proofs

def winE (w : TWindow) : Int := if 0 ≤ w.from_ ∧ w.from_ ≤ w.to_ ∧ w.to_ ≤ 4321440 then 0 else 1
def winS  : Spec where
  pre xs := ∃ (w : TWindow), xs = [.dv (.ag w.row)]
  post xs y := ∃ (w : TWindow), xs = [.dv (.ag w.row)] ∧ y = .i (winE w)
  cost _ := 0
  fresh := true
theorem winS_c  (xs : List AV) : (winS).cost xs = 0 := nr rfl
theorem winS_f  : (winS).fresh = true := nr rfl
theorem winS_q  (w : TWindow) : (winS).pre [.dv (.ag [.int .i64 w.from_, .int .i64 w.to_])] = (True) := propext ⟨fun h => by
  have h' : ∃ (w' : TWindow), ([.dv (.ag w.row)] : List AV) = [.dv (.ag w'.row)] := h
  obtain ⟨w', e⟩ := h'
  simp only [List.cons.injEq, AV.dv.injEq, AV.dp.injEq, AV.fv.injEq, DV.d.injEq, DV.ag.injEq, D.int.injEq, D.str.injEq, D.bool.injEq, D.sl.injEq, true_and, and_true, intsDi_inj, rowsT_inj, rowsKi_inj, TWindow.row_inj, TWindow.rows_inj] at e
  obtain rfl := e
  exact trivial, fun h => ⟨w, rfl⟩⟩
theorem winS_p  (w : TWindow) : (winS).post [.dv (.ag [.int .i64 w.from_, .int .i64 w.to_])] = fun y => y = .i (winE w) := funext fun y => propext ⟨fun h => by
  have h' : ∃ (w' : TWindow), ([.dv (.ag w.row)] : List AV) = [.dv (.ag w'.row)] ∧ y = .i (winE w') := h
  obtain ⟨w', e, h⟩ := h'
  simp only [List.cons.injEq, AV.dv.injEq, AV.dp.injEq, AV.fv.injEq, DV.d.injEq, DV.ag.injEq, D.int.injEq, D.str.injEq, D.bool.injEq, D.sl.injEq, true_and, and_true, intsDi_inj, rowsT_inj, rowsKi_inj, TWindow.row_inj, TWindow.rows_inj] at e
  obtain rfl := e
  exact h, fun h => ⟨w, rfl, h⟩⟩
theorem checkWindow_ctr {cx : Cx} (h : Seat cx) : Ctr cx 110 winS := by
  refine ctr_of (fn := Tryz.f110) (l := [.tmp 2]) (envL []) [0, 1, 2, 17] [] [] (env0 h.hP) ?_ (by rw [h.hP]; exact Tryz.func110) rfl (by kernel_rfl) rfl ?_ ?_
  · rw [h.hP]; exact ⟨_, Tryz.func110, by kernel_rfl, by kernel_rfl⟩
  · rintro xs ⟨w, rfl⟩; exact ⟨_, w, rfl, rfl⟩
  · rintro xs ⟨w, rfl⟩
    refine ⟨by rw [Tryz.ntmps110]; simp, ?_⟩
    simp only [go_sem, h.hP, List.cons_append, List.nil_append, Meets_e, Below_e, Prod.exists, exists_eq, exists_eq_left, exists_eq_left', exists_eq_right, exists_eq_right', exists_and_left, exists_and_right, Ob.arr.injEq, AV.own.injEq, AV.fv.injEq, winS_q, winS_p, winS_c, winS_f, TWindow.row, Tryz.ntmps110, Nat.reduceEqDiff, reduceCtorEq, Nat.reduceMul, Nat.reduceAdd, Nat.reduceSub, Nat.reduceDiv, Nat.reduceMod, Nat.reduceLeDiff, Nat.reduceLT, Nat.reduceBNe, Nat.reduceBEq, reduceIte, Int.reduceLE, Int.reduceLT, Int.reduceToNat, Int.reduceNeg, Int.reduceAdd, Int.reduceSub, Int.reduceMul, Int.reduceEq]
    unfold winE
    ((repeat' (first | with_reducible apply And.intro | with_reducible intro)) <;> (split <;> omega))
theorem WindowFault_ctr {cx : Cx} (h : Seat cx) : Ctr cx 50 winS := by
  refine ctr_of (fn := Tryz.f50) (l := [.tmp 2]) (envL [(57, inS)]) [0, 1, 2, 13] [] [] (envL_cons (in_ctr h) (env0 h.hP)) ?_ (by rw [h.hP]; exact Tryz.func50) rfl (by kernel_rfl) rfl ?_ ?_
  · rw [h.hP]; exact ⟨_, Tryz.func50, by kernel_rfl, by kernel_rfl⟩
  · rintro xs ⟨w, rfl⟩; exact ⟨_, w, rfl, rfl⟩
  · rintro xs ⟨w, rfl⟩
    refine ⟨by rw [Tryz.ntmps50]; simp, ?_⟩
    simp only [go_sem, h.hP, List.cons_append, List.nil_append, Meets_e, Below_e, Prod.exists, exists_eq, exists_eq_left, exists_eq_left', exists_eq_right, exists_eq_right', exists_and_left, exists_and_right, Ob.arr.injEq, AV.own.injEq, AV.fv.injEq, winS_q, winS_p, winS_c, winS_f, inS_q, inS_p, inS_c, inS_f, TWindow.row, Tryz.ntmps50, Nat.reduceEqDiff, reduceCtorEq, Nat.reduceMul, Nat.reduceAdd, Nat.reduceSub, Nat.reduceDiv, Nat.reduceMod, Nat.reduceLeDiff, Nat.reduceLT, Nat.reduceBNe, Nat.reduceBEq, reduceIte, Int.reduceLE, Int.reduceLT, Int.reduceToNat, Int.reduceNeg, Int.reduceAdd, Int.reduceSub, Int.reduceMul, Int.reduceEq]
    unfold winE inB
    simp only [decide_eq_true_eq, decide_eq_false_iff_not]
    ((repeat' (first | with_reducible apply And.intro | with_reducible intro)) <;> (split <;> omega))
def nameE (l : List ByteArray) (i : Nat) : Int := if keyB (l.getD i ⟨#[]⟩) = false then 5 else 0
def namesF (l : List ByteArray) : Int := firstI l.length (nameE l)
def namesS  : Spec where
  pre xs := ∃ (l : List ByteArray), xs = [.sl (rowsT l)] ∧ (okL okS l)
  post xs y := ∃ (l : List ByteArray), xs = [.sl (rowsT l)] ∧ y = .i (namesF l)
  cost _ := 0
  fresh := true
theorem namesS_c  (xs : List AV) : (namesS).cost xs = 0 := nr rfl
theorem namesS_f  : (namesS).fresh = true := nr rfl
theorem namesS_q  (l : List ByteArray) : (namesS).pre [.sl (rowsT l)] = (okL okS l) := propext ⟨fun h => by
  have h' : ∃ (l' : List ByteArray), ([.sl (rowsT l)] : List AV) = [.sl (rowsT l')] ∧ (okL okS l') := h
  obtain ⟨l', e, h⟩ := h'
  simp only [List.cons.injEq, AV.dv.injEq, AV.dp.injEq, AV.fv.injEq, DV.d.injEq, DV.ag.injEq, D.int.injEq, D.str.injEq, D.bool.injEq, D.sl.injEq, true_and, and_true, intsDi_inj, rowsT_inj, rowsKi_inj] at e
  obtain rfl := e
  exact h, fun h => ⟨l, rfl, h⟩⟩
theorem namesS_p  (l : List ByteArray) : (namesS).post [.sl (rowsT l)] = fun y => y = .i (namesF l) := funext fun y => propext ⟨fun h => by
  have h' : ∃ (l' : List ByteArray), ([.sl (rowsT l)] : List AV) = [.sl (rowsT l')] ∧ y = .i (namesF l') := h
  obtain ⟨l', e, h⟩ := h'
  simp only [List.cons.injEq, AV.dv.injEq, AV.dp.injEq, AV.fv.injEq, DV.d.injEq, DV.ag.injEq, D.int.injEq, D.str.injEq, D.bool.injEq, D.sl.injEq, true_and, and_true, intsDi_inj, rowsT_inj, rowsKi_inj] at e
  obtain rfl := e
  exact h, fun h => ⟨l, rfl, h⟩⟩
theorem nameFault_ctr {cx : Cx} (h : Seat cx) : Ctr cx 22 namesS := by
  refine ctr_of (fn := Tryz.f22) (l := [.tmp 2]) (envL [(65, (strB keyB))]) [0, 2, 4, 5, 6, 7, 8, 13] [] [] (envL_cons (Key_ctr h) (env0 h.hP)) ?_ (by rw [h.hP]; exact Tryz.func22) rfl (by kernel_rfl) rfl ?_ ?_
  · rw [h.hP]; exact ⟨_, Tryz.func22, by kernel_rfl, by kernel_rfl⟩
  · rintro xs ⟨l, rfl, h1⟩; exact ⟨_, l, rfl, rfl⟩
  · rintro xs ⟨l, rfl, h1⟩
    refine ⟨by rw [Tryz.ntmps22]; simp, ?_⟩
    simp only [go_sem, h.hP, List.cons_append, List.nil_append, Meets_e, Below_e, Prod.exists, exists_eq, exists_eq_left, exists_eq_left', exists_eq_right, exists_eq_right', exists_and_left, exists_and_right, Ob.arr.injEq, AV.own.injEq, AV.fv.injEq, namesS_q, namesS_p, namesS_c, namesS_f, rowsT_len, Tryz.ntmps22, Nat.reduceEqDiff, reduceCtorEq, Nat.reduceMul, Nat.reduceAdd, Nat.reduceSub, Nat.reduceDiv, Nat.reduceMod, Nat.reduceLeDiff, Nat.reduceLT, Nat.reduceBNe, Nat.reduceBEq, reduceIte, Int.reduceLE, Int.reduceLT, Int.reduceToNat, Int.reduceNeg, Int.reduceAdd, Int.reduceSub, Int.reduceMul, Int.reduceEq]
    refine vc_loopS (Int) (fun (i : Int) => [(7, .i i)]) [] (fun (i : Int) => []) (fun (i : Int) => []) (fun (i : Int) => 0) (fun (i : Int) => Rounds l.length (nameE l) i) (fun (i : Int) => (l.length - i).toNat) [] ?_ ?_
    · simp only [go_sem, h.hP, List.cons_append, List.nil_append, Meets_e, Below_e, Prod.exists, exists_eq, exists_eq_left, exists_eq_left', exists_eq_right, exists_eq_right', exists_and_left, exists_and_right, Ob.arr.injEq, AV.own.injEq, AV.fv.injEq, Tryz.ntmps22, Nat.reduceEqDiff, reduceCtorEq, Nat.reduceMul, Nat.reduceAdd, Nat.reduceSub, Nat.reduceDiv, Nat.reduceMod, Nat.reduceLeDiff, Nat.reduceLT, Nat.reduceBNe, Nat.reduceBEq, reduceIte, Int.reduceLE, Int.reduceLT, Int.reduceToNat, Int.reduceNeg, Int.reduceAdd, Int.reduceSub, Int.reduceMul, Int.reduceEq]
      exact Rounds.start
    · rintro i hr
      obtain ⟨hi, hS, hM, hE, hN⟩ := hr.use (by have := h1.1; omega)
      have ho : okS (l.getD i.toNat ⟨#[]⟩) := okL_get h1 okS_z _
      simp only [go_sem, h.hP, List.cons_append, List.nil_append, Meets_e, Below_e, Prod.exists, exists_eq, exists_eq_left, exists_eq_left', exists_eq_right, exists_eq_right', exists_and_left, exists_and_right, Ob.arr.injEq, AV.own.injEq, AV.fv.injEq, namesS_q, namesS_p, namesS_c, namesS_f, strB_q, strB_p, strB_c, strB_f, rowsT_len, rowsT_get, Tryz.ntmps22, Nat.reduceEqDiff, reduceCtorEq, Nat.reduceMul, Nat.reduceAdd, Nat.reduceSub, Nat.reduceDiv, Nat.reduceMod, Nat.reduceLeDiff, Nat.reduceLT, Nat.reduceBNe, Nat.reduceBEq, reduceIte, Int.reduceLE, Int.reduceLT, Int.reduceToNat, Int.reduceNeg, Int.reduceAdd, Int.reduceSub, Int.reduceMul, Int.reduceEq]
      unfold okS at ho
      exact ⟨fun a => ⟨hi, a, by omega, fun b => (hE 5 a (if_pos b) (by decide)).symm, fun b => ⟨hS a (if_neg (ne_ft b)), hM a⟩⟩, fun a => (hN a).symm⟩
def cnS  : Spec where
  pre xs := ∃ (l : List TEvent) (w : TWindow) (ns : List ByteArray), xs = [.sl (TEvent.rows l), .dv (.ag w.row), .sl (rowsT ns)] ∧ (okL TEvent.ok l ∧ okL okS ns)
  post xs y := ∃ (l : List TEvent) (w : TWindow) (ns : List ByteArray), xs = [.sl (TEvent.rows l), .dv (.ag w.row), .sl (rowsT ns)] ∧ y = .i (orE (eventsF l) (orE (namesF ns) (winE w)))
  cost _ := 0
  fresh := true
theorem cnS_c  (xs : List AV) : (cnS).cost xs = 0 := nr rfl
theorem cnS_f  : (cnS).fresh = true := nr rfl
theorem cnS_q  (l : List TEvent) (w : TWindow) (ns : List ByteArray) : (cnS).pre [.sl (TEvent.rows l), .dv (.ag [.int .i64 w.from_, .int .i64 w.to_]), .sl (rowsT ns)] = (okL TEvent.ok l ∧ okL okS ns) := propext ⟨fun h => by
  have h' : ∃ (l' : List TEvent) (w' : TWindow) (ns' : List ByteArray), ([.sl (TEvent.rows l), .dv (.ag w.row), .sl (rowsT ns)] : List AV) = [.sl (TEvent.rows l'), .dv (.ag w'.row), .sl (rowsT ns')] ∧ (okL TEvent.ok l' ∧ okL okS ns') := h
  obtain ⟨l', w', ns', e, h⟩ := h'
  simp only [List.cons.injEq, AV.dv.injEq, AV.dp.injEq, AV.fv.injEq, DV.d.injEq, DV.ag.injEq, D.int.injEq, D.str.injEq, D.bool.injEq, D.sl.injEq, true_and, and_true, intsDi_inj, rowsT_inj, rowsKi_inj, TEvent.row_inj, TEvent.rows_inj, TWindow.row_inj, TWindow.rows_inj] at e
  obtain ⟨rfl, rfl, rfl⟩ := e
  exact h, fun h => ⟨l, w, ns, rfl, h⟩⟩
theorem cnS_p  (l : List TEvent) (w : TWindow) (ns : List ByteArray) : (cnS).post [.sl (TEvent.rows l), .dv (.ag [.int .i64 w.from_, .int .i64 w.to_]), .sl (rowsT ns)] = fun y => y = .i (orE (eventsF l) (orE (namesF ns) (winE w))) := funext fun y => propext ⟨fun h => by
  have h' : ∃ (l' : List TEvent) (w' : TWindow) (ns' : List ByteArray), ([.sl (TEvent.rows l), .dv (.ag w.row), .sl (rowsT ns)] : List AV) = [.sl (TEvent.rows l'), .dv (.ag w'.row), .sl (rowsT ns')] ∧ y = .i (orE (eventsF l') (orE (namesF ns') (winE w'))) := h
  obtain ⟨l', w', ns', e, h⟩ := h'
  simp only [List.cons.injEq, AV.dv.injEq, AV.dp.injEq, AV.fv.injEq, DV.d.injEq, DV.ag.injEq, D.int.injEq, D.str.injEq, D.bool.injEq, D.sl.injEq, true_and, and_true, intsDi_inj, rowsT_inj, rowsKi_inj, TEvent.row_inj, TEvent.rows_inj, TWindow.row_inj, TWindow.rows_inj] at e
  obtain ⟨rfl, rfl, rfl⟩ := e
  exact h, fun h => ⟨l, w, ns, rfl, h⟩⟩
theorem checkNamed_ctr {cx : Cx} (h : Seat cx) (hU : Utf8 cx) (hM : MaxL cx) : Ctr cx 62 cnS := by
  refine ctr_of (fn := Tryz.f62) (l := [.tmp 6]) (envL [(32, eventsS), (90, (strB keyB)), (110, winS)]) [0, 1, 2, 4, 6, 7, 9, 13, 15, 16, 17, 18, 23] [] [] (envL_cons (ECheck_ctr h hU hM) (envL_cons (IsKey_ctr h) (envL_cons (checkWindow_ctr h) (env0 h.hP)))) ?_ (by rw [h.hP]; exact Tryz.func62) rfl (by kernel_rfl) rfl ?_ ?_
  · rw [h.hP]; exact ⟨_, Tryz.func62, by kernel_rfl, by kernel_rfl⟩
  · rintro xs ⟨l, w, ns, rfl, h1⟩; exact ⟨_, l, w, ns, rfl, rfl⟩
  · rintro xs ⟨l, w, ns, rfl, h1, h2⟩
    refine ⟨by rw [Tryz.ntmps62]; simp, ?_⟩
    simp only [go_sem, h.hP, List.cons_append, List.nil_append, Meets_e, Below_e, Prod.exists, exists_eq, exists_eq_left, exists_eq_left', exists_eq_right, exists_eq_right', exists_and_left, exists_and_right, Ob.arr.injEq, AV.own.injEq, AV.fv.injEq, cnS_q, cnS_p, cnS_c, cnS_f, eventsS_q, eventsS_p, eventsS_c, eventsS_f, TWindow.row, rowsT_len, Tryz.ntmps62, Nat.reduceEqDiff, reduceCtorEq, Nat.reduceMul, Nat.reduceAdd, Nat.reduceSub, Nat.reduceDiv, Nat.reduceMod, Nat.reduceLeDiff, Nat.reduceLT, Nat.reduceBNe, Nat.reduceBEq, reduceIte, Int.reduceLE, Int.reduceLT, Int.reduceToNat, Int.reduceNeg, Int.reduceAdd, Int.reduceSub, Int.reduceMul, Int.reduceEq]
    refine ⟨h1, fun c => (orE_l c).symm, fun c => ?_⟩
    rw [orE_r c]
    refine vc_loopS (Int) (fun (i : Int) => [(17, .i i)]) [4] (fun (i : Int) => []) (fun (i : Int) => []) (fun (i : Int) => 0) (fun (i : Int) => Rounds ns.length (nameE ns) i) (fun (i : Int) => (ns.length - i).toNat) [] ?_ ?_
    · simp only [go_sem, h.hP, List.cons_append, List.nil_append, Meets_e, Below_e, Prod.exists, exists_eq, exists_eq_left, exists_eq_left', exists_eq_right, exists_eq_right', exists_and_left, exists_and_right, Ob.arr.injEq, AV.own.injEq, AV.fv.injEq, Tryz.ntmps62, Nat.reduceEqDiff, reduceCtorEq, Nat.reduceMul, Nat.reduceAdd, Nat.reduceSub, Nat.reduceDiv, Nat.reduceMod, Nat.reduceLeDiff, Nat.reduceLT, Nat.reduceBNe, Nat.reduceBEq, reduceIte, Int.reduceLE, Int.reduceLT, Int.reduceToNat, Int.reduceNeg, Int.reduceAdd, Int.reduceSub, Int.reduceMul, Int.reduceEq]
      exact Rounds.start
    · rintro i hr
      obtain ⟨hi, hS, hM2, hE, hN⟩ := hr.use (by have := h2.1; omega)
      have ho : okS (ns.getD i.toNat ⟨#[]⟩) := okL_get h2 okS_z _
      simp only [go_sem, h.hP, List.cons_append, List.nil_append, Meets_e, Below_e, Prod.exists, exists_eq, exists_eq_left, exists_eq_left', exists_eq_right, exists_eq_right', exists_and_left, exists_and_right, Ob.arr.injEq, AV.own.injEq, AV.fv.injEq, cnS_q, cnS_p, cnS_c, cnS_f, strB_q, strB_p, strB_c, strB_f, winS_q, winS_p, winS_c, winS_f, TWindow.row, rowsT_len, rowsT_get, Tryz.ntmps62, Nat.reduceEqDiff, reduceCtorEq, Nat.reduceMul, Nat.reduceAdd, Nat.reduceSub, Nat.reduceDiv, Nat.reduceMod, Nat.reduceLeDiff, Nat.reduceLT, Nat.reduceBNe, Nat.reduceBEq, reduceIte, Int.reduceLE, Int.reduceLT, Int.reduceToNat, Int.reduceNeg, Int.reduceAdd, Int.reduceSub, Int.reduceMul, Int.reduceEq]
      unfold okS at ho
      exact ⟨fun a => ⟨hi, a, by omega, fun b => ((orE_l (by rw [hE 5 a (if_pos b) (by decide)]; decide)).trans (hE 5 a (if_pos b) (by decide))).symm, fun b => ⟨hS a (if_neg (ne_ft b)), hM2 a⟩⟩, fun a => (orE_r (hN a)).symm⟩
theorem namesF_one (s : ByteArray) : namesF [s] = if keyB s = false then 5 else 0 := by
  unfold namesF
  by_cases h : keyB s = false
  · rw [if_pos h]
    exact (firstI_at (n := 1) (f := nameE [s]) (i := 0) (by decide) (by decide) (fun j hj => by omega) (by show (if keyB s = false then (5 : Int) else 0) ≠ 0; rw [if_pos h]; decide)).trans (if_pos h)
  · rw [if_neg h]
    exact firstI_no (n := 1) (f := nameE [s]) (i := 1) (fun j hj => by obtain rfl : j = 0 := by omega
                                                                       exact if_neg h) (by decide)
def nameG : Spec where
  pre xs := xs = [.st]
  post xs y := ∃ s : ByteArray, okS s ∧ y = .str s
  cost _ := 2
  fresh := false
theorem Name_ctr {cx : Cx} (h : Seat cx) : Ctr cx 19 nameG := by
  refine ctr_of (fn := Tryz.f19) (l := [.tmp 2]) (envL [(26, flipS), (61, oneS)]) [0, 2, 4] [] [] (envL_cons (flip_ctr cx h.hP h.hS) (envL_cons (one_ctr h) (env0 h.hP))) ?_ (by rw [h.hP]; exact Tryz.func19) rfl (by kernel_rfl) rfl ?_ ?_
  · rw [h.hP]; exact ⟨_, Tryz.func19, by kernel_rfl, by kernel_rfl⟩
  · rintro xs rfl; exact ⟨_, ⟨#[]⟩, okS_z, rfl⟩
  · rintro xs rfl
    refine ⟨by rw [Tryz.ntmps19]; simp, ?_⟩
    simp only [go_sem, h.hP, List.cons_append, List.nil_append, Meets_e, Below_e, Prod.exists, exists_eq, exists_eq_left, exists_eq_left', exists_eq_right, exists_eq_right', exists_and_left, exists_and_right, Ob.arr.injEq, AV.own.injEq, AV.fv.injEq, nameG, flipS_q, flipS_p, flipS_c, flipS_f, oneS_q, oneS_p, oneS_c, oneS_f, strs1, strsc, Tryz.ntmps19, Nat.reduceEqDiff, reduceCtorEq, Nat.reduceMul, Nat.reduceAdd, Nat.reduceSub, Nat.reduceDiv, Nat.reduceMod, Nat.reduceLeDiff, Nat.reduceLT, Nat.reduceBNe, Nat.reduceBEq, reduceIte, Int.reduceLE, Int.reduceLT, Int.reduceToNat, Int.reduceNeg, Int.reduceAdd, Int.reduceSub, Int.reduceMul, Int.reduceEq]
    exact fun f => ⟨fun _ s hs => okS_of (isOf_ok hs (by decide +kernel)), fun _ s hs => okS_of (isOf_ok hs (by decide +kernel))⟩
end Go.Avc

/- The generator of events: its contract; the predicate by which some are struck out. No condition. -/
set_option linter.unusedVariables false
set_option linter.unusedSimpArgs false
set_option maxRecDepth 100000
namespace Go.Avc
open Go Go.Proofs

theorem enc_size (n : Int) : (Utf8.encode n).size ≤ 4 := by
  unfold Utf8.encode
  dsimp only
  (repeat' split) <;> exact Nat.le_of_ble_eq_true rfl
theorem rsetE (l : List TEvent) (i : Nat) (x : TEvent) : (TEvent.rows l).set i [.str x.id, .str x.name, .int .i64 x.at_, .int .i64 x.who.kind, .str x.who.text, .sl (TField.rows x.fields)] = TEvent.rows (l.set i x) := TEvent.rset l i x
theorem eok_set {l : List TEvent} (h : ∀ c ∈ l, c.ok) {n : Nat} {x : TEvent} (hx : x.ok) : ∀ c ∈ l.set n x, c.ok := fun c hc => by
  rcases List.mem_or_eq_of_mem_set hc with hc | rfl
  · exact h c hc
  · exact hx
theorem eok_get {l : List TEvent} (h : ∀ c ∈ l, c.ok) (n : Nat) : (l.getD n TEvent.z).ok := by
  rw [List.getD_eq_getElem?_getD]
  cases e : l[n]? with
  | none => exact TEvent.z_ok
  | some x => exact h x (List.mem_of_getElem? e)
def eidS : Spec where
  pre xs := ∃ i : Int, xs = [.i i] ∧ 0 ≤ i ∧ i ≤ 1000
  post xs y := ∃ s : ByteArray, okS s ∧ y = .str s
  cost _ := 0
  fresh := true
theorem eventId_ctr {cx : Cx} (h : Seat cx) : Ctr cx 73 eidS := by
  refine ctr_of (fn := Tryz.f73) (l := [.tmp 2]) (envL []) [0, 2] [] [] (env0 h.hP) ?_ (by rw [h.hP]; exact Tryz.func73) rfl (by kernel_rfl) rfl ?_ ?_
  · rw [h.hP]; exact ⟨_, Tryz.func73, by kernel_rfl, by kernel_rfl⟩
  · rintro xs ⟨i, rfl, h1⟩; exact ⟨_, ⟨#[]⟩, okS_z, rfl⟩
  · rintro xs ⟨i, rfl, h1, h2⟩
    refine ⟨by rw [Tryz.ntmps73]; simp, ?_⟩
    simp only [go_sem, h.hP, List.cons_append, List.nil_append, Meets_e, Below_e, Prod.exists, exists_eq, exists_eq_left, exists_eq_left', exists_eq_right, exists_eq_right', exists_and_left, exists_and_right, Ob.arr.injEq, AV.own.injEq, AV.fv.injEq, eidS, Tryz.ntmps73, Nat.reduceEqDiff, reduceCtorEq, Nat.reduceMul, Nat.reduceAdd, Nat.reduceSub, Nat.reduceDiv, Nat.reduceMod, Nat.reduceLeDiff, Nat.reduceLT, Nat.reduceBNe, Nat.reduceBEq, reduceIte, Int.reduceLE, Int.reduceLT, Int.reduceToNat, Int.reduceNeg, Int.reduceAdd, Int.reduceSub, Int.reduceMul, Int.reduceEq]
    have e1 := enc_size (IntKind.i32.wrap (IntKind.i64.wrap (97 + (IntKind.i64.wrap (i.tdiv 26)).tmod 26)))
    have e2 := enc_size (IntKind.i32.wrap (IntKind.i64.wrap (97 + i.tmod 26)))
    generalize Utf8.encode (IntKind.i32.wrap (IntKind.i64.wrap (97 + (IntKind.i64.wrap (i.tdiv 26)).tmod 26))) = a at e1
    generalize Utf8.encode (IntKind.i32.wrap (IntKind.i64.wrap (97 + i.tmod 26))) = b at e2
    refine ⟨by omega, by omega, okS_of ?_⟩
    rw [ByteArray.size_append, ByteArray.size_append]
    have : (⟨#[101]⟩ : ByteArray).size = 1 := rfl
    omega
def eventsG : Spec where
  pre xs := ∃ m : Int, xs = [.st, .i m] ∧ m ≤ 20
  post xs y := ∃ (m : Int) (l : List TEvent), xs = [.st, .i m] ∧ l.length ≤ 20 ∧ (∀ x ∈ l, x.ok) ∧ y = .sl (TEvent.rows l)
  cost _ := 2000
  fresh := false
set_option maxHeartbeats 8000000 in
theorem Events_own {cx : Cx} (h : Seat cx) (hN : cx.glob 2 = some namesD) (hI : cx.glob 0 = some poolD) (hE : cx.glob 1 = some evNamesD) : CtrO cx 31 eventsG 52 6 := by
  refine ctrO_of (fn := Tryz.f31) (t := 4) (envL [(12, pickS), (26, flipS), (72, eventG), (73, eidS)]) [0, 1, 4, 5, 6, 7, 11, 12, 13, 34] [] [(10, [0, 1, 2, 5], [3, 4, 6, 7, 8, 9, 10, 11])] (envL_cons (pick_ctr cx h.hP h.hS) (envL_cons (flip_ctr cx h.hP h.hS) (envL_cons (Event_ctr h hN hI hE) (envL_cons (eventId_ctr h) (env0 h.hP))))) ?_ (by rw [h.hP]; exact Tryz.func31) rfl (by kernel_rfl) rfl ?_ (by decide)
  · rw [h.hP]; exact ⟨_, Tryz.func31, by kernel_rfl, by kernel_rfl⟩
  · rintro xs ⟨m, rfl, h1⟩
    refine ⟨by rw [Tryz.ntmps31]; simp, ?_⟩
    simp only [go_sem, h.hP, List.cons_append, List.nil_append, Meets_e, Below_e, Prod.exists, exists_eq, exists_eq_left, exists_eq_left', exists_eq_right, exists_eq_right', exists_and_left, exists_and_right, Ob.arr.injEq, AV.own.injEq, AV.fv.injEq, eventsG, pickS_q, pickS_p, pickS_c, pickS_f, ints1, intsc, Tryz.ntmps31, Nat.reduceEqDiff, reduceCtorEq, Nat.reduceMul, Nat.reduceAdd, Nat.reduceSub, Nat.reduceDiv, Nat.reduceMod, Nat.reduceLeDiff, Nat.reduceLT, Nat.reduceBNe, Nat.reduceBEq, reduceIte, Int.reduceLE, Int.reduceLT, Int.reduceToNat, Int.reduceNeg, Int.reduceAdd, Int.reduceSub, Int.reduceMul, Int.reduceEq]
    intro a0 ha0
    have ha : 0 ≤ a0 ∧ a0 ≤ 1000 := by
      simp only [isIn, List.mem_cons, List.not_mem_nil, or_false] at ha0
      omega
    refine vc_loopS (Int × Int × List TEvent) (fun (x : Int × Int × List TEvent) => match x with | (i, n, l) => [(12, .i i), (6, .i n), (5, .own 5)]) [] (fun (x : Int × Int × List TEvent) => match x with | (i, n, l) => []) (fun (x : Int × Int × List TEvent) => match x with | (i, n, l) => [(5, .arr 52 6 (TEvent.rows l))]) (fun (x : Int × Int × List TEvent) => match x with | (i, n, l) => 81 * i.toNat + 1) (fun (x : Int × Int × List TEvent) => match x with | (i, n, l) => 0 ≤ i ∧ i ≤ max 0 m ∧ (l.length : Int) = i ∧ 0 ≤ n ∧ n ≤ 1000 + 1440 * i ∧ ∀ c ∈ l, c.ok) (fun (x : Int × Int × List TEvent) => match x with | (i, n, l) => (m - i).toNat) [(5, 52, 6)] ?_ ?_
    · simp only [go_sem, h.hP, List.cons_append, List.nil_append, Meets_e, Below_e, Prod.exists, exists_eq, exists_eq_left, exists_eq_left', exists_eq_right, exists_eq_right', exists_and_left, exists_and_right, Ob.arr.injEq, AV.own.injEq, AV.fv.injEq, TEvent.nil2, Tryz.ntmps31, Nat.reduceEqDiff, reduceCtorEq, Nat.reduceMul, Nat.reduceAdd, Nat.reduceSub, Nat.reduceDiv, Nat.reduceMod, Nat.reduceLeDiff, Nat.reduceLT, Nat.reduceBNe, Nat.reduceBEq, reduceIte, Int.reduceLE, Int.reduceLT, Int.reduceToNat, Int.reduceNeg, Int.reduceAdd, Int.reduceSub, Int.reduceMul, Int.reduceEq]
      exact ⟨by omega, rfl, ha.1, ha.2⟩
    · rintro ⟨i, n, l⟩ ⟨j1, j2, j3, j4, j5, j6⟩
      have hw : IntKind.i64.wrap (i + 1) = i + 1 := i64w (by omega) (by omega)
      simp only [go_sem, h.hP, List.cons_append, List.nil_append, Meets_e, Below_e, Prod.exists, exists_eq, exists_eq_left, exists_eq_left', exists_eq_right, exists_eq_right', exists_and_left, exists_and_right, Ob.arr.injEq, AV.own.injEq, AV.fv.injEq, eventsG, eventG, eidS, pickS_q, pickS_p, pickS_c, pickS_f, flipS_q, flipS_p, flipS_c, flipS_f, ints1, intsc, TEvent.row, TEvent.fold1, TEvent.app', TEvent.rows_inj, TEvent.zlT, TEvent.len, TEvent.get, rsetE, List.length_append, List.length_singleton, List.length_set, List.drop_succ_cons, List.drop_zero, List.drop_nil, hw, Tryz.ntmps31, Nat.reduceEqDiff, reduceCtorEq, Nat.reduceMul, Nat.reduceAdd, Nat.reduceSub, Nat.reduceDiv, Nat.reduceMod, Nat.reduceLeDiff, Nat.reduceLT, Nat.reduceBNe, Nat.reduceBEq, reduceIte, Int.reduceLE, Int.reduceLT, Int.reduceToNat, Int.reduceNeg, Int.reduceAdd, Int.reduceSub, Int.reduceMul, Int.reduceEq]
      have b1 : 81 * i.toNat ≤ 1918 := by omega
      have b2 : 81 * i.toNat ≤ 1998 := by omega
      have b3 : 81 * i.toNat ≤ 1999 := by omega
      have b4 : (l.length + 1) * 88 ≤ 140737488355328 := by omega
      have b5 : l.length ≤ 9223372036854775806 := by omega
      have b6 : (l.length : Int) ≤ 20 := by omega
      clear hw
      simp only [b1, b2, b3, b4, b5, true_and]
      refine ⟨fun c a ha1 => ⟨j1, by omega, fun s hs => ⟨hs, ?_, fun e he => ?_⟩⟩, fun c => ?_⟩
      · have ha2 : 0 ≤ a ∧ a ≤ 1440 := by
          simp only [isIn, List.mem_cons, List.not_mem_nil, or_false] at ha1
          omega
        rw [i64w (by omega) (by omega)]
        exact ⟨by omega, by omega⟩
      · have ha2 : 0 ≤ a ∧ a ≤ 1440 := by
          simp only [isIn, List.mem_cons, List.not_mem_nil, or_false] at ha1
          omega
        rw [i64w (by omega) (by omega)]
        exact ⟨by omega, by omega, by omega, by omega, by omega, by omega, okL_app j6 he, by omega⟩
      · refine ⟨fun d f => ⟨fun _ => ⟨by omega, by omega, by omega, by omega, by omega, by omega, by omega, by omega, _, ?_, eok_set (eok_set j6 (eok_get j6 1)) (eok_get j6 0), rfl⟩, fun _ => ⟨l, by omega, j6, rfl⟩⟩, fun _ => ⟨l, by omega, j6, rfl⟩⟩
        rw [List.length_set, List.length_set]
        omega
def anyB : Spec where
  pre xs := ∃ e : TEvent, xs = [.dv (.ag e.row)] ∧ e.ok
  post xs y := ∃ b : Bool, y = .b b
  cost _ := 0
  fresh := true
theorem Right1_ctr {cx : Cx} (h : Seat cx) (hU : Utf8 cx) (hM : MaxL cx) : Ctr cx 105 anyB := by
  refine ctr_of (fn := Tryz.f105) (l := [.tmp 2]) (envL [(33, eventsS)]) [0, 1, 2] [] [] (envL_cons (EventsFault_ctr h hU hM) (env0 h.hP)) ?_ (by rw [h.hP]; exact Tryz.func105) rfl (by kernel_rfl) rfl ?_ ?_
  · rw [h.hP]; exact ⟨_, Tryz.func105, by kernel_rfl, by kernel_rfl⟩
  · rintro xs ⟨e, rfl, h1⟩; exact ⟨_, true, rfl⟩
  · rintro xs ⟨e, rfl, h1⟩
    refine ⟨by rw [Tryz.ntmps105]; simp, ?_⟩
    simp only [go_sem, h.hP, List.cons_append, List.nil_append, Meets_e, Below_e, Prod.exists, exists_eq, exists_eq_left, exists_eq_left', exists_eq_right, exists_eq_right', exists_and_left, exists_and_right, Ob.arr.injEq, AV.own.injEq, AV.fv.injEq, anyB, eventsS_q, eventsS_p, eventsS_c, eventsS_f, TEvent.row, TEvent.fold1, TEvent.rows_inj, Tryz.ntmps105, Nat.reduceEqDiff, reduceCtorEq, Nat.reduceMul, Nat.reduceAdd, Nat.reduceSub, Nat.reduceDiv, Nat.reduceMod, Nat.reduceLeDiff, Nat.reduceLT, Nat.reduceBNe, Nat.reduceBEq, reduceIte, Int.reduceLE, Int.reduceLT, Int.reduceToNat, Int.reduceNeg, Int.reduceAdd, Int.reduceSub, Int.reduceMul, Int.reduceEq]
    exact okL_one h1
end Go.Avc

/- How many events local days have: what the program and the reference compute. No condition. -/
set_option linter.unusedVariables false
set_option linter.unusedSimpArgs false
set_option maxRecDepth 100000
namespace Go.Avc
open Go Go.Proofs

def serSt (name : ByteArray) (z : TZone) (f t : Int) (out : List Int) (e : TEvent) : List Int :=
  if e.name = name ∧ f ≤ dayF z.shifts e.at_ ∧ dayF z.shifts e.at_ ≤ t then out.set (dayF z.shifts e.at_ - f).toNat (out.getD (dayF z.shifts e.at_ - f).toNat 0 + 1) else out
def serR (l : List TEvent) (name : ByteArray) (z : TZone) (f t : Int) : List Int := l.foldl (serSt name z f t) (List.replicate (t - f + 1).toNat 0)
def serE (l : List TEvent) (name : ByteArray) (z : TZone) (f t : Int) : Int := orE (eventsF l) (orE (namesF [name]) (orE (zoneF z) (if f < 0 ∨ f > t ∨ t > 3000 then 1 else if t - f ≥ 800 then 2 else 0)))
def serV (l : List TEvent) (name : ByteArray) (z : TZone) (f t : Int) : List Int := if serE l name z f t = 0 then serR l name z f t else []
def serS  : Spec where
  pre xs := ∃ (l : List TEvent) (n : ByteArray) (z : TZone) (f : Int) (t : Int), xs = [.sl (TEvent.rows l), .str n, .dv (.ag z.row), .i f, .i t] ∧ (okL TEvent.ok l ∧ okS n ∧ z.ok ∧ okI f ∧ okI t)
  post xs y := ∃ (l : List TEvent) (n : ByteArray) (z : TZone) (f : Int) (t : Int), xs = [.sl (TEvent.rows l), .str n, .dv (.ag z.row), .i f, .i t] ∧ y = .tcons (.sl (intsD (serV l n z f t))) (.tcons (.i (serE l n z f t)) .tnil)
  cost _ := 0
  fresh := true
theorem serS_c  (xs : List AV) : (serS).cost xs = 0 := nr rfl
theorem serS_f  : (serS).fresh = true := nr rfl
theorem serS_q  (l : List TEvent) (n : ByteArray) (z : TZone) (f : Int) (t : Int) : (serS).pre [.sl (TEvent.rows l), .str n, .dv (.ag [.str z.name, .sl (TShift.rows z.shifts)]), .i f, .i t] = (okL TEvent.ok l ∧ okS n ∧ z.ok ∧ okI f ∧ okI t) := propext ⟨fun h => by
  have h' : ∃ (l' : List TEvent) (n' : ByteArray) (z' : TZone) (f' : Int) (t' : Int), ([.sl (TEvent.rows l), .str n, .dv (.ag z.row), .i f, .i t] : List AV) = [.sl (TEvent.rows l'), .str n', .dv (.ag z'.row), .i f', .i t'] ∧ (okL TEvent.ok l' ∧ okS n' ∧ z'.ok ∧ okI f' ∧ okI t') := h
  obtain ⟨l', n', z', f', t', e, h⟩ := h'
  simp only [List.cons.injEq, AV.dv.injEq, AV.dp.injEq, AV.fv.injEq, DV.d.injEq, DV.ag.injEq, D.int.injEq, D.str.injEq, D.bool.injEq, D.sl.injEq, true_and, and_true, intsDi_inj, rowsT_inj, rowsKi_inj, TEvent.row_inj, TEvent.rows_inj, TZone.row_inj, TZone.rows_inj] at e
  obtain ⟨rfl, rfl, rfl, rfl, rfl⟩ := e
  exact h, fun h => ⟨l, n, z, f, t, rfl, h⟩⟩
theorem serS_p  (l : List TEvent) (n : ByteArray) (z : TZone) (f : Int) (t : Int) : (serS).post [.sl (TEvent.rows l), .str n, .dv (.ag [.str z.name, .sl (TShift.rows z.shifts)]), .i f, .i t] = fun y => y = .tcons (.sl (intsD (serV l n z f t))) (.tcons (.i (serE l n z f t)) .tnil) := funext fun y => propext ⟨fun h => by
  have h' : ∃ (l' : List TEvent) (n' : ByteArray) (z' : TZone) (f' : Int) (t' : Int), ([.sl (TEvent.rows l), .str n, .dv (.ag z.row), .i f, .i t] : List AV) = [.sl (TEvent.rows l'), .str n', .dv (.ag z'.row), .i f', .i t'] ∧ y = .tcons (.sl (intsD (serV l' n' z' f' t'))) (.tcons (.i (serE l' n' z' f' t')) .tnil) := h
  obtain ⟨l', n', z', f', t', e, h⟩ := h'
  simp only [List.cons.injEq, AV.dv.injEq, AV.dp.injEq, AV.fv.injEq, DV.d.injEq, DV.ag.injEq, D.int.injEq, D.str.injEq, D.bool.injEq, D.sl.injEq, true_and, and_true, intsDi_inj, rowsT_inj, rowsKi_inj, TEvent.row_inj, TEvent.rows_inj, TZone.row_inj, TZone.rows_inj] at e
  obtain ⟨rfl, rfl, rfl, rfl, rfl⟩ := e
  exact h, fun h => ⟨l, n, z, f, t, rfl, h⟩⟩
def serRS  : Spec where
  pre xs := ∃ (l : List TEvent) (n : ByteArray) (z : TZone) (f : Int) (t : Int), xs = [.sl (TEvent.rows l), .str n, .dv (.ag z.row), .i f, .i t] ∧ (okL TEvent.ok l ∧ eventsF l = 0 ∧ zoneF z = 0 ∧ z.ok ∧ 0 ≤ f ∧ f ≤ t ∧ t ≤ 3000 ∧ t - f < 800)
  post xs y := ∃ (l : List TEvent) (n : ByteArray) (z : TZone) (f : Int) (t : Int), xs = [.sl (TEvent.rows l), .str n, .dv (.ag z.row), .i f, .i t] ∧ y = .sl (intsD (serR l n z f t))
  cost _ := 0
  fresh := true
theorem serRS_c  (xs : List AV) : (serRS).cost xs = 0 := nr rfl
theorem serRS_f  : (serRS).fresh = true := nr rfl
theorem serRS_q  (l : List TEvent) (n : ByteArray) (z : TZone) (f : Int) (t : Int) : (serRS).pre [.sl (TEvent.rows l), .str n, .dv (.ag [.str z.name, .sl (TShift.rows z.shifts)]), .i f, .i t] = (okL TEvent.ok l ∧ eventsF l = 0 ∧ zoneF z = 0 ∧ z.ok ∧ 0 ≤ f ∧ f ≤ t ∧ t ≤ 3000 ∧ t - f < 800) := propext ⟨fun h => by
  have h' : ∃ (l' : List TEvent) (n' : ByteArray) (z' : TZone) (f' : Int) (t' : Int), ([.sl (TEvent.rows l), .str n, .dv (.ag z.row), .i f, .i t] : List AV) = [.sl (TEvent.rows l'), .str n', .dv (.ag z'.row), .i f', .i t'] ∧ (okL TEvent.ok l' ∧ eventsF l' = 0 ∧ zoneF z' = 0 ∧ z'.ok ∧ 0 ≤ f' ∧ f' ≤ t' ∧ t' ≤ 3000 ∧ t' - f' < 800) := h
  obtain ⟨l', n', z', f', t', e, h⟩ := h'
  simp only [List.cons.injEq, AV.dv.injEq, AV.dp.injEq, AV.fv.injEq, DV.d.injEq, DV.ag.injEq, D.int.injEq, D.str.injEq, D.bool.injEq, D.sl.injEq, true_and, and_true, intsDi_inj, rowsT_inj, rowsKi_inj, TEvent.row_inj, TEvent.rows_inj, TZone.row_inj, TZone.rows_inj] at e
  obtain ⟨rfl, rfl, rfl, rfl, rfl⟩ := e
  exact h, fun h => ⟨l, n, z, f, t, rfl, h⟩⟩
theorem serRS_p  (l : List TEvent) (n : ByteArray) (z : TZone) (f : Int) (t : Int) : (serRS).post [.sl (TEvent.rows l), .str n, .dv (.ag [.str z.name, .sl (TShift.rows z.shifts)]), .i f, .i t] = fun y => y = .sl (intsD (serR l n z f t)) := funext fun y => propext ⟨fun h => by
  have h' : ∃ (l' : List TEvent) (n' : ByteArray) (z' : TZone) (f' : Int) (t' : Int), ([.sl (TEvent.rows l), .str n, .dv (.ag z.row), .i f, .i t] : List AV) = [.sl (TEvent.rows l'), .str n', .dv (.ag z'.row), .i f', .i t'] ∧ y = .sl (intsD (serR l' n' z' f' t')) := h
  obtain ⟨l', n', z', f', t', e, h⟩ := h'
  simp only [List.cons.injEq, AV.dv.injEq, AV.dp.injEq, AV.fv.injEq, DV.d.injEq, DV.ag.injEq, D.int.injEq, D.str.injEq, D.bool.injEq, D.sl.injEq, true_and, and_true, intsDi_inj, rowsT_inj, rowsKi_inj, TEvent.row_inj, TEvent.rows_inj, TZone.row_inj, TZone.rows_inj] at e
  obtain ⟨rfl, rfl, rfl, rfl, rfl⟩ := e
  exact h, fun h => ⟨l, n, z, f, t, rfl, h⟩⟩
theorem serSt_len (n : ByteArray) (z : TZone) (f t : Int) (out : List Int) (e : TEvent) : (serSt n z f t out e).length = out.length := by
  unfold serSt
  split
  · rw [List.length_set]
  · rfl
theorem ser_step (l : List TEvent) (n : ByteArray) (z : TZone) (f t : Int) (a : List Int) {i : Int} (h0 : 0 ≤ i) (hi : i < l.length) : (l.take (i + 1).toNat).foldl (serSt n z f t) a = serSt n z f t ((l.take i.toNat).foldl (serSt n z f t) a) (l.getD i.toNat TEvent.z) := by
  have hi' : i.toNat < l.length := by omega
  rw [show (i + 1).toNat = i.toNat + 1 by omega, List.take_add_one, List.getElem?_eq_getElem hi', List.getD_eq_getElem?_getD, List.getElem?_eq_getElem hi', List.foldl_append]
  rfl
theorem intsD_flatT (l : List Int) : ((intsD l).all fun x => x.all D.flat) = true := by
  rw [List.all_eq_true]
  intro y hy
  obtain ⟨x, _, rfl⟩ := List.mem_map.1 hy
  rfl
theorem intsD_setT (l : List Int) (k : Nat) (v : Int) : (intsD l).set k [.int .i64 v] = intsD (l.set k v) := by
  show (l.map fun x => [D.int .i64 x]).set k [.int .i64 v] = (l.set k v).map fun x => [D.int .i64 x]
  rw [List.map_set]
theorem intsD_rep (n : Nat) : List.replicate n [D.int .i64 0] = intsD (List.replicate n 0) := by
  show _ = (List.replicate n 0).map fun x => [D.int .i64 x]
  rw [List.map_replicate]
theorem ser_inv (n : ByteArray) (z : TZone) (f t : Int) : ∀ (L : List TEvent) (a : List Int) (B : Int), (∀ k, 0 ≤ a.getD k 0 ∧ a.getD k 0 ≤ B) → (L.foldl (serSt n z f t) a).length = a.length ∧ ∀ k, 0 ≤ (L.foldl (serSt n z f t) a).getD k 0 ∧ (L.foldl (serSt n z f t) a).getD k 0 ≤ B + L.length
  | [], a, B, h => ⟨rfl, fun k => by have := h k; simp only [List.foldl_nil, List.length_nil]; omega⟩
  | e :: r, a, B, h => by
    have h1 : ∀ k, 0 ≤ (serSt n z f t a e).getD k 0 ∧ (serSt n z f t a e).getD k 0 ≤ B + 1 := fun k => by
      unfold serSt
      have hk := h k
      split
      · have hd := h (dayF z.shifts e.at_ - f).toNat
        rw [List.getD_eq_getElem?_getD, List.getElem?_set]
        split
        · split
          · show 0 ≤ a.getD (dayF z.shifts e.at_ - f).toNat 0 + 1 ∧ a.getD (dayF z.shifts e.at_ - f).toNat 0 + 1 ≤ B + 1
            omega
          · show (0 : Int) ≤ 0 ∧ (0 : Int) ≤ B + 1
            omega
        · rw [← List.getD_eq_getElem?_getD]
          omega
      · omega
    obtain ⟨h2, h3⟩ := ser_inv n z f t r (serSt n z f t a e) (B + 1) h1
    refine ⟨h2.trans (serSt_len ..), fun k => ?_⟩
    have := h3 k
    rw [List.length_cons]
    show 0 ≤ (r.foldl (serSt n z f t) (serSt n z f t a e)).getD k 0 ∧ (r.foldl (serSt n z f t) (serSt n z f t a e)).getD k 0 ≤ _
    omega
theorem rep_get (n k : Nat) : 0 ≤ (List.replicate n (0 : Int)).getD k 0 ∧ (List.replicate n (0 : Int)).getD k 0 ≤ 0 := by
  rw [List.getD_eq_getElem?_getD, List.getElem?_replicate]
  split
  · exact ⟨Int.le_refl _, Int.le_refl _⟩
  · exact ⟨Int.le_refl _, Int.le_refl _⟩
theorem ser_round {l : List TEvent} {n : ByteArray} {z : TZone} {f t : Int} {i : Int} {out : List Int} (h0 : 0 ≤ i) (h1 : i ≤ l.length) (hft : f ≤ t) (ho : out = (l.take i.toNat).foldl (serSt n z f t) (List.replicate (t - f + 1).toNat 0)) : out.length = (t - f + 1).toNat ∧ ∀ k, 0 ≤ out.getD k 0 ∧ out.getD k 0 ≤ i := by
  obtain ⟨a, b⟩ := ser_inv n z f t (l.take i.toNat) (List.replicate (t - f + 1).toNat 0) 0 (rep_get _)
  rw [ho]
  refine ⟨by rw [a, List.length_replicate], fun k => ?_⟩
  have := b k
  rw [List.length_take] at this
  omega
set_option maxHeartbeats 8000000 in
theorem SeriesOf_ctr {cx : Cx} (h : Seat cx) : Ctr cx 30 serRS := by
  refine ctr_of (fn := Tryz.f30) (l := [.tmp 10]) (envL [(71, dayS), (57, inS)]) [0, 1, 2, 3, 4, 7, 10, 11, 13, 14, 20, 21, 22, 23, 39] [] [] (envL_cons (DayOf_ctr h) (envL_cons (in_ctr h) (env0 h.hP))) ?_ (by rw [h.hP]; exact Tryz.func30) rfl (by kernel_rfl) rfl ?_ ?_
  · rw [h.hP]; exact ⟨_, Tryz.func30, by kernel_rfl, by kernel_rfl⟩
  · rintro xs ⟨l, n, z, f, t, rfl, h1⟩; exact ⟨_, l, n, z, f, t, rfl, rfl⟩
  · rintro xs ⟨l, n, z, f, t, rfl, h1, c, hz, hzo, f0, ft, t3, t8⟩
    have hl := (ev_right c).1
    have hat : ∀ i, i < l.length → 0 ≤ (l.getD i TEvent.z).at_ ∧ (l.getD i TEvent.z).at_ ≤ 4321439 := fun i hi => evF_at ((ev_right c).2.1 i hi)
    have hO := okZ hz
    have hw0 : IntKind.i64.wrap (t - f) = t - f := i64w (by omega) (by omega)
    have hw1 : IntKind.i64.wrap (t - f + 1) = t - f + 1 := i64w (by omega) (by omega)
    refine ⟨by rw [Tryz.ntmps30]; simp, ?_⟩
    simp only [go_sem, h.hP, List.cons_append, List.nil_append, Meets_e, Below_e, Prod.exists, exists_eq, exists_eq_left, exists_eq_left', exists_eq_right, exists_eq_right', exists_and_left, exists_and_right, Ob.arr.injEq, AV.own.injEq, AV.fv.injEq, serRS_q, serRS_p, serRS_c, serRS_f, TEvent.len, TZone.row, hw0, hw1, Tryz.ntmps30, Nat.reduceEqDiff, reduceCtorEq, Nat.reduceMul, Nat.reduceAdd, Nat.reduceSub, Nat.reduceDiv, Nat.reduceMod, Nat.reduceLeDiff, Nat.reduceLT, Nat.reduceBNe, Nat.reduceBEq, reduceIte, Int.reduceLE, Int.reduceLT, Int.reduceToNat, Int.reduceNeg, Int.reduceAdd, Int.reduceSub, Int.reduceMul, Int.reduceEq]
    refine ⟨by omega, by omega, by omega, ?_⟩
    refine vc_loopS (Int × List Int) (fun (x : Int × List Int) => match x with | (i, out) => [(22, .i i)]) [7] (fun (x : Int × List Int) => match x with | (i, out) => []) (fun (x : Int × List Int) => match x with | (i, out) => [(19, .arr 3 1 (intsD out))]) (fun (x : Int × List Int) => match x with | (i, out) => 0) (fun (x : Int × List Int) => match x with | (i, out) => 0 ≤ i ∧ i ≤ l.length ∧ out = (l.take i.toNat).foldl (serSt n z f t) (List.replicate (t - f + 1).toNat 0)) (fun (x : Int × List Int) => match x with | (i, out) => (l.length - i).toNat) [] ?_ ?_
    · simp only [go_sem, h.hP, List.cons_append, List.nil_append, Meets_e, Below_e, Prod.exists, exists_eq, exists_eq_left, exists_eq_left', exists_eq_right, exists_eq_right', exists_and_left, exists_and_right, Ob.arr.injEq, AV.own.injEq, AV.fv.injEq, Tryz.ntmps30, Nat.reduceEqDiff, reduceCtorEq, Nat.reduceMul, Nat.reduceAdd, Nat.reduceSub, Nat.reduceDiv, Nat.reduceMod, Nat.reduceLeDiff, Nat.reduceLT, Nat.reduceBNe, Nat.reduceBEq, reduceIte, Int.reduceLE, Int.reduceLT, Int.reduceToNat, Int.reduceNeg, Int.reduceAdd, Int.reduceSub, Int.reduceMul, Int.reduceEq]
      exact ⟨_, intsD_rep _, by omega, rfl⟩
    · rintro ⟨i, out⟩ ⟨i0, i1, ho⟩
      obtain ⟨hlo, hva⟩ := ser_round i0 i1 ft ho
      simp only [go_sem, h.hP, List.cons_append, List.nil_append, Meets_e, Below_e, Prod.exists, exists_eq, exists_eq_left, exists_eq_left', exists_eq_right, exists_eq_right', exists_and_left, exists_and_right, Ob.arr.injEq, AV.own.injEq, AV.fv.injEq, serRS_q, serRS_p, serRS_c, serRS_f, dayS_q, dayS_p, dayS_c, dayS_f, inS_q, inS_p, inS_c, inS_f, TEvent.row, TEvent.len, TEvent.get, TZone.row, intsD_len, intsD_get, intsDi_inj, intsD_setT, intsD_flatT, Tryz.ntmps30, Nat.reduceEqDiff, reduceCtorEq, Nat.reduceMul, Nat.reduceAdd, Nat.reduceSub, Nat.reduceDiv, Nat.reduceMod, Nat.reduceLeDiff, Nat.reduceLT, Nat.reduceBNe, Nat.reduceBEq, reduceIte, Int.reduceLE, Int.reduceLT, Int.reduceToNat, Int.reduceNeg, Int.reduceAdd, Int.reduceSub, Int.reduceMul, Int.reduceEq]
      refine ⟨fun q => ?_, fun q => ?_⟩
      · have hw : IntKind.i64.wrap (i + 1) = i + 1 := i64w (by omega) (by omega)
        have hi := hat i.toNat (by omega)
        have hst := ser_step l n z f t (List.replicate (t - f + 1).toNat 0) i0 q
        rw [← ho] at hst
        rw [hw, hst]
        unfold serSt
        generalize (l.getD i.toNat TEvent.z) = e at hi
        refine ⟨i0, q, hO, hi.1, by omega, fun y => ⟨fun x => ?_, fun x => ?_⟩, fun y => ?_⟩
        · have hx := inB_iff.1 x
          have hv := hva (dayF z.shifts e.at_ - f).toNat
          rw [i64w (n := dayF z.shifts e.at_ - f) (by omega) (by omega), i64w (n := out.getD (dayF z.shifts e.at_ - f).toNat 0 + 1) (by omega) (by omega), if_pos ⟨y, hx⟩]
          exact ⟨by omega, by omega, by omega, by omega, by omega, by omega, by omega, by omega, rfl, by omega⟩
        · rw [if_neg fun w => by rw [inB_iff.2 w.2] at x; cases x]
          exact ⟨by omega, by omega, rfl, by omega⟩
        · rw [if_neg fun w => y w.1]
          exact ⟨by omega, by omega, rfl, by omega⟩
      · have : i.toNat = l.length := by omega
        rw [ho, this, List.take_of_length_le (Nat.le_refl _)]
        rfl
theorem orE_two {a b c : Int} (h : ¬ orE a (orE b 0) = 0) : orE a (orE b c) = orE a (orE b 0) := by
  unfold orE at *
  split
  · rfl
  · rename_i ha
    rw [if_neg ha] at h
    split
    · rfl
    · rename_i hb
      rw [if_neg hb] at h
      exact absurd rfl h
theorem orE_zero2 {a b : Int} (h : orE a (orE b 0) = 0) : a = 0 ∧ b = 0 := by
  unfold orE at h
  split at h
  · rename_i ha; exact absurd h ha
  · rename_i ha
    split at h
    · rename_i hb; exact absurd h hb
    · rename_i hb; exact ⟨Decidable.not_not.1 ha, Decidable.not_not.1 hb⟩
theorem namesF_1 (n : ByteArray) (h : keyB n = true) : namesF [n] = 0 := (namesF_one n).trans (if_neg (ne_ft h))
set_option maxHeartbeats 8000000 in
theorem Series_ctr {cx : Cx} (h : Seat cx) (hU : Utf8 cx) (hM : MaxL cx) : Ctr cx 27 serS := by
  refine ctr_of (fn := Tryz.f27) (l := [.tmp 10, .tmp 11]) (envL [(62, cnS), (69, zoneS), (70, dayS), (56, inS)]) [0, 1, 2, 3, 4, 7, 10, 11, 12, 13, 14, 16, 17, 24, 29, 31, 43, 54, 55, 56, 57, 73] [] [] (envL_cons (checkNamed_ctr h hU hM) (envL_cons (CheckZone_ctr h) (envL_cons (DayAt_ctr h) (envL_cons (ewithin_ctr h) (env0 h.hP))))) ?_ (by rw [h.hP]; exact Tryz.func27) rfl (by kernel_rfl) rfl ?_ ?_
  · rw [h.hP]; exact ⟨_, Tryz.func27, by kernel_rfl, by kernel_rfl⟩
  · rintro xs ⟨l, n, z, f, t, rfl, h1⟩; exact ⟨_, l, n, z, f, t, rfl, rfl⟩
  · rintro xs ⟨l, n, z, f, t, rfl, h1, hn, hz, hf, ht⟩
    have hE : ∀ e : Int, serE l n z f t = e → e ≠ 0 → serV l n z f t = [] := fun e he hne => if_neg (by rw [he]; exact hne)
    have hwz : winE ⟨0, 0⟩ = 0 := rfl
    have q1 : ∀ (l : List TEvent) (ns : List ByteArray), cnS.pre [.sl (TEvent.rows l), .dv (.ag [.int .i64 0, .int .i64 0]), .sl (rowsT ns)] = (okL TEvent.ok l ∧ okL okS ns) := fun l ns => cnS_q l ⟨0, 0⟩ ns
    have p1 : ∀ (l : List TEvent) (ns : List ByteArray), cnS.post [.sl (TEvent.rows l), .dv (.ag [.int .i64 0, .int .i64 0]), .sl (rowsT ns)] = fun y => y = .i (orE (eventsF l) (orE (namesF ns) 0)) := fun l ns => cnS_p l ⟨0, 0⟩ ns
    refine ⟨by rw [Tryz.ntmps27]; simp, ?_⟩
    simp only [go_sem, h.hP, List.cons_append, List.nil_append, Meets_e, Below_e, Prod.exists, exists_eq, exists_eq_left, exists_eq_left', exists_eq_right, exists_eq_right', exists_and_left, exists_and_right, Ob.arr.injEq, AV.own.injEq, AV.fv.injEq, serS_q, serS_p, serS_c, serS_f, zoneS_q, zoneS_p, zoneS_c, zoneS_f, cnS_c, cnS_f, q1, p1, TEvent.len, TZone.row, strs1, okL_one, Tryz.ntmps27, Nat.reduceEqDiff, reduceCtorEq, Nat.reduceMul, Nat.reduceAdd, Nat.reduceSub, Nat.reduceDiv, Nat.reduceMod, Nat.reduceLeDiff, Nat.reduceLT, Nat.reduceBNe, Nat.reduceBEq, reduceIte, Int.reduceLE, Int.reduceLT, Int.reduceToNat, Int.reduceNeg, Int.reduceAdd, Int.reduceSub, Int.reduceMul, Int.reduceEq]
    refine ⟨h1, okL_one hn, fun c => ?_, fun c => ?_⟩
    · have e : serE l n z f t = orE (eventsF l) (orE (namesF [n]) 0) := orE_two c
      rw [hE _ e c, e]
      exact ⟨rfl, rfl⟩
    obtain ⟨c1, c2⟩ := orE_zero2 c
    have e1 : serE l n z f t = orE (zoneF z) (if f < 0 ∨ f > t ∨ t > 3000 then 1 else if t - f ≥ 800 then 2 else 0) := (orE_r c1).trans (orE_r c2)
    refine ⟨hz, fun d => ?_, fun d => ?_⟩
    · have e : serE l n z f t = zoneF z := e1.trans (orE_l d)
      rw [hE _ e d, e]
      exact ⟨rfl, rfl⟩
    have e2 := e1.trans (orE_r d)
    have bad : (f < 0 ∨ f > t ∨ t > 3000) → ([] : List (List D)) = intsD (serV l n z f t) ∧ 1 = serE l n z f t := fun w => by
      have e : serE l n z f t = 1 := e2.trans (if_pos w)
      rw [hE _ e (by decide), e]
      exact ⟨rfl, rfl⟩
    refine ⟨fun f0 => ⟨fun ft => ⟨fun t3 => bad (.inr (.inr t3)), fun t3 => ?_⟩, fun ft => bad (.inr (.inl ft))⟩, fun f0 => bad (.inl f0)⟩
    have hw0 : IntKind.i64.wrap (t - f) = t - f := i64w (by omega) (by omega)
    have hw1 : IntKind.i64.wrap (t - f + 1) = t - f + 1 := i64w (by omega) (by omega)
    rw [hw0, hw1]
    have e3 := e2.trans (if_neg (fun w : f < 0 ∨ f > t ∨ t > 3000 => by omega))
    refine ⟨fun g => ?_, fun g => ⟨by omega, by omega, by omega, ?_⟩⟩
    · have e : serE l n z f t = 2 := e3.trans (if_pos (by omega))
      rw [hE _ e (by decide), e]
      exact ⟨rfl, rfl⟩
    have e : serE l n z f t = 0 := e3.trans (if_neg (by omega))
    have ev : serV l n z f t = serR l n z f t := if_pos e
    rw [ev, e]
    have hl := (ev_right c1).1
    have hat : ∀ i, i < l.length → 0 ≤ (l.getD i TEvent.z).at_ ∧ (l.getD i TEvent.z).at_ ≤ 4321439 := fun i hi => evF_at ((ev_right c1).2.1 i hi)
    have hO := okZ d
    refine vc_loopS (Int × List Int) (fun (x : Int × List Int) => match x with | (i, out) => [(56, .i i)]) [7] (fun (x : Int × List Int) => match x with | (i, out) => []) (fun (x : Int × List Int) => match x with | (i, out) => [(53, .arr 3 1 (intsD out))]) (fun (x : Int × List Int) => match x with | (i, out) => 0) (fun (x : Int × List Int) => match x with | (i, out) => 0 ≤ i ∧ i ≤ l.length ∧ out = (l.take i.toNat).foldl (serSt n z f t) (List.replicate (t - f + 1).toNat 0)) (fun (x : Int × List Int) => match x with | (i, out) => (l.length - i).toNat) [] ?_ ?_
    · simp only [go_sem, h.hP, List.cons_append, List.nil_append, Meets_e, Below_e, Prod.exists, exists_eq, exists_eq_left, exists_eq_left', exists_eq_right, exists_eq_right', exists_and_left, exists_and_right, Ob.arr.injEq, AV.own.injEq, AV.fv.injEq, Tryz.ntmps27, Nat.reduceEqDiff, reduceCtorEq, Nat.reduceMul, Nat.reduceAdd, Nat.reduceSub, Nat.reduceDiv, Nat.reduceMod, Nat.reduceLeDiff, Nat.reduceLT, Nat.reduceBNe, Nat.reduceBEq, reduceIte, Int.reduceLE, Int.reduceLT, Int.reduceToNat, Int.reduceNeg, Int.reduceAdd, Int.reduceSub, Int.reduceMul, Int.reduceEq]
      exact ⟨_, intsD_rep _, by omega, rfl⟩
    · rintro ⟨i, out⟩ ⟨i0, i1, ho⟩
      obtain ⟨hlo, hva⟩ := ser_round i0 i1 (by omega) ho
      simp only [go_sem, h.hP, List.cons_append, List.nil_append, Meets_e, Below_e, Prod.exists, exists_eq, exists_eq_left, exists_eq_left', exists_eq_right, exists_eq_right', exists_and_left, exists_and_right, Ob.arr.injEq, AV.own.injEq, AV.fv.injEq, serS_q, serS_p, serS_c, serS_f, dayS_q, dayS_p, dayS_c, dayS_f, inS_q, inS_p, inS_c, inS_f, TEvent.row, TEvent.len, TEvent.get, TZone.row, intsD_len, intsD_get, intsDi_inj, intsD_setT, intsD_flatT, Tryz.ntmps27, Nat.reduceEqDiff, reduceCtorEq, Nat.reduceMul, Nat.reduceAdd, Nat.reduceSub, Nat.reduceDiv, Nat.reduceMod, Nat.reduceLeDiff, Nat.reduceLT, Nat.reduceBNe, Nat.reduceBEq, reduceIte, Int.reduceLE, Int.reduceLT, Int.reduceToNat, Int.reduceNeg, Int.reduceAdd, Int.reduceSub, Int.reduceMul, Int.reduceEq]
      refine ⟨fun q => ?_, fun q => ?_⟩
      · have hw : IntKind.i64.wrap (i + 1) = i + 1 := i64w (by omega) (by omega)
        have hi := hat i.toNat (by omega)
        have hst := ser_step l n z f t (List.replicate (t - f + 1).toNat 0) i0 q
        rw [← ho] at hst
        rw [hw, hst]
        unfold serSt
        generalize (l.getD i.toNat TEvent.z) = e at hi
        refine ⟨i0, q, hO, hi.1, by omega, fun y => ⟨fun x => ?_, fun x => ?_⟩, fun y => ?_⟩
        · have hx := inB_iff.1 x
          have hv := hva (dayF z.shifts e.at_ - f).toNat
          rw [i64w (n := dayF z.shifts e.at_ - f) (by omega) (by omega), i64w (n := out.getD (dayF z.shifts e.at_ - f).toNat 0 + 1) (by omega) (by omega), if_pos ⟨y, hx⟩]
          exact ⟨by omega, by omega, by omega, by omega, by omega, by omega, by omega, by omega, rfl, by omega⟩
        · rw [if_neg fun w => by rw [inB_iff.2 w.2] at x; cases x]
          exact ⟨by omega, by omega, rfl, by omega⟩
        · rw [if_neg fun w => y w.1]
          exact ⟨by omega, by omega, rfl, by omega⟩
      · have : i.toNat = l.length := by omega
        rw [ho, this, List.take_of_length_le (Nat.le_refl _)]
        rfl
theorem orE_3 {a b c d : Int} (h : ¬ orE a (orE b c) = 0) : orE a (orE b (orE c d)) = orE a (orE b c) := by
  by_cases ha : a = 0
  · rw [orE_r ha] at h ⊢
    rw [orE_r ha]
    by_cases hb : b = 0
    · rw [orE_r hb] at h ⊢
      rw [orE_r hb]
      exact orE_l h
    · rw [orE_l hb, orE_l hb]
  · rw [orE_l ha, orE_l ha]
theorem orE_30 {a b c : Int} (h : orE a (orE b c) = 0) : a = 0 ∧ b = 0 ∧ c = 0 := by
  by_cases ha : a = 0
  · rw [orE_r ha] at h
    by_cases hb : b = 0
    · rw [orE_r hb] at h
      exact ⟨ha, hb, h⟩
    · rw [orE_l hb] at h
      exact absurd h hb
  · rw [orE_l ha] at h
    exact absurd h ha
theorem serE_use {l : List TEvent} {n : ByteArray} {z : TZone} {f t : Int} (h : serE l n z f t = 0) : eventsF l = 0 ∧ zoneF z = 0 ∧ 0 ≤ f ∧ f ≤ t ∧ t ≤ 3000 ∧ t - f < 800 := by
  have h' : orE (eventsF l) (orE (namesF [n]) (orE (zoneF z) (if f < 0 ∨ f > t ∨ t > 3000 then 1 else if t - f ≥ 800 then 2 else 0))) = 0 := h
  obtain ⟨a, b, c⟩ := orE_30 h'
  by_cases hz : zoneF z = 0
  · rw [orE_r hz] at c
    refine ⟨a, hz, ?_⟩
    split at c
    · cases c
    · split at c
      · cases c
      · omega
  · rw [orE_l hz] at c
    exact absurd c hz
theorem serR_len (l : List TEvent) (n : ByteArray) (z : TZone) (f t : Int) : (serR l n z f t).length = (t - f + 1).toNat := by
  have := (ser_inv n z f t l (List.replicate (t - f + 1).toNat 0) 0 (rep_get _)).1
  rw [List.length_replicate] at this
  exact this
end Go.Avc

/- Events that are right, in order: the generator's contract. No condition. -/
set_option linter.unusedVariables false
set_option linter.unusedSimpArgs false
set_option maxRecDepth 100000
namespace Go.Avc
open Go Go.Proofs

theorem DelW.list {w W : World} {b off : Nat} {S : TEvent × EvV → Prop} : ∀ {n : Nat}, (∀ j, j < n → ∃ p, S p ∧ ∀ c v, p.2.enc[c]? = some v → W.cell? ⟨b, off + j * 6 + c, none⟩ = some v) →
    ∃ ps : List (TEvent × EvV), ps.length = n ∧ (∀ p ∈ ps, S p) ∧ ∀ j u, (encP ps)[j]? = some u → W.cell? ⟨b, off + j, none⟩ = some u := by
  intro n
  induction n with
  | zero => exact fun _ => ⟨[], rfl, fun p hp => (by cases hp), fun j u hj => by simp [encP] at hj⟩
  | succ n ih =>
    intro h
    obtain ⟨ps, h1, h2, h3⟩ := ih fun j hj => h j (by omega)
    obtain ⟨p, hp, hc⟩ := h n (by omega)
    have he : encP (ps ++ [p]) = encP ps ++ p.2.enc := by
      unfold encP
      rw [List.map_append, List.flatten_append]
      simp
    refine ⟨ps ++ [p], by rw [List.length_append, h1]; rfl, fun q hq => ?_, fun j u hj => ?_⟩
    · rcases List.mem_append.1 hq with hq | hq
      · exact h2 q hq
      · rw [List.mem_singleton.1 hq]; exact hp
    · rw [he] at hj
      have hl : (encP ps).length = n * 6 := by rw [encP_len, h1]
      by_cases hi : j < n * 6
      · rw [List.getElem?_append_left (by omega)] at hj
        exact h3 j u hj
      · rw [List.getElem?_append_right (by omega), hl] at hj
        have := hc (j - n * 6) u hj
        rwa [show off + n * 6 + (j - n * 6) = off + j by omega] at this
set_option maxHeartbeats 4000000 in
theorem sorted_raw {v : Value} {w : World} {ps : List (TEvent × EvV)} (hlen : ps.length ≤ 1048576)
    (hclone : Calls Tryz.prog 38 #[v] w fun e w' => ∃ v', e = .returned v' ∧ w'.ownsRow w.heap.size 52 6 v' ps.length (encP ps) ∧ RowKit.Below w.heap.size w w') :
    Calls Tryz.prog 104 #[v] w fun e w' => ∃ (v' : Value) (ps' : List (TEvent × EvV)), e = .returned v' ∧ ps'.Perm ps ∧ w'.ownsRow w.heap.size 52 6 v' ps'.length (encP ps') ∧ RowKit.Below w.heap.size w w' := by
  go_enter Tryz.func104, Tryz.ntmps104
  go_wp2_with (go_at_call 38; refine hclone.mono ?_)
  rintro e w1 ⟨v', rfl, hown, hb⟩
  have hs := sortE hlen hown
  go_wp2_with (go_at_call 155; refine hs.mono ?_)
  rintro e w2 ⟨rfl, ps', hp, ⟨q1, q2, q3, q4, q5⟩, hown2⟩
  go_wp2
  go_ret
  refine ⟨_, ps', rfl, hp, hown2, q1.trans hb.os, q2.trans hb.tape, q3.trans hb.output, Nat.le_trans hb.size q4, fun k hk => (q5 k (Nat.lt_of_lt_of_le hk hb.size) (fun e => ?_)).trans (hb.block k hk)⟩
  rcases hown.2 with ⟨h1, _⟩ | ⟨g, cap, cur, h1, h2, _⟩
  · rw [h1] at e; cases e
  · rw [h1] at e
    have e2 : g = k := Option.some.inj e
    omega
set_option maxHeartbeats 4000000 in
theorem idx_nil (g : Nat) (w : World) : Calls Tryz.prog 87 #[.slice none 0 0, .func (.func g) #[] #[]] w fun e W => e = .returned (.int .i64 (-1)) ∧ W = w := by
  go_enter Tryz.func87, Tryz.ntmps87
  go_wp2
  go_loopw [8] (fun i wr => i = .int .i64 0 ∧ wr = w) (fun _ _ => 0)
  case atStart => exact ⟨rfl, rfl⟩
  case round =>
    obtain ⟨rfl, rfl⟩ := hrel
    go_wp2
    go_ret
    exact ⟨rfl, rfl⟩
set_option maxHeartbeats 4000000 in
theorem del_nil (g : Nat) (w : World) : Calls Tryz.prog 37 #[.slice none 0 0, .func (.func g) #[] #[]] w fun e W => e = .returned (.slice none 0 0) ∧ W = w := by
  go_enter Tryz.func37, Tryz.ntmps37
  go_wp2_with (go_at_call 87; refine (idx_nil g w).mono ?_; rintro e w1 ⟨rfl, rfl⟩)
  go_ret
  exact ⟨rfl, rfl⟩
/-- The context without the stream. -/
def Cx.dry (cx : Cx) : Cx := ⟨cx.P, none, cx.L, cx.ST, cx.ng, cx.glob⟩
theorem Seat.dry {cx : Cx} (h : Seat cx) : Seat cx.dry := ⟨h.hP, h.hS⟩
theorem glAt_dry {cx : Cx} {w : World} (h : GlAt cx w) : GlAt cx.dry w := h
set_option maxHeartbeats 8000000 in
theorem Right_own {cx : Cx} (h : Seat cx) (hN : cx.glob 2 = some namesD) (hI : cx.glob 0 = some poolD) (hE : cx.glob 1 = some evNamesD) (hD : Ctr cx.dry 105 anyB) :
    CtrO cx 54 eventsG 52 6 := by
  refine ⟨by rw [h.hP]; exact ⟨_, Tryz.func54, by kernel_rfl, by kernel_rfl⟩, fun _ => ?_, fun hz => by omega⟩
  rintro F xs vals hcx hF hst hgl hco hlen hargs ⟨m, rfl, hm⟩
  subst hcx
  obtain ⟨sv, mv, rfl⟩ : ∃ a b, vals = [a, b] := by
    match vals, hlen with
    | [a, b], _ => exact ⟨a, b, rfl⟩
  have hmv : mv = .int .i64 m := rd_int_val (show Rd F.ok F.w0 (.int .i64 m) mv from hargs 1 _ mv rfl rfl)
  have hev := (Events_own h hN hI hE).2.1 (by decide) F [.st, .i m] [sv, mv] rfl hF hst hgl hco rfl hargs ⟨m, rfl, hm⟩
  have hen : Enters F.cx.P 105 := hD.1
  rw [h.hP] at hev hen ⊢
  subst hmv
  have fin : ∀ (w1 w2 w3 : World) (v v' : Value) (ps ps2 ps3 : List (TEvent × EvV)), Gr F.cx.g F.w0 w1 → StAt F.cx (F.N + eventsG.cost [.st, .i m]) w1 → (∀ b, v.ownBlock = some b → F.w0.heap.size ≤ b) → ps.length ≤ 20 → ps2.length ≤ ps.length → (∀ p ∈ ps, p.1.ok) → (∀ p ∈ ps, Lay (fun b => resOk F false b ∧ v.ownBlock ≠ some b) w1 p) → (∀ p ∈ ps2, p ∈ ps) →
      w2.os = w1.os → w2.tape = w1.tape → w2.output = w1.output → w1.heap.size ≤ w2.heap.size → (∀ k, k < w1.heap.size → v.ownBlock ≠ some k → w2.heap[k]? = w1.heap[k]?) → ps3.Perm ps2 → w3.ownsRow w2.heap.size 52 6 v' ps3.length (encP ps3) → RowKit.Below w2.heap.size w2 w3 →
      ∃ (v0 : Value) (r : AV), Ending.returned v' = .returned v0 ∧ Gr F.cx.g F.w0 w3 ∧ StAt F.cx (F.N + eventsG.cost [.st, .i m]) w3 ∧ eventsG.post [.st, .i m] r ∧ Hands (resOk F eventsG.fresh) w3 F.w0.heap.size 52 6 v0 r := by
    intro w1 w2 w3 v v' ps ps2 ps3 hg1 hst1 hvb hl hl2 hok hlay hsub o1 o2 o3 o4 o5 hp hown hb
    have hsz : F.w0.heap.size ≤ w1.heap.size := hg1.size
    have hkeep : ∀ k, k < w1.heap.size → v.ownBlock ≠ some k → w3.heap[k]? = w1.heap[k]? := fun k hk hne => (hb.block k (Nat.lt_of_lt_of_le hk o4)).trans (o5 k hk hne)
    have hkeep0 : ∀ k, k < F.w0.heap.size → w3.heap[k]? = w1.heap[k]? := fun k hk => hkeep k (Nat.lt_of_lt_of_le hk hsz) (fun e => by have := hvb k e; omega)
    have hg : ∀ b, F.cx.g = some b → b < F.w0.heap.size := hF.g
    refine ⟨v', .sl (TEvent.rows (ps3.map Prod.fst)), rfl, ⟨(hb.os.trans o1).trans hg1.os, (hb.tape.trans o2).trans hg1.tape, (hb.output.trans o3).trans hg1.output, Nat.le_trans hsz (Nat.le_trans o4 hb.size), fun k hk hne => (hkeep0 k hk).trans (hg1.block k hk hne)⟩,
      hst1.keep2 (Nat.le_trans o4 hb.size) (fun b b' e hle => hkeep0 b' (Nat.lt_of_le_of_lt hle (hg b e))), ⟨m, ps3.map Prod.fst, rfl, by rw [List.length_map, hp.length_eq]; omega, fun x hx => ?_, rfl⟩, .inl ⟨_, encP ps3, by decide, rfl, ?_, fun i x hx => TEvent.z_len _ x (List.mem_of_getElem? hx), lays_to ps3 fun p hp3 => ?_⟩⟩
    · obtain ⟨p, hp3, rfl⟩ := List.mem_map.1 hx
      exact hok p (hsub p (hp.mem_iff.1 hp3))
    · rw [TEvent.len, List.length_map]
      refine ⟨hown.1, hown.2.imp id fun ⟨g, cap, cur, q1, q2, q3⟩ => ⟨g, cap, cur, q1, by omega, q3⟩⟩
    · refine (hlay p (hsub p (hp.mem_iff.1 hp3))).mono (Nat.le_trans o4 hb.size) (fun b hb1 hlt => ⟨hb1.1, fun e => ?_⟩) (fun b hb1 hlt => hkeep b hlt hb1.2)
      rcases hown.2 with ⟨q1, _⟩ | ⟨g, cap, cur, q1, q2, _⟩
      · rw [q1] at e; cases e
      · rw [q1] at e
        have e2 : g = b := Option.some.inj e
        omega
  go_enter Tryz.func54, Tryz.ntmps54
  go_wp2_with (go_at_call 31; refine hev.mono ?_)
  rintro e w1 ⟨v, r, rfl, hg1, hst1, ⟨m', l, hx, hl, hok, rfl⟩, hands⟩
  rcases hands with ⟨l', cs, _, hr, hown, hz, hR⟩ | ⟨_, _, _, _, _, h1000, _⟩
  case inr => omega
  have hr : TEvent.rows l = l' := by simpa using hr
  subst hr
  obtain ⟨ps, hps, rfl, hlay⟩ := lays_of l cs hR
  rw [TEvent.len] at hown
  have hpl : ps.length = l.length := by rw [← hps, List.length_map]
  have hpok : ∀ p ∈ ps, p.1.ok := fun p hp => hok p.1 (by rw [← hps]; exact List.mem_map.2 ⟨p, hp, rfl⟩)
  have hvb : ∀ b, v.ownBlock = some b → F.w0.heap.size ≤ b := fun b hb => by
    rcases hown.2 with ⟨q1, _⟩ | ⟨g, cap, cur, q1, q2, _⟩
    · rw [q1] at hb; cases hb
    · rw [q1] at hb
      cases hb
      exact q2
  rcases hown.2 with ⟨h1, hn⟩ | ⟨b, cap, cur, h1, h2, h3, h4, h5, h6, h7⟩
  · subst h1
    have hs := sorted_raw (v := .slice none 0 0) (w := w1) (ps := []) (Nat.zero_le _) ((AnyE.slices_Clone_nil Tryz.laysCloneEvent 0 0 w1).mono fun e w' ⟨e1, e2⟩ => ⟨_, e1, World.ownsRow_nil .., e2 ▸ RowKit.Below.refl _ _⟩)
    go_wp2_with (go_at_call 37; refine (del_nil _ w1).mono ?_)
    rintro e w2 ⟨rfl, rfl⟩
    go_wp2_with (go_at_call 104; refine hs.mono ?_)
    rintro e w3 ⟨v', ps', rfl, hp, hown3, hb3⟩
    go_wp2
    go_ret
    exact fin w2 w2 w3 _ v' ps [] ps' hg1 hst1 hvb (by omega) (Nat.zero_le _) hpok hlay (fun p hp => by cases hp) rfl rfl rfl (Nat.le_refl _) (fun _ _ _ => rfl) hp hown3 hb3
  · subst h1
    have hb : b < w1.heap.size := (Array.getElem?_eq_some_iff.1 h3).1
    have hrow : RowsIn (· ∈ ps) cur ps.length := RowsIn.of (by rw [hpl]; exact h7)
    have hd0 : DelW w1 b 0 l.length (· ∈ ps) w1 := by
      refine ⟨rfl, rfl, rfl, Nat.le_refl _, fun _ _ _ => rfl, fun j hj => ?_, fun o => ?_⟩
      · obtain ⟨p, hp, hc⟩ := hrow j (by omega)
        refine ⟨p, hp, fun c v hv => ?_⟩
        have hc6 : c < 6 := (List.getElem?_eq_some_iff.1 hv).1
        unfold World.cell?
        rw [h3]
        have := hc c hc6
        rw [hv] at this
        simpa using this
      · unfold World.frozen?
        rw [h3]
        simp
    have hgl0 := hgl
    have hcall : ∀ p, p ∈ ps → ∀ W, DelW w1 b 0 l.length (· ∈ ps) W → Calls Tryz.prog 105 #[.agg p.2.enc.toArray] W fun e W' => ∃ q : Bool, e = .returned (.bool q) ∧ RowKit.Below W.heap.size W W' := by
      intro p hp W hW
      have hgW : Gr F.cx.g F.w0 W := ⟨hW.os.trans hg1.os, hW.tape.trans hg1.tape, hW.out.trans hg1.output, Nat.le_trans hg1.size hW.size, fun k hk hne => (hW.keep k (Nat.lt_of_lt_of_le hk hg1.size) (by omega)).trans (hg1.block k hk hne)⟩
      have hglW : GlAt F.cx W := hgl.keep hst hgW
      have hng : ∀ k, k < F.cx.ng → k < W.heap.size := fun k hk => by
        have h1 := hF.gl k hk
        have h2 := (hF.ok k h1).1
        have h3 := hgW.size
        omega
      let F' : Fr := ⟨F.cx.dry, W, fun b => b < W.heap.size, 0, 0, 0, W, fun _ => False⟩
      have hF' : F'.Wf := ⟨fun b hb => ⟨hb, fun e => (by cases e)⟩, fun b hb => hng b hb, fun b hb => (by cases hb), by show 0 + 0 ≤ _; decide⟩
      have hl1 : Lay (fun b => b < W.heap.size) W p := (hlay p hp).mono hW.size (fun k hk hlt => Nat.lt_of_lt_of_le hlt hW.size) (fun k hk hlt => hW.keep k hlt (fun e => hk.2 (by rw [e]; rfl)))
      have hc := hD.2.2 F' [.dv (.ag p.1.row)] [.agg p.2.enc.toArray] rfl hF' (fun b hb => (by cases hb)) (glAt_dry hglW) (Nat.zero_le _) rfl (fun i a u ha hu => by
        cases i with
        | zero =>
          simp only [List.getElem?_cons_zero, Option.some.injEq] at ha hu
          subst ha
          subst hu
          exact ⟨p.2.enc, rfl, hl1⟩
        | succ i => simp at ha) ⟨p.1, rfl, hpok p hp⟩
      rw [show F.cx.dry.P = Tryz.prog from h.hP] at hc
      refine hc.mono ?_
      rintro e W' ⟨u, r, rfl, hg2, _, ⟨q, rfl⟩, _, hr⟩
      have hu : u = .bool q := by
        have hr : Rd (resOk F' anyB.fresh) W' (.bool q) u := hr
        cases hr
        rfl
      subst hu
      exact ⟨q, rfl, hg2.os, hg2.tape, hg2.output, hg2.size, fun k hk => hg2.block k hk (fun e => by cases e)⟩
    have hdel := del_walk (cap := cap) (g := 105) hb (show l.length ≤ 1048576 by omega) (show l.length ≤ cap by omega) hd0 (fun args w => callFunc_run hen args w) hcall
    go_wp2_with (go_at_call 37; refine hdel.mono ?_)
    rintro e w2 ⟨i, hi, rfl, hd2⟩
    obtain ⟨ps2, hp1, hp2, hp3⟩ := DelW.list (w := w2) hd2.rows
    have hs := sorted_raw (v := .slice (some ⟨b, 0, none⟩) i cap) (w := w2) (ps := ps2) (by omega) (by
      have := cloneE_rest ps2 b 0 cap w2 (by omega) hp3
      rwa [hp1] at this ⊢)
    go_wp2_with (go_at_call 104; refine hs.mono ?_)
    rintro e w3 ⟨v', ps', rfl, hp, hown3, hb3⟩
    go_wp2
    go_ret
    exact fin w1 w2 w3 _ v' ps ps2 ps' hg1 hst1 hvb (by omega) (by omega) hpok hlay hp2 hd2.os hd2.tape hd2.out hd2.size (fun k hk hne => hd2.keep k hk (fun e => hne (by rw [e]; rfl))) hp hown3 hb3
end Go.Avc

/- Events and what is wrong with them, as the statements draw them. No condition. -/
set_option linter.unusedVariables false
set_option linter.unusedSimpArgs false
set_option maxRecDepth 100000
namespace Go.Avc
open Go Go.Proofs

theorem evG_ne (xs : List AV) (h : eventsG.pre xs) : ∃ r, eventsG.post xs r := by
  obtain ⟨m, hm, _⟩ := h
  exact ⟨.sl (TEvent.rows []), m, [], hm, Nat.zero_le _, (fun x hx => by cases hx), rfl⟩
def someG : Spec where
  pre xs := ∃ m : Int, xs = [.st, .i m] ∧ m ≤ 20
  post xs y := ∃ l : List TEvent, l.length ≤ 20 ∧ (∀ x ∈ l, x.ok) ∧ y = .tcons (.sl (TEvent.rows l)) (.tcons (.i (eventsF l)) .tnil)
  cost _ := 4001
  fresh := false
theorem some_ctr {cx : Cx} (h : Seat cx) (hN : cx.glob 2 = some namesD) (hI : cx.glob 0 = some poolD) (hE : cx.glob 1 = some evNamesD) (hU : Utf8 cx) (hM : MaxL cx) : Ctr cx 10 someG := by
  refine ctr_of (fn := Tryz.f10) (l := [.tmp 4, .tmp 5]) (envL [(54, eventsG), (31, eventsG), (26, flipS), (33, eventsS)]) [0, 1, 4, 5, 6, 11] [] [] (envL_cons (ctr_ofO (by decide) evG_ne (Right_own h hN hI hE (Right1_ctr h.dry hU hM))) (envL_cons (ctr_ofO (by decide) evG_ne (Events_own h hN hI hE)) (envL_cons (flip_ctr cx h.hP h.hS) (envL_cons (EventsFault_ctr h hU hM) (env0 h.hP))))) ?_ (by rw [h.hP]; exact Tryz.func10) rfl (by kernel_rfl) rfl ?_ ?_
  · rw [h.hP]; exact ⟨_, Tryz.func10, by kernel_rfl, by kernel_rfl⟩
  · rintro xs ⟨m, rfl, hm⟩; exact ⟨_, [], Nat.zero_le _, (fun x hx => by cases hx), rfl⟩
  · rintro xs ⟨m, rfl, hm⟩
    refine ⟨by rw [Tryz.ntmps10]; simp, ?_⟩
    simp only [go_sem, h.hP, List.cons_append, List.nil_append, Meets_e, Below_e, Prod.exists, exists_eq, exists_eq_left, exists_eq_left', exists_eq_right, exists_eq_right', exists_and_left, exists_and_right, Ob.arr.injEq, AV.own.injEq, AV.fv.injEq, someG, eventsG, flipS_q, flipS_p, flipS_c, flipS_f, eventsS_q, eventsS_p, eventsS_c, eventsS_f, TEvent.rows_inj, Tryz.ntmps10, Nat.reduceEqDiff, reduceCtorEq, Nat.reduceMul, Nat.reduceAdd, Nat.reduceSub, Nat.reduceDiv, Nat.reduceMod, Nat.reduceLeDiff, Nat.reduceLT, Nat.reduceBNe, Nat.reduceBEq, reduceIte, Int.reduceLE, Int.reduceLT, Int.reduceToNat, Int.reduceNeg, Int.reduceAdd, Int.reduceSub, Int.reduceMul, Int.reduceEq]
    have ok : ∀ a : List TEvent, a.length ≤ 20 → (∀ x ∈ a, x.ok) → okL TEvent.ok a := fun a h1 h2 => ⟨by omega, h2⟩
    exact ⟨hm, fun a h1 h2 f => ⟨fun _ => ⟨hm, fun a h1 h2 => ⟨ok a h1 h2, a, h1, h2, rfl, rfl⟩⟩, fun _ => ⟨ok a h1 h2, a, h1, h2, rfl, rfl⟩⟩⟩
end Go.Avc

/- EventSeries: its walk. No condition. -/
set_option linter.unusedVariables false
set_option linter.unusedSimpArgs false
set_option maxRecDepth 100000
namespace Go.Avc
open Go Go.Proofs

theorem maxL_of {cx W0 : Cx} {m : Int} (hW : W0.glob 3 = some [.int .i64 m]) (h : ∀ w, GlAt cx w → GlAt W0 w) : MaxL cx := by
  intro w hw
  obtain ⟨_, _, cs, hc, hr⟩ := h w hw 3 _ hW
  obtain ⟨v, hv, hr⟩ := hr.get (j := 0) (x := .int .i64 m) rfl
  refine ⟨m, ?_⟩
  have := hc 0 v hv
  rw [this]
  cases hr
  rfl
set_option maxHeartbeats 8000000 in
theorem er_walk {L : List Int} {A : Option Addr} {cp : Nat} {W : World} (hng : 6 ≤ W.heap.size) (hrd : Rd (fun k => k < W.heap.size) W (.sl (intRows L)) (.slice A L.length cp)) {glob : Nat → Option (List D)} (hgl : GlAt ⟨Tryz.prog, none, L, 25, 6, glob⟩ W) (hU : ∀ cx : Cx, (∀ w, GlAt cx w → GlAt ⟨Tryz.prog, none, L, 25, 6, glob⟩ w) → Utf8 cx) (hfn : glob 2 = some namesD) (hip : glob 0 = some poolD) (hen : glob 1 = some evNamesD) {m : Int} (hml : glob 3 = some [.int .i64 m]) :
    Calls Tryz.prog 6 [Value.slice A L.length cp].toArray W fun e W' => e = .returned (.bool true) ∧ RowKit.Below W.heap.size W W' := by
  refine law_calls (E := envL [(11, rangeS), (12, pickS), (26, flipS), (19, nameG), (25, zoneG2), (10, someG), (27, serS), (30, serRS), (22, namesS), (28, zoneS), (21, wrongS), (29, eqIS), (15, happeningsS)]) (B := 6000) (live := [0, 2, 3, 4, 5, 6, 7, 8, 9, 10, 11, 35, 56, 59, 71, 77]) (HH := [7, 14]) (hz := []) (d := 2) (x1 := 12) (x2 := 13) (x3 := 14) (x4 := 3) (ng := 6) (glob := glob) Tryz.func6 rfl rfl (by kernel_rfl) ⟨rfl, rfl, rfl⟩ ⟨rfl, rfl, rfl⟩ ⟨rfl, rfl, rfl⟩ ⟨rfl, rfl, rfl⟩ ⟨rfl, rfl, rfl⟩ build_stream ⟨by simp, by decide, by decide, by decide, by decide, by decide, by rw [Tryz.ntmps6]; decide⟩ (ex := []) (xv := []) rfl (fun i x u hx hu => by simp at hx) (by decide) hng hrd hgl ?_
  intro cx hP hS hG hGl
  have h : Seat cx := ⟨hP, hS⟩
  refine ⟨envL_cons (range_ctr cx h.hP h.hS) (envL_cons (pick_ctr cx h.hP h.hS) (envL_cons (flip_ctr cx h.hP h.hS) (envL_cons (Name_ctr h) (envL_cons (Zone_ctr h) (envL_cons (some_ctr h ((congrFun hGl _).trans hfn) ((congrFun hGl _).trans hip) ((congrFun hGl _).trans hen) (hU cx hG) (maxL_of hml hG)) (envL_cons (Series_ctr h (hU cx hG) (maxL_of hml hG)) (envL_cons (SeriesOf_ctr h) (envL_cons (nameFault_ctr h) (envL_cons (ZoneFault_ctr h) (envL_cons (wrongOr_ctr h) (envL_cons (eqI_ctr h) (envL_cons (happenings_ctr h) (env0 h.hP))))))))))))), ?_⟩
  simp only [go_sem, h.hP, List.cons_append, List.nil_append, Meets_e, Below_e, Prod.exists, exists_eq, exists_eq_left, exists_eq_left', exists_eq_right, exists_eq_right', exists_and_left, exists_and_right, Ob.arr.injEq, AV.own.injEq, AV.fv.injEq, someG, nameG, zoneG2, rangeS_q, rangeS_p, rangeS_c, rangeS_f, pickS_q, pickS_p, pickS_c, pickS_f, ints1, intsc, TEvent.rows_inj, TZone.row, Tryz.ntmps6, Nat.reduceEqDiff, reduceCtorEq, Nat.reduceMul, Nat.reduceAdd, Nat.reduceSub, Nat.reduceDiv, Nat.reduceMod, Nat.reduceLeDiff, Nat.reduceLT, Nat.reduceBNe, Nat.reduceBEq, reduceIte, Int.reduceLE, Int.reduceLT, Int.reduceToNat, Int.reduceNeg, Int.reduceAdd, Int.reduceSub, Int.reduceMul, Int.reduceEq]
  intro a a0 a14
  refine ⟨by omega, fun l l20 lo n hn z hz f hf p hp => ?_⟩
  refine vc_cutT (Int) (fun (t : Int) => [(9, .i t), (35, .un)]) [7] (fun (t : Int) => []) (fun (t : Int) => []) (fun (t : Int) => 4200) (fun (t : Int) => okI t) [] ?_ ?_ ?_
  · rfl
  · simp only [go_sem, h.hP, List.cons_append, List.nil_append, Meets_e, Below_e, Prod.exists, exists_eq, exists_eq_left, exists_eq_left', exists_eq_right, exists_eq_right', exists_and_left, exists_and_right, Ob.arr.injEq, AV.own.injEq, AV.fv.injEq, flipS_q, flipS_p, flipS_c, flipS_f, pickS_q, pickS_p, pickS_c, pickS_f, ints1, intsc, Tryz.ntmps6, Nat.reduceEqDiff, reduceCtorEq, Nat.reduceMul, Nat.reduceAdd, Nat.reduceSub, Nat.reduceDiv, Nat.reduceMod, Nat.reduceLeDiff, Nat.reduceLT, Nat.reduceBNe, Nat.reduceBEq, reduceIte, Int.reduceLE, Int.reduceLT, Int.reduceToNat, Int.reduceNeg, Int.reduceAdd, Int.reduceSub, Int.reduceMul, Int.reduceEq]
    have hf2 : -1 ≤ f ∧ f ≤ 2 := by
      simp only [isIn, List.mem_cons, List.not_mem_nil, or_false] at hf
      omega
    have hp2 : -1 ≤ p ∧ p ≤ 800 := by
      simp only [isIn, List.mem_cons, List.not_mem_nil, or_false] at hp
      omega
    refine fun b => ⟨fun _ q hq => isIn_ok hq (by decide), fun _ => ?_⟩
    rw [i64w (by omega) (by omega)]
    exact ⟨by omega, by omega⟩
  · rintro t ht
    simp only [go_sem, h.hP, List.cons_append, List.nil_append, Meets_e, Below_e, Prod.exists, exists_eq, exists_eq_left, exists_eq_left', exists_eq_right, exists_eq_right', exists_and_left, exists_and_right, Ob.arr.injEq, AV.own.injEq, AV.fv.injEq, serS_q, serS_p, serS_c, serS_f, namesS_q, namesS_p, namesS_c, namesS_f, zoneS_q, zoneS_p, zoneS_c, zoneS_f, wrongS_q, wrongS_p, wrongS_c, wrongS_f, ints1, intsc, strs1, strsc, TZone.row, Tryz.ntmps6, Nat.reduceEqDiff, reduceCtorEq, Nat.reduceMul, Nat.reduceAdd, Nat.reduceSub, Nat.reduceDiv, Nat.reduceMod, Nat.reduceLeDiff, Nat.reduceLT, Nat.reduceBNe, Nat.reduceBEq, reduceIte, Int.reduceLE, Int.reduceLT, Int.reduceToNat, Int.reduceNeg, Int.reduceAdd, Int.reduceSub, Int.reduceMul, Int.reduceEq]
    have hfi : okI f := isIn_ok hf (by decide)
    have ok : okL TEvent.ok l := ⟨by omega, lo⟩
    refine ⟨ok, hn, hz, hfi, ht, okL_one hn, hz, ?_⟩
    refine vc_cutS (Int) (fun (g : Int) => [(5, .i g), (56, .un), (59, .un), (71, .un)]) [7] (fun (g : Int) => []) (fun (g : Int) => []) (fun (g : Int) => 4200) (fun (g : Int) => g = serE l n z f t) [] ?_ ?_ ?_
    · rfl
    · simp only [go_sem, h.hP, List.cons_append, List.nil_append, Meets_e, Below_e, Prod.exists, exists_eq, exists_eq_left, exists_eq_left', exists_eq_right, exists_eq_right', exists_and_left, exists_and_right, Ob.arr.injEq, AV.own.injEq, AV.fv.injEq, Tryz.ntmps6, Nat.reduceEqDiff, reduceCtorEq, Nat.reduceMul, Nat.reduceAdd, Nat.reduceSub, Nat.reduceDiv, Nat.reduceMod, Nat.reduceLeDiff, Nat.reduceLT, Nat.reduceBNe, Nat.reduceBEq, reduceIte, Int.reduceLE, Int.reduceLT, Int.reduceToNat, Int.reduceNeg, Int.reduceAdd, Int.reduceSub, Int.reduceMul, Int.reduceEq]
      rw [wrong_three]
      have hs : serE l n z f t = orE (eventsF l) (orE (namesF [n]) (orE (zoneF z) (if f < 0 ∨ f > t ∨ t > 3000 then 1 else if t - f ≥ 800 then 2 else 0))) := rfl
      refine ⟨fun c => (orE_3 c).symm.trans hs.symm, fun c => ?_⟩
      have c0 := c
      obtain ⟨c1, c2, c3⟩ := orE_30 c
      rw [orE_r c1, orE_r c2, orE_r c3] at hs
      rw [c0]
      refine ⟨fun f0 => ⟨fun tf => ⟨fun t3 => (hs.trans (if_pos (.inr (.inr t3)))).symm, fun t3 => ?_⟩, fun tf => (hs.trans (if_pos (.inr (.inl tf)))).symm⟩, fun f0 => (hs.trans (if_pos (.inl f0))).symm⟩
      rw [i64w (by omega) (by omega)]
      rw [if_neg (by omega)] at hs
      exact ⟨fun w => (hs.trans (if_pos w)).symm, fun w => (hs.trans (if_neg w)).symm⟩
    · rintro g hg
      simp only [go_sem, h.hP, List.cons_append, List.nil_append, Meets_e, Below_e, Prod.exists, exists_eq, exists_eq_left, exists_eq_left', exists_eq_right, exists_eq_right', exists_and_left, exists_and_right, Ob.arr.injEq, AV.own.injEq, AV.fv.injEq, serRS_q, serRS_p, serRS_c, serRS_f, eqIS_q, eqIS_p, eqIS_c, eqIS_f, happeningsS_q, happeningsS_p, happeningsS_c, happeningsS_f, TZone.row, intsD_len, Tryz.ntmps6, Nat.reduceEqDiff, reduceCtorEq, Nat.reduceMul, Nat.reduceAdd, Nat.reduceSub, Nat.reduceDiv, Nat.reduceMod, Nat.reduceLeDiff, Nat.reduceLT, Nat.reduceBNe, Nat.reduceBEq, reduceIte, Int.reduceLE, Int.reduceLT, Int.reduceToNat, Int.reduceNeg, Int.reduceAdd, Int.reduceSub, Int.reduceMul, Int.reduceEq]
      subst hg
      refine ⟨fun c => ⟨fun _ e => e ?_, fun e => e rfl⟩, fun c => ⟨fun _ => ?_, fun e => e c⟩⟩
      · rw [show serV l n z f t = [] from if_neg c]
        rfl
      · obtain ⟨u1, u2, u3, u4, u5, u6⟩ := serE_use c
        have ev : serV l n z f t = serR l n z f t := if_pos c
        refine ⟨ok, u1, u2, hz, u3, u4, u5, u6, ?_, fun e => ne_ft (eqIB_t ev) e⟩
        rw [ev, serR_len]
        omega
end Go.Avc

/- EventSeries returns true for every slice of numbers, and leaves it as it was; the two tables of unicode/utf8, the pool of ids and the names of fields and of events, which its row lists, lie as the program lays them. -/
set_option linter.unusedVariables false
set_option linter.unusedSimpArgs false
set_option maxRecDepth 100000
namespace Go.Proofs.YtkkcjnimbejalaaGreatDoor.eventSeries
open Go.ChangeShapes Go.ChangeMaps Go.WideShapes Go.ChangeAt Go.RowKit Go.Avc

def exF (m : Int) : Nat → Option (List D)
  | 0 => some poolD
  | 2 => some namesD
  | 1 => some evNamesD
  | 3 => some [.int .i64 m]
  | _ => none
theorem lies {W : World} {m : Int} (hm : W.cell? ⟨3, 0, none⟩ = some (.int .i64 m)) (hL : laidMetH Tryz.prog Rows.eventSeriesRow.laid W) : Lies W (exF m) := by
  intro k l hk
  have hk' : exF m k = some l := hk
  match k, hk' with
  | 0, hk' =>
    cases hk'
    have h := lies_of_reads (l := poolD) (m := 20) (Lib.laidMet.reads hL (n := "handbill/handmake.idPool") (d := Rows.laid_handbill_handmake_idPool) (by simp [Rows.eventSeriesRow])) (g := 0) rfl rfl (by kernel_rfl) (by kernel_rfl) (by decide)
    exact ⟨by decide, h.1, by decide, h.2⟩
  | 2, hk' =>
    cases hk'
    have h := lies_of_reads (l := namesD) (m := 6) (Lib.laidMet.reads hL (n := "handbill/handmake.fieldNames") (d := Rows.laid_handbill_handmake_fieldNames) (by simp [Rows.eventSeriesRow])) (g := 2) rfl rfl (by kernel_rfl) (by kernel_rfl) (by decide)
    exact ⟨by decide, h.1, by decide, h.2⟩
  | 1, hk' =>
    cases hk'
    have h := lies_of_reads (l := evNamesD) (m := 4) (Lib.laidMet.reads hL (n := "handbill/handmake.eventNames") (d := Rows.laid_handbill_handmake_eventNames) (by simp [Rows.eventSeriesRow])) (g := 1) rfl rfl (by kernel_rfl) (by kernel_rfl) (by decide)
    exact ⟨by decide, h.1, by decide, h.2⟩
  | 3, hk' =>
    cases hk'
    refine ⟨by decide, ?_, rfl, fun j u hj => ?_⟩
    · by_cases hb : 3 < W.heap.size
      · exact hb
      · unfold World.cell? at hm
        rw [Array.getElem?_eq_none (show W.heap.size ≤ 3 by omega)] at hm
        cases hm
    · cases j with
      | zero => cases hj; exact hm
      | succ j => simp at hj
/-- A world for a witness. -/
def fillC (l : List D) : Obj → Obj
  | .cells _ t frozen => .cells (l.map vD).toArray t frozen
  | o => o
noncomputable def heapF (os : Os) : Array Obj :=
  (((laidWorld os).heap.modify 0 (fillC poolD)).modify 2 (fillC namesD)).modify 1 (fillC evNamesD)
noncomputable def worldF (os : Os) : World := { laidWorld os with heap := heapF os }
theorem metF (os : Os) (args : Array Value) : laidMet Tryz.prog Rows.eventSeriesRow.laid ((worldF os).forCall (fun _ _ => 0) ⟨#[], args, []⟩).memory := laidMet_of_run' 8 (by kernel_rfl) (by kernel_rfl)
theorem own : ownKnob Tryz.prog.godebug = none := by kernel_rfl
theorem one3 : Tryz.prog.cellsOf 3 = 1 := by kernel_rfl

/-- WHAT THE WALK GIVES. -/
theorem contract (H : Type) (enc : TypeId × Value → H) (W : World) (base : Nat) (args : Array Value) (ds gs : List (DataW H)) (before : List MemPlace)
    (hval : ∀ (j : Nat) t v, Tryz.f6.params[j]? = some t → args[j]? = some v → Value.okWide Tryz.prog W .any base t v)
    (hW : DataW.Whole enc Tryz.prog Tryz.f6.params.toList Rows.eventSeriesSpec.vars false W args.toList ds gs before) (hL : laidMetH Tryz.prog Rows.eventSeriesRow.laid W) (hSh : W.ShapedOpen Tryz.prog) :
    Calls Tryz.prog 6 args W fun e W' => ∃ v, e = .returned v ∧ Rows.eventSeriesSpec.post enc Tryz.prog Tryz.f6 false true false false W args v W' := by
  have hW' := hW
  obtain ⟨p, q, hA0, hV, rfl, hfz, hnd⟩ := hW
  have hA : DataW.TrodAll enc Tryz.prog W 0 (fun _ => true) true Tryz.f6.params.toList args.toList ds p := hA0
  rw [Tryz.params6] at hA hval
  obtain ⟨v0, vs0, d0, ds0, p0, q0, hargs, rfl, rfl, h0, r0⟩ := trodAll_cons hA
  obtain ⟨rfl, rfl, rfl⟩ := trodAll_nil r0
  obtain rfl : args = #[v0] := by cases args; simp_all
  obtain ⟨rfl, rfl⟩ := trodVars_none hV
  obtain ⟨A, L, cp, rfl, hrd, hsh⟩ := open_nums Tryz.underlying22 Tryz.underlying3 one3 (hval 0 22 v0 rfl rfl) h0
  clear hA0
  simp only [List.append_nil] at hW'
  obtain ⟨mx, hmx⟩ := Tryz.laysM144.s1_3 W hSh
  have hg := glAt_X (L := L) (ST := 25) (tabs_of_list hL (by simp [Rows.eventSeriesRow]) (by simp [Rows.eventSeriesRow])) (lies hmx hL)
  refine (er_walk (ng_of_shaped hSh) hrd hg (fun cx h => utf8_of_globX rfl h) rfl rfl rfl rfl).mono fun e W' ⟨he, hbl⟩ => ?_
  subst he
  refine ⟨_, rfl, post_of_below (pa := p0) (pv := []) hW' (fun _ _ _ => trodAll_cons_mk (shut_bool Tryz.underlying4 _) trodAll_mk0)
    (fun sp hsp => ?_) (fun _ _ => rfl) (List.append_nil _).symm hbl (ok_one (by kernel_rfl) rfl (okWide_bool_mk Tryz.underlying4 _))⟩
  have := trodAll_cons_mk (hsh W' hbl sp hsp) (trodAll_mk0 (w := W') (base := 0) (spare := sp) (held := true) (enc := enc))
  rw [List.append_nil] at this
  exact this
theorem reads (os : Os) {H : Type} (enc : TypeId × Value → H) : ∃ places, DataW.whole enc Tryz.prog ((worldF os).forCall (fun _ _ => 0) ⟨#[], #[.slice none 0 0], []⟩).memory Tryz.f6.params.toList Rows.eventSeriesSpec.vars false #[Value.slice none 0 0].toList 8 = some ([.nil], [], places) :=
  ⟨[], by kernel_rfl⟩
theorem lifted (os : Os) (started : os.Started) (H : Type) (enc : TypeId × Value → H) (F : Stop.Interp) :
    ReturnsInHanded {} Tryz.checked os 6 .any ((OpenSpec.ofChange Rows.eventSeriesSpec).preRow enc Tryz.prog Tryz.f6 Rows.eventSeriesRow.domain false Rows.eventSeriesRow.laid) (((OpenSpec.ofChange Rows.eventSeriesSpec).at F).post enc Tryz.prog Tryz.f6 false true false false) := by
  obtain ⟨places, hx⟩ := reads os enc
  refine returnsInHanded_of_row (C := Tryz.checked) (s := OpenSpec.ofChange Rows.eventSeriesSpec) own started (by kernel_rfl) Tryz.func6
    (witness_row_at (enc := enc) (C := Tryz.checked) false (worldF os) #[.slice none 0 0] rfl (by kernel_rfl) (by kernel_rfl) (by kernel_rfl)
      (OpenSpec.preRow_of_cond 8 hx (by kernel_rfl) (fun k hk => by cases hk) (by kernel_rfl) (metF os _))) ?_
  intro W base args ds gs before hval hW _ _ _ hL hSh _
  exact contract H enc W base args ds gs before hval hW hL hSh
theorem said : Rows.EventSeriesSaid :=
  OpenClaim.holds_of_cond 6 Tryz.f6 rfl rfl rfl rfl rfl rfl rfl ⟨rfl, rfl, rfl, rfl, rfl⟩ rfl rfl rfl rfl rfl (by kernel_rfl) Tryz.func6 (by kernel_rfl)
    (of_decide_eq_true (by kernel_rfl)) (by unfold Func.isWrapper; first | (rw [if_pos (by decide +kernel)]; kernel_rfl) | (rw [if_neg (by decide +kernel)]; exact ⟨rfl, rfl⟩))
    (fun os started H enc _ F => by rw [OpenClaim.pre_eq_preRow]; exact lifted os started H enc F)
theorem plain (f : FuncId) (fn : Func) (hf : Tryz.pinned.checked.prog.funcNamed "handbill/handlaw2.EventSeries" = some f) (hfn : Tryz.pinned.checked.prog.funcs[f]? = some fn) :
    false = Tryz.pinned.checked.prog.looks [] ∧ ∀ (j : Nat) t, fn.params[j]? = some t → Tryz.pinned.checked.prog.wantsStandIn t = false := by
  obtain rfl : f = 6 := Option.some.inj ((show Tryz.prog.funcNamed "handbill/handlaw2.EventSeries" = some 6 by kernel_rfl).symm.trans hf) |>.symm
  obtain rfl : fn = Tryz.f6 := (Option.some.inj (Tryz.func6.symm.trans hfn)).symm
  refine ⟨by kernel_rfl, fun j t ht => ?_⟩
  rw [Tryz.params6] at ht
  obtain rfl : t = 22 := by simpa using Array.mem_of_getElem? ht
  exact (show Tryz.prog.wantsStandIn 22 = false by kernel_rfl)
theorem card : Rows.EventSeriesCardSaid :=
  Claim7.holds_tied_plain_at .later [] _ _ _ _ said (fun _ h => by cases h) (by kernel_rfl) (fun _ h => by cases h) eventSeries_row_tie rfl ⟨rfl, rfl⟩ (by kernel_rfl) rfl plain (by kernel_rfl)
end Go.Proofs.YtkkcjnimbejalaaGreatDoor.eventSeries
