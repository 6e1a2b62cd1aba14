/- QuietTimes returns true for every slice of numbers, and leaves it as it was; its row's two tables of unicode/utf8 lie as the program lays them. -/
import Derived.Test.YtlaplgpnbbmbgaaDoorCards
import Derived.Test.YtlaplgpnbbmbgaaDoorTie
import Derived.WalkKit
import Derived.ProofKit
import Derived.OpenShut
import Derived.Deep.DeepHandedRow
import Derived.Test.YtlaplgpnbbmbgaaDoorKQTCS1
import Derived.Test.YtlaplgpnbbmbgaaDoorKQTCS2
import Derived.Test.YtlaplgpnbbmbgaaDoorKQTCS3
import Derived.Test.YtlaplgpnbbmbgaaDoorKQTCS4
/- Zones: what is wrong with them, by the program and by the reference; what their clocks show: the program. No condition. -/
set_option linter.unusedVariables false
set_option linter.unusedSimpArgs false
set_option maxRecDepth 100000
namespace Go.Avc
open Go Go.Proofs

def shE (l : List TShift) (i : Nat) : Int := if inB (l.getD i TShift.z).at_ 0 4321439 = false ∨ inB (l.getD i TShift.z).offset (-720) 840 = false then 1 else if i = 0 ∧ ¬ (l.getD i TShift.z).at_ = 0 then 3 else if 0 < (i : Int) ∧ (l.getD i TShift.z).at_ < (l.getD (i - 1) TShift.z).at_ + 1800 then 7 else 0
def zoneF (z : TZone) : Int := if keyB z.name = false then 5 else if z.shifts.length = 0 then 3 else if 100 < (z.shifts.length : Int) then 2 else firstI z.shifts.length (shE z.shifts)
/-- In a round of the loop all shifts behind are in their bounds. -/
theorem shE_in {l : List TShift} {i : Nat} (h : shE l i = 0) : 0 ≤ (l.getD i TShift.z).at_ ∧ (l.getD i TShift.z).at_ ≤ 4321439 ∧ -720 ≤ (l.getD i TShift.z).offset ∧ (l.getD i TShift.z).offset ≤ 840 := by
  unfold shE at h
  split at h
  · cases h
  · rename_i c
    simp only [not_or, Bool.not_eq_false] at c
    have c1 := of_decide_eq_true c.1
    have c2 := of_decide_eq_true c.2
    exact ⟨c1.1, c1.2, c2.1, c2.2⟩
theorem ewithin_ctr {cx : Cx} (h : Seat cx) : Ctr cx 110 inS := by
  refine ctr_of (fn := Tryd.f110) (l := [.tmp 6]) (envL []) [0, 1, 2, 6] [] [] (env0 h.hP) ?_ (by rw [h.hP]; exact Tryd.func110) rfl (by kernel_rfl) rfl ?_ ?_
  · rw [h.hP]; exact ⟨_, Tryd.func110, by kernel_rfl, by kernel_rfl⟩
  · rintro xs ⟨n, a, b, rfl⟩; exact ⟨_, n, a, b, rfl, rfl⟩
  · rintro xs ⟨n, a, b, rfl⟩
    refine ⟨by rw [Tryd.ntmps110]; simp, ?_⟩
    simp only [go_sem, h.hP, List.cons_append, List.nil_append, Meets_e, Below_e, Prod.exists, exists_eq, exists_eq_left, exists_eq_left', exists_eq_right, exists_eq_right', exists_and_left, exists_and_right, Ob.arr.injEq, AV.own.injEq, AV.fv.injEq, inS_q, inS_p, inS_c, inS_f, Tryd.ntmps110, Nat.reduceEqDiff, reduceCtorEq, Nat.reduceMul, Nat.reduceAdd, Nat.reduceSub, Nat.reduceDiv, Nat.reduceMod, Nat.reduceLeDiff, Nat.reduceLT, Nat.reduceBNe, Nat.reduceBEq, reduceIte, Int.reduceLE, Int.reduceLT, Int.reduceToNat, Int.reduceNeg, Int.reduceAdd, Int.reduceSub, Int.reduceMul, Int.reduceEq]
    grind [inB]
def zoneS  : Spec where
  pre xs := ∃ (z : TZone), xs = [.dv (.ag z.row)] ∧ (z.ok)
  post xs y := ∃ (z : TZone), xs = [.dv (.ag z.row)] ∧ y = .i (zoneF z)
  cost _ := 0
  fresh := true
theorem zoneS_c  (xs : List AV) : (zoneS).cost xs = 0 := nr rfl
theorem zoneS_f  : (zoneS).fresh = true := nr rfl
theorem zoneS_q  (z : TZone) : (zoneS).pre [.dv (.ag [.str z.name, .sl (TShift.rows z.shifts)])] = (z.ok) := propext ⟨fun h => by
  have h' : ∃ (z' : TZone), ([.dv (.ag z.row)] : List AV) = [.dv (.ag z'.row)] ∧ (z'.ok) := h
  obtain ⟨z', e, h⟩ := h'
  simp only [List.cons.injEq, AV.dv.injEq, AV.fv.injEq, DV.d.injEq, DV.ag.injEq, D.int.injEq, D.str.injEq, D.bool.injEq, D.sl.injEq, true_and, and_true, intsDi_inj, rowsT_inj, rowsKi_inj, TZone.row_inj, TZone.rows_inj] at e
  obtain rfl := e
  exact h, fun h => ⟨z, rfl, h⟩⟩
theorem zoneS_p  (z : TZone) : (zoneS).post [.dv (.ag [.str z.name, .sl (TShift.rows z.shifts)])] = fun y => y = .i (zoneF z) := funext fun y => propext ⟨fun h => by
  have h' : ∃ (z' : TZone), ([.dv (.ag z.row)] : List AV) = [.dv (.ag z'.row)] ∧ y = .i (zoneF z') := h
  obtain ⟨z', e, h⟩ := h'
  simp only [List.cons.injEq, AV.dv.injEq, AV.fv.injEq, DV.d.injEq, DV.ag.injEq, D.int.injEq, D.str.injEq, D.bool.injEq, D.sl.injEq, true_and, and_true, intsDi_inj, rowsT_inj, rowsKi_inj, TZone.row_inj, TZone.rows_inj] at e
  obtain rfl := e
  exact h, fun h => ⟨z, rfl, h⟩⟩
set_option maxHeartbeats 4000000 in
theorem CheckZone_ctr {cx : Cx} (h : Seat cx) : Ctr cx 58 zoneS := by
  refine ctr_of (fn := Tryd.f58) (l := [.tmp 2]) (envL [(105, (strB keyB)), (110, inS)]) [0, 1, 2, 3, 4, 5, 10, 15, 21, 22, 23, 24, 28, 39, 47] [] [] (envL_cons (IsKey_ctr h) (envL_cons (ewithin_ctr h) (env0 h.hP))) ?_ (by rw [h.hP]; exact Tryd.func58) rfl (by kernel_rfl) rfl ?_ ?_
  · rw [h.hP]; exact ⟨_, Tryd.func58, by kernel_rfl, by kernel_rfl⟩
  · rintro xs ⟨z, rfl, h1⟩; exact ⟨_, z, rfl, rfl⟩
  · rintro xs ⟨z, rfl, h1⟩
    refine ⟨by rw [Tryd.ntmps58]; simp, ?_⟩
    simp only [go_sem, h.hP, List.cons_append, List.nil_append, Meets_e, Below_e, Prod.exists, exists_eq, exists_eq_left, exists_eq_left', exists_eq_right, exists_eq_right', exists_and_left, exists_and_right, Ob.arr.injEq, AV.own.injEq, AV.fv.injEq, zoneS_q, zoneS_p, zoneS_c, zoneS_f, strB_q, strB_p, strB_c, strB_f, TZone.row, TShift.len, Tryd.ntmps58, Nat.reduceEqDiff, reduceCtorEq, Nat.reduceMul, Nat.reduceAdd, Nat.reduceSub, Nat.reduceDiv, Nat.reduceMod, Nat.reduceLeDiff, Nat.reduceLT, Nat.reduceBNe, Nat.reduceBEq, reduceIte, Int.reduceLE, Int.reduceLT, Int.reduceToNat, Int.reduceNeg, Int.reduceAdd, Int.reduceSub, Int.reduceMul, Int.reduceEq]
    obtain ⟨o1, o2⟩ := h1
    unfold okS at o1
    refine ⟨by omega, fun c => (if_pos c).symm, fun c => ⟨fun d => ((if_neg (ne_ft c)).trans (if_pos (by omega))).symm, fun d => ⟨fun e => ((if_neg (ne_ft c)).trans ((if_neg (by omega)).trans (if_pos e))).symm, fun e => ?_⟩⟩⟩
    have hc : zoneF z = firstI z.shifts.length (shE z.shifts) := (if_neg (ne_ft c)).trans ((if_neg (by omega)).trans (if_neg e))
    rw [hc]
    refine vc_loopS (Int) (fun (i : Int) => [(23, .i i)]) [1] (fun (i : Int) => []) (fun (i : Int) => []) (fun (i : Int) => 0) (fun (i : Int) => Rounds z.shifts.length (shE z.shifts) i) (fun (i : Int) => (z.shifts.length - i).toNat) [] ?_ ?_
    · simp only [go_sem, h.hP, List.cons_append, List.nil_append, Meets_e, Below_e, Prod.exists, exists_eq, exists_eq_left, exists_eq_left', exists_eq_right, exists_eq_right', exists_and_left, exists_and_right, Ob.arr.injEq, AV.own.injEq, AV.fv.injEq, Tryd.ntmps58, Nat.reduceEqDiff, reduceCtorEq, Nat.reduceMul, Nat.reduceAdd, Nat.reduceSub, Nat.reduceDiv, Nat.reduceMod, Nat.reduceLeDiff, Nat.reduceLT, Nat.reduceBNe, Nat.reduceBEq, reduceIte, Int.reduceLE, Int.reduceLT, Int.reduceToNat, Int.reduceNeg, Int.reduceAdd, Int.reduceSub, Int.reduceMul, Int.reduceEq]
      exact Rounds.start
    · rintro i hr
      have hP : 0 < i → 0 ≤ (z.shifts.getD (i.toNat - 1) TShift.z).at_ ∧ (z.shifts.getD (i.toNat - 1) TShift.z).at_ ≤ 4321439 := fun a => by
        have := shE_in (hr.2.2 (i.toNat - 1) (by omega))
        exact ⟨this.1, this.2.1⟩
      obtain ⟨hi, hS, hM, hE, hN⟩ := hr.use (by omega)
      have hw : 0 < i → i < z.shifts.length → IntKind.i64.wrap (i - 1) = i - 1 := fun a b => i64w (by omega) (by omega)
      simp only [go_sem, h.hP, List.cons_append, List.nil_append, Meets_e, Below_e, Prod.exists, exists_eq, exists_eq_left, exists_eq_left', exists_eq_right, exists_eq_right', exists_and_left, exists_and_right, Ob.arr.injEq, AV.own.injEq, AV.fv.injEq, zoneS_q, zoneS_p, zoneS_c, zoneS_f, inS_q, inS_p, inS_c, inS_f, TZone.row, TShift.len, TShift.get, TShift.rows_inj, Tryd.ntmps58, Nat.reduceEqDiff, reduceCtorEq, Nat.reduceMul, Nat.reduceAdd, Nat.reduceSub, Nat.reduceDiv, Nat.reduceMod, Nat.reduceLeDiff, Nat.reduceLT, Nat.reduceBNe, Nat.reduceBEq, reduceIte, Int.reduceLE, Int.reduceLT, Int.reduceToNat, Int.reduceNeg, Int.reduceAdd, Int.reduceSub, Int.reduceMul, Int.reduceEq]
      refine ⟨fun q => ?_, fun q => (hN q).symm⟩
      have hq : shE z.shifts i.toNat = if inB (z.shifts.getD i.toNat TShift.z).at_ 0 4321439 = false ∨ inB (z.shifts.getD i.toNat TShift.z).offset (-720) 840 = false then 1 else if i = 0 ∧ ¬ (z.shifts.getD i.toNat TShift.z).at_ = 0 then 3 else if 0 < i ∧ (z.shifts.getD i.toNat TShift.z).at_ < (z.shifts.getD (i.toNat - 1) TShift.z).at_ + 1800 then 7 else 0 := by
        unfold shE
        rw [Int.toNat_of_nonneg hi]
        congr 2
        rw [show (i.toNat = 0) = (i = 0) from propext ⟨fun _ => by omega, fun _ => by omega⟩]
      have A1 : (inB (z.shifts.getD i.toNat TShift.z).at_ 0 4321439 = false ∨ inB (z.shifts.getD i.toNat TShift.z).offset (-720) 840 = false) → 1 = firstI z.shifts.length (shE z.shifts) := fun a => (hE 1 q (hq.trans (if_pos a)) (by decide)).symm
      have no : inB (z.shifts.getD i.toNat TShift.z).at_ 0 4321439 = true → inB (z.shifts.getD i.toNat TShift.z).offset (-720) 840 = true → ¬ (inB (z.shifts.getD i.toNat TShift.z).at_ 0 4321439 = false ∨ inB (z.shifts.getD i.toNat TShift.z).offset (-720) 840 = false) := fun a b c => c.elim (ne_ft a) (ne_ft b)
      have A3 : inB (z.shifts.getD i.toNat TShift.z).at_ 0 4321439 = true → inB (z.shifts.getD i.toNat TShift.z).offset (-720) 840 = true → i = 0 → ¬ (z.shifts.getD i.toNat TShift.z).at_ = 0 → 3 = firstI z.shifts.length (shE z.shifts) := fun a b c d => (hE 3 q (hq.trans ((if_neg (no a b)).trans (if_pos ⟨c, d⟩))) (by decide)).symm
      have A7 : inB (z.shifts.getD i.toNat TShift.z).at_ 0 4321439 = true → inB (z.shifts.getD i.toNat TShift.z).offset (-720) 840 = true → 0 < i → (z.shifts.getD i.toNat TShift.z).at_ < IntKind.i64.wrap ((z.shifts.getD (IntKind.i64.wrap (i - 1)).toNat TShift.z).at_ + 1800) → 7 = firstI z.shifts.length (shE z.shifts) := fun a b c d => by
        rw [hw c q, show (i - 1).toNat = i.toNat - 1 by omega, i64w (by have := hP c; omega) (by have := hP c; omega)] at d
        exact (hE 7 q (hq.trans ((if_neg (no a b)).trans ((if_neg (by omega)).trans (if_pos ⟨c, d⟩)))) (by decide)).symm
      have A0 : inB (z.shifts.getD i.toNat TShift.z).at_ 0 4321439 = true → inB (z.shifts.getD i.toNat TShift.z).offset (-720) 840 = true → (i = 0 → (z.shifts.getD i.toNat TShift.z).at_ = 0) → (0 < i → ¬ (z.shifts.getD i.toNat TShift.z).at_ < IntKind.i64.wrap ((z.shifts.getD (IntKind.i64.wrap (i - 1)).toNat TShift.z).at_ + 1800)) → Rounds z.shifts.length (shE z.shifts) (IntKind.i64.wrap (i + 1)) ∧ ((z.shifts.length : Int) - IntKind.i64.wrap (i + 1)).toNat < ((z.shifts.length : Int) - i).toNat := fun a b c d => by
        refine ⟨hS q (hq.trans ((if_neg (no a b)).trans ((if_neg (fun e => e.2 (c e.1))).trans (if_neg ?_)))), hM q⟩
        rintro ⟨e1, e2⟩
        refine d e1 ?_
        rw [hw e1 q, show (i - 1).toNat = i.toNat - 1 by omega, i64w (by have := hP e1; omega) (by have := hP e1; omega)]
        exact e2
      have W : 0 < i → 0 ≤ IntKind.i64.wrap (i - 1) ∧ IntKind.i64.wrap (i - 1) < z.shifts.length := fun a => by rw [hw a q]; omega
      exact ⟨hi, q, fun a => ⟨fun b => A1 (.inr b), fun b => ⟨fun c => ⟨A3 a b c, fun d => ⟨fun e => ((by omega : False)).elim, fun e => A0 a b (fun _ => d) (fun e' => absurd e' e)⟩⟩, fun c => ⟨fun e => ⟨(W e).1, (W e).2, A7 a b e, fun f => A0 a b (fun c' => absurd c' c) (fun _ => f)⟩, fun e => ((by omega : False)).elim⟩⟩⟩, fun a => A1 (.inl a)⟩
set_option maxHeartbeats 4000000 in
theorem ZoneFault_ctr {cx : Cx} (h : Seat cx) : Ctr cx 14 zoneS := by
  refine ctr_of (fn := Tryd.f14) (l := [.tmp 2]) (envL [(28, (strB keyB)), (27, inS)]) [0, 1, 2, 3, 4, 5, 10, 15, 21, 22, 23, 24, 28, 39, 47] [] [] (envL_cons (Key_ctr h) (envL_cons (in_ctr h) (env0 h.hP))) ?_ (by rw [h.hP]; exact Tryd.func14) rfl (by kernel_rfl) rfl ?_ ?_
  · rw [h.hP]; exact ⟨_, Tryd.func14, by kernel_rfl, by kernel_rfl⟩
  · rintro xs ⟨z, rfl, h1⟩; exact ⟨_, z, rfl, rfl⟩
  · rintro xs ⟨z, rfl, h1⟩
    refine ⟨by rw [Tryd.ntmps14]; simp, ?_⟩
    simp only [go_sem, h.hP, List.cons_append, List.nil_append, Meets_e, Below_e, Prod.exists, exists_eq, exists_eq_left, exists_eq_left', exists_eq_right, exists_eq_right', exists_and_left, exists_and_right, Ob.arr.injEq, AV.own.injEq, AV.fv.injEq, zoneS_q, zoneS_p, zoneS_c, zoneS_f, strB_q, strB_p, strB_c, strB_f, TZone.row, TShift.len, Tryd.ntmps14, Nat.reduceEqDiff, reduceCtorEq, Nat.reduceMul, Nat.reduceAdd, Nat.reduceSub, Nat.reduceDiv, Nat.reduceMod, Nat.reduceLeDiff, Nat.reduceLT, Nat.reduceBNe, Nat.reduceBEq, reduceIte, Int.reduceLE, Int.reduceLT, Int.reduceToNat, Int.reduceNeg, Int.reduceAdd, Int.reduceSub, Int.reduceMul, Int.reduceEq]
    obtain ⟨o1, o2⟩ := h1
    unfold okS at o1
    refine ⟨by omega, fun c => (if_pos c).symm, fun c => ⟨fun d => ((if_neg (ne_ft c)).trans (if_pos (by omega))).symm, fun d => ⟨fun e => ((if_neg (ne_ft c)).trans ((if_neg (by omega)).trans (if_pos e))).symm, fun e => ?_⟩⟩⟩
    have hc : zoneF z = firstI z.shifts.length (shE z.shifts) := (if_neg (ne_ft c)).trans ((if_neg (by omega)).trans (if_neg e))
    rw [hc]
    refine vc_loopS (Int) (fun (i : Int) => [(23, .i i)]) [1] (fun (i : Int) => []) (fun (i : Int) => []) (fun (i : Int) => 0) (fun (i : Int) => Rounds z.shifts.length (shE z.shifts) i) (fun (i : Int) => (z.shifts.length - i).toNat) [] ?_ ?_
    · simp only [go_sem, h.hP, List.cons_append, List.nil_append, Meets_e, Below_e, Prod.exists, exists_eq, exists_eq_left, exists_eq_left', exists_eq_right, exists_eq_right', exists_and_left, exists_and_right, Ob.arr.injEq, AV.own.injEq, AV.fv.injEq, Tryd.ntmps14, Nat.reduceEqDiff, reduceCtorEq, Nat.reduceMul, Nat.reduceAdd, Nat.reduceSub, Nat.reduceDiv, Nat.reduceMod, Nat.reduceLeDiff, Nat.reduceLT, Nat.reduceBNe, Nat.reduceBEq, reduceIte, Int.reduceLE, Int.reduceLT, Int.reduceToNat, Int.reduceNeg, Int.reduceAdd, Int.reduceSub, Int.reduceMul, Int.reduceEq]
      exact Rounds.start
    · rintro i hr
      have hP : 0 < i → 0 ≤ (z.shifts.getD (i.toNat - 1) TShift.z).at_ ∧ (z.shifts.getD (i.toNat - 1) TShift.z).at_ ≤ 4321439 := fun a => by
        have := shE_in (hr.2.2 (i.toNat - 1) (by omega))
        exact ⟨this.1, this.2.1⟩
      obtain ⟨hi, hS, hM, hE, hN⟩ := hr.use (by omega)
      have hw : 0 < i → i < z.shifts.length → IntKind.i64.wrap (i - 1) = i - 1 := fun a b => i64w (by omega) (by omega)
      simp only [go_sem, h.hP, List.cons_append, List.nil_append, Meets_e, Below_e, Prod.exists, exists_eq, exists_eq_left, exists_eq_left', exists_eq_right, exists_eq_right', exists_and_left, exists_and_right, Ob.arr.injEq, AV.own.injEq, AV.fv.injEq, zoneS_q, zoneS_p, zoneS_c, zoneS_f, inS_q, inS_p, inS_c, inS_f, TZone.row, TShift.len, TShift.get, TShift.rows_inj, Tryd.ntmps14, Nat.reduceEqDiff, reduceCtorEq, Nat.reduceMul, Nat.reduceAdd, Nat.reduceSub, Nat.reduceDiv, Nat.reduceMod, Nat.reduceLeDiff, Nat.reduceLT, Nat.reduceBNe, Nat.reduceBEq, reduceIte, Int.reduceLE, Int.reduceLT, Int.reduceToNat, Int.reduceNeg, Int.reduceAdd, Int.reduceSub, Int.reduceMul, Int.reduceEq]
      refine ⟨fun q => ?_, fun q => (hN q).symm⟩
      have hq : shE z.shifts i.toNat = if inB (z.shifts.getD i.toNat TShift.z).at_ 0 4321439 = false ∨ inB (z.shifts.getD i.toNat TShift.z).offset (-720) 840 = false then 1 else if i = 0 ∧ ¬ (z.shifts.getD i.toNat TShift.z).at_ = 0 then 3 else if 0 < i ∧ (z.shifts.getD i.toNat TShift.z).at_ < (z.shifts.getD (i.toNat - 1) TShift.z).at_ + 1800 then 7 else 0 := by
        unfold shE
        rw [Int.toNat_of_nonneg hi]
        congr 2
        rw [show (i.toNat = 0) = (i = 0) from propext ⟨fun _ => by omega, fun _ => by omega⟩]
      have A1 : (inB (z.shifts.getD i.toNat TShift.z).at_ 0 4321439 = false ∨ inB (z.shifts.getD i.toNat TShift.z).offset (-720) 840 = false) → 1 = firstI z.shifts.length (shE z.shifts) := fun a => (hE 1 q (hq.trans (if_pos a)) (by decide)).symm
      have no : inB (z.shifts.getD i.toNat TShift.z).at_ 0 4321439 = true → inB (z.shifts.getD i.toNat TShift.z).offset (-720) 840 = true → ¬ (inB (z.shifts.getD i.toNat TShift.z).at_ 0 4321439 = false ∨ inB (z.shifts.getD i.toNat TShift.z).offset (-720) 840 = false) := fun a b c => c.elim (ne_ft a) (ne_ft b)
      have A3 : inB (z.shifts.getD i.toNat TShift.z).at_ 0 4321439 = true → inB (z.shifts.getD i.toNat TShift.z).offset (-720) 840 = true → i = 0 → ¬ (z.shifts.getD i.toNat TShift.z).at_ = 0 → 3 = firstI z.shifts.length (shE z.shifts) := fun a b c d => (hE 3 q (hq.trans ((if_neg (no a b)).trans (if_pos ⟨c, d⟩))) (by decide)).symm
      have A7 : inB (z.shifts.getD i.toNat TShift.z).at_ 0 4321439 = true → inB (z.shifts.getD i.toNat TShift.z).offset (-720) 840 = true → 0 < i → (z.shifts.getD i.toNat TShift.z).at_ < IntKind.i64.wrap ((z.shifts.getD (IntKind.i64.wrap (i - 1)).toNat TShift.z).at_ + 1800) → 7 = firstI z.shifts.length (shE z.shifts) := fun a b c d => by
        rw [hw c q, show (i - 1).toNat = i.toNat - 1 by omega, i64w (by have := hP c; omega) (by have := hP c; omega)] at d
        exact (hE 7 q (hq.trans ((if_neg (no a b)).trans ((if_neg (by omega)).trans (if_pos ⟨c, d⟩)))) (by decide)).symm
      have A0 : inB (z.shifts.getD i.toNat TShift.z).at_ 0 4321439 = true → inB (z.shifts.getD i.toNat TShift.z).offset (-720) 840 = true → (i = 0 → (z.shifts.getD i.toNat TShift.z).at_ = 0) → (0 < i → ¬ (z.shifts.getD i.toNat TShift.z).at_ < IntKind.i64.wrap ((z.shifts.getD (IntKind.i64.wrap (i - 1)).toNat TShift.z).at_ + 1800)) → Rounds z.shifts.length (shE z.shifts) (IntKind.i64.wrap (i + 1)) ∧ ((z.shifts.length : Int) - IntKind.i64.wrap (i + 1)).toNat < ((z.shifts.length : Int) - i).toNat := fun a b c d => by
        refine ⟨hS q (hq.trans ((if_neg (no a b)).trans ((if_neg (fun e => e.2 (c e.1))).trans (if_neg ?_)))), hM q⟩
        rintro ⟨e1, e2⟩
        refine d e1 ?_
        rw [hw e1 q, show (i - 1).toNat = i.toNat - 1 by omega, i64w (by have := hP e1; omega) (by have := hP e1; omega)]
        exact e2
      have W : 0 < i → 0 ≤ IntKind.i64.wrap (i - 1) ∧ IntKind.i64.wrap (i - 1) < z.shifts.length := fun a => by rw [hw a q]; omega
      exact ⟨hi, q, fun a => ⟨fun b => A1 (.inr b), fun b => ⟨fun c => ⟨A3 a b c, fun d => ⟨fun e => ((by omega : False)).elim, fun e => A0 a b (fun _ => d) (fun e' => absurd e' e)⟩⟩, fun c => ⟨fun e => ⟨(W e).1, (W e).2, A7 a b e, fun f => A0 a b (fun c' => absurd c' c) (fun _ => f)⟩, fun e => ((by omega : False)).elim⟩⟩⟩, fun a => A1 (.inl a)⟩

end Go.Avc

/- The reference's rules: poolFault, SendRulesFault: their contracts. No condition. -/
set_option linter.unusedVariables false
set_option linter.unusedSimpArgs false
set_option maxRecDepth 100000
namespace Go.Avc
open Go Go.Proofs

def outF (lo hi : Int) (l : List Int) (i : Nat) : Int := if (!inB (l.getD i 0) lo hi) = true then 1 else 0
theorem out_any (lo hi : Int) (l : List Int) : firstI l.length (outF lo hi l) = if (l.any fun n => !inB n lo hi) = true then 1 else 0 := any_first l 0 (fun n => !inB n lo hi) (by decide)
theorem outF_1 {lo hi : Int} {l : List Int} {i : Nat} (h : inB (l.getD i 0) lo hi = false) : outF lo hi l i = 1 := if_pos (by rw [h]; rfl)
theorem outF_0 {lo hi : Int} {l : List Int} {i : Nat} (h : inB (l.getD i 0) lo hi = true) : outF lo hi l i = 0 := if_neg (by rw [h]; decide)
def poolFaultS  : Spec where
  pre xs := ∃ (l : List TPool) (p : TPool), xs = [.sl (TPool.rows l), .dv (.ag p.row)] ∧ (l.length ≤ 1048576 ∧ p.ok)
  post xs y := ∃ (l : List TPool) (p : TPool), xs = [.sl (TPool.rows l), .dv (.ag p.row)] ∧ y = .i (poolF l p)
  cost _ := 0
  fresh := true
theorem poolFaultS_c  (xs : List AV) : (poolFaultS).cost xs = 0 := nr rfl
theorem poolFaultS_f  : (poolFaultS).fresh = true := nr rfl
theorem poolFaultS_q  (l : List TPool) (p : TPool) : (poolFaultS).pre [.sl (TPool.rows l), .dv (.ag [.str p.name, .int .i64 p.channel, .int .i64 p.perMinute, .int .i64 p.first, .sl (intsD p.warm)])] = (l.length ≤ 1048576 ∧ p.ok) := propext ⟨fun h => by
  have h' : ∃ (l' : List TPool) (p' : TPool), ([.sl (TPool.rows l), .dv (.ag p.row)] : List AV) = [.sl (TPool.rows l'), .dv (.ag p'.row)] ∧ (l'.length ≤ 1048576 ∧ p'.ok) := h
  obtain ⟨l', p', e, h⟩ := h'
  simp only [List.cons.injEq, AV.dv.injEq, AV.fv.injEq, DV.d.injEq, DV.ag.injEq, D.int.injEq, D.str.injEq, D.bool.injEq, D.sl.injEq, true_and, and_true, intsDi_inj, rowsT_inj, rowsKi_inj, TPool.row_inj, TPool.rows_inj, TPool.row_inj, TPool.rows_inj] at e
  obtain ⟨rfl, rfl⟩ := e
  exact h, fun h => ⟨l, p, rfl, h⟩⟩
theorem poolFaultS_p  (l : List TPool) (p : TPool) : (poolFaultS).post [.sl (TPool.rows l), .dv (.ag [.str p.name, .int .i64 p.channel, .int .i64 p.perMinute, .int .i64 p.first, .sl (intsD p.warm)])] = fun y => y = .i (poolF l p) := funext fun y => propext ⟨fun h => by
  have h' : ∃ (l' : List TPool) (p' : TPool), ([.sl (TPool.rows l), .dv (.ag p.row)] : List AV) = [.sl (TPool.rows l'), .dv (.ag p'.row)] ∧ y = .i (poolF l' p') := h
  obtain ⟨l', p', e, h⟩ := h'
  simp only [List.cons.injEq, AV.dv.injEq, AV.fv.injEq, DV.d.injEq, DV.ag.injEq, D.int.injEq, D.str.injEq, D.bool.injEq, D.sl.injEq, true_and, and_true, intsDi_inj, rowsT_inj, rowsKi_inj, TPool.row_inj, TPool.rows_inj, TPool.row_inj, TPool.rows_inj] at e
  obtain ⟨rfl, rfl⟩ := e
  exact h, fun h => ⟨l, p, rfl, h⟩⟩
set_option maxHeartbeats 4000000 in
theorem poolFault_ctr {cx : Cx} (h : Seat cx) : Ctr cx 30 poolFaultS := by
  refine ctr_of (fn := Tryd.f30) (l := [.tmp 4]) (envF [(28, (strB keyB)), (27, inS), (63, (conFS DV.ag [.str ⟨#[]⟩, .int .i64 0, .int .i64 0, .int .i64 0, .sl []]))] [(64, poolΦ)]) [0, 1, 3, 4, 6, 7, 12, 16, 21, 32, 38, 39, 40, 41, 46] [] [] (envF_cons (clo_of (poolFault1_ctr h)) (envF_nil (envL_cons (Key_ctr h) (envL_cons (in_ctr h) (envL_cons (containsFunc_TPool h) (env0 h.hP)))))) ?_ (by rw [h.hP]; exact Tryd.func30) rfl (by kernel_rfl) rfl ?_ ?_
  · rw [h.hP]; exact ⟨_, Tryd.func30, by kernel_rfl, by kernel_rfl⟩
  · rintro xs ⟨l, p, rfl, h1⟩; exact ⟨_, l, p, rfl, rfl⟩
  · rintro xs ⟨l, p, rfl, h1, h2⟩
    obtain ⟨o1, o2, o3, o4, o5⟩ := h2
    refine ⟨by rw [Tryd.ntmps30]; simp, ?_⟩
    simp only [go_sem, h.hP, List.cons_append, List.nil_append, Meets_e, Below_e, Prod.exists, exists_eq, exists_eq_left, exists_eq_left', exists_eq_right, exists_eq_right', exists_and_left, exists_and_right, Ob.arr.injEq, AV.own.injEq, AV.fv.injEq, poolFaultS_q, poolFaultS_p, poolFaultS_c, poolFaultS_f, strB_q, strB_p, strB_c, strB_f, inS_q, inS_p, inS_c, inS_f, conFS, TPool.row, TPool.len, TPool.get, TPool.zlT, TPool.any, TPool.rows_inj, intsD_len, intsD_get, poolΦ_h, poolΦ_hl, poolΦ_d, Tryd.ntmps30, Nat.reduceEqDiff, reduceCtorEq, Nat.reduceMul, Nat.reduceAdd, Nat.reduceSub, Nat.reduceDiv, Nat.reduceMod, Nat.reduceLeDiff, Nat.reduceLT, Nat.reduceBNe, Nat.reduceBEq, reduceIte, Int.reduceLE, Int.reduceLT, Int.reduceToNat, Int.reduceNeg, Int.reduceAdd, Int.reduceSub, Int.reduceMul, Int.reduceEq]
    unfold okS at o1
    refine ⟨by omega, fun c1 => (if_pos c1).symm, fun c1 => ⟨by omega, fun c2 => ((if_neg (ne_ft c1)).trans (if_pos c2)).symm, fun c2 => ⟨fun c3 => ((if_neg (ne_ft c1)).trans ((if_neg (ne_tf c2)).trans (if_pos c3))).symm, fun c3 => ?_⟩⟩⟩
    have e0 : poolF l p = if inB p.perMinute 1 10000 = false ∨ inB p.first 0 3000 = false then 1 else if 60 < (p.warm.length : Int) then 2 else if (p.warm.any fun n => !inB n 0 1000000) = true then 1 else 0 := (if_neg (ne_ft c1)).trans ((if_neg (ne_tf c2)).trans (if_neg (ne_ft c3)))
    rw [e0]
    refine ⟨fun c4 => ⟨fun c5 => (if_pos (.inr c5)).symm, fun c5 => ?_⟩, fun c4 => (if_pos (.inl c4)).symm⟩
    rw [if_neg (fun e => e.elim (ne_ft c4) (ne_ft c5))]
    refine ⟨fun c6 => (if_pos c6).symm, fun c6 => ?_⟩
    rw [if_neg c6, ← out_any 0 1000000 p.warm]
    refine vc_loopS (Int) (fun (i : Int) => [(40, .i i)]) [3] (fun (i : Int) => []) (fun (i : Int) => []) (fun (i : Int) => 0) (fun (i : Int) => Rounds p.warm.length (outF 0 1000000 p.warm) i) (fun (i : Int) => (p.warm.length - i).toNat) [] ?_ ?_
    · simp only [go_sem, h.hP, List.cons_append, List.nil_append, Meets_e, Below_e, Prod.exists, exists_eq, exists_eq_left, exists_eq_left', exists_eq_right, exists_eq_right', exists_and_left, exists_and_right, Ob.arr.injEq, AV.own.injEq, AV.fv.injEq, Tryd.ntmps30, Nat.reduceEqDiff, reduceCtorEq, Nat.reduceMul, Nat.reduceAdd, Nat.reduceSub, Nat.reduceDiv, Nat.reduceMod, Nat.reduceLeDiff, Nat.reduceLT, Nat.reduceBNe, Nat.reduceBEq, reduceIte, Int.reduceLE, Int.reduceLT, Int.reduceToNat, Int.reduceNeg, Int.reduceAdd, Int.reduceSub, Int.reduceMul, Int.reduceEq]
      exact Rounds.start
    · rintro i hr
      obtain ⟨hi, hS, hM, hE, hN⟩ := hr.use (by omega)
      simp only [go_sem, h.hP, List.cons_append, List.nil_append, Meets_e, Below_e, Prod.exists, exists_eq, exists_eq_left, exists_eq_left', exists_eq_right, exists_eq_right', exists_and_left, exists_and_right, Ob.arr.injEq, AV.own.injEq, AV.fv.injEq, poolFaultS_q, poolFaultS_p, poolFaultS_c, poolFaultS_f, strB_q, strB_p, strB_c, strB_f, inS_q, inS_p, inS_c, inS_f, TPool.row, intsD_len, intsD_get, TPool.rows_inj, intsDi_inj, Tryd.ntmps30, Nat.reduceEqDiff, reduceCtorEq, Nat.reduceMul, Nat.reduceAdd, Nat.reduceSub, Nat.reduceDiv, Nat.reduceMod, Nat.reduceLeDiff, Nat.reduceLT, Nat.reduceBNe, Nat.reduceBEq, reduceIte, Int.reduceLE, Int.reduceLT, Int.reduceToNat, Int.reduceNeg, Int.reduceAdd, Int.reduceSub, Int.reduceMul, Int.reduceEq]
      refine ⟨fun c => ⟨hi, c, fun d => (hE 1 c (outF_1 d) (by decide)).symm, fun d => ⟨hS c (outF_0 d), hM c⟩⟩, fun c => (hN c).symm⟩
set_option maxHeartbeats 8000000 in
theorem SendRulesFault_ctr {cx : Cx} (h : Seat cx) : Ctr cx 13 rulesS := by
  refine ctr_of (fn := Tryd.f13) (l := [.tmp 2]) (envL [(28, (strB keyB)), (27, inS), (29, con_stringS), (30, poolFaultS)]) [0, 1, 2, 3, 4, 5, 6, 8, 9, 10, 11, 13, 15, 16, 17, 18, 24, 36, 47, 51, 53, 54, 55, 56, 62, 68, 73, 75, 76, 77, 78, 81, 86, 96, 111, 113, 114, 115, 116, 127, 133, 135, 136, 137, 138, 143] [] [] (envL_cons (Key_ctr h) (envL_cons (in_ctr h) (envL_cons (contains_string h) (envL_cons (poolFault_ctr h) (env0 h.hP))))) ?_ (by rw [h.hP]; exact Tryd.func13) rfl (by kernel_rfl) rfl ?_ ?_
  · rw [h.hP]; exact ⟨_, Tryd.func13, by kernel_rfl, by kernel_rfl⟩
  · rintro xs ⟨r, rfl, h1⟩; exact ⟨_, r, rfl, rfl⟩
  · rintro xs ⟨r, rfl, h1⟩
    obtain ⟨o1, o2, o3, o4, o5, o6, o7⟩ := h1
    refine ⟨by rw [Tryd.ntmps13]; simp, ?_⟩
    simp only [go_sem, h.hP, List.cons_append, List.nil_append, Meets_e, Below_e, Prod.exists, exists_eq, exists_eq_left, exists_eq_left', exists_eq_right, exists_eq_right', exists_and_left, exists_and_right, Ob.arr.injEq, AV.own.injEq, AV.fv.injEq, rulesS_q, rulesS_p, rulesS_c, rulesS_f, TSendRules.row, intsD_len, Tryd.ntmps13, Nat.reduceEqDiff, reduceCtorEq, Nat.reduceMul, Nat.reduceAdd, Nat.reduceSub, Nat.reduceDiv, Nat.reduceMod, Nat.reduceLeDiff, Nat.reduceLT, Nat.reduceBNe, Nat.reduceBEq, reduceIte, Int.reduceLE, Int.reduceLT, Int.reduceToNat, Int.reduceNeg, Int.reduceAdd, Int.reduceSub, Int.reduceMul, Int.reduceEq]
    refine vc_loopS (Int) (fun (i : Int) => [(17, .i i)]) [1] (fun (i : Int) => []) (fun (i : Int) => []) (fun (i : Int) => 0) (fun (i : Int) => Rounds r.quiet.length (quietF r.quiet) i) (fun (i : Int) => (r.quiet.length - i).toNat) [] ?_ ?_
    · simp only [go_sem, h.hP, List.cons_append, List.nil_append, Meets_e, Below_e, Prod.exists, exists_eq, exists_eq_left, exists_eq_left', exists_eq_right, exists_eq_right', exists_and_left, exists_and_right, Ob.arr.injEq, AV.own.injEq, AV.fv.injEq, Tryd.ntmps13, Nat.reduceEqDiff, reduceCtorEq, Nat.reduceMul, Nat.reduceAdd, Nat.reduceSub, Nat.reduceDiv, Nat.reduceMod, Nat.reduceLeDiff, Nat.reduceLT, Nat.reduceBNe, Nat.reduceBEq, reduceIte, Int.reduceLE, Int.reduceLT, Int.reduceToNat, Int.reduceNeg, Int.reduceAdd, Int.reduceSub, Int.reduceMul, Int.reduceEq]
      exact Rounds.start
    · rintro i hr
      obtain ⟨hi, hS, hM, hE, hN⟩ := hr.use (by have := o1.1; omega)
      simp only [go_sem, h.hP, List.cons_append, List.nil_append, Meets_e, Below_e, Prod.exists, exists_eq, exists_eq_left, exists_eq_left', exists_eq_right, exists_eq_right', exists_and_left, exists_and_right, Ob.arr.injEq, AV.own.injEq, AV.fv.injEq, rulesS_q, rulesS_p, rulesS_c, rulesS_f, inS_q, inS_p, inS_c, inS_f, TSendRules.row, intsD_len, intsD_get, rowsT_len, Tryd.ntmps13, Nat.reduceEqDiff, reduceCtorEq, Nat.reduceMul, Nat.reduceAdd, Nat.reduceSub, Nat.reduceDiv, Nat.reduceMod, Nat.reduceLeDiff, Nat.reduceLT, Nat.reduceBNe, Nat.reduceBEq, reduceIte, Int.reduceLE, Int.reduceLT, Int.reduceToNat, Int.reduceNeg, Int.reduceAdd, Int.reduceSub, Int.reduceMul, Int.reduceEq]
      have hw : 0 < i → i < r.quiet.length → IntKind.i64.wrap (i - 1) = i - 1 := fun a b => by have := o1.1; exact i64w (by omega) (by omega)
      have hq : i < r.quiet.length → quietF r.quiet i.toNat = if inB (r.quiet.getD i.toNat 0) 1 4 = false then 4 else if 0 < i ∧ r.quiet.getD i.toNat 0 ≤ r.quiet.getD (i - 1).toNat 0 then 7 else 0 := fun a => by
        unfold quietF
        rw [Int.toNat_of_nonneg hi, show i.toNat - 1 = (i - 1).toNat by omega]
      have hE' : ∀ e, i < r.quiet.length → quietF r.quiet i.toNat = e → e ≠ 0 → e = rulesF r := fun e a b d => by
        have := hE e a b d
        unfold rulesF
        rw [this]; exact (orE_l d).symm
      refine ⟨fun c => ⟨hi, c, fun c1 => ?_, fun c1 => ⟨fun c2 => ?_, fun c2 => ?_⟩⟩, fun c => ?_⟩
      · exact hE' 4 c (by rw [hq c, if_pos c1]) (by decide)
      · rw [hw c2 c]
        refine ⟨by omega, by omega, fun c3 => hE' 7 c (by rw [hq c, if_neg (ne_ft c1), if_pos ⟨c2, c3⟩]) (by decide), fun c3 => ⟨hS c (by rw [hq c, if_neg (ne_ft c1), if_neg (fun e => c3 e.2)]), hM c⟩⟩
      · exact ⟨hS c (by rw [hq c, if_neg (ne_ft c1), if_neg (fun e => c2 e.1)]), hM c⟩
      · have hR : rulesF r = rules1F r := by unfold rulesF; exact orE_r (hN c)
        rw [hR]
        clear hS hM hE hN hw hq hE' hR hr
        refine ⟨fun c1 => ⟨fun c2 => ?_, fun c2 => ⟨fun c3 => ?_, fun c3 => ?_⟩⟩, fun c1 => ?_⟩
        · exact (if_pos (.inr c2)).symm
        · exact ((if_neg (by simp [c1, c2])).trans (if_pos c3)).symm
        · have hR : rules1F r = rules2F r := (if_neg (by simp [c1, c2])).trans (if_neg c3)
          rw [hR]
          clear hR
          refine vc_loopS (Int) (fun (j : Int) => [(55, .i j)]) [1] (fun (j : Int) => []) (fun (j : Int) => []) (fun (j : Int) => 0) (fun (j : Int) => Rounds r.ranks.length (rankF r.ranks) j) (fun (j : Int) => (r.ranks.length - j).toNat) [] ?_ ?_
          · simp only [go_sem, h.hP, List.cons_append, List.nil_append, Meets_e, Below_e, Prod.exists, exists_eq, exists_eq_left, exists_eq_left', exists_eq_right, exists_eq_right', exists_and_left, exists_and_right, Ob.arr.injEq, AV.own.injEq, AV.fv.injEq, Tryd.ntmps13, Nat.reduceEqDiff, reduceCtorEq, Nat.reduceMul, Nat.reduceAdd, Nat.reduceSub, Nat.reduceDiv, Nat.reduceMod, Nat.reduceLeDiff, Nat.reduceLT, Nat.reduceBNe, Nat.reduceBEq, reduceIte, Int.reduceLE, Int.reduceLT, Int.reduceToNat, Int.reduceNeg, Int.reduceAdd, Int.reduceSub, Int.reduceMul, Int.reduceEq]
            exact Rounds.start
          · rintro j hr
            obtain ⟨hj, hS, hM, hE, hN⟩ := hr.use (by have := o4.1; omega)
            simp only [go_sem, h.hP, List.cons_append, List.nil_append, Meets_e, Below_e, Prod.exists, exists_eq, exists_eq_left, exists_eq_left', exists_eq_right, exists_eq_right', exists_and_left, exists_and_right, Ob.arr.injEq, AV.own.injEq, AV.fv.injEq, rulesS_q, rulesS_p, rulesS_c, rulesS_f, strB_q, strB_p, strB_c, strB_f, con_stringS_q, con_stringS_p, con_stringS_c, con_stringS_f, TSendRules.row, rowsT_len, rowsT_get, rowsT_take, rowsT_inj, rowsT_zlT, TCap.len, Tryd.ntmps13, Nat.reduceEqDiff, reduceCtorEq, Nat.reduceMul, Nat.reduceAdd, Nat.reduceSub, Nat.reduceDiv, Nat.reduceMod, Nat.reduceLeDiff, Nat.reduceLT, Nat.reduceBNe, Nat.reduceBEq, reduceIte, Int.reduceLE, Int.reduceLT, Int.reduceToNat, Int.reduceNeg, Int.reduceAdd, Int.reduceSub, Int.reduceMul, Int.reduceEq]
            have hE' : ∀ e, j < r.ranks.length → rankF r.ranks j.toNat = e → e ≠ 0 → e = rules2F r := fun e a b d => by
              have := hE e a b d
              unfold rules2F
              rw [this]; exact (orE_l d).symm
            have hk : (r.ranks.getD j.toNat ⟨#[]⟩).size ≤ 1073741824 := okL_get o4 okS_z _
            have hz : (r.ranks.take j.toNat).length ≤ r.ranks.length := List.length_take_le' _ _
            have hl := o4.1
            refine ⟨fun c => ⟨hj, c, by omega, fun d1 => ?_, fun d1 => ⟨hj, by omega, by omega, fun d2 => ?_, fun d2 => ?_⟩⟩, fun c => ?_⟩
            · exact hE' 5 c (if_pos d1) (by decide)
            · exact hE' 6 c ((if_neg (ne_ft d1)).trans (if_pos d2)) (by decide)
            · exact ⟨hS c ((if_neg (ne_ft d1)).trans (if_neg (by rw [d2]; decide))), hM c⟩
            · clear hS hM hE hE' hr
              have hR : rules2F r = orE (capsF r.caps) (orE (poolsF r.pools) (delF r.delays)) := orE_r (hN c)
              rw [hR]
              clear hR hN
              refine ⟨fun d1 => ?_, fun d1 => ?_⟩
              · have : capsF r.caps = 2 := if_pos d1
                rw [this]; rfl
              · have hcp : capsF r.caps = firstI r.caps.length fun i => capF (r.caps.getD i TCap.z) := if_neg d1
                rw [hcp]
                refine vc_loopS (Int) (fun (k : Int) => [(77, .i k)]) [1] (fun (k : Int) => []) (fun (k : Int) => []) (fun (k : Int) => 0) (fun (k : Int) => Rounds r.caps.length (fun i => capF (r.caps.getD i TCap.z)) k) (fun (k : Int) => (r.caps.length - k).toNat) [] ?_ ?_
                · simp only [go_sem, h.hP, List.cons_append, List.nil_append, Meets_e, Below_e, Prod.exists, exists_eq, exists_eq_left, exists_eq_left', exists_eq_right, exists_eq_right', exists_and_left, exists_and_right, Ob.arr.injEq, AV.own.injEq, AV.fv.injEq, Tryd.ntmps13, Nat.reduceEqDiff, reduceCtorEq, Nat.reduceMul, Nat.reduceAdd, Nat.reduceSub, Nat.reduceDiv, Nat.reduceMod, Nat.reduceLeDiff, Nat.reduceLT, Nat.reduceBNe, Nat.reduceBEq, reduceIte, Int.reduceLE, Int.reduceLT, Int.reduceToNat, Int.reduceNeg, Int.reduceAdd, Int.reduceSub, Int.reduceMul, Int.reduceEq]
                  exact Rounds.start
                · rintro k hr
                  obtain ⟨hk0, hS, hM, hE, hN⟩ := hr.use (by have := o5.1; omega)
                  have ho : (r.caps.getD k.toNat TCap.z).ok := okL_get o5 TCap.z_ok _
                  simp only [go_sem, h.hP, List.cons_append, List.nil_append, Meets_e, Below_e, Prod.exists, exists_eq, exists_eq_left, exists_eq_left', exists_eq_right, exists_eq_right', exists_and_left, exists_and_right, Ob.arr.injEq, AV.own.injEq, AV.fv.injEq, rulesS_q, rulesS_p, rulesS_c, rulesS_f, strB_q, strB_p, strB_c, strB_f, inS_q, inS_p, inS_c, inS_f, TSendRules.row, TCap.get, TCap.len, TPool.len, str_nil, Tryd.ntmps13, Nat.reduceEqDiff, reduceCtorEq, Nat.reduceMul, Nat.reduceAdd, Nat.reduceSub, Nat.reduceDiv, Nat.reduceMod, Nat.reduceLeDiff, Nat.reduceLT, Nat.reduceBNe, Nat.reduceBEq, reduceIte, Int.reduceLE, Int.reduceLT, Int.reduceToNat, Int.reduceNeg, Int.reduceAdd, Int.reduceSub, Int.reduceMul, Int.reduceEq]
                  have hE' : ∀ e, k < r.caps.length → capF (r.caps.getD k.toNat TCap.z) = e → e ≠ 0 → e = orE (firstI r.caps.length fun i => capF (r.caps.getD i TCap.z)) (orE (poolsF r.pools) (delF r.delays)) := fun e a b d => by
                    have := hE e a b d
                    rw [this]; exact (orE_l d).symm
                  have hQ : ¬ k < r.caps.length → orE (firstI r.caps.length fun i => capF (r.caps.getD i TCap.z)) (orE (poolsF r.pools) (delF r.delays)) = orE (poolsF r.pools) (delF r.delays) := fun a => orE_r (hN a)
                  generalize r.caps.getD k.toNat TCap.z = x at hS hE' ho
                  obtain ⟨p1, p2, p3, p4⟩ := ho
                  unfold okS at p2
                  refine ⟨fun e1 => ⟨hk0, e1, ?_⟩, fun e1 => ?_⟩
                  · clear hE hN hQ hr
                    have n1 : ¬ x.purpose.size = 0 → noneB x.purpose = keyB x.purpose := fun h => by simp [noneB, h]
                    have n2 : x.purpose.size = 0 → noneB x.purpose = true := fun h => by simp [noneB, h]
                    have g : inB x.channel 0 4 = true → noneB x.purpose = true → capF x = if inB x.many 1 1000 = false ∨ inB x.within 1 100000 = false then 1 else 0 := fun a b => (if_neg (ne_ft a)).trans (if_neg (ne_ft b))
                    refine ⟨fun a => hE' 4 e1 (if_pos a) (by decide), fun a => ⟨fun s => ⟨by omega, fun k0 => hE' 5 e1 ((if_neg (ne_ft a)).trans (if_pos ((n1 s).trans k0))) (by decide), fun k1 => ?_⟩, fun s => ?_⟩⟩
                    · have b := (n1 s).trans k1
                      exact ⟨fun m1 => ⟨fun w1 => hE' 1 e1 ((g a b).trans (if_pos (.inr w1))) (by decide), fun w1 => ⟨hS e1 ((g a b).trans (if_neg (fun e => e.elim (ne_ft m1) (ne_ft w1)))), hM e1⟩⟩, fun m1 => hE' 1 e1 ((g a b).trans (if_pos (.inl m1))) (by decide)⟩
                    · have b := n2 s
                      exact ⟨fun m1 => ⟨fun w1 => hE' 1 e1 ((g a b).trans (if_pos (.inr w1))) (by decide), fun w1 => ⟨hS e1 ((g a b).trans (if_neg (fun e => e.elim (ne_ft m1) (ne_ft w1)))), hM e1⟩⟩, fun m1 => hE' 1 e1 ((g a b).trans (if_pos (.inl m1))) (by decide)⟩
                  · rw [hQ e1]
                    clear hE' hS hM hE hN hQ hr
                    refine ⟨fun d2 => ?_, fun d2 => ?_⟩
                    · have : poolsF r.pools = 2 := if_pos d2
                      rw [this]; rfl
                    · have hpp : poolsF r.pools = firstI r.pools.length fun i => poolF (r.pools.take i) (r.pools.getD i TPool.z) := if_neg d2
                      rw [hpp]
                      refine vc_loopS (Int) (fun (m : Int) => [(115, .i m)]) [1] (fun (m : Int) => []) (fun (m : Int) => []) (fun (m : Int) => 0) (fun (m : Int) => Rounds r.pools.length (fun i => poolF (r.pools.take i) (r.pools.getD i TPool.z)) m) (fun (m : Int) => (r.pools.length - m).toNat) [] ?_ ?_
                      · simp only [go_sem, h.hP, List.cons_append, List.nil_append, Meets_e, Below_e, Prod.exists, exists_eq, exists_eq_left, exists_eq_left', exists_eq_right, exists_eq_right', exists_and_left, exists_and_right, Ob.arr.injEq, AV.own.injEq, AV.fv.injEq, Tryd.ntmps13, Nat.reduceEqDiff, reduceCtorEq, Nat.reduceMul, Nat.reduceAdd, Nat.reduceSub, Nat.reduceDiv, Nat.reduceMod, Nat.reduceLeDiff, Nat.reduceLT, Nat.reduceBNe, Nat.reduceBEq, reduceIte, Int.reduceLE, Int.reduceLT, Int.reduceToNat, Int.reduceNeg, Int.reduceAdd, Int.reduceSub, Int.reduceMul, Int.reduceEq]
                        exact Rounds.start
                      · rintro m hr
                        obtain ⟨hm0, hS, hM, hE, hN⟩ := hr.use (by have := o6.1; omega)
                        have ho : (r.pools.getD m.toNat TPool.z).ok := okL_get o6 TPool.z_ok _
                        have hz : (r.pools.take m.toNat).length ≤ r.pools.length := List.length_take_le' _ _
                        have hl := o6.1
                        simp only [go_sem, h.hP, List.cons_append, List.nil_append, Meets_e, Below_e, Prod.exists, exists_eq, exists_eq_left, exists_eq_left', exists_eq_right, exists_eq_right', exists_and_left, exists_and_right, Ob.arr.injEq, AV.own.injEq, AV.fv.injEq, rulesS_q, rulesS_p, rulesS_c, rulesS_f, poolFaultS_q, poolFaultS_p, poolFaultS_c, poolFaultS_f, TSendRules.row, TPool.get, TPool.len, TPool.rtake, TPool.zlT, intsD_len, Tryd.ntmps13, Nat.reduceEqDiff, reduceCtorEq, Nat.reduceMul, Nat.reduceAdd, Nat.reduceSub, Nat.reduceDiv, Nat.reduceMod, Nat.reduceLeDiff, Nat.reduceLT, Nat.reduceBNe, Nat.reduceBEq, reduceIte, Int.reduceLE, Int.reduceLT, Int.reduceToNat, Int.reduceNeg, Int.reduceAdd, Int.reduceSub, Int.reduceMul, Int.reduceEq]
                        have hE' : ∀ e, m < r.pools.length → poolF (r.pools.take m.toNat) (r.pools.getD m.toNat TPool.z) = e → e ≠ 0 → e = orE (firstI r.pools.length fun i => poolF (r.pools.take i) (r.pools.getD i TPool.z)) (delF r.delays) := fun e a b d => by
                          have := hE e a b d
                          rw [this]; exact (orE_l d).symm
                        have hQ : ¬ m < r.pools.length → orE (firstI r.pools.length fun i => poolF (r.pools.take i) (r.pools.getD i TPool.z)) (delF r.delays) = delF r.delays := fun a => orE_r (hN a)
                        refine ⟨fun e2 => ⟨hm0, e2, hm0, by omega, by omega, ho, fun d3 => hE' _ e2 rfl d3, fun d3 => ⟨hS e2 d3, hM e2⟩⟩, fun e2 => ?_⟩
                        rw [hQ e2]
                        clear hE' hS hM hE hN hQ hr
                        refine ⟨fun d3 => (if_pos d3).symm, fun d3 => ?_⟩
                        have hdd : delF r.delays = firstI r.delays.length (outF 1 100000 r.delays) := by
                          rw [out_any]; exact if_neg d3
                        rw [hdd]
                        refine vc_loopS (Int) (fun (q : Int) => [(137, .i q)]) [1] (fun (q : Int) => []) (fun (q : Int) => []) (fun (q : Int) => 0) (fun (q : Int) => Rounds r.delays.length (outF 1 100000 r.delays) q) (fun (q : Int) => (r.delays.length - q).toNat) [] ?_ ?_
                        · simp only [go_sem, h.hP, List.cons_append, List.nil_append, Meets_e, Below_e, Prod.exists, exists_eq, exists_eq_left, exists_eq_left', exists_eq_right, exists_eq_right', exists_and_left, exists_and_right, Ob.arr.injEq, AV.own.injEq, AV.fv.injEq, Tryd.ntmps13, Nat.reduceEqDiff, reduceCtorEq, Nat.reduceMul, Nat.reduceAdd, Nat.reduceSub, Nat.reduceDiv, Nat.reduceMod, Nat.reduceLeDiff, Nat.reduceLT, Nat.reduceBNe, Nat.reduceBEq, reduceIte, Int.reduceLE, Int.reduceLT, Int.reduceToNat, Int.reduceNeg, Int.reduceAdd, Int.reduceSub, Int.reduceMul, Int.reduceEq]
                          exact Rounds.start
                        · rintro q hr
                          obtain ⟨hq0, hS, hM, hE, hN⟩ := hr.use (by have := o7.1; omega)
                          simp only [go_sem, h.hP, List.cons_append, List.nil_append, Meets_e, Below_e, Prod.exists, exists_eq, exists_eq_left, exists_eq_left', exists_eq_right, exists_eq_right', exists_and_left, exists_and_right, Ob.arr.injEq, AV.own.injEq, AV.fv.injEq, rulesS_q, rulesS_p, rulesS_c, rulesS_f, inS_q, inS_p, inS_c, inS_f, TSendRules.row, intsD_len, intsD_get, Tryd.ntmps13, Nat.reduceEqDiff, reduceCtorEq, Nat.reduceMul, Nat.reduceAdd, Nat.reduceSub, Nat.reduceDiv, Nat.reduceMod, Nat.reduceLeDiff, Nat.reduceLT, Nat.reduceBNe, Nat.reduceBEq, reduceIte, Int.reduceLE, Int.reduceLT, Int.reduceToNat, Int.reduceNeg, Int.reduceAdd, Int.reduceSub, Int.reduceMul, Int.reduceEq]
                          exact ⟨fun e3 => ⟨hq0, e3, fun d => (hE 1 e3 (outF_1 d) (by decide)).symm, fun d => ⟨hS e3 (outF_0 d), hM e3⟩⟩, fun e3 => (hN e3).symm⟩
        · exact (if_pos (.inl c1)).symm
end Go.Avc

/- The generators of zones: their contracts. No condition. -/
set_option linter.unusedVariables false
set_option linter.unusedSimpArgs false
set_option maxRecDepth 100000
namespace Go.Avc
open Go Go.Proofs

theorem isIn_in {x : Int} {l : List Int} (h : isIn x l) {a b : Int} (hb : l.all (fun y => decide (a ≤ y ∧ y ≤ b)) = true) : a ≤ x ∧ x ≤ b := by
  have := List.all_eq_true.1 hb x h
  simpa using this
def okSh (c : TShift) : Prop := c.ok ∧ 0 ≤ c.at_ ∧ c.at_ ≤ 200000
def zoneG : Spec where
  pre xs := xs = [.st]
  post xs y := ∃ z : TZone, z.ok ∧ (∀ c ∈ z.shifts, okSh c) ∧ (1 ≤ z.shifts.length ∧ z.shifts.length ≤ 4) ∧ y = .dv (.ag z.row)
  cost _ := 100
  fresh := false
set_option maxHeartbeats 16000000 in
theorem RightZone_ctr {cx : Cx} (h : Seat cx) : CtrO cx 23 zoneG 65 2002 := by
  refine ctrZ_of (fn := Tryd.f23) (t := 2) (T := 34) (j := 1) (z := 2) (envL [(9, pickS), (21, oneS)]) [0, 2, 3, 4, 16, 17, 18] [] [] (envL_cons (pick_ctr cx h.hP h.hS) (envL_cons (one_ctr h) (env0 h.hP))) ?_ (by rw [h.hP]; exact Tryd.func23) rfl (by kernel_rfl) rfl ?_ (by decide)
  · rw [h.hP]; exact ⟨_, Tryd.func23, by kernel_rfl, by kernel_rfl⟩
  · rintro xs rfl
    refine ⟨by rw [Tryd.ntmps23]; simp, ?_⟩
    simp only [go_sem, h.hP, List.cons_append, List.nil_append, Meets_e, Below_e, Prod.exists, exists_eq, exists_eq_left, exists_eq_left', exists_eq_right, exists_eq_right', exists_and_left, exists_and_right, Ob.arr.injEq, AV.own.injEq, AV.fv.injEq, zoneG, pickS_q, pickS_p, pickS_c, pickS_f, oneS_q, oneS_p, oneS_c, oneS_f, ints1, intsc, strs1, strsc, intsDi_inj, rowsT_inj, TShift.fold1, Tryd.ntmps23, Nat.reduceEqDiff, reduceCtorEq, Nat.reduceMul, Nat.reduceAdd, Nat.reduceSub, Nat.reduceDiv, Nat.reduceMod, Nat.reduceLeDiff, Nat.reduceLT, Nat.reduceBNe, Nat.reduceBEq, reduceIte, Int.reduceLE, Int.reduceLT, Int.reduceToNat, Int.reduceNeg, Int.reduceAdd, Int.reduceSub, Int.reduceMul, Int.reduceEq]
    intro a ha b hb n hn
    have hn2 := isIn_le hn (b := 3) (by decide)
    have ha2 := okS_of (isOf_ok ha (by decide))
    have hb2 := isIn_ok hb (by decide)
    refine vc_loopS (Int × Int × List TShift) (fun x => [(17, .i x.1), (4, .i x.2.1)]) [2, 3] (fun x => if x.1 = 0 then [(3, 1, .lit 65 (TShift.rows x.2.2))] else [(3, 1, .own 10301)]) (fun x => if x.1 = 0 then [] else [(10301, .arr 65 2 (TShift.rows x.2.2))]) (fun x => 10 + 4 * x.1.toNat) (fun x => 0 ≤ x.1 ∧ x.1 ≤ 3 ∧ 0 ≤ x.2.1 ∧ x.2.1 ≤ 40000 * x.1 ∧ (x.2.2.length : Int) = 1 + x.1 ∧ ∀ c ∈ x.2.2, okSh c) (fun x => (3 - x.1).toNat) [(10301, 65, 2)] ?_ ?_
    · refine meets_mk _ (0, 0, [⟨0, b⟩]) ⟨by simp, by simp, by simp, by simp, by simp, fun c hc => ?_⟩ ?_
      · rw [List.mem_singleton] at hc; rw [hc]; exact ⟨⟨okI_z, hb2⟩, (by dsimp only; omega), by dsimp only; omega⟩
      · simp only [go_sem, h.hP, At, if_true, TShift.rows_inj, Tryd.ntmps23, Nat.reduceEqDiff, reduceCtorEq, Nat.reduceMul, Nat.reduceAdd, Nat.reduceSub, Nat.reduceDiv, Nat.reduceMod, Nat.reduceLeDiff, Nat.reduceLT, Nat.reduceBNe, Nat.reduceBEq, reduceIte, Int.reduceLE, Int.reduceLT, Int.reduceToNat, Int.reduceNeg, Int.reduceAdd, Int.reduceSub, Int.reduceMul, Int.reduceEq]
    · rintro ⟨i, t, l⟩ ⟨j1, j2, j3, j4, j5, j6⟩
      dsimp only at j1 j2 j3 j4 j5 j6
      have hw : i < 3 → IntKind.i64.wrap (i + 1) = i + 1 := fun _ => i64w (by omega) (by omega)
      by_cases e : i = 0
      · subst e
        simp only [go_sem, h.hP, zoneG, pickS_q, pickS_p, pickS_c, pickS_f, oneS_q, oneS_p, oneS_c, oneS_f, ints1, intsc, strs1, strsc, intsDi_inj, rowsT_inj, TShift.fold1, TShift.app', TShift.rows_inj, TShift.zlT, TShift.len, TZone.row, TZone.ex, List.length_append, List.length_singleton, Tryd.ntmps23, Nat.reduceEqDiff, reduceCtorEq, Nat.reduceMul, Nat.reduceAdd, Nat.reduceSub, Nat.reduceDiv, Nat.reduceMod, Nat.reduceLeDiff, Nat.reduceLT, Nat.reduceBNe, Nat.reduceBEq, reduceIte, Int.reduceLE, Int.reduceLT, Int.reduceToNat, Int.reduceNeg, Int.reduceAdd, Int.reduceSub, Int.reduceMul, Int.reduceEq]
        refine ⟨fun c a2 h2 a4 h4 => ⟨by simp [TShift.rows], by omega, by omega, ?_⟩, fun c => ⟨by simp [TShift.rows]; intro e; rw [e] at j5; simp at j5, TShift.flat l, fun i x hi hx => ?_, a, l, ⟨ha2, (by show l.length ≤ _; omega), fun c hc => (j6 c hc).1⟩, j6, by omega, by omega, rfl, rfl⟩⟩
        · have q2 := isIn_in h2 (a := 0) (b := 40000) (by decide)
          have ho : okI (t + a2) := ⟨by omega, by omega⟩
          refine below_mk _ (0 + 1, t + a2, l ++ [⟨t + a2, a4⟩]) ?_ (by dsimp only; omega) ?_
          · dsimp only
            exact ⟨by omega, by omega, by omega, by omega, by simp; omega, okL_app j6 ⟨⟨ho, isIn_ok h4 (by decide)⟩, by dsimp only; omega, by dsimp only; omega⟩⟩
          have w2 : IntKind.i64.wrap (t + a2) = t + a2 := i64w (by omega) (by omega)
          have w1 : IntKind.i64.wrap 1 = 1 := i64w (by omega) (by omega)
          simp only [go_sem, h.hP, At, TShift.rows_inj, w2, w1, Tryd.ntmps23, Nat.reduceEqDiff, reduceCtorEq, Nat.reduceMul, Nat.reduceAdd, Nat.reduceSub, Nat.reduceDiv, Nat.reduceMod, Nat.reduceLeDiff, Nat.reduceLT, Nat.reduceBNe, Nat.reduceBEq, reduceIte, Int.reduceLE, Int.reduceLT, Int.reduceToNat, Int.reduceNeg, Int.reduceAdd, Int.reduceSub, Int.reduceMul, Int.reduceEq]
        · match i, hi, hx with
          | 0, _, hx => cases hx; rfl
          | 1, hi, _ => exact absurd rfl hi
          | n + 2, _, hx => cases hx
      · simp only [go_sem, h.hP, zoneG, pickS_q, pickS_p, pickS_c, pickS_f, oneS_q, oneS_p, oneS_c, oneS_f, ints1, intsc, strs1, strsc, intsDi_inj, rowsT_inj, TShift.fold1, TShift.app', TShift.rows_inj, TShift.zlT, TShift.len, TZone.row, TZone.ex, List.length_append, List.length_singleton, if_neg e, Tryd.ntmps23, Nat.reduceEqDiff, reduceCtorEq, Nat.reduceMul, Nat.reduceAdd, Nat.reduceSub, Nat.reduceDiv, Nat.reduceMod, Nat.reduceLeDiff, Nat.reduceLT, Nat.reduceBNe, Nat.reduceBEq, reduceIte, Int.reduceLE, Int.reduceLT, Int.reduceToNat, Int.reduceNeg, Int.reduceAdd, Int.reduceSub, Int.reduceMul, Int.reduceEq]
        have hc : 10 + 4 * i.toNat ≤ 98 := by omega
        refine ⟨by omega, fun c => ⟨by omega, by omega, by omega, by omega, fun a2 h2 => ⟨by omega, by omega, by omega, by omega, by omega, by omega, by omega, by omega, fun a4 h4 => ⟨by omega, by omega, by omega, by omega, by omega, by omega, by omega, ?_⟩⟩⟩, fun c => ⟨by omega, by omega, TShift.flat l, fun i x hi hx => ?_, a, l, ⟨ha2, (by show l.length ≤ _; omega), fun c hc => (j6 c hc).1⟩, j6, by omega, by omega, rfl, rfl⟩⟩
        · have q2 := isIn_in h2 (a := 0) (b := 40000) (by decide)
          have w2 : IntKind.i64.wrap (t + a2) = t + a2 := i64w (by omega) (by omega)
          have ho : okI (t + a2) := ⟨by omega, by omega⟩
          refine below_mk _ (i + 1, t + a2, l ++ [⟨t + a2, a4⟩]) ?_ (by dsimp only; omega) ?_
          · dsimp only
            exact ⟨by omega, by omega, by omega, by omega, by simp; omega, okL_app j6 ⟨⟨ho, isIn_ok h4 (by decide)⟩, by dsimp only; omega, by dsimp only; omega⟩⟩
          have e1 : ¬ i + 1 = 0 := by omega
          simp only [go_sem, h.hP, At, TShift.rows_inj, w2, hw (by omega), if_neg e1, Tryd.ntmps23, Nat.reduceEqDiff, reduceCtorEq, Nat.reduceMul, Nat.reduceAdd, Nat.reduceSub, Nat.reduceDiv, Nat.reduceMod, Nat.reduceLeDiff, Nat.reduceLT, Nat.reduceBNe, Nat.reduceBEq, reduceIte, Int.reduceLE, Int.reduceLT, Int.reduceToNat, Int.reduceNeg, Int.reduceAdd, Int.reduceSub, Int.reduceMul, Int.reduceEq]
          omega
        · match i, hi, hx with
          | 0, _, hx => cases hx; rfl
          | 1, hi, _ => exact absurd rfl hi
          | n + 2, _, hx => cases hx
def zoneG2 : Spec where
  pre xs := xs = [.st]
  post xs y := ∃ z : TZone, z.ok ∧ y = .dv (.ag z.row)
  cost _ := 110
  fresh := false
set_option maxHeartbeats 16000000 in
theorem Zone_ctr {cx : Cx} (h : Seat cx) : Ctr cx 6 zoneG2 := by
  refine ctr_of (fn := Tryd.f6) (l := [.cell 2 34]) (envO [(7, flipS), (8, nextS), (9, pickS), (21, oneS), (22, oddS)] [] [(23, zoneG, 65, 2002)]) [0, 2, 3, 7, 9, 31, 37, 40] [11] [] (envO_cons (RightZone_ctr h) (envO_nil (envF_nil (envL_cons (flip_ctr cx h.hP h.hS) (envL_cons (next_ctr cx h.hP h.hS) (envL_cons (pick_ctr cx h.hP h.hS) (envL_cons (one_ctr h) (envL_cons (odd_ctr h) (env0 h.hP))))))))) ?_ (by rw [h.hP]; exact Tryd.func6) rfl (by kernel_rfl) rfl ?_ ?_
  · rw [h.hP]; exact ⟨_, Tryd.func6, by kernel_rfl, by kernel_rfl⟩
  · rintro xs rfl; exact ⟨_, TZone.z, TZone.z_ok, rfl⟩
  · rintro xs rfl
    refine ⟨by rw [Tryd.ntmps6]; simp, ?_⟩
    simp only [go_sem, h.hP, List.cons_append, List.nil_append, Meets_e, Below_e, Prod.exists, exists_eq, exists_eq_left, exists_eq_left', exists_eq_right, exists_eq_right', exists_and_left, exists_and_right, Ob.arr.injEq, AV.own.injEq, AV.fv.injEq, zoneG, zoneG2, flipS_q, flipS_p, flipS_c, flipS_f, TZone.row, List.getElem?_cons_succ, List.getElem?_cons_zero, Tryd.ntmps6, Nat.reduceEqDiff, reduceCtorEq, Nat.reduceMul, Nat.reduceAdd, Nat.reduceSub, Nat.reduceDiv, Nat.reduceMod, Nat.reduceLeDiff, Nat.reduceLT, Nat.reduceBNe, Nat.reduceBEq, reduceIte, Int.reduceLE, Int.reduceLT, Int.reduceToNat, Int.reduceNeg, Int.reduceAdd, Int.reduceSub, Int.reduceMul, Int.reduceEq]
    intro z o o' h1 h4
    refine vc_cutT (TZone) (fun (y : TZone) => [(7, .un), (9, .un), (31, .un), (37, .un), (40, .un)]) [2] (fun (y : TZone) => []) (fun (y : TZone) => [(3, .box 34 [.str y.name, .sl (TShift.rows y.shifts)])]) (fun (y : TZone) => 105) (fun (y : TZone) => y.ok) [] ?_ ?_ ?_
    · rfl
    · simp only [go_sem, h.hP, List.cons_append, List.nil_append, Meets_e, Below_e, Prod.exists, exists_eq, exists_eq_left, exists_eq_left', exists_eq_right, exists_eq_right', exists_and_left, exists_and_right, Ob.arr.injEq, AV.own.injEq, AV.fv.injEq, flipS_q, flipS_p, flipS_c, flipS_f, nextS_q, nextS_p, nextS_c, nextS_f, pickS_q, pickS_p, pickS_c, pickS_f, oneS_q, oneS_p, oneS_c, oneS_f, oddS_q, oddS_p, oddS_c, oddS_f, ints1, intsc, strs1, strsc, intsDi_inj, TShift.len, TShift.get, TShift.fold1, TShift.app', TShift.rows_inj, TShift.zlT, List.length_append, List.length_singleton, TZone.ex, Tryd.ntmps6, Nat.reduceEqDiff, reduceCtorEq, Nat.reduceMul, Nat.reduceAdd, Nat.reduceSub, Nat.reduceDiv, Nat.reduceMod, Nat.reduceLeDiff, Nat.reduceLT, Nat.reduceBNe, Nat.reduceBEq, reduceIte, Int.reduceLE, Int.reduceLT, Int.reduceToNat, Int.reduceNeg, Int.reduceAdd, Int.reduceSub, Int.reduceMul, Int.reduceEq]
      have w1 : IntKind.i64.wrap (↑z.shifts.length - 1) = (z.shifts.length - 1 : Nat) := by rw [i64w (by omega) (by omega)]; omega
      refine fun b => ⟨fun _ a a0 a4 => ⟨fun _ s hs => ⟨okS_of (isOf_ok hs (by decide)), o.2⟩, fun _ => ⟨fun _ => ⟨[], rfl, o.1, okL_z _⟩, fun _ => ⟨fun _ s hs => ⟨by omega, by omega, _, TShift.rset z.shifts 0 ⟨s, (z.shifts.getD 0 TShift.z).offset⟩, o.1, ?_⟩, fun _ => ⟨by omega, by omega, by omega, fun s hs q q1 q2 => ⟨by omega, by omega, o.1, ?_⟩⟩⟩⟩⟩, fun _ => o⟩
      · have hz : okI (z.shifts.getD 0 TShift.z).offset := (okL_get o.2 TShift.z_ok 0).2
        refine ⟨by rw [List.length_set]; omega, fun x hx => ?_⟩
        rcases List.mem_or_eq_of_mem_set hx with hx | rfl
        · exact o.2.2 x hx
        · exact ⟨isIn_ok hs (by decide), hz⟩
      · rw [w1, Int.toNat_natCast]
        have hz := all_get (p := okSh) o' (d := TShift.z) ⟨TShift.z_ok, by decide, by decide⟩ (z.shifts.length - 1)
        have hs2 := isIn_le hs (b := 1800) (by decide)
        have hz1 := hz.2.1
        have hz2 := hz.2.2
        rw [i64w (by omega) (by omega)]
        exact okL_snoc o.2.2 (by omega) ⟨⟨by dsimp only; omega, by dsimp only; omega⟩, odd_ok q1 q2⟩
    · rintro y hy
      simp only [go_sem, h.hP, List.cons_append, List.nil_append, Meets_e, Below_e, Prod.exists, exists_eq, exists_eq_left, exists_eq_left', exists_eq_right, exists_eq_right', exists_and_left, exists_and_right, Ob.arr.injEq, AV.own.injEq, AV.fv.injEq, zoneG2, TZone.row, TZone.ex, TShift.rows_inj, Tryd.ntmps6, Nat.reduceEqDiff, reduceCtorEq, Nat.reduceMul, Nat.reduceAdd, Nat.reduceSub, Nat.reduceDiv, Nat.reduceMod, Nat.reduceLeDiff, Nat.reduceLT, Nat.reduceBNe, Nat.reduceBEq, reduceIte, Int.reduceLE, Int.reduceLT, Int.reduceToNat, Int.reduceNeg, Int.reduceAdd, Int.reduceSub, Int.reduceMul, Int.reduceEq]
      exact ⟨_, _, hy, rfl, rfl⟩
end Go.Avc

/- What the clocks of a right zone show: sort.Search and LocalAt; plain law. No condition. -/
set_option linter.unusedVariables false
set_option linter.unusedSimpArgs false
set_option maxRecDepth 100000
namespace Go.Avc
open Go Go.Proofs

/-! ### Plain law -/
def ascZ (l : List TShift) : Prop := ∀ i j : Nat, i ≤ j → j < l.length → (l.getD i TShift.z).at_ ≤ (l.getD j TShift.z).at_
structure OkZ (l : List TShift) : Prop where
  one : 1 ≤ l.length
  few : l.length ≤ 100
  asc : ascZ l
  fst : (l.getD 0 TShift.z).at_ = 0
  offs : ∀ i : Nat, i < l.length → -720 ≤ (l.getD i TShift.z).offset ∧ (l.getD i TShift.z).offset ≤ 840
  tops : ∀ i : Nat, i < l.length → (l.getD i TShift.z).at_ ≤ 4321439
theorem okZ {z : TZone} (h : zoneF z = 0) : OkZ z.shifts := by
  unfold zoneF at h
  split at h
  · cases h
  split at h
  · cases h
  split at h
  · cases h
  rename_i c1 c2 c3
  have hz := firstI_zero h
  have hstep : ∀ i : Nat, i + 1 < z.shifts.length → (z.shifts.getD i TShift.z).at_ ≤ (z.shifts.getD (i + 1) TShift.z).at_ := fun i hi => by
    have := hz (i + 1) hi
    unfold shE at this
    split at this
    · cases this
    split at this
    · cases this
    split at this
    · cases this
    rename_i d1 d2 d3
    rw [Nat.add_sub_cancel] at d3
    have : ¬ (z.shifts.getD (i + 1) TShift.z).at_ < (z.shifts.getD i TShift.z).at_ + 1800 := fun e => d3 ⟨by omega, e⟩
    omega
  refine ⟨by omega, by omega, ?_, ?_, fun i hi => ⟨(shE_in (hz i hi)).2.2.1, (shE_in (hz i hi)).2.2.2⟩, fun i hi => (shE_in (hz i hi)).2.1⟩
  · intro i j hij
    induction j with
    | zero =>
      intro _
      obtain rfl : i = 0 := by omega
      exact Int.le_refl _
    | succ j ih =>
      intro hj
      by_cases e : i = j + 1
      · subst e; exact Int.le_refl _
      · exact Int.le_trans (ih (by omega) (by omega)) (hstep j hj)
  · have := hz 0 (by omega)
    unfold shE at this
    split at this
    · cases this
    split at this
    · cases this
    rename_i d1 d2
    exact Decidable.not_not.1 (fun e => d2 ⟨rfl, e⟩)
/-- The first shift that is still to come. -/
def srchN (l : List TShift) (m : Int) : Nat := l.findIdx fun s => decide (m < s.at_)
theorem srchN_is {l : List TShift} {m i : Int} (h0 : 0 ≤ i) (h1 : i ≤ l.length) (h2 : ∀ k : Nat, (k : Int) < i → (l.getD k TShift.z).at_ ≤ m) (h3 : ∀ k : Nat, i ≤ (k : Int) → k < l.length → m < (l.getD k TShift.z).at_) : i = (srchN l m : Int) := by
  obtain ⟨n, rfl⟩ : ∃ n : Nat, i = n := ⟨i.toNat, by omega⟩
  have h1' : n ≤ l.length := by omega
  congr 1
  symm
  unfold srchN
  have hb : ∀ k : Nat, k < n → ∃ hk : k < l.length, decide (m < (l[k]'hk).at_) = false := fun k hk => by
    have := h2 k (by omega)
    rw [List.getD_eq_getElem?_getD, List.getElem?_eq_getElem (by omega), Option.getD_some] at this
    exact ⟨by omega, decide_eq_false (by omega)⟩
  by_cases e : n = l.length
  · subst e
    rw [List.findIdx_eq_length]
    intro x hx
    obtain ⟨k, hk, rfl⟩ := List.mem_iff_getElem.1 hx
    exact (hb k hk).2
  · have hn : n < l.length := by omega
    rw [List.findIdx_eq hn]
    refine ⟨?_, fun j hj => (hb j hj).2⟩
    have := h3 n (by omega) hn
    rw [List.getD_eq_getElem?_getD, List.getElem?_eq_getElem hn, Option.getD_some] at this
    exact decide_eq_true this
theorem srchN_le (l : List TShift) (m : Int) : srchN l m ≤ l.length := List.findIdx_le_length
theorem srchN_lt {l : List TShift} {m : Int} {k : Nat} (h : k < srchN l m) : (l.getD k TShift.z).at_ ≤ m := by
  have hl : k < l.length := Nat.lt_of_lt_of_le h (srchN_le l m)
  have := List.not_of_lt_findIdx h
  rw [List.getD_eq_getElem?_getD, List.getElem?_eq_getElem hl, Option.getD_some]
  simpa using this
theorem srchN_ge {l : List TShift} {m : Int} (ha : ascZ l) {k : Nat} (h : srchN l m ≤ k) (hk : k < l.length) : m < (l.getD k TShift.z).at_ := by
  have h0 : srchN l m < l.length := Nat.lt_of_le_of_lt h hk
  have := List.findIdx_getElem (w := h0)
  have h2 := ha _ _ h hk
  rw [List.getD_eq_getElem?_getD, List.getElem?_eq_getElem h0, Option.getD_some] at h2
  have := of_decide_eq_true this
  exact Int.lt_of_lt_of_le this h2
theorem srchN_pos {l : List TShift} {m : Int} (h : OkZ l) (hm : 0 ≤ m) : 1 ≤ srchN l m := by
  rcases Nat.eq_zero_or_pos (srchN l m) with e | e
  · have := srchN_ge (m := m) h.asc (k := 0) (by omega) (by have := h.one; omega)
    rw [h.fst] at this
    omega
  · exact e
def locF (l : List TShift) (m : Int) : Int := m + (l.getD (srchN l m - 1) TShift.z).offset
theorem locF_le {l : List TShift} {m : Int} (h : OkZ l) (hm : 0 ≤ m) : m - 720 ≤ locF l m ∧ locF l m ≤ m + 840 := by
  have h1 := srchN_pos h hm
  have h2 := srchN_le l m
  have := h.offs (srchN l m - 1) (by omega)
  unfold locF
  omega
def pairsZ (l : List TShift) : List (Int × Int) := l.map fun s => (s.at_, s.offset)
theorem pairsZ_len (l : List TShift) : (pairsZ l).length = l.length := List.length_map ..
theorem pairsZ_get (l : List TShift) (i : Nat) : (pairsZ l)[i]?.getD (0, 0) = ((l.getD i TShift.z).at_, (l.getD i TShift.z).offset) := by
  unfold pairsZ
  rw [List.getElem?_map, List.getD_eq_getElem?_getD]
  cases l[i]? <;> rfl
/-- The clock goes back from the last shift: it finds the same one. -/
theorem clock_eq {l : List TShift} {m : Int} (h : OkZ l) (hm : 0 ≤ m) (hm2 : m ≤ 4321440) : Clk.clock m (pairsZ l) = locF l m := by
  have h1 := srchN_pos h hm
  have h2 := srchN_le l m
  have ho := h.offs (srchN l m - 1) (by omega)
  have hlast : Clk.upto (Clk.nth (pairsZ l)) (l.length - srchN l m + 1) = Clk.upto (Clk.nth (pairsZ l)) (l.length - srchN l m) ++ [Clk.nth (pairsZ l) (l.length - srchN l m)] := Clk.upto_succ _ _
  have e := Clk.clock_some (m := m) (zs := pairsZ l) (k := l.length - srchN l m + 1) (by rw [pairsZ_len]; omega) hlast ?_ ?_
  · rw [e]
    unfold locF Clk.nth
    dsimp only
    rw [pairsZ_get, pairsZ_len, show l.length - 1 - (l.length - srchN l m) = srchN l m - 1 by omega]
    dsimp only
    unfold RowKit.wrap64
    omega
  · intro p hp
    obtain ⟨j, hj, rfl⟩ := List.mem_map.1 hp
    have hj := List.mem_range.1 hj
    unfold Clk.hit Clk.nth
    dsimp only
    rw [pairsZ_get, pairsZ_len]
    have := srchN_ge (m := m) h.asc (k := l.length - 1 - j) (by omega) (by omega)
    exact decide_eq_false (by dsimp only; omega)
  · unfold Clk.hit Clk.nth
    dsimp only
    rw [pairsZ_get, pairsZ_len]
    have := srchN_lt (l := l) (m := m) (k := l.length - 1 - (l.length - srchN l m)) (by omega)
    exact decide_eq_true (by dsimp only; exact this)
/-! ### The program -/
def locS : Spec where
  pre xs := ∃ (i : Int) (z : TZone) (m : Int), xs = [.i i, .dp z.row, .dp [.int .i64 m]] ∧ 0 ≤ i ∧ i < z.shifts.length
  post xs r := ∃ (i : Int) (z : TZone) (m : Int), xs = [.i i, .dp z.row, .dp [.int .i64 m]] ∧ r = .b (decide (m < (z.shifts.getD i.toNat TShift.z).at_))
  cost _ := 0
  fresh := true
theorem locS_c (xs : List AV) : locS.cost xs = 0 := nr rfl
theorem locS_f : locS.fresh = true := nr rfl
theorem LocalAt1_ctr {cx : Cx} (h : Seat cx) : Ctr cx 135 locS := by
  refine ctr_of (fn := Tryd.f135) (l := [.tmp 4]) (envL []) [0, 1, 2, 4] [] [] (env0 h.hP) ?_ (by rw [h.hP]; exact Tryd.func135) rfl (by kernel_rfl) rfl ?_ ?_
  · rw [h.hP]; exact ⟨_, Tryd.func135, by kernel_rfl, by kernel_rfl⟩
  · rintro xs ⟨i, z, m, rfl, h1⟩; exact ⟨_, i, z, m, rfl, rfl⟩
  · rintro xs ⟨i, z, m, rfl, h1, h2⟩
    refine ⟨by rw [Tryd.ntmps135]; simp, ?_⟩
    simp only [go_sem, h.hP, List.cons_append, List.nil_append, Meets_e, Below_e, Prod.exists, exists_eq, exists_eq_left, exists_eq_left', exists_eq_right, exists_eq_right', exists_and_left, exists_and_right, Ob.arr.injEq, AV.own.injEq, AV.fv.injEq, TZone.row, TShift.len, TShift.get, locS_c, locS_f, Tryd.ntmps135, Nat.reduceEqDiff, reduceCtorEq, Nat.reduceMul, Nat.reduceAdd, Nat.reduceSub, Nat.reduceDiv, Nat.reduceMod, Nat.reduceLeDiff, Nat.reduceLT, Nat.reduceBNe, Nat.reduceBEq, reduceIte, Int.reduceLE, Int.reduceLT, Int.reduceToNat, Int.reduceNeg, Int.reduceAdd, Int.reduceSub, Int.reduceMul, Int.reduceEq]
    exact ⟨h1, h2, i, z, m, rfl, rfl⟩
def locΦ (caps : List (List D)) : FSpec where
  pre xs := ∃ (z : TZone) (m i : Int), caps = [z.row, [.int .i64 m]] ∧ xs = [.d (.int .i64 i)] ∧ 0 ≤ i ∧ i < z.shifts.length
  post xs r := ∃ (z : TZone) (m i : Int), caps = [z.row, [.int .i64 m]] ∧ xs = [.d (.int .i64 i)] ∧ r = .d (.bool (decide (m < (z.shifts.getD i.toNat TShift.z).at_)))
theorem locΦ_of {cx : Cx} {fn : FuncId} (h : Ctr cx fn locS) (caps : List (List D)) : Ctr cx fn (clo locΦ caps) := by
  refine h.weaken (fun xs hx => ?_) (fun xs r hx hr => ?_) (fun _ => Nat.le_refl _) rfl
  · obtain ⟨ys, rfl, z, m, i, rfl, rfl, h1, h2⟩ := hx
    exact ⟨i, z, m, rfl, h1, h2⟩
  · obtain ⟨ys, rfl, z, m, i, rfl, rfl, h1, h2⟩ := hx
    obtain ⟨i', z', m', e, rfl⟩ := hr
    simp only [List.map_cons, List.map_nil, List.cons_append, List.nil_append, List.cons.injEq, AV.dv.injEq, AV.dp.injEq, DV.d.injEq, D.int.injEq, true_and, and_true] at e
    obtain ⟨rfl, e1, rfl⟩ := e
    obtain rfl := TZone.inj e1
    exact ⟨_, _, rfl, rfl, _, _, _, rfl, rfl, rfl⟩
theorem locΦ_pre (z : TZone) (m i : Int) : (locΦ [[.str z.name, .sl (TShift.rows z.shifts)], [.int .i64 m]]).pre [.d (.int .i64 i)] = (0 ≤ i ∧ i < z.shifts.length) := by
  apply propext
  constructor
  · rintro ⟨z', m', i', e1, e2, h1, h2⟩
    simp only [List.cons.injEq, DV.d.injEq, D.int.injEq, true_and, and_true] at e1 e2
    obtain rfl := TZone.inj (x := z) e1.1
    subst e2
    exact ⟨h1, h2⟩
  · rintro ⟨h1, h2⟩
    exact ⟨z, m, i, rfl, rfl, h1, h2⟩
theorem locΦ_post (z : TZone) (m i : Int) (y : DV) : (locΦ [[.str z.name, .sl (TShift.rows z.shifts)], [.int .i64 m]]).post [.d (.int .i64 i)] y = (y = .d (.bool (decide (m < (z.shifts.getD i.toNat TShift.z).at_)))) := by
  apply propext
  constructor
  · rintro ⟨z', m', i', e1, e2, rfl⟩
    simp only [List.cons.injEq, DV.d.injEq, D.int.injEq, true_and, and_true] at e1 e2
    obtain ⟨e1, rfl⟩ := e1
    obtain rfl := TZone.inj (x := z) e1
    subst e2
    rfl
  · rintro rfl
    exact ⟨z, m, i, rfl, rfl, rfl⟩
def searchS : Spec where
  pre xs := ∃ (z : TZone) (m : Int), xs = [.i z.shifts.length, .fv (locΦ [z.row, [.int .i64 m]])] ∧ ascZ z.shifts ∧ z.shifts.length ≤ 100
  post xs r := ∃ (z : TZone) (m : Int), xs = [.i z.shifts.length, .fv (locΦ [z.row, [.int .i64 m]])] ∧ ascZ z.shifts ∧ r = .i (srchN z.shifts m)
  cost _ := 0
  fresh := true
theorem searchS_c (xs : List AV) : searchS.cost xs = 0 := nr rfl
theorem searchS_f : searchS.fresh = true := nr rfl
theorem searchS_q (z : TZone) (m : Int) (h1 : ascZ z.shifts) (h2 : z.shifts.length ≤ 100) : searchS.pre [.i z.shifts.length, .fv (locΦ [[.str z.name, .sl (TShift.rows z.shifts)], [.int .i64 m]])] = True := eq_true ⟨z, m, rfl, h1, h2⟩
theorem searchS_p (z : TZone) (m : Int) (h1 : ascZ z.shifts) : searchS.post [.i z.shifts.length, .fv (locΦ [[.str z.name, .sl (TShift.rows z.shifts)], [.int .i64 m]])] = fun r => r = .i (srchN z.shifts m) := by
  funext r
  apply propext
  constructor
  · rintro ⟨z', m', e, h2, rfl⟩
    simp only [List.cons.injEq, AV.dv.injEq, DV.d.injEq, D.int.injEq, AV.fv.injEq, true_and, and_true] at e
    obtain ⟨e1, e2⟩ := e
    have e1' : z.shifts.length = z'.shifts.length := by omega
    have hd : ∀ k : Nat, (m < (z.shifts.getD k TShift.z).at_) = (m' < (z'.shifts.getD k TShift.z).at_) := fun k => by
      have a1 := locΦ_post z m k (.d (.bool true))
      have a2 := locΦ_post z' m' k (.d (.bool true))
      have e3 : locΦ [[D.str z.name, D.sl (TShift.rows z.shifts)], [D.int IntKind.i64 m]] = locΦ [[D.str z'.name, D.sl (TShift.rows z'.shifts)], [D.int IntKind.i64 m']] := e2
      rw [e3] at a1
      have a3 := a1.symm.trans a2
      simp only [DV.d.injEq, D.bool.injEq, Int.toNat_natCast] at a3
      simpa [eq_comm] using a3
    congr 1
    have hs := srchN_le z'.shifts m'
    have := srchN_is (l := z.shifts) (m := m) (i := srchN z'.shifts m') (by omega) (by omega) (fun k hk => ?_) (fun k hk hl => ?_)
    · rw [this]
    · have := srchN_lt (l := z'.shifts) (m := m') (k := k) (by omega)
      have h := hd k
      exact Int.not_lt.1 (fun w => by rw [h] at w; omega)
    · rw [hd k]
      exact srchN_ge h2 (by omega) (by omega)
  · rintro rfl
    exact ⟨z, m, rfl, h1, rfl⟩
theorem u64z {n : Int} (h1 : 0 ≤ n) (h2 : n ≤ 9223372036854775807) : IntKind.u64.wrap n = n := by rw [IntKind.wrap_u64]; omega
theorem search_ctr {cx : Cx} (h : Seat cx) : Ctr cx 134 searchS := by
  refine ctr_of (fn := Tryd.f134) (l := [.tmp 4]) (envL []) [0, 1, 4, 5, 6, 7, 11, 21] [] [] (env0 h.hP) ?_ (by rw [h.hP]; exact Tryd.func134) rfl (by kernel_rfl) rfl ?_ ?_
  · rw [h.hP]; exact ⟨_, Tryd.func134, by kernel_rfl, by kernel_rfl⟩
  · rintro xs ⟨z, m, rfl, h1⟩; exact ⟨_, z, m, rfl, h1.1, rfl⟩
  · rintro xs ⟨z, m, rfl, h1, h2⟩
    refine ⟨by rw [Tryd.ntmps134]; simp, ?_⟩
    simp only [go_sem, h.hP, List.cons_append, List.nil_append, Meets_e, Below_e, Prod.exists, exists_eq, exists_eq_left, exists_eq_left', exists_eq_right, exists_eq_right', exists_and_left, exists_and_right, Ob.arr.injEq, AV.own.injEq, AV.fv.injEq, searchS_c, searchS_f, TZone.row, Tryd.ntmps134, Nat.reduceEqDiff, reduceCtorEq, Nat.reduceMul, Nat.reduceAdd, Nat.reduceSub, Nat.reduceDiv, Nat.reduceMod, Nat.reduceLeDiff, Nat.reduceLT, Nat.reduceBNe, Nat.reduceBEq, reduceIte, Int.reduceLE, Int.reduceLT, Int.reduceToNat, Int.reduceNeg, Int.reduceAdd, Int.reduceSub, Int.reduceMul, Int.reduceEq]
    refine vc_loopS (Int × Int) (fun (x : Int × Int) => match x with | (i, j) => [(5, .i i), (6, .i j)]) [] (fun (x : Int × Int) => match x with | (i, j) => []) (fun (x : Int × Int) => match x with | (i, j) => []) (fun (x : Int × Int) => match x with | (i, j) => 0) (fun (x : Int × Int) => match x with | (i, j) => 0 ≤ i ∧ i ≤ j ∧ j ≤ z.shifts.length ∧ (∀ k : Nat, (k : Int) < i → (z.shifts.getD k TShift.z).at_ ≤ m) ∧ (∀ k : Nat, j ≤ (k : Int) → k < z.shifts.length → m < (z.shifts.getD k TShift.z).at_)) (fun (x : Int × Int) => match x with | (i, j) => (j - i).toNat) [] ?_ ?_
    · simp only [go_sem, h.hP, List.cons_append, List.nil_append, Meets_e, Below_e, Prod.exists, exists_eq, exists_eq_left, exists_eq_left', exists_eq_right, exists_eq_right', exists_and_left, exists_and_right, Ob.arr.injEq, AV.own.injEq, AV.fv.injEq, TShift.len, Tryd.ntmps134, Nat.reduceEqDiff, reduceCtorEq, Nat.reduceMul, Nat.reduceAdd, Nat.reduceSub, Nat.reduceDiv, Nat.reduceMod, Nat.reduceLeDiff, Nat.reduceLT, Nat.reduceBNe, Nat.reduceBEq, reduceIte, Int.reduceLE, Int.reduceLT, Int.reduceToNat, Int.reduceNeg, Int.reduceAdd, Int.reduceSub, Int.reduceMul, Int.reduceEq]
      exact ⟨by omega, by omega, fun k hk => by omega, fun k a b => by omega⟩
    · rintro ⟨i, j⟩ ⟨j1, j2, j3, j4, j5⟩
      simp only [go_sem, h.hP, List.cons_append, List.nil_append, Meets_e, Below_e, Prod.exists, exists_eq, exists_eq_left, exists_eq_left', exists_eq_right, exists_eq_right', exists_and_left, exists_and_right, Ob.arr.injEq, AV.own.injEq, AV.fv.injEq, searchS_c, searchS_f, locΦ_pre, locΦ_post, TZone.row, Tryd.ntmps134, Nat.reduceEqDiff, reduceCtorEq, Nat.reduceMul, Nat.reduceAdd, Nat.reduceSub, Nat.reduceDiv, Nat.reduceMod, Nat.reduceLeDiff, Nat.reduceLT, Nat.reduceBNe, Nat.reduceBEq, reduceIte, Int.reduceLE, Int.reduceLT, Int.reduceToNat, Int.reduceNeg, Int.reduceAdd, Int.reduceSub, Int.reduceMul, Int.reduceEq]
      refine ⟨fun c => ?_, fun c => ⟨z, m, rfl, h1, by rw [srchN_is j1 (by omega) j4 (fun k a b => j5 k (by omega) b)]⟩⟩
      rw [i64w (n := i + j) (by omega) (by omega), u64z (n := i + j) (by omega) (by omega), i64w (n := (i + j) / 2) (by omega) (by omega)]
      obtain ⟨q, hq⟩ : ∃ q : Int, q = (i + j) / 2 := ⟨_, rfl⟩
      rw [← hq]
      have q1 : i ≤ q := by omega
      have q2 : q < j := by omega
      clear hq
      rw [i64w (n := q + 1) (by omega) (by omega)]
      refine ⟨by omega, by omega, fun d => ⟨by omega, by omega, j3, fun k hk => ?_, j5, by omega⟩, fun d => ⟨j1, q1, by omega, j4, fun k a b => ?_, by omega⟩⟩
      · have := h1 k q.toNat (by omega) (by omega)
        omega
      · have := h1 q.toNat k (by omega) b
        omega
def localS  : Spec where
  pre xs := ∃ (z : TZone) (m : Int), xs = [.dv (.ag z.row), .i m] ∧ (OkZ z.shifts ∧ 0 ≤ m ∧ m ≤ 4321440)
  post xs y := ∃ (z : TZone) (m : Int), xs = [.dv (.ag z.row), .i m] ∧ y = .i (locF z.shifts m)
  cost _ := 0
  fresh := true
theorem localS_c  (xs : List AV) : (localS).cost xs = 0 := nr rfl
theorem localS_f  : (localS).fresh = true := nr rfl
theorem localS_q  (z : TZone) (m : Int) : (localS).pre [.dv (.ag [.str z.name, .sl (TShift.rows z.shifts)]), .i m] = (OkZ z.shifts ∧ 0 ≤ m ∧ m ≤ 4321440) := propext ⟨fun h => by
  have h' : ∃ (z' : TZone) (m' : Int), ([.dv (.ag z.row), .i m] : List AV) = [.dv (.ag z'.row), .i m'] ∧ (OkZ z'.shifts ∧ 0 ≤ m' ∧ m' ≤ 4321440) := h
  obtain ⟨z', m', e, h⟩ := h'
  simp only [List.cons.injEq, AV.dv.injEq, AV.fv.injEq, DV.d.injEq, DV.ag.injEq, D.int.injEq, D.str.injEq, D.bool.injEq, D.sl.injEq, true_and, and_true, intsDi_inj, rowsT_inj, rowsKi_inj, TZone.row_inj, TZone.rows_inj] at e
  obtain ⟨rfl, rfl⟩ := e
  exact h, fun h => ⟨z, m, rfl, h⟩⟩
theorem localS_p  (z : TZone) (m : Int) : (localS).post [.dv (.ag [.str z.name, .sl (TShift.rows z.shifts)]), .i m] = fun y => y = .i (locF z.shifts m) := funext fun y => propext ⟨fun h => by
  have h' : ∃ (z' : TZone) (m' : Int), ([.dv (.ag z.row), .i m] : List AV) = [.dv (.ag z'.row), .i m'] ∧ y = .i (locF z'.shifts m') := h
  obtain ⟨z', m', e, h⟩ := h'
  simp only [List.cons.injEq, AV.dv.injEq, AV.fv.injEq, DV.d.injEq, DV.ag.injEq, D.int.injEq, D.str.injEq, D.bool.injEq, D.sl.injEq, true_and, and_true, intsDi_inj, rowsT_inj, rowsKi_inj, TZone.row_inj, TZone.rows_inj] at e
  obtain ⟨rfl, rfl⟩ := e
  exact h, fun h => ⟨z, m, rfl, h⟩⟩
theorem LocalAt_ctr {cx : Cx} (h : Seat cx) : Ctr cx 111 localS := by
  refine ctr_of (fn := Tryd.f111) (l := [.tmp 4]) (envF [(134, searchS)] [(135, locΦ)]) [0, 1, 2, 3, 4, 5] [] [] (envF_cons (locΦ_of (LocalAt1_ctr h)) (envF_nil (envL_cons (search_ctr h) (env0 h.hP)))) ?_ (by rw [h.hP]; exact Tryd.func111) rfl (by kernel_rfl) rfl ?_ ?_
  · rw [h.hP]; exact ⟨_, Tryd.func111, by kernel_rfl, by kernel_rfl⟩
  · rintro xs ⟨z, m, rfl, h1⟩; exact ⟨_, z, m, rfl, rfl⟩
  · rintro xs ⟨z, m, rfl, h1, h2, h3⟩
    have hq := searchS_q z m h1.asc h1.few
    have hp := searchS_p z m h1.asc
    refine ⟨by rw [Tryd.ntmps111]; simp, ?_⟩
    simp only [go_sem, h.hP, List.cons_append, List.nil_append, Meets_e, Below_e, Prod.exists, exists_eq, exists_eq_left, exists_eq_left', exists_eq_right, exists_eq_right', exists_and_left, exists_and_right, Ob.arr.injEq, AV.own.injEq, AV.fv.injEq, localS_q, localS_p, localS_c, localS_f, searchS_c, searchS_f, hq, hp, TZone.row, TShift.len, TShift.get, Tryd.ntmps111, Nat.reduceEqDiff, reduceCtorEq, Nat.reduceMul, Nat.reduceAdd, Nat.reduceSub, Nat.reduceDiv, Nat.reduceMod, Nat.reduceLeDiff, Nat.reduceLT, Nat.reduceBNe, Nat.reduceBEq, reduceIte, Int.reduceLE, Int.reduceLT, Int.reduceToNat, Int.reduceNeg, Int.reduceAdd, Int.reduceSub, Int.reduceMul, Int.reduceEq]
    have k1 := srchN_pos h1 h2
    have k2 := srchN_le z.shifts m
    have k3 := h1.few
    rw [i64w (n := (srchN z.shifts m : Int) - 1) (by omega) (by omega)]
    have k4 := locF_le h1 h2
    have k5 : ((srchN z.shifts m : Int) - 1).toNat = srchN z.shifts m - 1 := by omega
    rw [k5]
    refine ⟨by omega, by omega, ?_⟩
    unfold locF at *
    exact i64w (by omega) (by omega)
def minF (l : List TShift) (m : Int) : Int := (locF l m + 1440).tmod 1440
def minS  : Spec where
  pre xs := ∃ (z : TZone) (m : Int), xs = [.dv (.ag z.row), .i m] ∧ (OkZ z.shifts ∧ 0 ≤ m ∧ m ≤ 4321440)
  post xs y := ∃ (z : TZone) (m : Int), xs = [.dv (.ag z.row), .i m] ∧ y = .i (minF z.shifts m)
  cost _ := 0
  fresh := true
theorem minS_c  (xs : List AV) : (minS).cost xs = 0 := nr rfl
theorem minS_f  : (minS).fresh = true := nr rfl
theorem minS_q  (z : TZone) (m : Int) : (minS).pre [.dv (.ag [.str z.name, .sl (TShift.rows z.shifts)]), .i m] = (OkZ z.shifts ∧ 0 ≤ m ∧ m ≤ 4321440) := propext ⟨fun h => by
  have h' : ∃ (z' : TZone) (m' : Int), ([.dv (.ag z.row), .i m] : List AV) = [.dv (.ag z'.row), .i m'] ∧ (OkZ z'.shifts ∧ 0 ≤ m' ∧ m' ≤ 4321440) := h
  obtain ⟨z', m', e, h⟩ := h'
  simp only [List.cons.injEq, AV.dv.injEq, AV.fv.injEq, DV.d.injEq, DV.ag.injEq, D.int.injEq, D.str.injEq, D.bool.injEq, D.sl.injEq, true_and, and_true, intsDi_inj, rowsT_inj, rowsKi_inj, TZone.row_inj, TZone.rows_inj] at e
  obtain ⟨rfl, rfl⟩ := e
  exact h, fun h => ⟨z, m, rfl, h⟩⟩
theorem minS_p  (z : TZone) (m : Int) : (minS).post [.dv (.ag [.str z.name, .sl (TShift.rows z.shifts)]), .i m] = fun y => y = .i (minF z.shifts m) := funext fun y => propext ⟨fun h => by
  have h' : ∃ (z' : TZone) (m' : Int), ([.dv (.ag z.row), .i m] : List AV) = [.dv (.ag z'.row), .i m'] ∧ y = .i (minF z'.shifts m') := h
  obtain ⟨z', m', e, h⟩ := h'
  simp only [List.cons.injEq, AV.dv.injEq, AV.fv.injEq, DV.d.injEq, DV.ag.injEq, D.int.injEq, D.str.injEq, D.bool.injEq, D.sl.injEq, true_and, and_true, intsDi_inj, rowsT_inj, rowsKi_inj, TZone.row_inj, TZone.rows_inj] at e
  obtain ⟨rfl, rfl⟩ := e
  exact h, fun h => ⟨z, m, rfl, h⟩⟩
theorem LocalMinute_ctr {cx : Cx} (h : Seat cx) : Ctr cx 61 minS := by
  refine ctr_of (fn := Tryd.f61) (l := [.tmp 4]) (envL [(111, localS)]) [0, 1, 2, 4] [] [] (envL_cons (LocalAt_ctr h) (env0 h.hP)) ?_ (by rw [h.hP]; exact Tryd.func61) rfl (by kernel_rfl) rfl ?_ ?_
  · rw [h.hP]; exact ⟨_, Tryd.func61, by kernel_rfl, by kernel_rfl⟩
  · rintro xs ⟨z, m, rfl, h1⟩; exact ⟨_, z, m, rfl, rfl⟩
  · rintro xs ⟨z, m, rfl, h1, h2, h3⟩
    refine ⟨by rw [Tryd.ntmps61]; simp, ?_⟩
    simp only [go_sem, h.hP, List.cons_append, List.nil_append, Meets_e, Below_e, Prod.exists, exists_eq, exists_eq_left, exists_eq_left', exists_eq_right, exists_eq_right', exists_and_left, exists_and_right, Ob.arr.injEq, AV.own.injEq, AV.fv.injEq, minS_q, minS_p, minS_c, minS_f, localS_q, localS_p, localS_c, localS_f, TZone.row, Tryd.ntmps61, Nat.reduceEqDiff, reduceCtorEq, Nat.reduceMul, Nat.reduceAdd, Nat.reduceSub, Nat.reduceDiv, Nat.reduceMod, Nat.reduceLeDiff, Nat.reduceLT, Nat.reduceBNe, Nat.reduceBEq, reduceIte, Int.reduceLE, Int.reduceLT, Int.reduceToNat, Int.reduceNeg, Int.reduceAdd, Int.reduceSub, Int.reduceMul, Int.reduceEq]
    have := locF_le h1 h2
    refine ⟨h1, h2, h3, ?_⟩
    rw [i64w (n := locF z.shifts m + 1440) (by omega) (by omega)]
    rfl
theorem shifts_of {ok : Nat → Prop} {w : World} {l : List TShift} {sv : Value} (h : Rd ok w (.sl (TShift.rows l)) sv) : ∃ A cap, sv = .slice A l.length cap ∧ Clk.Shifts w.heap.size w sv (pairsZ l) := by
  generalize e : TShift.rows l = r at h
  cases h with
  | nil A c =>
    have : l = [] := by simpa [TShift.nil1] using e
    subst this
    exact ⟨A, c, rfl, .inl ⟨A, c, rfl, rfl⟩⟩
  | sl r z b o c u hc hb hlt hz hu hr =>
    subst e
    rw [TShift.len]
    refine ⟨_, _, rfl, ?_⟩
    by_cases e0 : l = []
    · subst e0
      exact .inl ⟨_, _, rfl, rfl⟩
    have hg : ∀ j : Nat, j < l.length → (TShift.rows l)[j]? = some [.int .i64 (l.getD j TShift.z).at_, .int .i64 (l.getD j TShift.z).offset] := fun j hj => by
      unfold TShift.rows
      rw [List.getElem?_map, List.getD_eq_getElem?_getD, List.getElem?_eq_getElem hj]
      rfl
    have hz2 : z = 2 := (hz 0 _ (hg 0 (List.length_pos_iff.2 e0))).symm
    subst hz2
    refine .inr ⟨b, o, c, by rw [pairsZ_len], hlt, fun j hj => ?_⟩
    rw [pairsZ_len] at hj
    rw [pairsZ_get]
    have a1 := hu j _ (hg j hj) 0 _ rfl
    have a2 := hu j _ (hg j hj) 1 _ rfl
    have b1 := hr j _ (hg j hj) 0 _ rfl
    have b2 := hr j _ (hg j hj) 1 _ rfl
    refine ⟨?_, ?_⟩
    · rw [Nat.add_zero] at a1
      rw [a1]
      generalize u j 0 = v at b1
      cases b1
      rfl
    · rw [a2]
      generalize u j 1 = v at b2
      cases b2
      rfl
def clockS  : Spec where
  pre xs := ∃ (z : TZone) (m : Int), xs = [.dv (.ag z.row), .i m] ∧ (OkZ z.shifts ∧ 0 ≤ m ∧ m ≤ 4321440)
  post xs y := ∃ (z : TZone) (m : Int), xs = [.dv (.ag z.row), .i m] ∧ y = .i (locF z.shifts m)
  cost _ := 0
  fresh := true
theorem clockS_c  (xs : List AV) : (clockS).cost xs = 0 := nr rfl
theorem clockS_f  : (clockS).fresh = true := nr rfl
theorem clockS_q  (z : TZone) (m : Int) : (clockS).pre [.dv (.ag [.str z.name, .sl (TShift.rows z.shifts)]), .i m] = (OkZ z.shifts ∧ 0 ≤ m ∧ m ≤ 4321440) := propext ⟨fun h => by
  have h' : ∃ (z' : TZone) (m' : Int), ([.dv (.ag z.row), .i m] : List AV) = [.dv (.ag z'.row), .i m'] ∧ (OkZ z'.shifts ∧ 0 ≤ m' ∧ m' ≤ 4321440) := h
  obtain ⟨z', m', e, h⟩ := h'
  simp only [List.cons.injEq, AV.dv.injEq, AV.fv.injEq, DV.d.injEq, DV.ag.injEq, D.int.injEq, D.str.injEq, D.bool.injEq, D.sl.injEq, true_and, and_true, intsDi_inj, rowsT_inj, rowsKi_inj, TZone.row_inj, TZone.rows_inj] at e
  obtain ⟨rfl, rfl⟩ := e
  exact h, fun h => ⟨z, m, rfl, h⟩⟩
theorem clockS_p  (z : TZone) (m : Int) : (clockS).post [.dv (.ag [.str z.name, .sl (TShift.rows z.shifts)]), .i m] = fun y => y = .i (locF z.shifts m) := funext fun y => propext ⟨fun h => by
  have h' : ∃ (z' : TZone) (m' : Int), ([.dv (.ag z.row), .i m] : List AV) = [.dv (.ag z'.row), .i m'] ∧ y = .i (locF z'.shifts m') := h
  obtain ⟨z', m', e, h⟩ := h'
  simp only [List.cons.injEq, AV.dv.injEq, AV.fv.injEq, DV.d.injEq, DV.ag.injEq, D.int.injEq, D.str.injEq, D.bool.injEq, D.sl.injEq, true_and, and_true, intsDi_inj, rowsT_inj, rowsKi_inj, TZone.row_inj, TZone.rows_inj] at e
  obtain ⟨rfl, rfl⟩ := e
  exact h, fun h => ⟨z, m, rfl, h⟩⟩
theorem Clock_ctr {cx : Cx} (h : Seat cx) : Ctr cx 33 clockS := by
  refine ⟨by rw [h.hP]; exact ⟨_, Tryd.func33, by kernel_rfl, by kernel_rfl⟩, fun xs ⟨z, m, e, _⟩ => ⟨_, z, m, e, rfl⟩, ?_⟩
  rintro F xs us hcx hF hst hgl hco hlen hargs ⟨z, m, rfl, h1, h2, h3⟩
  match us, hlen with
  | [a, b], _ =>
  obtain ⟨cs, rfl, c1, c2⟩ := hargs 0 _ _ rfl rfl
  have hb := hargs 1 _ _ rfl rfl
  cases hb
  match cs, c1 with
  | [n, sv], _ =>
  have d1 := c2 0 _ _ rfl rfl
  have d2 := c2 1 _ _ rfl rfl
  cases d1
  obtain ⟨A, cap, rfl, hI⟩ := shifts_of d2
  rw [h.hP]
  refine ((callsIn_wide (n := 3)).1 (Clk.Clock_in Fence.wide 3 trivial trivial trivial rfl (by decide) z.name A z.shifts.length cap m (pairsZ z.shifts) (by rw [pairsZ_len]; have := h1.few; omega) F.w0 hI)).mono ?_
  rintro e w' ⟨rfl, hb⟩
  rw [clock_eq h1 h2 h3]
  have hm := flatR_mk (cx := cx) (w0 := F.w0) (ok := resOk F clockS.fresh) (ρ := fun _ => undef) (w := w') (a := .i (locF z.shifts m)) (v := .int .i64 (locF z.shifts m)) rfl
  exact ⟨_, _, rfl, ⟨hb.os, hb.tape, hb.output, hb.size, fun b hlt _ => hb.block b hlt⟩, hst.keep hb.size (fun b hlt => hb.block b hlt), ⟨z, m, rfl, rfl⟩, hm.2, hm.1⟩
end Go.Avc

/- Quiet moments: by the program and by the reference. No condition. -/
set_option linter.unusedVariables false
set_option linter.unusedSimpArgs false
set_option maxRecDepth 100000
namespace Go.Avc
open Go Go.Proofs

theorem upd_lk (L : List (Nat × AV)) (k : Nat) (v : AV) : upd (lk .un L) k v = lk .un ((k, v) :: L) := rfl
/-- Is a minute of the day within a span that may go over midnight? -/
def spanB (f t m : Int) : Bool := if f < t then decide (f ≤ m ∧ m < t) else decide (f ≤ m ∨ m < t)
noncomputable def qB (r : TSendRules) (l : List TShift) (ch m : Int) : Bool := conE ch r.quiet && decide (¬ r.quietFrom = r.quietTo) && spanB r.quietFrom r.quietTo (minF l m)
theorem minF_in {l : List TShift} {m : Int} (h : OkZ l) (hm : 0 ≤ m) : 0 ≤ minF l m ∧ minF l m ≤ 1439 := by
  have := locF_le h hm
  unfold minF
  rw [Int.tmod_eq_emod_of_nonneg (by omega)]
  omega
theorem back_is {m : Int} (h0 : 0 ≤ m) (h1 : m ≤ 1439) : (m + 1440 - 1).tmod 1440 = if m = 0 then 1439 else m - 1 := by
  rw [Int.tmod_eq_emod_of_nonneg (by omega)]
  split <;> omega
theorem span_at {f t : Int} (h : ¬ f = t) : spanB f t f = true := by
  unfold spanB
  split <;> rw [decide_eq_true_eq] <;> omega
theorem span_to {f t : Int} (h : ¬ f = t) : spanB f t t = false := by
  unfold spanB
  split <;> rw [decide_eq_false_iff_not] <;> omega
theorem span_next {f t m : Int} (f0 : 0 ≤ f) (f1 : f ≤ 1439) (t0 : 0 ≤ t) (t1 : t ≤ 1439) (h0 : 0 ≤ m) (h1 : m ≤ 1439) (hf : ¬ m = f) (ht : (if m = 0 then 1439 else m - 1) = t) (hn : ¬ f = t) : spanB f t m = false := by
  unfold spanB
  split at ht <;> split <;> exact decide_eq_false (by omega)
theorem span_back {f t m : Int} (f0 : 0 ≤ f) (f1 : f ≤ 1439) (t0 : 0 ≤ t) (t1 : t ≤ 1439) (h0 : 0 ≤ m) (h1 : m ≤ 1439) (hf : ¬ m = f) (ht : ¬ m = t) : spanB f t (if m = 0 then 1439 else m - 1) = spanB f t m := by
  unfold spanB
  split <;> split <;> exact decide_eq_decide.2 (by omega)
def idx_intS  : Spec where
  pre xs := ∃ (l : List Int) (x : Int), xs = [.sl (intsD l), .i x] ∧ (l.length ≤ 4611686018427387904)
  post xs y := ∃ (l : List Int) (x : Int), xs = [.sl (intsD l), .i x] ∧ y = .i (idxE x l)
  cost _ := 0
  fresh := true
theorem idx_intS_c  (xs : List AV) : (idx_intS).cost xs = 0 := nr rfl
theorem idx_intS_f  : (idx_intS).fresh = true := nr rfl
theorem idx_intS_q  (l : List Int) (x : Int) : (idx_intS).pre [.sl (intsD l), .i x] = (l.length ≤ 4611686018427387904) := propext ⟨fun h => by
  have h' : ∃ (l' : List Int) (x' : Int), ([.sl (intsD l), .i x] : List AV) = [.sl (intsD l'), .i x'] ∧ (l'.length ≤ 4611686018427387904) := h
  obtain ⟨l', x', e, h⟩ := h'
  simp only [List.cons.injEq, AV.dv.injEq, AV.fv.injEq, DV.d.injEq, DV.ag.injEq, D.int.injEq, D.str.injEq, D.bool.injEq, D.sl.injEq, true_and, and_true, intsDi_inj, rowsT_inj, rowsKi_inj] at e
  obtain ⟨rfl, rfl⟩ := e
  exact h, fun h => ⟨l, x, rfl, h⟩⟩
theorem idx_intS_p  (l : List Int) (x : Int) : (idx_intS).post [.sl (intsD l), .i x] = fun y => y = .i (idxE x l) := funext fun y => propext ⟨fun h => by
  have h' : ∃ (l' : List Int) (x' : Int), ([.sl (intsD l), .i x] : List AV) = [.sl (intsD l'), .i x'] ∧ y = .i (idxE x' l') := h
  obtain ⟨l', x', e, h⟩ := h'
  simp only [List.cons.injEq, AV.dv.injEq, AV.fv.injEq, DV.d.injEq, DV.ag.injEq, D.int.injEq, D.str.injEq, D.bool.injEq, D.sl.injEq, true_and, and_true, intsDi_inj, rowsT_inj, rowsKi_inj] at e
  obtain ⟨rfl, rfl⟩ := e
  exact h, fun h => ⟨l, x, rfl, h⟩⟩
def con_intS  : Spec where
  pre xs := ∃ (l : List Int) (x : Int), xs = [.sl (intsD l), .i x] ∧ (l.length ≤ 4611686018427387904)
  post xs y := ∃ (l : List Int) (x : Int), xs = [.sl (intsD l), .i x] ∧ y = .b (conE x l)
  cost _ := 0
  fresh := true
theorem con_intS_c  (xs : List AV) : (con_intS).cost xs = 0 := nr rfl
theorem con_intS_f  : (con_intS).fresh = true := nr rfl
theorem con_intS_q  (l : List Int) (x : Int) : (con_intS).pre [.sl (intsD l), .i x] = (l.length ≤ 4611686018427387904) := propext ⟨fun h => by
  have h' : ∃ (l' : List Int) (x' : Int), ([.sl (intsD l), .i x] : List AV) = [.sl (intsD l'), .i x'] ∧ (l'.length ≤ 4611686018427387904) := h
  obtain ⟨l', x', e, h⟩ := h'
  simp only [List.cons.injEq, AV.dv.injEq, AV.fv.injEq, DV.d.injEq, DV.ag.injEq, D.int.injEq, D.str.injEq, D.bool.injEq, D.sl.injEq, true_and, and_true, intsDi_inj, rowsT_inj, rowsKi_inj] at e
  obtain ⟨rfl, rfl⟩ := e
  exact h, fun h => ⟨l, x, rfl, h⟩⟩
theorem con_intS_p  (l : List Int) (x : Int) : (con_intS).post [.sl (intsD l), .i x] = fun y => y = .b (conE x l) := funext fun y => propext ⟨fun h => by
  have h' : ∃ (l' : List Int) (x' : Int), ([.sl (intsD l), .i x] : List AV) = [.sl (intsD l'), .i x'] ∧ y = .b (conE x' l') := h
  obtain ⟨l', x', e, h⟩ := h'
  simp only [List.cons.injEq, AV.dv.injEq, AV.fv.injEq, DV.d.injEq, DV.ag.injEq, D.int.injEq, D.str.injEq, D.bool.injEq, D.sl.injEq, true_and, and_true, intsDi_inj, rowsT_inj, rowsKi_inj] at e
  obtain ⟨rfl, rfl⟩ := e
  exact h, fun h => ⟨l, x, rfl, h⟩⟩
theorem index_int {cx : Cx} (h : Seat cx) : Ctr cx 70 idx_intS := by
  refine ctr_of (fn := Tryd.f70) (l := [.tmp 4]) (envL []) [0, 1, 4, 5, 7, 8, 9, 16] [] [] (env0 h.hP) ?_ (by rw [h.hP]; exact Tryd.func70) rfl (by kernel_rfl) rfl ?_ ?_
  · rw [h.hP]; exact ⟨_, Tryd.func70, by kernel_rfl, by kernel_rfl⟩
  · rintro xs ⟨l, x, rfl, h1⟩; exact ⟨_, l, x, rfl, rfl⟩
  · rintro xs ⟨l, x, rfl, h1⟩
    refine ⟨by rw [Tryd.ntmps70]; simp, ?_⟩
    simp only [go_sem, h.hP, idx_intS_q, idx_intS_p, idx_intS_c, idx_intS_f, Tryd.ntmps70, Nat.reduceEqDiff, reduceCtorEq, Nat.reduceMul, Nat.reduceAdd, Nat.reduceSub, Nat.reduceDiv, Nat.reduceMod, Nat.reduceLeDiff, Nat.reduceLT, Nat.reduceBNe, Nat.reduceBEq, reduceIte, Int.reduceLE, Int.reduceLT, Int.reduceToNat, Int.reduceNeg, Int.reduceAdd, Int.reduceSub, Int.reduceMul, Int.reduceEq]
    refine vc_loopS (Int) (fun (i : Int) => [(8, .i i)]) [] (fun (i : Int) => []) (fun (i : Int) => []) (fun (i : Int) => 0) (fun (i : Int) => 0 ≤ i ∧ i ≤ l.length ∧ ∀ j : Nat, (j : Int) < i → ¬ x = l.getD j 0) (fun (i : Int) => (l.length - i).toNat) [] ?_ ?_
    · simp only [go_sem, h.hP, List.cons_append, List.nil_append, Meets_e, Below_e, Prod.exists, exists_eq, exists_eq_left, exists_eq_left', exists_eq_right, exists_eq_right', exists_and_left, exists_and_right, Ob.arr.injEq, AV.own.injEq, AV.fv.injEq, intsD_len, intsD_get, intsDi_inj, Tryd.ntmps70, Nat.reduceEqDiff, reduceCtorEq, Nat.reduceMul, Nat.reduceAdd, Nat.reduceSub, Nat.reduceDiv, Nat.reduceMod, Nat.reduceLeDiff, Nat.reduceLT, Nat.reduceBNe, Nat.reduceBEq, reduceIte, Int.reduceLE, Int.reduceLT, Int.reduceToNat, Int.reduceNeg, Int.reduceAdd, Int.reduceSub, Int.reduceMul, Int.reduceEq]
      exact ⟨Int.natCast_nonneg _, fun j hj => by omega⟩
    · rintro i ⟨j1, j2, j3⟩
      simp only [go_sem, h.hP, List.cons_append, List.nil_append, Meets_e, Below_e, Prod.exists, exists_eq, exists_eq_left, exists_eq_left', exists_eq_right, exists_eq_right', exists_and_left, exists_and_right, Ob.arr.injEq, AV.own.injEq, AV.fv.injEq, idx_intS_q, idx_intS_p, idx_intS_c, idx_intS_f, intsD_len, intsD_get, intsDi_inj, Tryd.ntmps70, Nat.reduceEqDiff, reduceCtorEq, Nat.reduceMul, Nat.reduceAdd, Nat.reduceSub, Nat.reduceDiv, Nat.reduceMod, Nat.reduceLeDiff, Nat.reduceLT, Nat.reduceBNe, Nat.reduceBEq, reduceIte, Int.reduceLE, Int.reduceLT, Int.reduceToNat, Int.reduceNeg, Int.reduceAdd, Int.reduceSub, Int.reduceMul, Int.reduceEq]
      exact idx_leafT j1 j2 j3 h1
theorem contains_int {cx : Cx} (h : Seat cx) : Ctr cx 34 con_intS := by
  refine ctr_of (fn := Tryd.f34) (l := [.tmp 4]) (envL [(70, idx_intS)]) [0, 1, 4] [] [] (envL_cons (index_int h) (env0 h.hP)) ?_ (by rw [h.hP]; exact Tryd.func34) rfl (by kernel_rfl) rfl ?_ ?_
  · rw [h.hP]; exact ⟨_, Tryd.func34, by kernel_rfl, by kernel_rfl⟩
  · rintro xs ⟨l, x, rfl, h1⟩; exact ⟨_, l, x, rfl, rfl⟩
  · rintro xs ⟨l, x, rfl, h1⟩
    refine ⟨by rw [Tryd.ntmps34]; simp, ?_⟩
    simp only [go_sem, h.hP, List.cons_append, List.nil_append, Meets_e, Below_e, Prod.exists, exists_eq, exists_eq_left, exists_eq_left', exists_eq_right, exists_eq_right', exists_and_left, exists_and_right, Ob.arr.injEq, AV.own.injEq, AV.fv.injEq, idx_intS_q, idx_intS_p, idx_intS_c, idx_intS_f, con_intS_q, con_intS_p, con_intS_c, con_intS_f, intsD_len, intsD_get, intsDi_inj, Tryd.ntmps34, Nat.reduceEqDiff, reduceCtorEq, Nat.reduceMul, Nat.reduceAdd, Nat.reduceSub, Nat.reduceDiv, Nat.reduceMod, Nat.reduceLeDiff, Nat.reduceLT, Nat.reduceBNe, Nat.reduceBEq, reduceIte, Int.reduceLE, Int.reduceLT, Int.reduceToNat, Int.reduceNeg, Int.reduceAdd, Int.reduceSub, Int.reduceMul, Int.reduceEq]
    exact ⟨h1, conE_ge x l⟩
def quietS  : Spec where
  pre xs := ∃ (r : TSendRules) (z : TZone) (ch : Int) (m : Int), xs = [.dv (.ag r.row), .dv (.ag z.row), .i ch, .i m] ∧ (r.ok ∧ OkZ z.shifts ∧ 0 ≤ m ∧ m ≤ 4321440)
  post xs y := ∃ (r : TSendRules) (z : TZone) (ch : Int) (m : Int), xs = [.dv (.ag r.row), .dv (.ag z.row), .i ch, .i m] ∧ y = .b (qB r z.shifts ch m)
  cost _ := 0
  fresh := true
theorem quietS_c  (xs : List AV) : (quietS).cost xs = 0 := nr rfl
theorem quietS_f  : (quietS).fresh = true := nr rfl
theorem quietS_q  (r : TSendRules) (z : TZone) (ch : Int) (m : Int) : (quietS).pre [.dv (.ag [.sl (intsD r.quiet), .int .i64 r.quietFrom, .int .i64 r.quietTo, .sl (rowsT r.ranks), .sl (TCap.rows r.caps), .sl (TPool.rows r.pools), .sl (intsD r.delays)]), .dv (.ag [.str z.name, .sl (TShift.rows z.shifts)]), .i ch, .i m] = (r.ok ∧ OkZ z.shifts ∧ 0 ≤ m ∧ m ≤ 4321440) := propext ⟨fun h => by
  have h' : ∃ (r' : TSendRules) (z' : TZone) (ch' : Int) (m' : Int), ([.dv (.ag r.row), .dv (.ag z.row), .i ch, .i m] : List AV) = [.dv (.ag r'.row), .dv (.ag z'.row), .i ch', .i m'] ∧ (r'.ok ∧ OkZ z'.shifts ∧ 0 ≤ m' ∧ m' ≤ 4321440) := h
  obtain ⟨r', z', ch', m', e, h⟩ := h'
  simp only [List.cons.injEq, AV.dv.injEq, AV.fv.injEq, DV.d.injEq, DV.ag.injEq, D.int.injEq, D.str.injEq, D.bool.injEq, D.sl.injEq, true_and, and_true, intsDi_inj, rowsT_inj, rowsKi_inj, TSendRules.row_inj, TSendRules.rows_inj, TZone.row_inj, TZone.rows_inj] at e
  obtain ⟨rfl, rfl, rfl, rfl⟩ := e
  exact h, fun h => ⟨r, z, ch, m, rfl, h⟩⟩
theorem quietS_p  (r : TSendRules) (z : TZone) (ch : Int) (m : Int) : (quietS).post [.dv (.ag [.sl (intsD r.quiet), .int .i64 r.quietFrom, .int .i64 r.quietTo, .sl (rowsT r.ranks), .sl (TCap.rows r.caps), .sl (TPool.rows r.pools), .sl (intsD r.delays)]), .dv (.ag [.str z.name, .sl (TShift.rows z.shifts)]), .i ch, .i m] = fun y => y = .b (qB r z.shifts ch m) := funext fun y => propext ⟨fun h => by
  have h' : ∃ (r' : TSendRules) (z' : TZone) (ch' : Int) (m' : Int), ([.dv (.ag r.row), .dv (.ag z.row), .i ch, .i m] : List AV) = [.dv (.ag r'.row), .dv (.ag z'.row), .i ch', .i m'] ∧ y = .b (qB r' z'.shifts ch' m') := h
  obtain ⟨r', z', ch', m', e, h⟩ := h'
  simp only [List.cons.injEq, AV.dv.injEq, AV.fv.injEq, DV.d.injEq, DV.ag.injEq, D.int.injEq, D.str.injEq, D.bool.injEq, D.sl.injEq, true_and, and_true, intsDi_inj, rowsT_inj, rowsKi_inj, TSendRules.row_inj, TSendRules.rows_inj, TZone.row_inj, TZone.rows_inj] at e
  obtain ⟨rfl, rfl, rfl, rfl⟩ := e
  exact h, fun h => ⟨r, z, ch, m, rfl, h⟩⟩
set_option maxHeartbeats 4000000 in
theorem quiet_ctr {cx : Cx} (h : Seat cx) : Ctr cx 26 quietS := by
  refine ctr_of (fn := Tryd.f26) (l := [.tmp 8]) (envL [(34, con_intS), (61, minS)]) [0, 1, 2, 3, 4, 5, 8, 9, 21, 29] [] [] (envL_cons (contains_int h) (envL_cons (LocalMinute_ctr h) (env0 h.hP))) ?_ (by rw [h.hP]; exact Tryd.func26) rfl (by kernel_rfl) rfl ?_ ?_
  · rw [h.hP]; exact ⟨_, Tryd.func26, by kernel_rfl, by kernel_rfl⟩
  · rintro xs ⟨r, z, ch, m, rfl, h1⟩; exact ⟨_, r, z, ch, m, rfl, rfl⟩
  · rintro xs ⟨r, z, ch, m, rfl, h1, h2, h3, h4⟩
    have o := h1.1.1
    refine ⟨by rw [Tryd.ntmps26]; simp, ?_⟩
    simp only [go_sem, h.hP, List.cons_append, List.nil_append, Meets_e, Below_e, Prod.exists, exists_eq, exists_eq_left, exists_eq_left', exists_eq_right, exists_eq_right', exists_and_left, exists_and_right, Ob.arr.injEq, AV.own.injEq, AV.fv.injEq, quietS_q, quietS_p, quietS_c, quietS_f, con_intS_q, con_intS_p, con_intS_c, con_intS_f, minS_q, minS_p, minS_c, minS_f, TSendRules.row, TZone.row, intsD_len, TShift.rows_inj, Tryd.ntmps26, Nat.reduceEqDiff, reduceCtorEq, Nat.reduceMul, Nat.reduceAdd, Nat.reduceSub, Nat.reduceDiv, Nat.reduceMod, Nat.reduceLeDiff, Nat.reduceLT, Nat.reduceBNe, Nat.reduceBEq, reduceIte, Int.reduceLE, Int.reduceLT, Int.reduceToNat, Int.reduceNeg, Int.reduceAdd, Int.reduceSub, Int.reduceMul, Int.reduceEq]
    refine ⟨by omega, fun c => ⟨fun d => ?_, fun d => ⟨h2, h3, h4, fun e => ⟨fun f => ?_, fun f => ?_⟩, fun e => ⟨fun f => ?_, fun f => ?_⟩⟩⟩, fun c => ?_⟩
    · unfold qB; rw [c, decide_eq_false (by simpa using d)]; rfl
    · unfold qB spanB; rw [c, decide_eq_true d, if_pos e]; simp [f]
    · unfold qB spanB; rw [c, decide_eq_true d, if_pos e]; simp [f]
    · unfold qB spanB; rw [c, decide_eq_true d, if_neg e]; simp [f]
    · unfold qB spanB; rw [c, decide_eq_true d, if_neg e]; simp [f]
    · unfold qB; rw [c]; rfl
def quietAtS  : Spec where
  pre xs := ∃ (r : TSendRules) (z : TZone) (ch : Int) (m : Int), xs = [.dv (.ag r.row), .dv (.ag z.row), .i ch, .i m] ∧ (r.ok ∧ (0 ≤ r.quietFrom ∧ r.quietFrom ≤ 1439 ∧ 0 ≤ r.quietTo ∧ r.quietTo ≤ 1439) ∧ OkZ z.shifts ∧ 0 ≤ m ∧ m ≤ 4321440)
  post xs y := ∃ (r : TSendRules) (z : TZone) (ch : Int) (m : Int), xs = [.dv (.ag r.row), .dv (.ag z.row), .i ch, .i m] ∧ y = .b (qB r z.shifts ch m)
  cost _ := 0
  fresh := true
theorem quietAtS_c  (xs : List AV) : (quietAtS).cost xs = 0 := nr rfl
theorem quietAtS_f  : (quietAtS).fresh = true := nr rfl
theorem quietAtS_q  (r : TSendRules) (z : TZone) (ch : Int) (m : Int) : (quietAtS).pre [.dv (.ag [.sl (intsD r.quiet), .int .i64 r.quietFrom, .int .i64 r.quietTo, .sl (rowsT r.ranks), .sl (TCap.rows r.caps), .sl (TPool.rows r.pools), .sl (intsD r.delays)]), .dv (.ag [.str z.name, .sl (TShift.rows z.shifts)]), .i ch, .i m] = (r.ok ∧ (0 ≤ r.quietFrom ∧ r.quietFrom ≤ 1439 ∧ 0 ≤ r.quietTo ∧ r.quietTo ≤ 1439) ∧ OkZ z.shifts ∧ 0 ≤ m ∧ m ≤ 4321440) := propext ⟨fun h => by
  have h' : ∃ (r' : TSendRules) (z' : TZone) (ch' : Int) (m' : Int), ([.dv (.ag r.row), .dv (.ag z.row), .i ch, .i m] : List AV) = [.dv (.ag r'.row), .dv (.ag z'.row), .i ch', .i m'] ∧ (r'.ok ∧ (0 ≤ r'.quietFrom ∧ r'.quietFrom ≤ 1439 ∧ 0 ≤ r'.quietTo ∧ r'.quietTo ≤ 1439) ∧ OkZ z'.shifts ∧ 0 ≤ m' ∧ m' ≤ 4321440) := h
  obtain ⟨r', z', ch', m', e, h⟩ := h'
  simp only [List.cons.injEq, AV.dv.injEq, AV.fv.injEq, DV.d.injEq, DV.ag.injEq, D.int.injEq, D.str.injEq, D.bool.injEq, D.sl.injEq, true_and, and_true, intsDi_inj, rowsT_inj, rowsKi_inj, TSendRules.row_inj, TSendRules.rows_inj, TZone.row_inj, TZone.rows_inj] at e
  obtain ⟨rfl, rfl, rfl, rfl⟩ := e
  exact h, fun h => ⟨r, z, ch, m, rfl, h⟩⟩
theorem quietAtS_p  (r : TSendRules) (z : TZone) (ch : Int) (m : Int) : (quietAtS).post [.dv (.ag [.sl (intsD r.quiet), .int .i64 r.quietFrom, .int .i64 r.quietTo, .sl (rowsT r.ranks), .sl (TCap.rows r.caps), .sl (TPool.rows r.pools), .sl (intsD r.delays)]), .dv (.ag [.str z.name, .sl (TShift.rows z.shifts)]), .i ch, .i m] = fun y => y = .b (qB r z.shifts ch m) := funext fun y => propext ⟨fun h => by
  have h' : ∃ (r' : TSendRules) (z' : TZone) (ch' : Int) (m' : Int), ([.dv (.ag r.row), .dv (.ag z.row), .i ch, .i m] : List AV) = [.dv (.ag r'.row), .dv (.ag z'.row), .i ch', .i m'] ∧ y = .b (qB r' z'.shifts ch' m') := h
  obtain ⟨r', z', ch', m', e, h⟩ := h'
  simp only [List.cons.injEq, AV.dv.injEq, AV.fv.injEq, DV.d.injEq, DV.ag.injEq, D.int.injEq, D.str.injEq, D.bool.injEq, D.sl.injEq, true_and, and_true, intsDi_inj, rowsT_inj, rowsKi_inj, TSendRules.row_inj, TSendRules.rows_inj, TZone.row_inj, TZone.rows_inj] at e
  obtain ⟨rfl, rfl, rfl, rfl⟩ := e
  exact h, fun h => ⟨r, z, ch, m, rfl, h⟩⟩
set_option maxHeartbeats 4000000 in
theorem QuietAt_ctr {cx : Cx} (h : Seat cx) : Ctr cx 16 quietAtS := by
  refine ctr_of (fn := Tryd.f16) (l := [.tmp 8]) (envL [(34, con_intS), (33, clockS)]) [0, 1, 2, 3, 4, 5, 8, 9, 26, 30, 34, 42] [] [] (envL_cons (contains_int h) (envL_cons (Clock_ctr h) (env0 h.hP))) ?_ (by rw [h.hP]; exact Tryd.func16) rfl (by kernel_rfl) rfl ?_ ?_
  · rw [h.hP]; exact ⟨_, Tryd.func16, by kernel_rfl, by kernel_rfl⟩
  · rintro xs ⟨r, z, ch, m, rfl, h1⟩; exact ⟨_, r, z, ch, m, rfl, rfl⟩
  · rintro xs ⟨r, z, ch, m, rfl, h1, ⟨f0, f1, t0, t1⟩, h2, h3, h4⟩
    have o := h1.1.1
    have hl := locF_le h2 h3
    have hmn := minF_in h2 h3
    have hw : IntKind.i64.wrap (locF z.shifts m + 1440) = locF z.shifts m + 1440 := i64w (by omega) (by omega)
    have hw2 : (locF z.shifts m + 1440).tmod 1440 = minF z.shifts m := rfl
    refine ⟨by rw [Tryd.ntmps16]; simp, ?_⟩
    simp only [go_sem, h.hP, List.cons_append, List.nil_append, Meets_e, Below_e, Prod.exists, exists_eq, exists_eq_left, exists_eq_left', exists_eq_right, exists_eq_right', exists_and_left, exists_and_right, Ob.arr.injEq, AV.own.injEq, AV.fv.injEq, quietAtS_q, quietAtS_p, quietAtS_c, quietAtS_f, con_intS_q, con_intS_p, con_intS_c, con_intS_f, clockS_q, clockS_p, clockS_c, clockS_f, TSendRules.row, TZone.row, intsD_len, TShift.rows_inj, hw, hw2, Tryd.ntmps16, Nat.reduceEqDiff, reduceCtorEq, Nat.reduceMul, Nat.reduceAdd, Nat.reduceSub, Nat.reduceDiv, Nat.reduceMod, Nat.reduceLeDiff, Nat.reduceLT, Nat.reduceBNe, Nat.reduceBEq, reduceIte, Int.reduceLE, Int.reduceLT, Int.reduceToNat, Int.reduceNeg, Int.reduceAdd, Int.reduceSub, Int.reduceMul, Int.reduceEq]
    refine ⟨h2, h3, h4, by omega, fun c => ⟨fun d => ?_, fun d => ?_⟩, fun c => ?_⟩
    · unfold qB; rw [c, decide_eq_false (by simpa using d)]; rfl
    · have hq : qB r z.shifts ch m = spanB r.quietFrom r.quietTo (minF z.shifts m) := by
        unfold qB; rw [c, decide_eq_true d]; rfl
      have he : false = (r.quietFrom == r.quietTo) := by simpa using d
      rw [hq]
      rw [upd_lk]
      refine vc_loopS (Int) (fun (n : Int) => [(9, .i n)]) [4] (fun (n : Int) => []) (fun (n : Int) => []) (fun (n : Int) => 0) (fun (n : Int) => 0 ≤ n ∧ n ≤ 1439 ∧ spanB r.quietFrom r.quietTo n = spanB r.quietFrom r.quietTo (minF z.shifts m)) (fun (n : Int) => ((n - r.quietFrom) % 1440).toNat) [] ?_ ?_
      · simp only [go_sem, h.hP, List.cons_append, List.nil_append, Meets_e, Below_e, Prod.exists, exists_eq, exists_eq_left, exists_eq_left', exists_eq_right, exists_eq_right', exists_and_left, exists_and_right, Ob.arr.injEq, AV.own.injEq, AV.fv.injEq, Tryd.ntmps16, Nat.reduceEqDiff, reduceCtorEq, Nat.reduceMul, Nat.reduceAdd, Nat.reduceSub, Nat.reduceDiv, Nat.reduceMod, Nat.reduceLeDiff, Nat.reduceLT, Nat.reduceBNe, Nat.reduceBEq, reduceIte, Int.reduceLE, Int.reduceLT, Int.reduceToNat, Int.reduceNeg, Int.reduceAdd, Int.reduceSub, Int.reduceMul, Int.reduceEq]
        exact ⟨he, hmn⟩
      · rintro n ⟨n0, n1, n2⟩
        have hw3 : IntKind.i64.wrap (n + 1440) = n + 1440 := i64w (by omega) (by omega)
        have hw4 : IntKind.i64.wrap (n + 1440 - 1) = n + 1440 - 1 := i64w (by omega) (by omega)
        have hb := back_is n0 n1
        simp only [go_sem, h.hP, List.cons_append, List.nil_append, Meets_e, Below_e, Prod.exists, exists_eq, exists_eq_left, exists_eq_left', exists_eq_right, exists_eq_right', exists_and_left, exists_and_right, Ob.arr.injEq, AV.own.injEq, AV.fv.injEq, quietAtS_q, quietAtS_p, quietAtS_c, quietAtS_f, TSendRules.row, TZone.row, hw3, hw4, hb, Tryd.ntmps16, Nat.reduceEqDiff, reduceCtorEq, Nat.reduceMul, Nat.reduceAdd, Nat.reduceSub, Nat.reduceDiv, Nat.reduceMod, Nat.reduceLeDiff, Nat.reduceLT, Nat.reduceBNe, Nat.reduceBEq, reduceIte, Int.reduceLE, Int.reduceLT, Int.reduceToNat, Int.reduceNeg, Int.reduceAdd, Int.reduceSub, Int.reduceMul, Int.reduceEq]
        refine ⟨fun e => ?_, fun e => ⟨fun g => ?_, fun g => ⟨fun k => ?_, fun k => ⟨he, ?_, ?_, ?_, ?_⟩⟩⟩⟩
        · rw [← n2, e, span_at d]
        · rw [← n2, g, span_to d]
        · rw [← n2, span_next f0 f1 t0 t1 n0 n1 e k d]
        · split <;> omega
        · split <;> omega
        · rw [span_back f0 f1 t0 t1 n0 n1 e g, n2]
        · split <;> omega
    · unfold qB; rw [c]; rfl
noncomputable def checkQF (r : TSendRules) (z : TZone) (ch m : Int) : Int := orE (rulesF r) (orE (zoneF z) (if inB ch 1 4 = false then 4 else if inB m 0 4321439 = false then 1 else 0))
def checkQS  : Spec where
  pre xs := ∃ (r : TSendRules) (z : TZone) (ch : Int) (m : Int), xs = [.dv (.ag r.row), .dv (.ag z.row), .i ch, .i m] ∧ (r.ok ∧ z.ok)
  post xs y := ∃ (r : TSendRules) (z : TZone) (ch : Int) (m : Int), xs = [.dv (.ag r.row), .dv (.ag z.row), .i ch, .i m] ∧ y = .i (checkQF r z ch m)
  cost _ := 0
  fresh := true
theorem checkQS_c  (xs : List AV) : (checkQS).cost xs = 0 := nr rfl
theorem checkQS_f  : (checkQS).fresh = true := nr rfl
theorem checkQS_q  (r : TSendRules) (z : TZone) (ch : Int) (m : Int) : (checkQS).pre [.dv (.ag [.sl (intsD r.quiet), .int .i64 r.quietFrom, .int .i64 r.quietTo, .sl (rowsT r.ranks), .sl (TCap.rows r.caps), .sl (TPool.rows r.pools), .sl (intsD r.delays)]), .dv (.ag [.str z.name, .sl (TShift.rows z.shifts)]), .i ch, .i m] = (r.ok ∧ z.ok) := propext ⟨fun h => by
  have h' : ∃ (r' : TSendRules) (z' : TZone) (ch' : Int) (m' : Int), ([.dv (.ag r.row), .dv (.ag z.row), .i ch, .i m] : List AV) = [.dv (.ag r'.row), .dv (.ag z'.row), .i ch', .i m'] ∧ (r'.ok ∧ z'.ok) := h
  obtain ⟨r', z', ch', m', e, h⟩ := h'
  simp only [List.cons.injEq, AV.dv.injEq, AV.fv.injEq, DV.d.injEq, DV.ag.injEq, D.int.injEq, D.str.injEq, D.bool.injEq, D.sl.injEq, true_and, and_true, intsDi_inj, rowsT_inj, rowsKi_inj, TSendRules.row_inj, TSendRules.rows_inj, TZone.row_inj, TZone.rows_inj] at e
  obtain ⟨rfl, rfl, rfl, rfl⟩ := e
  exact h, fun h => ⟨r, z, ch, m, rfl, h⟩⟩
theorem checkQS_p  (r : TSendRules) (z : TZone) (ch : Int) (m : Int) : (checkQS).post [.dv (.ag [.sl (intsD r.quiet), .int .i64 r.quietFrom, .int .i64 r.quietTo, .sl (rowsT r.ranks), .sl (TCap.rows r.caps), .sl (TPool.rows r.pools), .sl (intsD r.delays)]), .dv (.ag [.str z.name, .sl (TShift.rows z.shifts)]), .i ch, .i m] = fun y => y = .i (checkQF r z ch m) := funext fun y => propext ⟨fun h => by
  have h' : ∃ (r' : TSendRules) (z' : TZone) (ch' : Int) (m' : Int), ([.dv (.ag r.row), .dv (.ag z.row), .i ch, .i m] : List AV) = [.dv (.ag r'.row), .dv (.ag z'.row), .i ch', .i m'] ∧ y = .i (checkQF r' z' ch' m') := h
  obtain ⟨r', z', ch', m', e, h⟩ := h'
  simp only [List.cons.injEq, AV.dv.injEq, AV.fv.injEq, DV.d.injEq, DV.ag.injEq, D.int.injEq, D.str.injEq, D.bool.injEq, D.sl.injEq, true_and, and_true, intsDi_inj, rowsT_inj, rowsKi_inj, TSendRules.row_inj, TSendRules.rows_inj, TZone.row_inj, TZone.rows_inj] at e
  obtain ⟨rfl, rfl, rfl, rfl⟩ := e
  exact h, fun h => ⟨r, z, ch, m, rfl, h⟩⟩
theorem checkQuiet_ctr {cx : Cx} (h : Seat cx) : Ctr cx 25 checkQS := by
  refine ctr_of (fn := Tryd.f25) (l := [.tmp 8]) (envL [(57, rulesS), (58, zoneS), (59, chanS), (60, inS)]) [0, 1, 2, 3, 4, 5, 8, 9, 10, 14, 19, 21, 25] [] [] (envL_cons (CheckRules_ctr h) (envL_cons (CheckZone_ctr h) (envL_cons (isChannel_ctr h) (envL_cons (within_ctr h) (env0 h.hP))))) ?_ (by rw [h.hP]; exact Tryd.func25) rfl (by kernel_rfl) rfl ?_ ?_
  · rw [h.hP]; exact ⟨_, Tryd.func25, by kernel_rfl, by kernel_rfl⟩
  · rintro xs ⟨r, z, ch, m, rfl, h1⟩; exact ⟨_, r, z, ch, m, rfl, rfl⟩
  · rintro xs ⟨r, z, ch, m, rfl, h1, h2⟩
    refine ⟨by rw [Tryd.ntmps25]; simp, ?_⟩
    simp only [go_sem, h.hP, List.cons_append, List.nil_append, Meets_e, Below_e, Prod.exists, exists_eq, exists_eq_left, exists_eq_left', exists_eq_right, exists_eq_right', exists_and_left, exists_and_right, Ob.arr.injEq, AV.own.injEq, AV.fv.injEq, checkQS_q, checkQS_p, checkQS_c, checkQS_f, rulesS_q, rulesS_p, rulesS_c, rulesS_f, zoneS_q, zoneS_p, zoneS_c, zoneS_f, chanS_q, chanS_p, chanS_c, chanS_f, inS_q, inS_p, inS_c, inS_f, TSendRules.row, TZone.row, Tryd.ntmps25, Nat.reduceEqDiff, reduceCtorEq, Nat.reduceMul, Nat.reduceAdd, Nat.reduceSub, Nat.reduceDiv, Nat.reduceMod, Nat.reduceLeDiff, Nat.reduceLT, Nat.reduceBNe, Nat.reduceBEq, reduceIte, Int.reduceLE, Int.reduceLT, Int.reduceToNat, Int.reduceNeg, Int.reduceAdd, Int.reduceSub, Int.reduceMul, Int.reduceEq]
    refine ⟨h1, fun c => (orE_l c).symm, fun c => ⟨h2, fun d => ((orE_r c).trans (orE_l d)).symm, fun d => ?_⟩⟩
    have e : checkQF r z ch m = if inB ch 1 4 = false then 4 else if inB m 0 4321439 = false then 1 else 0 := (orE_r c).trans (orE_r d)
    rw [e]
    exact ⟨fun a => (if_pos a).symm, fun a => ⟨fun b => ((if_neg (ne_ft a)).trans (if_pos b)).symm, fun b => ((if_neg (ne_ft a)).trans (if_neg (ne_ft b))).symm⟩⟩
theorem rules_quiet {r : TSendRules} (h : rulesF r = 0) : 0 ≤ r.quietFrom ∧ r.quietFrom ≤ 1439 ∧ 0 ≤ r.quietTo ∧ r.quietTo ≤ 1439 := by
  have h1 : rules1F r = 0 := by
    unfold rulesF orE at h
    split at h
    · rename_i c; exact absurd h c
    · exact h
  unfold rules1F at h1
  split at h1
  · cases h1
  · rename_i c
    rw [not_or] at c
    have a := inB_iff.1 (Bool.not_eq_false _ ▸ c.1)
    have b := inB_iff.1 (Bool.not_eq_false _ ▸ c.2)
    exact ⟨a.1, a.2, b.1, b.2⟩
theorem checkQ_use {r : TSendRules} {z : TZone} {ch m : Int} (h : checkQF r z ch m = 0) : rulesF r = 0 ∧ zoneF z = 0 ∧ inB ch 1 4 = true ∧ 0 ≤ m ∧ m ≤ 4321439 := by
  obtain ⟨h1, h2⟩ := orE_zero h
  obtain ⟨h3, h4⟩ := orE_zero h2
  split at h4
  · cases h4
  split at h4
  · cases h4
  rename_i c d
  have e := inB_iff.1 (by simpa using d : inB m 0 4321439 = true)
  exact ⟨h1, h3, by simpa using c, e.1, e.2⟩
noncomputable def isQF (r : TSendRules) (z : TZone) (ch m : Int) : Bool := decide (checkQF r z ch m = 0) && qB r z.shifts ch m
def isQS  : Spec where
  pre xs := ∃ (r : TSendRules) (z : TZone) (ch : Int) (m : Int), xs = [.dv (.ag r.row), .dv (.ag z.row), .i ch, .i m] ∧ (r.ok ∧ z.ok)
  post xs y := ∃ (r : TSendRules) (z : TZone) (ch : Int) (m : Int), xs = [.dv (.ag r.row), .dv (.ag z.row), .i ch, .i m] ∧ y = .tcons (.b (isQF r z ch m)) (.tcons (.i (checkQF r z ch m)) .tnil)
  cost _ := 0
  fresh := true
theorem isQS_c  (xs : List AV) : (isQS).cost xs = 0 := nr rfl
theorem isQS_f  : (isQS).fresh = true := nr rfl
theorem isQS_q  (r : TSendRules) (z : TZone) (ch : Int) (m : Int) : (isQS).pre [.dv (.ag [.sl (intsD r.quiet), .int .i64 r.quietFrom, .int .i64 r.quietTo, .sl (rowsT r.ranks), .sl (TCap.rows r.caps), .sl (TPool.rows r.pools), .sl (intsD r.delays)]), .dv (.ag [.str z.name, .sl (TShift.rows z.shifts)]), .i ch, .i m] = (r.ok ∧ z.ok) := propext ⟨fun h => by
  have h' : ∃ (r' : TSendRules) (z' : TZone) (ch' : Int) (m' : Int), ([.dv (.ag r.row), .dv (.ag z.row), .i ch, .i m] : List AV) = [.dv (.ag r'.row), .dv (.ag z'.row), .i ch', .i m'] ∧ (r'.ok ∧ z'.ok) := h
  obtain ⟨r', z', ch', m', e, h⟩ := h'
  simp only [List.cons.injEq, AV.dv.injEq, AV.fv.injEq, DV.d.injEq, DV.ag.injEq, D.int.injEq, D.str.injEq, D.bool.injEq, D.sl.injEq, true_and, and_true, intsDi_inj, rowsT_inj, rowsKi_inj, TSendRules.row_inj, TSendRules.rows_inj, TZone.row_inj, TZone.rows_inj] at e
  obtain ⟨rfl, rfl, rfl, rfl⟩ := e
  exact h, fun h => ⟨r, z, ch, m, rfl, h⟩⟩
theorem isQS_p  (r : TSendRules) (z : TZone) (ch : Int) (m : Int) : (isQS).post [.dv (.ag [.sl (intsD r.quiet), .int .i64 r.quietFrom, .int .i64 r.quietTo, .sl (rowsT r.ranks), .sl (TCap.rows r.caps), .sl (TPool.rows r.pools), .sl (intsD r.delays)]), .dv (.ag [.str z.name, .sl (TShift.rows z.shifts)]), .i ch, .i m] = fun y => y = .tcons (.b (isQF r z ch m)) (.tcons (.i (checkQF r z ch m)) .tnil) := funext fun y => propext ⟨fun h => by
  have h' : ∃ (r' : TSendRules) (z' : TZone) (ch' : Int) (m' : Int), ([.dv (.ag r.row), .dv (.ag z.row), .i ch, .i m] : List AV) = [.dv (.ag r'.row), .dv (.ag z'.row), .i ch', .i m'] ∧ y = .tcons (.b (isQF r' z' ch' m')) (.tcons (.i (checkQF r' z' ch' m')) .tnil) := h
  obtain ⟨r', z', ch', m', e, h⟩ := h'
  simp only [List.cons.injEq, AV.dv.injEq, AV.fv.injEq, DV.d.injEq, DV.ag.injEq, D.int.injEq, D.str.injEq, D.bool.injEq, D.sl.injEq, true_and, and_true, intsDi_inj, rowsT_inj, rowsKi_inj, TSendRules.row_inj, TSendRules.rows_inj, TZone.row_inj, TZone.rows_inj] at e
  obtain ⟨rfl, rfl, rfl, rfl⟩ := e
  exact h, fun h => ⟨r, z, ch, m, rfl, h⟩⟩
theorem IsQuiet_ctr {cx : Cx} (h : Seat cx) : Ctr cx 10 isQS := by
  refine ctr_of (fn := Tryd.f10) (l := [.tmp 8, .tmp 9]) (envL [(25, checkQS), (26, quietS)]) [0, 1, 2, 3, 4, 5, 8, 9, 10, 17] [] [] (envL_cons (checkQuiet_ctr h) (envL_cons (quiet_ctr h) (env0 h.hP))) ?_ (by rw [h.hP]; exact Tryd.func10) rfl (by kernel_rfl) rfl ?_ ?_
  · rw [h.hP]; exact ⟨_, Tryd.func10, by kernel_rfl, by kernel_rfl⟩
  · rintro xs ⟨r, z, ch, m, rfl, h1⟩; exact ⟨_, r, z, ch, m, rfl, rfl⟩
  · rintro xs ⟨r, z, ch, m, rfl, h1, h2⟩
    refine ⟨by rw [Tryd.ntmps10]; simp, ?_⟩
    simp only [go_sem, h.hP, List.cons_append, List.nil_append, Meets_e, Below_e, Prod.exists, exists_eq, exists_eq_left, exists_eq_left', exists_eq_right, exists_eq_right', exists_and_left, exists_and_right, Ob.arr.injEq, AV.own.injEq, AV.fv.injEq, checkQS_q, checkQS_p, checkQS_c, checkQS_f, quietS_q, quietS_p, quietS_c, quietS_f, isQS_q, isQS_p, isQS_c, isQS_f, TSendRules.row, TZone.row, Tryd.ntmps10, Nat.reduceEqDiff, reduceCtorEq, Nat.reduceMul, Nat.reduceAdd, Nat.reduceSub, Nat.reduceDiv, Nat.reduceMod, Nat.reduceLeDiff, Nat.reduceLT, Nat.reduceBNe, Nat.reduceBEq, reduceIte, Int.reduceLE, Int.reduceLT, Int.reduceToNat, Int.reduceNeg, Int.reduceAdd, Int.reduceSub, Int.reduceMul, Int.reduceEq]
    refine ⟨h1, h2, fun c => ?_, fun c => ?_⟩
    · unfold isQF; rw [decide_eq_false c]; rfl
    · obtain ⟨e1, e2, e3, e4, e5⟩ := checkQ_use c
      refine ⟨h1, okZ e2, e4, by omega, ?_, c.symm⟩
      unfold isQF; rw [decide_eq_true c]; rfl
/-- The first moment from m on that is not quiet, or the end. -/
noncomputable def awakeN (r : TSendRules) (l : List TShift) (ch m : Int) : Int := m + ((List.range (4321440 - m).toNat).findIdx fun k : Nat => !qB r l ch (m + (k : Int)) : Nat)
theorem awake_is {r : TSendRules} {l : List TShift} {ch m n : Int} (h0 : m ≤ n) (h1 : n ≤ 4321440) (h2 : ∀ k : Int, m ≤ k → k < n → qB r l ch k = true) (h3 : n < 4321440 → qB r l ch n = false) : n = awakeN r l ch m := by
  obtain ⟨d, rfl⟩ : ∃ d : Nat, n = m + d := ⟨(n - m).toNat, by omega⟩
  unfold awakeN
  congr 2
  symm
  by_cases e : m + (d : Int) = 4321440
  · have : (List.range (4321440 - m).toNat).length = d := by rw [List.length_range]; omega
    rw [← this]
    rw [List.findIdx_eq_length]
    intro x hx
    have := List.mem_range.1 hx
    rw [h2 (m + x) (by omega) (by omega)]
    rfl
  · have hd : d < (List.range (4321440 - m).toNat).length := by rw [List.length_range]; omega
    rw [List.findIdx_eq hd]
    refine ⟨?_, fun j hj => ?_⟩
    · rw [List.getElem_range, h3 (by omega)]; rfl
    · rw [List.getElem_range, h2 (m + j) (by omega) (by omega)]; rfl
noncomputable def awF (r : TSendRules) (z : TZone) (ch m : Int) : Int := if checkQF r z ch m = 0 then awakeN r z.shifts ch m else 0
def awS  : Spec where
  pre xs := ∃ (r : TSendRules) (z : TZone) (ch : Int) (m : Int), xs = [.dv (.ag r.row), .dv (.ag z.row), .i ch, .i m] ∧ (r.ok ∧ z.ok)
  post xs y := ∃ (r : TSendRules) (z : TZone) (ch : Int) (m : Int), xs = [.dv (.ag r.row), .dv (.ag z.row), .i ch, .i m] ∧ y = .tcons (.i (awF r z ch m)) (.tcons (.i (checkQF r z ch m)) .tnil)
  cost _ := 0
  fresh := true
theorem awS_c  (xs : List AV) : (awS).cost xs = 0 := nr rfl
theorem awS_f  : (awS).fresh = true := nr rfl
theorem awS_q  (r : TSendRules) (z : TZone) (ch : Int) (m : Int) : (awS).pre [.dv (.ag [.sl (intsD r.quiet), .int .i64 r.quietFrom, .int .i64 r.quietTo, .sl (rowsT r.ranks), .sl (TCap.rows r.caps), .sl (TPool.rows r.pools), .sl (intsD r.delays)]), .dv (.ag [.str z.name, .sl (TShift.rows z.shifts)]), .i ch, .i m] = (r.ok ∧ z.ok) := propext ⟨fun h => by
  have h' : ∃ (r' : TSendRules) (z' : TZone) (ch' : Int) (m' : Int), ([.dv (.ag r.row), .dv (.ag z.row), .i ch, .i m] : List AV) = [.dv (.ag r'.row), .dv (.ag z'.row), .i ch', .i m'] ∧ (r'.ok ∧ z'.ok) := h
  obtain ⟨r', z', ch', m', e, h⟩ := h'
  simp only [List.cons.injEq, AV.dv.injEq, AV.fv.injEq, DV.d.injEq, DV.ag.injEq, D.int.injEq, D.str.injEq, D.bool.injEq, D.sl.injEq, true_and, and_true, intsDi_inj, rowsT_inj, rowsKi_inj, TSendRules.row_inj, TSendRules.rows_inj, TZone.row_inj, TZone.rows_inj] at e
  obtain ⟨rfl, rfl, rfl, rfl⟩ := e
  exact h, fun h => ⟨r, z, ch, m, rfl, h⟩⟩
theorem awS_p  (r : TSendRules) (z : TZone) (ch : Int) (m : Int) : (awS).post [.dv (.ag [.sl (intsD r.quiet), .int .i64 r.quietFrom, .int .i64 r.quietTo, .sl (rowsT r.ranks), .sl (TCap.rows r.caps), .sl (TPool.rows r.pools), .sl (intsD r.delays)]), .dv (.ag [.str z.name, .sl (TShift.rows z.shifts)]), .i ch, .i m] = fun y => y = .tcons (.i (awF r z ch m)) (.tcons (.i (checkQF r z ch m)) .tnil) := funext fun y => propext ⟨fun h => by
  have h' : ∃ (r' : TSendRules) (z' : TZone) (ch' : Int) (m' : Int), ([.dv (.ag r.row), .dv (.ag z.row), .i ch, .i m] : List AV) = [.dv (.ag r'.row), .dv (.ag z'.row), .i ch', .i m'] ∧ y = .tcons (.i (awF r' z' ch' m')) (.tcons (.i (checkQF r' z' ch' m')) .tnil) := h
  obtain ⟨r', z', ch', m', e, h⟩ := h'
  simp only [List.cons.injEq, AV.dv.injEq, AV.fv.injEq, DV.d.injEq, DV.ag.injEq, D.int.injEq, D.str.injEq, D.bool.injEq, D.sl.injEq, true_and, and_true, intsDi_inj, rowsT_inj, rowsKi_inj, TSendRules.row_inj, TSendRules.rows_inj, TZone.row_inj, TZone.rows_inj] at e
  obtain ⟨rfl, rfl, rfl, rfl⟩ := e
  exact h, fun h => ⟨r, z, ch, m, rfl, h⟩⟩
theorem Awake_ctr {cx : Cx} (h : Seat cx) : Ctr cx 11 awS := by
  refine ctr_of (fn := Tryd.f11) (l := [.tmp 8, .tmp 9]) (envL [(25, checkQS), (26, quietS)]) [0, 1, 2, 3, 4, 5, 8, 9, 10, 17, 27] [] [] (envL_cons (checkQuiet_ctr h) (envL_cons (quiet_ctr h) (env0 h.hP))) ?_ (by rw [h.hP]; exact Tryd.func11) rfl (by kernel_rfl) rfl ?_ ?_
  · rw [h.hP]; exact ⟨_, Tryd.func11, by kernel_rfl, by kernel_rfl⟩
  · rintro xs ⟨r, z, ch, m, rfl, h1⟩; exact ⟨_, r, z, ch, m, rfl, rfl⟩
  · rintro xs ⟨r, z, ch, m, rfl, h1, h2⟩
    refine ⟨by rw [Tryd.ntmps11]; simp, ?_⟩
    simp only [go_sem, h.hP, List.cons_append, List.nil_append, Meets_e, Below_e, Prod.exists, exists_eq, exists_eq_left, exists_eq_left', exists_eq_right, exists_eq_right', exists_and_left, exists_and_right, Ob.arr.injEq, AV.own.injEq, AV.fv.injEq, checkQS_q, checkQS_p, checkQS_c, checkQS_f, quietS_q, quietS_p, quietS_c, quietS_f, awS_q, awS_p, awS_c, awS_f, TSendRules.row, TZone.row, Tryd.ntmps11, Nat.reduceEqDiff, reduceCtorEq, Nat.reduceMul, Nat.reduceAdd, Nat.reduceSub, Nat.reduceDiv, Nat.reduceMod, Nat.reduceLeDiff, Nat.reduceLT, Nat.reduceBNe, Nat.reduceBEq, reduceIte, Int.reduceLE, Int.reduceLT, Int.reduceToNat, Int.reduceNeg, Int.reduceAdd, Int.reduceSub, Int.reduceMul, Int.reduceEq]
    refine ⟨h1, h2, fun c => (if_neg c).symm, fun c => ?_⟩
    obtain ⟨e1, e2, e3, e4, e5⟩ := checkQ_use c
    have hz := okZ e2
    have hA : awF r z ch m = awakeN r z.shifts ch m := if_pos c
    rw [hA, c]
    try rw [upd_lk]
    refine vc_loopS (Int) (fun (n : Int) => [(3, .i n)]) [4, 5] (fun (n : Int) => []) (fun (n : Int) => []) (fun (n : Int) => 0) (fun (n : Int) => m ≤ n ∧ n ≤ 4321440 ∧ ∀ k : Int, m ≤ k → k < n → qB r z.shifts ch k = true) (fun (n : Int) => (4321440 - n).toNat) [] ?_ ?_
    · simp only [go_sem, h.hP, List.cons_append, List.nil_append, Meets_e, Below_e, Prod.exists, exists_eq, exists_eq_left, exists_eq_left', exists_eq_right, exists_eq_right', exists_and_left, exists_and_right, Ob.arr.injEq, AV.own.injEq, AV.fv.injEq, Tryd.ntmps11, Nat.reduceEqDiff, reduceCtorEq, Nat.reduceMul, Nat.reduceAdd, Nat.reduceSub, Nat.reduceDiv, Nat.reduceMod, Nat.reduceLeDiff, Nat.reduceLT, Nat.reduceBNe, Nat.reduceBEq, reduceIte, Int.reduceLE, Int.reduceLT, Int.reduceToNat, Int.reduceNeg, Int.reduceAdd, Int.reduceSub, Int.reduceMul, Int.reduceEq]
      exact ⟨by omega, by omega, fun k a b => by omega⟩
    · rintro n ⟨n0, n1, n2⟩
      have hw : n < 4321440 → IntKind.i64.wrap (n + 1) = n + 1 := fun _ => i64w (by omega) (by omega)
      simp only [go_sem, h.hP, List.cons_append, List.nil_append, Meets_e, Below_e, Prod.exists, exists_eq, exists_eq_left, exists_eq_left', exists_eq_right, exists_eq_right', exists_and_left, exists_and_right, Ob.arr.injEq, AV.own.injEq, AV.fv.injEq, quietS_q, quietS_p, quietS_c, quietS_f, awS_q, awS_p, awS_c, awS_f, TSendRules.row, TZone.row, hw, Tryd.ntmps11, Nat.reduceEqDiff, reduceCtorEq, Nat.reduceMul, Nat.reduceAdd, Nat.reduceSub, Nat.reduceDiv, Nat.reduceMod, Nat.reduceLeDiff, Nat.reduceLT, Nat.reduceBNe, Nat.reduceBEq, reduceIte, Int.reduceLE, Int.reduceLT, Int.reduceToNat, Int.reduceNeg, Int.reduceAdd, Int.reduceSub, Int.reduceMul, Int.reduceEq]
      refine ⟨fun a => ⟨h1, hz, by omega, n1, fun b => ?_, fun b => awake_is n0 n1 n2 (fun _ => b)⟩, fun a => awake_is n0 n1 n2 (fun b => absurd b a)⟩
      rw [hw a]
      refine ⟨by omega, by omega, fun k k1 k2 => ?_, by omega⟩
      by_cases e : k = n
      · rw [e]; exact b
      · exact n2 k k1 (by omega)
end Go.Avc

/- QuietTimes: its walk. No condition. -/
set_option linter.unusedVariables false
set_option linter.unusedSimpArgs false
set_option maxRecDepth 100000
namespace Go.Avc
open Go Go.Proofs

set_option maxHeartbeats 8000000 in
theorem qt_walk {L : List Int} {A : Option Addr} {cp : Nat} {W : World} (hng : 3 ≤ W.heap.size) (hrd : Rd (fun k => k < W.heap.size) W (.sl (intRows L)) (.slice A L.length cp)) {glob : Nat → Option (List D)} (hgl : GlAt ⟨Tryd.prog, none, L, 25, 3, glob⟩ W) :
    Calls Tryd.prog 3 [Value.slice A L.length cp].toArray W fun e W' => e = .returned (.bool true) ∧ RowKit.Below W.heap.size W W' := by
  refine law_calls (E := envL [(5, rulesG), (6, zoneG2), (7, flipS), (8, nextS), (9, pickS), (10, isQS), (11, awS), (13, rulesS), (14, zoneS), (12, wrongS), (16, quietAtS), (15, sendsS)]) (B := 1300) (live := [0, 2, 3, 4, 5, 6, 7, 8, 9, 10, 11, 12, 13, 22, 59, 62, 69, 77, 106]) (HH := [5, 14, 19]) (hz := []) (d := 2) (x1 := 14) (x2 := 15) (x3 := 16) (x4 := 3) (ng := 3) (glob := glob) Tryd.func3 rfl rfl (by kernel_rfl) ⟨rfl, rfl, rfl⟩ ⟨rfl, rfl, rfl⟩ ⟨rfl, rfl, rfl⟩ ⟨rfl, rfl, rfl⟩ ⟨rfl, rfl, rfl⟩ build_stream ⟨by simp, by decide, by decide, by decide, by decide, by decide, by rw [Tryd.ntmps3]; decide⟩ (ex := []) (xv := []) rfl (fun i x u hx hu => by simp at hx) (by decide) hng hrd hgl ?_
  intro cx hP hS hG hGl
  have h : Seat cx := ⟨hP, hS⟩
  refine ⟨envL_cons (SendRules_ctr h) (envL_cons (Zone_ctr h) (envL_cons (flip_ctr cx h.hP h.hS) (envL_cons (next_ctr cx h.hP h.hS) (envL_cons (pick_ctr cx h.hP h.hS) (envL_cons (IsQuiet_ctr h) (envL_cons (Awake_ctr h) (envL_cons (SendRulesFault_ctr h) (envL_cons (ZoneFault_ctr h) (envL_cons (wrongOr_ctr h) (envL_cons (QuietAt_ctr h) (envL_cons (sends_ctr h) (env0 h.hP)))))))))))), ?_⟩
  simp only [go_sem, h.hP, List.cons_append, List.nil_append, Meets_e, Below_e, Prod.exists, exists_eq, exists_eq_left, exists_eq_left', exists_eq_right, exists_eq_right', exists_and_left, exists_and_right, Ob.arr.injEq, AV.own.injEq, AV.fv.injEq, rulesG, zoneG2, flipS_q, flipS_p, flipS_c, flipS_f, TSendRules.row, TZone.row, Tryd.ntmps3, Nat.reduceEqDiff, reduceCtorEq, Nat.reduceMul, Nat.reduceAdd, Nat.reduceSub, Nat.reduceDiv, Nat.reduceMod, Nat.reduceLeDiff, Nat.reduceLT, Nat.reduceBNe, Nat.reduceBEq, reduceIte, Int.reduceLE, Int.reduceLT, Int.reduceToNat, Int.reduceNeg, Int.reduceAdd, Int.reduceSub, Int.reduceMul, Int.reduceEq]
  intro r hr z hz
  refine vc_cutT (TSendRules) (fun (r : TSendRules) => [(22, .un)]) [5] (fun (r : TSendRules) => []) (fun (r : TSendRules) => [(4, .box 30 [.sl (intsD r.quiet), .i r.quietFrom, .i r.quietTo, .sl (rowsT r.ranks), .sl (TCap.rows r.caps), .sl (TPool.rows r.pools), .sl (intsD r.delays)])]) (fun (r : TSendRules) => 1200) (fun (r : TSendRules) => r.ok) [] ?_ ?_ ?_
  · rfl
  · simp only [go_sem, h.hP, List.cons_append, List.nil_append, Meets_e, Below_e, Prod.exists, exists_eq, exists_eq_left, exists_eq_left', exists_eq_right, exists_eq_right', exists_and_left, exists_and_right, Ob.arr.injEq, AV.own.injEq, AV.fv.injEq, flipS_q, flipS_p, flipS_c, flipS_f, nextS_q, nextS_p, nextS_c, nextS_f, TSendRules.row, TZone.row, TSendRules.ex, intsDi_inj, rowsT_inj, TCap.rows_inj, TPool.rows_inj, Tryd.ntmps3, Nat.reduceEqDiff, reduceCtorEq, Nat.reduceMul, Nat.reduceAdd, Nat.reduceSub, Nat.reduceDiv, Nat.reduceMod, Nat.reduceLeDiff, Nat.reduceLT, Nat.reduceBNe, Nat.reduceBEq, reduceIte, Int.reduceLE, Int.reduceLT, Int.reduceToNat, Int.reduceNeg, Int.reduceAdd, Int.reduceSub, Int.reduceMul, Int.reduceEq]
    exact fun b => ⟨fun _ a a0 a1 c c0 c1 => ⟨hr.1, (show okI a from ⟨by omega, by omega⟩), (show okI c from ⟨by omega, by omega⟩), hr.2.2.2⟩, fun _ => hr⟩
  · rintro r hr
    simp only [go_sem, h.hP, List.cons_append, List.nil_append, Meets_e, Below_e, Prod.exists, exists_eq, exists_eq_left, exists_eq_left', exists_eq_right, exists_eq_right', exists_and_left, exists_and_right, Ob.arr.injEq, AV.own.injEq, AV.fv.injEq, nextS_q, nextS_p, nextS_c, nextS_f, pickS_q, pickS_p, pickS_c, pickS_f, isQS_q, isQS_p, isQS_c, isQS_f, awS_q, awS_p, awS_c, awS_f, rulesS_q, rulesS_p, rulesS_c, rulesS_f, zoneS_q, zoneS_p, zoneS_c, zoneS_f, wrongS_q, wrongS_p, wrongS_c, wrongS_f, ints1, intsc, TSendRules.row, TZone.row, wrong_two, List.length_cons, List.length_nil, Tryd.ntmps3, Nat.reduceEqDiff, reduceCtorEq, Nat.reduceMul, Nat.reduceAdd, Nat.reduceSub, Nat.reduceDiv, Nat.reduceMod, Nat.reduceLeDiff, Nat.reduceLT, Nat.reduceBNe, Nat.reduceBEq, reduceIte, Int.reduceLE, Int.reduceLT, Int.reduceToNat, Int.reduceNeg, Int.reduceAdd, Int.reduceSub, Int.reduceMul, Int.reduceEq]
    intro ch hch y hy0 hy1 m hm
    refine ⟨hr, hz, hr, hz, hr, hz, ?_⟩
    refine vc_cutT (Int) (fun (f : Int) => [(12, .i f), (59, .un), (62, .un), (69, .un)]) [4, 5] (fun (f : Int) => []) (fun (f : Int) => []) (fun (f : Int) => 1210) (fun (f : Int) => f = checkQF r z ch m) [] ?_ ?_ ?_
    · rfl
    · simp only [go_sem, h.hP, List.cons_append, List.nil_append, Meets_e, Below_e, Prod.exists, exists_eq, exists_eq_left, exists_eq_left', exists_eq_right, exists_eq_right', exists_and_left, exists_and_right, Ob.arr.injEq, AV.own.injEq, AV.fv.injEq, Tryd.ntmps3, Nat.reduceEqDiff, reduceCtorEq, Nat.reduceMul, Nat.reduceAdd, Nat.reduceSub, Nat.reduceDiv, Nat.reduceMod, Nat.reduceLeDiff, Nat.reduceLT, Nat.reduceBNe, Nat.reduceBEq, reduceIte, Int.reduceLE, Int.reduceLT, Int.reduceToNat, Int.reduceNeg, Int.reduceAdd, Int.reduceSub, Int.reduceMul, Int.reduceEq]
      have hin : ∀ {n a b : Int}, inB n a b = false ↔ ¬ (a ≤ n ∧ n ≤ b) := fun {n a b} => by unfold inB; exact decide_eq_false_iff_not
      have hc : checkQF r z ch m = orE (rulesF r) (orE (zoneF z) (if inB ch 1 4 = false then 4 else if inB m 0 4321439 = false then 1 else 0)) := rfl
      simp only [hin] at hc
      generalize checkQF r z ch m = g at hc
      generalize rulesF r = a at hc
      generalize zoneF z = b at hc
      unfold orE at *
      clear hch hm
      grind
    · rintro f hf
      simp only [go_sem, h.hP, List.cons_append, List.nil_append, Meets_e, Below_e, Prod.exists, exists_eq, exists_eq_left, exists_eq_left', exists_eq_right, exists_eq_right', exists_and_left, exists_and_right, Ob.arr.injEq, AV.own.injEq, AV.fv.injEq, sendsS_q, sendsS_p, sendsS_c, sendsS_f, TSendRules.row, TZone.row, Tryd.ntmps3, Nat.reduceEqDiff, reduceCtorEq, Nat.reduceMul, Nat.reduceAdd, Nat.reduceSub, Nat.reduceDiv, Nat.reduceMod, Nat.reduceLeDiff, Nat.reduceLT, Nat.reduceBNe, Nat.reduceBEq, reduceIte, Int.reduceLE, Int.reduceLT, Int.reduceToNat, Int.reduceNeg, Int.reduceAdd, Int.reduceSub, Int.reduceMul, Int.reduceEq]
      subst hf
      refine ⟨fun c => ⟨fun _ => ⟨fun _ => ⟨fun _ e => e (if_neg c), fun e => ?_⟩, fun e => e rfl⟩, fun e => e rfl⟩, fun c => ?_⟩
      · unfold isQF at e
        rw [decide_eq_false c] at e
        cases e
      have hq : isQF r z ch m = qB r z.shifts ch m := by unfold isQF; rw [decide_eq_true c]; rfl
      have ha : awF r z ch m = awakeN r z.shifts ch m := if_pos c
      have hcu := checkQ_use c
      have hr4 := rules_quiet hcu.1
      have hzo := okZ hcu.2.1
      refine vc_cutT (Int) (fun (n : Int) => [(13, .i n), (106, .un)]) [4, 5] (fun (n : Int) => []) (fun (n : Int) => []) (fun (n : Int) => 1220) (fun (n : Int) => n = awakeN r z.shifts ch m) [] ?_ ?_ ?_
      · rfl
      · simp only [go_sem, h.hP, Tryd.ntmps3, Nat.reduceEqDiff, reduceCtorEq, Nat.reduceMul, Nat.reduceAdd, Nat.reduceSub, Nat.reduceDiv, Nat.reduceMod, Nat.reduceLeDiff, Nat.reduceLT, Nat.reduceBNe, Nat.reduceBEq, reduceIte, Int.reduceLE, Int.reduceLT, Int.reduceToNat, Int.reduceNeg, Int.reduceAdd, Int.reduceSub, Int.reduceMul, Int.reduceEq]
        refine vc_loopS (Int) (fun (n : Int) => [(13, .i n), (106, .un)]) [4, 5] (fun (n : Int) => []) (fun (n : Int) => []) (fun (n : Int) => 1215) (fun (n : Int) => m ≤ n ∧ n ≤ 4321440 ∧ ∀ k : Int, m ≤ k → k < n → qB r z.shifts ch k = true) (fun (n : Int) => (4321440 - n).toNat) [] ?_ ?_
        · simp only [go_sem, h.hP, List.cons_append, List.nil_append, Meets_e, Below_e, Prod.exists, exists_eq, exists_eq_left, exists_eq_left', exists_eq_right, exists_eq_right', exists_and_left, exists_and_right, Ob.arr.injEq, AV.own.injEq, AV.fv.injEq, Tryd.ntmps3, Nat.reduceEqDiff, reduceCtorEq, Nat.reduceMul, Nat.reduceAdd, Nat.reduceSub, Nat.reduceDiv, Nat.reduceMod, Nat.reduceLeDiff, Nat.reduceLT, Nat.reduceBNe, Nat.reduceBEq, reduceIte, Int.reduceLE, Int.reduceLT, Int.reduceToNat, Int.reduceNeg, Int.reduceAdd, Int.reduceSub, Int.reduceMul, Int.reduceEq]
          exact ⟨by omega, by omega, fun k a b => by omega⟩
        · rintro n ⟨n0, n1, n2⟩
          have hw : n < 4321440 → IntKind.i64.wrap (n + 1) = n + 1 := fun _ => i64w (by omega) (by omega)
          simp only [go_sem, h.hP, List.cons_append, List.nil_append, Meets_e, Below_e, Prod.exists, exists_eq, exists_eq_left, exists_eq_left', exists_eq_right, exists_eq_right', exists_and_left, exists_and_right, Ob.arr.injEq, AV.own.injEq, AV.fv.injEq, quietAtS_q, quietAtS_p, quietAtS_c, quietAtS_f, TSendRules.row, TZone.row, Tryd.ntmps3, Nat.reduceEqDiff, reduceCtorEq, Nat.reduceMul, Nat.reduceAdd, Nat.reduceSub, Nat.reduceDiv, Nat.reduceMod, Nat.reduceLeDiff, Nat.reduceLT, Nat.reduceBNe, Nat.reduceBEq, reduceIte, Int.reduceLE, Int.reduceLT, Int.reduceToNat, Int.reduceNeg, Int.reduceAdd, Int.reduceSub, Int.reduceMul, Int.reduceEq]
          refine ⟨fun a => ⟨hr, hr4.1, hr4.2.1, hr4.2.2.1, hr4.2.2.2, hzo, by omega, n1, fun b => ?_, fun b => awake_is n0 n1 n2 (fun _ => b)⟩, fun a => awake_is n0 n1 n2 (fun b => absurd b a)⟩
          rw [hw a]
          refine ⟨by omega, by omega, fun k k1 k2 => ?_, by omega⟩
          by_cases e : k = n
          · rw [e]; exact b
          · exact n2 k k1 (by omega)
      · rintro n hn
        simp only [go_sem, h.hP, List.cons_append, List.nil_append, Meets_e, Below_e, Prod.exists, exists_eq, exists_eq_left, exists_eq_left', exists_eq_right, exists_eq_right', exists_and_left, exists_and_right, Ob.arr.injEq, AV.own.injEq, AV.fv.injEq, quietAtS_q, quietAtS_p, quietAtS_c, quietAtS_f, sendsS_q, sendsS_p, sendsS_c, sendsS_f, TSendRules.row, TZone.row, Tryd.ntmps3, Nat.reduceEqDiff, reduceCtorEq, Nat.reduceMul, Nat.reduceAdd, Nat.reduceSub, Nat.reduceDiv, Nat.reduceMod, Nat.reduceLeDiff, Nat.reduceLT, Nat.reduceBNe, Nat.reduceBEq, reduceIte, Int.reduceLE, Int.reduceLT, Int.reduceToNat, Int.reduceNeg, Int.reduceAdd, Int.reduceSub, Int.reduceMul, Int.reduceEq]
        exact ⟨fun _ => ⟨fun _ => ⟨hr, hr4.1, hr4.2.1, hr4.2.2.1, hr4.2.2.2, hzo, hcu.2.2.2.1, by omega, fun _ e => e (ha.trans hn.symm), fun e => e hq⟩, fun e => e c⟩, fun e => e c⟩
end Go.Avc

/- QuietTimes returns true for every slice of numbers, and leaves it as it was; its row's two tables of unicode/utf8 lie as the program lays them. -/
set_option linter.unusedVariables false
set_option linter.unusedSimpArgs false
set_option maxRecDepth 100000
namespace Go.Proofs.YtlaplgpnbbmbgaaDoor.quietTimes
open Go.ChangeShapes Go.ChangeMaps Go.WideShapes Go.ChangeAt Go.RowKit Go.Avc

theorem own : ownKnob Tryd.prog.godebug = none := by kernel_rfl
theorem one3 : Tryd.prog.cellsOf 3 = 1 := by kernel_rfl

/-- WHAT THE WALK GIVES. -/
theorem contract (H : Type) (enc : TypeId × Value → H) (W : World) (base : Nat) (args : Array Value) (ds gs : List (DataW H)) (before : List MemPlace)
    (hval : ∀ (j : Nat) t v, Tryd.f3.params[j]? = some t → args[j]? = some v → Value.okWide Tryd.prog W .any base t v)
    (hW : DataW.Whole enc Tryd.prog Tryd.f3.params.toList Rows.quietTimesSpec.vars false W args.toList ds gs before) (hL : laidMetH Tryd.prog Rows.quietTimesRow.laid W) (hSh : W.ShapedOpen Tryd.prog) :
    Calls Tryd.prog 3 args W fun e W' => ∃ v, e = .returned v ∧ Rows.quietTimesSpec.post enc Tryd.prog Tryd.f3 false true false false W args v W' := by
  have hW' := hW
  obtain ⟨p, q, hA0, hV, rfl, hfz, hnd⟩ := hW
  have hA : DataW.TrodAll enc Tryd.prog W 0 (fun _ => true) true Tryd.f3.params.toList args.toList ds p := hA0
  rw [Tryd.params3] at hA hval
  obtain ⟨v0, vs0, d0, ds0, p0, q0, hargs, rfl, rfl, h0, r0⟩ := trodAll_cons hA
  obtain ⟨rfl, rfl, rfl⟩ := trodAll_nil r0
  obtain rfl : args = #[v0] := by cases args; simp_all
  obtain ⟨rfl, rfl⟩ := trodVars_none hV
  obtain ⟨A, L, cp, rfl, hrd, hsh⟩ := open_nums Tryd.underlying22 Tryd.underlying3 one3 (hval 0 22 v0 rfl rfl) h0
  clear hA0
  simp only [List.append_nil] at hW'
  have hg := glAt_of_tabs (L := L) (ST := 25) (tabs_of_laid hL)
  refine (qt_walk (ng_of_shaped hSh) hrd hg).mono fun e W' ⟨he, hbl⟩ => ?_
  subst he
  refine ⟨_, rfl, post_of_below (pa := p0) (pv := []) hW' (fun _ _ _ => trodAll_cons_mk (shut_bool Tryd.underlying4 _) trodAll_mk0)
    (fun sp hsp => ?_) (fun _ _ => rfl) (List.append_nil _).symm hbl (ok_one (by kernel_rfl) rfl (okWide_bool_mk Tryd.underlying4 _))⟩
  have := trodAll_cons_mk (hsh W' hbl sp hsp) (trodAll_mk0 (w := W') (base := 0) (spare := sp) (held := true) (enc := enc))
  rw [List.append_nil] at this
  exact this
theorem reads (os : Os) {H : Type} (enc : TypeId × Value → H) : ∃ places, DataW.whole enc Tryd.prog ((laidWorld os).forCall (fun _ _ => 0) ⟨#[], #[.slice none 0 0], []⟩).memory Tryd.f3.params.toList Rows.quietTimesSpec.vars false #[Value.slice none 0 0].toList 8 = some ([.nil], [], places) :=
  ⟨[], by kernel_rfl⟩
theorem lifted (os : Os) (started : os.Started) (H : Type) (enc : TypeId × Value → H) (F : Stop.Interp) :
    ReturnsInHanded {} Tryd.checked os 3 .any ((OpenSpec.ofChange Rows.quietTimesSpec).preRow enc Tryd.prog Tryd.f3 Rows.quietTimesRow.domain false Rows.quietTimesRow.laid) (((OpenSpec.ofChange Rows.quietTimesSpec).at F).post enc Tryd.prog Tryd.f3 false true false false) := by
  obtain ⟨places, hx⟩ := reads os enc
  refine returnsInHanded_of_row (C := Tryd.checked) (s := OpenSpec.ofChange Rows.quietTimesSpec) own started (by kernel_rfl) Tryd.func3
    (witness_row_at (enc := enc) (C := Tryd.checked) false (laidWorld os) #[.slice none 0 0] rfl (by kernel_rfl) (by kernel_rfl) (by kernel_rfl)
      (OpenSpec.preRow_of_cond 8 hx (by kernel_rfl) (fun k hk => by cases hk) (by kernel_rfl) (laid_met os _))) ?_
  intro W base args ds gs before hval hW _ _ _ hL hSh _
  exact contract H enc W base args ds gs before hval hW hL hSh
theorem said : Rows.QuietTimesSaid :=
  OpenClaim.holds_of_cond 3 Tryd.f3 rfl rfl rfl rfl rfl rfl rfl ⟨rfl, rfl, rfl, rfl, rfl⟩ rfl rfl rfl rfl rfl (by kernel_rfl) Tryd.func3 (by kernel_rfl)
    (of_decide_eq_true (by kernel_rfl)) (by unfold Func.isWrapper; first | (rw [if_pos (by decide +kernel)]; kernel_rfl) | (rw [if_neg (by decide +kernel)]; exact ⟨rfl, rfl⟩))
    (fun os started H enc _ F => by rw [OpenClaim.pre_eq_preRow]; exact lifted os started H enc F)
theorem plain (f : FuncId) (fn : Func) (hf : Tryd.pinned.checked.prog.funcNamed "handbill/handlaw2.QuietTimes" = some f) (hfn : Tryd.pinned.checked.prog.funcs[f]? = some fn) :
    false = Tryd.pinned.checked.prog.looks [] ∧ ∀ (j : Nat) t, fn.params[j]? = some t → Tryd.pinned.checked.prog.wantsStandIn t = false := by
  obtain rfl : f = 3 := Option.some.inj ((show Tryd.prog.funcNamed "handbill/handlaw2.QuietTimes" = some 3 by kernel_rfl).symm.trans hf) |>.symm
  obtain rfl : fn = Tryd.f3 := (Option.some.inj (Tryd.func3.symm.trans hfn)).symm
  refine ⟨by kernel_rfl, fun j t ht => ?_⟩
  rw [Tryd.params3] at ht
  obtain rfl : t = 22 := by simpa using Array.mem_of_getElem? ht
  exact (show Tryd.prog.wantsStandIn 22 = false by kernel_rfl)
theorem card : Rows.QuietTimesCardSaid :=
  Claim7.holds_tied_plain_at .later [] _ _ _ _ said (fun _ h => by cases h) (by kernel_rfl) (fun _ h => by cases h) quietTimes_row_tie rfl ⟨rfl, rfl⟩ (by kernel_rfl) rfl plain (by kernel_rfl)
end Go.Proofs.YtlaplgpnbbmbgaaDoor.quietTimes
