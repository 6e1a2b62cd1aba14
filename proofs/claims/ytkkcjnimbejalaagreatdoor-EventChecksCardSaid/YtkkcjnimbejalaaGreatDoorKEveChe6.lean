/- EventChecks returns true for every slice of numbers, and leaves it as it was; the two tables of unicode/utf8, the pool of ids and the names of fields and of events, which its row lists, lie as the program lays them. -/
import Derived.Test.YtkkcjnimbejalaaGreatDoorCards
import Derived.Test.YtkkcjnimbejalaaGreatDoorTie
import Derived.WalkKit
import Derived.ProofKit
import Derived.OpenShut
import Derived.Deep.DeepHandedRow
import Derived.Test.YtkkcjnimbejalaaGreatDoorKEveChe1
import Derived.Test.YtkkcjnimbejalaaGreatDoorKEveChe2
import Derived.Test.YtkkcjnimbejalaaGreatDoorKEveChe3
import Derived.Test.YtkkcjnimbejalaaGreatDoorKEveChe4
import Derived.Test.YtkkcjnimbejalaaGreatDoorKEveChe5
set_option linter.unusedVariables false
set_option linter.unusedSimpArgs false
set_option maxRecDepth 100000
namespace Go.Avc
open Go Go.Proofs
theorem ne_ft' {b : Bool} (h : b = false) : ¬ b = true := by rw [h]; decide
def cloneES : Spec where
  pre xs := ∃ l : List TEvent, xs = [.sl (TEvent.rows l)] ∧ l.length ≤ 1048576
  post xs y := ∃ l : List TEvent, xs = [.sl (TEvent.rows l)] ∧ y = .sl (TEvent.rows l)
  cost _ := 0
  fresh := false
theorem cloneES_c (xs : List AV) : cloneES.cost xs = 0 := nr rfl
theorem cloneES_f : cloneES.fresh = false := nr rfl
theorem cloneES_q (l : List TEvent) : cloneES.pre [.sl (TEvent.rows l)] = (l.length ≤ 1048576) := propext ⟨fun ⟨l', e, h⟩ => by
  simp only [List.cons.injEq, AV.dv.injEq, DV.d.injEq, D.sl.injEq, TEvent.rows_inj, and_true] at e
  subst e
  exact h, fun h => ⟨l, rfl, h⟩⟩
theorem cloneES_p (l : List TEvent) : cloneES.post [.sl (TEvent.rows l)] = fun y => y = .sl (TEvent.rows l) := funext fun y => propext ⟨fun ⟨l', e, h⟩ => by
  simp only [List.cons.injEq, AV.dv.injEq, DV.d.injEq, D.sl.injEq, TEvent.rows_inj, and_true] at e
  subst e
  exact h, fun h => ⟨l, rfl, h⟩⟩
theorem CloneE_own {cx : Cx} (h : Seat cx) : CtrO cx 38 cloneES 52 6 := by
  refine ⟨by rw [h.hP]; exact ⟨_, Tryz.func38, by kernel_rfl, by kernel_rfl⟩, fun _ => ?_, fun hz => by omega⟩
  rintro F xs vals hcx hF hst hgl hco hlen hargs ⟨l, rfl, hl⟩
  obtain ⟨u, rfl⟩ : ∃ u, vals = [u] := List.length_eq_one_iff.1 (by simpa using hlen.symm)
  have hu : Rd F.ok F.w0 (.sl (TEvent.rows l)) u := hargs 0 _ u rfl rfl
  have fin : ∀ (ps : List (TEvent × EvV)) (e : Ending) (w' : World), ps.map Prod.fst = l → (∀ p ∈ ps, Lay F.ok F.w0 p) → (∃ v', e = .returned v' ∧ World.ownsRow w' F.w0.heap.size 52 6 v' ps.length (encP ps) ∧ RowKit.Below F.w0.heap.size F.w0 w') →
      ∃ (v : Value) (r : AV), e = .returned v ∧ Gr cx.g F.w0 w' ∧ StAt cx (F.N + cloneES.cost [.sl (TEvent.rows l)]) w' ∧ cloneES.post [.sl (TEvent.rows l)] r ∧ Hands (resOk F cloneES.fresh) w' F.w0.heap.size 52 6 v r := by
    rintro ps e w' rfl hlay ⟨v', rfl, hown, hb⟩
    have hg : Gr cx.g F.w0 w' := ⟨hb.os, hb.tape, hb.output, hb.size, fun k hk _ => hb.block k hk⟩
    refine ⟨v', .sl (TEvent.rows (ps.map Prod.fst)), rfl, hg, hst.keep hb.size (fun k hk => hb.block k hk), ⟨_, rfl, rfl⟩, .inl ⟨_, encP ps, by decide, rfl, ?_, fun i x hx => TEvent.z_len _ x (List.mem_of_getElem? hx), lays_to ps fun p hp => ?_⟩⟩
    · rw [TEvent.len, List.length_map]; exact hown
    · refine (hlay p hp).mono hb.size (fun b hb1 hlt => ⟨.inl ⟨rfl, hb1⟩, fun e => ?_⟩) (fun b _ hlt => hb.block b hlt)
      rcases hown.2 with ⟨q1, _⟩ | ⟨g, cap, cur, q1, q2, _⟩
      · rw [q1] at e; cases e
      · rw [q1] at e
        have e2 : g = b := Option.some.inj e
        omega
  rw [h.hP]
  obtain ⟨news, A, c, rfl, hR, hA⟩ := data_cells (F := F) (M := fun _ => False) (w := F.w0) (z := 6) (by decide) (fun y hy => TEvent.z_len _ y hy) (hu.mono (Nat.le_refl _) (fun b hb _ => ⟨.inl hb, fun e => e⟩) (fun _ _ _ => rfl))
  obtain ⟨ps, hps, rfl, hlay⟩ := lays_of l news hR
  have hlay' : ∀ p ∈ ps, Lay F.ok F.w0 p := fun p hp => (hlay p hp).mono (Nat.le_refl _) (fun b hb hlt => hb.1.elim id (fun e => by omega)) (fun _ _ _ => rfl)
  have hpl : (TEvent.rows l).length = ps.length := by rw [TEvent.len, ← hps, List.length_map]
  rw [hpl]
  by_cases hn : ps = []
  · subst hn
    cases A with
    | none => exact (AnyE.slices_Clone_nil Tryz.laysCloneEvent 0 c F.w0).mono fun e w' ⟨e1, e2⟩ => fin [] e w' hps hlay' ⟨_, e1, World.ownsRow_nil .., e2 ▸ RowKit.Below.refl _ _⟩
    | some a => exact (cloneE_empty a c F.w0).mono fun e w' hq => fin [] e w' hps hlay' hq
  · obtain ⟨b, o, rfl, hc⟩ := hA (fun e => hn (by
      have : ps.length = 0 := by rw [← hpl, e]; rfl
      exact List.eq_nil_of_length_eq_zero this))
    exact (cloneE_rest ps b o c F.w0 (by rw [← hpl, TEvent.len]; exact hl) (fun j u hj => hc j u hj)).mono fun e w' hq => fin ps e w' hps hlay' hq
def fvF (f : ByteArray) (e : TEvent) : Option TValue := (findF e.fields f).map TField.value
end Go.Avc

namespace Go.Avc
open Go Go.Proofs
theorem find_first {l : List TField} {i : Nat} {n : ByteArray} (hi : i < l.length) (h : (l.getD i TField.z).name = n) (hj : ∀ j, j < i → (l.getD j TField.z).name ≠ n) : findF l n = some (l.getD i TField.z) := by
  have e : ∀ j (hj : j < l.length), l.getD j TField.z = l[j] := fun j hj => by rw [List.getD_eq_getElem?_getD, List.getElem?_eq_getElem hj]; rfl
  unfold findF
  rw [List.find?_eq_some_iff_getElem]
  refine ⟨decide_eq_true h, i, hi, (e i hi).symm, fun j hji => ?_⟩
  have := hj j hji
  rw [e j (by omega)] at this
  simpa using this
theorem find_nil {l : List TField} {n : ByteArray} (hj : ∀ j, j < l.length → (l.getD j TField.z).name ≠ n) : findF l n = none := by
  unfold findF
  rw [List.find?_eq_none]
  intro x hx
  obtain ⟨j, h1, rfl⟩ := List.mem_iff_getElem.1 hx
  have := hj j h1
  rw [List.getD_eq_getElem?_getD, List.getElem?_eq_getElem h1] at this
  simpa using this
def vinS  : Spec where
  pre xs := ∃ (e : TEvent) (f : ByteArray), xs = [.dv (.ag e.row), .str f] ∧ (e.fields.length ≤ 1048576)
  post xs y := ∃ (e : TEvent) (f : ByteArray), xs = [.dv (.ag e.row), .str f] ∧ y = .tcons (.dv (.ag ((fvF f e).getD TValue.z).row)) (.tcons (.b (fvF f e).isSome) .tnil)
  cost _ := 0
  fresh := true
theorem vinS_c  (xs : List AV) : (vinS).cost xs = 0 := nr rfl
theorem vinS_f  : (vinS).fresh = true := nr rfl
theorem vinS_q  (e : TEvent) (f : ByteArray) : (vinS).pre [.dv (.ag [.str e.id, .str e.name, .int .i64 e.at_, .int .i64 e.who.kind, .str e.who.text, .sl (TField.rows e.fields)]), .str f] = (e.fields.length ≤ 1048576) := propext ⟨fun h => by
  have h' : ∃ (e' : TEvent) (f' : ByteArray), ([.dv (.ag e.row), .str f] : List AV) = [.dv (.ag e'.row), .str f'] ∧ (e'.fields.length ≤ 1048576) := h
  obtain ⟨e', f', e, h⟩ := h'
  simp only [List.cons.injEq, AV.dv.injEq, AV.dp.injEq, AV.fv.injEq, DV.d.injEq, DV.ag.injEq, D.int.injEq, D.str.injEq, D.bool.injEq, D.sl.injEq, true_and, and_true, intsDi_inj, rowsT_inj, rowsKi_inj, TEvent.row_inj, TEvent.rows_inj] at e
  obtain ⟨rfl, rfl⟩ := e
  exact h, fun h => ⟨e, f, rfl, h⟩⟩
theorem vinS_p  (e : TEvent) (f : ByteArray) : (vinS).post [.dv (.ag [.str e.id, .str e.name, .int .i64 e.at_, .int .i64 e.who.kind, .str e.who.text, .sl (TField.rows e.fields)]), .str f] = fun y => y = .tcons (.dv (.ag ((fvF f e).getD TValue.z).row)) (.tcons (.b (fvF f e).isSome) .tnil) := funext fun y => propext ⟨fun h => by
  have h' : ∃ (e' : TEvent) (f' : ByteArray), ([.dv (.ag e.row), .str f] : List AV) = [.dv (.ag e'.row), .str f'] ∧ y = .tcons (.dv (.ag ((fvF f' e').getD TValue.z).row)) (.tcons (.b (fvF f' e').isSome) .tnil) := h
  obtain ⟨e', f', e, h⟩ := h'
  simp only [List.cons.injEq, AV.dv.injEq, AV.dp.injEq, AV.fv.injEq, DV.d.injEq, DV.ag.injEq, D.int.injEq, D.str.injEq, D.bool.injEq, D.sl.injEq, true_and, and_true, intsDi_inj, rowsT_inj, rowsKi_inj, TEvent.row_inj, TEvent.rows_inj] at e
  obtain ⟨rfl, rfl⟩ := e
  exact h, fun h => ⟨e, f, rfl, h⟩⟩
set_option maxHeartbeats 4000000 in
theorem valueIn_ctr {cx : Cx} (h : Seat cx) : Ctr cx 100 vinS := by
  refine ctr_of (fn := Tryz.f100) (l := [.cell 4 97, .tmp 5]) (envL []) [0, 1, 2, 4, 5, 7, 9, 10, 11, 12, 18] [] [] (env0 h.hP) ?_ (by rw [h.hP]; exact Tryz.func100) rfl (by kernel_rfl) rfl ?_ ?_
  · rw [h.hP]; exact ⟨_, Tryz.func100, by kernel_rfl, by kernel_rfl⟩
  · rintro xs ⟨e, f, rfl, h1⟩; exact ⟨_, e, f, rfl, rfl⟩
  · rintro xs ⟨e, f, rfl, h1⟩
    refine ⟨by rw [Tryz.ntmps100]; simp, ?_⟩
    simp only [go_sem, h.hP, List.cons_append, List.nil_append, Meets_e, Below_e, Prod.exists, exists_eq, exists_eq_left, exists_eq_left', exists_eq_right, exists_eq_right', exists_and_left, exists_and_right, Ob.arr.injEq, AV.own.injEq, AV.fv.injEq, vinS_q, vinS_p, vinS_c, vinS_f, TEvent.row, TField.len, TValue.row, Tryz.ntmps100, Nat.reduceEqDiff, reduceCtorEq, Nat.reduceMul, Nat.reduceAdd, Nat.reduceSub, Nat.reduceDiv, Nat.reduceMod, Nat.reduceLeDiff, Nat.reduceLT, Nat.reduceBNe, Nat.reduceBEq, reduceIte, Int.reduceLE, Int.reduceLT, Int.reduceToNat, Int.reduceNeg, Int.reduceAdd, Int.reduceSub, Int.reduceMul, Int.reduceEq]
    refine vc_loopS (Int) (fun (i : Int) => [(11, .i i)]) [4] (fun (i : Int) => []) (fun (i : Int) => []) (fun (i : Int) => 0) (fun (i : Int) => 0 ≤ i ∧ i ≤ e.fields.length ∧ ∀ j : Nat, (j : Int) < i → (e.fields.getD j TField.z).name ≠ f) (fun (i : Int) => (e.fields.length - i).toNat) [] ?_ ?_
    · simp only [go_sem, h.hP, List.cons_append, List.nil_append, Meets_e, Below_e, Prod.exists, exists_eq, exists_eq_left, exists_eq_left', exists_eq_right, exists_eq_right', exists_and_left, exists_and_right, Ob.arr.injEq, AV.own.injEq, AV.fv.injEq, Tryz.ntmps100, Nat.reduceEqDiff, reduceCtorEq, Nat.reduceMul, Nat.reduceAdd, Nat.reduceSub, Nat.reduceDiv, Nat.reduceMod, Nat.reduceLeDiff, Nat.reduceLT, Nat.reduceBNe, Nat.reduceBEq, reduceIte, Int.reduceLE, Int.reduceLT, Int.reduceToNat, Int.reduceNeg, Int.reduceAdd, Int.reduceSub, Int.reduceMul, Int.reduceEq]
      exact ⟨by omega, fun j hj => by omega⟩
    · rintro i ⟨i0, i1, hj⟩
      simp only [go_sem, h.hP, List.cons_append, List.nil_append, Meets_e, Below_e, Prod.exists, exists_eq, exists_eq_left, exists_eq_left', exists_eq_right, exists_eq_right', exists_and_left, exists_and_right, Ob.arr.injEq, AV.own.injEq, AV.fv.injEq, vinS_q, vinS_p, vinS_c, vinS_f, TField.len, TField.get, TValue.row, Tryz.ntmps100, Nat.reduceEqDiff, reduceCtorEq, Nat.reduceMul, Nat.reduceAdd, Nat.reduceSub, Nat.reduceDiv, Nat.reduceMod, Nat.reduceLeDiff, Nat.reduceLT, Nat.reduceBNe, Nat.reduceBEq, reduceIte, Int.reduceLE, Int.reduceLT, Int.reduceToNat, Int.reduceNeg, Int.reduceAdd, Int.reduceSub, Int.reduceMul, Int.reduceEq]
      refine ⟨fun z => ⟨i0, z, fun c => ?_, fun c => ?_⟩, fun z => ?_⟩
      · have hv : fvF f e = some (e.fields.getD i.toNat TField.z).value := by
          unfold fvF
          rw [find_first (i := i.toNat) (by omega) c (fun j hj2 => hj j (by omega))]
          rfl
        rw [hv]
        exact ⟨rfl, rfl, rfl, rfl⟩
      · rw [i64w (n := i + 1) (by omega) (by omega)]
        refine ⟨by omega, by omega, fun j hj2 => ?_, by omega⟩
        by_cases q : (j : Int) < i
        · exact hj j q
        · rw [show j = i.toNat by omega]
          exact c
      · have hv : fvF f e = none := by
          unfold fvF
          rw [find_nil (fun j hj2 => hj j (by omega))]
          rfl
        rw [hv]
        exact ⟨rfl, rfl, rfl, rfl⟩
def sameΦ (caps : List (List D)) : FSpec where
  pre xs := caps = [] ∧ ∃ a b : TEvent, xs = [.ag a.row, .ag b.row] ∧ a.ok ∧ b.ok
  post xs r := caps = [] ∧ ∃ a b : TEvent, xs = [.ag a.row, .ag b.row] ∧ r = .d (.bool (sameB a b))
theorem sameΦ_of {cx : Cx} {fn : FuncId} (h : Ctr cx fn sameS) (caps : List (List D)) : Ctr cx fn (clo sameΦ caps) := by
  refine h.weaken (fun xs hx => ?_) (fun xs r hx hr => ?_) (fun _ => Nat.le_refl _) rfl
  · obtain ⟨ys, rfl, rfl, a, b, rfl, h1⟩ := hx
    exact ⟨a, b, rfl, h1⟩
  · obtain ⟨ys, rfl, rfl, a, b, rfl, h1⟩ := hx
    obtain ⟨a', b', e, rfl⟩ := hr
    simp only [List.map_cons, List.map_nil, List.append_nil, List.cons.injEq, AV.dv.injEq, DV.ag.injEq, and_true] at e
    obtain ⟨e1, e2⟩ := e
    obtain rfl := TEvent.inj e1
    obtain rfl := TEvent.inj e2
    exact ⟨_, _, rfl, rfl, rfl, _, _, rfl, rfl⟩
theorem sameΦ_pre (a b : TEvent) : (sameΦ []).pre [.ag a.row, .ag b.row] = (a.ok ∧ b.ok) := propext ⟨fun ⟨_, a', b', e, h⟩ => by
  simp only [List.cons.injEq, DV.ag.injEq, and_true] at e
  rw [TEvent.inj e.1, TEvent.inj e.2]
  exact h, fun h => ⟨rfl, a, b, rfl, h⟩⟩
theorem sameΦ_post (a b : TEvent) (y : DV) : (sameΦ []).post [.ag a.row, .ag b.row] y = (y = .d (.bool (sameB a b))) := propext ⟨fun ⟨_, a', b', e, h⟩ => by
  simp only [List.cons.injEq, DV.ag.injEq, and_true] at e
  rw [TEvent.inj e.1, TEvent.inj e.2]
  exact h, fun h => ⟨rfl, a, b, rfl, h⟩⟩
theorem sameΦ_pre' (a b : TEvent) : (sameΦ []).pre [.ag [.str a.id, .str a.name, .int .i64 a.at_, .int .i64 a.who.kind, .str a.who.text, .sl (TField.rows a.fields)], .ag [.str b.id, .str b.name, .int .i64 b.at_, .int .i64 b.who.kind, .str b.who.text, .sl (TField.rows b.fields)]] = (a.ok ∧ b.ok) := sameΦ_pre a b
theorem sameΦ_post' (a b : TEvent) (y : DV) : (sameΦ []).post [.ag [.str a.id, .str a.name, .int .i64 a.at_, .int .i64 a.who.kind, .str a.who.text, .sl (TField.rows a.fields)], .ag [.str b.id, .str b.name, .int .i64 b.at_, .int .i64 b.who.kind, .str b.who.text, .sl (TField.rows b.fields)]] y = (y = .d (.bool (sameB a b))) := sameΦ_post a b y
open Classical in
noncomputable def eqEB (l m : List TEvent) : Bool := decide (l = m)
open Classical in
theorem eqEB_t {l m : List TEvent} (h : l = m) : eqEB l m = true := by unfold eqEB; exact decide_eq_true h
open Classical in
theorem eqEB_f {l m : List TEvent} (h : ¬ l = m) : eqEB l m = false := by unfold eqEB; exact decide_eq_false h
theorem sameB_eq {a b : TEvent} (h : sameB a b = true) : a = b := by
  by_cases e : a = b
  · exact e
  · rw [sameB_f e] at h; cases h
def eqES  : Spec where
  pre xs := ∃ (l : List TEvent) (m : List TEvent), xs = [.sl (TEvent.rows l), .sl (TEvent.rows m), .fv (sameΦ [])] ∧ (okL TEvent.ok l ∧ okL TEvent.ok m)
  post xs y := ∃ (l : List TEvent) (m : List TEvent), xs = [.sl (TEvent.rows l), .sl (TEvent.rows m), .fv (sameΦ [])] ∧ y = .b (eqEB l m)
  cost _ := 0
  fresh := true
theorem eqES_c  (xs : List AV) : (eqES).cost xs = 0 := nr rfl
theorem eqES_f  : (eqES).fresh = true := nr rfl
theorem eqES_q  (l : List TEvent) (m : List TEvent) : (eqES).pre [.sl (TEvent.rows l), .sl (TEvent.rows m), .fv (sameΦ [])] = (okL TEvent.ok l ∧ okL TEvent.ok m) := propext ⟨fun h => by
  have h' : ∃ (l' : List TEvent) (m' : List TEvent), ([.sl (TEvent.rows l), .sl (TEvent.rows m), .fv (sameΦ [])] : List AV) = [.sl (TEvent.rows l'), .sl (TEvent.rows m'), .fv (sameΦ [])] ∧ (okL TEvent.ok l' ∧ okL TEvent.ok m') := h
  obtain ⟨l', m', e, h⟩ := h'
  simp only [List.cons.injEq, AV.dv.injEq, AV.dp.injEq, AV.fv.injEq, DV.d.injEq, DV.ag.injEq, D.int.injEq, D.str.injEq, D.bool.injEq, D.sl.injEq, true_and, and_true, intsDi_inj, rowsT_inj, rowsKi_inj, TEvent.row_inj, TEvent.rows_inj, TEvent.row_inj, TEvent.rows_inj] at e
  obtain ⟨rfl, rfl⟩ := e
  exact h, fun h => ⟨l, m, rfl, h⟩⟩
theorem eqES_p  (l : List TEvent) (m : List TEvent) : (eqES).post [.sl (TEvent.rows l), .sl (TEvent.rows m), .fv (sameΦ [])] = fun y => y = .b (eqEB l m) := funext fun y => propext ⟨fun h => by
  have h' : ∃ (l' : List TEvent) (m' : List TEvent), ([.sl (TEvent.rows l), .sl (TEvent.rows m), .fv (sameΦ [])] : List AV) = [.sl (TEvent.rows l'), .sl (TEvent.rows m'), .fv (sameΦ [])] ∧ y = .b (eqEB l' m') := h
  obtain ⟨l', m', e, h⟩ := h'
  simp only [List.cons.injEq, AV.dv.injEq, AV.dp.injEq, AV.fv.injEq, DV.d.injEq, DV.ag.injEq, D.int.injEq, D.str.injEq, D.bool.injEq, D.sl.injEq, true_and, and_true, intsDi_inj, rowsT_inj, rowsKi_inj, TEvent.row_inj, TEvent.rows_inj, TEvent.row_inj, TEvent.rows_inj] at e
  obtain ⟨rfl, rfl⟩ := e
  exact h, fun h => ⟨l, m, rfl, h⟩⟩
set_option maxHeartbeats 4000000 in
theorem eqE_ctr {cx : Cx} (h : Seat cx) : Ctr cx 89 eqES := by
  refine ctr_of (fn := Tryz.f89) (l := [.tmp 6]) (envL []) [0, 1, 2, 6, 7, 8, 9, 14, 15, 16, 17, 18, 30] [] [] (env0 h.hP) ?_ (by rw [h.hP]; exact Tryz.func89) rfl (by kernel_rfl) rfl ?_ ?_
  · rw [h.hP]; exact ⟨_, Tryz.func89, by kernel_rfl, by kernel_rfl⟩
  · rintro xs ⟨l, m, rfl, h1⟩; exact ⟨_, l, m, rfl, rfl⟩
  · rintro xs ⟨l, m, rfl, h1, h2⟩
    have hl := h1.1
    have hm := h2.1
    refine ⟨by rw [Tryz.ntmps89]; simp, ?_⟩
    simp only [go_sem, h.hP, List.cons_append, List.nil_append, Meets_e, Below_e, Prod.exists, exists_eq, exists_eq_left, exists_eq_left', exists_eq_right, exists_eq_right', exists_and_left, exists_and_right, Ob.arr.injEq, AV.own.injEq, AV.fv.injEq, eqES_q, eqES_p, eqES_c, eqES_f, TEvent.len, Tryz.ntmps89, Nat.reduceEqDiff, reduceCtorEq, Nat.reduceMul, Nat.reduceAdd, Nat.reduceSub, Nat.reduceDiv, Nat.reduceMod, Nat.reduceLeDiff, Nat.reduceLT, Nat.reduceBNe, Nat.reduceBEq, reduceIte, Int.reduceLE, Int.reduceLT, Int.reduceToNat, Int.reduceNeg, Int.reduceAdd, Int.reduceSub, Int.reduceMul, Int.reduceEq]
    refine ⟨fun c => (eqEB_f (fun e => c (by rw [e]))).symm, fun c => ?_⟩
    refine vc_loopS (Int) (fun (i : Int) => [(17, .i i)]) [] (fun (i : Int) => []) (fun (i : Int) => []) (fun (i : Int) => 0) (fun (i : Int) => 0 ≤ i ∧ i ≤ l.length ∧ ∀ j : Nat, (j : Int) < i → l.getD j TEvent.z = m.getD j TEvent.z) (fun (i : Int) => (l.length - i).toNat) [] ?_ ?_
    · simp only [go_sem, h.hP, List.cons_append, List.nil_append, Meets_e, Below_e, Prod.exists, exists_eq, exists_eq_left, exists_eq_left', exists_eq_right, exists_eq_right', exists_and_left, exists_and_right, Ob.arr.injEq, AV.own.injEq, AV.fv.injEq, TEvent.len, Tryz.ntmps89, Nat.reduceEqDiff, reduceCtorEq, Nat.reduceMul, Nat.reduceAdd, Nat.reduceSub, Nat.reduceDiv, Nat.reduceMod, Nat.reduceLeDiff, Nat.reduceLT, Nat.reduceBNe, Nat.reduceBEq, reduceIte, Int.reduceLE, Int.reduceLT, Int.reduceToNat, Int.reduceNeg, Int.reduceAdd, Int.reduceSub, Int.reduceMul, Int.reduceEq]
      exact ⟨by omega, fun j hj => by omega⟩
    · rintro i ⟨i0, i1, hj⟩
      simp only [go_sem, h.hP, List.cons_append, List.nil_append, Meets_e, Below_e, Prod.exists, exists_eq, exists_eq_left, exists_eq_left', exists_eq_right, exists_eq_right', exists_and_left, exists_and_right, Ob.arr.injEq, AV.own.injEq, AV.fv.injEq, eqES_q, eqES_p, eqES_c, eqES_f, TEvent.len, TEvent.get, sameΦ_pre', sameΦ_post', Tryz.ntmps89, Nat.reduceEqDiff, reduceCtorEq, Nat.reduceMul, Nat.reduceAdd, Nat.reduceSub, Nat.reduceDiv, Nat.reduceMod, Nat.reduceLeDiff, Nat.reduceLT, Nat.reduceBNe, Nat.reduceBEq, reduceIte, Int.reduceLE, Int.reduceLT, Int.reduceToNat, Int.reduceNeg, Int.reduceAdd, Int.reduceSub, Int.reduceMul, Int.reduceEq]
      have e : l.length = m.length := by first | exact c | (exact Decidable.of_not_not c) | omega
      refine ⟨fun z => ⟨i0, z, i0, by omega, okL_get h1 TEvent.z_ok _, okL_get h2 TEvent.z_ok _, fun q => (eqEB_f fun e => ?_).symm, fun q => ?_⟩, fun z => (eqEB_t ?_).symm⟩
      · rw [e, sameB_t rfl] at q
        cases q
      · rw [i64w (n := i + 1) (by omega) (by omega)]
        refine ⟨by omega, by omega, fun j hj2 => ?_, by omega⟩
        by_cases q2 : (j : Int) < i
        · exact hj j q2
        · rw [show j = i.toNat by omega]
          exact sameB_eq q
      · apply List.ext_getElem e
        intro j g2 g3
        have := hj j (by omega)
        rwa [List.getD_eq_getElem?_getD, List.getD_eq_getElem?_getD, List.getElem?_eq_getElem g2, List.getElem?_eq_getElem g3] at this
def smEvS  : Spec where
  pre xs := ∃ (l : List TEvent) (m : List TEvent), xs = [.sl (TEvent.rows l), .sl (TEvent.rows m)] ∧ (okL TEvent.ok l ∧ okL TEvent.ok m)
  post xs y := ∃ (l : List TEvent) (m : List TEvent), xs = [.sl (TEvent.rows l), .sl (TEvent.rows m)] ∧ y = .b (eqEB l m)
  cost _ := 0
  fresh := true
theorem smEvS_c  (xs : List AV) : (smEvS).cost xs = 0 := nr rfl
theorem smEvS_f  : (smEvS).fresh = true := nr rfl
theorem smEvS_q  (l : List TEvent) (m : List TEvent) : (smEvS).pre [.sl (TEvent.rows l), .sl (TEvent.rows m)] = (okL TEvent.ok l ∧ okL TEvent.ok m) := propext ⟨fun h => by
  have h' : ∃ (l' : List TEvent) (m' : List TEvent), ([.sl (TEvent.rows l), .sl (TEvent.rows m)] : List AV) = [.sl (TEvent.rows l'), .sl (TEvent.rows m')] ∧ (okL TEvent.ok l' ∧ okL TEvent.ok m') := h
  obtain ⟨l', m', e, h⟩ := h'
  simp only [List.cons.injEq, AV.dv.injEq, AV.dp.injEq, AV.fv.injEq, DV.d.injEq, DV.ag.injEq, D.int.injEq, D.str.injEq, D.bool.injEq, D.sl.injEq, true_and, and_true, intsDi_inj, rowsT_inj, rowsKi_inj, TEvent.row_inj, TEvent.rows_inj, TEvent.row_inj, TEvent.rows_inj] at e
  obtain ⟨rfl, rfl⟩ := e
  exact h, fun h => ⟨l, m, rfl, h⟩⟩
theorem smEvS_p  (l : List TEvent) (m : List TEvent) : (smEvS).post [.sl (TEvent.rows l), .sl (TEvent.rows m)] = fun y => y = .b (eqEB l m) := funext fun y => propext ⟨fun h => by
  have h' : ∃ (l' : List TEvent) (m' : List TEvent), ([.sl (TEvent.rows l), .sl (TEvent.rows m)] : List AV) = [.sl (TEvent.rows l'), .sl (TEvent.rows m')] ∧ y = .b (eqEB l' m') := h
  obtain ⟨l', m', e, h⟩ := h'
  simp only [List.cons.injEq, AV.dv.injEq, AV.dp.injEq, AV.fv.injEq, DV.d.injEq, DV.ag.injEq, D.int.injEq, D.str.injEq, D.bool.injEq, D.sl.injEq, true_and, and_true, intsDi_inj, rowsT_inj, rowsKi_inj, TEvent.row_inj, TEvent.rows_inj, TEvent.row_inj, TEvent.rows_inj] at e
  obtain ⟨rfl, rfl⟩ := e
  exact h, fun h => ⟨l, m, rfl, h⟩⟩
theorem sameEvents_ctr {cx : Cx} (h : Seat cx) : Ctr cx 41 smEvS := by
  refine ctr_of (fn := Tryz.f41) (l := [.tmp 4]) (envF [(89, eqES)] [(24, sameΦ)]) [0, 1, 4] [] [] (envF_cons (sameΦ_of (SameEvent_ctr h)) (envF_nil (envL_cons (eqE_ctr h) (env0 h.hP)))) ?_ (by rw [h.hP]; exact Tryz.func41) rfl (by kernel_rfl) rfl ?_ ?_
  · rw [h.hP]; exact ⟨_, Tryz.func41, by kernel_rfl, by kernel_rfl⟩
  · rintro xs ⟨l, m, rfl, h1⟩; exact ⟨_, l, m, rfl, rfl⟩
  · rintro xs ⟨l, m, rfl, h1, h2⟩
    refine ⟨by rw [Tryz.ntmps41]; simp, ?_⟩
    simp only [go_sem, h.hP, List.cons_append, List.nil_append, Meets_e, Below_e, Prod.exists, exists_eq, exists_eq_left, exists_eq_left', exists_eq_right, exists_eq_right', exists_and_left, exists_and_right, Ob.arr.injEq, AV.own.injEq, AV.fv.injEq, smEvS_q, smEvS_p, smEvS_c, smEvS_f, eqES_q, eqES_p, eqES_c, eqES_f, Tryz.ntmps41, Nat.reduceEqDiff, reduceCtorEq, Nat.reduceMul, Nat.reduceAdd, Nat.reduceSub, Nat.reduceDiv, Nat.reduceMod, Nat.reduceLeDiff, Nat.reduceLT, Nat.reduceBNe, Nat.reduceBEq, reduceIte, Int.reduceLE, Int.reduceLT, Int.reduceToNat, Int.reduceNeg, Int.reduceAdd, Int.reduceSub, Int.reduceMul, Int.reduceEq]
    exact ⟨h1, h2⟩
/-! ### A field's name; a window -/
end Go.Avc

namespace Go.Avc
open Go Go.Proofs
/-! ### A map whose keys are ids -/
theorem mget_mput (k v k' : D) (hk : mEq k k = true) : ∀ l : List (D × D), mget (mput l k v) k' = if mEq k k' = true then some v else mget l k'
  | [] => rfl
  | p :: r => by
    have ih := mget_mput k v k' hk r
    unfold mput
    split
    · rename_i e
      have e1 := mEq_mV e
      unfold mget
      by_cases c : mEq k k' = true
      · rw [if_pos c, if_pos c]
      · rw [if_neg c, if_neg c, e1, if_neg c]
    · rename_i e
      unfold mget
      by_cases c : mEq p.1 k' = true
      · rw [if_pos c, if_pos c]
        by_cases d : mEq k k' = true
        · exact absurd ((mEq_mV c).trans (mEq_mV d).symm ▸ hk) e
        · rw [if_neg d]
      · rw [if_neg c, if_neg c]
        exact ih
theorem mEq_id (x y : TId) : mEq (.sl [x.row]) (.sl [y.row]) = true ↔ x = y := by
  have h : mEq (.sl [x.row]) (.sl [y.row]) = eqC y.row x.row := by
    show (((x.row.map D.ek).all EK.ok && decide (x.row.map D.ek = y.row.map D.ek)) && eqC y.row x.row) = _
    rw [show (x.row.map D.ek).all EK.ok = true from rfl, show decide (x.row.map D.ek = y.row.map D.ek) = true from decide_eq_true rfl]
    rfl
  rw [h]
  show ((y.kind == x.kind) && ((y.text.toList == x.text.toList) && true)) = true ↔ _
  rw [Bool.and_true, ← beq_toListBytes]
  simp only [Bool.and_eq_true, beq_iff_eq]
  constructor
  · rintro ⟨c1, c2⟩
    have c2 := (Go.MapKept.bytes_beq _ _).1 c2
    cases x; cases y
    simp only at c1 c2
    rw [c1, c2]
  · rintro rfl
    exact ⟨rfl, (Go.MapKept.bytes_beq _ _).2 rfl⟩
def knownM (ids : List TId) : List (D × D) := ids.foldl (fun m x => mput m (.sl [x.row]) (.bool true)) []
theorem known_snoc (l : List TId) (x : TId) : knownM (l ++ [x]) = mput (knownM l) (.sl [x.row]) (.bool true) := by
  unfold knownM
  rw [List.foldl_append]
  rfl
theorem known_get (ids : List TId) (x : TId) : (mget (knownM ids) (.sl [x.row])).getD (.bool false) = .bool (conE x ids) := by
  have key : ∀ l : List TId, (mget (knownM l.reverse) (.sl [x.row])).getD (.bool false) = .bool (conE x l.reverse) := by
    intro l
    induction l with
    | nil => rfl
    | cons y r ih =>
      rw [List.reverse_cons, known_snoc, mget_mput _ _ _ ((mEq_id y y).2 rfl)]
      by_cases e : y = x
      · subst e
        rw [if_pos ((mEq_id y y).2 rfl)]
        have : conE y (r.reverse ++ [y]) = true := by rw [conE_iff]; simp
        rw [this]
        rfl
      · rw [if_neg (fun q => e ((mEq_id y x).1 q)), ih]
        congr 1
        rw [Bool.eq_iff_iff, conE_iff, conE_iff, List.mem_append, List.mem_singleton]
        exact ⟨.inl, fun h => h.elim id fun h => absurd h.symm e⟩
  have := key ids.reverse
  rwa [List.reverse_reverse] at this
theorem known_get' (ids : List TId) (k : Int) (s : ByteArray) : (mget (knownM ids) (.sl [[.int .i64 k, .str s]])).getD (.bool false) = .bool (conE ⟨k, s⟩ ids) := known_get ids ⟨k, s⟩
theorem known_step {ids : List TId} {i : Int} (h0 : 0 ≤ i) (hi : i < ids.length) : mput (knownM (ids.take i.toNat)) (.sl [[.int .i64 (ids.getD i.toNat TId.z).kind, .str (ids.getD i.toNat TId.z).text]]) (.bool true) = knownM (ids.take (i + 1).toNat) := by
  rw [show (i + 1).toNat = i.toNat + 1 by omega, List.take_add_one, List.getElem?_eq_getElem (by omega), show (some (ids[i.toNat]'(by omega))).toList = [ids[i.toNat]'(by omega)] from rfl, known_snoc, List.getD_eq_getElem?_getD, List.getElem?_eq_getElem (by omega)]
  rfl
def idAt (ids : List TId) (i : Nat) : Int := idF (ids.getD i TId.z)
def ofE (l : List TEvent) (ids : List TId) : Int := orE (eventsF l) (if 2000 < (ids.length : Int) then 2 else firstI ids.length (idAt ids))
noncomputable def ofL (l : List TEvent) (ids : List TId) : List TEvent := l.filter fun e => conE e.who ids
noncomputable def ofV (l : List TEvent) (ids : List TId) : List TEvent := if ofE l ids = 0 then ofL l ids else []
def ofS  : Spec where
  pre xs := ∃ (l : List TEvent) (ids : List TId), xs = [.sl (TEvent.rows l), .sl (TId.rows ids)] ∧ (okL TEvent.ok l ∧ okL TId.ok ids)
  post xs y := ∃ (l : List TEvent) (ids : List TId), xs = [.sl (TEvent.rows l), .sl (TId.rows ids)] ∧ y = .tcons (.sl (TEvent.rows (ofV l ids))) (.tcons (.i (ofE l ids)) .tnil)
  cost _ := 0
  fresh := false
theorem ofS_c  (xs : List AV) : (ofS).cost xs = 0 := nr rfl
theorem ofS_f  : (ofS).fresh = false := nr rfl
theorem ofS_q  (l : List TEvent) (ids : List TId) : (ofS).pre [.sl (TEvent.rows l), .sl (TId.rows ids)] = (okL TEvent.ok l ∧ okL TId.ok ids) := propext ⟨fun h => by
  have h' : ∃ (l' : List TEvent) (ids' : List TId), ([.sl (TEvent.rows l), .sl (TId.rows ids)] : List AV) = [.sl (TEvent.rows l'), .sl (TId.rows ids')] ∧ (okL TEvent.ok l' ∧ okL TId.ok ids') := h
  obtain ⟨l', ids', e, h⟩ := h'
  simp only [List.cons.injEq, AV.dv.injEq, AV.dp.injEq, AV.fv.injEq, DV.d.injEq, DV.ag.injEq, D.int.injEq, D.str.injEq, D.bool.injEq, D.sl.injEq, true_and, and_true, intsDi_inj, rowsT_inj, rowsKi_inj, TEvent.row_inj, TEvent.rows_inj, TId.row_inj, TId.rows_inj] at e
  obtain ⟨rfl, rfl⟩ := e
  exact h, fun h => ⟨l, ids, rfl, h⟩⟩
theorem ofS_p  (l : List TEvent) (ids : List TId) : (ofS).post [.sl (TEvent.rows l), .sl (TId.rows ids)] = fun y => y = .tcons (.sl (TEvent.rows (ofV l ids))) (.tcons (.i (ofE l ids)) .tnil) := funext fun y => propext ⟨fun h => by
  have h' : ∃ (l' : List TEvent) (ids' : List TId), ([.sl (TEvent.rows l), .sl (TId.rows ids)] : List AV) = [.sl (TEvent.rows l'), .sl (TId.rows ids')] ∧ y = .tcons (.sl (TEvent.rows (ofV l' ids'))) (.tcons (.i (ofE l' ids')) .tnil) := h
  obtain ⟨l', ids', e, h⟩ := h'
  simp only [List.cons.injEq, AV.dv.injEq, AV.dp.injEq, AV.fv.injEq, DV.d.injEq, DV.ag.injEq, D.int.injEq, D.str.injEq, D.bool.injEq, D.sl.injEq, true_and, and_true, intsDi_inj, rowsT_inj, rowsKi_inj, TEvent.row_inj, TEvent.rows_inj, TId.row_inj, TId.rows_inj] at e
  obtain ⟨rfl, rfl⟩ := e
  exact h, fun h => ⟨l, ids, rfl, h⟩⟩
set_option maxHeartbeats 8000000 in
theorem Of_ctr {cx : Cx} (h : Seat cx) (hU : Utf8 cx) (hM : MaxL cx) : Ctr cx 35 ofS := by
  refine ctr_of (fn := Tryz.f35) (l := [.tmp 4, .tmp 5]) (envL [(32, eventsS), (79, idS), (64, copyS)]) [0, 1, 4, 5, 6, 7, 9, 10, 11, 13, 17, 21, 23, 24, 25, 26, 32, 37, 38, 39, 40, 46] [15] [] (envL_cons (ECheck_ctr h hU hM) (envL_cons (CheckId_ctr h hM) (envL_cons (Copy_ctr h) (env0 h.hP)))) ?_ (by rw [h.hP]; exact Tryz.func35) rfl (by kernel_rfl) rfl ?_ ?_
  · rw [h.hP]; exact ⟨_, Tryz.func35, by kernel_rfl, by kernel_rfl⟩
  · rintro xs ⟨l, ids, rfl, h1⟩; exact ⟨_, l, ids, rfl, rfl⟩
  · rintro xs ⟨l, ids, rfl, h1, h2⟩
    refine ⟨by rw [Tryz.ntmps35]; simp, ?_⟩
    simp only [go_sem, h.hP, List.cons_append, List.nil_append, Meets_e, Below_e, Prod.exists, exists_eq, exists_eq_left, exists_eq_left', exists_eq_right, exists_eq_right', exists_and_left, exists_and_right, Ob.arr.injEq, AV.own.injEq, AV.fv.injEq, ofS_q, ofS_p, ofS_c, ofS_f, eventsS_q, eventsS_p, eventsS_c, eventsS_f, TEvent.len, TId.len, Tryz.ntmps35, Nat.reduceEqDiff, reduceCtorEq, Nat.reduceMul, Nat.reduceAdd, Nat.reduceSub, Nat.reduceDiv, Nat.reduceMod, Nat.reduceLeDiff, Nat.reduceLT, Nat.reduceBNe, Nat.reduceBEq, reduceIte, Int.reduceLE, Int.reduceLT, Int.reduceToNat, Int.reduceNeg, Int.reduceAdd, Int.reduceSub, Int.reduceMul, Int.reduceEq]
    have z : ∀ e : Int, e ≠ 0 → ofE l ids = e → [] = TEvent.rows (ofV l ids) := fun e h0 he => by
      rw [show ofV l ids = [] from if_neg (by rw [he]; exact h0)]
      rfl
    refine ⟨h1, fun c => ⟨z _ c (orE_l c), (orE_l c).symm⟩, fun c => ?_⟩
    have e0 : ofE l ids = if 2000 < (ids.length : Int) then 2 else firstI ids.length (idAt ids) := orE_r c
    refine ⟨fun d => ⟨z 2 (by decide) (e0.trans (if_pos d)), (e0.trans (if_pos d)).symm⟩, fun d => ?_⟩
    rw [if_neg d] at e0
    refine vc_cutS (Unit) (fun (u : Unit) => [(25, .un), (7, .own 22)]) [] (fun (u : Unit) => []) (fun (u : Unit) => [(22, .mp 126 (knownM ids))]) (fun (u : Unit) => 0) (fun (u : Unit) => ofE l ids = 0) [] ?_ ?_ ?_
    · rfl
    · simp only [go_sem, h.hP, Tryz.ntmps35, Nat.reduceEqDiff, reduceCtorEq, Nat.reduceMul, Nat.reduceAdd, Nat.reduceSub, Nat.reduceDiv, Nat.reduceMod, Nat.reduceLeDiff, Nat.reduceLT, Nat.reduceBNe, Nat.reduceBEq, reduceIte, Int.reduceLE, Int.reduceLT, Int.reduceToNat, Int.reduceNeg, Int.reduceAdd, Int.reduceSub, Int.reduceMul, Int.reduceEq]
      refine vc_loopS (Int) (fun (i : Int) => [(25, .i i), (7, .own 22)]) [] (fun (i : Int) => []) (fun (i : Int) => [(22, .mp 126 (knownM (ids.take i.toNat)))]) (fun (i : Int) => 0) (fun (i : Int) => Rounds ids.length (idAt ids) i) (fun (i : Int) => (ids.length - i).toNat) [] ?_ ?_
      · simp only [go_sem, h.hP, List.cons_append, List.nil_append, Meets_e, Below_e, Prod.exists, exists_eq, exists_eq_left, exists_eq_left', exists_eq_right, exists_eq_right', exists_and_left, exists_and_right, Ob.arr.injEq, AV.own.injEq, AV.fv.injEq, Tryz.ntmps35, Nat.reduceEqDiff, reduceCtorEq, Nat.reduceMul, Nat.reduceAdd, Nat.reduceSub, Nat.reduceDiv, Nat.reduceMod, Nat.reduceLeDiff, Nat.reduceLT, Nat.reduceBNe, Nat.reduceBEq, reduceIte, Int.reduceLE, Int.reduceLT, Int.reduceToNat, Int.reduceNeg, Int.reduceAdd, Int.reduceSub, Int.reduceMul, Int.reduceEq]
        exact ⟨rfl, Rounds.start⟩
      · rintro i hr
        obtain ⟨hi, hS, hM, hE, hN⟩ := hr.use (by omega)
        simp only [go_sem, h.hP, List.cons_append, List.nil_append, Meets_e, Below_e, Prod.exists, exists_eq, exists_eq_left, exists_eq_left', exists_eq_right, exists_eq_right', exists_and_left, exists_and_right, Ob.arr.injEq, AV.own.injEq, AV.fv.injEq, ofS_q, ofS_p, ofS_c, ofS_f, idS_q, idS_p, idS_c, idS_f, TId.row, TId.len, TId.get, Tryz.ntmps35, Nat.reduceEqDiff, reduceCtorEq, Nat.reduceMul, Nat.reduceAdd, Nat.reduceSub, Nat.reduceDiv, Nat.reduceMod, Nat.reduceLeDiff, Nat.reduceLT, Nat.reduceBNe, Nat.reduceBEq, reduceIte, Int.reduceLE, Int.reduceLT, Int.reduceToNat, Int.reduceNeg, Int.reduceAdd, Int.reduceSub, Int.reduceMul, Int.reduceEq]
        refine ⟨fun q => ⟨hi, q, okL_get h2 TId.z_ok _, fun r => ?_, fun r => ⟨?_, hS q r, hM q⟩⟩, fun q => ⟨?_, e0.trans (hN q)⟩⟩
        · have e1 : ofE l ids = idF (ids.getD i.toNat TId.z) := e0.trans (hE _ q rfl r)
          exact ⟨z _ r e1, e1.symm⟩
        · rw [i64w (n := i + 1) (by omega) (by omega)]
          exact known_step hi q
        · rw [List.take_of_length_le (by omega)]
    · rintro u hu
      simp only [go_sem, h.hP, Tryz.ntmps35, Nat.reduceEqDiff, reduceCtorEq, Nat.reduceMul, Nat.reduceAdd, Nat.reduceSub, Nat.reduceDiv, Nat.reduceMod, Nat.reduceLeDiff, Nat.reduceLT, Nat.reduceBNe, Nat.reduceBEq, reduceIte, Int.reduceLE, Int.reduceLT, Int.reduceToNat, Int.reduceNeg, Int.reduceAdd, Int.reduceSub, Int.reduceMul, Int.reduceEq]
      refine vc_loopS (Int × List TEvent) (fun (x : Int × List TEvent) => match x with | (i, out) => [(39, .i i), (11, .own 11)]) [22] (fun (x : Int × List TEvent) => match x with | (i, out) => []) (fun (x : Int × List TEvent) => match x with | (i, out) => [(11, .arr 52 6 (TEvent.rows out))]) (fun (x : Int × List TEvent) => match x with | (i, out) => 0) (fun (x : Int × List TEvent) => match x with | (i, out) => 0 ≤ i ∧ i ≤ l.length ∧ out = (l.take i.toNat).filter (fun e => conE e.who ids)) (fun (x : Int × List TEvent) => match x with | (i, out) => (l.length - i).toNat) [(11, 52, 6)] ?_ ?_
      · simp only [go_sem, h.hP, List.cons_append, List.nil_append, Meets_e, Below_e, Prod.exists, exists_eq, exists_eq_left, exists_eq_left', exists_eq_right, exists_eq_right', exists_and_left, exists_and_right, Ob.arr.injEq, AV.own.injEq, AV.fv.injEq, TEvent.nil2, Tryz.ntmps35, Nat.reduceEqDiff, reduceCtorEq, Nat.reduceMul, Nat.reduceAdd, Nat.reduceSub, Nat.reduceDiv, Nat.reduceMod, Nat.reduceLeDiff, Nat.reduceLT, Nat.reduceBNe, Nat.reduceBEq, reduceIte, Int.reduceLE, Int.reduceLT, Int.reduceToNat, Int.reduceNeg, Int.reduceAdd, Int.reduceSub, Int.reduceMul, Int.reduceEq]
        exact ⟨by omega, rfl⟩
      · rintro ⟨i, out⟩ ⟨i0, i1, ho⟩
        simp only [go_sem, h.hP, List.cons_append, List.nil_append, Meets_e, Below_e, Prod.exists, exists_eq, exists_eq_left, exists_eq_left', exists_eq_right, exists_eq_right', exists_and_left, exists_and_right, Ob.arr.injEq, AV.own.injEq, AV.fv.injEq, ofS_q, ofS_p, ofS_c, ofS_f, copyS_q, copyS_p, copyS_c, copyS_f, known_get', TEvent.row, TEvent.fold1, TEvent.app', TEvent.rows_inj, TEvent.zlT, TEvent.len, TEvent.get, List.length_append, List.length_singleton, Tryz.ntmps35, Nat.reduceEqDiff, reduceCtorEq, Nat.reduceMul, Nat.reduceAdd, Nat.reduceSub, Nat.reduceDiv, Nat.reduceMod, Nat.reduceLeDiff, Nat.reduceLT, Nat.reduceBNe, Nat.reduceBEq, reduceIte, Int.reduceLE, Int.reduceLT, Int.reduceToNat, Int.reduceNeg, Int.reduceAdd, Int.reduceSub, Int.reduceMul, Int.reduceEq]
        have hll := h1.1
        have hlo : (out.length : Int) ≤ i := by
          have := List.length_filter_le (fun e : TEvent => conE e.who ids) (l.take i.toNat)
          rw [← ho, List.length_take] at this
          omega
        have hst := fun q => filter_step (l := l) (fun e : TEvent => conE e.who ids) i0 q
        refine ⟨fun q => ⟨i0, q, fun c1 => ⟨okL_get h1 TEvent.z_ok _, by omega, by omega, ?_⟩, fun c1 => ?_⟩, fun q => ?_⟩
        · rw [i64w (n := i + 1) (by omega) (by omega), hst q, ← ho, if_pos c1]
          exact ⟨by omega, by omega, rfl, by omega⟩
        · rw [i64w (n := i + 1) (by omega) (by omega), hst q, ← ho, if_neg (ne_ft' c1), List.append_nil]
          exact ⟨by omega, by omega, rfl, by omega⟩
        · rw [List.take_of_length_le (by omega)] at ho
          exact ⟨by rw [ho]; exact (if_pos hu).symm, hu.symm⟩
/-! ### The closure that asks whether an event is of somebody else -/
def whoΦ (caps : List (List D)) : FSpec where
  pre xs := ∃ (e : TEvent) (ids : List TId), caps = [[.sl (TId.rows ids)]] ∧ xs = [.ag e.row] ∧ ids.length ≤ 1048576
  post xs r := ∃ (e : TEvent) (ids : List TId), caps = [[.sl (TId.rows ids)]] ∧ xs = [.ag e.row] ∧ r = .d (.bool (!conE e.who ids))
def whoS : Spec where
  pre xs := ∃ (e : TEvent) (ids : List TId), xs = [.dv (.ag e.row), .dp [.sl (TId.rows ids)]] ∧ ids.length ≤ 1048576
  post xs r := ∃ (e : TEvent) (ids : List TId), xs = [.dv (.ag e.row), .dp [.sl (TId.rows ids)]] ∧ r = .b (!conE e.who ids)
  cost _ := 0
  fresh := true
theorem whoS_c (xs : List AV) : whoS.cost xs = 0 := nr rfl
theorem whoS_f : whoS.fresh = true := nr rfl
theorem whoS_p (e : TEvent) (ids : List TId) : whoS.post [.dv (.ag [.str e.id, .str e.name, .int .i64 e.at_, .int .i64 e.who.kind, .str e.who.text, .sl (TField.rows e.fields)]), .dp [.sl (TId.rows ids)]] = fun r => r = .b (!conE e.who ids) := funext fun r => propext ⟨fun ⟨e', ids', q, hr⟩ => by
  simp only [List.cons.injEq, AV.dv.injEq, AV.dp.injEq, DV.ag.injEq, D.sl.injEq, TId.rows_inj, and_true] at q
  obtain ⟨q1, rfl⟩ := q
  obtain rfl : e = e' := TEvent.inj (x := e) q1
  exact hr, fun hr => ⟨e, ids, rfl, hr⟩⟩
theorem whoΦ_of {cx : Cx} {fn : FuncId} (h : Ctr cx fn whoS) (caps : List (List D)) : Ctr cx fn (clo whoΦ caps) := by
  refine h.weaken (fun xs hx => ?_) (fun xs r hx hr => ?_) (fun _ => Nat.le_refl _) rfl
  · obtain ⟨ys, rfl, e, ids, rfl, rfl, h1⟩ := hx
    exact ⟨e, ids, rfl, h1⟩
  · obtain ⟨ys, rfl, e, ids, rfl, rfl, h1⟩ := hx
    obtain ⟨e', ids', q, rfl⟩ := hr
    simp only [List.map_cons, List.map_nil, List.cons_append, List.nil_append, List.cons.injEq, AV.dv.injEq, AV.dp.injEq, DV.ag.injEq, D.sl.injEq, TId.rows_inj, and_true] at q
    obtain ⟨q1, rfl⟩ := q
    obtain rfl := TEvent.inj q1
    exact ⟨_, _, rfl, rfl, _, _, rfl, rfl, rfl⟩
theorem whoΦ_post (e : TEvent) (ids : List TId) (y : DV) : (whoΦ [[.sl (TId.rows ids)]]).post [.ag e.row] y ↔ y = .d (.bool (!conE e.who ids)) := by
  constructor
  · rintro ⟨e', ids', q1, q2, rfl⟩
    simp only [List.cons.injEq, D.sl.injEq, TId.rows_inj, and_true] at q1
    simp only [List.cons.injEq, DV.ag.injEq, and_true] at q2
    obtain rfl := TEvent.inj q2
    rw [q1]
  · rintro rfl
    exact ⟨e, ids, rfl, rfl, rfl⟩
theorem whoΦ_holds (e : TEvent) (ids : List TId) : (whoΦ [[.sl (TId.rows ids)]]).holds (.ag e.row) = !conE e.who ids := by
  unfold FSpec.holds
  cases hc : conE e.who ids with
  | true => exact @decide_eq_false _ (Classical.propDecidable _) (fun h => by have := (whoΦ_post e ids _).1 h; simp [hc] at this)
  | false => exact @decide_eq_true _ (Classical.propDecidable _) ((whoΦ_post e ids _).2 (by rw [hc]; rfl))
theorem whoΦ_det (e : TEvent) {ids : List TId} (h : ids.length ≤ 1048576) : (whoΦ [[.sl (TId.rows ids)]]).det (.ag e.row) :=
  ⟨⟨e, ids, rfl, rfl, h⟩, fun y => by rw [whoΦ_holds]; exact whoΦ_post e ids y⟩
end Go.Avc

namespace Go.Avc
open Go Go.Proofs
def idx_TIdS  : Spec where
  pre xs := ∃ (l : List TId) (k : Int) (s : ByteArray), xs = [.sl (TId.rows l), .dv (.ag [.int .i64 k, .str s])] ∧ (l.length ≤ 4611686018427387904)
  post xs y := ∃ (l : List TId) (k : Int) (s : ByteArray), xs = [.sl (TId.rows l), .dv (.ag [.int .i64 k, .str s])] ∧ y = .i (idxE ⟨k, s⟩ l)
  cost _ := 0
  fresh := true
theorem idx_TIdS_c  (xs : List AV) : (idx_TIdS).cost xs = 0 := nr rfl
theorem idx_TIdS_f  : (idx_TIdS).fresh = true := nr rfl
theorem idx_TIdS_q  (l : List TId) (k : Int) (s : ByteArray) : (idx_TIdS).pre [.sl (TId.rows l), .dv (.ag [.int .i64 k, .str s])] = (l.length ≤ 4611686018427387904) := propext ⟨fun h => by
  have h' : ∃ (l' : List TId) (k' : Int) (s' : ByteArray), ([.sl (TId.rows l), .dv (.ag [.int .i64 k, .str s])] : List AV) = [.sl (TId.rows l'), .dv (.ag [.int .i64 k', .str s'])] ∧ (l'.length ≤ 4611686018427387904) := h
  obtain ⟨l', k', s', e, h⟩ := h'
  simp only [List.cons.injEq, AV.dv.injEq, AV.dp.injEq, AV.fv.injEq, DV.d.injEq, DV.ag.injEq, D.int.injEq, D.str.injEq, D.bool.injEq, D.sl.injEq, true_and, and_true, intsDi_inj, rowsT_inj, rowsKi_inj, TId.row_inj, TId.rows_inj] at e
  obtain ⟨rfl, rfl, rfl⟩ := e
  exact h, fun h => ⟨l, k, s, rfl, h⟩⟩
theorem idx_TIdS_p  (l : List TId) (k : Int) (s : ByteArray) : (idx_TIdS).post [.sl (TId.rows l), .dv (.ag [.int .i64 k, .str s])] = fun y => y = .i (idxE ⟨k, s⟩ l) := funext fun y => propext ⟨fun h => by
  have h' : ∃ (l' : List TId) (k' : Int) (s' : ByteArray), ([.sl (TId.rows l), .dv (.ag [.int .i64 k, .str s])] : List AV) = [.sl (TId.rows l'), .dv (.ag [.int .i64 k', .str s'])] ∧ y = .i (idxE ⟨k', s'⟩ l') := h
  obtain ⟨l', k', s', e, h⟩ := h'
  simp only [List.cons.injEq, AV.dv.injEq, AV.dp.injEq, AV.fv.injEq, DV.d.injEq, DV.ag.injEq, D.int.injEq, D.str.injEq, D.bool.injEq, D.sl.injEq, true_and, and_true, intsDi_inj, rowsT_inj, rowsKi_inj, TId.row_inj, TId.rows_inj] at e
  obtain ⟨rfl, rfl, rfl⟩ := e
  exact h, fun h => ⟨l, k, s, rfl, h⟩⟩
def con_TIdS  : Spec where
  pre xs := ∃ (l : List TId) (k : Int) (s : ByteArray), xs = [.sl (TId.rows l), .dv (.ag [.int .i64 k, .str s])] ∧ (l.length ≤ 4611686018427387904)
  post xs y := ∃ (l : List TId) (k : Int) (s : ByteArray), xs = [.sl (TId.rows l), .dv (.ag [.int .i64 k, .str s])] ∧ y = .b (conE ⟨k, s⟩ l)
  cost _ := 0
  fresh := true
theorem con_TIdS_c  (xs : List AV) : (con_TIdS).cost xs = 0 := nr rfl
theorem con_TIdS_f  : (con_TIdS).fresh = true := nr rfl
theorem con_TIdS_q  (l : List TId) (k : Int) (s : ByteArray) : (con_TIdS).pre [.sl (TId.rows l), .dv (.ag [.int .i64 k, .str s])] = (l.length ≤ 4611686018427387904) := propext ⟨fun h => by
  have h' : ∃ (l' : List TId) (k' : Int) (s' : ByteArray), ([.sl (TId.rows l), .dv (.ag [.int .i64 k, .str s])] : List AV) = [.sl (TId.rows l'), .dv (.ag [.int .i64 k', .str s'])] ∧ (l'.length ≤ 4611686018427387904) := h
  obtain ⟨l', k', s', e, h⟩ := h'
  simp only [List.cons.injEq, AV.dv.injEq, AV.dp.injEq, AV.fv.injEq, DV.d.injEq, DV.ag.injEq, D.int.injEq, D.str.injEq, D.bool.injEq, D.sl.injEq, true_and, and_true, intsDi_inj, rowsT_inj, rowsKi_inj, TId.row_inj, TId.rows_inj] at e
  obtain ⟨rfl, rfl, rfl⟩ := e
  exact h, fun h => ⟨l, k, s, rfl, h⟩⟩
theorem con_TIdS_p  (l : List TId) (k : Int) (s : ByteArray) : (con_TIdS).post [.sl (TId.rows l), .dv (.ag [.int .i64 k, .str s])] = fun y => y = .b (conE ⟨k, s⟩ l) := funext fun y => propext ⟨fun h => by
  have h' : ∃ (l' : List TId) (k' : Int) (s' : ByteArray), ([.sl (TId.rows l), .dv (.ag [.int .i64 k, .str s])] : List AV) = [.sl (TId.rows l'), .dv (.ag [.int .i64 k', .str s'])] ∧ y = .b (conE ⟨k', s'⟩ l') := h
  obtain ⟨l', k', s', e, h⟩ := h'
  simp only [List.cons.injEq, AV.dv.injEq, AV.dp.injEq, AV.fv.injEq, DV.d.injEq, DV.ag.injEq, D.int.injEq, D.str.injEq, D.bool.injEq, D.sl.injEq, true_and, and_true, intsDi_inj, rowsT_inj, rowsKi_inj, TId.row_inj, TId.rows_inj] at e
  obtain ⟨rfl, rfl, rfl⟩ := e
  exact h, fun h => ⟨l, k, s, rfl, h⟩⟩
theorem index_TId {cx : Cx} (h : Seat cx) : Ctr cx 88 idx_TIdS := by
  refine ctr_of (fn := Tryz.f88) (l := [.tmp 4]) (envL []) [0, 1, 3, 4, 5, 7, 8, 9, 16] [] [] (env0 h.hP) ?_ (by rw [h.hP]; exact Tryz.func88) rfl (by kernel_rfl) rfl ?_ ?_
  · rw [h.hP]; exact ⟨_, Tryz.func88, by kernel_rfl, by kernel_rfl⟩
  · rintro xs ⟨l, k, s, rfl, h1⟩; exact ⟨_, l, k, s, rfl, rfl⟩
  · rintro xs ⟨l, k, s, rfl, h1⟩
    refine ⟨by rw [Tryz.ntmps88]; simp, ?_⟩
    simp only [go_sem, h.hP, List.cons_append, List.nil_append, Meets_e, Below_e, Prod.exists, exists_eq, exists_eq_left, exists_eq_left', exists_eq_right, exists_eq_right', exists_and_left, exists_and_right, Ob.arr.injEq, AV.own.injEq, AV.fv.injEq, idx_TIdS_q, idx_TIdS_p, idx_TIdS_c, idx_TIdS_f, Tryz.ntmps88, Nat.reduceEqDiff, reduceCtorEq, Nat.reduceMul, Nat.reduceAdd, Nat.reduceSub, Nat.reduceDiv, Nat.reduceMod, Nat.reduceLeDiff, Nat.reduceLT, Nat.reduceBNe, Nat.reduceBEq, reduceIte, Int.reduceLE, Int.reduceLT, Int.reduceToNat, Int.reduceNeg, Int.reduceAdd, Int.reduceSub, Int.reduceMul, Int.reduceEq]
    refine vc_loopS (Int) (fun (i : Int) => [(8, .i i)]) [3] (fun (i : Int) => []) (fun (i : Int) => []) (fun (i : Int) => 0) (fun (i : Int) => 0 ≤ i ∧ i ≤ l.length ∧ ∀ j : Nat, (j : Int) < i → ¬ (⟨k, s⟩ : TId) = l.getD j TId.z) (fun (i : Int) => (l.length - i).toNat) [] ?_ ?_
    · simp only [go_sem, h.hP, List.cons_append, List.nil_append, Meets_e, Below_e, Prod.exists, exists_eq, exists_eq_left, exists_eq_left', exists_eq_right, exists_eq_right', exists_and_left, exists_and_right, Ob.arr.injEq, AV.own.injEq, AV.fv.injEq, TId.len, Tryz.ntmps88, Nat.reduceEqDiff, reduceCtorEq, Nat.reduceMul, Nat.reduceAdd, Nat.reduceSub, Nat.reduceDiv, Nat.reduceMod, Nat.reduceLeDiff, Nat.reduceLT, Nat.reduceBNe, Nat.reduceBEq, reduceIte, Int.reduceLE, Int.reduceLT, Int.reduceToNat, Int.reduceNeg, Int.reduceAdd, Int.reduceSub, Int.reduceMul, Int.reduceEq]
      exact ⟨Int.natCast_nonneg _, fun j hj => by omega⟩
    · rintro i ⟨j1, j2, j3⟩
      simp only [go_sem, h.hP, List.cons_append, List.nil_append, Meets_e, Below_e, Prod.exists, exists_eq, exists_eq_left, exists_eq_left', exists_eq_right, exists_eq_right', exists_and_left, exists_and_right, Ob.arr.injEq, AV.own.injEq, AV.fv.injEq, idx_TIdS_q, idx_TIdS_p, idx_TIdS_c, idx_TIdS_f, TId.len, TId.get, Tryz.ntmps88, Nat.reduceEqDiff, reduceCtorEq, Nat.reduceMul, Nat.reduceAdd, Nat.reduceSub, Nat.reduceDiv, Nat.reduceMod, Nat.reduceLeDiff, Nat.reduceLT, Nat.reduceBNe, Nat.reduceBEq, reduceIte, Int.reduceLE, Int.reduceLT, Int.reduceToNat, Int.reduceNeg, Int.reduceAdd, Int.reduceSub, Int.reduceMul, Int.reduceEq]
      have h0 := idx_leafT j1 j2 j3 h1
      refine ⟨fun c => ?_, h0.2⟩
      obtain ⟨a1, a2, a3, a4⟩ := h0.1 c
      refine ⟨a1, a2, fun e => a3 (by rw [e.1, e.2]), fun e => a4 fun q => ?_⟩
      rw [← q] at e
      simp at e
theorem contains_TId {cx : Cx} (h : Seat cx) : Ctr cx 40 con_TIdS := by
  refine ctr_of (fn := Tryz.f40) (l := [.tmp 4]) (envL [(88, idx_TIdS)]) [0, 1, 3, 4] [] [] (envL_cons (index_TId h) (env0 h.hP)) ?_ (by rw [h.hP]; exact Tryz.func40) rfl (by kernel_rfl) rfl ?_ ?_
  · rw [h.hP]; exact ⟨_, Tryz.func40, by kernel_rfl, by kernel_rfl⟩
  · rintro xs ⟨l, k, s, rfl, h1⟩; exact ⟨_, l, k, s, rfl, rfl⟩
  · rintro xs ⟨l, k, s, rfl, h1⟩
    refine ⟨by rw [Tryz.ntmps40]; simp, ?_⟩
    simp only [go_sem, h.hP, List.cons_append, List.nil_append, Meets_e, Below_e, Prod.exists, exists_eq, exists_eq_left, exists_eq_left', exists_eq_right, exists_eq_right', exists_and_left, exists_and_right, Ob.arr.injEq, AV.own.injEq, AV.fv.injEq, idx_TIdS_q, idx_TIdS_p, idx_TIdS_c, idx_TIdS_f, con_TIdS_q, con_TIdS_p, con_TIdS_c, con_TIdS_f, Tryz.ntmps40, Nat.reduceEqDiff, reduceCtorEq, Nat.reduceMul, Nat.reduceAdd, Nat.reduceSub, Nat.reduceDiv, Nat.reduceMod, Nat.reduceLeDiff, Nat.reduceLT, Nat.reduceBNe, Nat.reduceBEq, reduceIte, Int.reduceLE, Int.reduceLT, Int.reduceToNat, Int.reduceNeg, Int.reduceAdd, Int.reduceSub, Int.reduceMul, Int.reduceEq]
    exact ⟨h1, conE_ge _ l⟩
theorem who_ctr {cx : Cx} (h : Seat cx) : Ctr cx 39 whoS := by
  refine ctr_of (fn := Tryz.f39) (l := [.tmp 3]) (envL [(40, con_TIdS)]) [0, 1, 2, 3] [] [] (envL_cons (contains_TId h) (env0 h.hP)) ?_ (by rw [h.hP]; exact Tryz.func39) rfl (by kernel_rfl) rfl ?_ ?_
  · rw [h.hP]; exact ⟨_, Tryz.func39, by kernel_rfl, by kernel_rfl⟩
  · rintro xs ⟨e, ids, rfl, h1⟩; exact ⟨_, e, ids, rfl, rfl⟩
  · rintro xs ⟨e, ids, rfl, h1⟩
    refine ⟨by rw [Tryz.ntmps39]; simp, ?_⟩
    simp only [go_sem, h.hP, List.cons_append, List.nil_append, Meets_e, Below_e, Prod.exists, exists_eq, exists_eq_left, exists_eq_left', exists_eq_right, exists_eq_right', exists_and_left, exists_and_right, Ob.arr.injEq, AV.own.injEq, AV.fv.injEq, whoS_c, whoS_f, whoS_p, con_TIdS_q, con_TIdS_p, con_TIdS_c, con_TIdS_f, TEvent.row, Tryz.ntmps39, Nat.reduceEqDiff, reduceCtorEq, Nat.reduceMul, Nat.reduceAdd, Nat.reduceSub, Nat.reduceDiv, Nat.reduceMod, Nat.reduceLeDiff, Nat.reduceLT, Nat.reduceBNe, Nat.reduceBEq, reduceIte, Int.reduceLE, Int.reduceLT, Int.reduceToNat, Int.reduceNeg, Int.reduceAdd, Int.reduceSub, Int.reduceMul, Int.reduceEq]
    omega
theorem firstI_snoc (n : Nat) (g : Nat → Int) : firstI (n + 1) g = orE (firstI n g) (g n) := by
  by_cases h : firstI n g = 0
  · rw [orE_r h]
    by_cases c : g n = 0
    · rw [c]
      exact firstI_no (i := ((n + 1 : Nat) : Int)) (fun j hj => by
        by_cases e : j = n
        · rw [e]; exact c
        · exact firstI_zero h j (by omega)) (Int.le_refl _)
    · have := firstI_at (n := n + 1) (f := g) (i := (n : Int)) (by omega) (by omega) (fun j hj => firstI_zero h j (by omega)) (by rw [Int.toNat_natCast]; exact c)
      rwa [Int.toNat_natCast] at this
  · rw [orE_l h]
    unfold firstI at h ⊢
    rw [List.range_succ, List.find?_append]
    cases hf : (List.range n).find? (fun i => decide (g i ≠ 0)) with
    | none => rw [hf] at h; exact absurd rfl h
    | some j => rfl
theorem orE_assoc (a b c : Int) : orE (orE a b) c = orE a (orE b c) := by
  by_cases h : a = 0
  · rw [orE_r h, orE_r h]
  · rw [orE_l h, orE_l h, orE_l h]
theorem orE_0 (a : Int) : orE a 0 = a := by
  by_cases h : a = 0
  · rw [orE_r h, h]
  · rw [orE_l h]
theorem maxL_of {cx W0 : Cx} {m : Int} (hW : W0.glob 3 = some [.int .i64 m]) (h : ∀ w, GlAt cx w → GlAt W0 w) : MaxL cx := by
  intro w hw
  obtain ⟨_, _, cs, hc, hr⟩ := h w hw 3 _ hW
  obtain ⟨v, hv, hr⟩ := hr.get (j := 0) (x := .int .i64 m) rfl
  refine ⟨m, ?_⟩
  have := hc 0 v hv
  rw [this]
  cases hr
  rfl
set_option maxHeartbeats 8000000 in
theorem ec_walk {L : List Int} {A : Option Addr} {cp : Nat} {W : World} (hng : 6 ≤ W.heap.size) (hrd : Rd (fun k => k < W.heap.size) W (.sl (intRows L)) (.slice A L.length cp)) {glob : Nat → Option (List D)} (hgl : GlAt ⟨Tryz.prog, none, L, 25, 6, glob⟩ W) (hU : ∀ cx : Cx, (∀ w, GlAt cx w → GlAt ⟨Tryz.prog, none, L, 25, 6, glob⟩ w) → Utf8 cx) (hfn : glob 2 = some namesD) (hip : glob 0 = some poolD) (hen : glob 1 = some evNamesD) {m : Int} (hml : glob 3 = some [.int .i64 m]) :
    Calls Tryz.prog 7 [Value.slice A L.length cp].toArray W fun e W' => e = .returned (.bool true) ∧ RowKit.Below W.heap.size W W' := by
  refine law_calls (E := envO [(11, rangeS), (31, eventsG), (34, (idG 6)), (10, someG), (32, eventsS), (33, eventsS), (35, ofS), (36, idS), (21, wrongS), (41, smEvS), (15, happeningsS)] [(39, whoΦ)] [(38, cloneES, 52, 6), (37, delS, 52, 2000006)]) (B := 9000) (live := [0, 2, 3, 4, 5, 6, 7, 8, 10, 11, 23, 32, 33, 34, 47, 48, 49, 50, 60]) (HH := [5, 11, 17]) (hz := []) (d := 2) (x1 := 12) (x2 := 13) (x3 := 14) (x4 := 3) (ng := 6) (glob := glob) Tryz.func7 rfl rfl (by kernel_rfl) ⟨rfl, rfl, rfl⟩ ⟨rfl, rfl, rfl⟩ ⟨rfl, rfl, rfl⟩ ⟨rfl, rfl, rfl⟩ ⟨rfl, rfl, rfl⟩ build_stream ⟨by simp, by decide, by decide, by decide, by decide, by decide, by rw [Tryz.ntmps7]; decide⟩ (ex := []) (xv := []) rfl (fun i x u hx hu => by simp at hx) (by decide) hng hrd hgl ?_
  intro cx hP hS hG hGl
  have h : Seat cx := ⟨hP, hS⟩
  refine ⟨envO_cons (CloneE_own h) (envO_cons (del_own h) (envO_nil (envF_cons (whoΦ_of (who_ctr h)) (envF_nil (envL_cons (range_ctr cx h.hP h.hS) (envL_cons (ctr_ofO (by decide) evG_ne (Events_own h ((congrFun hGl _).trans hfn) ((congrFun hGl _).trans hip) ((congrFun hGl _).trans hen))) (envL_cons (Id_ctr h ((congrFun hGl _).trans hip)) (envL_cons (some_ctr h ((congrFun hGl _).trans hfn) ((congrFun hGl _).trans hip) ((congrFun hGl _).trans hen) (hU cx hG) (maxL_of hml hG)) (envL_cons (ECheck_ctr h (hU cx hG) (maxL_of hml hG)) (envL_cons (EventsFault_ctr h (hU cx hG) (maxL_of hml hG)) (envL_cons (Of_ctr h (hU cx hG) (maxL_of hml hG)) (envL_cons (IdFault_ctr h (maxL_of hml hG)) (envL_cons (wrongOr_ctr h) (envL_cons (sameEvents_ctr h) (envL_cons (happenings_ctr h) (env0 h.hP)))))))))))))))), ?_⟩
  simp only [go_sem, h.hP, List.cons_append, List.nil_append, Meets_e, Below_e, Prod.exists, exists_eq, exists_eq_left, exists_eq_left', exists_eq_right, exists_eq_right', exists_and_left, exists_and_right, Ob.arr.injEq, AV.own.injEq, AV.fv.injEq, eventsG, rangeS_q, rangeS_p, rangeS_c, rangeS_f, eventsS_q, eventsS_p, eventsS_c, eventsS_f, TEvent.rows_inj, Tryz.ntmps7, Nat.reduceEqDiff, reduceCtorEq, Nat.reduceMul, Nat.reduceAdd, Nat.reduceSub, Nat.reduceDiv, Nat.reduceMod, Nat.reduceLeDiff, Nat.reduceLT, Nat.reduceBNe, Nat.reduceBEq, reduceIte, Int.reduceLE, Int.reduceLT, Int.reduceToNat, Int.reduceNeg, Int.reduceAdd, Int.reduceSub, Int.reduceMul, Int.reduceEq]
  intro a a0 a6
  refine ⟨by omega, fun l0 l00 lo0 => ?_⟩
  have ok0 : okL TEvent.ok l0 := ⟨by omega, lo0⟩
  refine vc_cutS (Unit) (fun (y : Unit) => [(23, .un)]) [] (fun (y : Unit) => []) (fun (y : Unit) => []) (fun (y : Unit) => 2001) (fun (y : Unit) => True) [] ?_ ?_ ?_
  · rfl
  · simp only [go_sem, h.hP, List.cons_append, List.nil_append, Meets_e, Below_e, Prod.exists, exists_eq, exists_eq_left, exists_eq_left', exists_eq_right, exists_eq_right', exists_and_left, exists_and_right, Ob.arr.injEq, AV.own.injEq, AV.fv.injEq, eventsS_q, eventsS_p, eventsS_c, eventsS_f, Tryz.ntmps7, Nat.reduceEqDiff, reduceCtorEq, Nat.reduceMul, Nat.reduceAdd, Nat.reduceSub, Nat.reduceDiv, Nat.reduceMod, Nat.reduceLeDiff, Nat.reduceLT, Nat.reduceBNe, Nat.reduceBEq, reduceIte, Int.reduceLE, Int.reduceLT, Int.reduceToNat, Int.reduceNeg, Int.reduceAdd, Int.reduceSub, Int.reduceMul, Int.reduceEq]
    exact ⟨ok0, ok0⟩
  · rintro y _
    simp only [go_sem, h.hP, List.cons_append, List.nil_append, Meets_e, Below_e, Prod.exists, exists_eq, exists_eq_left, exists_eq_left', exists_eq_right, exists_eq_right', exists_and_left, exists_and_right, Ob.arr.injEq, AV.own.injEq, AV.fv.injEq, someG, rangeS_q, rangeS_p, rangeS_c, rangeS_f, TEvent.rows_inj, Tryz.ntmps7, Nat.reduceEqDiff, reduceCtorEq, Nat.reduceMul, Nat.reduceAdd, Nat.reduceSub, Nat.reduceDiv, Nat.reduceMod, Nat.reduceLeDiff, Nat.reduceLT, Nat.reduceBNe, Nat.reduceBEq, reduceIte, Int.reduceLE, Int.reduceLT, Int.reduceToNat, Int.reduceNeg, Int.reduceAdd, Int.reduceSub, Int.reduceMul, Int.reduceEq]
    intro b b0 b8
    refine ⟨by omega, fun l l20 lo => ?_⟩
    have ok : okL TEvent.ok l := ⟨by omega, lo⟩
    refine vc_cutS (List TId) (fun (ids : List TId) => [(6, .ptr 6 0), (32, .un), (33, .un), (34, .un)]) [] (fun (ids : List TId) => []) (fun (ids : List TId) => [(6, .box 71 [.sl (TId.rows ids)])]) (fun (ids : List TId) => 6100) (fun (ids : List TId) => ids.length ≤ 3 ∧ ∀ x ∈ ids, x.ok) [] ?_ ?_ ?_
    · rfl
    · simp only [go_sem, h.hP, List.cons_append, List.nil_append, Meets_e, Below_e, Prod.exists, exists_eq, exists_eq_left, exists_eq_left', exists_eq_right, exists_eq_right', exists_and_left, exists_and_right, Ob.arr.injEq, AV.own.injEq, AV.fv.injEq, rangeS_q, rangeS_p, rangeS_c, rangeS_f, Tryz.ntmps7, Nat.reduceEqDiff, reduceCtorEq, Nat.reduceMul, Nat.reduceAdd, Nat.reduceSub, Nat.reduceDiv, Nat.reduceMod, Nat.reduceLeDiff, Nat.reduceLT, Nat.reduceBNe, Nat.reduceBEq, reduceIte, Int.reduceLE, Int.reduceLT, Int.reduceToNat, Int.reduceNeg, Int.reduceAdd, Int.reduceSub, Int.reduceMul, Int.reduceEq]
      intro r r0 r3
      refine vc_loopS (Int × List TId) (fun (x : Int × List TId) => match x with | (i, ids) => [(33, .i i)]) [6] (fun (x : Int × List TId) => match x with | (i, ids) => [(6, 0, .own 10600)]) (fun (x : Int × List TId) => match x with | (i, ids) => [(10600, .arr 49 2 (TId.rows ids))]) (fun (x : Int × List TId) => match x with | (i, ids) => 6010 + 10 * i.toNat) (fun (x : Int × List TId) => match x with | (i, ids) => 0 ≤ i ∧ i ≤ r ∧ (ids.length : Int) ≤ i ∧ ∀ x ∈ ids, x.ok) (fun (x : Int × List TId) => match x with | (i, ids) => (r - i).toNat) [(10600, 49, 2)] ?_ ?_
      · simp only [go_sem, h.hP, List.cons_append, List.nil_append, Meets_e, Below_e, Prod.exists, exists_eq, exists_eq_left, exists_eq_left', exists_eq_right, exists_eq_right', exists_and_left, exists_and_right, Ob.arr.injEq, AV.own.injEq, AV.fv.injEq, TId.nil2, Tryz.ntmps7, Nat.reduceEqDiff, reduceCtorEq, Nat.reduceMul, Nat.reduceAdd, Nat.reduceSub, Nat.reduceDiv, Nat.reduceMod, Nat.reduceLeDiff, Nat.reduceLT, Nat.reduceBNe, Nat.reduceBEq, reduceIte, Int.reduceLE, Int.reduceLT, Int.reduceToNat, Int.reduceNeg, Int.reduceAdd, Int.reduceSub, Int.reduceMul, Int.reduceEq]
        exact ⟨by omega, by omega⟩
      · rintro ⟨i, ids⟩ ⟨i0, i1, hl, ho⟩
        simp only [go_sem, h.hP, List.cons_append, List.nil_append, Meets_e, Below_e, Prod.exists, exists_eq, exists_eq_left, exists_eq_left', exists_eq_right, exists_eq_right', exists_and_left, exists_and_right, Ob.arr.injEq, AV.own.injEq, AV.fv.injEq, idG, TId.row, TId.fold1, TId.app', TId.rows_inj, TId.zlT, TId.len, List.length_append, List.length_singleton, Tryz.ntmps7, Nat.reduceEqDiff, reduceCtorEq, Nat.reduceMul, Nat.reduceAdd, Nat.reduceSub, Nat.reduceDiv, Nat.reduceMod, Nat.reduceLeDiff, Nat.reduceLT, Nat.reduceBNe, Nat.reduceBEq, reduceIte, Int.reduceLE, Int.reduceLT, Int.reduceToNat, Int.reduceNeg, Int.reduceAdd, Int.reduceSub, Int.reduceMul, Int.reduceEq]
        refine ⟨by omega, fun q => ⟨by omega, by omega, by omega, fun a ha => ?_⟩, fun q => ⟨by omega, by omega, ho⟩⟩
        rw [i64w (n := i + 1) (by omega) (by omega)]
        exact ⟨by omega, by omega, by omega, by omega, by omega, by omega, by omega, by omega, by omega, okL_app ho ha, by omega⟩
    · rintro ids ⟨hl, ho⟩
      have oki : okL TId.ok ids := ⟨by omega, ho⟩
      simp only [go_sem, h.hP, List.cons_append, List.nil_append, Meets_e, Below_e, Prod.exists, exists_eq, exists_eq_left, exists_eq_left', exists_eq_right, exists_eq_right', exists_and_left, exists_and_right, Ob.arr.injEq, AV.own.injEq, AV.fv.injEq, ofS_q, ofS_p, ofS_c, ofS_f, Tryz.ntmps7, Nat.reduceEqDiff, reduceCtorEq, Nat.reduceMul, Nat.reduceAdd, Nat.reduceSub, Nat.reduceDiv, Nat.reduceMod, Nat.reduceLeDiff, Nat.reduceLT, Nat.reduceBNe, Nat.reduceBEq, reduceIte, Int.reduceLE, Int.reduceLT, Int.reduceToNat, Int.reduceNeg, Int.reduceAdd, Int.reduceSub, Int.reduceMul, Int.reduceEq]
      refine ⟨ok, oki, ?_⟩
      refine vc_cutS (Unit) (fun (u : Unit) => [(5, .i (ofE l ids)), (10, .un), (47, .un), (48, .un), (49, .un), (50, .un)]) [6] (fun (u : Unit) => []) (fun (u : Unit) => []) (fun (u : Unit) => 6200) (fun (u : Unit) => True) [] ?_ ?_ ?_
      · rfl
      · simp only [go_sem, h.hP, Tryz.ntmps7, Nat.reduceEqDiff, reduceCtorEq, Nat.reduceMul, Nat.reduceAdd, Nat.reduceSub, Nat.reduceDiv, Nat.reduceMod, Nat.reduceLeDiff, Nat.reduceLT, Nat.reduceBNe, Nat.reduceBEq, reduceIte, Int.reduceLE, Int.reduceLT, Int.reduceToNat, Int.reduceNeg, Int.reduceAdd, Int.reduceSub, Int.reduceMul, Int.reduceEq]
        refine vc_loopS (Int × Int) (fun (x : Int × Int) => match x with | (i, f) => [(49, .i i), (5, .i f)]) [6] (fun (x : Int × Int) => match x with | (i, f) => []) (fun (x : Int × Int) => match x with | (i, f) => []) (fun (x : Int × Int) => match x with | (i, f) => 6100) (fun (x : Int × Int) => match x with | (i, f) => 0 ≤ i ∧ i ≤ ids.length ∧ f = orE (eventsF l) (firstI i.toNat (idAt ids))) (fun (x : Int × Int) => match x with | (i, f) => (ids.length - i).toNat) [] ?_ ?_
        · simp only [go_sem, h.hP, List.cons_append, List.nil_append, Meets_e, Below_e, Prod.exists, exists_eq, exists_eq_left, exists_eq_left', exists_eq_right, exists_eq_right', exists_and_left, exists_and_right, Ob.arr.injEq, AV.own.injEq, AV.fv.injEq, TId.len, Tryz.ntmps7, Nat.reduceEqDiff, reduceCtorEq, Nat.reduceMul, Nat.reduceAdd, Nat.reduceSub, Nat.reduceDiv, Nat.reduceMod, Nat.reduceLeDiff, Nat.reduceLT, Nat.reduceBNe, Nat.reduceBEq, reduceIte, Int.reduceLE, Int.reduceLT, Int.reduceToNat, Int.reduceNeg, Int.reduceAdd, Int.reduceSub, Int.reduceMul, Int.reduceEq]
          exact ⟨by omega, (orE_0 _).symm⟩
        · rintro ⟨i, f⟩ ⟨i0, i1, hf⟩
          simp only [go_sem, h.hP, List.cons_append, List.nil_append, Meets_e, Below_e, Prod.exists, exists_eq, exists_eq_left, exists_eq_left', exists_eq_right, exists_eq_right', exists_and_left, exists_and_right, Ob.arr.injEq, AV.own.injEq, AV.fv.injEq, idS_q, idS_p, idS_c, idS_f, wrongS_q, wrongS_p, wrongS_c, wrongS_f, TId.row, TId.len, TId.get, ints1, intsc, Tryz.ntmps7, Nat.reduceEqDiff, reduceCtorEq, Nat.reduceMul, Nat.reduceAdd, Nat.reduceSub, Nat.reduceDiv, Nat.reduceMod, Nat.reduceLeDiff, Nat.reduceLT, Nat.reduceBNe, Nat.reduceBEq, reduceIte, Int.reduceLE, Int.reduceLT, Int.reduceToNat, Int.reduceNeg, Int.reduceAdd, Int.reduceSub, Int.reduceMul, Int.reduceEq]
          rw [wrong_two]
          refine ⟨fun q => ⟨i0, q, okL_get oki TId.z_ok _, ?_⟩, fun q => ?_⟩
          · rw [i64w (n := i + 1) (by omega) (by omega)]
            refine ⟨by omega, by omega, ?_, by omega⟩
            rw [hf, orE_assoc, show (i + 1).toNat = i.toNat + 1 by omega, firstI_snoc]
            rfl
          · rw [hf, show i.toNat = ids.length by omega]
            unfold ofE
            rw [if_neg (by omega)]
      · rintro u _
        simp only [go_sem, h.hP, List.cons_append, List.nil_append, Meets_e, Below_e, Prod.exists, exists_eq, exists_eq_left, exists_eq_left', exists_eq_right, exists_eq_right', exists_and_left, exists_and_right, Ob.arr.injEq, AV.own.injEq, AV.fv.injEq, cloneES_c, cloneES_f, cloneES_q, cloneES_p, delS_c, delS_f, delS_q, delS_p, smEvS_q, smEvS_p, smEvS_c, smEvS_f, happeningsS_q, happeningsS_p, happeningsS_c, happeningsS_f, TEvent.len, TEvent.rows_inj, List.tail_cons, List.any_nil, List.any_cons, Bool.or_false, Tryz.ntmps7, Nat.reduceEqDiff, reduceCtorEq, Nat.reduceMul, Nat.reduceAdd, Nat.reduceSub, Nat.reduceDiv, Nat.reduceMod, Nat.reduceLeDiff, Nat.reduceLT, Nat.reduceBNe, Nat.reduceBEq, reduceIte, Int.reduceLE, Int.reduceLT, Int.reduceToNat, Int.reduceNeg, Int.reduceAdd, Int.reduceSub, Int.reduceMul, Int.reduceEq]
        have hsl : stayL (whoΦ [[.sl (TId.rows ids)]]) l = ofL l ids := by
          unfold stayL ofL
          refine List.filter_congr fun e _ => ?_
          rw [whoΦ_holds, Bool.not_not]
        have hokL : okL TEvent.ok (ofL l ids) := ⟨Nat.le_trans (List.length_filter_le _ _) ok.1, fun e he => lo e (List.mem_filter.1 he).1⟩
        refine ⟨fun c => ?_, fun c => ⟨by omega, .inr trivial, fun e _ => whoΦ_det e oki.1, by omega, fun _ => ?_, fun e => e c⟩⟩
        · rw [show ofV l ids = [] from if_neg c]
          exact fun e => e rfl
        · have ev : ofV l ids = ofL l ids := if_pos c
          rw [hsl, ev]
          exact ⟨hokL, hokL, fun e => by rw [eqEB_t rfl] at e; cases e⟩
end Go.Avc

namespace Go.Proofs.YtkkcjnimbejalaaGreatDoor.eventChecks
open Go.ChangeShapes Go.ChangeMaps Go.WideShapes Go.ChangeAt Go.RowKit Go.Avc

def exF (m : Int) : Nat → Option (List D)
  | 0 => some poolD
  | 2 => some namesD
  | 1 => some evNamesD
  | 3 => some [.int .i64 m]
  | _ => none
theorem lies {W : World} {m : Int} (hm : W.cell? ⟨3, 0, none⟩ = some (.int .i64 m)) (hL : laidMetH Tryz.prog Rows.eventChecksRow.laid W) : Lies W (exF m) := by
  intro k l hk
  have hk' : exF m k = some l := hk
  match k, hk' with
  | 0, hk' =>
    cases hk'
    have h := lies_of_reads (l := poolD) (m := 20) (Lib.laidMet.reads hL (n := "handbill/handmake.idPool") (d := Rows.laid_handbill_handmake_idPool) (by simp [Rows.eventChecksRow])) (g := 0) rfl rfl (by kernel_rfl) (by kernel_rfl) (by decide)
    exact ⟨by decide, h.1, by decide, h.2⟩
  | 2, hk' =>
    cases hk'
    have h := lies_of_reads (l := namesD) (m := 6) (Lib.laidMet.reads hL (n := "handbill/handmake.fieldNames") (d := Rows.laid_handbill_handmake_fieldNames) (by simp [Rows.eventChecksRow])) (g := 2) rfl rfl (by kernel_rfl) (by kernel_rfl) (by decide)
    exact ⟨by decide, h.1, by decide, h.2⟩
  | 1, hk' =>
    cases hk'
    have h := lies_of_reads (l := evNamesD) (m := 4) (Lib.laidMet.reads hL (n := "handbill/handmake.eventNames") (d := Rows.laid_handbill_handmake_eventNames) (by simp [Rows.eventChecksRow])) (g := 1) rfl rfl (by kernel_rfl) (by kernel_rfl) (by decide)
    exact ⟨by decide, h.1, by decide, h.2⟩
  | 3, hk' =>
    cases hk'
    refine ⟨by decide, ?_, rfl, fun j u hj => ?_⟩
    · by_cases hb : 3 < W.heap.size
      · exact hb
      · unfold World.cell? at hm
        rw [Array.getElem?_eq_none (show W.heap.size ≤ 3 by omega)] at hm
        cases hm
    · cases j with
      | zero => cases hj; exact hm
      | succ j => simp at hj
/-- A world for a witness. -/
def fillC (l : List D) : Obj → Obj
  | .cells _ t frozen => .cells (l.map vD).toArray t frozen
  | o => o
noncomputable def heapF (os : Os) : Array Obj :=
  (((laidWorld os).heap.modify 0 (fillC poolD)).modify 2 (fillC namesD)).modify 1 (fillC evNamesD)
noncomputable def worldF (os : Os) : World := { laidWorld os with heap := heapF os }
theorem metF (os : Os) (args : Array Value) : laidMet Tryz.prog Rows.eventChecksRow.laid ((worldF os).forCall (fun _ _ => 0) ⟨#[], args, []⟩).memory := laidMet_of_run' 8 (by kernel_rfl) (by kernel_rfl)
theorem own : ownKnob Tryz.prog.godebug = none := by kernel_rfl
theorem one3 : Tryz.prog.cellsOf 3 = 1 := by kernel_rfl

/-- WHAT THE WALK GIVES. -/
theorem contract (H : Type) (enc : TypeId × Value → H) (W : World) (base : Nat) (args : Array Value) (ds gs : List (DataW H)) (before : List MemPlace)
    (hval : ∀ (j : Nat) t v, Tryz.f7.params[j]? = some t → args[j]? = some v → Value.okWide Tryz.prog W .any base t v)
    (hW : DataW.Whole enc Tryz.prog Tryz.f7.params.toList Rows.eventChecksSpec.vars false W args.toList ds gs before) (hL : laidMetH Tryz.prog Rows.eventChecksRow.laid W) (hSh : W.ShapedOpen Tryz.prog) :
    Calls Tryz.prog 7 args W fun e W' => ∃ v, e = .returned v ∧ Rows.eventChecksSpec.post enc Tryz.prog Tryz.f7 false true false false W args v W' := by
  have hW' := hW
  obtain ⟨p, q, hA0, hV, rfl, hfz, hnd⟩ := hW
  have hA : DataW.TrodAll enc Tryz.prog W 0 (fun _ => true) true Tryz.f7.params.toList args.toList ds p := hA0
  rw [Tryz.params7] at hA hval
  obtain ⟨v0, vs0, d0, ds0, p0, q0, hargs, rfl, rfl, h0, r0⟩ := trodAll_cons hA
  obtain ⟨rfl, rfl, rfl⟩ := trodAll_nil r0
  obtain rfl : args = #[v0] := by cases args; simp_all
  obtain ⟨rfl, rfl⟩ := trodVars_none hV
  obtain ⟨A, L, cp, rfl, hrd, hsh⟩ := open_nums Tryz.underlying22 Tryz.underlying3 one3 (hval 0 22 v0 rfl rfl) h0
  clear hA0
  simp only [List.append_nil] at hW'
  obtain ⟨mx, hmx⟩ := Tryz.laysM144.s1_3 W hSh
  have hg := glAt_X (L := L) (ST := 25) (tabs_of_list hL (by simp [Rows.eventChecksRow]) (by simp [Rows.eventChecksRow])) (lies hmx hL)
  refine (ec_walk (ng_of_shaped hSh) hrd hg (fun cx h => utf8_of_globX rfl h) rfl rfl rfl rfl).mono fun e W' ⟨he, hbl⟩ => ?_
  subst he
  refine ⟨_, rfl, post_of_below (pa := p0) (pv := []) hW' (fun _ _ _ => trodAll_cons_mk (shut_bool Tryz.underlying4 _) trodAll_mk0)
    (fun sp hsp => ?_) (fun _ _ => rfl) (List.append_nil _).symm hbl (ok_one (by kernel_rfl) rfl (okWide_bool_mk Tryz.underlying4 _))⟩
  have := trodAll_cons_mk (hsh W' hbl sp hsp) (trodAll_mk0 (w := W') (base := 0) (spare := sp) (held := true) (enc := enc))
  rw [List.append_nil] at this
  exact this
theorem reads (os : Os) {H : Type} (enc : TypeId × Value → H) : ∃ places, DataW.whole enc Tryz.prog ((worldF os).forCall (fun _ _ => 0) ⟨#[], #[.slice none 0 0], []⟩).memory Tryz.f7.params.toList Rows.eventChecksSpec.vars false #[Value.slice none 0 0].toList 8 = some ([.nil], [], places) :=
  ⟨[], by kernel_rfl⟩
theorem lifted (os : Os) (started : os.Started) (H : Type) (enc : TypeId × Value → H) (F : Stop.Interp) :
    ReturnsInHanded {} Tryz.checked os 7 .any ((OpenSpec.ofChange Rows.eventChecksSpec).preRow enc Tryz.prog Tryz.f7 Rows.eventChecksRow.domain false Rows.eventChecksRow.laid) (((OpenSpec.ofChange Rows.eventChecksSpec).at F).post enc Tryz.prog Tryz.f7 false true false false) := by
  obtain ⟨places, hx⟩ := reads os enc
  refine returnsInHanded_of_row (C := Tryz.checked) (s := OpenSpec.ofChange Rows.eventChecksSpec) own started (by kernel_rfl) Tryz.func7
    (witness_row_at (enc := enc) (C := Tryz.checked) false (worldF os) #[.slice none 0 0] rfl (by kernel_rfl) (by kernel_rfl) (by kernel_rfl)
      (OpenSpec.preRow_of_cond 8 hx (by kernel_rfl) (fun k hk => by cases hk) (by kernel_rfl) (metF os _))) ?_
  intro W base args ds gs before hval hW _ _ _ hL hSh _
  exact contract H enc W base args ds gs before hval hW hL hSh
theorem said : Rows.EventChecksSaid :=
  OpenClaim.holds_of_cond 7 Tryz.f7 rfl rfl rfl rfl rfl rfl rfl ⟨rfl, rfl, rfl, rfl, rfl⟩ rfl rfl rfl rfl rfl (by kernel_rfl) Tryz.func7 (by kernel_rfl)
    (of_decide_eq_true (by kernel_rfl)) (by unfold Func.isWrapper; first | (rw [if_pos (by decide +kernel)]; kernel_rfl) | (rw [if_neg (by decide +kernel)]; exact ⟨rfl, rfl⟩))
    (fun os started H enc _ F => by rw [OpenClaim.pre_eq_preRow]; exact lifted os started H enc F)
theorem plain (f : FuncId) (fn : Func) (hf : Tryz.pinned.checked.prog.funcNamed "handbill/handlaw2.EventChecks" = some f) (hfn : Tryz.pinned.checked.prog.funcs[f]? = some fn) :
    false = Tryz.pinned.checked.prog.looks [] ∧ ∀ (j : Nat) t, fn.params[j]? = some t → Tryz.pinned.checked.prog.wantsStandIn t = false := by
  obtain rfl : f = 7 := Option.some.inj ((show Tryz.prog.funcNamed "handbill/handlaw2.EventChecks" = some 7 by kernel_rfl).symm.trans hf) |>.symm
  obtain rfl : fn = Tryz.f7 := (Option.some.inj (Tryz.func7.symm.trans hfn)).symm
  refine ⟨by kernel_rfl, fun j t ht => ?_⟩
  rw [Tryz.params7] at ht
  obtain rfl : t = 22 := by simpa using Array.mem_of_getElem? ht
  exact (show Tryz.prog.wantsStandIn 22 = false by kernel_rfl)
theorem card : Rows.EventChecksCardSaid :=
  Claim7.holds_tied_plain_at .later [] _ _ _ _ said (fun _ h => by cases h) (by kernel_rfl) (fun _ h => by cases h) eventChecks_row_tie rfl ⟨rfl, rfl⟩ (by kernel_rfl) rfl plain (by kernel_rfl)
end Go.Proofs.YtkkcjnimbejalaaGreatDoor.eventChecks
