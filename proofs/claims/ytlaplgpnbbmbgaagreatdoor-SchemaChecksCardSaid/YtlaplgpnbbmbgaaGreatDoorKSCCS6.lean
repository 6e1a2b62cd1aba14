/- SchemaChecks returns true for every slice of numbers, and leaves it as it was; the two tables of unicode/utf8, the pool of ids and the names of fields and of events, which its row lists, lie as the program lays them. -/
import Derived.Test.YtlaplgpnbbmbgaaGreatDoorCards
import Derived.Test.YtlaplgpnbbmbgaaGreatDoorTie
import Derived.WalkKit
import Derived.ProofKit
import Derived.OpenShut
import Derived.Deep.DeepHandedRow
import Derived.Test.YtlaplgpnbbmbgaaGreatDoorKSCCS1
import Derived.Test.YtlaplgpnbbmbgaaGreatDoorKSCCS2
import Derived.Test.YtlaplgpnbbmbgaaGreatDoorKSCCS3
import Derived.Test.YtlaplgpnbbmbgaaGreatDoorKSCCS4
import Derived.Test.YtlaplgpnbbmbgaaGreatDoorKSCCS5
/- The generators of schemas and events: their contracts. No condition. -/
set_option linter.unusedVariables false
set_option linter.unusedSimpArgs false
set_option maxRecDepth 100000
namespace Go.Avc
open Go Go.Proofs

def evNamesL : List ByteArray := [⟨#[98, 117, 121]⟩, ⟨#[111, 112, 101, 110]⟩, ⟨#[113, 117, 105, 116]⟩, ⟨#[118, 105, 101, 119]⟩]
def evNamesD : List D := evNamesL.map D.str
theorem evNamesD_len : evNamesD.length = 4 := rfl
theorem evNames_ok (n : Nat) : okS (evNamesL.getD n ⟨#[]⟩) := okS_of (all_get (p := fun s : ByteArray => s.size ≤ 1000) (fun x hx => by simpa using List.all_eq_true.1 (show evNamesL.all (fun y => decide (y.size ≤ 1000)) = true by decide) x hx) (by decide) n)
theorem evNames_drop (n : Nat) : (evNamesD.drop (n * 1)).headD (.str ⟨#[]⟩) = .str (evNamesL.getD n ⟨#[]⟩) := by
  rw [Nat.mul_one]
  match n with
  | 0 => rfl
  | 1 => rfl
  | 2 => rfl
  | 3 => rfl
  | n + 4 =>
    have h1 : evNamesD.drop (n + 4) = [] := List.drop_eq_nil_of_le (by show 4 ≤ n + 4; omega)
    have h2 : evNamesL.getD (n + 4) ⟨#[]⟩ = ⟨#[]⟩ := by
      rw [List.getD_eq_getElem?_getD, List.getElem?_eq_none (by show 4 ≤ n + 4; omega)]
      rfl
    rw [h1, h2]
    rfl
theorem evNames_get (n : Nat) : evNamesD.getD n (.str ⟨#[]⟩) = .str (evNamesL.getD n ⟨#[]⟩) := by
  have h := evNames_drop n
  rw [Nat.mul_one, List.headD_eq_head?_getD, List.head?_drop] at h
  rw [List.getD_eq_getElem?_getD]
  exact h
def eventG : Spec where
  pre xs := ∃ (s : ByteArray) (m : Int), xs = [.st, .str s, .i m] ∧ okS s ∧ okI m
  post xs y := ∃ (s : ByteArray) (m : Int) (e : TEvent), xs = [.st, .str s, .i m] ∧ e.ok ∧ y = .dv (.ag e.row)
  cost _ := 80
  fresh := false
set_option maxHeartbeats 16000000 in
theorem Event_ctr {cx : Cx} (h : Seat cx) (hN : cx.glob 1 = some namesD) (hI : cx.glob 2 = some poolD) (hE : cx.glob 0 = some evNamesD) : Ctr cx 59 eventG := by
  refine ctr_of (fn := Tryz.f59) (l := [.cell 6 49]) (envL [(11, nextS), (45, flipS), (46, oneS), (47, oddS), (105, fieldsG), (72, (idG 5))]) [0, 1, 2, 6, 7, 22, 24, 28, 34, 40] [11] [(1, [13], [])] (envL_cons (next_ctr cx h.hP h.hS) (envL_cons (flip_ctr cx h.hP h.hS) (envL_cons (one_ctr h) (envL_cons (odd_ctr h) (envL_cons (Fields_ctr h hN) (envL_cons (SpoiledId_ctr h hI) (env0 h.hP))))))) ?_ (by rw [h.hP]; exact Tryz.func59) rfl (by kernel_rfl) rfl ?_ ?_
  · rw [h.hP]; exact ⟨_, Tryz.func59, by kernel_rfl, by kernel_rfl⟩
  · rintro xs ⟨s, m, rfl, h1⟩; exact ⟨_, s, m, TEvent.z, rfl, TEvent.z_ok, rfl⟩
  · rintro xs ⟨s, m, rfl, h1, h2⟩
    refine ⟨by rw [Tryz.ntmps59]; simp, ?_⟩
    simp only [go_sem, h.hP, List.cons_append, List.nil_append, Meets_e, Below_e, Prod.exists, exists_eq, exists_eq_left, exists_eq_left', exists_eq_right, exists_eq_right', exists_and_left, exists_and_right, Ob.arr.injEq, AV.own.injEq, AV.fv.injEq, eventG, nextS_q, nextS_p, nextS_c, nextS_f, hI, hE, evNames_drop, intsDi_inj, TField.rows_inj, Tryz.ntmps59, Nat.reduceEqDiff, reduceCtorEq, Nat.reduceMul, Nat.reduceAdd, Nat.reduceSub, Nat.reduceDiv, Nat.reduceMod, Nat.reduceLeDiff, Nat.reduceLT, Nat.reduceBNe, Nat.reduceBEq, reduceIte, Int.reduceLE, Int.reduceLT, Int.reduceToNat, Int.reduceNeg, Int.reduceAdd, Int.reduceSub, Int.reduceMul, Int.reduceEq]
    intro a a0 a1
    refine ⟨a0, by omega, ?_, fun b b0 b1 => ?_⟩
    · have h4 : a.toNat < 4 := by omega
      generalize a.toNat = n at h4
      match n, h4 with
      | 0, _ => exact fun e => by cases e
      | 1, _ => exact fun e => by cases e
      | 2, _ => exact fun e => by cases e
      | 3, _ => exact fun e => by cases e
    rw [pool_at b b0 (by omega)]
    simp only [go_sem, h.hP, List.cons_append, List.nil_append, Meets_e, Below_e, Prod.exists, exists_eq, exists_eq_left, exists_eq_left', exists_eq_right, exists_eq_right', exists_and_left, exists_and_right, Ob.arr.injEq, AV.own.injEq, AV.fv.injEq, fieldsG, Tryz.ntmps59, Nat.reduceEqDiff, reduceCtorEq, Nat.reduceMul, Nat.reduceAdd, Nat.reduceSub, Nat.reduceDiv, Nat.reduceMod, Nat.reduceLeDiff, Nat.reduceLT, Nat.reduceBNe, Nat.reduceBEq, reduceIte, Int.reduceLE, Int.reduceLT, Int.reduceToNat, Int.reduceNeg, Int.reduceAdd, Int.reduceSub, Int.reduceMul, Int.reduceEq]
    have hp := pool_ok b.toNat
    have hn := evNames_ok a.toNat
    refine ⟨b0, by omega, ?_, fun l l7 lo => ?_⟩
    · rw [List.length_drop, poolD_len]
      omega
    refine vc_cutT (TEvent) (fun (e : TEvent) => [(22, .un), (24, .un), (28, .un), (34, .un), (40, .un)]) [6] (fun (e : TEvent) => []) (fun (e : TEvent) => [(7, .box 49 [.str e.id, .str e.name, .i e.at_, .i e.who.kind, .str e.who.text, .sl (TField.rows e.fields)])]) (fun (e : TEvent) => 75) (fun (e : TEvent) => e.ok) [] ?_ ?_ ?_
    · rfl
    · simp only [go_sem, h.hP, List.cons_append, List.nil_append, Meets_e, Below_e, Prod.exists, exists_eq, exists_eq_left, exists_eq_left', exists_eq_right, exists_eq_right', exists_and_left, exists_and_right, Ob.arr.injEq, AV.own.injEq, AV.fv.injEq, flipS_q, flipS_p, flipS_c, flipS_f, nextS_q, nextS_p, nextS_c, nextS_f, oneS_q, oneS_p, oneS_c, oneS_f, oddS_q, oddS_p, oddS_c, oddS_f, idG, strs1, strsc, TId.row, TField.rows_inj, TEvent.ex, TId.ex, Tryz.ntmps59, Nat.reduceEqDiff, reduceCtorEq, Nat.reduceMul, Nat.reduceAdd, Nat.reduceSub, Nat.reduceDiv, Nat.reduceMod, Nat.reduceLeDiff, Nat.reduceLT, Nat.reduceBNe, Nat.reduceBEq, reduceIte, Int.reduceLE, Int.reduceLT, Int.reduceToNat, Int.reduceNeg, Int.reduceAdd, Int.reduceSub, Int.reduceMul, Int.reduceEq]
      have hf : okL TField.ok l := ⟨by omega, lo⟩
      exact fun c => ⟨fun _ q q0 q4 => ⟨fun _ u hu => ⟨okS_of (isOf_ok hu (by decide)), hn, h2, hp.1, hf⟩, fun _ => ⟨fun _ u hu => ⟨h1, okS_of (isOf_ok hu (by decide)), h2, hp.1, hf⟩, fun _ => ⟨fun _ r r1 r2 => ⟨h1, hn, odd_ok r1 r2, hp.1, hf⟩, fun _ r u hu => ⟨h1, hn, h2, hu, hf⟩⟩⟩⟩, fun _ => ⟨h1, hn, h2, hp.1, hf⟩⟩
    · rintro e he
      simp only [go_sem, h.hP, List.cons_append, List.nil_append, Meets_e, Below_e, Prod.exists, exists_eq, exists_eq_left, exists_eq_left', exists_eq_right, exists_eq_right', exists_and_left, exists_and_right, Ob.arr.injEq, AV.own.injEq, AV.fv.injEq, eventG, TEvent.row, TEvent.ex, TId.ex, TField.rows_inj, Tryz.ntmps59, Nat.reduceEqDiff, reduceCtorEq, Nat.reduceMul, Nat.reduceAdd, Nat.reduceSub, Nat.reduceDiv, Nat.reduceMod, Nat.reduceLeDiff, Nat.reduceLT, Nat.reduceBNe, Nat.reduceBEq, reduceIte, Int.reduceLE, Int.reduceLT, Int.reduceToNat, Int.reduceNeg, Int.reduceAdd, Int.reduceSub, Int.reduceMul, Int.reduceEq]
      exact ⟨_, _, _, _, _, _, he, rfl, rfl, rfl, rfl, rfl, rfl⟩
theorem okV_t {k : Int} (h : okI k) : (⟨k, ⟨#[116]⟩, 0⟩ : TValue).ok := ⟨h, okS_of (by show (1 : Nat) ≤ 1000; decide), okI_z⟩
theorem okV_n {k n : Int} (h : okI k) (h0 : 0 ≤ n) (h1 : n < 2) : (⟨k, ⟨#[]⟩, n⟩ : TValue).ok := ⟨h, okS_z, (⟨by omega, by omega⟩ : okI n)⟩
theorem okN {s : ByteArray} {k : Int} {m : Bool} (h : okS s) (h1 : 1 ≤ k) (h4 : k ≤ 4) : TNeed.ok ⟨s, k, m⟩ := ⟨h, by show okI k; exact ⟨by omega, by omega⟩⟩
theorem okSch2 {a x y : ByteArray} {k : Int} (h1 : okS a) (h2 : okS x) (h3 : okI k) (h4 : okS y) : TSchema.ok ⟨a, [⟨x, k, false⟩, ⟨y, 1, false⟩]⟩ := ⟨h1, by show (2 : Nat) ≤ 1048576; decide, fun c hc => by
  rcases List.mem_cons.1 hc with rfl | hc
  · exact ⟨h2, h3⟩
  · rw [List.mem_singleton] at hc
    subst hc
    exact ⟨h4, (⟨by decide, by decide⟩ : okI 1)⟩⟩
theorem evNames_take : evNamesD.take 4 = evNamesD := rfl
def eventForG : Spec where
  pre xs := ∃ (l : List TSchema) (s : ByteArray) (m : Int), xs = [.st, .sl (TSchema.rows l), .str s, .i m] ∧ okL TSchema.ok l ∧ okS s ∧ okI m
  post xs y := ∃ (l : List TSchema) (s : ByteArray) (m : Int) (e : TEvent), xs = [.st, .sl (TSchema.rows l), .str s, .i m] ∧ e.ok ∧ y = .dv (.ag e.row)
  cost _ := 40000000
  fresh := false
set_option maxHeartbeats 16000000 in
theorem EventFor_ctr {cx : Cx} (h : Seat cx) (hN : cx.glob 1 = some namesD) (hI : cx.glob 2 = some poolD) (hE : cx.glob 0 = some evNamesD) : Ctr cx 24 eventForG := by
  refine ctr_of (fn := Tryz.f24) (l := [.cell 8 49]) (envL [(11, nextS), (45, flipS), (59, eventG), (60, valueG)]) [0, 1, 2, 3, 8, 9, 10, 12, 13, 24, 38, 39, 40, 41, 54, 66, 74] [15, 17] [] (envL_cons (next_ctr cx h.hP h.hS) (envL_cons (flip_ctr cx h.hP h.hS) (envL_cons (Event_ctr h hN hI hE) (envL_cons (Value_ctr h) (env0 h.hP))))) ?_ (by rw [h.hP]; exact Tryz.func24) rfl (by kernel_rfl) rfl ?_ ?_
  · rw [h.hP]; exact ⟨_, Tryz.func24, by kernel_rfl, by kernel_rfl⟩
  · rintro xs ⟨l, s, m, rfl, h1⟩; exact ⟨_, l, s, m, TEvent.z, rfl, TEvent.z_ok, rfl⟩
  · rintro xs ⟨l, s, m, rfl, h1, h2, h3⟩
    refine ⟨by rw [Tryz.ntmps24]; simp, ?_⟩
    simp only [go_sem, h.hP, List.cons_append, List.nil_append, Meets_e, Below_e, Prod.exists, exists_eq, exists_eq_left, exists_eq_left', exists_eq_right, exists_eq_right', exists_and_left, exists_and_right, Ob.arr.injEq, AV.own.injEq, AV.fv.injEq, eventForG, eventG, nextS_q, nextS_p, nextS_c, nextS_f, flipS_q, flipS_p, flipS_c, flipS_f, TEvent.row, TSchema.row, TSchema.rows_inj, TSchema.len, TSchema.get, TNeed.len, Tryz.ntmps24, Nat.reduceEqDiff, reduceCtorEq, Nat.reduceMul, Nat.reduceAdd, Nat.reduceSub, Nat.reduceDiv, Nat.reduceMod, Nat.reduceLeDiff, Nat.reduceLT, Nat.reduceBNe, Nat.reduceBEq, reduceIte, Int.reduceLE, Int.reduceLT, Int.reduceToNat, Int.reduceNeg, Int.reduceAdd, Int.reduceSub, Int.reduceMul, Int.reduceEq]
    refine ⟨h2, h3, fun e he => ⟨fun c b => ⟨fun _ => ⟨e, he, rfl, rfl, rfl, rfl, rfl, rfl⟩, fun _ => ⟨by have := h1.1; omega, fun n n1 n2 => ⟨by omega, by omega, ?_⟩⟩⟩, fun _ => ⟨e, he, rfl, rfl, rfl, rfl, rfl, rfl⟩⟩⟩
    have hv : (l.getD n.toNat TSchema.z).ok := okL_get h1 TSchema.z_ok _
    generalize l.getD n.toNat TSchema.z = v at hv
    obtain ⟨v1, v2⟩ := hv
    have vl := v2.1
    refine vc_cutS (TEvent) (fun (e : TEvent) => [(40, .un), (41, .un), (54, .un), (66, .un), (74, .un)]) [8] (fun (e : TEvent) => []) (fun (e : TEvent) => [(9, .box 49 [.str e.id, .str e.name, .i e.at_, .i e.who.kind, .str e.who.text, .sl (TField.rows e.fields)])]) (fun (e : TEvent) => 39000000) (fun (e : TEvent) => e.ok) [] ?_ ?_ ?_
    · rfl
    · simp only [go_sem, h.hP, Tryz.ntmps24, Nat.reduceEqDiff, reduceCtorEq, Nat.reduceMul, Nat.reduceAdd, Nat.reduceSub, Nat.reduceDiv, Nat.reduceMod, Nat.reduceLeDiff, Nat.reduceLT, Nat.reduceBNe, Nat.reduceBEq, reduceIte, Int.reduceLE, Int.reduceLT, Int.reduceToNat, Int.reduceNeg, Int.reduceAdd, Int.reduceSub, Int.reduceMul, Int.reduceEq]
      refine vc_loopS (Int × List TField) (fun (x : Int × List TField) => match x with | (i, fs) => [(40, .i i)]) [8, 9, 10] (fun (x : Int × List TField) => match x with | (i, fs) => [(9, 5, .own 10905)]) (fun (x : Int × List TField) => match x with | (i, fs) => [(10905, .arr 98 4 (TField.rows fs))]) (fun (x : Int × List TField) => match x with | (i, fs) => 100 + 30 * i.toNat) (fun (x : Int × List TField) => match x with | (i, fs) => 0 ≤ i ∧ i ≤ v.needs.length ∧ (fs.length : Int) ≤ i ∧ ∀ c ∈ fs, c.ok) (fun (x : Int × List TField) => match x with | (i, fs) => (v.needs.length - i).toNat) [(10905, 98, 4)] ?_ ?_
      · simp only [go_sem, h.hP, List.cons_append, List.nil_append, Meets_e, Below_e, Prod.exists, exists_eq, exists_eq_left, exists_eq_left', exists_eq_right, exists_eq_right', exists_and_left, exists_and_right, Ob.arr.injEq, AV.own.injEq, AV.fv.injEq, TField.nil2, Tryz.ntmps24, Nat.reduceEqDiff, reduceCtorEq, Nat.reduceMul, Nat.reduceAdd, Nat.reduceSub, Nat.reduceDiv, Nat.reduceMod, Nat.reduceLeDiff, Nat.reduceLT, Nat.reduceBNe, Nat.reduceBEq, reduceIte, Int.reduceLE, Int.reduceLT, Int.reduceToNat, Int.reduceNeg, Int.reduceAdd, Int.reduceSub, Int.reduceMul, Int.reduceEq]
        exact ⟨by omega, by decide⟩
      · rintro ⟨i, fs⟩ ⟨i0, i1, i2, i3⟩
        have hw : i < v.needs.length → IntKind.i64.wrap (i + 1) = i + 1 := fun _ => i64w (by omega) (by omega)
        have hy : (v.needs.getD i.toNat TNeed.z).ok := okL_get v2 TNeed.z_ok _
        simp only [go_sem, h.hP, List.cons_append, List.nil_append, Meets_e, Below_e, Prod.exists, exists_eq, exists_eq_left, exists_eq_left', exists_eq_right, exists_eq_right', exists_and_left, exists_and_right, Ob.arr.injEq, AV.own.injEq, AV.fv.injEq, eventForG, valueG, nextS_q, nextS_p, nextS_c, nextS_f, flipS_q, flipS_p, flipS_c, flipS_f, TValue.row, TNeed.len, TNeed.get, TNeed.row, TField.rows_inj, Tryz.ntmps24, Nat.reduceEqDiff, reduceCtorEq, Nat.reduceMul, Nat.reduceAdd, Nat.reduceSub, Nat.reduceDiv, Nat.reduceMod, Nat.reduceLeDiff, Nat.reduceLT, Nat.reduceBNe, Nat.reduceBEq, reduceIte, Int.reduceLE, Int.reduceLT, Int.reduceToNat, Int.reduceNeg, Int.reduceAdd, Int.reduceSub, Int.reduceMul, Int.reduceEq]
        generalize v.needs.getD i.toNat TNeed.z = y at hy ⊢
        have b0 : 100 + 30 * i.toNat ≤ 39999992 := by omega
        have b1 : 100 + 30 * i.toNat ≤ 39999993 := by omega
        have b2 : 100 + 30 * i.toNat ≤ 39999998 := by omega
        have b3 : 100 + 30 * i.toNat ≤ 39999999 := by omega
        have b4 : 100 + 30 * i.toNat ≤ 40000000 := by omega
        simp only [b0, b1, b2, b3, b4, true_and]
        refine ⟨fun q => ⟨i0, q, fun mu f15 => ⟨fun _ f2 => ⟨fun _ u hu => ?_, fun _ => ?_⟩, fun _ u hu => ?_⟩, fun mu f2 => ⟨fun _ u hu => ?_, fun _ => ?_⟩⟩, fun q => ?_⟩
        · skip
          refine vc_cutS (TValue) (fun (u : TValue) => [(66, .un), (74, .un)]) [8, 9, 10, 12, 10905] (fun (u : TValue) => []) (fun (u : TValue) => [(13, .box 95 [.i u.kind, .str u.text, .i u.number])]) (fun (u : TValue) => 100 + 30 * i.toNat + 25) (fun (u : TValue) => u.ok) [] ?_ ?_ ?_
          · rfl
          · simp only [go_sem, h.hP, List.cons_append, List.nil_append, Meets_e, Below_e, Prod.exists, exists_eq, exists_eq_left, exists_eq_left', exists_eq_right, exists_eq_right', exists_and_left, exists_and_right, Ob.arr.injEq, AV.own.injEq, AV.fv.injEq, nextS_q, nextS_p, nextS_c, nextS_f, flipS_q, flipS_p, flipS_c, flipS_f, TValue.row, TValue.ex, Tryz.ntmps24, Nat.reduceEqDiff, reduceCtorEq, Nat.reduceMul, Nat.reduceAdd, Nat.reduceSub, Nat.reduceDiv, Nat.reduceMod, Nat.reduceLeDiff, Nat.reduceLT, Nat.reduceBNe, Nat.reduceBEq, reduceIte, Int.reduceLE, Int.reduceLT, Int.reduceToNat, Int.reduceNeg, Int.reduceAdd, Int.reduceSub, Int.reduceMul, Int.reduceEq]
            ((repeat' (first | with_reducible apply And.intro | with_reducible intro)) <;> first | omega | exact hu | exact okV_t hy.2 | exact okV_n hy.2 (by assumption) (by assumption))
          · rintro u hu
            simp only [go_sem, h.hP, List.cons_append, List.nil_append, Meets_e, Below_e, Prod.exists, exists_eq, exists_eq_left, exists_eq_left', exists_eq_right, exists_eq_right', exists_and_left, exists_and_right, Ob.arr.injEq, AV.own.injEq, AV.fv.injEq, eventForG, TField.fold1, TField.app', TField.rows_inj, TField.zlT, TField.len, List.length_append, List.length_singleton, Tryz.ntmps24, Nat.reduceEqDiff, reduceCtorEq, Nat.reduceMul, Nat.reduceAdd, Nat.reduceSub, Nat.reduceDiv, Nat.reduceMod, Nat.reduceLeDiff, Nat.reduceLT, Nat.reduceBNe, Nat.reduceBEq, reduceIte, Int.reduceLE, Int.reduceLT, Int.reduceToNat, Int.reduceNeg, Int.reduceAdd, Int.reduceSub, Int.reduceMul, Int.reduceEq]
            rw [hw q]
            ((repeat' (first | with_reducible apply And.intro | with_reducible intro)) <;> first | omega | exact okL_mem (by assumption) i3 ⟨hy.1, hu⟩)
        · rw [hw q]
          exact ⟨by omega, by omega, by omega, by omega, i3, by omega⟩
        · skip
          refine vc_cutS (TValue) (fun (u : TValue) => [(66, .un), (74, .un)]) [8, 9, 10, 12, 10905] (fun (u : TValue) => []) (fun (u : TValue) => [(13, .box 95 [.i u.kind, .str u.text, .i u.number])]) (fun (u : TValue) => 100 + 30 * i.toNat + 25) (fun (u : TValue) => u.ok) [] ?_ ?_ ?_
          · rfl
          · simp only [go_sem, h.hP, List.cons_append, List.nil_append, Meets_e, Below_e, Prod.exists, exists_eq, exists_eq_left, exists_eq_left', exists_eq_right, exists_eq_right', exists_and_left, exists_and_right, Ob.arr.injEq, AV.own.injEq, AV.fv.injEq, nextS_q, nextS_p, nextS_c, nextS_f, flipS_q, flipS_p, flipS_c, flipS_f, TValue.row, TValue.ex, Tryz.ntmps24, Nat.reduceEqDiff, reduceCtorEq, Nat.reduceMul, Nat.reduceAdd, Nat.reduceSub, Nat.reduceDiv, Nat.reduceMod, Nat.reduceLeDiff, Nat.reduceLT, Nat.reduceBNe, Nat.reduceBEq, reduceIte, Int.reduceLE, Int.reduceLT, Int.reduceToNat, Int.reduceNeg, Int.reduceAdd, Int.reduceSub, Int.reduceMul, Int.reduceEq]
            ((repeat' (first | with_reducible apply And.intro | with_reducible intro)) <;> first | omega | exact hu | exact okV_t hy.2 | exact okV_n hy.2 (by assumption) (by assumption))
          · rintro u hu
            simp only [go_sem, h.hP, List.cons_append, List.nil_append, Meets_e, Below_e, Prod.exists, exists_eq, exists_eq_left, exists_eq_left', exists_eq_right, exists_eq_right', exists_and_left, exists_and_right, Ob.arr.injEq, AV.own.injEq, AV.fv.injEq, eventForG, TField.fold1, TField.app', TField.rows_inj, TField.zlT, TField.len, List.length_append, List.length_singleton, Tryz.ntmps24, Nat.reduceEqDiff, reduceCtorEq, Nat.reduceMul, Nat.reduceAdd, Nat.reduceSub, Nat.reduceDiv, Nat.reduceMod, Nat.reduceLeDiff, Nat.reduceLT, Nat.reduceBNe, Nat.reduceBEq, reduceIte, Int.reduceLE, Int.reduceLT, Int.reduceToNat, Int.reduceNeg, Int.reduceAdd, Int.reduceSub, Int.reduceMul, Int.reduceEq]
            rw [hw q]
            ((repeat' (first | with_reducible apply And.intro | with_reducible intro)) <;> first | omega | exact okL_mem (by assumption) i3 ⟨hy.1, hu⟩)
        · skip
          refine vc_cutS (TValue) (fun (u : TValue) => [(66, .un), (74, .un)]) [8, 9, 10, 12, 10905] (fun (u : TValue) => []) (fun (u : TValue) => [(13, .box 95 [.i u.kind, .str u.text, .i u.number])]) (fun (u : TValue) => 100 + 30 * i.toNat + 25) (fun (u : TValue) => u.ok) [] ?_ ?_ ?_
          · rfl
          · simp only [go_sem, h.hP, List.cons_append, List.nil_append, Meets_e, Below_e, Prod.exists, exists_eq, exists_eq_left, exists_eq_left', exists_eq_right, exists_eq_right', exists_and_left, exists_and_right, Ob.arr.injEq, AV.own.injEq, AV.fv.injEq, nextS_q, nextS_p, nextS_c, nextS_f, flipS_q, flipS_p, flipS_c, flipS_f, TValue.row, TValue.ex, Tryz.ntmps24, Nat.reduceEqDiff, reduceCtorEq, Nat.reduceMul, Nat.reduceAdd, Nat.reduceSub, Nat.reduceDiv, Nat.reduceMod, Nat.reduceLeDiff, Nat.reduceLT, Nat.reduceBNe, Nat.reduceBEq, reduceIte, Int.reduceLE, Int.reduceLT, Int.reduceToNat, Int.reduceNeg, Int.reduceAdd, Int.reduceSub, Int.reduceMul, Int.reduceEq]
            ((repeat' (first | with_reducible apply And.intro | with_reducible intro)) <;> first | omega | exact hu | exact okV_t hy.2 | exact okV_n hy.2 (by assumption) (by assumption))
          · rintro u hu
            simp only [go_sem, h.hP, List.cons_append, List.nil_append, Meets_e, Below_e, Prod.exists, exists_eq, exists_eq_left, exists_eq_left', exists_eq_right, exists_eq_right', exists_and_left, exists_and_right, Ob.arr.injEq, AV.own.injEq, AV.fv.injEq, eventForG, TField.fold1, TField.app', TField.rows_inj, TField.zlT, TField.len, List.length_append, List.length_singleton, Tryz.ntmps24, Nat.reduceEqDiff, reduceCtorEq, Nat.reduceMul, Nat.reduceAdd, Nat.reduceSub, Nat.reduceDiv, Nat.reduceMod, Nat.reduceLeDiff, Nat.reduceLT, Nat.reduceBNe, Nat.reduceBEq, reduceIte, Int.reduceLE, Int.reduceLT, Int.reduceToNat, Int.reduceNeg, Int.reduceAdd, Int.reduceSub, Int.reduceMul, Int.reduceEq]
            rw [hw q]
            ((repeat' (first | with_reducible apply And.intro | with_reducible intro)) <;> first | omega | exact okL_mem (by assumption) i3 ⟨hy.1, hu⟩)
        · rw [hw q]
          exact ⟨by omega, by omega, by omega, by omega, i3, by omega⟩
        · exact ⟨⟨e.id, v.name, e.at_, e.who, fs⟩, rfl, rfl, rfl, rfl, rfl, rfl, by omega, he.1, v1, he.2.2.1, he.2.2.2.1, (⟨by omega, i3⟩ : okL TField.ok fs)⟩
    · rintro e he
      simp only [go_sem, h.hP, List.cons_append, List.nil_append, Meets_e, Below_e, Prod.exists, exists_eq, exists_eq_left, exists_eq_left', exists_eq_right, exists_eq_right', exists_and_left, exists_and_right, Ob.arr.injEq, AV.own.injEq, AV.fv.injEq, eventForG, TEvent.row, TField.rows_inj, Tryz.ntmps24, Nat.reduceEqDiff, reduceCtorEq, Nat.reduceMul, Nat.reduceAdd, Nat.reduceSub, Nat.reduceDiv, Nat.reduceMod, Nat.reduceLeDiff, Nat.reduceLT, Nat.reduceBNe, Nat.reduceBEq, reduceIte, Int.reduceLE, Int.reduceLT, Int.reduceToNat, Int.reduceNeg, Int.reduceAdd, Int.reduceSub, Int.reduceMul, Int.reduceEq]
      exact ⟨e, he, rfl, rfl, rfl, rfl, rfl, rfl⟩
def schemasG : Spec where
  pre xs := xs = [.st]
  post xs y := ∃ l : List TSchema, okL TSchema.ok l ∧ y = .sl (TSchema.rows l)
  cost _ := 200
  fresh := false
set_option maxHeartbeats 16000000 in
theorem Schemas_ctr {cx : Cx} (h : Seat cx) (hN : cx.glob 1 = some namesD) (hE : cx.glob 0 = some evNamesD) : Ctr cx 23 schemasG := by
  refine ctr_of (fn := Tryz.f23) (l := [.tmp 2]) (envL [(45, flipS), (25, rangeS), (46, oneS), (47, oddS)]) [0, 2, 3, 5, 6, 8, 9, 10, 11, 14, 17, 18, 19, 22, 41] [13] [] (envL_cons (flip_ctr cx h.hP h.hS) (envL_cons (range_ctr cx h.hP h.hS) (envL_cons (one_ctr h) (envL_cons (odd_ctr h) (env0 h.hP))))) ?_ (by rw [h.hP]; exact Tryz.func23) rfl (by kernel_rfl) rfl ?_ ?_
  · rw [h.hP]; exact ⟨_, Tryz.func23, by kernel_rfl, by kernel_rfl⟩
  · rintro xs rfl; exact ⟨_, [], okL_z _, rfl⟩
  · rintro xs rfl
    refine ⟨by rw [Tryz.ntmps23]; simp, ?_⟩
    simp only [go_sem, h.hP, List.cons_append, List.nil_append, Meets_e, Below_e, Prod.exists, exists_eq, exists_eq_left, exists_eq_left', exists_eq_right, exists_eq_right', exists_and_left, exists_and_right, Ob.arr.injEq, AV.own.injEq, AV.fv.injEq, schemasG, hN, hE, Tryz.ntmps23, Nat.reduceEqDiff, reduceCtorEq, Nat.reduceMul, Nat.reduceAdd, Nat.reduceSub, Nat.reduceDiv, Nat.reduceMod, Nat.reduceLeDiff, Nat.reduceLT, Nat.reduceBNe, Nat.reduceBEq, reduceIte, Int.reduceLE, Int.reduceLT, Int.reduceToNat, Int.reduceNeg, Int.reduceAdd, Int.reduceSub, Int.reduceMul, Int.reduceEq]
    refine ⟨by decide, ?_⟩
    refine vc_loopS (Int × List TSchema) (fun (x : Int × List TSchema) => match x with | (i, o) => [(3, .own 3), (10, .i i)]) [] (fun (x : Int × List TSchema) => match x with | (i, o) => []) (fun (x : Int × List TSchema) => match x with | (i, o) => [(3, .arr 89 2 (TSchema.rows o))]) (fun (x : Int × List TSchema) => match x with | (i, o) => 30 * i.toNat) (fun (x : Int × List TSchema) => match x with | (i, o) => 0 ≤ i ∧ i ≤ 4 ∧ (o.length : Int) ≤ i ∧ ∀ c ∈ o, c.ok) (fun (x : Int × List TSchema) => match x with | (i, o) => (4 - i).toNat) [(3, 89, 2)] ?_ ?_
    · simp only [go_sem, h.hP, List.cons_append, List.nil_append, Meets_e, Below_e, Prod.exists, exists_eq, exists_eq_left, exists_eq_left', exists_eq_right, exists_eq_right', exists_and_left, exists_and_right, Ob.arr.injEq, AV.own.injEq, AV.fv.injEq, TSchema.nil2, Tryz.ntmps23, Nat.reduceEqDiff, reduceCtorEq, Nat.reduceMul, Nat.reduceAdd, Nat.reduceSub, Nat.reduceDiv, Nat.reduceMod, Nat.reduceLeDiff, Nat.reduceLT, Nat.reduceBNe, Nat.reduceBEq, reduceIte, Int.reduceLE, Int.reduceLT, Int.reduceToNat, Int.reduceNeg, Int.reduceAdd, Int.reduceSub, Int.reduceMul, Int.reduceEq]
      first | done | simp
    · rintro ⟨i, o⟩ ⟨i0, i1, i2, i3⟩
      have hw : i < 4 → IntKind.i64.wrap (i + 1) = i + 1 := fun _ => i64w (by omega) (by omega)
      simp only [go_sem, h.hP, List.cons_append, List.nil_append, Meets_e, Below_e, Prod.exists, exists_eq, exists_eq_left, exists_eq_left', exists_eq_right, exists_eq_right', exists_and_left, exists_and_right, Ob.arr.injEq, AV.own.injEq, AV.fv.injEq, schemasG, hN, hE, flipS_q, flipS_p, flipS_c, flipS_f, oneS_q, oneS_p, oneS_c, oneS_f, oddS_q, oddS_p, oddS_c, oddS_f, strs1, strsc, evNames_get, evNames_take, TNeed.fold1, TNeed.foldc, TSchema.fold1, TSchema.app', TSchema.rows_inj, TSchema.zlT, TSchema.len, List.length_append, List.length_singleton, Tryz.ntmps23, Nat.reduceEqDiff, reduceCtorEq, Nat.reduceMul, Nat.reduceAdd, Nat.reduceSub, Nat.reduceDiv, Nat.reduceMod, Nat.reduceLeDiff, Nat.reduceLT, Nat.reduceBNe, Nat.reduceBEq, reduceIte, Int.reduceLE, Int.reduceLT, Int.reduceToNat, Int.reduceNeg, Int.reduceAdd, Int.reduceSub, Int.reduceMul, Int.reduceEq]
      have b3 : 30 * i.toNat ≤ 199 := by omega
      have b4 : 30 * i.toNat ≤ 200 := by omega
      simp only [b3, b4, true_and]
      refine ⟨fun q => ⟨i0, q, ?_, fun fl => ⟨fun _ => ?_, fun _ => ?_⟩⟩, fun q => ?_⟩
      · exact q
      · rw [hw q]
        exact ⟨by omega, by omega, by omega, by omega, i3, by omega⟩
      · skip
        refine vc_cutS (List TNeed) (fun (w : List TNeed) => [(18, .un), (19, .un), (22, .un)]) [3, 6] (fun (w : List TNeed) => [(6, 1, .sl (TNeed.rows w))]) (fun (w : List TNeed) => []) (fun (w : List TNeed) => 30 * i.toNat + 25) (fun (w : List TNeed) => (w.length : Int) ≤ 6 ∧ ∀ x ∈ w, x.ok) [] ?_ ?_ ?_
        · rfl
        · simp only [go_sem, h.hP, List.cons_append, List.nil_append, Meets_e, Below_e, Prod.exists, exists_eq, exists_eq_left, exists_eq_left', exists_eq_right, exists_eq_right', exists_and_left, exists_and_right, Ob.arr.injEq, AV.own.injEq, AV.fv.injEq, schemasG, hN, namesD_len, namesD_take, Tryz.ntmps23, Nat.reduceEqDiff, reduceCtorEq, Nat.reduceMul, Nat.reduceAdd, Nat.reduceSub, Nat.reduceDiv, Nat.reduceMod, Nat.reduceLeDiff, Nat.reduceLT, Nat.reduceBNe, Nat.reduceBEq, reduceIte, Int.reduceLE, Int.reduceLT, Int.reduceToNat, Int.reduceNeg, Int.reduceAdd, Int.reduceSub, Int.reduceMul, Int.reduceEq]
          refine ⟨by omega, by omega, ?_⟩
          refine vc_loopS (Int × List TNeed) (fun (x : Int × List TNeed) => match x with | (k, w) => [(18, .i k)]) [3, 6] (fun (x : Int × List TNeed) => match x with | (k, w) => [(6, 1, .own 10601)]) (fun (x : Int × List TNeed) => match x with | (k, w) => [(10601, .arr 92 3 (TNeed.rows w))]) (fun (x : Int × List TNeed) => match x with | (k, w) => 30 * i.toNat + 2 + 3 * k.toNat) (fun (x : Int × List TNeed) => match x with | (k, w) => 0 ≤ k ∧ k ≤ 6 ∧ (w.length : Int) ≤ k ∧ ∀ c ∈ w, c.ok) (fun (x : Int × List TNeed) => match x with | (k, w) => (6 - k).toNat) [(10601, 92, 3)] ?_ ?_
          · simp only [go_sem, h.hP, List.cons_append, List.nil_append, Meets_e, Below_e, Prod.exists, exists_eq, exists_eq_left, exists_eq_left', exists_eq_right, exists_eq_right', exists_and_left, exists_and_right, Ob.arr.injEq, AV.own.injEq, AV.fv.injEq, TNeed.nil2, Tryz.ntmps23, Nat.reduceEqDiff, reduceCtorEq, Nat.reduceMul, Nat.reduceAdd, Nat.reduceSub, Nat.reduceDiv, Nat.reduceMod, Nat.reduceLeDiff, Nat.reduceLT, Nat.reduceBNe, Nat.reduceBEq, reduceIte, Int.reduceLE, Int.reduceLT, Int.reduceToNat, Int.reduceNeg, Int.reduceAdd, Int.reduceSub, Int.reduceMul, Int.reduceEq]
            exact ⟨by omega, by omega⟩
          · rintro ⟨k, w⟩ ⟨k0, k1, k2, k3⟩
            have kw : k < 6 → IntKind.i64.wrap (k + 1) = k + 1 := fun _ => i64w (by omega) (by omega)
            simp only [go_sem, h.hP, List.cons_append, List.nil_append, Meets_e, Below_e, Prod.exists, exists_eq, exists_eq_left, exists_eq_left', exists_eq_right, exists_eq_right', exists_and_left, exists_and_right, Ob.arr.injEq, AV.own.injEq, AV.fv.injEq, schemasG, flipS_q, flipS_p, flipS_c, flipS_f, rangeS_q, rangeS_p, rangeS_c, rangeS_f, namesD_get, namesD_len, namesD_take, TNeed.fold1, TNeed.app', TNeed.rows_inj, TNeed.zlT, TNeed.len, List.length_append, List.length_singleton, Tryz.ntmps23, Nat.reduceEqDiff, reduceCtorEq, Nat.reduceMul, Nat.reduceAdd, Nat.reduceSub, Nat.reduceDiv, Nat.reduceMod, Nat.reduceLeDiff, Nat.reduceLT, Nat.reduceBNe, Nat.reduceBEq, reduceIte, Int.reduceLE, Int.reduceLT, Int.reduceToNat, Int.reduceNeg, Int.reduceAdd, Int.reduceSub, Int.reduceMul, Int.reduceEq]
            refine ⟨by omega, fun u => ?_, fun u => ⟨by omega, by omega, k3⟩⟩
            rw [kw u]
            ((repeat' (first | with_reducible apply And.intro | with_reducible intro)) <;> first | omega | exact k3 _ (by assumption) | exact okL_mem (by assumption) k3 (okN (names_ok _) (by assumption) (by assumption)))
        · rintro w ⟨w1, w2⟩
          simp only [go_sem, h.hP, List.cons_append, List.nil_append, Meets_e, Below_e, Prod.exists, exists_eq, exists_eq_left, exists_eq_left', exists_eq_right, exists_eq_right', exists_and_left, exists_and_right, Ob.arr.injEq, AV.own.injEq, AV.fv.injEq, schemasG, TSchema.fold1, TSchema.app', TSchema.rows_inj, TSchema.zlT, TSchema.len, List.length_append, List.length_singleton, Tryz.ntmps23, Nat.reduceEqDiff, reduceCtorEq, Nat.reduceMul, Nat.reduceAdd, Nat.reduceSub, Nat.reduceDiv, Nat.reduceMod, Nat.reduceLeDiff, Nat.reduceLT, Nat.reduceBNe, Nat.reduceBEq, reduceIte, Int.reduceLE, Int.reduceLT, Int.reduceToNat, Int.reduceNeg, Int.reduceAdd, Int.reduceSub, Int.reduceMul, Int.reduceEq]
          rw [hw q]
          ((repeat' (first | with_reducible apply And.intro | with_reducible intro)) <;> first | omega | exact okL_mem (by assumption) i3 ⟨evNames_ok _, (by show w.length ≤ _; omega), w2⟩)
      · ((repeat' (first | with_reducible apply And.intro | with_reducible intro)) <;> first | omega | exact (⟨by omega, i3⟩ : okL TSchema.ok o) | exact okL_snoc i3 (by omega) (okSch2 (okS_of (isOf_ok (by assumption) (by decide))) (okS_of (isOf_ok (by assumption) (by decide))) (odd_ok (by assumption) (by assumption)) (okS_of (isOf_ok (by assumption) (by decide)))))
end Go.Avc

/- A record's field, found by halving; the points of two records: the program. No condition. -/
set_option linter.unusedVariables false
set_option linter.unusedSimpArgs false
set_option maxRecDepth 100000
namespace Go.Avc
open Go Go.Proofs

def find1S  : Spec where
  pre xs := ∃ (f : TField) (n : ByteArray), xs = [.dv (.ag f.row), .str n]
  post xs y := ∃ (f : TField) (n : ByteArray), xs = [.dv (.ag f.row), .str n] ∧ y = .i (cmpT f.name n)
  cost _ := 0
  fresh := true
theorem find1S_c  (xs : List AV) : (find1S).cost xs = 0 := nr rfl
theorem find1S_f  : (find1S).fresh = true := nr rfl
theorem find1S_q  (f : TField) (n : ByteArray) : (find1S).pre [.dv (.ag [.str f.name, .int .i64 f.value.kind, .str f.value.text, .int .i64 f.value.number]), .str n] = (True) := propext ⟨fun h => by
  have h' : ∃ (f' : TField) (n' : ByteArray), ([.dv (.ag f.row), .str n] : List AV) = [.dv (.ag f'.row), .str n'] := h
  obtain ⟨f', n', e⟩ := h'
  simp only [List.cons.injEq, AV.dv.injEq, AV.fv.injEq, DV.d.injEq, DV.ag.injEq, D.int.injEq, D.str.injEq, D.bool.injEq, D.sl.injEq, true_and, and_true, intsDi_inj, rowsT_inj, rowsKi_inj, TField.row_inj, TField.rows_inj] at e
  obtain ⟨rfl, rfl⟩ := e
  exact trivial, fun h => ⟨f, n, rfl⟩⟩
theorem find1S_p  (f : TField) (n : ByteArray) : (find1S).post [.dv (.ag [.str f.name, .int .i64 f.value.kind, .str f.value.text, .int .i64 f.value.number]), .str n] = fun y => y = .i (cmpT f.name n) := funext fun y => propext ⟨fun h => by
  have h' : ∃ (f' : TField) (n' : ByteArray), ([.dv (.ag f.row), .str n] : List AV) = [.dv (.ag f'.row), .str n'] ∧ y = .i (cmpT f'.name n') := h
  obtain ⟨f', n', e, h⟩ := h'
  simp only [List.cons.injEq, AV.dv.injEq, AV.fv.injEq, DV.d.injEq, DV.ag.injEq, D.int.injEq, D.str.injEq, D.bool.injEq, D.sl.injEq, true_and, and_true, intsDi_inj, rowsT_inj, rowsKi_inj, TField.row_inj, TField.rows_inj] at e
  obtain ⟨rfl, rfl⟩ := e
  exact h, fun h => ⟨f, n, rfl, h⟩⟩
theorem find1_ctr {cx : Cx} (h : Seat cx) : Ctr cx 157 find1S := by
  refine ctr_of (fn := Tryz.f157) (l := [.tmp 4]) (envL [(110, cmpTSp)]) [0, 1, 2, 4] [] [] (envL_cons (compareT_ctr h) (env0 h.hP)) ?_ (by rw [h.hP]; exact Tryz.func157) rfl (by kernel_rfl) rfl ?_ ?_
  · rw [h.hP]; exact ⟨_, Tryz.func157, by kernel_rfl, by kernel_rfl⟩
  · rintro xs ⟨f, n, rfl⟩; exact ⟨_, f, n, rfl, rfl⟩
  · rintro xs ⟨f, n, rfl⟩
    refine ⟨by rw [Tryz.ntmps157]; simp, ?_⟩
    simp only [go_sem, h.hP, List.cons_append, List.nil_append, Meets_e, Below_e, Prod.exists, exists_eq, exists_eq_left, exists_eq_left', exists_eq_right, exists_eq_right', exists_and_left, exists_and_right, Ob.arr.injEq, AV.own.injEq, AV.fv.injEq, find1S_q, find1S_p, find1S_c, find1S_f, cmpTSp_q, cmpTSp_p, cmpTSp_c, cmpTSp_f, TField.row, Tryz.ntmps157, Nat.reduceEqDiff, reduceCtorEq, Nat.reduceMul, Nat.reduceAdd, Nat.reduceSub, Nat.reduceDiv, Nat.reduceMod, Nat.reduceLeDiff, Nat.reduceLT, Nat.reduceBNe, Nat.reduceBEq, reduceIte, Int.reduceLE, Int.reduceLT, Int.reduceToNat, Int.reduceNeg, Int.reduceAdd, Int.reduceSub, Int.reduceMul, Int.reduceEq]
def cmpΦ (caps : List (List D)) : FSpec where
  pre xs := caps = [] ∧ ∃ (f : TField) (n : ByteArray), xs = [.ag f.row, .d (.str n)]
  post xs r := caps = [] ∧ ∃ (f : TField) (n : ByteArray), xs = [.ag f.row, .d (.str n)] ∧ r = .d (.int .i64 (cmpT f.name n))
theorem cmpΦ_of {cx : Cx} {fn : FuncId} (h : Ctr cx fn find1S) (caps : List (List D)) : Ctr cx fn (clo cmpΦ caps) := by
  refine h.weaken (fun xs hx => ?_) (fun xs r hx hr => ?_) (fun _ => Nat.le_refl _) rfl
  · obtain ⟨ys, rfl, rfl, f, n, rfl⟩ := hx
    exact ⟨f, n, rfl⟩
  · obtain ⟨ys, rfl, rfl, f, n, rfl⟩ := hx
    obtain ⟨f', n', e, rfl⟩ := hr
    simp only [List.map_cons, List.map_nil, List.append_nil, List.cons.injEq, AV.dv.injEq, DV.ag.injEq, DV.d.injEq, D.str.injEq, and_true] at e
    obtain ⟨e1, rfl⟩ := e
    obtain rfl := TField.inj e1
    exact ⟨_, _, rfl, rfl, rfl, f, n, rfl, rfl⟩
theorem cmpΦ_pre (f : TField) (n : ByteArray) : (cmpΦ []).pre [.ag [.str f.name, .int .i64 f.value.kind, .str f.value.text, .int .i64 f.value.number], .d (.str n)] = True := eq_true ⟨rfl, f, n, rfl⟩
theorem cmpΦ_post (f : TField) (n : ByteArray) (y : DV) : (cmpΦ []).post [.ag [.str f.name, .int .i64 f.value.kind, .str f.value.text, .int .i64 f.value.number], .d (.str n)] y = (y = .d (.int .i64 (cmpT f.name n))) := by
  apply propext
  constructor
  · rintro ⟨_, f', n', e, rfl⟩
    simp only [List.cons.injEq, DV.ag.injEq, DV.d.injEq, D.str.injEq, and_true] at e
    obtain ⟨e1, rfl⟩ := e
    obtain rfl := TField.inj (x := f) e1
    rfl
  · rintro rfl
    exact ⟨rfl, f, n, rfl, rfl⟩
def bsS : Spec where
  pre xs := ∃ (l : List TField) (n : ByteArray), xs = [.sl (TField.rows l), .str n, .fv (cmpΦ [])] ∧ ascF l ∧ l.length ≤ 1048576
  post xs r := ∃ (l : List TField) (n : ByteArray) (i : Int) (b : Bool), xs = [.sl (TField.rows l), .str n, .fv (cmpΦ [])] ∧ (b = true → 0 ≤ i ∧ i < l.length ∧ (l.getD i.toNat TField.z).name = n) ∧ (b = false → ∀ j : Nat, j < l.length → (l.getD j TField.z).name ≠ n) ∧ r = .tcons (.i i) (.tcons (.b b) .tnil)
  cost _ := 0
  fresh := true
theorem bsS_c (xs : List AV) : bsS.cost xs = 0 := nr rfl
theorem bsS_f : bsS.fresh = true := nr rfl
theorem bsS_q (l : List TField) (n : ByteArray) : bsS.pre [.sl (TField.rows l), .str n, .fv (cmpΦ [])] = (ascF l ∧ l.length ≤ 1048576) := propext ⟨fun h => by
  have h' : ∃ (l' : List TField) (n' : ByteArray), ([.sl (TField.rows l), .str n, .fv (cmpΦ [])] : List AV) = [.sl (TField.rows l'), .str n', .fv (cmpΦ [])] ∧ ascF l' ∧ l'.length ≤ 1048576 := h
  obtain ⟨l', n', e, h1⟩ := h'
  simp only [List.cons.injEq, AV.dv.injEq, DV.d.injEq, D.sl.injEq, D.str.injEq, TField.rows_inj, and_true] at e
  rw [e.1]
  exact h1, fun h => ⟨l, n, rfl, h⟩⟩
theorem bsS_p (l : List TField) (n : ByteArray) : bsS.post [.sl (TField.rows l), .str n, .fv (cmpΦ [])] = fun r => ∃ (i : Int) (b : Bool), ((b = true → 0 ≤ i ∧ i < l.length ∧ (l.getD i.toNat TField.z).name = n) ∧ (b = false → ∀ j : Nat, j < l.length → (l.getD j TField.z).name ≠ n)) ∧ r = .tcons (.i i) (.tcons (.b b) .tnil) := funext fun r => propext ⟨fun h => by
  have h' : ∃ (l' : List TField) (n' : ByteArray) (i : Int) (b : Bool), ([.sl (TField.rows l), .str n, .fv (cmpΦ [])] : List AV) = [.sl (TField.rows l'), .str n', .fv (cmpΦ [])] ∧ (b = true → 0 ≤ i ∧ i < l'.length ∧ (l'.getD i.toNat TField.z).name = n') ∧ (b = false → ∀ j : Nat, j < l'.length → (l'.getD j TField.z).name ≠ n') ∧ r = .tcons (.i i) (.tcons (.b b) .tnil) := h
  obtain ⟨l', n', i, b, e, h1, h2, h3⟩ := h'
  simp only [List.cons.injEq, AV.dv.injEq, DV.d.injEq, D.sl.injEq, D.str.injEq, TField.rows_inj, and_true] at e
  obtain ⟨rfl, rfl⟩ := e
  exact ⟨i, b, ⟨h1, h2⟩, h3⟩, fun ⟨i, b, ⟨h1, h2⟩, h3⟩ => ⟨l, n, i, b, rfl, h1, h2, h3⟩⟩
theorem cmp_neg {s t : ByteArray} : cmpT s t < 0 ↔ lessS s t = true := by
  unfold cmpT
  constructor
  · intro h
    split at h
    · assumption
    · split at h <;> omega
  · intro h
    rw [if_pos h]; decide
theorem cmp_zero {s t : ByteArray} (h : cmpT s t = 0) : s = t := by
  unfold cmpT at h
  split at h
  · cases h
  · split at h
    · assumption
    · cases h
theorem u64w {n : Int} (h1 : 0 ≤ n) (h2 : n ≤ 9223372036854775807) : IntKind.u64.wrap n = n := by rw [IntKind.wrap_u64]; omega
set_option maxHeartbeats 4000000 in
theorem bs_ctr {cx : Cx} (h : Seat cx) : Ctr cx 156 bsS := by
  refine ctr_of (fn := Tryz.f156) (l := [.tmp 6, .tmp 7]) (envL []) [0, 1, 2, 6, 7, 8, 9, 10, 11, 17, 31] [8] [] (env0 h.hP) ?_ (by rw [h.hP]; exact Tryz.func156) rfl (by kernel_rfl) rfl ?_ ?_
  · rw [h.hP]; exact ⟨_, Tryz.func156, by kernel_rfl, by kernel_rfl⟩
  · rintro xs ⟨l, n, rfl, h1, h2⟩
    by_cases c : ∃ j : Nat, j < l.length ∧ (l.getD j TField.z).name = n
    · obtain ⟨j, j1, j2⟩ := c
      exact ⟨_, l, n, j, true, rfl, fun _ => ⟨by omega, by omega, by rw [Int.toNat_natCast]; exact j2⟩, fun z => (by cases z), rfl⟩
    · exact ⟨_, l, n, 0, false, rfl, fun z => (by cases z), fun _ j j1 j2 => c ⟨j, j1, j2⟩, rfl⟩
  · rintro xs ⟨l, n, rfl, h1, h2⟩
    refine ⟨by rw [Tryz.ntmps156]; simp, ?_⟩
    simp only [go_sem, h.hP, List.cons_append, List.nil_append, Meets_e, Below_e, Prod.exists, exists_eq, exists_eq_left, exists_eq_left', exists_eq_right, exists_eq_right', exists_and_left, exists_and_right, Ob.arr.injEq, AV.own.injEq, AV.fv.injEq, bsS_c, bsS_f, TField.len, Tryz.ntmps156, Nat.reduceEqDiff, reduceCtorEq, Nat.reduceMul, Nat.reduceAdd, Nat.reduceSub, Nat.reduceDiv, Nat.reduceMod, Nat.reduceLeDiff, Nat.reduceLT, Nat.reduceBNe, Nat.reduceBEq, reduceIte, Int.reduceLE, Int.reduceLT, Int.reduceToNat, Int.reduceNeg, Int.reduceAdd, Int.reduceSub, Int.reduceMul, Int.reduceEq]
    refine vc_cutS (Int) (fun (i : Int) => [(9, .i i), (10, .un), (11, .un), (17, .un), (31, .un)]) [] (fun (i : Int) => []) (fun (i : Int) => []) (fun (i : Int) => 0) (fun (i : Int) => 0 ≤ i ∧ i ≤ l.length ∧ (∀ k : Nat, (k : Int) < i → lessS (l.getD k TField.z).name n = true) ∧ (∀ k : Nat, i ≤ (k : Int) → k < l.length → lessS (l.getD k TField.z).name n = false)) [] ?_ ?_ ?_
    · rfl
    · simp only [go_sem, h.hP, List.cons_append, List.nil_append, Meets_e, Below_e, Prod.exists, exists_eq, exists_eq_left, exists_eq_left', exists_eq_right, exists_eq_right', exists_and_left, exists_and_right, Ob.arr.injEq, AV.own.injEq, AV.fv.injEq, TField.len, Tryz.ntmps156, Nat.reduceEqDiff, reduceCtorEq, Nat.reduceMul, Nat.reduceAdd, Nat.reduceSub, Nat.reduceDiv, Nat.reduceMod, Nat.reduceLeDiff, Nat.reduceLT, Nat.reduceBNe, Nat.reduceBEq, reduceIte, Int.reduceLE, Int.reduceLT, Int.reduceToNat, Int.reduceNeg, Int.reduceAdd, Int.reduceSub, Int.reduceMul, Int.reduceEq]
      refine vc_loopS (Int × Int) (fun (x : Int × Int) => match x with | (i, j) => [(9, .i i), (10, .i j)]) [] (fun (x : Int × Int) => match x with | (i, j) => []) (fun (x : Int × Int) => match x with | (i, j) => []) (fun (x : Int × Int) => match x with | (i, j) => 0) (fun (x : Int × Int) => match x with | (i, j) => 0 ≤ i ∧ i ≤ j ∧ j ≤ l.length ∧ (∀ k : Nat, (k : Int) < i → lessS (l.getD k TField.z).name n = true) ∧ (∀ k : Nat, j ≤ (k : Int) → k < l.length → lessS (l.getD k TField.z).name n = false)) (fun (x : Int × Int) => match x with | (i, j) => (j - i).toNat) [] ?_ ?_
      · simp only [go_sem, h.hP, List.cons_append, List.nil_append, Meets_e, Below_e, Prod.exists, exists_eq, exists_eq_left, exists_eq_left', exists_eq_right, exists_eq_right', exists_and_left, exists_and_right, Ob.arr.injEq, AV.own.injEq, AV.fv.injEq, TField.len, Tryz.ntmps156, Nat.reduceEqDiff, reduceCtorEq, Nat.reduceMul, Nat.reduceAdd, Nat.reduceSub, Nat.reduceDiv, Nat.reduceMod, Nat.reduceLeDiff, Nat.reduceLT, Nat.reduceBNe, Nat.reduceBEq, reduceIte, Int.reduceLE, Int.reduceLT, Int.reduceToNat, Int.reduceNeg, Int.reduceAdd, Int.reduceSub, Int.reduceMul, Int.reduceEq]
        exact ⟨by omega, by omega, fun k hk => by omega, fun k a b => by omega⟩
      · rintro ⟨i, j⟩ ⟨j1, j2, j3, j4, j5⟩
        simp only [go_sem, h.hP, List.cons_append, List.nil_append, Meets_e, Below_e, Prod.exists, exists_eq, exists_eq_left, exists_eq_left', exists_eq_right, exists_eq_right', exists_and_left, exists_and_right, Ob.arr.injEq, AV.own.injEq, AV.fv.injEq, TField.len, TField.get, cmpΦ_pre, cmpΦ_post, Tryz.ntmps156, Nat.reduceEqDiff, reduceCtorEq, Nat.reduceMul, Nat.reduceAdd, Nat.reduceSub, Nat.reduceDiv, Nat.reduceMod, Nat.reduceLeDiff, Nat.reduceLT, Nat.reduceBNe, Nat.reduceBEq, reduceIte, Int.reduceLE, Int.reduceLT, Int.reduceToNat, Int.reduceNeg, Int.reduceAdd, Int.reduceSub, Int.reduceMul, Int.reduceEq]
        refine ⟨fun c => ?_, fun c => ⟨j1, by omega, j4, fun k a b => j5 k (by omega) b⟩⟩
        rw [i64w (n := i + j) (by omega) (by omega), u64w (n := i + j) (by omega) (by omega), i64w (n := (i + j) / 2) (by omega) (by omega)]
        obtain ⟨m, hm⟩ : ∃ m : Int, m = (i + j) / 2 := ⟨_, rfl⟩
        rw [← hm]
        have m1 : i ≤ m := by omega
        have m2 : m < j := by omega
        clear hm
        refine ⟨by omega, by omega, fun d => ?_, fun d => ?_⟩
        · have d' := cmp_neg.1 d
          rw [i64w (n := m + 1) (by omega) (by omega)]
          refine ⟨by omega, by omega, j3, fun k hk => ?_, j5, by omega⟩
          by_cases e : k = m.toNat
          · rw [e]; exact d'
          · exact lessS_trans (h1 k m.toNat (by omega) (by omega)) d'
        · have dn : lessS (l.getD m.toNat TField.z).name n = false := by
            cases e : lessS (l.getD m.toNat TField.z).name n with
            | false => rfl
            | true => exact absurd (cmp_neg.2 e) d
          refine ⟨j1, m1, by omega, j4, fun k a b => ?_, by omega⟩
          cases e : lessS (l.getD k TField.z).name n with
          | false => rfl
          | true =>
            by_cases q : k = m.toNat
            · rw [q, dn] at e; cases e
            · have := lessS_trans (h1 m.toNat k (by omega) b) e
              rw [dn] at this
              cases this
    · rintro i ⟨j1, j2, j3, j4⟩
      simp only [go_sem, h.hP, List.cons_append, List.nil_append, Meets_e, Below_e, Prod.exists, exists_eq, exists_eq_left, exists_eq_left', exists_eq_right, exists_eq_right', exists_and_left, exists_and_right, Ob.arr.injEq, AV.own.injEq, AV.fv.injEq, bsS_c, bsS_f, bsS_p, TField.len, TField.get, cmpΦ_pre, cmpΦ_post, Tryz.ntmps156, Nat.reduceEqDiff, reduceCtorEq, Nat.reduceMul, Nat.reduceAdd, Nat.reduceSub, Nat.reduceDiv, Nat.reduceMod, Nat.reduceLeDiff, Nat.reduceLT, Nat.reduceBNe, Nat.reduceBEq, reduceIte, Int.reduceLE, Int.reduceLT, Int.reduceToNat, Int.reduceNeg, Int.reduceAdd, Int.reduceSub, Int.reduceMul, Int.reduceEq]
      have hlt : ∀ k : Nat, (k : Int) < i → (l.getD k TField.z).name ≠ n := fun k hk e => by
        have := j3 k hk
        rw [e, lessS_irrefl] at this
        cases this
      refine ⟨fun c => ⟨j1, c, i, _, fun z => ⟨j1, c, cmp_zero (by simpa using z)⟩, fun z k hk e => ?_, rfl, rfl⟩, fun c => ⟨i, false, fun z => (by cases z), fun _ k hk e => hlt k (by omega) e, rfl, rfl⟩⟩
      by_cases q : (k : Int) < i
      · exact hlt k q e
      · have hi := j4 i.toNat (by omega) (by omega)
        by_cases q2 : k = i.toNat
        · rw [← q2, e] at z
          have : cmpT n n = 0 := by
            unfold cmpT
            rw [if_neg (by rw [lessS_irrefl]; decide), if_pos rfl]
          rw [this] at z
          cases z
        · have := h1 i.toNat k (by omega) hk
          rw [e, hi] at this
          cases this
def findS : Spec where
  pre xs := ∃ (l : List TField) (n : ByteArray), xs = [.sl (TField.rows l), .str n] ∧ ascF l ∧ l.length ≤ 1048576
  post xs r := ∃ (l : List TField) (n : ByteArray) (v : TValue), xs = [.sl (TField.rows l), .str n] ∧ (∀ f, findF l n = some f → v = f.value) ∧ r = .tcons (.dv (.ag v.row)) (.tcons (.b (findF l n).isSome) .tnil)
  cost _ := 0
  fresh := true
theorem findS_c (xs : List AV) : findS.cost xs = 0 := nr rfl
theorem findS_f : findS.fresh = true := nr rfl
theorem findS_q (l : List TField) (n : ByteArray) : findS.pre [.sl (TField.rows l), .str n] = (ascF l ∧ l.length ≤ 1048576) := propext ⟨fun h => by
  have h' : ∃ (l' : List TField) (n' : ByteArray), ([.sl (TField.rows l), .str n] : List AV) = [.sl (TField.rows l'), .str n'] ∧ ascF l' ∧ l'.length ≤ 1048576 := h
  obtain ⟨l', n', e, h1⟩ := h'
  simp only [List.cons.injEq, AV.dv.injEq, DV.d.injEq, D.sl.injEq, D.str.injEq, TField.rows_inj, and_true] at e
  rw [e.1]
  exact h1, fun h => ⟨l, n, rfl, h⟩⟩
theorem findS_p (l : List TField) (n : ByteArray) : findS.post [.sl (TField.rows l), .str n] = fun r => ∃ v : TValue, (∀ f, findF l n = some f → v = f.value) ∧ r = .tcons (.dv (.ag [.int .i64 v.kind, .str v.text, .int .i64 v.number])) (.tcons (.b (findF l n).isSome) .tnil) := funext fun r => propext ⟨fun h => by
  have h' : ∃ (l' : List TField) (n' : ByteArray) (v : TValue), ([.sl (TField.rows l), .str n] : List AV) = [.sl (TField.rows l'), .str n'] ∧ (∀ f, findF l' n' = some f → v = f.value) ∧ r = .tcons (.dv (.ag v.row)) (.tcons (.b (findF l' n').isSome) .tnil) := h
  obtain ⟨l', n', v, e, h1, h2⟩ := h'
  simp only [List.cons.injEq, AV.dv.injEq, DV.d.injEq, D.sl.injEq, D.str.injEq, TField.rows_inj, and_true] at e
  obtain ⟨rfl, rfl⟩ := e
  exact ⟨v, h1, h2⟩, fun ⟨v, h1, h2⟩ => ⟨l, n, v, rfl, h1, h2⟩⟩
theorem Find_ctr {cx : Cx} (h : Seat cx) : Ctr cx 113 findS := by
  refine ctr_of (fn := Tryz.f113) (l := [.cell 4 95, .tmp 5]) (envF [(156, bsS)] [(157, cmpΦ)]) [0, 1, 4, 5, 6, 7, 15] [] [] (envF_cons (cmpΦ_of (find1_ctr h)) (envF_nil (envL_cons (bs_ctr h) (env0 h.hP)))) ?_ (by rw [h.hP]; exact Tryz.func113) rfl (by kernel_rfl) rfl ?_ ?_
  · rw [h.hP]; exact ⟨_, Tryz.func113, by kernel_rfl, by kernel_rfl⟩
  · rintro xs ⟨l, n, rfl, h1, h2⟩
    cases e : findF l n with
    | none => exact ⟨_, l, n, TValue.z, rfl, fun f hf => (by rw [e] at hf; cases hf), rfl⟩
    | some f => exact ⟨_, l, n, f.value, rfl, fun g hg => (by rw [e] at hg; cases hg; rfl), rfl⟩
  · rintro xs ⟨l, n, rfl, h1, h2⟩
    refine ⟨by rw [Tryz.ntmps113]; simp, ?_⟩
    simp only [go_sem, h.hP, List.cons_append, List.nil_append, Meets_e, Below_e, Prod.exists, exists_eq, exists_eq_left, exists_eq_left', exists_eq_right, exists_eq_right', exists_and_left, exists_and_right, Ob.arr.injEq, AV.own.injEq, AV.fv.injEq, findS_c, findS_f, findS_p, bsS_c, bsS_f, bsS_p, bsS_q, TField.len, TField.get, Tryz.ntmps113, Nat.reduceEqDiff, reduceCtorEq, Nat.reduceMul, Nat.reduceAdd, Nat.reduceSub, Nat.reduceDiv, Nat.reduceMod, Nat.reduceLeDiff, Nat.reduceLT, Nat.reduceBNe, Nat.reduceBEq, reduceIte, Int.reduceLE, Int.reduceLT, Int.reduceToNat, Int.reduceNeg, Int.reduceAdd, Int.reduceSub, Int.reduceMul, Int.reduceEq]
    refine ⟨h1, h2, fun i b p1 p2 => ⟨fun c => ?_, fun c => ?_⟩⟩
    · have hn := findF_no (p2 c)
      exact ⟨TValue.z, fun f hf => (by rw [hn] at hf; cases hf), rfl, rfl, rfl, by rw [hn]; rfl⟩
    · obtain ⟨q1, q2, q3⟩ := p1 c
      have hf := findF_at h1 (i := i.toNat) (by omega) q3
      exact ⟨q1, q2, _, fun f e => (by rw [hf] at e; cases e; rfl), rfl, rfl, rfl, by rw [hf]; rfl⟩
end Go.Avc

/- Schemas and needs, found by halving: the program. No condition. -/
set_option linter.unusedVariables false
set_option linter.unusedSimpArgs false
set_option maxRecDepth 100000
namespace Go.Avc
open Go Go.Proofs

def ascSc (l : List TSchema) : Prop := ∀ i j : Nat, i < j → j < l.length → lessS (l.getD i TSchema.z).name (l.getD j TSchema.z).name = true
def find1SSc  : Spec where
  pre xs := ∃ (f : TSchema) (n : ByteArray), xs = [.dv (.ag f.row), .str n]
  post xs y := ∃ (f : TSchema) (n : ByteArray), xs = [.dv (.ag f.row), .str n] ∧ y = .i (cmpT f.name n)
  cost _ := 0
  fresh := true
theorem find1SSc_c  (xs : List AV) : (find1SSc).cost xs = 0 := nr rfl
theorem find1SSc_f  : (find1SSc).fresh = true := nr rfl
theorem find1SSc_q  (f : TSchema) (n : ByteArray) : (find1SSc).pre [.dv (.ag [.str f.name, .sl (TNeed.rows f.needs)]), .str n] = (True) := propext ⟨fun h => by
  have h' : ∃ (f' : TSchema) (n' : ByteArray), ([.dv (.ag f.row), .str n] : List AV) = [.dv (.ag f'.row), .str n'] := h
  obtain ⟨f', n', e⟩ := h'
  simp only [List.cons.injEq, AV.dv.injEq, AV.fv.injEq, DV.d.injEq, DV.ag.injEq, D.int.injEq, D.str.injEq, D.bool.injEq, D.sl.injEq, true_and, and_true, intsDi_inj, rowsT_inj, rowsKi_inj, TSchema.row_inj, TSchema.rows_inj] at e
  obtain ⟨rfl, rfl⟩ := e
  exact trivial, fun h => ⟨f, n, rfl⟩⟩
theorem find1SSc_p  (f : TSchema) (n : ByteArray) : (find1SSc).post [.dv (.ag [.str f.name, .sl (TNeed.rows f.needs)]), .str n] = fun y => y = .i (cmpT f.name n) := funext fun y => propext ⟨fun h => by
  have h' : ∃ (f' : TSchema) (n' : ByteArray), ([.dv (.ag f.row), .str n] : List AV) = [.dv (.ag f'.row), .str n'] ∧ y = .i (cmpT f'.name n') := h
  obtain ⟨f', n', e, h⟩ := h'
  simp only [List.cons.injEq, AV.dv.injEq, AV.fv.injEq, DV.d.injEq, DV.ag.injEq, D.int.injEq, D.str.injEq, D.bool.injEq, D.sl.injEq, true_and, and_true, intsDi_inj, rowsT_inj, rowsKi_inj, TSchema.row_inj, TSchema.rows_inj] at e
  obtain ⟨rfl, rfl⟩ := e
  exact h, fun h => ⟨f, n, rfl, h⟩⟩
theorem find1_ctrSc {cx : Cx} (h : Seat cx) : Ctr cx 109 find1SSc := by
  refine ctr_of (fn := Tryz.f109) (l := [.tmp 4]) (envL [(110, cmpTSp)]) [0, 1, 2, 4] [] [] (envL_cons (compareT_ctr h) (env0 h.hP)) ?_ (by rw [h.hP]; exact Tryz.func109) rfl (by kernel_rfl) rfl ?_ ?_
  · rw [h.hP]; exact ⟨_, Tryz.func109, by kernel_rfl, by kernel_rfl⟩
  · rintro xs ⟨f, n, rfl⟩; exact ⟨_, f, n, rfl, rfl⟩
  · rintro xs ⟨f, n, rfl⟩
    refine ⟨by rw [Tryz.ntmps109]; simp, ?_⟩
    simp only [go_sem, h.hP, List.cons_append, List.nil_append, Meets_e, Below_e, Prod.exists, exists_eq, exists_eq_left, exists_eq_left', exists_eq_right, exists_eq_right', exists_and_left, exists_and_right, Ob.arr.injEq, AV.own.injEq, AV.fv.injEq, find1SSc_q, find1SSc_p, find1SSc_c, find1SSc_f, cmpTSp_q, cmpTSp_p, cmpTSp_c, cmpTSp_f, TSchema.row, Tryz.ntmps109, Nat.reduceEqDiff, reduceCtorEq, Nat.reduceMul, Nat.reduceAdd, Nat.reduceSub, Nat.reduceDiv, Nat.reduceMod, Nat.reduceLeDiff, Nat.reduceLT, Nat.reduceBNe, Nat.reduceBEq, reduceIte, Int.reduceLE, Int.reduceLT, Int.reduceToNat, Int.reduceNeg, Int.reduceAdd, Int.reduceSub, Int.reduceMul, Int.reduceEq]
def cmpΦSc (caps : List (List D)) : FSpec where
  pre xs := caps = [] ∧ ∃ (f : TSchema) (n : ByteArray), xs = [.ag f.row, .d (.str n)]
  post xs r := caps = [] ∧ ∃ (f : TSchema) (n : ByteArray), xs = [.ag f.row, .d (.str n)] ∧ r = .d (.int .i64 (cmpT f.name n))
theorem cmpΦSc_of {cx : Cx} {fn : FuncId} (h : Ctr cx fn find1SSc) (caps : List (List D)) : Ctr cx fn (clo cmpΦSc caps) := by
  refine h.weaken (fun xs hx => ?_) (fun xs r hx hr => ?_) (fun _ => Nat.le_refl _) rfl
  · obtain ⟨ys, rfl, rfl, f, n, rfl⟩ := hx
    exact ⟨f, n, rfl⟩
  · obtain ⟨ys, rfl, rfl, f, n, rfl⟩ := hx
    obtain ⟨f', n', e, rfl⟩ := hr
    simp only [List.map_cons, List.map_nil, List.append_nil, List.cons.injEq, AV.dv.injEq, DV.ag.injEq, DV.d.injEq, D.str.injEq, and_true] at e
    obtain ⟨e1, rfl⟩ := e
    obtain rfl := TSchema.inj e1
    exact ⟨_, _, rfl, rfl, rfl, f, n, rfl, rfl⟩
theorem cmpΦSc_pre (f : TSchema) (n : ByteArray) : (cmpΦSc []).pre [.ag [.str f.name, .sl (TNeed.rows f.needs)], .d (.str n)] = True := eq_true ⟨rfl, f, n, rfl⟩
theorem cmpΦSc_post (f : TSchema) (n : ByteArray) (y : DV) : (cmpΦSc []).post [.ag [.str f.name, .sl (TNeed.rows f.needs)], .d (.str n)] y = (y = .d (.int .i64 (cmpT f.name n))) := by
  apply propext
  constructor
  · rintro ⟨_, f', n', e, rfl⟩
    simp only [List.cons.injEq, DV.ag.injEq, DV.d.injEq, D.str.injEq, and_true] at e
    obtain ⟨e1, rfl⟩ := e
    obtain rfl := TSchema.inj (x := f) e1
    rfl
  · rintro rfl
    exact ⟨rfl, f, n, rfl, rfl⟩
def bsSSc : Spec where
  pre xs := ∃ (l : List TSchema) (n : ByteArray), xs = [.sl (TSchema.rows l), .str n, .fv (cmpΦSc [])] ∧ ascSc l ∧ l.length ≤ 1048576
  post xs r := ∃ (l : List TSchema) (n : ByteArray) (i : Int) (b : Bool), xs = [.sl (TSchema.rows l), .str n, .fv (cmpΦSc [])] ∧ (b = true → 0 ≤ i ∧ i < l.length ∧ (l.getD i.toNat TSchema.z).name = n) ∧ (b = false → ∀ j : Nat, j < l.length → (l.getD j TSchema.z).name ≠ n) ∧ r = .tcons (.i i) (.tcons (.b b) .tnil)
  cost _ := 0
  fresh := true
theorem bsSSc_c (xs : List AV) : bsSSc.cost xs = 0 := nr rfl
theorem bsSSc_f : bsSSc.fresh = true := nr rfl
theorem bsSSc_q (l : List TSchema) (n : ByteArray) : bsSSc.pre [.sl (TSchema.rows l), .str n, .fv (cmpΦSc [])] = (ascSc l ∧ l.length ≤ 1048576) := propext ⟨fun h => by
  have h' : ∃ (l' : List TSchema) (n' : ByteArray), ([.sl (TSchema.rows l), .str n, .fv (cmpΦSc [])] : List AV) = [.sl (TSchema.rows l'), .str n', .fv (cmpΦSc [])] ∧ ascSc l' ∧ l'.length ≤ 1048576 := h
  obtain ⟨l', n', e, h1⟩ := h'
  simp only [List.cons.injEq, AV.dv.injEq, DV.d.injEq, D.sl.injEq, D.str.injEq, TSchema.rows_inj, and_true] at e
  rw [e.1]
  exact h1, fun h => ⟨l, n, rfl, h⟩⟩
theorem bsSSc_p (l : List TSchema) (n : ByteArray) : bsSSc.post [.sl (TSchema.rows l), .str n, .fv (cmpΦSc [])] = fun r => ∃ (i : Int) (b : Bool), ((b = true → 0 ≤ i ∧ i < l.length ∧ (l.getD i.toNat TSchema.z).name = n) ∧ (b = false → ∀ j : Nat, j < l.length → (l.getD j TSchema.z).name ≠ n)) ∧ r = .tcons (.i i) (.tcons (.b b) .tnil) := funext fun r => propext ⟨fun h => by
  have h' : ∃ (l' : List TSchema) (n' : ByteArray) (i : Int) (b : Bool), ([.sl (TSchema.rows l), .str n, .fv (cmpΦSc [])] : List AV) = [.sl (TSchema.rows l'), .str n', .fv (cmpΦSc [])] ∧ (b = true → 0 ≤ i ∧ i < l'.length ∧ (l'.getD i.toNat TSchema.z).name = n') ∧ (b = false → ∀ j : Nat, j < l'.length → (l'.getD j TSchema.z).name ≠ n') ∧ r = .tcons (.i i) (.tcons (.b b) .tnil) := h
  obtain ⟨l', n', i, b, e, h1, h2, h3⟩ := h'
  simp only [List.cons.injEq, AV.dv.injEq, DV.d.injEq, D.sl.injEq, D.str.injEq, TSchema.rows_inj, and_true] at e
  obtain ⟨rfl, rfl⟩ := e
  exact ⟨i, b, ⟨h1, h2⟩, h3⟩, fun ⟨i, b, ⟨h1, h2⟩, h3⟩ => ⟨l, n, i, b, rfl, h1, h2, h3⟩⟩
set_option maxHeartbeats 4000000 in
theorem bs_ctrSc {cx : Cx} (h : Seat cx) : Ctr cx 108 bsSSc := by
  refine ctr_of (fn := Tryz.f108) (l := [.tmp 6, .tmp 7]) (envL []) [0, 1, 2, 6, 7, 8, 9, 10, 11, 17, 31] [8] [] (env0 h.hP) ?_ (by rw [h.hP]; exact Tryz.func108) rfl (by kernel_rfl) rfl ?_ ?_
  · rw [h.hP]; exact ⟨_, Tryz.func108, by kernel_rfl, by kernel_rfl⟩
  · rintro xs ⟨l, n, rfl, h1, h2⟩
    by_cases c : ∃ j : Nat, j < l.length ∧ (l.getD j TSchema.z).name = n
    · obtain ⟨j, j1, j2⟩ := c
      exact ⟨_, l, n, j, true, rfl, fun _ => ⟨by omega, by omega, by rw [Int.toNat_natCast]; exact j2⟩, fun z => (by cases z), rfl⟩
    · exact ⟨_, l, n, 0, false, rfl, fun z => (by cases z), fun _ j j1 j2 => c ⟨j, j1, j2⟩, rfl⟩
  · rintro xs ⟨l, n, rfl, h1, h2⟩
    refine ⟨by rw [Tryz.ntmps108]; simp, ?_⟩
    simp only [go_sem, h.hP, List.cons_append, List.nil_append, Meets_e, Below_e, Prod.exists, exists_eq, exists_eq_left, exists_eq_left', exists_eq_right, exists_eq_right', exists_and_left, exists_and_right, Ob.arr.injEq, AV.own.injEq, AV.fv.injEq, bsSSc_c, bsSSc_f, TSchema.len, Tryz.ntmps108, Nat.reduceEqDiff, reduceCtorEq, Nat.reduceMul, Nat.reduceAdd, Nat.reduceSub, Nat.reduceDiv, Nat.reduceMod, Nat.reduceLeDiff, Nat.reduceLT, Nat.reduceBNe, Nat.reduceBEq, reduceIte, Int.reduceLE, Int.reduceLT, Int.reduceToNat, Int.reduceNeg, Int.reduceAdd, Int.reduceSub, Int.reduceMul, Int.reduceEq]
    refine vc_cutS (Int) (fun (i : Int) => [(9, .i i), (10, .un), (11, .un), (17, .un), (31, .un)]) [] (fun (i : Int) => []) (fun (i : Int) => []) (fun (i : Int) => 0) (fun (i : Int) => 0 ≤ i ∧ i ≤ l.length ∧ (∀ k : Nat, (k : Int) < i → lessS (l.getD k TSchema.z).name n = true) ∧ (∀ k : Nat, i ≤ (k : Int) → k < l.length → lessS (l.getD k TSchema.z).name n = false)) [] ?_ ?_ ?_
    · rfl
    · simp only [go_sem, h.hP, List.cons_append, List.nil_append, Meets_e, Below_e, Prod.exists, exists_eq, exists_eq_left, exists_eq_left', exists_eq_right, exists_eq_right', exists_and_left, exists_and_right, Ob.arr.injEq, AV.own.injEq, AV.fv.injEq, TSchema.len, Tryz.ntmps108, Nat.reduceEqDiff, reduceCtorEq, Nat.reduceMul, Nat.reduceAdd, Nat.reduceSub, Nat.reduceDiv, Nat.reduceMod, Nat.reduceLeDiff, Nat.reduceLT, Nat.reduceBNe, Nat.reduceBEq, reduceIte, Int.reduceLE, Int.reduceLT, Int.reduceToNat, Int.reduceNeg, Int.reduceAdd, Int.reduceSub, Int.reduceMul, Int.reduceEq]
      refine vc_loopS (Int × Int) (fun (x : Int × Int) => match x with | (i, j) => [(9, .i i), (10, .i j)]) [] (fun (x : Int × Int) => match x with | (i, j) => []) (fun (x : Int × Int) => match x with | (i, j) => []) (fun (x : Int × Int) => match x with | (i, j) => 0) (fun (x : Int × Int) => match x with | (i, j) => 0 ≤ i ∧ i ≤ j ∧ j ≤ l.length ∧ (∀ k : Nat, (k : Int) < i → lessS (l.getD k TSchema.z).name n = true) ∧ (∀ k : Nat, j ≤ (k : Int) → k < l.length → lessS (l.getD k TSchema.z).name n = false)) (fun (x : Int × Int) => match x with | (i, j) => (j - i).toNat) [] ?_ ?_
      · simp only [go_sem, h.hP, List.cons_append, List.nil_append, Meets_e, Below_e, Prod.exists, exists_eq, exists_eq_left, exists_eq_left', exists_eq_right, exists_eq_right', exists_and_left, exists_and_right, Ob.arr.injEq, AV.own.injEq, AV.fv.injEq, TSchema.len, Tryz.ntmps108, Nat.reduceEqDiff, reduceCtorEq, Nat.reduceMul, Nat.reduceAdd, Nat.reduceSub, Nat.reduceDiv, Nat.reduceMod, Nat.reduceLeDiff, Nat.reduceLT, Nat.reduceBNe, Nat.reduceBEq, reduceIte, Int.reduceLE, Int.reduceLT, Int.reduceToNat, Int.reduceNeg, Int.reduceAdd, Int.reduceSub, Int.reduceMul, Int.reduceEq]
        exact ⟨by omega, by omega, fun k hk => by omega, fun k a b => by omega⟩
      · rintro ⟨i, j⟩ ⟨j1, j2, j3, j4, j5⟩
        simp only [go_sem, h.hP, List.cons_append, List.nil_append, Meets_e, Below_e, Prod.exists, exists_eq, exists_eq_left, exists_eq_left', exists_eq_right, exists_eq_right', exists_and_left, exists_and_right, Ob.arr.injEq, AV.own.injEq, AV.fv.injEq, TSchema.len, TSchema.get, cmpΦSc_pre, cmpΦSc_post, Tryz.ntmps108, Nat.reduceEqDiff, reduceCtorEq, Nat.reduceMul, Nat.reduceAdd, Nat.reduceSub, Nat.reduceDiv, Nat.reduceMod, Nat.reduceLeDiff, Nat.reduceLT, Nat.reduceBNe, Nat.reduceBEq, reduceIte, Int.reduceLE, Int.reduceLT, Int.reduceToNat, Int.reduceNeg, Int.reduceAdd, Int.reduceSub, Int.reduceMul, Int.reduceEq]
        refine ⟨fun c => ?_, fun c => ⟨j1, by omega, j4, fun k a b => j5 k (by omega) b⟩⟩
        rw [i64w (n := i + j) (by omega) (by omega), u64w (n := i + j) (by omega) (by omega), i64w (n := (i + j) / 2) (by omega) (by omega)]
        obtain ⟨m, hm⟩ : ∃ m : Int, m = (i + j) / 2 := ⟨_, rfl⟩
        rw [← hm]
        have m1 : i ≤ m := by omega
        have m2 : m < j := by omega
        clear hm
        refine ⟨by omega, by omega, fun d => ?_, fun d => ?_⟩
        · have d' := cmp_neg.1 d
          rw [i64w (n := m + 1) (by omega) (by omega)]
          refine ⟨by omega, by omega, j3, fun k hk => ?_, j5, by omega⟩
          by_cases e : k = m.toNat
          · rw [e]; exact d'
          · exact lessS_trans (h1 k m.toNat (by omega) (by omega)) d'
        · have dn : lessS (l.getD m.toNat TSchema.z).name n = false := by
            cases e : lessS (l.getD m.toNat TSchema.z).name n with
            | false => rfl
            | true => exact absurd (cmp_neg.2 e) d
          refine ⟨j1, m1, by omega, j4, fun k a b => ?_, by omega⟩
          cases e : lessS (l.getD k TSchema.z).name n with
          | false => rfl
          | true =>
            by_cases q : k = m.toNat
            · rw [q, dn] at e; cases e
            · have := lessS_trans (h1 m.toNat k (by omega) b) e
              rw [dn] at this
              cases this
    · rintro i ⟨j1, j2, j3, j4⟩
      simp only [go_sem, h.hP, List.cons_append, List.nil_append, Meets_e, Below_e, Prod.exists, exists_eq, exists_eq_left, exists_eq_left', exists_eq_right, exists_eq_right', exists_and_left, exists_and_right, Ob.arr.injEq, AV.own.injEq, AV.fv.injEq, bsSSc_c, bsSSc_f, bsSSc_p, TSchema.len, TSchema.get, cmpΦSc_pre, cmpΦSc_post, Tryz.ntmps108, Nat.reduceEqDiff, reduceCtorEq, Nat.reduceMul, Nat.reduceAdd, Nat.reduceSub, Nat.reduceDiv, Nat.reduceMod, Nat.reduceLeDiff, Nat.reduceLT, Nat.reduceBNe, Nat.reduceBEq, reduceIte, Int.reduceLE, Int.reduceLT, Int.reduceToNat, Int.reduceNeg, Int.reduceAdd, Int.reduceSub, Int.reduceMul, Int.reduceEq]
      have hlt : ∀ k : Nat, (k : Int) < i → (l.getD k TSchema.z).name ≠ n := fun k hk e => by
        have := j3 k hk
        rw [e, lessS_irrefl] at this
        cases this
      refine ⟨fun c => ⟨j1, c, i, _, fun z => ⟨j1, c, cmp_zero (by simpa using z)⟩, fun z k hk e => ?_, rfl, rfl⟩, fun c => ⟨i, false, fun z => (by cases z), fun _ k hk e => hlt k (by omega) e, rfl, rfl⟩⟩
      by_cases q : (k : Int) < i
      · exact hlt k q e
      · have hi := j4 i.toNat (by omega) (by omega)
        by_cases q2 : k = i.toNat
        · rw [← q2, e] at z
          have : cmpT n n = 0 := by
            unfold cmpT
            rw [if_neg (by rw [lessS_irrefl]; decide), if_pos rfl]
          rw [this] at z
          cases z
        · have := h1 i.toNat k (by omega) hk
          rw [e, hi] at this
          cases this
def ascNd (l : List TNeed) : Prop := ∀ i j : Nat, i < j → j < l.length → lessS (l.getD i TNeed.z).name (l.getD j TNeed.z).name = true
def find1SNd  : Spec where
  pre xs := ∃ (f : TNeed) (n : ByteArray), xs = [.dv (.ag f.row), .str n]
  post xs y := ∃ (f : TNeed) (n : ByteArray), xs = [.dv (.ag f.row), .str n] ∧ y = .i (cmpT f.name n)
  cost _ := 0
  fresh := true
theorem find1SNd_c  (xs : List AV) : (find1SNd).cost xs = 0 := nr rfl
theorem find1SNd_f  : (find1SNd).fresh = true := nr rfl
theorem find1SNd_q  (f : TNeed) (n : ByteArray) : (find1SNd).pre [.dv (.ag [.str f.name, .int .i64 f.kind, .bool f.must]), .str n] = (True) := propext ⟨fun h => by
  have h' : ∃ (f' : TNeed) (n' : ByteArray), ([.dv (.ag f.row), .str n] : List AV) = [.dv (.ag f'.row), .str n'] := h
  obtain ⟨f', n', e⟩ := h'
  simp only [List.cons.injEq, AV.dv.injEq, AV.fv.injEq, DV.d.injEq, DV.ag.injEq, D.int.injEq, D.str.injEq, D.bool.injEq, D.sl.injEq, true_and, and_true, intsDi_inj, rowsT_inj, rowsKi_inj, TNeed.row_inj, TNeed.rows_inj] at e
  obtain ⟨rfl, rfl⟩ := e
  exact trivial, fun h => ⟨f, n, rfl⟩⟩
theorem find1SNd_p  (f : TNeed) (n : ByteArray) : (find1SNd).post [.dv (.ag [.str f.name, .int .i64 f.kind, .bool f.must]), .str n] = fun y => y = .i (cmpT f.name n) := funext fun y => propext ⟨fun h => by
  have h' : ∃ (f' : TNeed) (n' : ByteArray), ([.dv (.ag f.row), .str n] : List AV) = [.dv (.ag f'.row), .str n'] ∧ y = .i (cmpT f'.name n') := h
  obtain ⟨f', n', e, h⟩ := h'
  simp only [List.cons.injEq, AV.dv.injEq, AV.fv.injEq, DV.d.injEq, DV.ag.injEq, D.int.injEq, D.str.injEq, D.bool.injEq, D.sl.injEq, true_and, and_true, intsDi_inj, rowsT_inj, rowsKi_inj, TNeed.row_inj, TNeed.rows_inj] at e
  obtain ⟨rfl, rfl⟩ := e
  exact h, fun h => ⟨f, n, rfl, h⟩⟩
theorem find1_ctrNd {cx : Cx} (h : Seat cx) : Ctr cx 112 find1SNd := by
  refine ctr_of (fn := Tryz.f112) (l := [.tmp 4]) (envL [(110, cmpTSp)]) [0, 1, 2, 4] [] [] (envL_cons (compareT_ctr h) (env0 h.hP)) ?_ (by rw [h.hP]; exact Tryz.func112) rfl (by kernel_rfl) rfl ?_ ?_
  · rw [h.hP]; exact ⟨_, Tryz.func112, by kernel_rfl, by kernel_rfl⟩
  · rintro xs ⟨f, n, rfl⟩; exact ⟨_, f, n, rfl, rfl⟩
  · rintro xs ⟨f, n, rfl⟩
    refine ⟨by rw [Tryz.ntmps112]; simp, ?_⟩
    simp only [go_sem, h.hP, List.cons_append, List.nil_append, Meets_e, Below_e, Prod.exists, exists_eq, exists_eq_left, exists_eq_left', exists_eq_right, exists_eq_right', exists_and_left, exists_and_right, Ob.arr.injEq, AV.own.injEq, AV.fv.injEq, find1SNd_q, find1SNd_p, find1SNd_c, find1SNd_f, cmpTSp_q, cmpTSp_p, cmpTSp_c, cmpTSp_f, TNeed.row, Tryz.ntmps112, Nat.reduceEqDiff, reduceCtorEq, Nat.reduceMul, Nat.reduceAdd, Nat.reduceSub, Nat.reduceDiv, Nat.reduceMod, Nat.reduceLeDiff, Nat.reduceLT, Nat.reduceBNe, Nat.reduceBEq, reduceIte, Int.reduceLE, Int.reduceLT, Int.reduceToNat, Int.reduceNeg, Int.reduceAdd, Int.reduceSub, Int.reduceMul, Int.reduceEq]
def cmpΦNd (caps : List (List D)) : FSpec where
  pre xs := caps = [] ∧ ∃ (f : TNeed) (n : ByteArray), xs = [.ag f.row, .d (.str n)]
  post xs r := caps = [] ∧ ∃ (f : TNeed) (n : ByteArray), xs = [.ag f.row, .d (.str n)] ∧ r = .d (.int .i64 (cmpT f.name n))
theorem cmpΦNd_of {cx : Cx} {fn : FuncId} (h : Ctr cx fn find1SNd) (caps : List (List D)) : Ctr cx fn (clo cmpΦNd caps) := by
  refine h.weaken (fun xs hx => ?_) (fun xs r hx hr => ?_) (fun _ => Nat.le_refl _) rfl
  · obtain ⟨ys, rfl, rfl, f, n, rfl⟩ := hx
    exact ⟨f, n, rfl⟩
  · obtain ⟨ys, rfl, rfl, f, n, rfl⟩ := hx
    obtain ⟨f', n', e, rfl⟩ := hr
    simp only [List.map_cons, List.map_nil, List.append_nil, List.cons.injEq, AV.dv.injEq, DV.ag.injEq, DV.d.injEq, D.str.injEq, and_true] at e
    obtain ⟨e1, rfl⟩ := e
    obtain rfl := TNeed.inj e1
    exact ⟨_, _, rfl, rfl, rfl, f, n, rfl, rfl⟩
theorem cmpΦNd_pre (f : TNeed) (n : ByteArray) : (cmpΦNd []).pre [.ag [.str f.name, .int .i64 f.kind, .bool f.must], .d (.str n)] = True := eq_true ⟨rfl, f, n, rfl⟩
theorem cmpΦNd_post (f : TNeed) (n : ByteArray) (y : DV) : (cmpΦNd []).post [.ag [.str f.name, .int .i64 f.kind, .bool f.must], .d (.str n)] y = (y = .d (.int .i64 (cmpT f.name n))) := by
  apply propext
  constructor
  · rintro ⟨_, f', n', e, rfl⟩
    simp only [List.cons.injEq, DV.ag.injEq, DV.d.injEq, D.str.injEq, and_true] at e
    obtain ⟨e1, rfl⟩ := e
    obtain rfl := TNeed.inj (x := f) e1
    rfl
  · rintro rfl
    exact ⟨rfl, f, n, rfl, rfl⟩
def bsSNd : Spec where
  pre xs := ∃ (l : List TNeed) (n : ByteArray), xs = [.sl (TNeed.rows l), .str n, .fv (cmpΦNd [])] ∧ ascNd l ∧ l.length ≤ 1048576
  post xs r := ∃ (l : List TNeed) (n : ByteArray) (i : Int) (b : Bool), xs = [.sl (TNeed.rows l), .str n, .fv (cmpΦNd [])] ∧ (b = true → 0 ≤ i ∧ i < l.length ∧ (l.getD i.toNat TNeed.z).name = n) ∧ (b = false → ∀ j : Nat, j < l.length → (l.getD j TNeed.z).name ≠ n) ∧ r = .tcons (.i i) (.tcons (.b b) .tnil)
  cost _ := 0
  fresh := true
theorem bsSNd_c (xs : List AV) : bsSNd.cost xs = 0 := nr rfl
theorem bsSNd_f : bsSNd.fresh = true := nr rfl
theorem bsSNd_q (l : List TNeed) (n : ByteArray) : bsSNd.pre [.sl (TNeed.rows l), .str n, .fv (cmpΦNd [])] = (ascNd l ∧ l.length ≤ 1048576) := propext ⟨fun h => by
  have h' : ∃ (l' : List TNeed) (n' : ByteArray), ([.sl (TNeed.rows l), .str n, .fv (cmpΦNd [])] : List AV) = [.sl (TNeed.rows l'), .str n', .fv (cmpΦNd [])] ∧ ascNd l' ∧ l'.length ≤ 1048576 := h
  obtain ⟨l', n', e, h1⟩ := h'
  simp only [List.cons.injEq, AV.dv.injEq, DV.d.injEq, D.sl.injEq, D.str.injEq, TNeed.rows_inj, and_true] at e
  rw [e.1]
  exact h1, fun h => ⟨l, n, rfl, h⟩⟩
theorem bsSNd_p (l : List TNeed) (n : ByteArray) : bsSNd.post [.sl (TNeed.rows l), .str n, .fv (cmpΦNd [])] = fun r => ∃ (i : Int) (b : Bool), ((b = true → 0 ≤ i ∧ i < l.length ∧ (l.getD i.toNat TNeed.z).name = n) ∧ (b = false → ∀ j : Nat, j < l.length → (l.getD j TNeed.z).name ≠ n)) ∧ r = .tcons (.i i) (.tcons (.b b) .tnil) := funext fun r => propext ⟨fun h => by
  have h' : ∃ (l' : List TNeed) (n' : ByteArray) (i : Int) (b : Bool), ([.sl (TNeed.rows l), .str n, .fv (cmpΦNd [])] : List AV) = [.sl (TNeed.rows l'), .str n', .fv (cmpΦNd [])] ∧ (b = true → 0 ≤ i ∧ i < l'.length ∧ (l'.getD i.toNat TNeed.z).name = n') ∧ (b = false → ∀ j : Nat, j < l'.length → (l'.getD j TNeed.z).name ≠ n') ∧ r = .tcons (.i i) (.tcons (.b b) .tnil) := h
  obtain ⟨l', n', i, b, e, h1, h2, h3⟩ := h'
  simp only [List.cons.injEq, AV.dv.injEq, DV.d.injEq, D.sl.injEq, D.str.injEq, TNeed.rows_inj, and_true] at e
  obtain ⟨rfl, rfl⟩ := e
  exact ⟨i, b, ⟨h1, h2⟩, h3⟩, fun ⟨i, b, ⟨h1, h2⟩, h3⟩ => ⟨l, n, i, b, rfl, h1, h2, h3⟩⟩
set_option maxHeartbeats 4000000 in
theorem bs_ctrNd {cx : Cx} (h : Seat cx) : Ctr cx 111 bsSNd := by
  refine ctr_of (fn := Tryz.f111) (l := [.tmp 6, .tmp 7]) (envL []) [0, 1, 2, 6, 7, 8, 9, 10, 11, 17, 31] [8] [] (env0 h.hP) ?_ (by rw [h.hP]; exact Tryz.func111) rfl (by kernel_rfl) rfl ?_ ?_
  · rw [h.hP]; exact ⟨_, Tryz.func111, by kernel_rfl, by kernel_rfl⟩
  · rintro xs ⟨l, n, rfl, h1, h2⟩
    by_cases c : ∃ j : Nat, j < l.length ∧ (l.getD j TNeed.z).name = n
    · obtain ⟨j, j1, j2⟩ := c
      exact ⟨_, l, n, j, true, rfl, fun _ => ⟨by omega, by omega, by rw [Int.toNat_natCast]; exact j2⟩, fun z => (by cases z), rfl⟩
    · exact ⟨_, l, n, 0, false, rfl, fun z => (by cases z), fun _ j j1 j2 => c ⟨j, j1, j2⟩, rfl⟩
  · rintro xs ⟨l, n, rfl, h1, h2⟩
    refine ⟨by rw [Tryz.ntmps111]; simp, ?_⟩
    simp only [go_sem, h.hP, List.cons_append, List.nil_append, Meets_e, Below_e, Prod.exists, exists_eq, exists_eq_left, exists_eq_left', exists_eq_right, exists_eq_right', exists_and_left, exists_and_right, Ob.arr.injEq, AV.own.injEq, AV.fv.injEq, bsSNd_c, bsSNd_f, TNeed.len, Tryz.ntmps111, Nat.reduceEqDiff, reduceCtorEq, Nat.reduceMul, Nat.reduceAdd, Nat.reduceSub, Nat.reduceDiv, Nat.reduceMod, Nat.reduceLeDiff, Nat.reduceLT, Nat.reduceBNe, Nat.reduceBEq, reduceIte, Int.reduceLE, Int.reduceLT, Int.reduceToNat, Int.reduceNeg, Int.reduceAdd, Int.reduceSub, Int.reduceMul, Int.reduceEq]
    refine vc_cutS (Int) (fun (i : Int) => [(9, .i i), (10, .un), (11, .un), (17, .un), (31, .un)]) [] (fun (i : Int) => []) (fun (i : Int) => []) (fun (i : Int) => 0) (fun (i : Int) => 0 ≤ i ∧ i ≤ l.length ∧ (∀ k : Nat, (k : Int) < i → lessS (l.getD k TNeed.z).name n = true) ∧ (∀ k : Nat, i ≤ (k : Int) → k < l.length → lessS (l.getD k TNeed.z).name n = false)) [] ?_ ?_ ?_
    · rfl
    · simp only [go_sem, h.hP, List.cons_append, List.nil_append, Meets_e, Below_e, Prod.exists, exists_eq, exists_eq_left, exists_eq_left', exists_eq_right, exists_eq_right', exists_and_left, exists_and_right, Ob.arr.injEq, AV.own.injEq, AV.fv.injEq, TNeed.len, Tryz.ntmps111, Nat.reduceEqDiff, reduceCtorEq, Nat.reduceMul, Nat.reduceAdd, Nat.reduceSub, Nat.reduceDiv, Nat.reduceMod, Nat.reduceLeDiff, Nat.reduceLT, Nat.reduceBNe, Nat.reduceBEq, reduceIte, Int.reduceLE, Int.reduceLT, Int.reduceToNat, Int.reduceNeg, Int.reduceAdd, Int.reduceSub, Int.reduceMul, Int.reduceEq]
      refine vc_loopS (Int × Int) (fun (x : Int × Int) => match x with | (i, j) => [(9, .i i), (10, .i j)]) [] (fun (x : Int × Int) => match x with | (i, j) => []) (fun (x : Int × Int) => match x with | (i, j) => []) (fun (x : Int × Int) => match x with | (i, j) => 0) (fun (x : Int × Int) => match x with | (i, j) => 0 ≤ i ∧ i ≤ j ∧ j ≤ l.length ∧ (∀ k : Nat, (k : Int) < i → lessS (l.getD k TNeed.z).name n = true) ∧ (∀ k : Nat, j ≤ (k : Int) → k < l.length → lessS (l.getD k TNeed.z).name n = false)) (fun (x : Int × Int) => match x with | (i, j) => (j - i).toNat) [] ?_ ?_
      · simp only [go_sem, h.hP, List.cons_append, List.nil_append, Meets_e, Below_e, Prod.exists, exists_eq, exists_eq_left, exists_eq_left', exists_eq_right, exists_eq_right', exists_and_left, exists_and_right, Ob.arr.injEq, AV.own.injEq, AV.fv.injEq, TNeed.len, Tryz.ntmps111, Nat.reduceEqDiff, reduceCtorEq, Nat.reduceMul, Nat.reduceAdd, Nat.reduceSub, Nat.reduceDiv, Nat.reduceMod, Nat.reduceLeDiff, Nat.reduceLT, Nat.reduceBNe, Nat.reduceBEq, reduceIte, Int.reduceLE, Int.reduceLT, Int.reduceToNat, Int.reduceNeg, Int.reduceAdd, Int.reduceSub, Int.reduceMul, Int.reduceEq]
        exact ⟨by omega, by omega, fun k hk => by omega, fun k a b => by omega⟩
      · rintro ⟨i, j⟩ ⟨j1, j2, j3, j4, j5⟩
        simp only [go_sem, h.hP, List.cons_append, List.nil_append, Meets_e, Below_e, Prod.exists, exists_eq, exists_eq_left, exists_eq_left', exists_eq_right, exists_eq_right', exists_and_left, exists_and_right, Ob.arr.injEq, AV.own.injEq, AV.fv.injEq, TNeed.len, TNeed.get, cmpΦNd_pre, cmpΦNd_post, Tryz.ntmps111, Nat.reduceEqDiff, reduceCtorEq, Nat.reduceMul, Nat.reduceAdd, Nat.reduceSub, Nat.reduceDiv, Nat.reduceMod, Nat.reduceLeDiff, Nat.reduceLT, Nat.reduceBNe, Nat.reduceBEq, reduceIte, Int.reduceLE, Int.reduceLT, Int.reduceToNat, Int.reduceNeg, Int.reduceAdd, Int.reduceSub, Int.reduceMul, Int.reduceEq]
        refine ⟨fun c => ?_, fun c => ⟨j1, by omega, j4, fun k a b => j5 k (by omega) b⟩⟩
        rw [i64w (n := i + j) (by omega) (by omega), u64w (n := i + j) (by omega) (by omega), i64w (n := (i + j) / 2) (by omega) (by omega)]
        obtain ⟨m, hm⟩ : ∃ m : Int, m = (i + j) / 2 := ⟨_, rfl⟩
        rw [← hm]
        have m1 : i ≤ m := by omega
        have m2 : m < j := by omega
        clear hm
        refine ⟨by omega, by omega, fun d => ?_, fun d => ?_⟩
        · have d' := cmp_neg.1 d
          rw [i64w (n := m + 1) (by omega) (by omega)]
          refine ⟨by omega, by omega, j3, fun k hk => ?_, j5, by omega⟩
          by_cases e : k = m.toNat
          · rw [e]; exact d'
          · exact lessS_trans (h1 k m.toNat (by omega) (by omega)) d'
        · have dn : lessS (l.getD m.toNat TNeed.z).name n = false := by
            cases e : lessS (l.getD m.toNat TNeed.z).name n with
            | false => rfl
            | true => exact absurd (cmp_neg.2 e) d
          refine ⟨j1, m1, by omega, j4, fun k a b => ?_, by omega⟩
          cases e : lessS (l.getD k TNeed.z).name n with
          | false => rfl
          | true =>
            by_cases q : k = m.toNat
            · rw [q, dn] at e; cases e
            · have := lessS_trans (h1 m.toNat k (by omega) b) e
              rw [dn] at this
              cases this
    · rintro i ⟨j1, j2, j3, j4⟩
      simp only [go_sem, h.hP, List.cons_append, List.nil_append, Meets_e, Below_e, Prod.exists, exists_eq, exists_eq_left, exists_eq_left', exists_eq_right, exists_eq_right', exists_and_left, exists_and_right, Ob.arr.injEq, AV.own.injEq, AV.fv.injEq, bsSNd_c, bsSNd_f, bsSNd_p, TNeed.len, TNeed.get, cmpΦNd_pre, cmpΦNd_post, Tryz.ntmps111, Nat.reduceEqDiff, reduceCtorEq, Nat.reduceMul, Nat.reduceAdd, Nat.reduceSub, Nat.reduceDiv, Nat.reduceMod, Nat.reduceLeDiff, Nat.reduceLT, Nat.reduceBNe, Nat.reduceBEq, reduceIte, Int.reduceLE, Int.reduceLT, Int.reduceToNat, Int.reduceNeg, Int.reduceAdd, Int.reduceSub, Int.reduceMul, Int.reduceEq]
      have hlt : ∀ k : Nat, (k : Int) < i → (l.getD k TNeed.z).name ≠ n := fun k hk e => by
        have := j3 k hk
        rw [e, lessS_irrefl] at this
        cases this
      refine ⟨fun c => ⟨j1, c, i, _, fun z => ⟨j1, c, cmp_zero (by simpa using z)⟩, fun z k hk e => ?_, rfl, rfl⟩, fun c => ⟨i, false, fun z => (by cases z), fun _ k hk e => hlt k (by omega) e, rfl, rfl⟩⟩
      by_cases q : (k : Int) < i
      · exact hlt k q e
      · have hi := j4 i.toNat (by omega) (by omega)
        by_cases q2 : k = i.toNat
        · rw [← q2, e] at z
          have : cmpT n n = 0 := by
            unfold cmpT
            rw [if_neg (by rw [lessS_irrefl]; decide), if_pos rfl]
          rw [this] at z
          cases z
        · have := h1 i.toNat k (by omega) hk
          rw [e, hi] at this
          cases this
theorem asc_of_stepSc {l : List TSchema} (h : ∀ i : Nat, i + 1 < l.length → lessS (l.getD i TSchema.z).name (l.getD (i + 1) TSchema.z).name = true) : ascSc l := by
  intro i j hij
  induction j with
  | zero => omega
  | succ j ih =>
    intro hj
    by_cases e : i = j
    · subst e; exact h i hj
    · exact lessS_trans (ih (by omega) (by omega)) (h j hj)
def findSc (l : List TSchema) (n : ByteArray) : Option TSchema := l.find? fun f => decide (f.name = n)
theorem asc_injSc {l : List TSchema} (h : ascSc l) {i j : Nat} (hi : i < l.length) (hj : j < l.length) (e : (l.getD i TSchema.z).name = (l.getD j TSchema.z).name) : i = j := by
  rcases Nat.lt_trichotomy i j with c | c | c
  · have := h i j c hj
    rw [e, lessS_irrefl] at this
    cases this
  · exact c
  · have := h j i c hi
    rw [e, lessS_irrefl] at this
    cases this
theorem findSc_at {l : List TSchema} (h : ascSc l) {i : Nat} (hi : i < l.length) {n : ByteArray} (e : (l.getD i TSchema.z).name = n) : findSc l n = some (l.getD i TSchema.z) := by
  unfold findSc
  cases hf : l.find? (fun f => decide (f.name = n)) with
  | none =>
    have := List.find?_eq_none.1 hf (l.getD i TSchema.z) (by rw [getD_lt hi]; exact List.getElem_mem hi)
    simp only [decide_eq_true_eq] at this
    exact absurd e this
  | some f =>
    have h1 := List.find?_some hf
    simp only [decide_eq_true_eq] at h1
    obtain ⟨j, hj, hfj⟩ := List.mem_iff_getElem.1 (List.mem_of_find?_eq_some hf)
    have h2 : l.getD j TSchema.z = f := by rw [getD_lt hj]; exact hfj
    have : i = j := asc_injSc h hi hj (by rw [e, h2, h1])
    rw [this, h2]
theorem findSc_no {l : List TSchema} {n : ByteArray} (h : ∀ i : Nat, i < l.length → (l.getD i TSchema.z).name ≠ n) : findSc l n = none := by
  unfold findSc
  rw [List.find?_eq_none]
  intro x hx
  obtain ⟨j, hj, rfl⟩ := List.mem_iff_getElem.1 hx
  have := h j hj
  rw [getD_lt hj] at this
  simpa using this
theorem asc_of_stepNd {l : List TNeed} (h : ∀ i : Nat, i + 1 < l.length → lessS (l.getD i TNeed.z).name (l.getD (i + 1) TNeed.z).name = true) : ascNd l := by
  intro i j hij
  induction j with
  | zero => omega
  | succ j ih =>
    intro hj
    by_cases e : i = j
    · subst e; exact h i hj
    · exact lessS_trans (ih (by omega) (by omega)) (h j hj)
def findNd (l : List TNeed) (n : ByteArray) : Option TNeed := l.find? fun f => decide (f.name = n)
theorem asc_injNd {l : List TNeed} (h : ascNd l) {i j : Nat} (hi : i < l.length) (hj : j < l.length) (e : (l.getD i TNeed.z).name = (l.getD j TNeed.z).name) : i = j := by
  rcases Nat.lt_trichotomy i j with c | c | c
  · have := h i j c hj
    rw [e, lessS_irrefl] at this
    cases this
  · exact c
  · have := h j i c hi
    rw [e, lessS_irrefl] at this
    cases this
theorem findNd_at {l : List TNeed} (h : ascNd l) {i : Nat} (hi : i < l.length) {n : ByteArray} (e : (l.getD i TNeed.z).name = n) : findNd l n = some (l.getD i TNeed.z) := by
  unfold findNd
  cases hf : l.find? (fun f => decide (f.name = n)) with
  | none =>
    have := List.find?_eq_none.1 hf (l.getD i TNeed.z) (by rw [getD_lt hi]; exact List.getElem_mem hi)
    simp only [decide_eq_true_eq] at this
    exact absurd e this
  | some f =>
    have h1 := List.find?_some hf
    simp only [decide_eq_true_eq] at h1
    obtain ⟨j, hj, hfj⟩ := List.mem_iff_getElem.1 (List.mem_of_find?_eq_some hf)
    have h2 : l.getD j TNeed.z = f := by rw [getD_lt hj]; exact hfj
    have : i = j := asc_injNd h hi hj (by rw [e, h2, h1])
    rw [this, h2]
theorem findNd_no {l : List TNeed} {n : ByteArray} (h : ∀ i : Nat, i < l.length → (l.getD i TNeed.z).name ≠ n) : findNd l n = none := by
  unfold findNd
  rw [List.find?_eq_none]
  intro x hx
  obtain ⟨j, hj, rfl⟩ := List.mem_iff_getElem.1 hx
  have := h j hj
  rw [getD_lt hj] at this
  simpa using this
end Go.Avc

/- Events by themselves and by schemas: what is wrong with them, by the program and by the reference. No condition. -/
set_option linter.unusedVariables false
set_option linter.unusedSimpArgs false
set_option maxRecDepth 100000
namespace Go.Avc
open Go Go.Proofs

/-! ### Functions that ask of one or two variables -/
def c1S {α : Type} (row : α → List D) (ok : α → Prop) (F : α → Int) : Spec where
  pre xs := ∃ a, xs = [.dp (row a)] ∧ ok a
  post xs r := ∃ a, xs = [.dp (row a)] ∧ r = .i (F a)
  cost _ := 0
  fresh := true
def c1Φ {α : Type} (row : α → List D) (ok : α → Prop) (F : α → Int) (caps : List (List D)) : FSpec where
  pre xs := ∃ a, caps = [row a] ∧ xs = [] ∧ ok a
  post xs r := ∃ a, caps = [row a] ∧ xs = [] ∧ r = .d (.int .i64 (F a))
section
variable {α : Type} {row : α → List D} {ok : α → Prop} {F : α → Int}
theorem c1_of (inj : ∀ {a b}, row a = row b → a = b) {cx : Cx} {fn : FuncId} (h : Ctr cx fn (c1S row ok F)) (caps : List (List D)) : Ctr cx fn (clo (c1Φ row ok F) caps) := by
  refine h.weaken (fun xs hx => ?_) (fun xs r hx hr => ?_) (fun _ => Nat.le_refl _) rfl
  · obtain ⟨ys, rfl, a, rfl, rfl, h1⟩ := hx
    exact ⟨a, rfl, h1⟩
  · obtain ⟨ys, rfl, a, rfl, rfl, h1⟩ := hx
    obtain ⟨b, q, rfl⟩ := hr
    simp only [List.map_cons, List.map_nil, List.nil_append, List.cons.injEq, AV.dp.injEq, and_true] at q
    obtain rfl := inj q
    exact ⟨_, _, rfl, rfl, a, rfl, rfl, rfl⟩
theorem c1_pre (inj : ∀ {a b}, row a = row b → a = b) (a : α) : (c1Φ row ok F [row a]).pre [] = ok a := propext ⟨fun ⟨b, q, _, h⟩ => by
  simp only [List.cons.injEq, and_true] at q
  obtain rfl := inj q
  exact h, fun h => ⟨a, rfl, rfl, h⟩⟩
theorem c1_post (inj : ∀ {a b}, row a = row b → a = b) (a : α) (y : DV) : (c1Φ row ok F [row a]).post [] y = (y = .d (.int .i64 (F a))) := propext ⟨fun ⟨b, q, _, h⟩ => by
  simp only [List.cons.injEq, and_true] at q
  obtain rfl := inj q
  exact h, fun h => ⟨a, rfl, rfl, h⟩⟩
theorem c1S_q (a : α) : (c1S row ok F).pre [.dp (row a)] = ((∃ b, [AV.dp (row a)] = [AV.dp (row b)] ∧ ok b)) := rfl
theorem c1S_c (xs : List AV) : (c1S row ok F).cost xs = 0 := nr rfl
theorem c1S_f : (c1S row ok F).fresh = true := nr rfl
theorem c1S_p (inj : ∀ {a b}, row a = row b → a = b) (a : α) : (c1S row ok F).post [.dp (row a)] = fun r => r = .i (F a) := funext fun r => propext ⟨fun ⟨b, q, h⟩ => by
  simp only [List.cons.injEq, AV.dp.injEq, and_true] at q
  obtain rfl := inj q
  exact h, fun h => ⟨a, rfl, h⟩⟩
end
/-! ### An event by itself -/
def evF (e : TEvent) : Int := if keyB e.id = false ∨ keyB e.name = false then 5 else if inB e.at_ 0 4321439 = false then 1 else orE (idF e.who) (fieldsF e.fields)
def evS  : Spec where
  pre xs := ∃ (e : TEvent), xs = [.dv (.ag e.row)] ∧ (e.ok)
  post xs y := ∃ (e : TEvent), xs = [.dv (.ag e.row)] ∧ y = .i (evF e)
  cost _ := 0
  fresh := true
theorem evS_c  (xs : List AV) : (evS).cost xs = 0 := nr rfl
theorem evS_f  : (evS).fresh = true := nr rfl
theorem evS_q  (e : TEvent) : (evS).pre [.dv (.ag [.str e.id, .str e.name, .int .i64 e.at_, .int .i64 e.who.kind, .str e.who.text, .sl (TField.rows e.fields)])] = (e.ok) := propext ⟨fun h => by
  have h' : ∃ (e' : TEvent), ([.dv (.ag e.row)] : List AV) = [.dv (.ag e'.row)] ∧ (e'.ok) := h
  obtain ⟨e', e, h⟩ := h'
  simp only [List.cons.injEq, AV.dv.injEq, AV.fv.injEq, DV.d.injEq, DV.ag.injEq, D.int.injEq, D.str.injEq, D.bool.injEq, D.sl.injEq, true_and, and_true, intsDi_inj, rowsT_inj, rowsKi_inj, TEvent.row_inj, TEvent.rows_inj] at e
  obtain rfl := e
  exact h, fun h => ⟨e, rfl, h⟩⟩
theorem evS_p  (e : TEvent) : (evS).post [.dv (.ag [.str e.id, .str e.name, .int .i64 e.at_, .int .i64 e.who.kind, .str e.who.text, .sl (TField.rows e.fields)])] = fun y => y = .i (evF e) := funext fun y => propext ⟨fun h => by
  have h' : ∃ (e' : TEvent), ([.dv (.ag e.row)] : List AV) = [.dv (.ag e'.row)] ∧ y = .i (evF e') := h
  obtain ⟨e', e, h⟩ := h'
  simp only [List.cons.injEq, AV.dv.injEq, AV.fv.injEq, DV.d.injEq, DV.ag.injEq, D.int.injEq, D.str.injEq, D.bool.injEq, D.sl.injEq, true_and, and_true, intsDi_inj, rowsT_inj, rowsKi_inj, TEvent.row_inj, TEvent.rows_inj] at e
  obtain rfl := e
  exact h, fun h => ⟨e, rfl, h⟩⟩
theorem evF_5 {e : TEvent} (c : keyB e.id = false ∨ keyB e.name = false) : evF e = 5 := if_pos c
theorem evF_n {e : TEvent} (a : keyB e.id = true) (b : keyB e.name = true) : evF e = if inB e.at_ 0 4321439 = false then 1 else orE (idF e.who) (fieldsF e.fields) := if_neg fun c => c.elim (ne_ft a) (ne_ft b)
set_option maxHeartbeats 2000000 in
theorem CheckOne_ctr {cx : Cx} (h : Seat cx) (hU : Utf8 cx) (hM : MaxL cx) : Ctr cx 107 evS := by
  refine ctr_of (fn := Tryz.f107) (l := [.tmp 2]) (envL [(54, (strB keyB)), (49, inS), (74, idS), (154, fieldsS)]) [0, 1, 2, 3, 4, 15, 24] [] [] (envL_cons (IsKey_ctr h) (envL_cons (ewithin_ctr h) (envL_cons (CheckId_ctr h hM) (envL_cons (CheckFields_ctr h hU) (env0 h.hP))))) ?_ (by rw [h.hP]; exact Tryz.func107) rfl (by kernel_rfl) rfl ?_ ?_
  · rw [h.hP]; exact ⟨_, Tryz.func107, by kernel_rfl, by kernel_rfl⟩
  · rintro xs ⟨e, rfl, h1⟩; exact ⟨_, e, rfl, rfl⟩
  · rintro xs ⟨e, rfl, h1⟩
    refine ⟨by rw [Tryz.ntmps107]; simp, ?_⟩
    simp only [go_sem, h.hP, List.cons_append, List.nil_append, Meets_e, Below_e, Prod.exists, exists_eq, exists_eq_left, exists_eq_left', exists_eq_right, exists_eq_right', exists_and_left, exists_and_right, Ob.arr.injEq, AV.own.injEq, AV.fv.injEq, evS_q, evS_p, evS_c, evS_f, strB_q, strB_p, strB_c, strB_f, inS_q, inS_p, inS_c, inS_f, idS_q, idS_p, idS_c, idS_f, fieldsS_q, fieldsS_p, fieldsS_c, fieldsS_f, TEvent.row, TId.row, Tryz.ntmps107, Nat.reduceEqDiff, reduceCtorEq, Nat.reduceMul, Nat.reduceAdd, Nat.reduceSub, Nat.reduceDiv, Nat.reduceMod, Nat.reduceLeDiff, Nat.reduceLT, Nat.reduceBNe, Nat.reduceBEq, reduceIte, Int.reduceLE, Int.reduceLT, Int.reduceToNat, Int.reduceNeg, Int.reduceAdd, Int.reduceSub, Int.reduceMul, Int.reduceEq]
    obtain ⟨o1, o2, o3, o4, o5⟩ := h1
    unfold okS at o1 o2
    refine ⟨by omega, fun a => ⟨by omega, fun b => (evF_5 (.inr b)).symm, fun b => ?_⟩, fun a => (evF_5 (.inl a)).symm⟩
    rw [evF_n a b]
    exact ⟨fun c => (if_pos c).symm, fun c => ⟨o4, fun d => ((if_neg (ne_ft c)).trans (orE_l d)).symm, fun d => ⟨o5, ((if_neg (ne_ft c)).trans (orE_r d)).symm⟩⟩⟩
def idOf (e : TEvent) : Int := idF e.who
def fieldsOf (e : TEvent) : Int := fieldsF e.fields
theorem ev1_ctr {cx : Cx} (h : Seat cx) (hM : MaxL cx) : Ctr cx 114 (c1S TEvent.row TEvent.ok idOf) := by
  refine ctr_of (fn := Tryz.f114) (l := [.tmp 1]) (envL [(78, idS)]) [0, 1] [] [] (envL_cons (IdFault_ctr h hM) (env0 h.hP)) ?_ (by rw [h.hP]; exact Tryz.func114) rfl (by kernel_rfl) rfl ?_ ?_
  · rw [h.hP]; exact ⟨_, Tryz.func114, by kernel_rfl, by kernel_rfl⟩
  · rintro xs ⟨e, rfl, h1⟩; exact ⟨_, e, rfl, rfl⟩
  · rintro xs ⟨e, rfl, h1⟩
    refine ⟨by rw [Tryz.ntmps114]; simp, ?_⟩
    simp only [go_sem, h.hP, List.cons_append, List.nil_append, Meets_e, Below_e, Prod.exists, exists_eq, exists_eq_left, exists_eq_left', exists_eq_right, exists_eq_right', exists_and_left, exists_and_right, Ob.arr.injEq, AV.own.injEq, AV.fv.injEq, idS_q, idS_p, idS_c, idS_f, c1S_c, c1S_f, TEvent.row, TId.row, Tryz.ntmps114, Nat.reduceEqDiff, reduceCtorEq, Nat.reduceMul, Nat.reduceAdd, Nat.reduceSub, Nat.reduceDiv, Nat.reduceMod, Nat.reduceLeDiff, Nat.reduceLT, Nat.reduceBNe, Nat.reduceBEq, reduceIte, Int.reduceLE, Int.reduceLT, Int.reduceToNat, Int.reduceNeg, Int.reduceAdd, Int.reduceSub, Int.reduceMul, Int.reduceEq]
    exact ⟨h1.2.2.2.1, e, rfl, rfl⟩
theorem ev2_ctr {cx : Cx} (h : Seat cx) (hU : Utf8 cx) : Ctr cx 115 (c1S TEvent.row TEvent.ok fieldsOf) := by
  refine ctr_of (fn := Tryz.f115) (l := [.tmp 1]) (envL [(116, fieldsS)]) [0, 1] [] [] (envL_cons (FieldsFault_ctr h hU) (env0 h.hP)) ?_ (by rw [h.hP]; exact Tryz.func115) rfl (by kernel_rfl) rfl ?_ ?_
  · rw [h.hP]; exact ⟨_, Tryz.func115, by kernel_rfl, by kernel_rfl⟩
  · rintro xs ⟨e, rfl, h1⟩; exact ⟨_, e, rfl, rfl⟩
  · rintro xs ⟨e, rfl, h1⟩
    refine ⟨by rw [Tryz.ntmps115]; simp, ?_⟩
    simp only [go_sem, h.hP, List.cons_append, List.nil_append, Meets_e, Below_e, Prod.exists, exists_eq, exists_eq_left, exists_eq_left', exists_eq_right, exists_eq_right', exists_and_left, exists_and_right, Ob.arr.injEq, AV.own.injEq, AV.fv.injEq, fieldsS_q, fieldsS_p, fieldsS_c, fieldsS_f, c1S_c, c1S_f, TEvent.row, TId.row, Tryz.ntmps115, Nat.reduceEqDiff, reduceCtorEq, Nat.reduceMul, Nat.reduceAdd, Nat.reduceSub, Nat.reduceDiv, Nat.reduceMod, Nat.reduceLeDiff, Nat.reduceLT, Nat.reduceBNe, Nat.reduceBEq, reduceIte, Int.reduceLE, Int.reduceLT, Int.reduceToNat, Int.reduceNeg, Int.reduceAdd, Int.reduceSub, Int.reduceMul, Int.reduceEq]
    exact ⟨h1.2.2.2.2, e, rfl, rfl⟩
set_option maxHeartbeats 2000000 in
theorem eventFault_ctr {cx : Cx} (h : Seat cx) (hU : Utf8 cx) (hM : MaxL cx) : Ctr cx 66 evS := by
  refine ctr_of (fn := Tryz.f66) (l := [.tmp 2]) (envF [(52, (strB keyB)), (53, inS)] [(114, (c1Φ TEvent.row TEvent.ok idOf)), (115, (c1Φ TEvent.row TEvent.ok fieldsOf))]) [0, 1, 2, 3, 14] [] [(5, [], [])] (envF_cons (c1_of TEvent.inj (ev1_ctr h hM)) (envF_cons (c1_of TEvent.inj (ev2_ctr h hU)) (envF_nil (envL_cons (Key_ctr h) (envL_cons (in_ctr h) (env0 h.hP)))))) ?_ (by rw [h.hP]; exact Tryz.func66) rfl (by kernel_rfl) rfl ?_ ?_
  · rw [h.hP]; exact ⟨_, Tryz.func66, by kernel_rfl, by kernel_rfl⟩
  · rintro xs ⟨e, rfl, h1⟩; exact ⟨_, e, rfl, rfl⟩
  · rintro xs ⟨e, rfl, h1⟩
    refine ⟨by rw [Tryz.ntmps66]; simp, ?_⟩
    have q1 : (c1Φ TEvent.row TEvent.ok idOf [[.str e.id, .str e.name, .int .i64 e.at_, .int .i64 e.who.kind, .str e.who.text, .sl (TField.rows e.fields)]]).pre [] = e.ok := c1_pre (row := TEvent.row) TEvent.inj e
    have p1 : ∀ y, (c1Φ TEvent.row TEvent.ok idOf [[.str e.id, .str e.name, .int .i64 e.at_, .int .i64 e.who.kind, .str e.who.text, .sl (TField.rows e.fields)]]).post [] y = (y = .d (.int .i64 (idOf e))) := c1_post (row := TEvent.row) TEvent.inj e
    have q2 : (c1Φ TEvent.row TEvent.ok fieldsOf [[.str e.id, .str e.name, .int .i64 e.at_, .int .i64 e.who.kind, .str e.who.text, .sl (TField.rows e.fields)]]).pre [] = e.ok := c1_pre (row := TEvent.row) TEvent.inj e
    have p2 : ∀ y, (c1Φ TEvent.row TEvent.ok fieldsOf [[.str e.id, .str e.name, .int .i64 e.at_, .int .i64 e.who.kind, .str e.who.text, .sl (TField.rows e.fields)]]).post [] y = (y = .d (.int .i64 (fieldsOf e))) := c1_post (row := TEvent.row) TEvent.inj e
    simp only [go_sem, h.hP, List.cons_append, List.nil_append, Meets_e, Below_e, Prod.exists, exists_eq, exists_eq_left, exists_eq_left', exists_eq_right, exists_eq_right', exists_and_left, exists_and_right, Ob.arr.injEq, AV.own.injEq, AV.fv.injEq, evS_q, evS_p, evS_c, evS_f, strB_q, strB_p, strB_c, strB_f, inS_q, inS_p, inS_c, inS_f, q1, p1, q2, p2, TEvent.row, DV.d.injEq, D.int.injEq, Tryz.ntmps66, Nat.reduceEqDiff, reduceCtorEq, Nat.reduceMul, Nat.reduceAdd, Nat.reduceSub, Nat.reduceDiv, Nat.reduceMod, Nat.reduceLeDiff, Nat.reduceLT, Nat.reduceBNe, Nat.reduceBEq, reduceIte, Int.reduceLE, Int.reduceLT, Int.reduceToNat, Int.reduceNeg, Int.reduceAdd, Int.reduceSub, Int.reduceMul, Int.reduceEq]
    obtain ⟨o1, o2, o3, o4, o5⟩ := id h1
    unfold okS at o1 o2
    refine ⟨by omega, fun a => ⟨by omega, fun b => (evF_5 (.inr b)).symm, fun b => ?_⟩, fun a => (evF_5 (.inl a)).symm⟩
    rw [evF_n a b]
    exact ⟨fun c => (if_pos c).symm, fun c => ⟨h1, fun d => ((if_neg (ne_ft c)).trans (orE_l d)).symm, fun d => ⟨h1, fun f => ((if_neg (ne_ft c)).trans (orE_r d)).symm, fun f => (((if_neg (ne_ft c)).trans (orE_r d)).trans f).symm⟩⟩⟩
end Go.Avc

/- An event by schemas: plain law; the program and the reference. No condition. -/
set_option linter.unusedVariables false
set_option linter.unusedSimpArgs false
set_option maxRecDepth 100000
namespace Go.Avc
open Go Go.Proofs

/-! ### Plain law -/
theorem asc_of_needs {l : List TNeed} (h : needsF l = 0) : ascNd l ∧ l.length ≤ 30 := by
  unfold needsF at h
  have h1 : ¬ 30 < (l.length : Int) := fun e => by rw [if_pos e] at h; cases h
  rw [if_neg h1] at h
  refine ⟨asc_of_stepNd fun i hi => ?_, by omega⟩
  have hz := firstI_zero h (i + 1) hi
  unfold needE at hz
  split at hz
  · cases hz
  · split at hz
    · cases hz
    · split at hz
      · cases hz
      · rename_i c
        refine lessS_total fun e => c ⟨by omega, ?_⟩
        rw [show i + 1 - 1 = i by omega]
        exact e
theorem asc_of_schemas {l : List TSchema} (h : schemasF l = 0) : ascSc l ∧ l.length ≤ 60 ∧ ∀ i : Nat, i < l.length → needsF (l.getD i TSchema.z).needs = 0 := by
  unfold schemasF at h
  have h1 : ¬ 60 < (l.length : Int) := fun e => by rw [if_pos e] at h; cases h
  rw [if_neg h1] at h
  refine ⟨asc_of_stepSc fun i hi => ?_, by omega, fun i hi => ?_⟩
  · have hz := firstI_zero h (i + 1) hi
    unfold schE at hz
    split at hz
    · cases hz
    · split at hz
      · cases hz
      · rename_i c
        refine lessS_total fun e => c ⟨by omega, ?_⟩
        rw [show i + 1 - 1 = i by omega]
        exact e
  · have hz := firstI_zero h i hi
    unfold schE at hz
    split at hz
    · cases hz
    · split at hz
      · cases hz
      · exact hz
def fldE (needs : List TNeed) (l : List TField) (i : Nat) : Int := match findNd needs (l.getD i TField.z).name with
  | none => 8
  | some n => if n.kind = (l.getD i TField.z).value.kind then 0 else 10
def mustE (l : List TField) (needs : List TNeed) (i : Nat) : Int := if (needs.getD i TNeed.z).must = true ∧ (findF l (needs.getD i TNeed.z).name).isSome = false then 3 else 0
def suitN (needs : List TNeed) (l : List TField) : Int := orE (firstI l.length (fldE needs l)) (firstI needs.length (mustE l needs))
def suitF (l : List TSchema) (e : TEvent) : Int := match findSc l e.name with
  | none => 8
  | some s => suitN s.needs e.fields
/-! ### The program -/
def suitsS  : Spec where
  pre xs := ∃ (l : List TSchema) (e : TEvent), xs = [.sl (TSchema.rows l), .dv (.ag e.row)] ∧ (okL TSchema.ok l ∧ e.ok ∧ schemasF l = 0)
  post xs y := ∃ (l : List TSchema) (e : TEvent), xs = [.sl (TSchema.rows l), .dv (.ag e.row)] ∧ y = .i (orE (evF e) (suitF l e))
  cost _ := 0
  fresh := true
theorem suitsS_c  (xs : List AV) : (suitsS).cost xs = 0 := nr rfl
theorem suitsS_f  : (suitsS).fresh = true := nr rfl
theorem suitsS_q  (l : List TSchema) (e : TEvent) : (suitsS).pre [.sl (TSchema.rows l), .dv (.ag [.str e.id, .str e.name, .int .i64 e.at_, .int .i64 e.who.kind, .str e.who.text, .sl (TField.rows e.fields)])] = (okL TSchema.ok l ∧ e.ok ∧ schemasF l = 0) := propext ⟨fun h => by
  have h' : ∃ (l' : List TSchema) (e' : TEvent), ([.sl (TSchema.rows l), .dv (.ag e.row)] : List AV) = [.sl (TSchema.rows l'), .dv (.ag e'.row)] ∧ (okL TSchema.ok l' ∧ e'.ok ∧ schemasF l' = 0) := h
  obtain ⟨l', e', e, h⟩ := h'
  simp only [List.cons.injEq, AV.dv.injEq, AV.fv.injEq, DV.d.injEq, DV.ag.injEq, D.int.injEq, D.str.injEq, D.bool.injEq, D.sl.injEq, true_and, and_true, intsDi_inj, rowsT_inj, rowsKi_inj, TSchema.row_inj, TSchema.rows_inj, TEvent.row_inj, TEvent.rows_inj] at e
  obtain ⟨rfl, rfl⟩ := e
  exact h, fun h => ⟨l, e, rfl, h⟩⟩
theorem suitsS_p  (l : List TSchema) (e : TEvent) : (suitsS).post [.sl (TSchema.rows l), .dv (.ag [.str e.id, .str e.name, .int .i64 e.at_, .int .i64 e.who.kind, .str e.who.text, .sl (TField.rows e.fields)])] = fun y => y = .i (orE (evF e) (suitF l e)) := funext fun y => propext ⟨fun h => by
  have h' : ∃ (l' : List TSchema) (e' : TEvent), ([.sl (TSchema.rows l), .dv (.ag e.row)] : List AV) = [.sl (TSchema.rows l'), .dv (.ag e'.row)] ∧ y = .i (orE (evF e') (suitF l' e')) := h
  obtain ⟨l', e', e, h⟩ := h'
  simp only [List.cons.injEq, AV.dv.injEq, AV.fv.injEq, DV.d.injEq, DV.ag.injEq, D.int.injEq, D.str.injEq, D.bool.injEq, D.sl.injEq, true_and, and_true, intsDi_inj, rowsT_inj, rowsKi_inj, TSchema.row_inj, TSchema.rows_inj, TEvent.row_inj, TEvent.rows_inj] at e
  obtain ⟨rfl, rfl⟩ := e
  exact h, fun h => ⟨l, e, rfl, h⟩⟩
theorem evF_fields {e : TEvent} (h : evF e = 0) : fieldsF e.fields = 0 := by
  unfold evF at h
  split at h
  · cases h
  split at h
  · cases h
  exact (orE_zero h).2
set_option maxHeartbeats 8000000 in
theorem suits_ctr {cx : Cx} (h : Seat cx) (hU : Utf8 cx) (hM : MaxL cx) : Ctr cx 62 suitsS := by
  refine ctr_of (fn := Tryz.f62) (l := [.tmp 4]) (envF [(107, evS), (108, bsSSc), (111, bsSNd), (113, findS)] [(109, cmpΦSc), (112, cmpΦNd)]) [0, 1, 3, 4, 5, 6, 7, 8, 10, 11, 12, 14, 16, 20, 30, 37, 38, 39, 40, 50, 53, 64, 65, 66, 67, 83] [17] [] (envF_cons (cmpΦSc_of (find1_ctrSc h)) (envF_cons (cmpΦNd_of (find1_ctrNd h)) (envF_nil (envL_cons (CheckOne_ctr h hU hM) (envL_cons (bs_ctrSc h) (envL_cons (bs_ctrNd h) (envL_cons (Find_ctr h) (env0 h.hP)))))))) ?_ (by rw [h.hP]; exact Tryz.func62) rfl (by kernel_rfl) rfl ?_ ?_
  · rw [h.hP]; exact ⟨_, Tryz.func62, by kernel_rfl, by kernel_rfl⟩
  · rintro xs ⟨l, e, rfl, h1⟩; exact ⟨_, l, e, rfl, rfl⟩
  · rintro xs ⟨l, e, rfl, h1, h2, h3⟩
    obtain ⟨a1, a2, a3⟩ := asc_of_schemas h3
    refine ⟨by rw [Tryz.ntmps62]; simp, ?_⟩
    simp only [go_sem, h.hP, List.cons_append, List.nil_append, Meets_e, Below_e, Prod.exists, exists_eq, exists_eq_left, exists_eq_left', exists_eq_right, exists_eq_right', exists_and_left, exists_and_right, Ob.arr.injEq, AV.own.injEq, AV.fv.injEq, suitsS_q, suitsS_p, suitsS_c, suitsS_f, evS_q, evS_p, evS_c, evS_f, bsSSc_c, bsSSc_f, bsSSc_p, bsSSc_q, TEvent.row, TSchema.len, TSchema.get, TNeed.len, TField.len, Tryz.ntmps62, Nat.reduceEqDiff, reduceCtorEq, Nat.reduceMul, Nat.reduceAdd, Nat.reduceSub, Nat.reduceDiv, Nat.reduceMod, Nat.reduceLeDiff, Nat.reduceLT, Nat.reduceBNe, Nat.reduceBEq, reduceIte, Int.reduceLE, Int.reduceLT, Int.reduceToNat, Int.reduceNeg, Int.reduceAdd, Int.reduceSub, Int.reduceMul, Int.reduceEq]
    refine ⟨h2, fun c => (orE_l c).symm, fun c => ⟨a1, by omega, fun i b p1 p2 => ⟨fun d => ?_, fun d => ?_⟩⟩⟩
    · rw [orE_r c]
      unfold suitF
      rw [findSc_no (p2 d)]
    obtain ⟨q1, q2, q3⟩ := p1 d
    have hf := findSc_at a1 (i := i.toNat) (by omega) q3
    have hs : orE (evF e) (suitF l e) = suitN (l.getD i.toNat TSchema.z).needs e.fields := by
      rw [orE_r c]
      unfold suitF
      rw [hf]
    rw [hs]
    obtain ⟨b1, b2⟩ := asc_of_needs (a3 i.toNat (by omega))
    have hv : okL TNeed.ok (l.getD i.toNat TSchema.z).needs := (okL_get h1 TSchema.z_ok _).2
    generalize (l.getD i.toNat TSchema.z).needs = nd at b1 b2 hv ⊢
    obtain ⟨c1, c2⟩ := asc_of_fields (evF_fields c)
    have hF : okL TField.ok e.fields := h2.2.2.2.2
    refine ⟨q1, q2, ?_⟩
    refine vc_cutS (Unit) (fun (u : Unit) => [(39, .un)]) [3] (fun (u : Unit) => []) (fun (u : Unit) => []) (fun (u : Unit) => 0) (fun (u : Unit) => firstI e.fields.length (fldE nd e.fields) = 0) [] ?_ ?_ ?_
    · rfl
    · simp only [go_sem, h.hP, Tryz.ntmps62, Nat.reduceEqDiff, reduceCtorEq, Nat.reduceMul, Nat.reduceAdd, Nat.reduceSub, Nat.reduceDiv, Nat.reduceMod, Nat.reduceLeDiff, Nat.reduceLT, Nat.reduceBNe, Nat.reduceBEq, reduceIte, Int.reduceLE, Int.reduceLT, Int.reduceToNat, Int.reduceNeg, Int.reduceAdd, Int.reduceSub, Int.reduceMul, Int.reduceEq]
      refine vc_loopS (Int) (fun (i : Int) => [(39, .i i)]) [3] (fun (i : Int) => []) (fun (i : Int) => []) (fun (i : Int) => 0) (fun (i : Int) => Rounds e.fields.length (fldE nd e.fields) i) (fun (i : Int) => (e.fields.length - i).toNat) [] ?_ ?_
      · simp only [go_sem, h.hP, List.cons_append, List.nil_append, Meets_e, Below_e, Prod.exists, exists_eq, exists_eq_left, exists_eq_left', exists_eq_right, exists_eq_right', exists_and_left, exists_and_right, Ob.arr.injEq, AV.own.injEq, AV.fv.injEq, Tryz.ntmps62, Nat.reduceEqDiff, reduceCtorEq, Nat.reduceMul, Nat.reduceAdd, Nat.reduceSub, Nat.reduceDiv, Nat.reduceMod, Nat.reduceLeDiff, Nat.reduceLT, Nat.reduceBNe, Nat.reduceBEq, reduceIte, Int.reduceLE, Int.reduceLT, Int.reduceToNat, Int.reduceNeg, Int.reduceAdd, Int.reduceSub, Int.reduceMul, Int.reduceEq]
        exact Rounds.start
      · rintro i hr
        obtain ⟨hi, hS, hM, hE, hN⟩ := hr.use (by omega)
        simp only [go_sem, h.hP, List.cons_append, List.nil_append, Meets_e, Below_e, Prod.exists, exists_eq, exists_eq_left, exists_eq_left', exists_eq_right, exists_eq_right', exists_and_left, exists_and_right, Ob.arr.injEq, AV.own.injEq, AV.fv.injEq, suitsS_q, suitsS_p, suitsS_c, suitsS_f, bsSNd_c, bsSNd_f, bsSNd_p, bsSNd_q, TField.len, TField.get, TNeed.len, TNeed.get, Tryz.ntmps62, Nat.reduceEqDiff, reduceCtorEq, Nat.reduceMul, Nat.reduceAdd, Nat.reduceSub, Nat.reduceDiv, Nat.reduceMod, Nat.reduceLeDiff, Nat.reduceLT, Nat.reduceBNe, Nat.reduceBEq, reduceIte, Int.reduceLE, Int.reduceLT, Int.reduceToNat, Int.reduceNeg, Int.reduceAdd, Int.reduceSub, Int.reduceMul, Int.reduceEq]
        have out : ∀ c' : Int, i < e.fields.length → fldE nd e.fields i.toNat = c' → c' ≠ 0 → c' = suitN nd e.fields := fun c' q r v => ((orE_l (by rw [hE c' q r v]; exact v)).trans (hE c' q r v)).symm
        refine ⟨fun q => ⟨hi, q, b1, by omega, fun j bb r1 r2 => ⟨fun z => ?_, fun z => ?_⟩⟩, hN⟩
        · exact out 8 q (by unfold fldE; rw [findNd_no (r2 z)]) (by decide)
        · obtain ⟨s1, s2, s3⟩ := r1 z
          have hn := findNd_at b1 (i := j.toNat) (by omega) s3
          exact ⟨s1, s2, fun w => out 10 q (by unfold fldE; rw [hn]; exact if_neg w) (by decide), fun w => ⟨hS q (by unfold fldE; rw [hn]; exact if_pos w), hM q⟩⟩
    · rintro u hu
      simp only [go_sem, h.hP, Tryz.ntmps62, Nat.reduceEqDiff, reduceCtorEq, Nat.reduceMul, Nat.reduceAdd, Nat.reduceSub, Nat.reduceDiv, Nat.reduceMod, Nat.reduceLeDiff, Nat.reduceLT, Nat.reduceBNe, Nat.reduceBEq, reduceIte, Int.reduceLE, Int.reduceLT, Int.reduceToNat, Int.reduceNeg, Int.reduceAdd, Int.reduceSub, Int.reduceMul, Int.reduceEq]
      refine vc_loopS (Int) (fun (k : Int) => [(66, .i k)]) [3] (fun (k : Int) => []) (fun (k : Int) => []) (fun (k : Int) => 0) (fun (k : Int) => Rounds nd.length (mustE e.fields nd) k) (fun (k : Int) => (nd.length - k).toNat) [] ?_ ?_
      · simp only [go_sem, h.hP, List.cons_append, List.nil_append, Meets_e, Below_e, Prod.exists, exists_eq, exists_eq_left, exists_eq_left', exists_eq_right, exists_eq_right', exists_and_left, exists_and_right, Ob.arr.injEq, AV.own.injEq, AV.fv.injEq, Tryz.ntmps62, Nat.reduceEqDiff, reduceCtorEq, Nat.reduceMul, Nat.reduceAdd, Nat.reduceSub, Nat.reduceDiv, Nat.reduceMod, Nat.reduceLeDiff, Nat.reduceLT, Nat.reduceBNe, Nat.reduceBEq, reduceIte, Int.reduceLE, Int.reduceLT, Int.reduceToNat, Int.reduceNeg, Int.reduceAdd, Int.reduceSub, Int.reduceMul, Int.reduceEq]
        exact Rounds.start
      · rintro k kr
        obtain ⟨ki, kS, kM, kE, kN⟩ := kr.use (by omega)
        simp only [go_sem, h.hP, List.cons_append, List.nil_append, Meets_e, Below_e, Prod.exists, exists_eq, exists_eq_left, exists_eq_left', exists_eq_right, exists_eq_right', exists_and_left, exists_and_right, Ob.arr.injEq, AV.own.injEq, AV.fv.injEq, suitsS_q, suitsS_p, suitsS_c, suitsS_f, findS_c, findS_f, findS_p, findS_q, TField.len, TNeed.len, TNeed.get, TValue.row, Tryz.ntmps62, Nat.reduceEqDiff, reduceCtorEq, Nat.reduceMul, Nat.reduceAdd, Nat.reduceSub, Nat.reduceDiv, Nat.reduceMod, Nat.reduceLeDiff, Nat.reduceLT, Nat.reduceBNe, Nat.reduceBEq, reduceIte, Int.reduceLE, Int.reduceLT, Int.reduceToNat, Int.reduceNeg, Int.reduceAdd, Int.reduceSub, Int.reduceMul, Int.reduceEq]
        refine ⟨fun q => ⟨ki, q, c1, by omega, fun v _ => ⟨fun m => ⟨fun z => ?_, fun z => ?_⟩, fun m => ?_⟩⟩, fun q => ?_⟩
        · exact ((orE_r hu).trans (kE 3 q (if_pos ⟨m, z⟩) (by decide))).symm
        · exact ⟨kS q (if_neg fun w => by rw [z] at w; cases w.2), kM q⟩
        · exact ⟨kS q (if_neg fun w => by rw [m] at w; cases w.1), kM q⟩
        · exact ((orE_r hu).trans (kN q)).symm
def schFS  : Spec where
  pre xs := ∃ (l : List TSchema) (e : TEvent), xs = [.sl (TSchema.rows l), .dv (.ag e.row)] ∧ (okL TSchema.ok l ∧ e.ok ∧ schemasF l = 0 ∧ evF e = 0)
  post xs y := ∃ (l : List TSchema) (e : TEvent), xs = [.sl (TSchema.rows l), .dv (.ag e.row)] ∧ y = .i (suitF l e)
  cost _ := 0
  fresh := true
theorem schFS_c  (xs : List AV) : (schFS).cost xs = 0 := nr rfl
theorem schFS_f  : (schFS).fresh = true := nr rfl
theorem schFS_q  (l : List TSchema) (e : TEvent) : (schFS).pre [.sl (TSchema.rows l), .dv (.ag [.str e.id, .str e.name, .int .i64 e.at_, .int .i64 e.who.kind, .str e.who.text, .sl (TField.rows e.fields)])] = (okL TSchema.ok l ∧ e.ok ∧ schemasF l = 0 ∧ evF e = 0) := propext ⟨fun h => by
  have h' : ∃ (l' : List TSchema) (e' : TEvent), ([.sl (TSchema.rows l), .dv (.ag e.row)] : List AV) = [.sl (TSchema.rows l'), .dv (.ag e'.row)] ∧ (okL TSchema.ok l' ∧ e'.ok ∧ schemasF l' = 0 ∧ evF e' = 0) := h
  obtain ⟨l', e', e, h⟩ := h'
  simp only [List.cons.injEq, AV.dv.injEq, AV.fv.injEq, DV.d.injEq, DV.ag.injEq, D.int.injEq, D.str.injEq, D.bool.injEq, D.sl.injEq, true_and, and_true, intsDi_inj, rowsT_inj, rowsKi_inj, TSchema.row_inj, TSchema.rows_inj, TEvent.row_inj, TEvent.rows_inj] at e
  obtain ⟨rfl, rfl⟩ := e
  exact h, fun h => ⟨l, e, rfl, h⟩⟩
theorem schFS_p  (l : List TSchema) (e : TEvent) : (schFS).post [.sl (TSchema.rows l), .dv (.ag [.str e.id, .str e.name, .int .i64 e.at_, .int .i64 e.who.kind, .str e.who.text, .sl (TField.rows e.fields)])] = fun y => y = .i (suitF l e) := funext fun y => propext ⟨fun h => by
  have h' : ∃ (l' : List TSchema) (e' : TEvent), ([.sl (TSchema.rows l), .dv (.ag e.row)] : List AV) = [.sl (TSchema.rows l'), .dv (.ag e'.row)] ∧ y = .i (suitF l' e') := h
  obtain ⟨l', e', e, h⟩ := h'
  simp only [List.cons.injEq, AV.dv.injEq, AV.fv.injEq, DV.d.injEq, DV.ag.injEq, D.int.injEq, D.str.injEq, D.bool.injEq, D.sl.injEq, true_and, and_true, intsDi_inj, rowsT_inj, rowsKi_inj, TSchema.row_inj, TSchema.rows_inj, TEvent.row_inj, TEvent.rows_inj] at e
  obtain ⟨rfl, rfl⟩ := e
  exact h, fun h => ⟨l, e, rfl, h⟩⟩
end Go.Avc

/- An event by schemas: the reference. No condition. -/
set_option linter.unusedVariables false
set_option linter.unusedSimpArgs false
set_option maxRecDepth 100000
namespace Go.Avc
open Go Go.Proofs

theorem idxB_hit {α : Type} {p : α → Bool} {l : List α} {d : α} (h : 0 ≤ idxB p l) : p (l.getD (idxB p l).toNat d) = true := by
  unfold idxB at h ⊢
  cases e : l.findIdx? p with
  | none => rw [e] at h; simp at h
  | some i =>
    obtain ⟨hi, hp, _⟩ := List.findIdx?_eq_some_iff_getElem.1 e
    simp only [Int.toNat_natCast]
    rw [List.getD_eq_getElem?_getD, List.getElem?_eq_getElem hi]
    exact hp
theorem idxB_miss {α : Type} {p : α → Bool} {l : List α} {d : α} (h : idxB p l < 0) : ∀ j : Nat, j < l.length → p (l.getD j d) = false := fun j hj => by
  have := idxB_ge p l
  rw [decide_eq_false (by omega)] at this
  cases e : p (l.getD j d) with
  | false => rfl
  | true =>
    exfalso
    have q : l.any p = true := List.any_eq_true.2 ⟨_, by rw [List.getD_eq_getElem?_getD, List.getElem?_eq_getElem hj]; exact List.getElem_mem hj, e⟩
    rw [q] at this
    cases this
def FEv (e : TEvent) : List (List D) := [e.row]
theorem FEv_inj : ∀ a b, FEv a = FEv b → a = b := fun a b h => by
  simp only [FEv, List.cons.injEq, and_true] at h
  exact TEvent.inj h
def schR (s : TSchema) : DV := .ag s.row
theorem schR_inj : ∀ a b, schR a = schR b → a = b := ag_inj fun _ _ => TSchema.inj
def schΦ : List (List D) → FSpec := csp FEv schR fun e s => decide (s.name = e.name)
theorem schΦ_h (e : TEvent) (s : TSchema) : (schΦ [[.str e.id, .str e.name, .int .i64 e.at_, .int .i64 e.who.kind, .str e.who.text, .sl (TField.rows e.fields)]]).holds (.ag s.row) = decide (s.name = e.name) := csp_holds FEv_inj schR_inj e s
theorem schΦ_hl (e : TEvent) (s : TSchema) : (schΦ [[.str e.id, .str e.name, .int .i64 e.at_, .int .i64 e.who.kind, .str e.who.text, .sl (TField.rows e.fields)]]).holds (.ag [.str s.name, .sl (TNeed.rows s.needs)]) = decide (s.name = e.name) := csp_holds FEv_inj schR_inj e s
theorem schΦ_d (e : TEvent) (s : TSchema) : (schΦ [[.str e.id, .str e.name, .int .i64 e.at_, .int .i64 e.who.kind, .str e.who.text, .sl (TField.rows e.fields)]]).det (.ag [.str s.name, .sl (TNeed.rows s.needs)]) = True := eq_true (csp_det FEv_inj schR_inj e s)
theorem schemaFault1_ctr {cx : Cx} (h : Seat cx) : Ctr cx 118 (cloS FEv schR fun e s => decide (s.name = e.name)) := by
  refine ctr_of (fn := Tryz.f118) (l := [.tmp 3]) (envL []) [0, 1, 2, 3] [] [] (env0 h.hP) ?_ (by rw [h.hP]; exact Tryz.func118) rfl (by kernel_rfl) rfl ?_ ?_
  · rw [h.hP]; exact ⟨_, Tryz.func118, by kernel_rfl, by kernel_rfl⟩
  · rintro xs ⟨c, a, rfl⟩; exact ⟨_, c, a, rfl, rfl⟩
  · rintro xs ⟨c, a, rfl⟩
    refine ⟨by rw [Tryz.ntmps118]; simp [FEv], ?_⟩
    simp only [go_sem, h.hP, List.cons_append, List.nil_append, Meets_e, Below_e, Prod.exists, exists_eq, exists_eq_left, exists_eq_left', exists_eq_right, exists_eq_right', exists_and_left, exists_and_right, Ob.arr.injEq, AV.own.injEq, AV.fv.injEq, cloS, FEv, schR, TSchema.row, TEvent.row, Tryz.ntmps118, Nat.reduceEqDiff, reduceCtorEq, Nat.reduceMul, Nat.reduceAdd, Nat.reduceSub, Nat.reduceDiv, Nat.reduceMod, Nat.reduceLeDiff, Nat.reduceLT, Nat.reduceBNe, Nat.reduceBEq, reduceIte, Int.reduceLE, Int.reduceLT, Int.reduceToNat, Int.reduceNeg, Int.reduceAdd, Int.reduceSub, Int.reduceMul, Int.reduceEq]
    exact ⟨c, a, by simp⟩
def FNd (n : TNeed) : List (List D) := [n.row]
theorem FNd_inj : ∀ a b, FNd a = FNd b → a = b := fun a b h => by
  simp only [FNd, List.cons.injEq, and_true] at h
  exact TNeed.inj h
def fldR (f : TField) : DV := .ag f.row
theorem fldR_inj : ∀ a b, fldR a = fldR b → a = b := ag_inj fun _ _ => TField.inj
def mustΦ : List (List D) → FSpec := csp FNd fldR fun n f => decide (f.name = n.name)
theorem mustΦ_h (n : TNeed) (f : TField) : (mustΦ [[.str n.name, .int .i64 n.kind, .bool n.must]]).holds (.ag f.row) = decide (f.name = n.name) := csp_holds FNd_inj fldR_inj n f
theorem mustΦ_hl (n : TNeed) (f : TField) : (mustΦ [[.str n.name, .int .i64 n.kind, .bool n.must]]).holds (.ag [.str f.name, .int .i64 f.value.kind, .str f.value.text, .int .i64 f.value.number]) = decide (f.name = n.name) := csp_holds FNd_inj fldR_inj n f
theorem mustΦ_d (n : TNeed) (f : TField) : (mustΦ [[.str n.name, .int .i64 n.kind, .bool n.must]]).det (.ag [.str f.name, .int .i64 f.value.kind, .str f.value.text, .int .i64 f.value.number]) = True := eq_true (csp_det FNd_inj fldR_inj n f)
theorem schemaFault3_ctr {cx : Cx} (h : Seat cx) : Ctr cx 121 (cloS FNd fldR fun n f => decide (f.name = n.name)) := by
  refine ctr_of (fn := Tryz.f121) (l := [.tmp 3]) (envL []) [0, 1, 2, 3] [] [] (env0 h.hP) ?_ (by rw [h.hP]; exact Tryz.func121) rfl (by kernel_rfl) rfl ?_ ?_
  · rw [h.hP]; exact ⟨_, Tryz.func121, by kernel_rfl, by kernel_rfl⟩
  · rintro xs ⟨c, a, rfl⟩; exact ⟨_, c, a, rfl, rfl⟩
  · rintro xs ⟨c, a, rfl⟩
    refine ⟨by rw [Tryz.ntmps121]; simp [FNd], ?_⟩
    simp only [go_sem, h.hP, List.cons_append, List.nil_append, Meets_e, Below_e, Prod.exists, exists_eq, exists_eq_left, exists_eq_left', exists_eq_right, exists_eq_right', exists_and_left, exists_and_right, Ob.arr.injEq, AV.own.injEq, AV.fv.injEq, cloS, FNd, fldR, TNeed.row, TField.row, Tryz.ntmps121, Nat.reduceEqDiff, reduceCtorEq, Nat.reduceMul, Nat.reduceAdd, Nat.reduceSub, Nat.reduceDiv, Nat.reduceMod, Nat.reduceLeDiff, Nat.reduceLT, Nat.reduceBNe, Nat.reduceBEq, reduceIte, Int.reduceLE, Int.reduceLT, Int.reduceToNat, Int.reduceNeg, Int.reduceAdd, Int.reduceSub, Int.reduceMul, Int.reduceEq]
    exact ⟨c, a, by simp⟩
theorem indexFunc_TSchema {cx : Cx} (h : Seat cx) : Ctr cx 117 (idxFS DV.ag [.str ⟨#[]⟩, .sl []]) := by
  refine ctr_of (fn := Tryz.f117) (l := [.tmp 4]) (envL []) [0, 1, 4, 5, 7, 8, 9, 16] [] [] (env0 h.hP) ?_ (by rw [h.hP]; exact Tryz.func117) rfl (by kernel_rfl) rfl ?_ ?_
  · rw [h.hP]; exact ⟨_, Tryz.func117, by kernel_rfl, by kernel_rfl⟩
  · rintro xs ⟨rows, sp, rfl, h1, h2, h3⟩; exact ⟨_, rows, sp, rfl, rfl⟩
  · rintro xs ⟨rows, sp, rfl, h1, h2, h3⟩
    have hne : ∀ i, (rows.getD i [.str ⟨#[]⟩, .sl []] = []) = False := fun i => eq_false fun e => by have := h1 i; rw [e] at this; cases this
    have ht : ∀ i, (rows.getD i [.str ⟨#[]⟩, .sl []]).take 2 = rows.getD i [.str ⟨#[]⟩, .sl []] := fun i => List.take_of_length_le (Nat.le_of_eq (h1 i))
    refine ⟨by rw [Tryz.ntmps117]; simp, ?_⟩
    simp only [go_sem, h.hP, idxFS, Tryz.ntmps117, Nat.reduceEqDiff, reduceCtorEq, Nat.reduceMul, Nat.reduceAdd, Nat.reduceSub, Nat.reduceDiv, Nat.reduceMod, Nat.reduceLeDiff, Nat.reduceLT, Nat.reduceBNe, Nat.reduceBEq, reduceIte, Int.reduceLE, Int.reduceLT, Int.reduceToNat, Int.reduceNeg, Int.reduceAdd, Int.reduceSub, Int.reduceMul, Int.reduceEq]
    refine vc_loopS (Int) (fun (i : Int) => [(8, .i i)]) [] (fun (i : Int) => []) (fun (i : Int) => []) (fun (i : Int) => 0) (fun (i : Int) => 0 ≤ i ∧ i ≤ rows.length ∧ ∀ j : Nat, (j : Int) < i → sp.holds (DV.ag (rows.getD j [.str ⟨#[]⟩, .sl []])) = false) (fun (i : Int) => (rows.length - i).toNat) [] ?_ ?_
    · simp only [go_sem, h.hP, List.cons_append, List.nil_append, Meets_e, Below_e, Prod.exists, exists_eq, exists_eq_left, exists_eq_left', exists_eq_right, exists_eq_right', exists_and_left, exists_and_right, Ob.arr.injEq, AV.own.injEq, AV.fv.injEq, Tryz.ntmps117, Nat.reduceEqDiff, reduceCtorEq, Nat.reduceMul, Nat.reduceAdd, Nat.reduceSub, Nat.reduceDiv, Nat.reduceMod, Nat.reduceLeDiff, Nat.reduceLT, Nat.reduceBNe, Nat.reduceBEq, reduceIte, Int.reduceLE, Int.reduceLT, Int.reduceToNat, Int.reduceNeg, Int.reduceAdd, Int.reduceSub, Int.reduceMul, Int.reduceEq]
      exact ⟨Int.natCast_nonneg _, fun j hj => by omega⟩
    · rintro i ⟨j1, j2, j3⟩
      have h0 := h2 i.toNat
      simp only [go_sem, h.hP, List.cons_append, List.nil_append, Meets_e, Below_e, Prod.exists, exists_eq, exists_eq_left, exists_eq_left', exists_eq_right, exists_eq_right', exists_and_left, exists_and_right, Ob.arr.injEq, AV.own.injEq, AV.fv.injEq, idxFS, hne, h1, ht, h0.pre, h0.post, Tryz.ntmps117, Nat.reduceEqDiff, reduceCtorEq, Nat.reduceMul, Nat.reduceAdd, Nat.reduceSub, Nat.reduceDiv, Nat.reduceMod, Nat.reduceLeDiff, Nat.reduceLT, Nat.reduceBNe, Nat.reduceBEq, reduceIte, Int.reduceLE, Int.reduceLT, Int.reduceToNat, Int.reduceNeg, Int.reduceAdd, Int.reduceSub, Int.reduceMul, Int.reduceEq]
      exact idx_leaf (p := fun x => sp.holds (DV.ag x)) (zr := [.str ⟨#[]⟩, .sl []]) j1 j2 j3 h3
theorem indexFunc_TField {cx : Cx} (h : Seat cx) : Ctr cx 159 (idxFS DV.ag [.str ⟨#[]⟩, .int .i64 0, .str ⟨#[]⟩, .int .i64 0]) := by
  refine ctr_of (fn := Tryz.f159) (l := [.tmp 4]) (envL []) [0, 1, 4, 5, 7, 8, 9, 16] [] [] (env0 h.hP) ?_ (by rw [h.hP]; exact Tryz.func159) rfl (by kernel_rfl) rfl ?_ ?_
  · rw [h.hP]; exact ⟨_, Tryz.func159, by kernel_rfl, by kernel_rfl⟩
  · rintro xs ⟨rows, sp, rfl, h1, h2, h3⟩; exact ⟨_, rows, sp, rfl, rfl⟩
  · rintro xs ⟨rows, sp, rfl, h1, h2, h3⟩
    have hne : ∀ i, (rows.getD i [.str ⟨#[]⟩, .int .i64 0, .str ⟨#[]⟩, .int .i64 0] = []) = False := fun i => eq_false fun e => by have := h1 i; rw [e] at this; cases this
    have ht : ∀ i, (rows.getD i [.str ⟨#[]⟩, .int .i64 0, .str ⟨#[]⟩, .int .i64 0]).take 4 = rows.getD i [.str ⟨#[]⟩, .int .i64 0, .str ⟨#[]⟩, .int .i64 0] := fun i => List.take_of_length_le (Nat.le_of_eq (h1 i))
    refine ⟨by rw [Tryz.ntmps159]; simp, ?_⟩
    simp only [go_sem, h.hP, idxFS, Tryz.ntmps159, Nat.reduceEqDiff, reduceCtorEq, Nat.reduceMul, Nat.reduceAdd, Nat.reduceSub, Nat.reduceDiv, Nat.reduceMod, Nat.reduceLeDiff, Nat.reduceLT, Nat.reduceBNe, Nat.reduceBEq, reduceIte, Int.reduceLE, Int.reduceLT, Int.reduceToNat, Int.reduceNeg, Int.reduceAdd, Int.reduceSub, Int.reduceMul, Int.reduceEq]
    refine vc_loopS (Int) (fun (i : Int) => [(8, .i i)]) [] (fun (i : Int) => []) (fun (i : Int) => []) (fun (i : Int) => 0) (fun (i : Int) => 0 ≤ i ∧ i ≤ rows.length ∧ ∀ j : Nat, (j : Int) < i → sp.holds (DV.ag (rows.getD j [.str ⟨#[]⟩, .int .i64 0, .str ⟨#[]⟩, .int .i64 0])) = false) (fun (i : Int) => (rows.length - i).toNat) [] ?_ ?_
    · simp only [go_sem, h.hP, List.cons_append, List.nil_append, Meets_e, Below_e, Prod.exists, exists_eq, exists_eq_left, exists_eq_left', exists_eq_right, exists_eq_right', exists_and_left, exists_and_right, Ob.arr.injEq, AV.own.injEq, AV.fv.injEq, Tryz.ntmps159, Nat.reduceEqDiff, reduceCtorEq, Nat.reduceMul, Nat.reduceAdd, Nat.reduceSub, Nat.reduceDiv, Nat.reduceMod, Nat.reduceLeDiff, Nat.reduceLT, Nat.reduceBNe, Nat.reduceBEq, reduceIte, Int.reduceLE, Int.reduceLT, Int.reduceToNat, Int.reduceNeg, Int.reduceAdd, Int.reduceSub, Int.reduceMul, Int.reduceEq]
      exact ⟨Int.natCast_nonneg _, fun j hj => by omega⟩
    · rintro i ⟨j1, j2, j3⟩
      have h0 := h2 i.toNat
      simp only [go_sem, h.hP, List.cons_append, List.nil_append, Meets_e, Below_e, Prod.exists, exists_eq, exists_eq_left, exists_eq_left', exists_eq_right, exists_eq_right', exists_and_left, exists_and_right, Ob.arr.injEq, AV.own.injEq, AV.fv.injEq, idxFS, hne, h1, ht, h0.pre, h0.post, Tryz.ntmps159, Nat.reduceEqDiff, reduceCtorEq, Nat.reduceMul, Nat.reduceAdd, Nat.reduceSub, Nat.reduceDiv, Nat.reduceMod, Nat.reduceLeDiff, Nat.reduceLT, Nat.reduceBNe, Nat.reduceBEq, reduceIte, Int.reduceLE, Int.reduceLT, Int.reduceToNat, Int.reduceNeg, Int.reduceAdd, Int.reduceSub, Int.reduceMul, Int.reduceEq]
      exact idx_leaf (p := fun x => sp.holds (DV.ag x)) (zr := [.str ⟨#[]⟩, .int .i64 0, .str ⟨#[]⟩, .int .i64 0]) j1 j2 j3 h3
theorem containsFunc_TField {cx : Cx} (h : Seat cx) : Ctr cx 120 (conFS DV.ag [.str ⟨#[]⟩, .int .i64 0, .str ⟨#[]⟩, .int .i64 0]) := by
  refine ctr_of (fn := Tryz.f120) (l := [.tmp 4]) (envL [(159, (idxFS DV.ag [.str ⟨#[]⟩, .int .i64 0, .str ⟨#[]⟩, .int .i64 0]))]) [0, 1, 4] [] [] (envL_cons (indexFunc_TField h) (env0 h.hP)) ?_ (by rw [h.hP]; exact Tryz.func120) rfl (by kernel_rfl) rfl ?_ ?_
  · rw [h.hP]; exact ⟨_, Tryz.func120, by kernel_rfl, by kernel_rfl⟩
  · rintro xs ⟨rows, sp, rfl, h1, h2, h3⟩; exact ⟨_, rows, sp, rfl, rfl⟩
  · rintro xs ⟨rows, sp, rfl, h1, h2, h3⟩
    refine ⟨by rw [Tryz.ntmps120]; simp, ?_⟩
    simp only [go_sem, h.hP, List.cons_append, List.nil_append, Meets_e, Below_e, Prod.exists, exists_eq, exists_eq_left, exists_eq_left', exists_eq_right, exists_eq_right', exists_and_left, exists_and_right, Ob.arr.injEq, AV.own.injEq, AV.fv.injEq, idxFS, conFS, Tryz.ntmps120, Nat.reduceEqDiff, reduceCtorEq, Nat.reduceMul, Nat.reduceAdd, Nat.reduceSub, Nat.reduceDiv, Nat.reduceMod, Nat.reduceLeDiff, Nat.reduceLT, Nat.reduceBNe, Nat.reduceBEq, reduceIte, Int.reduceLE, Int.reduceLT, Int.reduceToNat, Int.reduceNeg, Int.reduceAdd, Int.reduceSub, Int.reduceMul, Int.reduceEq]
    exact ⟨h1, h2, h3, idxB_ge _ _⟩
/-- The need with a name. -/
def needS : Spec where
  pre xs := ∃ (l : List TSchema) (i : Int) (n : ByteArray), xs = [.str n, .dp [.sl (TSchema.rows l)], .dp [.int .i64 i]] ∧ okL TSchema.ok l ∧ 0 ≤ i ∧ i < l.length ∧ ascNd (l.getD i.toNat TSchema.z).needs
  post xs r := ∃ (l : List TSchema) (i : Int) (n : ByteArray) (v : TNeed), xs = [.str n, .dp [.sl (TSchema.rows l)], .dp [.int .i64 i]] ∧ (∀ f, findNd (l.getD i.toNat TSchema.z).needs n = some f → v = f) ∧ r = .tcons (.dv (.ag v.row)) (.tcons (.b (findNd (l.getD i.toNat TSchema.z).needs n).isSome) .tnil)
  cost _ := 0
  fresh := true
theorem needS_c (xs : List AV) : needS.cost xs = 0 := nr rfl
theorem needS_f : needS.fresh = true := nr rfl
theorem needS_q (l : List TSchema) (i : Int) (n : ByteArray) : needS.pre [.str n, .dp [.sl (TSchema.rows l)], .dp [.int .i64 i]] = (okL TSchema.ok l ∧ 0 ≤ i ∧ i < l.length ∧ ascNd (l.getD i.toNat TSchema.z).needs) := propext ⟨fun h => by
  have h' : ∃ (l' : List TSchema) (i' : Int) (n' : ByteArray), ([.str n, .dp [.sl (TSchema.rows l)], .dp [.int .i64 i]] : List AV) = [.str n', .dp [.sl (TSchema.rows l')], .dp [.int .i64 i']] ∧ okL TSchema.ok l' ∧ 0 ≤ i' ∧ i' < l'.length ∧ ascNd (l'.getD i'.toNat TSchema.z).needs := h
  obtain ⟨l', i', n', e, h1⟩ := h'
  simp only [List.cons.injEq, AV.dv.injEq, AV.dp.injEq, DV.d.injEq, D.sl.injEq, D.str.injEq, D.int.injEq, TSchema.rows_inj, true_and, and_true] at e
  obtain ⟨rfl, rfl, rfl⟩ := e
  exact h1, fun h => ⟨l, i, n, rfl, h⟩⟩
theorem needS_p (l : List TSchema) (i : Int) (n : ByteArray) : needS.post [.str n, .dp [.sl (TSchema.rows l)], .dp [.int .i64 i]] = fun r => ∃ v : TNeed, (∀ f, findNd (l.getD i.toNat TSchema.z).needs n = some f → v = f) ∧ r = .tcons (.dv (.ag [.str v.name, .int .i64 v.kind, .bool v.must])) (.tcons (.b (findNd (l.getD i.toNat TSchema.z).needs n).isSome) .tnil) := funext fun r => propext ⟨fun h => by
  have h' : ∃ (l' : List TSchema) (i' : Int) (n' : ByteArray) (v : TNeed), ([.str n, .dp [.sl (TSchema.rows l)], .dp [.int .i64 i]] : List AV) = [.str n', .dp [.sl (TSchema.rows l')], .dp [.int .i64 i']] ∧ (∀ f, findNd (l'.getD i'.toNat TSchema.z).needs n' = some f → v = f) ∧ r = .tcons (.dv (.ag v.row)) (.tcons (.b (findNd (l'.getD i'.toNat TSchema.z).needs n').isSome) .tnil) := h
  obtain ⟨l', i', n', v, e, h1, h2⟩ := h'
  simp only [List.cons.injEq, AV.dv.injEq, AV.dp.injEq, DV.d.injEq, D.sl.injEq, D.str.injEq, D.int.injEq, TSchema.rows_inj, true_and, and_true] at e
  obtain ⟨rfl, rfl, rfl⟩ := e
  exact ⟨v, h1, h2⟩, fun ⟨v, h1, h2⟩ => ⟨l, i, n, v, rfl, h1, h2⟩⟩
set_option maxHeartbeats 2000000 in
theorem need_ctr {cx : Cx} (h : Seat cx) : Ctr cx 119 needS := by
  refine ctr_of (fn := Tryz.f119) (l := [.cell 4 92, .tmp 5]) (envL []) [0, 1, 2, 4, 5, 7, 12, 13, 14, 15, 21] [] [] (env0 h.hP) ?_ (by rw [h.hP]; exact Tryz.func119) rfl (by kernel_rfl) rfl ?_ ?_
  · rw [h.hP]; exact ⟨_, Tryz.func119, by kernel_rfl, by kernel_rfl⟩
  · rintro xs ⟨l, i, n, rfl, h1⟩
    cases e : findNd (l.getD i.toNat TSchema.z).needs n with
    | none => exact ⟨_, l, i, n, TNeed.z, rfl, fun f hf => (by rw [e] at hf; cases hf), rfl⟩
    | some f => exact ⟨_, l, i, n, f, rfl, fun g hg => (by rw [e] at hg; cases hg; rfl), rfl⟩
  · rintro xs ⟨l, i, n, rfl, h1, h2, h3, h4⟩
    have hv : okL TNeed.ok (l.getD i.toNat TSchema.z).needs := (okL_get h1 TSchema.z_ok _).2
    refine ⟨by rw [Tryz.ntmps119]; simp, ?_⟩
    simp only [go_sem, h.hP, List.cons_append, List.nil_append, Meets_e, Below_e, Prod.exists, exists_eq, exists_eq_left, exists_eq_left', exists_eq_right, exists_eq_right', exists_and_left, exists_and_right, Ob.arr.injEq, AV.own.injEq, AV.fv.injEq, needS_c, needS_f, needS_p, TSchema.len, TSchema.get, TNeed.len, Tryz.ntmps119, Nat.reduceEqDiff, reduceCtorEq, Nat.reduceMul, Nat.reduceAdd, Nat.reduceSub, Nat.reduceDiv, Nat.reduceMod, Nat.reduceLeDiff, Nat.reduceLT, Nat.reduceBNe, Nat.reduceBEq, reduceIte, Int.reduceLE, Int.reduceLT, Int.reduceToNat, Int.reduceNeg, Int.reduceAdd, Int.reduceSub, Int.reduceMul, Int.reduceEq]
    generalize (l.getD i.toNat TSchema.z).needs = nd at hv h4 ⊢
    refine ⟨h2, h3, ?_⟩
    have hn : nd.length ≤ 1048576 := hv.1
    refine vc_loopS (Int) (fun (k : Int) => [(14, .i k)]) [1, 2, 4] (fun (k : Int) => []) (fun (k : Int) => []) (fun (k : Int) => 0) (fun (k : Int) => 0 ≤ k ∧ k ≤ nd.length ∧ ∀ j : Nat, (j : Int) < k → (nd.getD j TNeed.z).name ≠ n) (fun (k : Int) => (nd.length - k).toNat) [] ?_ ?_
    · simp only [go_sem, h.hP, List.cons_append, List.nil_append, Meets_e, Below_e, Prod.exists, exists_eq, exists_eq_left, exists_eq_left', exists_eq_right, exists_eq_right', exists_and_left, exists_and_right, Ob.arr.injEq, AV.own.injEq, AV.fv.injEq, Tryz.ntmps119, Nat.reduceEqDiff, reduceCtorEq, Nat.reduceMul, Nat.reduceAdd, Nat.reduceSub, Nat.reduceDiv, Nat.reduceMod, Nat.reduceLeDiff, Nat.reduceLT, Nat.reduceBNe, Nat.reduceBEq, reduceIte, Int.reduceLE, Int.reduceLT, Int.reduceToNat, Int.reduceNeg, Int.reduceAdd, Int.reduceSub, Int.reduceMul, Int.reduceEq]
      exact ⟨by omega, fun j hj => by omega⟩
    · rintro k ⟨k0, k1, k2⟩
      simp only [go_sem, h.hP, List.cons_append, List.nil_append, Meets_e, Below_e, Prod.exists, exists_eq, exists_eq_left, exists_eq_left', exists_eq_right, exists_eq_right', exists_and_left, exists_and_right, Ob.arr.injEq, AV.own.injEq, AV.fv.injEq, needS_c, needS_f, needS_p, TNeed.len, TNeed.get, Tryz.ntmps119, Nat.reduceEqDiff, reduceCtorEq, Nat.reduceMul, Nat.reduceAdd, Nat.reduceSub, Nat.reduceDiv, Nat.reduceMod, Nat.reduceLeDiff, Nat.reduceLT, Nat.reduceBNe, Nat.reduceBEq, reduceIte, Int.reduceLE, Int.reduceLT, Int.reduceToNat, Int.reduceNeg, Int.reduceAdd, Int.reduceSub, Int.reduceMul, Int.reduceEq]
      refine ⟨fun c => ⟨k0, c, fun d => ?_, fun d => ?_⟩, fun c => ?_⟩
      · have hf := findNd_at h4 (i := k.toNat) (by omega) d
        rw [hf]
        exact ⟨nd.getD k.toNat TNeed.z, fun f hf => Option.some.inj hf, rfl, rfl, rfl, rfl⟩
      · rw [i64w (by omega) (by omega)]
        refine ⟨by omega, by omega, fun j hj => ?_, by omega⟩
        by_cases e : (j : Int) = k
        · rw [← e, Int.toNat_natCast] at d
          exact d
        · exact k2 j (by omega)
      · rw [findNd_no fun j hj => k2 j (by omega)]
        exact ⟨TNeed.z, fun f hf => (by cases hf), rfl, rfl, rfl, rfl⟩
theorem cap25 : (8 == 2 || (8 == 5 || false)) = false := rfl
theorem any_find {l : List TField} {n : ByteArray} : (l.any fun f => decide (f.name = n)) = (findF l n).isSome := by
  unfold findF
  rw [Bool.eq_iff_iff, List.find?_isSome, List.any_eq_true]
set_option maxHeartbeats 8000000 in
theorem schemaFault_ctr {cx : Cx} (h : Seat cx) : Ctr cx 68 schFS := by
  refine ctr_of (fn := Tryz.f68) (l := [.tmp 4]) (envF [(117, (idxFS DV.ag [.str ⟨#[]⟩, .sl []])), (120, (conFS DV.ag [.str ⟨#[]⟩, .int .i64 0, .str ⟨#[]⟩, .int .i64 0])), (119, needS)] [(118, schΦ), (121, mustΦ)]) [0, 1, 2, 3, 4, 5, 6, 8, 9, 10, 12, 17, 20, 21, 22, 23, 34, 40, 46, 47, 48, 49, 60] [14] [] (envF_cons (clo_of (schemaFault1_ctr h)) (envF_cons (clo_of (schemaFault3_ctr h)) (envF_nil (envL_cons (indexFunc_TSchema h) (envL_cons (containsFunc_TField h) (envL_cons (need_ctr h) (env0 h.hP))))))) ?_ (by rw [h.hP]; exact Tryz.func68) rfl (by kernel_rfl) rfl ?_ ?_
  · rw [h.hP]; exact ⟨_, Tryz.func68, by kernel_rfl, by kernel_rfl⟩
  · rintro xs ⟨l, e, rfl, h1⟩; exact ⟨_, l, e, rfl, rfl⟩
  · rintro xs ⟨l, e, rfl, h1, h2, h3, h4⟩
    obtain ⟨a1, a2, a3⟩ := asc_of_schemas h3
    refine ⟨by rw [Tryz.ntmps68]; simp, ?_⟩
    simp only [go_sem, h.hP, List.cons_append, List.nil_append, Meets_e, Below_e, Prod.exists, exists_eq, exists_eq_left, exists_eq_left', exists_eq_right, exists_eq_right', exists_and_left, exists_and_right, Ob.arr.injEq, AV.own.injEq, AV.fv.injEq, schFS_q, schFS_p, schFS_c, schFS_f, idxFS, conFS, TEvent.row, TSchema.len, TSchema.get, TSchema.zlT, TNeed.len, TField.len, schΦ_h, schΦ_hl, schΦ_d, Tryz.ntmps68, Nat.reduceEqDiff, reduceCtorEq, Nat.reduceMul, Nat.reduceAdd, Nat.reduceSub, Nat.reduceDiv, Nat.reduceMod, Nat.reduceLeDiff, Nat.reduceLT, Nat.reduceBNe, Nat.reduceBEq, reduceIte, Int.reduceLE, Int.reduceLT, Int.reduceToNat, Int.reduceNeg, Int.reduceAdd, Int.reduceSub, Int.reduceMul, Int.reduceEq]
    have hx : idxB (fun x => (schΦ [[.str e.id, .str e.name, .int .i64 e.at_, .int .i64 e.who.kind, .str e.who.text, .sl (TField.rows e.fields)]]).holds (DV.ag x)) (TSchema.rows l) = idxB (fun q : TSchema => decide (q.name = e.name)) l := (idxB_map TSchema.row _ _).trans (idxB_congr fun q => schΦ_h e q)
    have hrg := idxB_range (fun q : TSchema => decide (q.name = e.name)) l
    have hit := @idxB_hit _ (fun q : TSchema => decide (q.name = e.name)) l TSchema.z
    have mis := @idxB_miss _ (fun q : TSchema => decide (q.name = e.name)) l TSchema.z
    rw [hx]
    generalize idxB (fun q : TSchema => decide (q.name = e.name)) l = i at hrg hit mis ⊢
    refine ⟨by omega, fun c => ?_, fun c => ?_⟩
    · unfold suitF
      rw [findSc_no fun j hj => by simpa using mis c j hj]
    have q3 : (l.getD i.toNat TSchema.z).name = e.name := by simpa using hit (by omega)
    have hf := findSc_at a1 (i := i.toNat) (by omega) q3
    have hs : suitF l e = suitN (l.getD i.toNat TSchema.z).needs e.fields := by
      unfold suitF
      rw [hf]
    rw [hs]
    obtain ⟨b1, b2⟩ := asc_of_needs (a3 i.toNat (by omega))
    have hv : okL TNeed.ok (l.getD i.toNat TSchema.z).needs := (okL_get h1 TSchema.z_ok _).2
    obtain ⟨c1, c2⟩ := asc_of_fields (evF_fields h4)
    have hF : okL TField.ok e.fields := h2.2.2.2.2
    refine vc_cutS (Unit) (fun (u : Unit) => [(22, .un), (6, .fn 119 [2, 5])]) [2, 3, 5] (fun (u : Unit) => []) (fun (u : Unit) => []) (fun (u : Unit) => 0) (fun (u : Unit) => firstI e.fields.length (fldE (l.getD i.toNat TSchema.z).needs e.fields) = 0) [] ?_ ?_ ?_
    · rfl
    · simp only [go_sem, h.hP, Tryz.ntmps68, Nat.reduceEqDiff, reduceCtorEq, Nat.reduceMul, Nat.reduceAdd, Nat.reduceSub, Nat.reduceDiv, Nat.reduceMod, Nat.reduceLeDiff, Nat.reduceLT, Nat.reduceBNe, Nat.reduceBEq, reduceIte, Int.reduceLE, Int.reduceLT, Int.reduceToNat, Int.reduceNeg, Int.reduceAdd, Int.reduceSub, Int.reduceMul, Int.reduceEq]
      refine vc_loopS (Int) (fun (k : Int) => [(22, .i k), (6, .fn 119 [2, 5])]) [2, 3, 5] (fun (k : Int) => []) (fun (k : Int) => []) (fun (k : Int) => 0) (fun (k : Int) => Rounds e.fields.length (fldE (l.getD i.toNat TSchema.z).needs e.fields) k) (fun (k : Int) => (e.fields.length - k).toNat) [] ?_ ?_
      · simp only [go_sem, h.hP, List.cons_append, List.nil_append, Meets_e, Below_e, Prod.exists, exists_eq, exists_eq_left, exists_eq_left', exists_eq_right, exists_eq_right', exists_and_left, exists_and_right, Ob.arr.injEq, AV.own.injEq, AV.fv.injEq, Tryz.ntmps68, Nat.reduceEqDiff, reduceCtorEq, Nat.reduceMul, Nat.reduceAdd, Nat.reduceSub, Nat.reduceDiv, Nat.reduceMod, Nat.reduceLeDiff, Nat.reduceLT, Nat.reduceBNe, Nat.reduceBEq, reduceIte, Int.reduceLE, Int.reduceLT, Int.reduceToNat, Int.reduceNeg, Int.reduceAdd, Int.reduceSub, Int.reduceMul, Int.reduceEq]
        exact Rounds.start
      · rintro k kr
        obtain ⟨ki, kS, kM, kE, kN⟩ := kr.use (by omega)
        simp only [go_sem, h.hP, List.cons_append, List.nil_append, Meets_e, Below_e, Prod.exists, exists_eq, exists_eq_left, exists_eq_left', exists_eq_right, exists_eq_right', exists_and_left, exists_and_right, Ob.arr.injEq, AV.own.injEq, AV.fv.injEq, schFS_q, schFS_p, schFS_c, schFS_f, needS_c, needS_f, needS_p, needS_q, TField.len, TField.get, List.contains_cons, List.contains_nil, cap25, Tryz.ntmps68, Nat.reduceEqDiff, reduceCtorEq, Nat.reduceMul, Nat.reduceAdd, Nat.reduceSub, Nat.reduceDiv, Nat.reduceMod, Nat.reduceLeDiff, Nat.reduceLT, Nat.reduceBNe, Nat.reduceBEq, reduceIte, Int.reduceLE, Int.reduceLT, Int.reduceToNat, Int.reduceNeg, Int.reduceAdd, Int.reduceSub, Int.reduceMul, Int.reduceEq]
        have out : ∀ c' : Int, k < e.fields.length → fldE (l.getD i.toNat TSchema.z).needs e.fields k.toNat = c' → c' ≠ 0 → c' = suitN (l.getD i.toNat TSchema.z).needs e.fields := fun c' q r v => ((orE_l (by rw [kE c' q r v]; exact v)).trans (kE c' q r v)).symm
        refine ⟨fun q => ⟨ki, q, h1, by omega, hrg.2, b1, fun a ha => ⟨fun z => ?_, fun z => ?_⟩⟩, kN⟩
        · refine out 8 q ?_ (by decide)
          unfold fldE
          cases hh : findNd (l.getD i.toNat TSchema.z).needs (e.fields.getD k.toNat TField.z).name with
          | none => rfl
          | some f => rw [hh] at z; cases z
        · cases hh : findNd (l.getD i.toNat TSchema.z).needs (e.fields.getD k.toNat TField.z).name with
          | none => rw [hh] at z; cases z
          | some f =>
            obtain rfl := ha f hh
            exact ⟨fun w => out 10 q (by unfold fldE; rw [hh]; exact if_neg w) (by decide), fun w => ⟨kS q (by unfold fldE; rw [hh]; exact if_pos w), kM q⟩⟩
    · rintro u hu
      simp only [go_sem, h.hP, List.cons_append, List.nil_append, Meets_e, Below_e, Prod.exists, exists_eq, exists_eq_left, exists_eq_left', exists_eq_right, exists_eq_right', exists_and_left, exists_and_right, Ob.arr.injEq, AV.own.injEq, AV.fv.injEq, TSchema.len, TSchema.get, TNeed.len, Tryz.ntmps68, Nat.reduceEqDiff, reduceCtorEq, Nat.reduceMul, Nat.reduceAdd, Nat.reduceSub, Nat.reduceDiv, Nat.reduceMod, Nat.reduceLeDiff, Nat.reduceLT, Nat.reduceBNe, Nat.reduceBEq, reduceIte, Int.reduceLE, Int.reduceLT, Int.reduceToNat, Int.reduceNeg, Int.reduceAdd, Int.reduceSub, Int.reduceMul, Int.reduceEq]
      refine ⟨by omega, hrg.2, ?_⟩
      generalize (l.getD i.toNat TSchema.z).needs = nd at b1 b2 hv hu ⊢
      refine vc_loopS (Int) (fun (k : Int) => [(48, .i k)]) [3] (fun (k : Int) => []) (fun (k : Int) => []) (fun (k : Int) => 0) (fun (k : Int) => Rounds nd.length (mustE e.fields nd) k) (fun (k : Int) => (nd.length - k).toNat) [] ?_ ?_
      · simp only [go_sem, h.hP, List.cons_append, List.nil_append, Meets_e, Below_e, Prod.exists, exists_eq, exists_eq_left, exists_eq_left', exists_eq_right, exists_eq_right', exists_and_left, exists_and_right, Ob.arr.injEq, AV.own.injEq, AV.fv.injEq, Tryz.ntmps68, Nat.reduceEqDiff, reduceCtorEq, Nat.reduceMul, Nat.reduceAdd, Nat.reduceSub, Nat.reduceDiv, Nat.reduceMod, Nat.reduceLeDiff, Nat.reduceLT, Nat.reduceBNe, Nat.reduceBEq, reduceIte, Int.reduceLE, Int.reduceLT, Int.reduceToNat, Int.reduceNeg, Int.reduceAdd, Int.reduceSub, Int.reduceMul, Int.reduceEq]
        exact Rounds.start
      · rintro k kr
        obtain ⟨ki, kS, kM, kE, kN⟩ := kr.use (by omega)
        have hm : (TField.rows e.fields).any (fun x => (mustΦ [[.str (nd.getD k.toNat TNeed.z).name, .int .i64 (nd.getD k.toNat TNeed.z).kind, .bool (nd.getD k.toNat TNeed.z).must]]).holds (DV.ag x)) = (findF e.fields (nd.getD k.toNat TNeed.z).name).isSome := by
          rw [← any_find]
          unfold TField.rows
          rw [List.any_map]
          exact congrArg (List.any e.fields) (funext fun f => mustΦ_h _ f)
        simp only [go_sem, h.hP, List.cons_append, List.nil_append, Meets_e, Below_e, Prod.exists, exists_eq, exists_eq_left, exists_eq_left', exists_eq_right, exists_eq_right', exists_and_left, exists_and_right, Ob.arr.injEq, AV.own.injEq, AV.fv.injEq, schFS_q, schFS_p, schFS_c, schFS_f, TField.len, TField.get, TField.zlT, TNeed.len, TNeed.get, conFS, idxFS, mustΦ_hl, mustΦ_d, hm, Tryz.ntmps68, Nat.reduceEqDiff, reduceCtorEq, Nat.reduceMul, Nat.reduceAdd, Nat.reduceSub, Nat.reduceDiv, Nat.reduceMod, Nat.reduceLeDiff, Nat.reduceLT, Nat.reduceBNe, Nat.reduceBEq, reduceIte, Int.reduceLE, Int.reduceLT, Int.reduceToNat, Int.reduceNeg, Int.reduceAdd, Int.reduceSub, Int.reduceMul, Int.reduceEq]
        refine ⟨fun q => ⟨ki, q, fun m => ⟨by omega, fun z => ?_, fun z => ⟨rfl, kS q (if_neg fun w => by rw [z] at w; cases w.2), kM q⟩⟩, fun m => ⟨rfl, kS q (if_neg fun w => by rw [m] at w; cases w.1), kM q⟩⟩, fun q => ?_⟩
        · exact ((orE_r hu).trans (kE 3 q (if_pos ⟨m, z⟩) (by decide))).symm
        · exact ((orE_r hu).trans (kN q)).symm
end Go.Avc

/- CheckEvent and EventFault. No condition. -/
set_option linter.unusedVariables false
set_option linter.unusedSimpArgs false
set_option maxRecDepth 100000
namespace Go.Avc
open Go Go.Proofs

/-! ### Functions that ask of two variables -/
def c2S {α : Type} (r1 r2 : α → List D) (ok : α → Prop) (F : α → Int) : Spec where
  pre xs := ∃ a, xs = [.dp (r1 a), .dp (r2 a)] ∧ ok a
  post xs r := ∃ a, xs = [.dp (r1 a), .dp (r2 a)] ∧ r = .i (F a)
  cost _ := 0
  fresh := true
def c2Φ {α : Type} (r1 r2 : α → List D) (ok : α → Prop) (F : α → Int) (caps : List (List D)) : FSpec where
  pre xs := ∃ a, caps = [r1 a, r2 a] ∧ xs = [] ∧ ok a
  post xs r := ∃ a, caps = [r1 a, r2 a] ∧ xs = [] ∧ r = .d (.int .i64 (F a))
section
variable {α : Type} {r1 r2 : α → List D} {ok : α → Prop} {F : α → Int}
theorem c2_of (inj : ∀ {a b}, r1 a = r1 b → r2 a = r2 b → a = b) {cx : Cx} {fn : FuncId} (h : Ctr cx fn (c2S r1 r2 ok F)) (caps : List (List D)) : Ctr cx fn (clo (c2Φ r1 r2 ok F) caps) := by
  refine h.weaken (fun xs hx => ?_) (fun xs r hx hr => ?_) (fun _ => Nat.le_refl _) rfl
  · obtain ⟨ys, rfl, a, rfl, rfl, h1⟩ := hx
    exact ⟨a, rfl, h1⟩
  · obtain ⟨ys, rfl, a, rfl, rfl, h1⟩ := hx
    obtain ⟨b, q, rfl⟩ := hr
    simp only [List.map_cons, List.map_nil, List.nil_append, List.cons.injEq, AV.dp.injEq, and_true] at q
    obtain rfl := inj q.1 q.2
    exact ⟨_, _, rfl, rfl, a, rfl, rfl, rfl⟩
theorem c2_pre (inj : ∀ {a b}, r1 a = r1 b → r2 a = r2 b → a = b) (a : α) : (c2Φ r1 r2 ok F [r1 a, r2 a]).pre [] = ok a := propext ⟨fun ⟨b, q, _, h⟩ => by
  simp only [List.cons.injEq, and_true] at q
  obtain rfl := inj q.1 q.2
  exact h, fun h => ⟨a, rfl, rfl, h⟩⟩
theorem c2_post (inj : ∀ {a b}, r1 a = r1 b → r2 a = r2 b → a = b) (a : α) (y : DV) : (c2Φ r1 r2 ok F [r1 a, r2 a]).post [] y = (y = .d (.int .i64 (F a))) := propext ⟨fun ⟨b, q, _, h⟩ => by
  simp only [List.cons.injEq, and_true] at q
  obtain rfl := inj q.1 q.2
  exact h, fun h => ⟨a, rfl, rfl, h⟩⟩
theorem c2S_c (xs : List AV) : (c2S r1 r2 ok F).cost xs = 0 := nr rfl
theorem c2S_f : (c2S r1 r2 ok F).fresh = true := nr rfl
end
def schRow (l : List TSchema) : List D := [.sl (TSchema.rows l)]
theorem schRow_inj {a b : List TSchema} (h : schRow a = schRow b) : a = b := by
  simp only [schRow, List.cons.injEq, D.sl.injEq, TSchema.rows_inj, and_true] at h
  exact h
def pr1 (p : List TSchema × TEvent) : List D := schRow p.1
def pr2 (p : List TSchema × TEvent) : List D := p.2.row
theorem pr_inj {a b : List TSchema × TEvent} (h1 : pr1 a = pr1 b) (h2 : pr2 a = pr2 b) : a = b := Prod.ext (schRow_inj h1) (TEvent.inj h2)
def prOk (p : List TSchema × TEvent) : Prop := okL TSchema.ok p.1 ∧ p.2.ok ∧ schemasF p.1 = 0 ∧ evF p.2 = 0
def prF (p : List TSchema × TEvent) : Int := suitF p.1 p.2
theorem EventFault1_ctr {cx : Cx} (h : Seat cx) : Ctr cx 64 (c1S schRow (okL TSchema.ok) schemasF) := by
  refine ctr_of (fn := Tryz.f64) (l := [.tmp 1]) (envL [(27, schemasS)]) [0, 1] [] [] (envL_cons (SchemasFault_ctr h) (env0 h.hP)) ?_ (by rw [h.hP]; exact Tryz.func64) rfl (by kernel_rfl) rfl ?_ ?_
  · rw [h.hP]; exact ⟨_, Tryz.func64, by kernel_rfl, by kernel_rfl⟩
  · rintro xs ⟨l, rfl, h1⟩; exact ⟨_, l, rfl, rfl⟩
  · rintro xs ⟨l, rfl, h1⟩
    refine ⟨by rw [Tryz.ntmps64]; simp [schRow], ?_⟩
    simp only [go_sem, h.hP, List.cons_append, List.nil_append, Meets_e, Below_e, Prod.exists, exists_eq, exists_eq_left, exists_eq_left', exists_eq_right, exists_eq_right', exists_and_left, exists_and_right, Ob.arr.injEq, AV.own.injEq, AV.fv.injEq, schemasS_q, schemasS_p, schemasS_c, schemasS_f, c1S_c, c1S_f, schRow, Tryz.ntmps64, Nat.reduceEqDiff, reduceCtorEq, Nat.reduceMul, Nat.reduceAdd, Nat.reduceSub, Nat.reduceDiv, Nat.reduceMod, Nat.reduceLeDiff, Nat.reduceLT, Nat.reduceBNe, Nat.reduceBEq, reduceIte, Int.reduceLE, Int.reduceLT, Int.reduceToNat, Int.reduceNeg, Int.reduceAdd, Int.reduceSub, Int.reduceMul, Int.reduceEq]
    exact ⟨h1, l, rfl, rfl⟩
theorem EventFault2_ctr {cx : Cx} (h : Seat cx) (hU : Utf8 cx) (hM : MaxL cx) : Ctr cx 65 (c1S TEvent.row TEvent.ok evF) := by
  refine ctr_of (fn := Tryz.f65) (l := [.tmp 1]) (envL [(66, evS)]) [0, 1] [] [] (envL_cons (eventFault_ctr h hU hM) (env0 h.hP)) ?_ (by rw [h.hP]; exact Tryz.func65) rfl (by kernel_rfl) rfl ?_ ?_
  · rw [h.hP]; exact ⟨_, Tryz.func65, by kernel_rfl, by kernel_rfl⟩
  · rintro xs ⟨e, rfl, h1⟩; exact ⟨_, e, rfl, rfl⟩
  · rintro xs ⟨e, rfl, h1⟩
    refine ⟨by rw [Tryz.ntmps65]; simp, ?_⟩
    simp only [go_sem, h.hP, List.cons_append, List.nil_append, Meets_e, Below_e, Prod.exists, exists_eq, exists_eq_left, exists_eq_left', exists_eq_right, exists_eq_right', exists_and_left, exists_and_right, Ob.arr.injEq, AV.own.injEq, AV.fv.injEq, evS_q, evS_p, evS_c, evS_f, c1S_c, c1S_f, TEvent.row, Tryz.ntmps65, Nat.reduceEqDiff, reduceCtorEq, Nat.reduceMul, Nat.reduceAdd, Nat.reduceSub, Nat.reduceDiv, Nat.reduceMod, Nat.reduceLeDiff, Nat.reduceLT, Nat.reduceBNe, Nat.reduceBEq, reduceIte, Int.reduceLE, Int.reduceLT, Int.reduceToNat, Int.reduceNeg, Int.reduceAdd, Int.reduceSub, Int.reduceMul, Int.reduceEq]
    exact ⟨h1, e, rfl, rfl⟩
theorem EventFault3_ctr {cx : Cx} (h : Seat cx) : Ctr cx 67 (c2S pr1 pr2 prOk prF) := by
  refine ctr_of (fn := Tryz.f67) (l := [.tmp 2]) (envL [(68, schFS)]) [0, 1, 2] [] [] (envL_cons (schemaFault_ctr h) (env0 h.hP)) ?_ (by rw [h.hP]; exact Tryz.func67) rfl (by kernel_rfl) rfl ?_ ?_
  · rw [h.hP]; exact ⟨_, Tryz.func67, by kernel_rfl, by kernel_rfl⟩
  · rintro xs ⟨p, rfl, h1⟩; exact ⟨_, p, rfl, rfl⟩
  · rintro xs ⟨⟨l, e⟩, rfl, h1⟩
    refine ⟨by rw [Tryz.ntmps67]; simp [pr1, schRow], ?_⟩
    simp only [go_sem, h.hP, List.cons_append, List.nil_append, Meets_e, Below_e, Prod.exists, exists_eq, exists_eq_left, exists_eq_left', exists_eq_right, exists_eq_right', exists_and_left, exists_and_right, Ob.arr.injEq, AV.own.injEq, AV.fv.injEq, schFS_q, schFS_p, schFS_c, schFS_f, c2S_c, c2S_f, pr1, pr2, schRow, TEvent.row, Tryz.ntmps67, Nat.reduceEqDiff, reduceCtorEq, Nat.reduceMul, Nat.reduceAdd, Nat.reduceSub, Nat.reduceDiv, Nat.reduceMod, Nat.reduceLeDiff, Nat.reduceLT, Nat.reduceBNe, Nat.reduceBEq, reduceIte, Int.reduceLE, Int.reduceLT, Int.reduceToNat, Int.reduceNeg, Int.reduceAdd, Int.reduceSub, Int.reduceMul, Int.reduceEq]
    obtain ⟨h1, h2, h3, h4⟩ := h1
    exact ⟨h1, h2, h3, h4, (l, e), rfl, rfl⟩
def eventS  : Spec where
  pre xs := ∃ (l : List TSchema) (e : TEvent), xs = [.sl (TSchema.rows l), .dv (.ag e.row)] ∧ (okL TSchema.ok l ∧ e.ok)
  post xs y := ∃ (l : List TSchema) (e : TEvent), xs = [.sl (TSchema.rows l), .dv (.ag e.row)] ∧ y = .i (orE (schemasF l) (orE (evF e) (suitF l e)))
  cost _ := 0
  fresh := true
theorem eventS_c  (xs : List AV) : (eventS).cost xs = 0 := nr rfl
theorem eventS_f  : (eventS).fresh = true := nr rfl
theorem eventS_q  (l : List TSchema) (e : TEvent) : (eventS).pre [.sl (TSchema.rows l), .dv (.ag [.str e.id, .str e.name, .int .i64 e.at_, .int .i64 e.who.kind, .str e.who.text, .sl (TField.rows e.fields)])] = (okL TSchema.ok l ∧ e.ok) := propext ⟨fun h => by
  have h' : ∃ (l' : List TSchema) (e' : TEvent), ([.sl (TSchema.rows l), .dv (.ag e.row)] : List AV) = [.sl (TSchema.rows l'), .dv (.ag e'.row)] ∧ (okL TSchema.ok l' ∧ e'.ok) := h
  obtain ⟨l', e', e, h⟩ := h'
  simp only [List.cons.injEq, AV.dv.injEq, AV.fv.injEq, DV.d.injEq, DV.ag.injEq, D.int.injEq, D.str.injEq, D.bool.injEq, D.sl.injEq, true_and, and_true, intsDi_inj, rowsT_inj, rowsKi_inj, TSchema.row_inj, TSchema.rows_inj, TEvent.row_inj, TEvent.rows_inj] at e
  obtain ⟨rfl, rfl⟩ := e
  exact h, fun h => ⟨l, e, rfl, h⟩⟩
theorem eventS_p  (l : List TSchema) (e : TEvent) : (eventS).post [.sl (TSchema.rows l), .dv (.ag [.str e.id, .str e.name, .int .i64 e.at_, .int .i64 e.who.kind, .str e.who.text, .sl (TField.rows e.fields)])] = fun y => y = .i (orE (schemasF l) (orE (evF e) (suitF l e))) := funext fun y => propext ⟨fun h => by
  have h' : ∃ (l' : List TSchema) (e' : TEvent), ([.sl (TSchema.rows l), .dv (.ag e.row)] : List AV) = [.sl (TSchema.rows l'), .dv (.ag e'.row)] ∧ y = .i (orE (schemasF l') (orE (evF e') (suitF l' e'))) := h
  obtain ⟨l', e', e, h⟩ := h'
  simp only [List.cons.injEq, AV.dv.injEq, AV.fv.injEq, DV.d.injEq, DV.ag.injEq, D.int.injEq, D.str.injEq, D.bool.injEq, D.sl.injEq, true_and, and_true, intsDi_inj, rowsT_inj, rowsKi_inj, TSchema.row_inj, TSchema.rows_inj, TEvent.row_inj, TEvent.rows_inj] at e
  obtain ⟨rfl, rfl⟩ := e
  exact h, fun h => ⟨l, e, rfl, h⟩⟩
theorem EventFault_ctr {cx : Cx} (h : Seat cx) (hU : Utf8 cx) (hM : MaxL cx) : Ctr cx 29 eventS := by
  refine ctr_of (fn := Tryz.f29) (l := [.tmp 4]) (envF [] [(64, (c1Φ schRow (okL TSchema.ok) schemasF)), (65, (c1Φ TEvent.row TEvent.ok evF)), (67, (c2Φ pr1 pr2 prOk prF))]) [0, 1, 2, 3, 4] [] [(1, [], [])] (envF_cons (c1_of schRow_inj (EventFault1_ctr h)) (envF_cons (c1_of TEvent.inj (EventFault2_ctr h hU hM)) (envF_cons (c2_of pr_inj (EventFault3_ctr h)) (envF_nil (env0 h.hP))))) ?_ (by rw [h.hP]; exact Tryz.func29) rfl (by kernel_rfl) rfl ?_ ?_
  · rw [h.hP]; exact ⟨_, Tryz.func29, by kernel_rfl, by kernel_rfl⟩
  · rintro xs ⟨l, e, rfl, h1⟩; exact ⟨_, l, e, rfl, rfl⟩
  · rintro xs ⟨l, e, rfl, h1, h2⟩
    refine ⟨by rw [Tryz.ntmps29]; simp, ?_⟩
    have q1 : (c1Φ schRow (okL TSchema.ok) schemasF [[.sl (TSchema.rows l)]]).pre [] = okL TSchema.ok l := c1_pre (row := schRow) schRow_inj l
    have p1 : ∀ y, (c1Φ schRow (okL TSchema.ok) schemasF [[.sl (TSchema.rows l)]]).post [] y = (y = .d (.int .i64 (schemasF l))) := c1_post (row := schRow) schRow_inj l
    have q2 : (c1Φ TEvent.row TEvent.ok evF [[.str e.id, .str e.name, .int .i64 e.at_, .int .i64 e.who.kind, .str e.who.text, .sl (TField.rows e.fields)]]).pre [] = e.ok := c1_pre (row := TEvent.row) TEvent.inj e
    have p2 : ∀ y, (c1Φ TEvent.row TEvent.ok evF [[.str e.id, .str e.name, .int .i64 e.at_, .int .i64 e.who.kind, .str e.who.text, .sl (TField.rows e.fields)]]).post [] y = (y = .d (.int .i64 (evF e))) := c1_post (row := TEvent.row) TEvent.inj e
    have q3 : (c2Φ pr1 pr2 prOk prF [[.sl (TSchema.rows l)], [.str e.id, .str e.name, .int .i64 e.at_, .int .i64 e.who.kind, .str e.who.text, .sl (TField.rows e.fields)]]).pre [] = prOk (l, e) := c2_pre (r1 := pr1) (r2 := pr2) pr_inj (l, e)
    have p3 : ∀ y, (c2Φ pr1 pr2 prOk prF [[.sl (TSchema.rows l)], [.str e.id, .str e.name, .int .i64 e.at_, .int .i64 e.who.kind, .str e.who.text, .sl (TField.rows e.fields)]]).post [] y = (y = .d (.int .i64 (prF (l, e)))) := c2_post (r1 := pr1) (r2 := pr2) pr_inj (l, e)
    simp only [go_sem, h.hP, List.cons_append, List.nil_append, Meets_e, Below_e, Prod.exists, exists_eq, exists_eq_left, exists_eq_left', exists_eq_right, exists_eq_right', exists_and_left, exists_and_right, Ob.arr.injEq, AV.own.injEq, AV.fv.injEq, eventS_q, eventS_p, eventS_c, eventS_f, q1, p1, q2, p2, q3, p3, TEvent.row, DV.d.injEq, D.int.injEq, Tryz.ntmps29, Nat.reduceEqDiff, reduceCtorEq, Nat.reduceMul, Nat.reduceAdd, Nat.reduceSub, Nat.reduceDiv, Nat.reduceMod, Nat.reduceLeDiff, Nat.reduceLT, Nat.reduceBNe, Nat.reduceBEq, reduceIte, Int.reduceLE, Int.reduceLT, Int.reduceToNat, Int.reduceNeg, Int.reduceAdd, Int.reduceSub, Int.reduceMul, Int.reduceEq]
    exact ⟨h1, fun c => (orE_l c).symm, fun c => ⟨h2, fun d => ((orE_r c).trans (orE_l d)).symm, fun d => ⟨⟨h1, h2, c, d⟩, fun f => ((orE_r c).trans (orE_r d)).symm, fun f => (((orE_r c).trans (orE_r d)).trans f).symm⟩⟩⟩
theorem CheckEvent_ctr {cx : Cx} (h : Seat cx) (hU : Utf8 cx) (hM : MaxL cx) : Ctr cx 28 eventS := by
  refine ctr_of (fn := Tryz.f28) (l := [.tmp 4]) (envL [(26, schemasS), (62, suitsS)]) [0, 1, 3, 4, 5, 9] [] [] (envL_cons (CheckSchemas_ctr h) (envL_cons (suits_ctr h hU hM) (env0 h.hP))) ?_ (by rw [h.hP]; exact Tryz.func28) rfl (by kernel_rfl) rfl ?_ ?_
  · rw [h.hP]; exact ⟨_, Tryz.func28, by kernel_rfl, by kernel_rfl⟩
  · rintro xs ⟨l, e, rfl, h1⟩; exact ⟨_, l, e, rfl, rfl⟩
  · rintro xs ⟨l, e, rfl, h1, h2⟩
    refine ⟨by rw [Tryz.ntmps28]; simp, ?_⟩
    simp only [go_sem, h.hP, List.cons_append, List.nil_append, Meets_e, Below_e, Prod.exists, exists_eq, exists_eq_left, exists_eq_left', exists_eq_right, exists_eq_right', exists_and_left, exists_and_right, Ob.arr.injEq, AV.own.injEq, AV.fv.injEq, eventS_q, eventS_p, eventS_c, eventS_f, schemasS_q, schemasS_p, schemasS_c, schemasS_f, suitsS_q, suitsS_p, suitsS_c, suitsS_f, TEvent.row, Tryz.ntmps28, Nat.reduceEqDiff, reduceCtorEq, Nat.reduceMul, Nat.reduceAdd, Nat.reduceSub, Nat.reduceDiv, Nat.reduceMod, Nat.reduceLeDiff, Nat.reduceLT, Nat.reduceBNe, Nat.reduceBEq, reduceIte, Int.reduceLE, Int.reduceLT, Int.reduceToNat, Int.reduceNeg, Int.reduceAdd, Int.reduceSub, Int.reduceMul, Int.reduceEq]
    exact ⟨h1, fun c => (orE_l c).symm, fun c => ⟨h1, h2, c, (orE_r c).symm⟩⟩
end Go.Avc

/- SchemaChecks: its walk. No condition. -/
set_option linter.unusedVariables false
set_option linter.unusedSimpArgs false
set_option maxRecDepth 100000
namespace Go.Avc
open Go Go.Proofs

theorem maxL_of {cx W0 : Cx} {m : Int} (hW : W0.glob 3 = some [.int .i64 m]) (h : ∀ w, GlAt cx w → GlAt W0 w) : MaxL cx := by
  intro w hw
  obtain ⟨_, _, cs, hc, hr⟩ := h w hw 3 _ hW
  obtain ⟨v, hv, hr⟩ := hr.get (j := 0) (x := .int .i64 m) rfl
  refine ⟨m, ?_⟩
  have := hc 0 v hv
  rw [this]
  cases hr
  rfl
/-- What EventFor may cost, kept shut: the kernel would count it out. -/
theorem cE_ex : ∃ n : Nat, n = 40000000 := ⟨_, rfl⟩
noncomputable def cE : Nat := cE_ex.choose
theorem cE_eq : cE = 40000000 := cE_ex.choose_spec
noncomputable def eventForC : Spec := { eventForG with cost := fun _ => cE }
theorem eventForC_of {cx : Cx} {fn : FuncId} (h : Ctr cx fn eventForG) : Ctr cx fn eventForC :=
  h.weaken (fun _ hx => hx) (fun _ _ _ hr => hr) (fun _ => Nat.le_of_eq cE_eq.symm) rfl
theorem eventForC_c (xs : List AV) : eventForC.cost xs = cE := rfl
theorem eventForC_f : eventForC.fresh = false := rfl
theorem eventForC_q (l : List TSchema) (s : ByteArray) (m : Int) : eventForC.pre [.st, .sl (TSchema.rows l), .str s, .i m] = (okL TSchema.ok l ∧ okS s ∧ okI m) := propext ⟨fun ⟨l', s', m', e, h⟩ => by
  simp only [List.cons.injEq, AV.dv.injEq, DV.d.injEq, D.sl.injEq, D.str.injEq, D.int.injEq, TSchema.rows_inj, true_and, and_true] at e
  obtain ⟨rfl, rfl, rfl⟩ := e
  exact h, fun h => ⟨l, s, m, rfl, h⟩⟩
theorem eventForC_p (l : List TSchema) (s : ByteArray) (m : Int) : eventForC.post [.st, .sl (TSchema.rows l), .str s, .i m] = fun y => ∃ e : TEvent, e.ok ∧ y = .dv (.ag [.str e.id, .str e.name, .int .i64 e.at_, .int .i64 e.who.kind, .str e.who.text, .sl (TField.rows e.fields)]) := funext fun y => propext ⟨fun ⟨l', s', m', e, _, h, k⟩ => ⟨e, h, k⟩, fun ⟨e, h, k⟩ => ⟨l, s, m, e, rfl, h, k⟩⟩
theorem cE_le : (201 + cE ≤ 50000000) = True := eq_true (by have := cE_eq; omega)
set_option maxHeartbeats 8000000 in
theorem se_walk {L : List Int} {A : Option Addr} {cp : Nat} {W : World} (hng : 6 ≤ W.heap.size) (hrd : Rd (fun k => k < W.heap.size) W (.sl (intRows L)) (.slice A L.length cp)) {glob : Nat → Option (List D)} (hgl : GlAt ⟨Tryz.prog, none, L, 25, 6, glob⟩ W) (hU : ∀ cx : Cx, (∀ w, GlAt cx w → GlAt ⟨Tryz.prog, none, L, 25, 6, glob⟩ w) → Utf8 cx) (hfn : glob 1 = some namesD) (hip : glob 2 = some poolD) (hen : glob 0 = some evNamesD) {m : Int} (hml : glob 3 = some [.int .i64 m]) :
    Calls Tryz.prog 5 [Value.slice A L.length cp].toArray W fun e W' => e = .returned (.bool true) ∧ RowKit.Below W.heap.size W W' := by
  refine law_calls (E := envL [(23, schemasG), (25, rangeS), (24, eventForC), (26, schemasS), (27, schemasS), (28, eventS), (29, eventS), (16, happeningsS)]) (B := 50000000) (live := [0, 2, 3, 4, 5]) (HH := []) (hz := []) (d := 2) (x1 := 6) (x2 := 7) (x3 := 8) (x4 := 3) (ng := 6) (glob := glob) Tryz.func5 rfl rfl (by kernel_rfl) ⟨rfl, rfl, rfl⟩ ⟨rfl, rfl, rfl⟩ ⟨rfl, rfl, rfl⟩ ⟨rfl, rfl, rfl⟩ ⟨rfl, rfl, rfl⟩ build_stream ⟨by simp, by decide, by decide, by decide, by decide, by decide, by rw [Tryz.ntmps5]; decide⟩ (ex := []) (xv := []) rfl (fun i x u hx hu => by simp at hx) (by decide) hng hrd hgl ?_
  intro cx hP hS hG hGl
  have h : Seat cx := ⟨hP, hS⟩
  refine ⟨envL_cons (Schemas_ctr h ((congrFun hGl _).trans hfn) ((congrFun hGl _).trans hen)) (envL_cons (range_ctr cx h.hP h.hS) (envL_cons (eventForC_of (EventFor_ctr h ((congrFun hGl _).trans hfn) ((congrFun hGl _).trans hip) ((congrFun hGl _).trans hen))) (envL_cons (CheckSchemas_ctr h) (envL_cons (SchemasFault_ctr h) (envL_cons (CheckEvent_ctr h (hU cx hG) (maxL_of hml hG)) (envL_cons (EventFault_ctr h (hU cx hG) (maxL_of hml hG)) (envL_cons (happenings_ctr h) (env0 h.hP)))))))), ?_⟩
  simp only [go_sem, h.hP, List.cons_append, List.nil_append, Meets_e, Below_e, Prod.exists, exists_eq, exists_eq_left, exists_eq_left', exists_eq_right, exists_eq_right', exists_and_left, exists_and_right, Ob.arr.injEq, AV.own.injEq, AV.fv.injEq, schemasG, eventForC_c, eventForC_f, eventForC_q, eventForC_p, cE_le, rangeS_q, rangeS_p, rangeS_c, rangeS_f, schemasS_q, schemasS_p, schemasS_c, schemasS_f, eventS_q, eventS_p, eventS_c, eventS_f, happeningsS_q, happeningsS_p, happeningsS_c, happeningsS_f, TEvent.row, TSchema.rows_inj, Tryz.ntmps5, Nat.reduceEqDiff, reduceCtorEq, Nat.reduceMul, Nat.reduceAdd, Nat.reduceSub, Nat.reduceDiv, Nat.reduceMod, Nat.reduceLeDiff, Nat.reduceLT, Nat.reduceBNe, Nat.reduceBEq, reduceIte, Int.reduceLE, Int.reduceLT, Int.reduceToNat, Int.reduceNeg, Int.reduceAdd, Int.reduceSub, Int.reduceMul, Int.reduceEq]
  refine fun a h1 b b0 b1 => ⟨h1, by unfold okS; decide, by unfold okI; omega, fun c h2 => ⟨h1, h1, h1, h2, h1, h2⟩⟩
end Go.Avc

/- SchemaChecks returns true for every slice of numbers, and leaves it as it was; the two tables of unicode/utf8, the pool of ids and the names of fields and of events, which its row lists, lie as the program lays them. -/
set_option linter.unusedVariables false
set_option linter.unusedSimpArgs false
set_option maxRecDepth 100000
namespace Go.Proofs.YtlaplgpnbbmbgaaGreatDoor.schemaChecks
open Go.ChangeShapes Go.ChangeMaps Go.WideShapes Go.ChangeAt Go.RowKit Go.Avc

def exF (m : Int) : Nat → Option (List D)
  | 2 => some poolD
  | 1 => some namesD
  | 0 => some evNamesD
  | 3 => some [.int .i64 m]
  | _ => none
theorem lies {W : World} {m : Int} (hm : W.cell? ⟨3, 0, none⟩ = some (.int .i64 m)) (hL : laidMetH Tryz.prog Rows.schemaChecksRow.laid W) : Lies W (exF m) := by
  intro k l hk
  have hk' : exF m k = some l := hk
  match k, hk' with
  | 2, hk' =>
    cases hk'
    have h := lies_of_reads (l := poolD) (m := 20) (Lib.laidMet.reads hL (n := "handbill/handmake.idPool") (d := Rows.laid_handbill_handmake_idPool) (by simp [Rows.schemaChecksRow])) (g := 2) rfl rfl (by kernel_rfl) (by kernel_rfl) (by decide)
    exact ⟨by decide, h.1, by decide, h.2⟩
  | 1, hk' =>
    cases hk'
    have h := lies_of_reads (l := namesD) (m := 6) (Lib.laidMet.reads hL (n := "handbill/handmake.fieldNames") (d := Rows.laid_handbill_handmake_fieldNames) (by simp [Rows.schemaChecksRow])) (g := 1) rfl rfl (by kernel_rfl) (by kernel_rfl) (by decide)
    exact ⟨by decide, h.1, by decide, h.2⟩
  | 0, hk' =>
    cases hk'
    have h := lies_of_reads (l := evNamesD) (m := 4) (Lib.laidMet.reads hL (n := "handbill/handmake.eventNames") (d := Rows.laid_handbill_handmake_eventNames) (by simp [Rows.schemaChecksRow])) (g := 0) rfl rfl (by kernel_rfl) (by kernel_rfl) (by decide)
    exact ⟨by decide, h.1, by decide, h.2⟩
  | 3, hk' =>
    cases hk'
    refine ⟨by decide, ?_, rfl, fun j u hj => ?_⟩
    · by_cases hb : 3 < W.heap.size
      · exact hb
      · unfold World.cell? at hm
        rw [Array.getElem?_eq_none (show W.heap.size ≤ 3 by omega)] at hm
        cases hm
    · cases j with
      | zero => cases hj; exact hm
      | succ j => simp at hj
/-- A world for a witness. -/
def fillC (l : List D) : Obj → Obj
  | .cells _ t frozen => .cells (l.map vD).toArray t frozen
  | o => o
noncomputable def heapF (os : Os) : Array Obj :=
  (((laidWorld os).heap.modify 2 (fillC poolD)).modify 1 (fillC namesD)).modify 0 (fillC evNamesD)
noncomputable def worldF (os : Os) : World := { laidWorld os with heap := heapF os }
theorem metF (os : Os) (args : Array Value) : laidMet Tryz.prog Rows.schemaChecksRow.laid ((worldF os).forCall (fun _ _ => 0) ⟨#[], args, []⟩).memory := laidMet_of_run' 8 (by kernel_rfl) (by kernel_rfl)
theorem own : ownKnob Tryz.prog.godebug = none := by kernel_rfl
theorem one3 : Tryz.prog.cellsOf 3 = 1 := by kernel_rfl

/-- WHAT THE WALK GIVES. -/
theorem contract (H : Type) (enc : TypeId × Value → H) (W : World) (base : Nat) (args : Array Value) (ds gs : List (DataW H)) (before : List MemPlace)
    (hval : ∀ (j : Nat) t v, Tryz.f5.params[j]? = some t → args[j]? = some v → Value.okWide Tryz.prog W .any base t v)
    (hW : DataW.Whole enc Tryz.prog Tryz.f5.params.toList Rows.schemaChecksSpec.vars false W args.toList ds gs before) (hL : laidMetH Tryz.prog Rows.schemaChecksRow.laid W) (hSh : W.ShapedOpen Tryz.prog) :
    Calls Tryz.prog 5 args W fun e W' => ∃ v, e = .returned v ∧ Rows.schemaChecksSpec.post enc Tryz.prog Tryz.f5 false true false false W args v W' := by
  have hW' := hW
  obtain ⟨p, q, hA0, hV, rfl, hfz, hnd⟩ := hW
  have hA : DataW.TrodAll enc Tryz.prog W 0 (fun _ => true) true Tryz.f5.params.toList args.toList ds p := hA0
  rw [Tryz.params5] at hA hval
  obtain ⟨v0, vs0, d0, ds0, p0, q0, hargs, rfl, rfl, h0, r0⟩ := trodAll_cons hA
  obtain ⟨rfl, rfl, rfl⟩ := trodAll_nil r0
  obtain rfl : args = #[v0] := by cases args; simp_all
  obtain ⟨rfl, rfl⟩ := trodVars_none hV
  obtain ⟨A, L, cp, rfl, hrd, hsh⟩ := open_nums Tryz.underlying22 Tryz.underlying3 one3 (hval 0 22 v0 rfl rfl) h0
  clear hA0
  simp only [List.append_nil] at hW'
  obtain ⟨mx, hmx⟩ := Tryz.laysM144.s1_3 W hSh
  have hg := glAt_X (L := L) (ST := 25) (tabs_of_list hL (by simp [Rows.schemaChecksRow]) (by simp [Rows.schemaChecksRow])) (lies hmx hL)
  refine (se_walk (ng_of_shaped hSh) hrd hg (fun cx h => utf8_of_globX rfl h) rfl rfl rfl rfl).mono fun e W' ⟨he, hbl⟩ => ?_
  subst he
  refine ⟨_, rfl, post_of_below (pa := p0) (pv := []) hW' (fun _ _ _ => trodAll_cons_mk (shut_bool Tryz.underlying4 _) trodAll_mk0)
    (fun sp hsp => ?_) (fun _ _ => rfl) (List.append_nil _).symm hbl (ok_one (by kernel_rfl) rfl (okWide_bool_mk Tryz.underlying4 _))⟩
  have := trodAll_cons_mk (hsh W' hbl sp hsp) (trodAll_mk0 (w := W') (base := 0) (spare := sp) (held := true) (enc := enc))
  rw [List.append_nil] at this
  exact this
theorem reads (os : Os) {H : Type} (enc : TypeId × Value → H) : ∃ places, DataW.whole enc Tryz.prog ((worldF os).forCall (fun _ _ => 0) ⟨#[], #[.slice none 0 0], []⟩).memory Tryz.f5.params.toList Rows.schemaChecksSpec.vars false #[Value.slice none 0 0].toList 8 = some ([.nil], [], places) :=
  ⟨[], by kernel_rfl⟩
theorem lifted (os : Os) (started : os.Started) (H : Type) (enc : TypeId × Value → H) (F : Stop.Interp) :
    ReturnsInHanded {} Tryz.checked os 5 .any ((OpenSpec.ofChange Rows.schemaChecksSpec).preRow enc Tryz.prog Tryz.f5 Rows.schemaChecksRow.domain false Rows.schemaChecksRow.laid) (((OpenSpec.ofChange Rows.schemaChecksSpec).at F).post enc Tryz.prog Tryz.f5 false true false false) := by
  obtain ⟨places, hx⟩ := reads os enc
  refine returnsInHanded_of_row (C := Tryz.checked) (s := OpenSpec.ofChange Rows.schemaChecksSpec) own started (by kernel_rfl) Tryz.func5
    (witness_row_at (enc := enc) (C := Tryz.checked) false (worldF os) #[.slice none 0 0] rfl (by kernel_rfl) (by kernel_rfl) (by kernel_rfl)
      (OpenSpec.preRow_of_cond 8 hx (by kernel_rfl) (fun k hk => by cases hk) (by kernel_rfl) (metF os _))) ?_
  intro W base args ds gs before hval hW _ _ _ hL hSh _
  exact contract H enc W base args ds gs before hval hW hL hSh
theorem said : Rows.SchemaChecksSaid :=
  OpenClaim.holds_of_cond 5 Tryz.f5 rfl rfl rfl rfl rfl rfl rfl ⟨rfl, rfl, rfl, rfl, rfl⟩ rfl rfl rfl rfl rfl (by kernel_rfl) Tryz.func5 (by kernel_rfl)
    (of_decide_eq_true (by kernel_rfl)) (by unfold Func.isWrapper; first | (rw [if_pos (by decide +kernel)]; kernel_rfl) | (rw [if_neg (by decide +kernel)]; exact ⟨rfl, rfl⟩))
    (fun os started H enc _ F => by rw [OpenClaim.pre_eq_preRow]; exact lifted os started H enc F)
theorem plain (f : FuncId) (fn : Func) (hf : Tryz.pinned.checked.prog.funcNamed "handbill/handlaw2.SchemaChecks" = some f) (hfn : Tryz.pinned.checked.prog.funcs[f]? = some fn) :
    false = Tryz.pinned.checked.prog.looks [] ∧ ∀ (j : Nat) t, fn.params[j]? = some t → Tryz.pinned.checked.prog.wantsStandIn t = false := by
  obtain rfl : f = 5 := Option.some.inj ((show Tryz.prog.funcNamed "handbill/handlaw2.SchemaChecks" = some 5 by kernel_rfl).symm.trans hf) |>.symm
  obtain rfl : fn = Tryz.f5 := (Option.some.inj (Tryz.func5.symm.trans hfn)).symm
  refine ⟨by kernel_rfl, fun j t ht => ?_⟩
  rw [Tryz.params5] at ht
  obtain rfl : t = 22 := by simpa using Array.mem_of_getElem? ht
  exact (show Tryz.prog.wantsStandIn 22 = false by kernel_rfl)
theorem card : Rows.SchemaChecksCardSaid :=
  Claim7.holds_tied_plain_at .later [] _ _ _ _ said (fun _ h => by cases h) (by kernel_rfl) (fun _ h => by cases h) schemaChecks_row_tie rfl ⟨rfl, rfl⟩ (by kernel_rfl) rfl plain (by kernel_rfl)
end Go.Proofs.YtlaplgpnbbmbgaaGreatDoor.schemaChecks
