/- The rules of sending: what is wrong with them, by the program and by the reference. No condition. -/
import Derived.Test.YtcifphelninbmaaDoorGen
import Derived.Test.YtcifphelninbmaaDoorSml
set_option linter.unusedVariables false
set_option linter.unusedSimpArgs false
set_option maxRecDepth 100000
namespace Go.Avc
open Go Go.Proofs

/-- The first of some errors. -/
def firstI (n : Nat) (f : Nat → Int) : Int := match (List.range n).find? (fun i => decide (f i ≠ 0)) with
  | some i => f i
  | none => 0
theorem firstI_no {n : Nat} {f : Nat → Int} {i : Int} (h : ∀ j : Nat, (j : Int) < i → f j = 0) (hi : n ≤ i) : firstI n f = 0 := by
  unfold firstI
  rw [List.find?_eq_none.2]
  intro x hx
  simp [h x (by have := List.mem_range.1 hx; omega)]
theorem firstI_at {n : Nat} {f : Nat → Int} {i : Int} (h0 : 0 ≤ i) (h1 : i < n) (h : ∀ j : Nat, (j : Int) < i → f j = 0) (hf : f i.toNat ≠ 0) : firstI n f = f i.toNat := by
  unfold firstI
  obtain ⟨k, rfl⟩ : ∃ k : Nat, i = k := ⟨i.toNat, by omega⟩
  rw [Int.toNat_natCast] at hf ⊢
  have : (List.range n).find? (fun i => decide (f i ≠ 0)) = some k := by
    rw [List.find?_range_eq_some]
    refine ⟨by simpa using hf, List.mem_range.2 (by omega), fun j hj => by simp [h j (by omega)]⟩
  rw [this]
/-- The rounds of a loop that looks for the first error. -/
def Rounds (n : Nat) (f : Nat → Int) (i : Int) : Prop := 0 ≤ i ∧ i ≤ n ∧ ∀ j : Nat, (j : Int) < i → f j = 0
theorem Rounds.start {n : Nat} {f : Nat → Int} : Rounds n f 0 := ⟨by decide, Int.natCast_nonneg _, fun j hj => by omega⟩
theorem Rounds.use {n : Nat} {f : Nat → Int} {i : Int} (h : Rounds n f i) (hn : n ≤ 4611686018427387904) :
    0 ≤ i ∧ (i < n → f i.toNat = 0 → Rounds n f (IntKind.i64.wrap (i + 1))) ∧ (i < n → ((n : Int) - IntKind.i64.wrap (i + 1)).toNat < ((n : Int) - i).toNat) ∧
    (∀ e, i < n → f i.toNat = e → e ≠ 0 → firstI n f = e) ∧ (¬ i < n → firstI n f = 0) := by
  obtain ⟨j1, j2, j3⟩ := h
  refine ⟨j1, fun c hf => ?_, fun c => by rw [i64w (by omega) (by omega)]; omega, fun e c hf he => by subst hf; exact firstI_at j1 c j3 he, fun c => firstI_no j3 (by omega)⟩
  rw [i64w (by omega) (by omega)]
  refine ⟨by omega, by omega, fun j hj => ?_⟩
  by_cases e : (j : Int) = i
  · rw [← e, Int.toNat_natCast] at hf; exact hf
  · exact j3 j (by omega)
theorem okL_get {α : Type} {p : α → Prop} {l : List α} {d : α} (h : okL p l) (hd : p d) (i : Nat) : p (l.getD i d) := by
  rw [List.getD_eq_getElem?_getD]
  cases e : l[i]? with
  | none => exact hd
  | some x => exact h.2 x (List.mem_of_getElem? e)
theorem ne_ft {b : Bool} (h : b = true) : ¬ b = false := fun e => by rw [h] at e; cases e
theorem ne_tf {b : Bool} (h : b = false) : ¬ b = true := fun e => by rw [h] at e; cases e
def orE (a b : Int) : Int := if a ≠ 0 then a else b
theorem orE_l {a b : Int} (h : a ≠ 0) : orE a b = a := if_pos h
theorem orE_r {a b : Int} (h : a = 0) : orE a b = b := if_neg (fun e => e h)
def noneB (s : ByteArray) : Bool := decide (s.size = 0) || keyB s
def capF (c : TCap) : Int := if inB c.channel 0 4 = false then 4 else if noneB c.purpose = false then 5 else if inB c.many 1 1000 = false ∨ inB c.within 1 100000 = false then 1 else 0
def capsF (l : List TCap) : Int := if 20 < (l.length : Int) then 2 else firstI l.length fun i => capF (l.getD i TCap.z)
theorem isNone_ctr {cx : Cx} (h : Seat cx) : Ctr cx 169 (strB noneB) := by
  refine ctr_of (fn := Tryd.f169) (l := [.tmp 2]) (envL [(91, (strB keyB))]) [0, 2] [] [] (envL_cons (IsKey_ctr h) (env0 h.hP)) ?_ (by rw [h.hP]; exact Tryd.func169) rfl (by kernel_rfl) rfl ?_ ?_
  · rw [h.hP]; exact ⟨_, Tryd.func169, by kernel_rfl, by kernel_rfl⟩
  · rintro xs ⟨s, rfl, hs⟩; exact ⟨_, s, rfl, rfl⟩
  · rintro xs ⟨s, rfl, hs⟩
    refine ⟨by rw [Tryd.ntmps169]; simp, ?_⟩
    simp only [go_sem, h.hP, List.cons_append, List.nil_append, Meets_e, Below_e, Prod.exists, exists_eq, exists_eq_left, exists_eq_left', exists_eq_right, exists_eq_right', exists_and_left, exists_and_right, Ob.arr.injEq, AV.own.injEq, AV.fv.injEq, strB_q, strB_p, strB_c, strB_f, str_nil, Tryd.ntmps169, Nat.reduceEqDiff, reduceCtorEq, Nat.reduceMul, Nat.reduceAdd, Nat.reduceSub, Nat.reduceDiv, Nat.reduceMod, Nat.reduceLeDiff, Nat.reduceLT, Nat.reduceBNe, Nat.reduceBEq, reduceIte, Int.reduceLE, Int.reduceLT, Int.reduceToNat, Int.reduceNeg, Int.reduceAdd, Int.reduceSub, Int.reduceMul, Int.reduceEq]
    grind [noneB]
def capsS  : Spec where
  pre xs := ∃ (l : List TCap), xs = [.sl (TCap.rows l)] ∧ (okL TCap.ok l)
  post xs y := ∃ (l : List TCap), xs = [.sl (TCap.rows l)] ∧ y = .i (capsF l)
  cost _ := 0
  fresh := true
theorem capsS_c  (xs : List AV) : (capsS).cost xs = 0 := nr rfl
theorem capsS_f  : (capsS).fresh = true := nr rfl
theorem capsS_q  (l : List TCap) : (capsS).pre [.sl (TCap.rows l)] = (okL TCap.ok l) := propext ⟨fun h => by
  have h' : ∃ (l' : List TCap), ([.sl (TCap.rows l)] : List AV) = [.sl (TCap.rows l')] ∧ (okL TCap.ok l') := h
  obtain ⟨l', e, h⟩ := h'
  simp only [List.cons.injEq, AV.dv.injEq, AV.fv.injEq, DV.d.injEq, DV.ag.injEq, D.int.injEq, D.str.injEq, D.bool.injEq, D.sl.injEq, true_and, and_true, intsDi_inj, rowsT_inj, rowsKi_inj, TCap.row_inj, TCap.rows_inj] at e
  obtain rfl := e
  exact h, fun h => ⟨l, rfl, h⟩⟩
theorem capsS_p  (l : List TCap) : (capsS).post [.sl (TCap.rows l)] = fun y => y = .i (capsF l) := funext fun y => propext ⟨fun h => by
  have h' : ∃ (l' : List TCap), ([.sl (TCap.rows l)] : List AV) = [.sl (TCap.rows l')] ∧ y = .i (capsF l') := h
  obtain ⟨l', e, h⟩ := h'
  simp only [List.cons.injEq, AV.dv.injEq, AV.fv.injEq, DV.d.injEq, DV.ag.injEq, D.int.injEq, D.str.injEq, D.bool.injEq, D.sl.injEq, true_and, and_true, intsDi_inj, rowsT_inj, rowsKi_inj, TCap.row_inj, TCap.rows_inj] at e
  obtain rfl := e
  exact h, fun h => ⟨l, rfl, h⟩⟩
theorem checkCaps_ctr {cx : Cx} (h : Seat cx) : Ctr cx 125 capsS := by
  refine ctr_of (fn := Tryd.f125) (l := [.tmp 2]) (envL [(78, chanS), (169, (strB noneB)), (76, inS)]) [0, 2, 4, 7, 8, 9, 10, 11, 14, 24, 29] [] [] (envL_cons (isChannel_ctr h) (envL_cons (isNone_ctr h) (envL_cons (within_ctr h) (env0 h.hP)))) ?_ (by rw [h.hP]; exact Tryd.func125) rfl (by kernel_rfl) rfl ?_ ?_
  · rw [h.hP]; exact ⟨_, Tryd.func125, by kernel_rfl, by kernel_rfl⟩
  · rintro xs ⟨l, rfl, h1⟩; exact ⟨_, l, rfl, rfl⟩
  · rintro xs ⟨l, rfl, h1⟩
    refine ⟨by rw [Tryd.ntmps125]; simp, ?_⟩
    simp only [go_sem, h.hP, List.cons_append, List.nil_append, Meets_e, Below_e, Prod.exists, exists_eq, exists_eq_left, exists_eq_left', exists_eq_right, exists_eq_right', exists_and_left, exists_and_right, Ob.arr.injEq, AV.own.injEq, AV.fv.injEq, capsS_q, capsS_p, capsS_c, capsS_f, TCap.len, TCap.rows_inj, Tryd.ntmps125, Nat.reduceEqDiff, reduceCtorEq, Nat.reduceMul, Nat.reduceAdd, Nat.reduceSub, Nat.reduceDiv, Nat.reduceMod, Nat.reduceLeDiff, Nat.reduceLT, Nat.reduceBNe, Nat.reduceBEq, reduceIte, Int.reduceLE, Int.reduceLT, Int.reduceToNat, Int.reduceNeg, Int.reduceAdd, Int.reduceSub, Int.reduceMul, Int.reduceEq]
    refine ⟨fun c => (if_pos (by omega)).symm, fun c => ?_⟩
    have hc : capsF l = firstI l.length fun i => capF (l.getD i TCap.z) := if_neg (by omega)
    rw [hc]
    · refine vc_loopS (Int) (fun (i : Int) => [(10, .i i)]) [] (fun (i : Int) => []) (fun (i : Int) => []) (fun (i : Int) => 0) (fun (i : Int) => Rounds l.length (fun i => capF (l.getD i TCap.z)) i) (fun (i : Int) => (l.length - i).toNat) [] ?_ ?_
      · simp only [go_sem, h.hP, List.cons_append, List.nil_append, Meets_e, Below_e, Prod.exists, exists_eq, exists_eq_left, exists_eq_left', exists_eq_right, exists_eq_right', exists_and_left, exists_and_right, Ob.arr.injEq, AV.own.injEq, AV.fv.injEq, Tryd.ntmps125, Nat.reduceEqDiff, reduceCtorEq, Nat.reduceMul, Nat.reduceAdd, Nat.reduceSub, Nat.reduceDiv, Nat.reduceMod, Nat.reduceLeDiff, Nat.reduceLT, Nat.reduceBNe, Nat.reduceBEq, reduceIte, Int.reduceLE, Int.reduceLT, Int.reduceToNat, Int.reduceNeg, Int.reduceAdd, Int.reduceSub, Int.reduceMul, Int.reduceEq]
        exact Rounds.start
      · rintro i hr
        obtain ⟨hi, hS, hM, hE, hN⟩ := hr.use (by have := h1.1; omega)
        have ho : (l.getD i.toNat TCap.z).ok := okL_get h1 TCap.z_ok _
        simp only [go_sem, h.hP, List.cons_append, List.nil_append, Meets_e, Below_e, Prod.exists, exists_eq, exists_eq_left, exists_eq_left', exists_eq_right, exists_eq_right', exists_and_left, exists_and_right, Ob.arr.injEq, AV.own.injEq, AV.fv.injEq, capsS_q, capsS_p, capsS_c, capsS_f, chanS_q, chanS_p, chanS_c, chanS_f, strB_q, strB_p, strB_c, strB_f, inS_q, inS_p, inS_c, inS_f, TCap.len, TCap.get, TCap.rows_inj, Tryd.ntmps125, Nat.reduceEqDiff, reduceCtorEq, Nat.reduceMul, Nat.reduceAdd, Nat.reduceSub, Nat.reduceDiv, Nat.reduceMod, Nat.reduceLeDiff, Nat.reduceLT, Nat.reduceBNe, Nat.reduceBEq, reduceIte, Int.reduceLE, Int.reduceLT, Int.reduceToNat, Int.reduceNeg, Int.reduceAdd, Int.reduceSub, Int.reduceMul, Int.reduceEq]
        generalize l.getD i.toNat TCap.z = x at hS hE ho
        obtain ⟨o1, o2, o3, o4⟩ := ho
        unfold okS at o2
        have e1 : inB x.channel 0 4 = (decide (x.channel = 0) || inB x.channel 1 4) := by
          unfold inB
          rw [Bool.eq_iff_iff, Bool.or_eq_true, decide_eq_true_eq, decide_eq_true_eq, decide_eq_true_eq]
          omega
        have e0 : inB 0 0 4 = true := by decide
        ((repeat' (first | with_reducible apply And.intro | with_reducible intro)) <;> first | omega | assumption | exact hM (by assumption) | exact hS (by assumption) (by simp [capF, e1, e0, *]) | exact (hE _ (by assumption) (by simp [capF, e1, e0, *]) (by decide)).symm | exact (hN (by assumption)).symm)
/-! ### Pools -/
def poolR (q : TPool) : DV := .ag q.row
theorem poolR_inj : ∀ a b, poolR a = poolR b → a = b := ag_inj fun _ _ => TPool.inj
def FPool (p : TPool) : List (List D) := [p.row]
theorem FPool_inj : ∀ a b, FPool a = FPool b → a = b := fun a b h => TPool.inj (by simpa [FPool] using h)
def FStr (s : ByteArray) : List (List D) := [[.str s]]
theorem FStr_inj : ∀ a b, FStr a = FStr b → a = b := fun a b h => by simpa [FStr] using h
def poolΦ : List (List D) → FSpec := csp FPool poolR fun p q => decide (q.name = p.name)
theorem poolΦ_h (p q : TPool) : (poolΦ [[.str p.name, .int .i64 p.channel, .int .i64 p.perMinute, .int .i64 p.first, .sl (intsD p.warm)]]).holds (.ag q.row) = decide (q.name = p.name) := csp_holds FPool_inj poolR_inj p q
theorem poolΦ_hl (p q : TPool) : (poolΦ [[.str p.name, .int .i64 p.channel, .int .i64 p.perMinute, .int .i64 p.first, .sl (intsD p.warm)]]).holds (.ag [.str q.name, .int .i64 q.channel, .int .i64 q.perMinute, .int .i64 q.first, .sl (intsD q.warm)]) = decide (q.name = p.name) := csp_holds FPool_inj poolR_inj p q
theorem poolΦ_d (p q : TPool) : (poolΦ [[.str p.name, .int .i64 p.channel, .int .i64 p.perMinute, .int .i64 p.first, .sl (intsD p.warm)]]).det (.ag [.str q.name, .int .i64 q.channel, .int .i64 q.perMinute, .int .i64 q.first, .sl (intsD q.warm)]) = True := eq_true (csp_det FPool_inj poolR_inj p q)
def pnameΦ : List (List D) → FSpec := csp FStr poolR fun s q => decide (q.name = s)
theorem pnameΦ_h (s : ByteArray) (q : TPool) : (pnameΦ [[.str s]]).holds (.ag q.row) = decide (q.name = s) := csp_holds FStr_inj poolR_inj s q
theorem pnameΦ_hl (s : ByteArray) (q : TPool) : (pnameΦ [[.str s]]).holds (.ag [.str q.name, .int .i64 q.channel, .int .i64 q.perMinute, .int .i64 q.first, .sl (intsD q.warm)]) = decide (q.name = s) := csp_holds FStr_inj poolR_inj s q
theorem pnameΦ_d (s : ByteArray) (q : TPool) : (pnameΦ [[.str s]]).det (.ag [.str q.name, .int .i64 q.channel, .int .i64 q.perMinute, .int .i64 q.first, .sl (intsD q.warm)]) = True := eq_true (csp_det FStr_inj poolR_inj s q)
def outΦ (lo hi : Int) : List (List D) → FSpec := csp F0 intD fun _ n => !inB n lo hi
theorem outΦ_h (lo hi n : Int) : (outΦ lo hi []).holds (elI [.int .i64 n]) = !inB n lo hi := csp_holds F0_inj intD_inj () n
theorem outΦ_d (lo hi n : Int) : (outΦ lo hi []).det (elI [.int .i64 n]) = True := eq_true (csp_det F0_inj intD_inj () n)
theorem checkPools1_ctr {cx : Cx} (h : Seat cx) : Ctr cx 170 (cloS FPool poolR fun p q => decide (q.name = p.name)) := by
  refine ctr_of (fn := Tryd.f170) (l := [.tmp 3]) (envL []) [0, 1, 2, 3] [] [] (env0 h.hP) ?_ (by rw [h.hP]; exact Tryd.func170) rfl (by kernel_rfl) rfl ?_ ?_
  · rw [h.hP]; exact ⟨_, Tryd.func170, by kernel_rfl, by kernel_rfl⟩
  · rintro xs ⟨c, a, rfl⟩; exact ⟨_, c, a, rfl, rfl⟩
  · rintro xs ⟨c, a, rfl⟩
    refine ⟨by rw [Tryd.ntmps170]; simp [FPool], ?_⟩
    simp only [go_sem, h.hP, List.cons_append, List.nil_append, Meets_e, Below_e, Prod.exists, exists_eq, exists_eq_left, exists_eq_left', exists_eq_right, exists_eq_right', exists_and_left, exists_and_right, Ob.arr.injEq, AV.own.injEq, AV.fv.injEq, cloS, FPool, poolR, TPool.row, Tryd.ntmps170, Nat.reduceEqDiff, reduceCtorEq, Nat.reduceMul, Nat.reduceAdd, Nat.reduceSub, Nat.reduceDiv, Nat.reduceMod, Nat.reduceLeDiff, Nat.reduceLT, Nat.reduceBNe, Nat.reduceBEq, reduceIte, Int.reduceLE, Int.reduceLT, Int.reduceToNat, Int.reduceNeg, Int.reduceAdd, Int.reduceSub, Int.reduceMul, Int.reduceEq]
    exact ⟨c, a, by simp⟩
theorem poolFault1_ctr {cx : Cx} (h : Seat cx) : Ctr cx 131 (cloS FPool poolR fun p q => decide (q.name = p.name)) := by
  refine ctr_of (fn := Tryd.f131) (l := [.tmp 3]) (envL []) [0, 1, 2, 3] [] [] (env0 h.hP) ?_ (by rw [h.hP]; exact Tryd.func131) rfl (by kernel_rfl) rfl ?_ ?_
  · rw [h.hP]; exact ⟨_, Tryd.func131, by kernel_rfl, by kernel_rfl⟩
  · rintro xs ⟨c, a, rfl⟩; exact ⟨_, c, a, rfl, rfl⟩
  · rintro xs ⟨c, a, rfl⟩
    refine ⟨by rw [Tryd.ntmps131]; simp [FPool], ?_⟩
    simp only [go_sem, h.hP, List.cons_append, List.nil_append, Meets_e, Below_e, Prod.exists, exists_eq, exists_eq_left, exists_eq_left', exists_eq_right, exists_eq_right', exists_and_left, exists_and_right, Ob.arr.injEq, AV.own.injEq, AV.fv.injEq, cloS, FPool, poolR, TPool.row, Tryd.ntmps131, Nat.reduceEqDiff, reduceCtorEq, Nat.reduceMul, Nat.reduceAdd, Nat.reduceSub, Nat.reduceDiv, Nat.reduceMod, Nat.reduceLeDiff, Nat.reduceLT, Nat.reduceBNe, Nat.reduceBEq, reduceIte, Int.reduceLE, Int.reduceLT, Int.reduceToNat, Int.reduceNeg, Int.reduceAdd, Int.reduceSub, Int.reduceMul, Int.reduceEq]
    exact ⟨c, a, by simp⟩
theorem Room1_ctr {cx : Cx} (h : Seat cx) : Ctr cx 75 (cloS FStr poolR fun s q => decide (q.name = s)) := by
  refine ctr_of (fn := Tryd.f75) (l := [.tmp 3]) (envL []) [0, 1, 2, 3] [] [] (env0 h.hP) ?_ (by rw [h.hP]; exact Tryd.func75) rfl (by kernel_rfl) rfl ?_ ?_
  · rw [h.hP]; exact ⟨_, Tryd.func75, by kernel_rfl, by kernel_rfl⟩
  · rintro xs ⟨c, a, rfl⟩; exact ⟨_, c, a, rfl, rfl⟩
  · rintro xs ⟨c, a, rfl⟩
    refine ⟨by rw [Tryd.ntmps75]; simp [FStr], ?_⟩
    simp only [go_sem, h.hP, List.cons_append, List.nil_append, Meets_e, Below_e, Prod.exists, exists_eq, exists_eq_left, exists_eq_left', exists_eq_right, exists_eq_right', exists_and_left, exists_and_right, Ob.arr.injEq, AV.own.injEq, AV.fv.injEq, cloS, FStr, poolR, TPool.row, Tryd.ntmps75, Nat.reduceEqDiff, reduceCtorEq, Nat.reduceMul, Nat.reduceAdd, Nat.reduceSub, Nat.reduceDiv, Nat.reduceMod, Nat.reduceLeDiff, Nat.reduceLT, Nat.reduceBNe, Nat.reduceBEq, reduceIte, Int.reduceLE, Int.reduceLT, Int.reduceToNat, Int.reduceNeg, Int.reduceAdd, Int.reduceSub, Int.reduceMul, Int.reduceEq]
    exact ⟨c, a, by simp⟩
theorem PoolRooms1_ctr {cx : Cx} (h : Seat cx) : Ctr cx 30 (cloS FStr poolR fun s q => decide (q.name = s)) := by
  refine ctr_of (fn := Tryd.f30) (l := [.tmp 3]) (envL []) [0, 1, 2, 3] [] [] (env0 h.hP) ?_ (by rw [h.hP]; exact Tryd.func30) rfl (by kernel_rfl) rfl ?_ ?_
  · rw [h.hP]; exact ⟨_, Tryd.func30, by kernel_rfl, by kernel_rfl⟩
  · rintro xs ⟨c, a, rfl⟩; exact ⟨_, c, a, rfl, rfl⟩
  · rintro xs ⟨c, a, rfl⟩
    refine ⟨by rw [Tryd.ntmps30]; simp [FStr], ?_⟩
    simp only [go_sem, h.hP, List.cons_append, List.nil_append, Meets_e, Below_e, Prod.exists, exists_eq, exists_eq_left, exists_eq_left', exists_eq_right, exists_eq_right', exists_and_left, exists_and_right, Ob.arr.injEq, AV.own.injEq, AV.fv.injEq, cloS, FStr, poolR, TPool.row, Tryd.ntmps30, Nat.reduceEqDiff, reduceCtorEq, Nat.reduceMul, Nat.reduceAdd, Nat.reduceSub, Nat.reduceDiv, Nat.reduceMod, Nat.reduceLeDiff, Nat.reduceLT, Nat.reduceBNe, Nat.reduceBEq, reduceIte, Int.reduceLE, Int.reduceLT, Int.reduceToNat, Int.reduceNeg, Int.reduceAdd, Int.reduceSub, Int.reduceMul, Int.reduceEq]
    exact ⟨c, a, by simp⟩
theorem checkPools2_ctr {cx : Cx} (h : Seat cx) : Ctr cx 171 (cloS F0 intD fun _ n => !inB n 0 1000000) := by
  refine ctr_of (fn := Tryd.f171) (l := [.tmp 2]) (envL [(76, inS)]) [0, 2] [] [] (envL_cons (within_ctr h) (env0 h.hP)) ?_ (by rw [h.hP]; exact Tryd.func171) rfl (by kernel_rfl) rfl ?_ ?_
  · rw [h.hP]; exact ⟨_, Tryd.func171, by kernel_rfl, by kernel_rfl⟩
  · rintro xs ⟨c, a, rfl⟩; exact ⟨_, c, a, rfl, rfl⟩
  · rintro xs ⟨c, a, rfl⟩
    refine ⟨by rw [Tryd.ntmps171]; simp [F0], ?_⟩
    simp only [go_sem, h.hP, List.cons_append, List.nil_append, Meets_e, Below_e, Prod.exists, exists_eq, exists_eq_left, exists_eq_left', exists_eq_right, exists_eq_right', exists_and_left, exists_and_right, Ob.arr.injEq, AV.own.injEq, AV.fv.injEq, inS_q, inS_p, inS_c, inS_f, cloS, F0, intD, Tryd.ntmps171, Nat.reduceEqDiff, reduceCtorEq, Nat.reduceMul, Nat.reduceAdd, Nat.reduceSub, Nat.reduceDiv, Nat.reduceMod, Nat.reduceLeDiff, Nat.reduceLT, Nat.reduceBNe, Nat.reduceBEq, reduceIte, Int.reduceLE, Int.reduceLT, Int.reduceToNat, Int.reduceNeg, Int.reduceAdd, Int.reduceSub, Int.reduceMul, Int.reduceEq]
theorem CheckRules1_ctr {cx : Cx} (h : Seat cx) : Ctr cx 128 (cloS F0 intD fun _ n => !inB n 1 100000) := by
  refine ctr_of (fn := Tryd.f128) (l := [.tmp 2]) (envL [(76, inS)]) [0, 2] [] [] (envL_cons (within_ctr h) (env0 h.hP)) ?_ (by rw [h.hP]; exact Tryd.func128) rfl (by kernel_rfl) rfl ?_ ?_
  · rw [h.hP]; exact ⟨_, Tryd.func128, by kernel_rfl, by kernel_rfl⟩
  · rintro xs ⟨c, a, rfl⟩; exact ⟨_, c, a, rfl, rfl⟩
  · rintro xs ⟨c, a, rfl⟩
    refine ⟨by rw [Tryd.ntmps128]; simp [F0], ?_⟩
    simp only [go_sem, h.hP, List.cons_append, List.nil_append, Meets_e, Below_e, Prod.exists, exists_eq, exists_eq_left, exists_eq_left', exists_eq_right, exists_eq_right', exists_and_left, exists_and_right, Ob.arr.injEq, AV.own.injEq, AV.fv.injEq, inS_q, inS_p, inS_c, inS_f, cloS, F0, intD, Tryd.ntmps128, Nat.reduceEqDiff, reduceCtorEq, Nat.reduceMul, Nat.reduceAdd, Nat.reduceSub, Nat.reduceDiv, Nat.reduceMod, Nat.reduceLeDiff, Nat.reduceLT, Nat.reduceBNe, Nat.reduceBEq, reduceIte, Int.reduceLE, Int.reduceLT, Int.reduceToNat, Int.reduceNeg, Int.reduceAdd, Int.reduceSub, Int.reduceMul, Int.reduceEq]
def poolF (l : List TPool) (p : TPool) : Int := if keyB p.name = false then 5 else if (l.any fun q => decide (q.name = p.name)) = true then 6 else if inB p.channel 1 4 = false then 4 else
  if inB p.perMinute 1 10000 = false ∨ inB p.first 0 3000 = false then 1 else if 60 < (p.warm.length : Int) then 2 else if (p.warm.any fun n => !inB n 0 1000000) = true then 1 else 0
def poolsF (l : List TPool) : Int := if 10 < (l.length : Int) then 2 else firstI l.length fun i => poolF (l.take i) (l.getD i TPool.z)
def poolsS  : Spec where
  pre xs := ∃ (l : List TPool), xs = [.sl (TPool.rows l)] ∧ (okL TPool.ok l)
  post xs y := ∃ (l : List TPool), xs = [.sl (TPool.rows l)] ∧ y = .i (poolsF l)
  cost _ := 0
  fresh := true
theorem poolsS_c  (xs : List AV) : (poolsS).cost xs = 0 := nr rfl
theorem poolsS_f  : (poolsS).fresh = true := nr rfl
theorem poolsS_q  (l : List TPool) : (poolsS).pre [.sl (TPool.rows l)] = (okL TPool.ok l) := propext ⟨fun h => by
  have h' : ∃ (l' : List TPool), ([.sl (TPool.rows l)] : List AV) = [.sl (TPool.rows l')] ∧ (okL TPool.ok l') := h
  obtain ⟨l', e, h⟩ := h'
  simp only [List.cons.injEq, AV.dv.injEq, AV.fv.injEq, DV.d.injEq, DV.ag.injEq, D.int.injEq, D.str.injEq, D.bool.injEq, D.sl.injEq, true_and, and_true, intsDi_inj, rowsT_inj, rowsKi_inj, TPool.row_inj, TPool.rows_inj] at e
  obtain rfl := e
  exact h, fun h => ⟨l, rfl, h⟩⟩
theorem poolsS_p  (l : List TPool) : (poolsS).post [.sl (TPool.rows l)] = fun y => y = .i (poolsF l) := funext fun y => propext ⟨fun h => by
  have h' : ∃ (l' : List TPool), ([.sl (TPool.rows l)] : List AV) = [.sl (TPool.rows l')] ∧ y = .i (poolsF l') := h
  obtain ⟨l', e, h⟩ := h'
  simp only [List.cons.injEq, AV.dv.injEq, AV.fv.injEq, DV.d.injEq, DV.ag.injEq, D.int.injEq, D.str.injEq, D.bool.injEq, D.sl.injEq, true_and, and_true, intsDi_inj, rowsT_inj, rowsKi_inj, TPool.row_inj, TPool.rows_inj] at e
  obtain rfl := e
  exact h, fun h => ⟨l, rfl, h⟩⟩
theorem checkPools_ctr {cx : Cx} (h : Seat cx) : Ctr cx 126 poolsS := by
  refine ctr_of (fn := Tryd.f126) (l := [.tmp 2]) (envF [(78, chanS), (91, (strB keyB)), (76, inS), (130, (conFS DV.ag [.str ⟨#[]⟩, .int .i64 0, .int .i64 0, .int .i64 0, .sl []])), (127, (conFS elI [.int .i64 0]))] [(170, poolΦ), (171, (outΦ 0 1000000))]) [0, 2, 3, 4, 7, 8, 9, 10, 11, 15, 20, 26, 31, 42, 47] [] [] (envF_cons (clo_of (checkPools1_ctr h)) (envF_cons (clo_of (checkPools2_ctr h)) (envF_nil (envL_cons (isChannel_ctr h) (envL_cons (IsKey_ctr h) (envL_cons (within_ctr h) (envL_cons (containsFunc_TPool h) (envL_cons (containsFunc_int h) (env0 h.hP))))))))) ?_ (by rw [h.hP]; exact Tryd.func126) rfl (by kernel_rfl) rfl ?_ ?_
  · rw [h.hP]; exact ⟨_, Tryd.func126, by kernel_rfl, by kernel_rfl⟩
  · rintro xs ⟨l, rfl, h1⟩; exact ⟨_, l, rfl, rfl⟩
  · rintro xs ⟨l, rfl, h1⟩
    refine ⟨by rw [Tryd.ntmps126]; simp, ?_⟩
    simp only [go_sem, h.hP, List.cons_append, List.nil_append, Meets_e, Below_e, Prod.exists, exists_eq, exists_eq_left, exists_eq_left', exists_eq_right, exists_eq_right', exists_and_left, exists_and_right, Ob.arr.injEq, AV.own.injEq, AV.fv.injEq, poolsS_q, poolsS_p, poolsS_c, poolsS_f, TPool.len, TPool.rows_inj, Tryd.ntmps126, Nat.reduceEqDiff, reduceCtorEq, Nat.reduceMul, Nat.reduceAdd, Nat.reduceSub, Nat.reduceDiv, Nat.reduceMod, Nat.reduceLeDiff, Nat.reduceLT, Nat.reduceBNe, Nat.reduceBEq, reduceIte, Int.reduceLE, Int.reduceLT, Int.reduceToNat, Int.reduceNeg, Int.reduceAdd, Int.reduceSub, Int.reduceMul, Int.reduceEq]
    refine ⟨fun c => (if_pos (by omega)).symm, fun c => ?_⟩
    have hc : poolsF l = firstI l.length fun i => poolF (l.take i) (l.getD i TPool.z) := if_neg (by omega)
    rw [hc]
    · refine vc_loopS (Int) (fun (i : Int) => [(10, .i i)]) [] (fun (i : Int) => []) (fun (i : Int) => []) (fun (i : Int) => 0) (fun (i : Int) => Rounds l.length (fun i => poolF (l.take i) (l.getD i TPool.z)) i) (fun (i : Int) => (l.length - i).toNat) [] ?_ ?_
      · simp only [go_sem, h.hP, List.cons_append, List.nil_append, Meets_e, Below_e, Prod.exists, exists_eq, exists_eq_left, exists_eq_left', exists_eq_right, exists_eq_right', exists_and_left, exists_and_right, Ob.arr.injEq, AV.own.injEq, AV.fv.injEq, Tryd.ntmps126, Nat.reduceEqDiff, reduceCtorEq, Nat.reduceMul, Nat.reduceAdd, Nat.reduceSub, Nat.reduceDiv, Nat.reduceMod, Nat.reduceLeDiff, Nat.reduceLT, Nat.reduceBNe, Nat.reduceBEq, reduceIte, Int.reduceLE, Int.reduceLT, Int.reduceToNat, Int.reduceNeg, Int.reduceAdd, Int.reduceSub, Int.reduceMul, Int.reduceEq]
        exact Rounds.start
      · rintro i hr
        obtain ⟨hi, hS, hM, hE, hN⟩ := hr.use (by have := h1.1; omega)
        have ho : (l.getD i.toNat TPool.z).ok := okL_get h1 TPool.z_ok _
        simp only [go_sem, h.hP, List.cons_append, List.nil_append, Meets_e, Below_e, Prod.exists, exists_eq, exists_eq_left, exists_eq_left', exists_eq_right, exists_eq_right', exists_and_left, exists_and_right, Ob.arr.injEq, AV.own.injEq, AV.fv.injEq, poolsS_q, poolsS_p, poolsS_c, poolsS_f, chanS_q, chanS_p, chanS_c, chanS_f, strB_q, strB_p, strB_c, strB_f, inS_q, inS_p, inS_c, inS_f, conFS, TPool.len, TPool.get, TPool.rows_inj, TPool.rtake, TPool.zlT, TPool.any, intsD_len, intsD_get, intsD_any, poolΦ_h, poolΦ_d, outΦ_h, outΦ_d, Tryd.ntmps126, Nat.reduceEqDiff, reduceCtorEq, Nat.reduceMul, Nat.reduceAdd, Nat.reduceSub, Nat.reduceDiv, Nat.reduceMod, Nat.reduceLeDiff, Nat.reduceLT, Nat.reduceBNe, Nat.reduceBEq, reduceIte, Int.reduceLE, Int.reduceLT, Int.reduceToNat, Int.reduceNeg, Int.reduceAdd, Int.reduceSub, Int.reduceMul, Int.reduceEq]
        have hz : (l.take i.toNat).length ≤ l.length := List.length_take_le' _ _
        generalize l.getD i.toNat TPool.z = x at hS hE ho
        obtain ⟨o1, o2, o3, o4, o5⟩ := ho
        have hw := o5.1
        have hl := h1.1
        unfold okS at o1
        ((repeat' (first | with_reducible apply And.intro | with_reducible intro)) <;> first | omega | assumption | exact hM (by assumption) | exact hS (by assumption) (by simp [poolF, *]) | exact (hE _ (by assumption) (by simp [poolF, *]) (by decide)).symm | exact (hN (by assumption)).symm)
/-! ### CheckRules -/
def quietF (l : List Int) (i : Nat) : Int := if inB (l.getD i 0) 1 4 = false then 4 else if 0 < (i : Int) ∧ l.getD i 0 ≤ l.getD (i - 1) 0 then 7 else 0
open Classical in
noncomputable def rankF (l : List ByteArray) (i : Nat) : Int := if keyB (l.getD i ⟨#[]⟩) = false then 5 else if conE (l.getD i ⟨#[]⟩) (l.take i) = true then 6 else 0
def delF (l : List Int) : Int := if 10 < (l.length : Int) then 2 else if (l.any fun n => !inB n 1 100000) = true then 1 else 0
noncomputable def rules2F (r : TSendRules) : Int := orE (firstI r.ranks.length (rankF r.ranks)) (orE (capsF r.caps) (orE (poolsF r.pools) (delF r.delays)))
noncomputable def rules1F (r : TSendRules) : Int := if inB r.quietFrom 0 1439 = false ∨ inB r.quietTo 0 1439 = false then 1 else if 30 < (r.ranks.length : Int) then 2 else rules2F r
noncomputable def rulesF (r : TSendRules) : Int := orE (firstI r.quiet.length (quietF r.quiet)) (rules1F r)
def rulesS  : Spec where
  pre xs := ∃ (r : TSendRules), xs = [.dv (.ag r.row)] ∧ (r.ok)
  post xs y := ∃ (r : TSendRules), xs = [.dv (.ag r.row)] ∧ y = .i (rulesF r)
  cost _ := 0
  fresh := true
theorem rulesS_c  (xs : List AV) : (rulesS).cost xs = 0 := nr rfl
theorem rulesS_f  : (rulesS).fresh = true := nr rfl
theorem rulesS_q  (r : TSendRules) : (rulesS).pre [.dv (.ag [.sl (intsD r.quiet), .int .i64 r.quietFrom, .int .i64 r.quietTo, .sl (rowsT r.ranks), .sl (TCap.rows r.caps), .sl (TPool.rows r.pools), .sl (intsD r.delays)])] = (r.ok) := propext ⟨fun h => by
  have h' : ∃ (r' : TSendRules), ([.dv (.ag r.row)] : List AV) = [.dv (.ag r'.row)] ∧ (r'.ok) := h
  obtain ⟨r', e, h⟩ := h'
  simp only [List.cons.injEq, AV.dv.injEq, AV.fv.injEq, DV.d.injEq, DV.ag.injEq, D.int.injEq, D.str.injEq, D.bool.injEq, D.sl.injEq, true_and, and_true, intsDi_inj, rowsT_inj, rowsKi_inj, TSendRules.row_inj, TSendRules.rows_inj] at e
  obtain rfl := e
  exact h, fun h => ⟨r, rfl, h⟩⟩
theorem rulesS_p  (r : TSendRules) : (rulesS).post [.dv (.ag [.sl (intsD r.quiet), .int .i64 r.quietFrom, .int .i64 r.quietTo, .sl (rowsT r.ranks), .sl (TCap.rows r.caps), .sl (TPool.rows r.pools), .sl (intsD r.delays)])] = fun y => y = .i (rulesF r) := funext fun y => propext ⟨fun h => by
  have h' : ∃ (r' : TSendRules), ([.dv (.ag r.row)] : List AV) = [.dv (.ag r'.row)] ∧ y = .i (rulesF r') := h
  obtain ⟨r', e, h⟩ := h'
  simp only [List.cons.injEq, AV.dv.injEq, AV.fv.injEq, DV.d.injEq, DV.ag.injEq, D.int.injEq, D.str.injEq, D.bool.injEq, D.sl.injEq, true_and, and_true, intsDi_inj, rowsT_inj, rowsKi_inj, TSendRules.row_inj, TSendRules.rows_inj] at e
  obtain rfl := e
  exact h, fun h => ⟨r, rfl, h⟩⟩
end Go.Avc
