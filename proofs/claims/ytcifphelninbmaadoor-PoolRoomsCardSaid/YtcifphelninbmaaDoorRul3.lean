/- The reference's rules: poolFault, SendRulesFault: their contracts. No condition. -/
import Derived.Test.YtcifphelninbmaaDoorRul
import Derived.Test.YtcifphelninbmaaDoorKey
set_option linter.unusedVariables false
set_option linter.unusedSimpArgs false
set_option maxRecDepth 100000
namespace Go.Avc
open Go Go.Proofs

theorem any_first {α : Type} (l : List α) (d : α) (q : α → Bool) {e : Int} (he : e ≠ 0) : firstI l.length (fun i => if q (l.getD i d) = true then e else 0) = if l.any q = true then e else 0 := by
  by_cases h : l.any q = true
  · rw [if_pos h]
    have hne : ∃ i, i < l.length ∧ q (l.getD i d) = true := by
      obtain ⟨x, hx, hq⟩ := List.any_eq_true.1 h
      obtain ⟨i, hi, rfl⟩ := List.mem_iff_getElem.1 hx
      exact ⟨i, hi, by rw [List.getD_eq_getElem?_getD, List.getElem?_eq_getElem hi]; exact hq⟩
    unfold firstI
    cases hf : (List.range l.length).find? (fun i => decide ((if q (l.getD i d) = true then e else 0) ≠ 0)) with
    | none =>
      obtain ⟨i, hi, hq⟩ := hne
      have := List.find?_eq_none.1 hf i (List.mem_range.2 hi)
      simp only [decide_eq_true_eq] at this
      rw [if_pos hq] at this
      exact absurd he this
    | some i =>
      have := List.find?_some hf
      simp only [decide_eq_true_eq] at this
      split at this
      · rename_i hq; simp only [hq, if_true]
      · exact absurd rfl this
  · rw [if_neg h]
    refine firstI_no (i := l.length) (fun j hj => ?_) (by omega)
    rw [if_neg]
    intro hq
    have hj' : j < l.length := by omega
    rw [List.getD_eq_getElem?_getD, List.getElem?_eq_getElem hj'] at hq
    exact h (List.any_eq_true.2 ⟨_, List.getElem_mem hj', hq⟩)
def outF (lo hi : Int) (l : List Int) (i : Nat) : Int := if (!inB (l.getD i 0) lo hi) = true then 1 else 0
theorem out_any (lo hi : Int) (l : List Int) : firstI l.length (outF lo hi l) = if (l.any fun n => !inB n lo hi) = true then 1 else 0 := any_first l 0 (fun n => !inB n lo hi) (by decide)
theorem outF_1 {lo hi : Int} {l : List Int} {i : Nat} (h : inB (l.getD i 0) lo hi = false) : outF lo hi l i = 1 := if_pos (by rw [h]; rfl)
theorem outF_0 {lo hi : Int} {l : List Int} {i : Nat} (h : inB (l.getD i 0) lo hi = true) : outF lo hi l i = 0 := if_neg (by rw [h]; decide)
def poolFaultS  : Spec where
  pre xs := ∃ (l : List TPool) (p : TPool), xs = [.sl (TPool.rows l), .dv (.ag p.row)] ∧ (l.length ≤ 1048576 ∧ p.ok)
  post xs y := ∃ (l : List TPool) (p : TPool), xs = [.sl (TPool.rows l), .dv (.ag p.row)] ∧ y = .i (poolF l p)
  cost _ := 0
  fresh := true
theorem poolFaultS_c  (xs : List AV) : (poolFaultS).cost xs = 0 := nr rfl
theorem poolFaultS_f  : (poolFaultS).fresh = true := nr rfl
theorem poolFaultS_q  (l : List TPool) (p : TPool) : (poolFaultS).pre [.sl (TPool.rows l), .dv (.ag [.str p.name, .int .i64 p.channel, .int .i64 p.perMinute, .int .i64 p.first, .sl (intsD p.warm)])] = (l.length ≤ 1048576 ∧ p.ok) := propext ⟨fun h => by
  have h' : ∃ (l' : List TPool) (p' : TPool), ([.sl (TPool.rows l), .dv (.ag p.row)] : List AV) = [.sl (TPool.rows l'), .dv (.ag p'.row)] ∧ (l'.length ≤ 1048576 ∧ p'.ok) := h
  obtain ⟨l', p', e, h⟩ := h'
  simp only [List.cons.injEq, AV.dv.injEq, AV.fv.injEq, DV.d.injEq, DV.ag.injEq, D.int.injEq, D.str.injEq, D.bool.injEq, D.sl.injEq, true_and, and_true, intsDi_inj, rowsT_inj, rowsKi_inj, TPool.row_inj, TPool.rows_inj, TPool.row_inj, TPool.rows_inj] at e
  obtain ⟨rfl, rfl⟩ := e
  exact h, fun h => ⟨l, p, rfl, h⟩⟩
theorem poolFaultS_p  (l : List TPool) (p : TPool) : (poolFaultS).post [.sl (TPool.rows l), .dv (.ag [.str p.name, .int .i64 p.channel, .int .i64 p.perMinute, .int .i64 p.first, .sl (intsD p.warm)])] = fun y => y = .i (poolF l p) := funext fun y => propext ⟨fun h => by
  have h' : ∃ (l' : List TPool) (p' : TPool), ([.sl (TPool.rows l), .dv (.ag p.row)] : List AV) = [.sl (TPool.rows l'), .dv (.ag p'.row)] ∧ y = .i (poolF l' p') := h
  obtain ⟨l', p', e, h⟩ := h'
  simp only [List.cons.injEq, AV.dv.injEq, AV.fv.injEq, DV.d.injEq, DV.ag.injEq, D.int.injEq, D.str.injEq, D.bool.injEq, D.sl.injEq, true_and, and_true, intsDi_inj, rowsT_inj, rowsKi_inj, TPool.row_inj, TPool.rows_inj, TPool.row_inj, TPool.rows_inj] at e
  obtain ⟨rfl, rfl⟩ := e
  exact h, fun h => ⟨l, p, rfl, h⟩⟩
set_option maxHeartbeats 4000000 in
theorem poolFault_ctr {cx : Cx} (h : Seat cx) : Ctr cx 83 poolFaultS := by
  refine ctr_of (fn := Tryd.f83) (l := [.tmp 4]) (envF [(81, (strB keyB)), (80, inS), (130, (conFS DV.ag [.str ⟨#[]⟩, .int .i64 0, .int .i64 0, .int .i64 0, .sl []]))] [(131, poolΦ)]) [0, 1, 3, 4, 6, 7, 12, 16, 21, 32, 38, 39, 40, 41, 46] [] [] (envF_cons (clo_of (poolFault1_ctr h)) (envF_nil (envL_cons (Key_ctr h) (envL_cons (in_ctr h) (envL_cons (containsFunc_TPool h) (env0 h.hP)))))) ?_ (by rw [h.hP]; exact Tryd.func83) rfl (by kernel_rfl) rfl ?_ ?_
  · rw [h.hP]; exact ⟨_, Tryd.func83, by kernel_rfl, by kernel_rfl⟩
  · rintro xs ⟨l, p, rfl, h1⟩; exact ⟨_, l, p, rfl, rfl⟩
  · rintro xs ⟨l, p, rfl, h1, h2⟩
    obtain ⟨o1, o2, o3, o4, o5⟩ := h2
    refine ⟨by rw [Tryd.ntmps83]; simp, ?_⟩
    simp only [go_sem, h.hP, List.cons_append, List.nil_append, Meets_e, Below_e, Prod.exists, exists_eq, exists_eq_left, exists_eq_left', exists_eq_right, exists_eq_right', exists_and_left, exists_and_right, Ob.arr.injEq, AV.own.injEq, AV.fv.injEq, poolFaultS_q, poolFaultS_p, poolFaultS_c, poolFaultS_f, strB_q, strB_p, strB_c, strB_f, inS_q, inS_p, inS_c, inS_f, conFS, TPool.row, TPool.len, TPool.get, TPool.zlT, TPool.any, TPool.rows_inj, intsD_len, intsD_get, poolΦ_h, poolΦ_hl, poolΦ_d, Tryd.ntmps83, Nat.reduceEqDiff, reduceCtorEq, Nat.reduceMul, Nat.reduceAdd, Nat.reduceSub, Nat.reduceDiv, Nat.reduceMod, Nat.reduceLeDiff, Nat.reduceLT, Nat.reduceBNe, Nat.reduceBEq, reduceIte, Int.reduceLE, Int.reduceLT, Int.reduceToNat, Int.reduceNeg, Int.reduceAdd, Int.reduceSub, Int.reduceMul, Int.reduceEq]
    unfold okS at o1
    refine ⟨by omega, fun c1 => (if_pos c1).symm, fun c1 => ⟨by omega, fun c2 => ((if_neg (ne_ft c1)).trans (if_pos c2)).symm, fun c2 => ⟨fun c3 => ((if_neg (ne_ft c1)).trans ((if_neg (ne_tf c2)).trans (if_pos c3))).symm, fun c3 => ?_⟩⟩⟩
    have e0 : poolF l p = if inB p.perMinute 1 10000 = false ∨ inB p.first 0 3000 = false then 1 else if 60 < (p.warm.length : Int) then 2 else if (p.warm.any fun n => !inB n 0 1000000) = true then 1 else 0 := (if_neg (ne_ft c1)).trans ((if_neg (ne_tf c2)).trans (if_neg (ne_ft c3)))
    rw [e0]
    refine ⟨fun c4 => ⟨fun c5 => (if_pos (.inr c5)).symm, fun c5 => ?_⟩, fun c4 => (if_pos (.inl c4)).symm⟩
    rw [if_neg (fun e => e.elim (ne_ft c4) (ne_ft c5))]
    refine ⟨fun c6 => (if_pos c6).symm, fun c6 => ?_⟩
    rw [if_neg c6, ← out_any 0 1000000 p.warm]
    refine vc_loopS (Int) (fun (i : Int) => [(40, .i i)]) [3] (fun (i : Int) => []) (fun (i : Int) => []) (fun (i : Int) => 0) (fun (i : Int) => Rounds p.warm.length (outF 0 1000000 p.warm) i) (fun (i : Int) => (p.warm.length - i).toNat) [] ?_ ?_
    · simp only [go_sem, h.hP, List.cons_append, List.nil_append, Meets_e, Below_e, Prod.exists, exists_eq, exists_eq_left, exists_eq_left', exists_eq_right, exists_eq_right', exists_and_left, exists_and_right, Ob.arr.injEq, AV.own.injEq, AV.fv.injEq, Tryd.ntmps83, Nat.reduceEqDiff, reduceCtorEq, Nat.reduceMul, Nat.reduceAdd, Nat.reduceSub, Nat.reduceDiv, Nat.reduceMod, Nat.reduceLeDiff, Nat.reduceLT, Nat.reduceBNe, Nat.reduceBEq, reduceIte, Int.reduceLE, Int.reduceLT, Int.reduceToNat, Int.reduceNeg, Int.reduceAdd, Int.reduceSub, Int.reduceMul, Int.reduceEq]
      exact Rounds.start
    · rintro i hr
      obtain ⟨hi, hS, hM, hE, hN⟩ := hr.use (by omega)
      simp only [go_sem, h.hP, List.cons_append, List.nil_append, Meets_e, Below_e, Prod.exists, exists_eq, exists_eq_left, exists_eq_left', exists_eq_right, exists_eq_right', exists_and_left, exists_and_right, Ob.arr.injEq, AV.own.injEq, AV.fv.injEq, poolFaultS_q, poolFaultS_p, poolFaultS_c, poolFaultS_f, strB_q, strB_p, strB_c, strB_f, inS_q, inS_p, inS_c, inS_f, TPool.row, intsD_len, intsD_get, TPool.rows_inj, intsDi_inj, Tryd.ntmps83, Nat.reduceEqDiff, reduceCtorEq, Nat.reduceMul, Nat.reduceAdd, Nat.reduceSub, Nat.reduceDiv, Nat.reduceMod, Nat.reduceLeDiff, Nat.reduceLT, Nat.reduceBNe, Nat.reduceBEq, reduceIte, Int.reduceLE, Int.reduceLT, Int.reduceToNat, Int.reduceNeg, Int.reduceAdd, Int.reduceSub, Int.reduceMul, Int.reduceEq]
      refine ⟨fun c => ⟨hi, c, fun d => (hE 1 c (outF_1 d) (by decide)).symm, fun d => ⟨hS c (outF_0 d), hM c⟩⟩, fun c => (hN c).symm⟩
set_option maxHeartbeats 8000000 in
theorem SendRulesFault_ctr {cx : Cx} (h : Seat cx) : Ctr cx 28 rulesS := by
  refine ctr_of (fn := Tryd.f28) (l := [.tmp 2]) (envL [(81, (strB keyB)), (80, inS), (82, con_stringS), (83, poolFaultS)]) [0, 1, 2, 3, 4, 5, 6, 8, 9, 10, 11, 13, 15, 16, 17, 18, 24, 36, 47, 51, 53, 54, 55, 56, 62, 68, 73, 75, 76, 77, 78, 81, 86, 96, 111, 113, 114, 115, 116, 127, 133, 135, 136, 137, 138, 143] [] [] (envL_cons (Key_ctr h) (envL_cons (in_ctr h) (envL_cons (contains_string h) (envL_cons (poolFault_ctr h) (env0 h.hP))))) ?_ (by rw [h.hP]; exact Tryd.func28) rfl (by kernel_rfl) rfl ?_ ?_
  · rw [h.hP]; exact ⟨_, Tryd.func28, by kernel_rfl, by kernel_rfl⟩
  · rintro xs ⟨r, rfl, h1⟩; exact ⟨_, r, rfl, rfl⟩
  · rintro xs ⟨r, rfl, h1⟩
    obtain ⟨o1, o2, o3, o4, o5, o6, o7⟩ := h1
    refine ⟨by rw [Tryd.ntmps28]; simp, ?_⟩
    simp only [go_sem, h.hP, List.cons_append, List.nil_append, Meets_e, Below_e, Prod.exists, exists_eq, exists_eq_left, exists_eq_left', exists_eq_right, exists_eq_right', exists_and_left, exists_and_right, Ob.arr.injEq, AV.own.injEq, AV.fv.injEq, rulesS_q, rulesS_p, rulesS_c, rulesS_f, TSendRules.row, intsD_len, Tryd.ntmps28, Nat.reduceEqDiff, reduceCtorEq, Nat.reduceMul, Nat.reduceAdd, Nat.reduceSub, Nat.reduceDiv, Nat.reduceMod, Nat.reduceLeDiff, Nat.reduceLT, Nat.reduceBNe, Nat.reduceBEq, reduceIte, Int.reduceLE, Int.reduceLT, Int.reduceToNat, Int.reduceNeg, Int.reduceAdd, Int.reduceSub, Int.reduceMul, Int.reduceEq]
    refine vc_loopS (Int) (fun (i : Int) => [(17, .i i)]) [1] (fun (i : Int) => []) (fun (i : Int) => []) (fun (i : Int) => 0) (fun (i : Int) => Rounds r.quiet.length (quietF r.quiet) i) (fun (i : Int) => (r.quiet.length - i).toNat) [] ?_ ?_
    · simp only [go_sem, h.hP, List.cons_append, List.nil_append, Meets_e, Below_e, Prod.exists, exists_eq, exists_eq_left, exists_eq_left', exists_eq_right, exists_eq_right', exists_and_left, exists_and_right, Ob.arr.injEq, AV.own.injEq, AV.fv.injEq, Tryd.ntmps28, Nat.reduceEqDiff, reduceCtorEq, Nat.reduceMul, Nat.reduceAdd, Nat.reduceSub, Nat.reduceDiv, Nat.reduceMod, Nat.reduceLeDiff, Nat.reduceLT, Nat.reduceBNe, Nat.reduceBEq, reduceIte, Int.reduceLE, Int.reduceLT, Int.reduceToNat, Int.reduceNeg, Int.reduceAdd, Int.reduceSub, Int.reduceMul, Int.reduceEq]
      exact Rounds.start
    · rintro i hr
      obtain ⟨hi, hS, hM, hE, hN⟩ := hr.use (by have := o1.1; omega)
      simp only [go_sem, h.hP, List.cons_append, List.nil_append, Meets_e, Below_e, Prod.exists, exists_eq, exists_eq_left, exists_eq_left', exists_eq_right, exists_eq_right', exists_and_left, exists_and_right, Ob.arr.injEq, AV.own.injEq, AV.fv.injEq, rulesS_q, rulesS_p, rulesS_c, rulesS_f, inS_q, inS_p, inS_c, inS_f, TSendRules.row, intsD_len, intsD_get, rowsT_len, Tryd.ntmps28, Nat.reduceEqDiff, reduceCtorEq, Nat.reduceMul, Nat.reduceAdd, Nat.reduceSub, Nat.reduceDiv, Nat.reduceMod, Nat.reduceLeDiff, Nat.reduceLT, Nat.reduceBNe, Nat.reduceBEq, reduceIte, Int.reduceLE, Int.reduceLT, Int.reduceToNat, Int.reduceNeg, Int.reduceAdd, Int.reduceSub, Int.reduceMul, Int.reduceEq]
      have hw : 0 < i → i < r.quiet.length → IntKind.i64.wrap (i - 1) = i - 1 := fun a b => by have := o1.1; exact i64w (by omega) (by omega)
      have hq : i < r.quiet.length → quietF r.quiet i.toNat = if inB (r.quiet.getD i.toNat 0) 1 4 = false then 4 else if 0 < i ∧ r.quiet.getD i.toNat 0 ≤ r.quiet.getD (i - 1).toNat 0 then 7 else 0 := fun a => by
        unfold quietF
        rw [Int.toNat_of_nonneg hi, show i.toNat - 1 = (i - 1).toNat by omega]
      have hE' : ∀ e, i < r.quiet.length → quietF r.quiet i.toNat = e → e ≠ 0 → e = rulesF r := fun e a b d => by
        have := hE e a b d
        unfold rulesF
        rw [this]; exact (orE_l d).symm
      refine ⟨fun c => ⟨hi, c, fun c1 => ?_, fun c1 => ⟨fun c2 => ?_, fun c2 => ?_⟩⟩, fun c => ?_⟩
      · exact hE' 4 c (by rw [hq c, if_pos c1]) (by decide)
      · rw [hw c2 c]
        refine ⟨by omega, by omega, fun c3 => hE' 7 c (by rw [hq c, if_neg (ne_ft c1), if_pos ⟨c2, c3⟩]) (by decide), fun c3 => ⟨hS c (by rw [hq c, if_neg (ne_ft c1), if_neg (fun e => c3 e.2)]), hM c⟩⟩
      · exact ⟨hS c (by rw [hq c, if_neg (ne_ft c1), if_neg (fun e => c2 e.1)]), hM c⟩
      · have hR : rulesF r = rules1F r := by unfold rulesF; exact orE_r (hN c)
        rw [hR]
        clear hS hM hE hN hw hq hE' hR hr
        refine ⟨fun c1 => ⟨fun c2 => ?_, fun c2 => ⟨fun c3 => ?_, fun c3 => ?_⟩⟩, fun c1 => ?_⟩
        · exact (if_pos (.inr c2)).symm
        · exact ((if_neg (by simp [c1, c2])).trans (if_pos c3)).symm
        · have hR : rules1F r = rules2F r := (if_neg (by simp [c1, c2])).trans (if_neg c3)
          rw [hR]
          clear hR
          refine vc_loopS (Int) (fun (j : Int) => [(55, .i j)]) [1] (fun (j : Int) => []) (fun (j : Int) => []) (fun (j : Int) => 0) (fun (j : Int) => Rounds r.ranks.length (rankF r.ranks) j) (fun (j : Int) => (r.ranks.length - j).toNat) [] ?_ ?_
          · simp only [go_sem, h.hP, List.cons_append, List.nil_append, Meets_e, Below_e, Prod.exists, exists_eq, exists_eq_left, exists_eq_left', exists_eq_right, exists_eq_right', exists_and_left, exists_and_right, Ob.arr.injEq, AV.own.injEq, AV.fv.injEq, Tryd.ntmps28, Nat.reduceEqDiff, reduceCtorEq, Nat.reduceMul, Nat.reduceAdd, Nat.reduceSub, Nat.reduceDiv, Nat.reduceMod, Nat.reduceLeDiff, Nat.reduceLT, Nat.reduceBNe, Nat.reduceBEq, reduceIte, Int.reduceLE, Int.reduceLT, Int.reduceToNat, Int.reduceNeg, Int.reduceAdd, Int.reduceSub, Int.reduceMul, Int.reduceEq]
            exact Rounds.start
          · rintro j hr
            obtain ⟨hj, hS, hM, hE, hN⟩ := hr.use (by have := o4.1; omega)
            simp only [go_sem, h.hP, List.cons_append, List.nil_append, Meets_e, Below_e, Prod.exists, exists_eq, exists_eq_left, exists_eq_left', exists_eq_right, exists_eq_right', exists_and_left, exists_and_right, Ob.arr.injEq, AV.own.injEq, AV.fv.injEq, rulesS_q, rulesS_p, rulesS_c, rulesS_f, strB_q, strB_p, strB_c, strB_f, con_stringS_q, con_stringS_p, con_stringS_c, con_stringS_f, TSendRules.row, rowsT_len, rowsT_get, rowsT_take, rowsT_inj, rowsT_zlT, TCap.len, Tryd.ntmps28, Nat.reduceEqDiff, reduceCtorEq, Nat.reduceMul, Nat.reduceAdd, Nat.reduceSub, Nat.reduceDiv, Nat.reduceMod, Nat.reduceLeDiff, Nat.reduceLT, Nat.reduceBNe, Nat.reduceBEq, reduceIte, Int.reduceLE, Int.reduceLT, Int.reduceToNat, Int.reduceNeg, Int.reduceAdd, Int.reduceSub, Int.reduceMul, Int.reduceEq]
            have hE' : ∀ e, j < r.ranks.length → rankF r.ranks j.toNat = e → e ≠ 0 → e = rules2F r := fun e a b d => by
              have := hE e a b d
              unfold rules2F
              rw [this]; exact (orE_l d).symm
            have hk : (r.ranks.getD j.toNat ⟨#[]⟩).size ≤ 1073741824 := okL_get o4 okS_z _
            have hz : (r.ranks.take j.toNat).length ≤ r.ranks.length := List.length_take_le' _ _
            have hl := o4.1
            refine ⟨fun c => ⟨hj, c, by omega, fun d1 => ?_, fun d1 => ⟨hj, by omega, by omega, fun d2 => ?_, fun d2 => ?_⟩⟩, fun c => ?_⟩
            · exact hE' 5 c (if_pos d1) (by decide)
            · exact hE' 6 c ((if_neg (ne_ft d1)).trans (if_pos d2)) (by decide)
            · exact ⟨hS c ((if_neg (ne_ft d1)).trans (if_neg (by rw [d2]; decide))), hM c⟩
            · clear hS hM hE hE' hr
              have hR : rules2F r = orE (capsF r.caps) (orE (poolsF r.pools) (delF r.delays)) := orE_r (hN c)
              rw [hR]
              clear hR hN
              refine ⟨fun d1 => ?_, fun d1 => ?_⟩
              · have : capsF r.caps = 2 := if_pos d1
                rw [this]; rfl
              · have hcp : capsF r.caps = firstI r.caps.length fun i => capF (r.caps.getD i TCap.z) := if_neg d1
                rw [hcp]
                refine vc_loopS (Int) (fun (k : Int) => [(77, .i k)]) [1] (fun (k : Int) => []) (fun (k : Int) => []) (fun (k : Int) => 0) (fun (k : Int) => Rounds r.caps.length (fun i => capF (r.caps.getD i TCap.z)) k) (fun (k : Int) => (r.caps.length - k).toNat) [] ?_ ?_
                · simp only [go_sem, h.hP, List.cons_append, List.nil_append, Meets_e, Below_e, Prod.exists, exists_eq, exists_eq_left, exists_eq_left', exists_eq_right, exists_eq_right', exists_and_left, exists_and_right, Ob.arr.injEq, AV.own.injEq, AV.fv.injEq, Tryd.ntmps28, Nat.reduceEqDiff, reduceCtorEq, Nat.reduceMul, Nat.reduceAdd, Nat.reduceSub, Nat.reduceDiv, Nat.reduceMod, Nat.reduceLeDiff, Nat.reduceLT, Nat.reduceBNe, Nat.reduceBEq, reduceIte, Int.reduceLE, Int.reduceLT, Int.reduceToNat, Int.reduceNeg, Int.reduceAdd, Int.reduceSub, Int.reduceMul, Int.reduceEq]
                  exact Rounds.start
                · rintro k hr
                  obtain ⟨hk0, hS, hM, hE, hN⟩ := hr.use (by have := o5.1; omega)
                  have ho : (r.caps.getD k.toNat TCap.z).ok := okL_get o5 TCap.z_ok _
                  simp only [go_sem, h.hP, List.cons_append, List.nil_append, Meets_e, Below_e, Prod.exists, exists_eq, exists_eq_left, exists_eq_left', exists_eq_right, exists_eq_right', exists_and_left, exists_and_right, Ob.arr.injEq, AV.own.injEq, AV.fv.injEq, rulesS_q, rulesS_p, rulesS_c, rulesS_f, strB_q, strB_p, strB_c, strB_f, inS_q, inS_p, inS_c, inS_f, TSendRules.row, TCap.get, TCap.len, TPool.len, str_nil, Tryd.ntmps28, Nat.reduceEqDiff, reduceCtorEq, Nat.reduceMul, Nat.reduceAdd, Nat.reduceSub, Nat.reduceDiv, Nat.reduceMod, Nat.reduceLeDiff, Nat.reduceLT, Nat.reduceBNe, Nat.reduceBEq, reduceIte, Int.reduceLE, Int.reduceLT, Int.reduceToNat, Int.reduceNeg, Int.reduceAdd, Int.reduceSub, Int.reduceMul, Int.reduceEq]
                  have hE' : ∀ e, k < r.caps.length → capF (r.caps.getD k.toNat TCap.z) = e → e ≠ 0 → e = orE (firstI r.caps.length fun i => capF (r.caps.getD i TCap.z)) (orE (poolsF r.pools) (delF r.delays)) := fun e a b d => by
                    have := hE e a b d
                    rw [this]; exact (orE_l d).symm
                  have hQ : ¬ k < r.caps.length → orE (firstI r.caps.length fun i => capF (r.caps.getD i TCap.z)) (orE (poolsF r.pools) (delF r.delays)) = orE (poolsF r.pools) (delF r.delays) := fun a => orE_r (hN a)
                  generalize r.caps.getD k.toNat TCap.z = x at hS hE' ho
                  obtain ⟨p1, p2, p3, p4⟩ := ho
                  unfold okS at p2
                  refine ⟨fun e1 => ⟨hk0, e1, ?_⟩, fun e1 => ?_⟩
                  · clear hE hN hQ hr
                    have n1 : ¬ x.purpose.size = 0 → noneB x.purpose = keyB x.purpose := fun h => by simp [noneB, h]
                    have n2 : x.purpose.size = 0 → noneB x.purpose = true := fun h => by simp [noneB, h]
                    have g : inB x.channel 0 4 = true → noneB x.purpose = true → capF x = if inB x.many 1 1000 = false ∨ inB x.within 1 100000 = false then 1 else 0 := fun a b => (if_neg (ne_ft a)).trans (if_neg (ne_ft b))
                    refine ⟨fun a => hE' 4 e1 (if_pos a) (by decide), fun a => ⟨fun s => ⟨by omega, fun k0 => hE' 5 e1 ((if_neg (ne_ft a)).trans (if_pos ((n1 s).trans k0))) (by decide), fun k1 => ?_⟩, fun s => ?_⟩⟩
                    · have b := (n1 s).trans k1
                      exact ⟨fun m1 => ⟨fun w1 => hE' 1 e1 ((g a b).trans (if_pos (.inr w1))) (by decide), fun w1 => ⟨hS e1 ((g a b).trans (if_neg (fun e => e.elim (ne_ft m1) (ne_ft w1)))), hM e1⟩⟩, fun m1 => hE' 1 e1 ((g a b).trans (if_pos (.inl m1))) (by decide)⟩
                    · have b := n2 s
                      exact ⟨fun m1 => ⟨fun w1 => hE' 1 e1 ((g a b).trans (if_pos (.inr w1))) (by decide), fun w1 => ⟨hS e1 ((g a b).trans (if_neg (fun e => e.elim (ne_ft m1) (ne_ft w1)))), hM e1⟩⟩, fun m1 => hE' 1 e1 ((g a b).trans (if_pos (.inl m1))) (by decide)⟩
                  · rw [hQ e1]
                    clear hE' hS hM hE hN hQ hr
                    refine ⟨fun d2 => ?_, fun d2 => ?_⟩
                    · have : poolsF r.pools = 2 := if_pos d2
                      rw [this]; rfl
                    · have hpp : poolsF r.pools = firstI r.pools.length fun i => poolF (r.pools.take i) (r.pools.getD i TPool.z) := if_neg d2
                      rw [hpp]
                      refine vc_loopS (Int) (fun (m : Int) => [(115, .i m)]) [1] (fun (m : Int) => []) (fun (m : Int) => []) (fun (m : Int) => 0) (fun (m : Int) => Rounds r.pools.length (fun i => poolF (r.pools.take i) (r.pools.getD i TPool.z)) m) (fun (m : Int) => (r.pools.length - m).toNat) [] ?_ ?_
                      · simp only [go_sem, h.hP, List.cons_append, List.nil_append, Meets_e, Below_e, Prod.exists, exists_eq, exists_eq_left, exists_eq_left', exists_eq_right, exists_eq_right', exists_and_left, exists_and_right, Ob.arr.injEq, AV.own.injEq, AV.fv.injEq, Tryd.ntmps28, Nat.reduceEqDiff, reduceCtorEq, Nat.reduceMul, Nat.reduceAdd, Nat.reduceSub, Nat.reduceDiv, Nat.reduceMod, Nat.reduceLeDiff, Nat.reduceLT, Nat.reduceBNe, Nat.reduceBEq, reduceIte, Int.reduceLE, Int.reduceLT, Int.reduceToNat, Int.reduceNeg, Int.reduceAdd, Int.reduceSub, Int.reduceMul, Int.reduceEq]
                        exact Rounds.start
                      · rintro m hr
                        obtain ⟨hm0, hS, hM, hE, hN⟩ := hr.use (by have := o6.1; omega)
                        have ho : (r.pools.getD m.toNat TPool.z).ok := okL_get o6 TPool.z_ok _
                        have hz : (r.pools.take m.toNat).length ≤ r.pools.length := List.length_take_le' _ _
                        have hl := o6.1
                        simp only [go_sem, h.hP, List.cons_append, List.nil_append, Meets_e, Below_e, Prod.exists, exists_eq, exists_eq_left, exists_eq_left', exists_eq_right, exists_eq_right', exists_and_left, exists_and_right, Ob.arr.injEq, AV.own.injEq, AV.fv.injEq, rulesS_q, rulesS_p, rulesS_c, rulesS_f, poolFaultS_q, poolFaultS_p, poolFaultS_c, poolFaultS_f, TSendRules.row, TPool.get, TPool.len, TPool.rtake, TPool.zlT, intsD_len, Tryd.ntmps28, Nat.reduceEqDiff, reduceCtorEq, Nat.reduceMul, Nat.reduceAdd, Nat.reduceSub, Nat.reduceDiv, Nat.reduceMod, Nat.reduceLeDiff, Nat.reduceLT, Nat.reduceBNe, Nat.reduceBEq, reduceIte, Int.reduceLE, Int.reduceLT, Int.reduceToNat, Int.reduceNeg, Int.reduceAdd, Int.reduceSub, Int.reduceMul, Int.reduceEq]
                        have hE' : ∀ e, m < r.pools.length → poolF (r.pools.take m.toNat) (r.pools.getD m.toNat TPool.z) = e → e ≠ 0 → e = orE (firstI r.pools.length fun i => poolF (r.pools.take i) (r.pools.getD i TPool.z)) (delF r.delays) := fun e a b d => by
                          have := hE e a b d
                          rw [this]; exact (orE_l d).symm
                        have hQ : ¬ m < r.pools.length → orE (firstI r.pools.length fun i => poolF (r.pools.take i) (r.pools.getD i TPool.z)) (delF r.delays) = delF r.delays := fun a => orE_r (hN a)
                        refine ⟨fun e2 => ⟨hm0, e2, hm0, by omega, by omega, ho, fun d3 => hE' _ e2 rfl d3, fun d3 => ⟨hS e2 d3, hM e2⟩⟩, fun e2 => ?_⟩
                        rw [hQ e2]
                        clear hE' hS hM hE hN hQ hr
                        refine ⟨fun d3 => (if_pos d3).symm, fun d3 => ?_⟩
                        have hdd : delF r.delays = firstI r.delays.length (outF 1 100000 r.delays) := by
                          rw [out_any]; exact if_neg d3
                        rw [hdd]
                        refine vc_loopS (Int) (fun (q : Int) => [(137, .i q)]) [1] (fun (q : Int) => []) (fun (q : Int) => []) (fun (q : Int) => 0) (fun (q : Int) => Rounds r.delays.length (outF 1 100000 r.delays) q) (fun (q : Int) => (r.delays.length - q).toNat) [] ?_ ?_
                        · simp only [go_sem, h.hP, List.cons_append, List.nil_append, Meets_e, Below_e, Prod.exists, exists_eq, exists_eq_left, exists_eq_left', exists_eq_right, exists_eq_right', exists_and_left, exists_and_right, Ob.arr.injEq, AV.own.injEq, AV.fv.injEq, Tryd.ntmps28, Nat.reduceEqDiff, reduceCtorEq, Nat.reduceMul, Nat.reduceAdd, Nat.reduceSub, Nat.reduceDiv, Nat.reduceMod, Nat.reduceLeDiff, Nat.reduceLT, Nat.reduceBNe, Nat.reduceBEq, reduceIte, Int.reduceLE, Int.reduceLT, Int.reduceToNat, Int.reduceNeg, Int.reduceAdd, Int.reduceSub, Int.reduceMul, Int.reduceEq]
                          exact Rounds.start
                        · rintro q hr
                          obtain ⟨hq0, hS, hM, hE, hN⟩ := hr.use (by have := o7.1; omega)
                          simp only [go_sem, h.hP, List.cons_append, List.nil_append, Meets_e, Below_e, Prod.exists, exists_eq, exists_eq_left, exists_eq_left', exists_eq_right, exists_eq_right', exists_and_left, exists_and_right, Ob.arr.injEq, AV.own.injEq, AV.fv.injEq, rulesS_q, rulesS_p, rulesS_c, rulesS_f, inS_q, inS_p, inS_c, inS_f, TSendRules.row, intsD_len, intsD_get, Tryd.ntmps28, Nat.reduceEqDiff, reduceCtorEq, Nat.reduceMul, Nat.reduceAdd, Nat.reduceSub, Nat.reduceDiv, Nat.reduceMod, Nat.reduceLeDiff, Nat.reduceLT, Nat.reduceBNe, Nat.reduceBEq, reduceIte, Int.reduceLE, Int.reduceLT, Int.reduceToNat, Int.reduceNeg, Int.reduceAdd, Int.reduceSub, Int.reduceMul, Int.reduceEq]
                          exact ⟨fun e3 => ⟨hq0, e3, fun d => (hE 1 e3 (outF_1 d) (by decide)).symm, fun d => ⟨hS e3 (outF_0 d), hM e3⟩⟩, fun e3 => (hN e3).symm⟩
        · exact (if_pos (.inl c1)).symm
end Go.Avc
