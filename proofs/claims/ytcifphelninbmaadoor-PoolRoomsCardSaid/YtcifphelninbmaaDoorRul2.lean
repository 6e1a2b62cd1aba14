/- CheckRules: its contract. No condition. -/
import Derived.Test.YtcifphelninbmaaDoorRul
set_option linter.unusedVariables false
set_option linter.unusedSimpArgs false
set_option maxRecDepth 100000
namespace Go.Avc
open Go Go.Proofs

set_option maxHeartbeats 4000000 in
theorem CheckRules_ctr {cx : Cx} (h : Seat cx) : Ctr cx 74 rulesS := by
  refine ctr_of (fn := Tryd.f74) (l := [.tmp 2]) (envF [(78, chanS), (76, inS), (91, (strB keyB)), (82, con_stringS), (125, capsS), (126, poolsS), (127, (conFS elI [.int .i64 0]))] [(128, (outΦ 1 100000))]) [0, 1, 2, 3, 4, 5, 6, 7, 8, 10, 11, 12, 13, 17, 21, 35, 46, 52, 53, 54, 55, 59, 63, 75, 81, 83, 88] [] [] (envF_cons (clo_of (CheckRules1_ctr h)) (envF_nil (envL_cons (isChannel_ctr h) (envL_cons (within_ctr h) (envL_cons (IsKey_ctr h) (envL_cons (contains_string h) (envL_cons (checkCaps_ctr h) (envL_cons (checkPools_ctr h) (envL_cons (containsFunc_int h) (env0 h.hP)))))))))) ?_ (by rw [h.hP]; exact Tryd.func74) rfl (by kernel_rfl) rfl ?_ ?_
  · rw [h.hP]; exact ⟨_, Tryd.func74, by kernel_rfl, by kernel_rfl⟩
  · rintro xs ⟨r, rfl, h1⟩; exact ⟨_, r, rfl, rfl⟩
  · rintro xs ⟨r, rfl, h1⟩
    obtain ⟨o1, o2, o3, o4, o5, o6, o7⟩ := h1
    refine ⟨by rw [Tryd.ntmps74]; simp, ?_⟩
    simp only [go_sem, h.hP, List.cons_append, List.nil_append, Meets_e, Below_e, Prod.exists, exists_eq, exists_eq_left, exists_eq_left', exists_eq_right, exists_eq_right', exists_and_left, exists_and_right, Ob.arr.injEq, AV.own.injEq, AV.fv.injEq, rulesS_q, rulesS_p, rulesS_c, rulesS_f, TSendRules.row, intsD_len, Tryd.ntmps74, Nat.reduceEqDiff, reduceCtorEq, Nat.reduceMul, Nat.reduceAdd, Nat.reduceSub, Nat.reduceDiv, Nat.reduceMod, Nat.reduceLeDiff, Nat.reduceLT, Nat.reduceBNe, Nat.reduceBEq, reduceIte, Int.reduceLE, Int.reduceLT, Int.reduceToNat, Int.reduceNeg, Int.reduceAdd, Int.reduceSub, Int.reduceMul, Int.reduceEq]
    refine vc_loopS (Int) (fun (i : Int) => [(12, .i i)]) [1] (fun (i : Int) => []) (fun (i : Int) => []) (fun (i : Int) => 0) (fun (i : Int) => Rounds r.quiet.length (quietF r.quiet) i) (fun (i : Int) => (r.quiet.length - i).toNat) [] ?_ ?_
    · simp only [go_sem, h.hP, List.cons_append, List.nil_append, Meets_e, Below_e, Prod.exists, exists_eq, exists_eq_left, exists_eq_left', exists_eq_right, exists_eq_right', exists_and_left, exists_and_right, Ob.arr.injEq, AV.own.injEq, AV.fv.injEq, Tryd.ntmps74, Nat.reduceEqDiff, reduceCtorEq, Nat.reduceMul, Nat.reduceAdd, Nat.reduceSub, Nat.reduceDiv, Nat.reduceMod, Nat.reduceLeDiff, Nat.reduceLT, Nat.reduceBNe, Nat.reduceBEq, reduceIte, Int.reduceLE, Int.reduceLT, Int.reduceToNat, Int.reduceNeg, Int.reduceAdd, Int.reduceSub, Int.reduceMul, Int.reduceEq]
      exact Rounds.start
    · rintro i hr
      obtain ⟨hi, hS, hM, hE, hN⟩ := hr.use (by have := o1.1; omega)
      simp only [go_sem, h.hP, List.cons_append, List.nil_append, Meets_e, Below_e, Prod.exists, exists_eq, exists_eq_left, exists_eq_left', exists_eq_right, exists_eq_right', exists_and_left, exists_and_right, Ob.arr.injEq, AV.own.injEq, AV.fv.injEq, chanS_q, chanS_p, chanS_c, chanS_f, inS_q, inS_p, inS_c, inS_f, rulesS_c, rulesS_f, rulesS_p, TSendRules.row, intsD_len, intsD_get, rowsT_len, Tryd.ntmps74, Nat.reduceEqDiff, reduceCtorEq, Nat.reduceMul, Nat.reduceAdd, Nat.reduceSub, Nat.reduceDiv, Nat.reduceMod, Nat.reduceLeDiff, Nat.reduceLT, Nat.reduceBNe, Nat.reduceBEq, reduceIte, Int.reduceLE, Int.reduceLT, Int.reduceToNat, Int.reduceNeg, Int.reduceAdd, Int.reduceSub, Int.reduceMul, Int.reduceEq]
      have hw : 0 < i → i < r.quiet.length → IntKind.i64.wrap (i - 1) = i - 1 := fun a b => by have := o1.1; exact i64w (by omega) (by omega)
      have hq : i < r.quiet.length → quietF r.quiet i.toNat = if inB (r.quiet.getD i.toNat 0) 1 4 = false then 4 else if 0 < i ∧ r.quiet.getD i.toNat 0 ≤ r.quiet.getD (i - 1).toNat 0 then 7 else 0 := fun a => by
        unfold quietF
        rw [Int.toNat_of_nonneg hi, show i.toNat - 1 = (i - 1).toNat by omega]
      have hE' : ∀ e, i < r.quiet.length → quietF r.quiet i.toNat = e → e ≠ 0 → e = rulesF r := fun e a b d => by
        have := hE e a b d
        unfold rulesF
        rw [this]; exact (orE_l d).symm
      refine ⟨fun c => ⟨hi, c, fun c1 => ?_, fun c1 => ⟨fun c2 => ?_, fun c2 => ?_⟩⟩, fun c => ?_⟩
      · exact hE' 4 c (by rw [hq c, if_pos c1]) (by decide)
      · rw [hw c2 c]
        refine ⟨by omega, by omega, fun c3 => hE' 7 c (by rw [hq c, if_neg (ne_ft c1), if_pos ⟨c2, c3⟩]) (by decide), fun c3 => ⟨hS c (by rw [hq c, if_neg (ne_ft c1), if_neg (fun e => c3 e.2)]), hM c⟩⟩
      · exact ⟨hS c (by rw [hq c, if_neg (ne_ft c1), if_neg (fun e => c2 e.1)]), hM c⟩
      · have hR : rulesF r = rules1F r := by unfold rulesF; exact orE_r (hN c)
        rw [hR]
        clear hS hM hE hN hw hq hE' hR hr
        refine ⟨fun c1 => ⟨fun c2 => ?_, fun c2 => ⟨fun c3 => ?_, fun c3 => ?_⟩⟩, fun c1 => ?_⟩
        · exact (if_pos (.inr c2)).symm
        · exact ((if_neg (by simp [c1, c2])).trans (if_pos c3)).symm
        · have hR : rules1F r = rules2F r := (if_neg (by simp [c1, c2])).trans (if_neg c3)
          rw [hR]
          clear hR
          refine vc_loopS (Int) (fun (j : Int) => [(54, .i j)]) [1] (fun (j : Int) => []) (fun (j : Int) => []) (fun (j : Int) => 0) (fun (j : Int) => Rounds r.ranks.length (rankF r.ranks) j) (fun (j : Int) => (r.ranks.length - j).toNat) [] ?_ ?_
          · simp only [go_sem, h.hP, List.cons_append, List.nil_append, Meets_e, Below_e, Prod.exists, exists_eq, exists_eq_left, exists_eq_left', exists_eq_right, exists_eq_right', exists_and_left, exists_and_right, Ob.arr.injEq, AV.own.injEq, AV.fv.injEq, Tryd.ntmps74, Nat.reduceEqDiff, reduceCtorEq, Nat.reduceMul, Nat.reduceAdd, Nat.reduceSub, Nat.reduceDiv, Nat.reduceMod, Nat.reduceLeDiff, Nat.reduceLT, Nat.reduceBNe, Nat.reduceBEq, reduceIte, Int.reduceLE, Int.reduceLT, Int.reduceToNat, Int.reduceNeg, Int.reduceAdd, Int.reduceSub, Int.reduceMul, Int.reduceEq]
            exact Rounds.start
          · rintro j hr
            obtain ⟨hj, hS, hM, hE, hN⟩ := hr.use (by have := o4.1; omega)
            simp only [go_sem, h.hP, List.cons_append, List.nil_append, Meets_e, Below_e, Prod.exists, exists_eq, exists_eq_left, exists_eq_left', exists_eq_right, exists_eq_right', exists_and_left, exists_and_right, Ob.arr.injEq, AV.own.injEq, AV.fv.injEq, rulesS_q, rulesS_p, rulesS_c, rulesS_f, strB_q, strB_p, strB_c, strB_f, con_stringS_q, con_stringS_p, con_stringS_c, con_stringS_f, capsS_q, capsS_p, capsS_c, capsS_f, poolsS_q, poolsS_p, poolsS_c, poolsS_f, conFS, TSendRules.row, rowsT_len, rowsT_get, rowsT_take, rowsT_inj, rowsT_zlT, intsD_len, intsD_get, intsD_any, TCap.rows_inj, TPool.rows_inj, outΦ_h, outΦ_d, Tryd.ntmps74, Nat.reduceEqDiff, reduceCtorEq, Nat.reduceMul, Nat.reduceAdd, Nat.reduceSub, Nat.reduceDiv, Nat.reduceMod, Nat.reduceLeDiff, Nat.reduceLT, Nat.reduceBNe, Nat.reduceBEq, reduceIte, Int.reduceLE, Int.reduceLT, Int.reduceToNat, Int.reduceNeg, Int.reduceAdd, Int.reduceSub, Int.reduceMul, Int.reduceEq]
            have hE' : ∀ e, j < r.ranks.length → rankF r.ranks j.toNat = e → e ≠ 0 → e = rules2F r := fun e a b d => by
              have := hE e a b d
              unfold rules2F
              rw [this]; exact (orE_l d).symm
            have hk : (r.ranks.getD j.toNat ⟨#[]⟩).size ≤ 1073741824 := okL_get o4 okS_z _
            have hz : (r.ranks.take j.toNat).length ≤ r.ranks.length := List.length_take_le' _ _
            have hl := o4.1
            refine ⟨fun c => ⟨hj, c, by omega, fun d1 => ?_, fun d1 => ⟨hj, by omega, by omega, fun d2 => ?_, fun d2 => ?_⟩⟩, fun c => ?_⟩
            · exact hE' 5 c (if_pos d1) (by decide)
            · exact hE' 6 c ((if_neg (ne_ft d1)).trans (if_pos d2)) (by decide)
            · exact ⟨hS c ((if_neg (ne_ft d1)).trans (if_neg (by rw [d2]; decide))), hM c⟩
            · clear hS hM hE hE' hr
              have hR : rules2F r = orE (capsF r.caps) (orE (poolsF r.pools) (delF r.delays)) := orE_r (hN c)
              rw [hR]
              clear hR hN
              have hd := o7.1
              grind [orE, delF]
        · exact (if_pos (.inl c1)).symm
end Go.Avc
