/- PoolRooms: its walk. No condition. -/
import Derived.Test.YtcifphelninbmaaDoorRoom
import Derived.Test.YtcifphelninbmaaDoorRul3
import Derived.Test.YtcifphelninbmaaDoorGnr
import Derived.Test.YtcifphelninbmaaDoorLaw
set_option linter.unusedVariables false
set_option linter.unusedSimpArgs false
set_option maxRecDepth 100000
namespace Go.Avc
open Go Go.Proofs

theorem kind_lit (n : Nat) : ([D.int .i64 0, D.int .i64 1, D.int .i64 2, D.int .i64 4, D.int .i64 3] : List D).getD n (D.int .i64 0) = D.int .i64 (kindL.getD n 0) := by
  match n with
  | 0 => rfl
  | 1 => rfl
  | 2 => rfl
  | 3 => rfl
  | 4 => rfl
  | n + 5 => rfl
set_option maxHeartbeats 8000000 in
theorem pr_walk {L : List Int} {A : Option Addr} {cp : Nat} {W : World} (hng : 5 ≤ W.heap.size) (hrd : Rd (fun k => k < W.heap.size) W (.sl (intRows L)) (.slice A L.length cp)) {glob : Nat → Option (List D)} (hgl : GlAt ⟨Tryd.prog, none, L, 25, 5, glob⟩ W) :
    Calls Tryd.prog 5 [Value.slice A L.length cp].toArray W fun e W' => e = .returned (.bool true) ∧ RowKit.Below W.heap.size W W' := by
  refine law_calls (E := envF [(23, rulesG), (14, pickS), (24, rangeS), (19, flipS), (25, nextS), (26, RoomS), (27, isKindS), (28, rulesS), (29, (idxFS DV.ag [.str ⟨#[]⟩, .int .i64 0, .int .i64 0, .int .i64 0, .sl []])), (32, roomS), (31, sendsS)] [(30, pnameΦ)]) (B := 1100) (live := [0, 2, 3, 4, 5, 6, 7, 8, 9, 10, 11, 12, 13, 32, 60, 66, 75, 82, 85, 88, 96]) (HH := [6, 13, 20]) (hz := []) (d := 2) (x1 := 14) (x2 := 15) (x3 := 16) (x4 := 3) (ng := 5) (glob := glob) Tryd.func5 rfl rfl (by kernel_rfl) ⟨rfl, rfl, rfl⟩ ⟨rfl, rfl, rfl⟩ ⟨rfl, rfl, rfl⟩ ⟨rfl, rfl, rfl⟩ ⟨rfl, rfl, rfl⟩ build_stream ⟨by simp, by decide, by decide, by decide, by decide, by decide, by rw [Tryd.ntmps5]; decide⟩ (ex := []) (xv := []) rfl (fun i x u hx hu => by simp at hx) (by decide) hng hrd hgl ?_
  intro cx hP hS hG
  have h : Seat cx := ⟨hP, hS⟩
  refine ⟨envF_cons (clo_of (PoolRooms1_ctr h)) (envF_nil (envL_cons (SendRules_ctr h) (envL_cons (pick_ctr cx h.hP h.hS) (envL_cons (range_ctr cx h.hP h.hS) (envL_cons (flip_ctr cx h.hP h.hS) (envL_cons (next_ctr cx h.hP h.hS) (envL_cons (Room_ctr h) (envL_cons (kindOf2_ctr h) (envL_cons (SendRulesFault_ctr h) (envL_cons (indexFunc_TPool h) (envL_cons (RoomOf_ctr h) (envL_cons (sends_ctr h) (env0 h.hP))))))))))))), ?_⟩
  simp only [go_sem, h.hP, List.cons_append, List.nil_append, Meets_e, Below_e, Prod.exists, exists_eq, exists_eq_left, exists_eq_left', exists_eq_right, exists_eq_right', exists_and_left, exists_and_right, Ob.arr.injEq, AV.own.injEq, AV.fv.injEq, rulesG, pickS_q, pickS_p, pickS_c, pickS_f, rangeS_q, rangeS_p, rangeS_c, rangeS_f, flipS_q, flipS_p, flipS_c, flipS_f, nextS_q, nextS_p, nextS_c, nextS_f, RoomS_q, RoomS_p, RoomS_c, RoomS_f, rulesS_q, rulesS_p, rulesS_c, rulesS_f, roomS_q, roomS_p, roomS_c, roomS_f, sendsS_q, sendsS_p, sendsS_c, sendsS_f, isKindS, idxFS, ints1, intsc, intsDi_inj, TSendRules.row, TPool.get, TPool.len, TPool.zlT, intsD_len, pnameΦ_h, pnameΦ_hl, pnameΦ_d, Tryd.ntmps5, Nat.reduceEqDiff, reduceCtorEq, Nat.reduceMul, Nat.reduceAdd, Nat.reduceSub, Nat.reduceDiv, Nat.reduceMod, Nat.reduceLeDiff, Nat.reduceLT, Nat.reduceBNe, Nat.reduceBEq, reduceIte, Int.reduceLE, Int.reduceLT, Int.reduceToNat, Int.reduceNeg, Int.reduceAdd, Int.reduceSub, Int.reduceMul, Int.reduceEq]
  intro r hr day hday ch h1 h2
  have hd1 : okI day := isIn_ok hday (by decide)
  have hpl := hr.2.2.2.2.2.1
  have hln := hpl.1
  refine vc_cutT (ByteArray) (fun (s : ByteArray) => [(32, .un)]) [4, 5] (fun (s : ByteArray) => [(5, 0, .str s)]) (fun (s : ByteArray) => []) (fun (s : ByteArray) => 1010) (fun (s : ByteArray) => True) [] ?_ ?_ ?_
  · rfl
  · simp only [go_sem, h.hP, List.cons_append, List.nil_append, Meets_e, Below_e, Prod.exists, exists_eq, exists_eq_left, exists_eq_left', exists_eq_right, exists_eq_right', exists_and_left, exists_and_right, Ob.arr.injEq, AV.own.injEq, AV.fv.injEq, rulesG, flipS_q, flipS_p, flipS_c, flipS_f, nextS_q, nextS_p, nextS_c, nextS_f, TSendRules.row, TPool.get, TPool.len, TPool.zlT, intsD_len, Tryd.ntmps5, Nat.reduceEqDiff, reduceCtorEq, Nat.reduceMul, Nat.reduceAdd, Nat.reduceSub, Nat.reduceDiv, Nat.reduceMod, Nat.reduceLeDiff, Nat.reduceLT, Nat.reduceBNe, Nat.reduceBEq, reduceIte, Int.reduceLE, Int.reduceLT, Int.reduceToNat, Int.reduceNeg, Int.reduceAdd, Int.reduceSub, Int.reduceMul, Int.reduceEq]
    exact fun c => ⟨by omega, fun a e1 _ => e1 (by omega)⟩
  · rintro s _
    simp only [go_sem, h.hP, List.cons_append, List.nil_append, Meets_e, Below_e, Prod.exists, exists_eq, exists_eq_left, exists_eq_left', exists_eq_right, exists_eq_right', exists_and_left, exists_and_right, Ob.arr.injEq, AV.own.injEq, AV.fv.injEq, rulesG, RoomS_q, RoomS_p, RoomS_c, RoomS_f, isKindS, TSendRules.row, Tryd.ntmps5, Nat.reduceEqDiff, reduceCtorEq, Nat.reduceMul, Nat.reduceAdd, Nat.reduceSub, Nat.reduceDiv, Nat.reduceMod, Nat.reduceLeDiff, Nat.reduceLT, Nat.reduceBNe, Nat.reduceBEq, reduceIte, Int.reduceLE, Int.reduceLT, Int.reduceToNat, Int.reduceNeg, Int.reduceAdd, Int.reduceSub, Int.reduceMul, Int.reduceEq]
    refine ⟨hr, hd1, fun k f g1 g2 => ?_⟩
    refine vc_cutT (Unit) (fun (u : Unit) => [(60, .un), (66, .un), (75, .un)]) [4, 5] (fun (u : Unit) => []) (fun (u : Unit) => []) (fun (u : Unit) => 1010) (fun (u : Unit) => True) [] ?_ ?_ ?_
    · rfl
    · simp only [go_sem, h.hP, List.cons_append, List.nil_append, Meets_e, Below_e, Prod.exists, exists_eq, exists_eq_left, exists_eq_left', exists_eq_right, exists_eq_right', exists_and_left, exists_and_right, Ob.arr.injEq, AV.own.injEq, AV.fv.injEq, kind_lit, Tryd.ntmps5, Nat.reduceEqDiff, reduceCtorEq, Nat.reduceMul, Nat.reduceAdd, Nat.reduceSub, Nat.reduceDiv, Nat.reduceMod, Nat.reduceLeDiff, Nat.reduceLT, Nat.reduceBNe, Nat.reduceBEq, reduceIte, Int.reduceLE, Int.reduceLT, Int.reduceToNat, Int.reduceNeg, Int.reduceAdd, Int.reduceSub, Int.reduceMul, Int.reduceEq]
      have G1 : 1 ≤ ch → ch ≤ 4 → k = kindL.getD ch.toNat 0 ∧ f = 0 := fun a b => g1 (inB_iff.2 ⟨a, b⟩)
      have G2 : ¬ (1 ≤ ch ∧ ch ≤ 4) → k = 0 ∧ f = 4 := fun a => g2 (by cases e : inB ch 1 4 with | true => exact absurd (inB_iff.1 e) a | false => rfl)
      clear g1 g2 hr hday hpl
      generalize kindL.getD ch.toNat 0 = z at G1
      ((repeat' (first | with_reducible apply And.intro | with_reducible intro)) <;> omega)
    · rintro u _
      simp only [go_sem, h.hP, List.cons_append, List.nil_append, Meets_e, Below_e, Prod.exists, exists_eq, exists_eq_left, exists_eq_left', exists_eq_right, exists_eq_right', exists_and_left, exists_and_right, Ob.arr.injEq, AV.own.injEq, AV.fv.injEq, rulesS_q, rulesS_p, rulesS_c, rulesS_f, idxFS, TSendRules.row, TPool.get, TPool.len, TPool.zlT, intsD_len, pnameΦ_h, pnameΦ_hl, pnameΦ_d, Tryd.ntmps5, Nat.reduceEqDiff, reduceCtorEq, Nat.reduceMul, Nat.reduceAdd, Nat.reduceSub, Nat.reduceDiv, Nat.reduceMod, Nat.reduceLeDiff, Nat.reduceLT, Nat.reduceBNe, Nat.reduceBEq, reduceIte, Int.reduceLE, Int.reduceLT, Int.reduceToNat, Int.reduceNeg, Int.reduceAdd, Int.reduceSub, Int.reduceMul, Int.reduceEq]
      refine ⟨hr, by omega, ?_⟩
      have hx : idxB (fun x => (pnameΦ [[D.str s]]).holds (DV.ag x)) (TPool.rows r.pools) = idxB (fun q : TPool => decide (q.name = s)) r.pools := (idxB_map TPool.row _ _).trans (idxB_congr fun q => pnameΦ_h s q)
      rw [hx]
      have hrg := idxB_range (fun q : TPool => decide (q.name = s)) r.pools
      have hN : roomN r s day = if rulesF r ≠ 0 then 0 else if idxB (fun q : TPool => decide (q.name = s)) r.pools < 0 then 0 else if inB day 0 3000 = false then 0 else roomF (r.pools.getD (idxB (fun q : TPool => decide (q.name = s)) r.pools).toNat TPool.z) day := rfl
      have hE : roomE r s day = if rulesF r ≠ 0 then rulesF r else if idxB (fun q : TPool => decide (q.name = s)) r.pools < 0 then 8 else if inB day 0 3000 = false then 1 else 0 := rfl
      generalize idxB (fun q : TPool => decide (q.name = s)) r.pools = i at hrg hN hE
      generalize roomN r s day = rn at hN
      generalize roomE r s day = re at hE
      refine vc_cutT (Int) (fun (f : Int) => [(12, .i f), (82, .un), (85, .un), (88, .un)]) [4, 5] (fun (f : Int) => []) (fun (f : Int) => []) (fun (f : Int) => 1010) (fun (f : Int) => f = re) [] ?_ ?_ ?_
      · rfl
      · simp only [go_sem, h.hP, List.cons_append, List.nil_append, Meets_e, Below_e, Prod.exists, exists_eq, exists_eq_left, exists_eq_left', exists_eq_right, exists_eq_right', exists_and_left, exists_and_right, Ob.arr.injEq, AV.own.injEq, AV.fv.injEq, Tryd.ntmps5, Nat.reduceEqDiff, reduceCtorEq, Nat.reduceMul, Nat.reduceAdd, Nat.reduceSub, Nat.reduceDiv, Nat.reduceMod, Nat.reduceLeDiff, Nat.reduceLT, Nat.reduceBNe, Nat.reduceBEq, reduceIte, Int.reduceLE, Int.reduceLT, Int.reduceToNat, Int.reduceNeg, Int.reduceAdd, Int.reduceSub, Int.reduceMul, Int.reduceEq]
        have hbf : day < 0 ∨ 3000 < day → inB day 0 3000 = false := fun a => by cases e : inB day 0 3000 with | true => have := inB_iff.1 e; omega | false => rfl
        have hbt : ¬ day < 0 → ¬ 3000 < day → ¬ inB day 0 3000 = false := fun a b e => ne_ft (inB_iff.2 ⟨by omega, by omega⟩) e
        have n1 : rulesF r = 0 → ¬ rulesF r ≠ 0 := fun e f => f e
        refine ⟨fun c => ?_, fun c => ⟨fun c2 => ?_, fun c2 => ⟨fun c3 => ⟨fun c4 => ?_, fun c4 => ?_⟩, fun c3 => ?_⟩⟩⟩
        · rw [hE, if_pos c]
        · rw [hE, if_neg (n1 c), if_pos c2]
        · rw [hE, if_neg (n1 c), if_neg c2, if_pos (hbf (.inr c4))]
        · rw [hE, if_neg (n1 c), if_neg c2, if_neg (hbt c3 c4)]; exact c
        · rw [hE, if_neg (n1 c), if_neg c2, if_pos (hbf (.inl c3))]
      · rintro f hf
        simp only [go_sem, h.hP, List.cons_append, List.nil_append, Meets_e, Below_e, Prod.exists, exists_eq, exists_eq_left, exists_eq_left', exists_eq_right, exists_eq_right', exists_and_left, exists_and_right, Ob.arr.injEq, AV.own.injEq, AV.fv.injEq, sendsS_q, sendsS_p, sendsS_c, sendsS_f, roomS_q, roomS_p, roomS_c, roomS_f, TSendRules.row, TPool.get, TPool.len, TPool.zlT, intsD_len, Tryd.ntmps5, Nat.reduceEqDiff, reduceCtorEq, Nat.reduceMul, Nat.reduceAdd, Nat.reduceSub, Nat.reduceDiv, Nat.reduceMod, Nat.reduceLeDiff, Nat.reduceLT, Nat.reduceBNe, Nat.reduceBEq, reduceIte, Int.reduceLE, Int.reduceLT, Int.reduceToNat, Int.reduceNeg, Int.reduceAdd, Int.reduceSub, Int.reduceMul, Int.reduceEq]
        subst hf
        have hz : f ≠ 0 → rn = 0 := fun c => by
          by_cases c1 : rulesF r ≠ 0
          · rw [hN, if_pos c1]
          · by_cases c2 : i < 0
            · rw [hN, if_neg c1, if_pos c2]
            · by_cases c3 : inB day 0 3000 = false
              · rw [hN, if_neg c1, if_neg c2, if_pos c3]
              · exact absurd (by rw [hE, if_neg c1, if_neg c2, if_neg c3]) c
        refine ⟨fun c => ⟨fun _ e => e (hz c), fun e => e rfl⟩, fun c => ⟨fun _ => ?_, fun e => e c⟩⟩
        have c1 : ¬ rulesF r ≠ 0 := fun e => by rw [hE, if_pos e] at c; exact e c
        have c2 : ¬ i < 0 := fun e => by rw [hE, if_neg c1, if_pos e] at c; cases c
        have c3 : ¬ inB day 0 3000 = false := fun e => by rw [hE, if_neg c1, if_neg c2, if_pos e] at c; cases c
        have hp := inB_iff.1 (rules_pools (Decidable.not_not.1 c1) i.toNat (by omega)).1
        refine ⟨by omega, by omega, okL_get hpl TPool.z_ok _, hd1, by omega, by omega, fun e => e ?_⟩
        rw [hN, if_neg c1, if_neg c2, if_neg c3]
end Go.Avc
