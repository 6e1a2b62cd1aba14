/- The reference's distance of two strings: its contract. No condition. -/
import Derived.Test.YtcifphelninbmaaDoorEd
set_option linter.unusedVariables false
set_option linter.unusedSimpArgs false
set_option maxRecDepth 100000
namespace Go.Avc
open Go Go.Proofs

def rptsSf (p : ByteArray × List Int × Nat) : Sh := ⟨[(0, .str p.1), (3, .own 3)], [(3, .arr 3 1 (rowsK .i64 p.2.1))], 0⟩
theorem rpts_ctr {cx : Cx} (h : Seat cx) (hU : Utf8 cx) : Ctr cx 70 (ptsS .i64) := by
  refine ctr_of (fn := Tryd.f70) (l := [.tmp 2]) (envL [(124, decS)]) [0, 2, 3, 4, 5, 7, 18] [] [] (envL_cons (dec_ctr h hU) (env0 h.hP)) ?_ (by rw [h.hP]; exact Tryd.func70) rfl (by kernel_rfl) rfl ?_ ?_
  · rw [h.hP]; exact ⟨_, Tryd.func70, by kernel_rfl, by kernel_rfl⟩
  · rintro xs ⟨s, rfl, hs⟩; exact ⟨_, s, rfl, rfl⟩
  · rintro xs ⟨s, rfl, hs⟩
    refine ⟨by rw [Tryd.ntmps70]; simp, ?_⟩
    simp only [go_sem, h.hP, ptsS, decS, Tryd.ntmps70, Nat.reduceEqDiff, reduceCtorEq, Nat.reduceMul, Nat.reduceAdd, Nat.reduceLeDiff, Nat.reduceLT, Nat.reduceBNe, Nat.reduceBEq, reduceIte, Int.reduceLE, Int.reduceLT, Int.reduceToNat, Int.reduceNeg, Int.reduceAdd, Int.reduceSub, Int.reduceMul, Int.reduceEq]
    refine vc_loop _ rptsSf (ptsJ s) (fun p => p.1.size) [(3, 3, 1)] ?_ ?_
    · refine meets_mk _ (s, [], s.size) ⟨by show 0 + s.size ≤ s.size; omega, Nat.le_refl _, rfl⟩ ?_
      simp only [go_sem, h.hP, rptsSf, Tryd.ntmps70, Nat.reduceEqDiff, reduceCtorEq, Nat.reduceMul, Nat.reduceAdd, Nat.reduceLeDiff, Nat.reduceLT, Nat.reduceBNe, Nat.reduceBEq, reduceIte, Int.reduceLE, Int.reduceLT, Int.reduceToNat, Int.reduceNeg, Int.reduceAdd, Int.reduceSub, Int.reduceMul, Int.reduceEq]
      rfl
    · rintro ⟨t, acc, k⟩ ⟨j1, j2, j3⟩
      simp only at j1 j2 j3
      simp only [go_sem, h.hP, rptsSf, ptsS, decS, str_nil, Tryd.ntmps70, Nat.reduceEqDiff, reduceCtorEq, Nat.reduceMul, Nat.reduceAdd, Nat.reduceLeDiff, Nat.reduceLT, Nat.reduceBNe, Nat.reduceBEq, reduceIte, Int.reduceLE, Int.reduceLT, Int.reduceToNat, Int.reduceNeg, Int.reduceAdd, Int.reduceSub, Int.reduceMul, Int.reduceEq]
      simp only [rowsK_flat, rowsK_len, rowsK_one, Bool.true_eq_false, if_false, D.sl.injEq, AV.dv.injEq, DV.d.injEq]
      have hr := bt_range t 0
      have hw : t.size ≠ 0 → 1 ≤ wid t ∧ wid t ≤ t.size ∧ (Lib.decodeGo t).1 ≤ 1114111 := wid_ge
      have hx : (t.extract (wid t) t.size).size = t.size - wid t := by rw [ByteArray.size_extract]; omega
      have hb : IntKind.i64.wrap (-1 - IntKind.i64.wrap (bt t 0)) = -1 - bt t 0 := by rw [i64w (n := bt t 0) (by omega) (by omega), i64w (by omega) (by omega)]
      have hd : t.size ≠ 0 → IntKind.i64.wrap ((Lib.decodeGo t).1 : Int) = ((Lib.decodeGo t).1 : Int) := fun hne => i64w (by omega) (by have := hw hne; omega)
      have key : t.size ≠ 0 → ∃ k', k = k' + 1 ∧ (acc ++ [ptOf t]) ++ ptsL k' (t.extract (wid t) t.size) = pts s := fun hne => by
        obtain ⟨k', rfl, hst⟩ := ptsL_step hne j2
        rw [hst] at j3
        exact ⟨k', rfl, by rw [List.append_assoc]; exact j3⟩
      have leaf : ∀ c : Int, t.size ≠ 0 → c = ptOf t → ∀ σ, At 35 [(3, 3, 1)] (rptsSf (t.extract (wid t) t.size, acc ++ [c], k - 1)) σ → Below 35 [(3, 3, 1)] rptsSf (ptsJ s) (fun p => p.1.size) t.size σ := fun c hne hc σ hσ => by
        obtain ⟨k', rfl, hk⟩ := key hne
        have h1 := hw hne
        refine below_mk _ _ ⟨?_, ?_, ?_⟩ ?_ hσ
        · show (acc ++ [c]).length + (t.extract (wid t) t.size).size ≤ s.size
          rw [List.length_append, List.length_singleton]; omega
        · show (t.extract (wid t) t.size).size ≤ k' + 1 - 1; omega
        · show (acc ++ [c]) ++ ptsL k' _ = _
          rw [hc]; exact hk
        · show (t.extract (wid t) t.size).size < t.size; omega
      have hwd : (Lib.decodeGo t).2 = wid t := rfl
      rw [hb, hwd]
      clear key
      refine ⟨fun hne => ?_, fun he => ?_⟩
      · have h1 := hw hne
        rw [hd hne]
        clear hd
        refine ⟨fun c1 => ⟨fun c2 => ?_, fun c2 => ?_⟩, fun c1 => ?_⟩
        · refine ⟨by omega, by omega, by omega, by omega, by omega, by omega, leaf (-1 - bt t 0) hne ?_ _ ?_⟩
          · unfold ptOf; rw [if_pos ⟨c1, c2⟩]
          · simp only [go_sem, h.hP, rptsSf, Tryd.ntmps70, Nat.reduceEqDiff, reduceCtorEq, Nat.reduceMul, Nat.reduceAdd, Nat.reduceLeDiff, Nat.reduceLT, Nat.reduceBNe, Nat.reduceBEq, reduceIte, Int.reduceLE, Int.reduceLT, Int.reduceToNat, Int.reduceNeg, Int.reduceAdd, Int.reduceSub, Int.reduceMul, Int.reduceEq]
            rw [rowsK_app]
        · refine ⟨by omega, by omega, by omega, by omega, by omega, leaf _ hne (?_ : ((Lib.decodeGo t).1 : Int) = _) _ ?_⟩
          · unfold ptOf; rw [if_neg (fun e => c2 e.2)]
          · simp only [go_sem, h.hP, rptsSf, Tryd.ntmps70, Nat.reduceEqDiff, reduceCtorEq, Nat.reduceMul, Nat.reduceAdd, Nat.reduceLeDiff, Nat.reduceLT, Nat.reduceBNe, Nat.reduceBEq, reduceIte, Int.reduceLE, Int.reduceLT, Int.reduceToNat, Int.reduceNeg, Int.reduceAdd, Int.reduceSub, Int.reduceMul, Int.reduceEq]
            rw [rowsK_app]
        · refine ⟨by omega, by omega, by omega, by omega, by omega, leaf _ hne (?_ : ((Lib.decodeGo t).1 : Int) = _) _ ?_⟩
          · unfold ptOf; rw [if_neg (fun e => c1 e.1)]
          · simp only [go_sem, h.hP, rptsSf, Tryd.ntmps70, Nat.reduceEqDiff, reduceCtorEq, Nat.reduceMul, Nat.reduceAdd, Nat.reduceLeDiff, Nat.reduceLT, Nat.reduceBNe, Nat.reduceBEq, reduceIte, Int.reduceLE, Int.reduceLT, Int.reduceToNat, Int.reduceNeg, Int.reduceAdd, Int.reduceSub, Int.reduceMul, Int.reduceEq]
            rw [rowsK_app]
      · rw [ptsL_nil he, List.append_nil] at j3
        rw [j3]

def farS : Spec where
  pre xs := ∃ s t : ByteArray, xs = [.str s, .str t] ∧ s.size ≤ 1073741824 ∧ t.size ≤ 1073741824
  post xs r := ∃ s t : ByteArray, xs = [.str s, .str t] ∧ r = .i (ed (pts s) (pts t))
  cost _ := 0
  fresh := true
/-- from place k on the row holds the distances of the i-th end of x from the ends of y -/
def gOk (x y : List Int) (i k : Nat) (r : List Int) : Prop := ∀ t, k ≤ t → t ≤ y.length → r.getD t 0 = ed (x.drop i) (y.drop t)
def Gf0 (x y : List Int) (p : List Int × Nat) : Sh := ⟨[(5, .sl (rowsK .i64 x)), (6, .sl (rowsK .i64 y)), (7, .own 7), (21, .i ((y.length : Int) + 1)), (22, .i p.2)], [(7, .arr 3 1 (rowsK .i64 p.1))], 0⟩
def Gf1 (x y : List Int) (p : List Int × Nat) : Sh := ⟨[(5, .sl (rowsK .i64 x)), (6, .sl (rowsK .i64 y)), (7, .own 7), (9, .i ((p.2 : Int) - 1))], [(7, .arr 3 1 (rowsK .i64 p.1))], 0⟩
def Gf2 (x y r : List Int) (i : Nat) (p : List Int × Nat) : Sh := ⟨[(5, .sl (rowsK .i64 x)), (6, .sl (rowsK .i64 y)), (7, .own 7), (9, .i i), (10, .own 10), (11, .i ((p.2 : Int) - 1))], [(7, .arr 3 1 (rowsK .i64 r)), (10, .arr 3 1 (rowsK .i64 p.1))], 0⟩
theorem far_ctr {cx : Cx} (h : Seat cx) (hU : Utf8 cx) : Ctr cx 22 farS := by
  refine ctr_of (fn := Tryd.f22) (l := [.tmp 4]) (envL [(70, (ptsS .i64))]) [0, 1, 4, 5, 6, 7, 8, 9, 10, 11, 21, 22, 23, 37, 56, 67] [] [] (envL_cons (rpts_ctr h hU) (env0 h.hP)) ?_ (by rw [h.hP]; exact Tryd.func22) rfl (by kernel_rfl) rfl ?_ ?_
  · rw [h.hP]; exact ⟨_, Tryd.func22, by kernel_rfl, by kernel_rfl⟩
  · rintro xs ⟨s, t, rfl, h1, h2⟩; exact ⟨_, s, t, rfl, rfl⟩
  · rintro xs ⟨s, t, rfl, h1, h2⟩
    refine ⟨by rw [Tryd.ntmps22]; simp, ?_⟩
    simp only [go_sem, h.hP, farS, ptsS, rowsK_len, Tryd.ntmps22, Nat.reduceEqDiff, reduceCtorEq, Nat.reduceMul, Nat.reduceAdd, Nat.reduceLeDiff, Nat.reduceLT, Nat.reduceBNe, Nat.reduceBEq, reduceIte, Int.reduceLE, Int.reduceLT, Int.reduceToNat, Int.reduceNeg, Int.reduceAdd, Int.reduceSub, Int.reduceMul, Int.reduceEq]
    have hp : (pts s).length ≤ s.size := ptsL_len s.size s
    have hq : (pts t).length ≤ t.size := ptsL_len t.size t
    generalize hx : pts s = x at *
    generalize hy : pts t = y at *
    have hw1 : IntKind.i64.wrap ((y.length : Int) + 1) = (y.length : Int) + 1 := i64w (by omega) (by omega)
    rw [hw1]
    refine ⟨by omega, by omega, by omega, by omega, by omega, ?_⟩
    refine vc_loop _ (Gf0 x y) (fun p => p.1.length = y.length + 1 ∧ p.2 ≤ y.length + 1 ∧ ∀ t, t < p.2 → p.1.getD t 0 = (y.length : Int) - t) (fun p => y.length + 1 - p.2) [(7, 3, 1)] ?_ ?_
    · refine meets_mk _ (List.replicate (y.length + 1) 0, 0) ⟨List.length_replicate, Nat.zero_le _, fun t ht => absurd ht (Nat.not_lt_zero t)⟩ ?_
      simp only [go_sem, h.hP, Gf0, Tryd.ntmps22, Nat.reduceEqDiff, reduceCtorEq, Nat.reduceMul, Nat.reduceAdd, Nat.reduceLeDiff, Nat.reduceLT, Nat.reduceBNe, Nat.reduceBEq, reduceIte, Int.reduceLE, Int.reduceLT, Int.reduceToNat, Int.reduceNeg, Int.reduceAdd, Int.reduceSub, Int.reduceMul, Int.reduceEq]
      refine ⟨by rw [List.length_replicate]; omega, rfl, ?_⟩
      rw [repl_rows, show ((y.length : Int) + 1).toNat = y.length + 1 by omega]
    · rintro ⟨r, k⟩ ⟨k1, k2, k3⟩
      simp only at k1 k2 k3
      simp only [go_sem, h.hP, Gf0, farS, rowsK_len, rowsK_get, rowsK_set, spl_one, k1, Tryd.ntmps22, Nat.reduceEqDiff, reduceCtorEq, Nat.reduceMul, Nat.reduceAdd, Nat.reduceLeDiff, Nat.reduceLT, Nat.reduceBNe, Nat.reduceBEq, reduceIte, Int.reduceLE, Int.reduceLT, Int.reduceToNat, Int.reduceNeg, Int.reduceAdd, Int.reduceSub, Int.reduceMul, Int.reduceEq]
      refine ⟨fun c1 => ⟨by omega, by omega, by omega, ?_⟩, fun c1 => ?_⟩
      · rw [i64w (n := (y.length : Int) - k) (by omega) (by omega), i64s (n := k) (by omega)]
        refine below_mk _ (r.set k ((y.length : Int) - k), k + 1) ⟨by show (r.set _ _).length = _; rw [List.length_set, k1], by show k + 1 ≤ _; omega, fun t ht => ?_⟩ (by show y.length + 1 - (k + 1) < y.length + 1 - k; omega) ?_
        · show (r.set k _).getD t 0 = _
          rw [set_get (by omega)]
          split
          · rename_i e; rw [e]
          · exact k3 t (by have : t < k + 1 := ht; omega)
        · simp only [go_sem, h.hP, Gf0, Tryd.ntmps22, Nat.reduceEqDiff, reduceCtorEq, Nat.reduceMul, Nat.reduceAdd, Nat.reduceLeDiff, Nat.reduceLT, Nat.reduceBNe, Nat.reduceBEq, reduceIte, Int.reduceLE, Int.reduceLT, Int.reduceToNat, Int.reduceNeg, Int.reduceAdd, Int.reduceSub, Int.reduceMul, Int.reduceEq]
      · have hk : k = y.length + 1 := by omega
        subst hk
        have hg0 : gOk x y x.length 0 r := fun t _ ht => by
          rw [k3 t (by omega), List.drop_length, ed_nil, List.length_drop]
          omega
        rw [i64w (n := (x.length : Int) - 1) (by omega) (by omega)]
        refine vc_loop _ (Gf1 x y) (fun p => p.1.length = y.length + 1 ∧ p.2 ≤ x.length ∧ gOk x y p.2 0 p.1) (fun p => p.2) [(7, 3, 1)] ?_ ?_
        · refine meets_mk _ (r, x.length) ⟨k1, Nat.le_refl _, hg0⟩ ?_
          simp only [go_sem, h.hP, Gf1, Tryd.ntmps22, Nat.reduceEqDiff, reduceCtorEq, Nat.reduceMul, Nat.reduceAdd, Nat.reduceLeDiff, Nat.reduceLT, Nat.reduceBNe, Nat.reduceBEq, reduceIte, Int.reduceLE, Int.reduceLT, Int.reduceToNat, Int.reduceNeg, Int.reduceAdd, Int.reduceSub, Int.reduceMul, Int.reduceEq]
        · clear hg0 k3
          rintro ⟨r, i⟩ ⟨k1, k2, k3⟩
          simp only at k1 k2 k3
          simp only [go_sem, h.hP, Gf1, farS, rowsK_len, rowsK_get, rowsK_set, spl_one, k1, hw1, List.length_replicate, repl_rows, Tryd.ntmps22, Nat.reduceEqDiff, reduceCtorEq, Nat.reduceMul, Nat.reduceAdd, Nat.reduceLeDiff, Nat.reduceLT, Nat.reduceBNe, Nat.reduceBEq, reduceIte, Int.reduceLE, Int.reduceLT, Int.reduceToNat, Int.reduceNeg, Int.reduceAdd, Int.reduceSub, Int.reduceMul, Int.reduceEq]
          refine ⟨fun c2 => ?_, fun c2 => ?_⟩
          · obtain ⟨i, rfl⟩ : ∃ j, i = j + 1 := ⟨i - 1, by omega⟩
            have e1 : ((i + 1 : Nat) : Int) - 1 = i := by omega
            rw [e1]
            clear c2
            refine ⟨by omega, by omega, by omega, by omega, by omega, by omega, ?_⟩
            refine vc_loop _ (Gf2 x y r i) (fun p => p.1.length = y.length + 1 ∧ p.2 ≤ y.length ∧ gOk x y i p.2 p.1) (fun p => p.2) [(7, 3, 1), (10, 3, 1)] ?_ ?_
            · refine meets_mk _ ((List.replicate (y.length + 1) 0).set y.length ((x.length : Int) - i), y.length) ⟨?_, Nat.le_refl _, ?_⟩ ?_
              · show (List.set _ _ _).length = _
                rw [List.length_set, List.length_replicate]
              · intro t h1 h2
                have : t = y.length := by omega
                subst this
                show (List.set _ _ _).getD _ 0 = _
                rw [set_get (by rw [List.length_replicate]; omega), if_pos rfl, List.drop_length, ed_nil', List.length_drop]
                omega
              · simp only [go_sem, h.hP, Gf2, Tryd.ntmps22, Nat.reduceEqDiff, reduceCtorEq, Nat.reduceMul, Nat.reduceAdd, Nat.reduceLeDiff, Nat.reduceLT, Nat.reduceBNe, Nat.reduceBEq, reduceIte, Int.reduceLE, Int.reduceLT, Int.reduceToNat, Int.reduceNeg, Int.reduceAdd, Int.reduceSub, Int.reduceMul, Int.reduceEq]
                exact ⟨i64w (by omega) (by omega), by rw [i64w (n := (x.length : Int) - i) (by omega) (by omega), show ((y.length : Int) + 1).toNat = y.length + 1 by omega]⟩
            · rintro ⟨q, k⟩ ⟨m1, m2, m3⟩
              simp only at m1 m2 m3
              simp only [go_sem, h.hP, Gf2, farS, rowsK_len, rowsK_get, rowsK_set, spl_one, k1, m1, Tryd.ntmps22, Nat.reduceEqDiff, reduceCtorEq, Nat.reduceMul, Nat.reduceAdd, Nat.reduceLeDiff, Nat.reduceLT, Nat.reduceBNe, Nat.reduceBEq, reduceIte, Int.reduceLE, Int.reduceLT, Int.reduceToNat, Int.reduceNeg, Int.reduceAdd, Int.reduceSub, Int.reduceMul, Int.reduceEq]
              refine ⟨fun c3 => ?_, fun c3 => ?_⟩
              · obtain ⟨k, rfl⟩ : ∃ j, k = j + 1 := ⟨k - 1, by omega⟩
                have e2 : ((k + 1 : Nat) : Int) - 1 = k := by omega
                have e3 : IntKind.i64.wrap ((k : Int) + 1) = ((k + 1 : Nat) : Int) := i64s (by omega)
                have e4 : IntKind.i64.wrap ((k : Int) - 1) = (k : Int) - 1 := i64w (by omega) (by omega)
                rw [e2, e3, e4]
                simp only [Int.toNat_natCast]
                clear c3
                have f1 : x.drop i = x.getD i 0 :: x.drop (i + 1) := drop_getD (l := x) (i := i) (by omega)
                have f2 : y.drop k = y.getD k 0 :: y.drop (k + 1) := drop_getD (l := y) (i := k) (by omega)
                have g1 : r.getD (k + 1) 0 = ed (x.drop (i + 1)) (y.drop (k + 1)) := k3 (k + 1) (Nat.zero_le _) m2
                have g2 : r.getD k 0 = ed (x.drop (i + 1)) (y.drop k) := k3 k (Nat.zero_le _) (by omega)
                have g3 : q.getD (k + 1) 0 = ed (x.drop i) (y.drop (k + 1)) := m3 (k + 1) (Nat.le_refl _) m2
                have leaf : ∀ v : Int, v = ed (x.drop i) (y.drop k) → ∀ σ, At 99 [(7, 3, 1), (10, 3, 1)] (Gf2 x y r i (q.set k v, k)) σ →
                    Below 99 [(7, 3, 1), (10, 3, 1)] (Gf2 x y r i) (fun p => p.1.length = y.length + 1 ∧ p.2 ≤ y.length ∧ gOk x y i p.2 p.1) (fun p => p.2) (k + 1) σ := fun v hv σ hσ => by
                  refine below_mk _ _ ⟨?_, ?_, ?_⟩ (by show k < k + 1; omega) hσ
                  · show (q.set _ _).length = _; rw [List.length_set, m1]
                  · show k ≤ _; omega
                  · intro t ht1 ht2
                    show (q.set k v).getD t 0 = _
                    rw [set_get (by omega)]
                    split
                    · rename_i e; rw [e, hv]
                    · exact m3 t (by have : k ≤ t := ht1; omega) ht2
                refine ⟨by omega, by omega, by omega, by omega, fun c4 => ⟨by omega, by omega, by omega, by omega, by omega, by omega, leaf (r.getD (k + 1) 0) ?_ _ ?_⟩, fun c4 => ⟨by omega, by omega, by omega, by omega, by omega, by omega, by omega, by omega, by omega, by omega, by omega, by omega, ?_⟩⟩
                · rw [f1, f2, ed_cons, if_pos c4, g1]
                · simp only [go_sem, h.hP, Gf2, Tryd.ntmps22, Nat.reduceEqDiff, reduceCtorEq, Nat.reduceMul, Nat.reduceAdd, Nat.reduceLeDiff, Nat.reduceLT, Nat.reduceBNe, Nat.reduceBEq, reduceIte, Int.reduceLE, Int.reduceLT, Int.reduceToNat, Int.reduceNeg, Int.reduceAdd, Int.reduceSub, Int.reduceMul, Int.reduceEq]
                · have hv : 1 + min3 (r.getD (k + 1) 0) (r.getD k 0) (q.getD (k + 1) 0) = ed (x.drop i) (y.drop k) := by rw [f1, f2, ed_cons, if_neg c4, ← f1, ← f2, g1, g2, g3]
                  have hb := ed_range (x.drop i) (y.drop k)
                  have hl1 := List.length_drop (i := i) (l := x)
                  have hl2 := List.length_drop (i := k) (l := y)
                  refine leaf (1 + min3 (r.getD (k + 1) 0) (r.getD k 0) (q.getD (k + 1) 0)) hv _ ?_
                  have hw : IntKind.i64.wrap (1 + min3 (r.getD (k + 1) 0) (r.getD k 0) (q.getD (k + 1) 0)) = 1 + min3 (r.getD (k + 1) 0) (r.getD k 0) (q.getD (k + 1) 0) := i64w (by rw [hv]; omega) (by rw [hv]; omega)
                  simp only [go_sem, h.hP, Gf2, Tryd.ntmps22, Nat.reduceEqDiff, reduceCtorEq, Nat.reduceMul, Nat.reduceAdd, Nat.reduceLeDiff, Nat.reduceLT, Nat.reduceBNe, Nat.reduceBEq, reduceIte, Int.reduceLE, Int.reduceLT, Int.reduceToNat, Int.reduceNeg, Int.reduceAdd, Int.reduceSub, Int.reduceMul, Int.reduceEq]
                  exact congrArg (fun v => Ob.arr 3 1 (rowsK .i64 (q.set k v))) hw
              · have hk : k = 0 := by omega
                subst hk
                rw [i64w (n := (i : Int) - 1) (by omega) (by omega)]
                refine below_mk _ (q, i) ⟨m1, by show i ≤ _; omega, m3⟩ (by show i < i + 1; omega) ?_
                simp only [go_sem, h.hP, Gf1, Tryd.ntmps22, Nat.reduceEqDiff, reduceCtorEq, Nat.reduceMul, Nat.reduceAdd, Nat.reduceLeDiff, Nat.reduceLT, Nat.reduceBNe, Nat.reduceBEq, reduceIte, Int.reduceLE, Int.reduceLT, Int.reduceToNat, Int.reduceNeg, Int.reduceAdd, Int.reduceSub, Int.reduceMul, Int.reduceEq]
          · have hi : i = 0 := by omega
            subst hi
            have := k3 0 (Nat.le_refl _) (Nat.zero_le _)
            rw [List.drop_zero, List.drop_zero] at this
            exact ⟨by omega, by omega, this⟩
end Go.Avc
