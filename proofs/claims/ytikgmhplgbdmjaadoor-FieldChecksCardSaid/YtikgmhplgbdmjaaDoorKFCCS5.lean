/- FieldChecks returns true for every slice of numbers, and leaves it as it was; the two tables of unicode/utf8 and the fields' names, which its row lists, lie as the program lays them. -/
import Derived.Lib.Repeat
import Derived.Test.YtikgmhplgbdmjaaDoorRows
import Derived.Lib.LaidU8
import Derived.Test.YtikgmhplgbdmjaaDoorCards
import Derived.Test.YtikgmhplgbdmjaaDoorTie
import Derived.WalkKit
import Derived.ProofKit
import Derived.OpenShut
import Derived.Deep.DeepHandedRow
import Derived.Test.YtikgmhplgbdmjaaDoorKFCCS1
import Derived.Test.YtikgmhplgbdmjaaDoorKFCCS2
import Derived.Test.YtikgmhplgbdmjaaDoorKFCCS3
import Derived.Test.YtikgmhplgbdmjaaDoorKFCCS4
/- The reference's distance of two strings: its contract. No condition. -/
set_option linter.unusedVariables false
set_option linter.unusedSimpArgs false
set_option maxRecDepth 100000
namespace Go.Avc
open Go Go.Proofs

def rptsSf (p : ByteArray × List Int × Nat) : Sh := ⟨[(0, .str p.1), (3, .own 3)], [(3, .arr 3 1 (rowsK .i64 p.2.1))], 0⟩
theorem rpts_ctr {cx : Cx} (h : Seat cx) (hU : Utf8 cx) : Ctr cx 70 (ptsS .i64) := by
  refine ctr_of (fn := Tryd.f70) (l := [.tmp 2]) (envL [(124, decS)]) [0, 2, 3, 4, 5, 7, 18] [] [] (envL_cons (dec_ctr h hU) (env0 h.hP)) ?_ (by rw [h.hP]; exact Tryd.func70) rfl (by kernel_rfl) rfl ?_ ?_
  · rw [h.hP]; exact ⟨_, Tryd.func70, by kernel_rfl, by kernel_rfl⟩
  · rintro xs ⟨s, rfl, hs⟩; exact ⟨_, s, rfl, rfl⟩
  · rintro xs ⟨s, rfl, hs⟩
    refine ⟨by rw [Tryd.ntmps70]; simp, ?_⟩
    simp only [go_sem, h.hP, ptsS, decS, Tryd.ntmps70, Nat.reduceEqDiff, reduceCtorEq, Nat.reduceMul, Nat.reduceAdd, Nat.reduceSub, Nat.reduceDiv, Nat.reduceMod, Nat.reduceLeDiff, Nat.reduceLT, Nat.reduceBNe, Nat.reduceBEq, reduceIte, Int.reduceLE, Int.reduceLT, Int.reduceToNat, Int.reduceNeg, Int.reduceAdd, Int.reduceSub, Int.reduceMul, Int.reduceEq]
    refine vc_loop _ rptsSf (ptsJ s) (fun p => p.1.size) [(3, 3, 1)] ?_ ?_
    · refine meets_mk _ (s, [], s.size) ⟨by show 0 + s.size ≤ s.size; omega, Nat.le_refl _, rfl⟩ ?_
      simp only [go_sem, h.hP, rptsSf, Tryd.ntmps70, Nat.reduceEqDiff, reduceCtorEq, Nat.reduceMul, Nat.reduceAdd, Nat.reduceSub, Nat.reduceDiv, Nat.reduceMod, Nat.reduceLeDiff, Nat.reduceLT, Nat.reduceBNe, Nat.reduceBEq, reduceIte, Int.reduceLE, Int.reduceLT, Int.reduceToNat, Int.reduceNeg, Int.reduceAdd, Int.reduceSub, Int.reduceMul, Int.reduceEq]
      rfl
    · rintro ⟨t, acc, k⟩ ⟨j1, j2, j3⟩
      simp only at j1 j2 j3
      simp only [go_sem, h.hP, rptsSf, ptsS, decS, str_nil, Tryd.ntmps70, Nat.reduceEqDiff, reduceCtorEq, Nat.reduceMul, Nat.reduceAdd, Nat.reduceSub, Nat.reduceDiv, Nat.reduceMod, Nat.reduceLeDiff, Nat.reduceLT, Nat.reduceBNe, Nat.reduceBEq, reduceIte, Int.reduceLE, Int.reduceLT, Int.reduceToNat, Int.reduceNeg, Int.reduceAdd, Int.reduceSub, Int.reduceMul, Int.reduceEq]
      simp only [rowsK_flat, rowsK_len, rowsK_one, Bool.true_eq_false, if_false, D.sl.injEq, AV.dv.injEq, DV.d.injEq]
      have hr := bt_range t 0
      have hw : t.size ≠ 0 → 1 ≤ wid t ∧ wid t ≤ t.size ∧ (Lib.decodeGo t).1 ≤ 1114111 := wid_ge
      have hx : (t.extract (wid t) t.size).size = t.size - wid t := by rw [ByteArray.size_extract]; omega
      have hb : IntKind.i64.wrap (-1 - IntKind.i64.wrap (bt t 0)) = -1 - bt t 0 := by rw [i64w (n := bt t 0) (by omega) (by omega), i64w (by omega) (by omega)]
      have hd : t.size ≠ 0 → IntKind.i64.wrap ((Lib.decodeGo t).1 : Int) = ((Lib.decodeGo t).1 : Int) := fun hne => i64w (by omega) (by have := hw hne; omega)
      have key : t.size ≠ 0 → ∃ k', k = k' + 1 ∧ (acc ++ [ptOf t]) ++ ptsL k' (t.extract (wid t) t.size) = pts s := fun hne => by
        obtain ⟨k', rfl, hst⟩ := ptsL_step hne j2
        rw [hst] at j3
        exact ⟨k', rfl, by rw [List.append_assoc]; exact j3⟩
      have leaf : ∀ c : Int, t.size ≠ 0 → c = ptOf t → ∀ σ, At 35 [(3, 3, 1)] (rptsSf (t.extract (wid t) t.size, acc ++ [c], k - 1)) σ → Below 35 [(3, 3, 1)] rptsSf (ptsJ s) (fun p => p.1.size) t.size σ := fun c hne hc σ hσ => by
        obtain ⟨k', rfl, hk⟩ := key hne
        have h1 := hw hne
        refine below_mk _ _ ⟨?_, ?_, ?_⟩ ?_ hσ
        · show (acc ++ [c]).length + (t.extract (wid t) t.size).size ≤ s.size
          rw [List.length_append, List.length_singleton]; omega
        · show (t.extract (wid t) t.size).size ≤ k' + 1 - 1; omega
        · show (acc ++ [c]) ++ ptsL k' _ = _
          rw [hc]; exact hk
        · show (t.extract (wid t) t.size).size < t.size; omega
      have hwd : (Lib.decodeGo t).2 = wid t := rfl
      rw [hb, hwd]
      clear key
      refine ⟨fun hne => ?_, fun he => ?_⟩
      · have h1 := hw hne
        rw [hd hne]
        clear hd
        refine ⟨fun c1 => ⟨fun c2 => ?_, fun c2 => ?_⟩, fun c1 => ?_⟩
        · refine ⟨by omega, by omega, by omega, by omega, by omega, by omega, leaf (-1 - bt t 0) hne ?_ _ ?_⟩
          · unfold ptOf; rw [if_pos ⟨c1, c2⟩]
          · simp only [go_sem, h.hP, rptsSf, Tryd.ntmps70, Nat.reduceEqDiff, reduceCtorEq, Nat.reduceMul, Nat.reduceAdd, Nat.reduceSub, Nat.reduceDiv, Nat.reduceMod, Nat.reduceLeDiff, Nat.reduceLT, Nat.reduceBNe, Nat.reduceBEq, reduceIte, Int.reduceLE, Int.reduceLT, Int.reduceToNat, Int.reduceNeg, Int.reduceAdd, Int.reduceSub, Int.reduceMul, Int.reduceEq]
            rw [rowsK_app]
        · refine ⟨by omega, by omega, by omega, by omega, by omega, leaf _ hne (?_ : ((Lib.decodeGo t).1 : Int) = _) _ ?_⟩
          · unfold ptOf; rw [if_neg (fun e => c2 e.2)]
          · simp only [go_sem, h.hP, rptsSf, Tryd.ntmps70, Nat.reduceEqDiff, reduceCtorEq, Nat.reduceMul, Nat.reduceAdd, Nat.reduceSub, Nat.reduceDiv, Nat.reduceMod, Nat.reduceLeDiff, Nat.reduceLT, Nat.reduceBNe, Nat.reduceBEq, reduceIte, Int.reduceLE, Int.reduceLT, Int.reduceToNat, Int.reduceNeg, Int.reduceAdd, Int.reduceSub, Int.reduceMul, Int.reduceEq]
            rw [rowsK_app]
        · refine ⟨by omega, by omega, by omega, by omega, by omega, leaf _ hne (?_ : ((Lib.decodeGo t).1 : Int) = _) _ ?_⟩
          · unfold ptOf; rw [if_neg (fun e => c1 e.1)]
          · simp only [go_sem, h.hP, rptsSf, Tryd.ntmps70, Nat.reduceEqDiff, reduceCtorEq, Nat.reduceMul, Nat.reduceAdd, Nat.reduceSub, Nat.reduceDiv, Nat.reduceMod, Nat.reduceLeDiff, Nat.reduceLT, Nat.reduceBNe, Nat.reduceBEq, reduceIte, Int.reduceLE, Int.reduceLT, Int.reduceToNat, Int.reduceNeg, Int.reduceAdd, Int.reduceSub, Int.reduceMul, Int.reduceEq]
            rw [rowsK_app]
      · rw [ptsL_nil he, List.append_nil] at j3
        rw [j3]

def farS : Spec where
  pre xs := ∃ s t : ByteArray, xs = [.str s, .str t] ∧ s.size ≤ 1073741824 ∧ t.size ≤ 1073741824
  post xs r := ∃ s t : ByteArray, xs = [.str s, .str t] ∧ r = .i (ed (pts s) (pts t))
  cost _ := 0
  fresh := true
/-- from place k on the row holds the distances of the i-th end of x from the ends of y -/
def gOk (x y : List Int) (i k : Nat) (r : List Int) : Prop := ∀ t, k ≤ t → t ≤ y.length → r.getD t 0 = ed (x.drop i) (y.drop t)
def Gf0 (x y : List Int) (p : List Int × Nat) : Sh := ⟨[(5, .sl (rowsK .i64 x)), (6, .sl (rowsK .i64 y)), (7, .own 7), (21, .i ((y.length : Int) + 1)), (22, .i p.2)], [(7, .arr 3 1 (rowsK .i64 p.1))], 0⟩
def Gf1 (x y : List Int) (p : List Int × Nat) : Sh := ⟨[(5, .sl (rowsK .i64 x)), (6, .sl (rowsK .i64 y)), (7, .own 7), (9, .i ((p.2 : Int) - 1))], [(7, .arr 3 1 (rowsK .i64 p.1))], 0⟩
def Gf2 (x y r : List Int) (i : Nat) (p : List Int × Nat) : Sh := ⟨[(5, .sl (rowsK .i64 x)), (6, .sl (rowsK .i64 y)), (7, .own 7), (9, .i i), (10, .own 10), (11, .i ((p.2 : Int) - 1))], [(7, .arr 3 1 (rowsK .i64 r)), (10, .arr 3 1 (rowsK .i64 p.1))], 0⟩
theorem far_ctr {cx : Cx} (h : Seat cx) (hU : Utf8 cx) : Ctr cx 22 farS := by
  refine ctr_of (fn := Tryd.f22) (l := [.tmp 4]) (envL [(70, (ptsS .i64))]) [0, 1, 4, 5, 6, 7, 8, 9, 10, 11, 21, 22, 23, 37, 56, 67] [] [] (envL_cons (rpts_ctr h hU) (env0 h.hP)) ?_ (by rw [h.hP]; exact Tryd.func22) rfl (by kernel_rfl) rfl ?_ ?_
  · rw [h.hP]; exact ⟨_, Tryd.func22, by kernel_rfl, by kernel_rfl⟩
  · rintro xs ⟨s, t, rfl, h1, h2⟩; exact ⟨_, s, t, rfl, rfl⟩
  · rintro xs ⟨s, t, rfl, h1, h2⟩
    refine ⟨by rw [Tryd.ntmps22]; simp, ?_⟩
    simp only [go_sem, h.hP, farS, ptsS, rowsK_len, Tryd.ntmps22, Nat.reduceEqDiff, reduceCtorEq, Nat.reduceMul, Nat.reduceAdd, Nat.reduceSub, Nat.reduceDiv, Nat.reduceMod, Nat.reduceLeDiff, Nat.reduceLT, Nat.reduceBNe, Nat.reduceBEq, reduceIte, Int.reduceLE, Int.reduceLT, Int.reduceToNat, Int.reduceNeg, Int.reduceAdd, Int.reduceSub, Int.reduceMul, Int.reduceEq]
    have hp : (pts s).length ≤ s.size := ptsL_len s.size s
    have hq : (pts t).length ≤ t.size := ptsL_len t.size t
    generalize hx : pts s = x at *
    generalize hy : pts t = y at *
    have hw1 : IntKind.i64.wrap ((y.length : Int) + 1) = (y.length : Int) + 1 := i64w (by omega) (by omega)
    rw [hw1]
    refine ⟨by omega, by omega, by omega, by omega, by omega, ?_⟩
    refine vc_loop _ (Gf0 x y) (fun p => p.1.length = y.length + 1 ∧ p.2 ≤ y.length + 1 ∧ ∀ t, t < p.2 → p.1.getD t 0 = (y.length : Int) - t) (fun p => y.length + 1 - p.2) [(7, 3, 1)] ?_ ?_
    · refine meets_mk _ (List.replicate (y.length + 1) 0, 0) ⟨List.length_replicate, Nat.zero_le _, fun t ht => absurd ht (Nat.not_lt_zero t)⟩ ?_
      simp only [go_sem, h.hP, Gf0, Tryd.ntmps22, Nat.reduceEqDiff, reduceCtorEq, Nat.reduceMul, Nat.reduceAdd, Nat.reduceSub, Nat.reduceDiv, Nat.reduceMod, Nat.reduceLeDiff, Nat.reduceLT, Nat.reduceBNe, Nat.reduceBEq, reduceIte, Int.reduceLE, Int.reduceLT, Int.reduceToNat, Int.reduceNeg, Int.reduceAdd, Int.reduceSub, Int.reduceMul, Int.reduceEq]
      refine ⟨by rw [List.length_replicate]; omega, rfl, ?_⟩
      rw [repl_rows, show ((y.length : Int) + 1).toNat = y.length + 1 by omega]
    · rintro ⟨r, k⟩ ⟨k1, k2, k3⟩
      simp only at k1 k2 k3
      simp only [go_sem, h.hP, Gf0, farS, rowsK_len, rowsK_get, rowsK_set, spl_one, k1, Tryd.ntmps22, Nat.reduceEqDiff, reduceCtorEq, Nat.reduceMul, Nat.reduceAdd, Nat.reduceSub, Nat.reduceDiv, Nat.reduceMod, Nat.reduceLeDiff, Nat.reduceLT, Nat.reduceBNe, Nat.reduceBEq, reduceIte, Int.reduceLE, Int.reduceLT, Int.reduceToNat, Int.reduceNeg, Int.reduceAdd, Int.reduceSub, Int.reduceMul, Int.reduceEq]
      refine ⟨fun c1 => ⟨by omega, by omega, by omega, ?_⟩, fun c1 => ?_⟩
      · rw [i64w (n := (y.length : Int) - k) (by omega) (by omega), i64s (n := k) (by omega)]
        refine below_mk _ (r.set k ((y.length : Int) - k), k + 1) ⟨by show (r.set _ _).length = _; rw [List.length_set, k1], by show k + 1 ≤ _; omega, fun t ht => ?_⟩ (by show y.length + 1 - (k + 1) < y.length + 1 - k; omega) ?_
        · show (r.set k _).getD t 0 = _
          rw [set_get (by omega)]
          split
          · rename_i e; rw [e]
          · exact k3 t (by have : t < k + 1 := ht; omega)
        · simp only [go_sem, h.hP, Gf0, Tryd.ntmps22, Nat.reduceEqDiff, reduceCtorEq, Nat.reduceMul, Nat.reduceAdd, Nat.reduceSub, Nat.reduceDiv, Nat.reduceMod, Nat.reduceLeDiff, Nat.reduceLT, Nat.reduceBNe, Nat.reduceBEq, reduceIte, Int.reduceLE, Int.reduceLT, Int.reduceToNat, Int.reduceNeg, Int.reduceAdd, Int.reduceSub, Int.reduceMul, Int.reduceEq]
      · have hk : k = y.length + 1 := by omega
        subst hk
        have hg0 : gOk x y x.length 0 r := fun t _ ht => by
          rw [k3 t (by omega), List.drop_length, ed_nil, List.length_drop]
          omega
        rw [i64w (n := (x.length : Int) - 1) (by omega) (by omega)]
        refine vc_loop _ (Gf1 x y) (fun p => p.1.length = y.length + 1 ∧ p.2 ≤ x.length ∧ gOk x y p.2 0 p.1) (fun p => p.2) [(7, 3, 1)] ?_ ?_
        · refine meets_mk _ (r, x.length) ⟨k1, Nat.le_refl _, hg0⟩ ?_
          simp only [go_sem, h.hP, Gf1, Tryd.ntmps22, Nat.reduceEqDiff, reduceCtorEq, Nat.reduceMul, Nat.reduceAdd, Nat.reduceSub, Nat.reduceDiv, Nat.reduceMod, Nat.reduceLeDiff, Nat.reduceLT, Nat.reduceBNe, Nat.reduceBEq, reduceIte, Int.reduceLE, Int.reduceLT, Int.reduceToNat, Int.reduceNeg, Int.reduceAdd, Int.reduceSub, Int.reduceMul, Int.reduceEq]
        · clear hg0 k3
          rintro ⟨r, i⟩ ⟨k1, k2, k3⟩
          simp only at k1 k2 k3
          simp only [go_sem, h.hP, Gf1, farS, rowsK_len, rowsK_get, rowsK_set, spl_one, k1, hw1, List.length_replicate, repl_rows, Tryd.ntmps22, Nat.reduceEqDiff, reduceCtorEq, Nat.reduceMul, Nat.reduceAdd, Nat.reduceSub, Nat.reduceDiv, Nat.reduceMod, Nat.reduceLeDiff, Nat.reduceLT, Nat.reduceBNe, Nat.reduceBEq, reduceIte, Int.reduceLE, Int.reduceLT, Int.reduceToNat, Int.reduceNeg, Int.reduceAdd, Int.reduceSub, Int.reduceMul, Int.reduceEq]
          refine ⟨fun c2 => ?_, fun c2 => ?_⟩
          · obtain ⟨i, rfl⟩ : ∃ j, i = j + 1 := ⟨i - 1, by omega⟩
            have e1 : ((i + 1 : Nat) : Int) - 1 = i := by omega
            rw [e1]
            clear c2
            refine ⟨by omega, by omega, by omega, by omega, by omega, by omega, ?_⟩
            refine vc_loop _ (Gf2 x y r i) (fun p => p.1.length = y.length + 1 ∧ p.2 ≤ y.length ∧ gOk x y i p.2 p.1) (fun p => p.2) [(7, 3, 1), (10, 3, 1)] ?_ ?_
            · refine meets_mk _ ((List.replicate (y.length + 1) 0).set y.length ((x.length : Int) - i), y.length) ⟨?_, Nat.le_refl _, ?_⟩ ?_
              · show (List.set _ _ _).length = _
                rw [List.length_set, List.length_replicate]
              · intro t h1 h2
                have : t = y.length := by omega
                subst this
                show (List.set _ _ _).getD _ 0 = _
                rw [set_get (by rw [List.length_replicate]; omega), if_pos rfl, List.drop_length, ed_nil', List.length_drop]
                omega
              · simp only [go_sem, h.hP, Gf2, Tryd.ntmps22, Nat.reduceEqDiff, reduceCtorEq, Nat.reduceMul, Nat.reduceAdd, Nat.reduceSub, Nat.reduceDiv, Nat.reduceMod, Nat.reduceLeDiff, Nat.reduceLT, Nat.reduceBNe, Nat.reduceBEq, reduceIte, Int.reduceLE, Int.reduceLT, Int.reduceToNat, Int.reduceNeg, Int.reduceAdd, Int.reduceSub, Int.reduceMul, Int.reduceEq]
                exact ⟨i64w (by omega) (by omega), by rw [i64w (n := (x.length : Int) - i) (by omega) (by omega), show ((y.length : Int) + 1).toNat = y.length + 1 by omega]⟩
            · rintro ⟨q, k⟩ ⟨m1, m2, m3⟩
              simp only at m1 m2 m3
              simp only [go_sem, h.hP, Gf2, farS, rowsK_len, rowsK_get, rowsK_set, spl_one, k1, m1, Tryd.ntmps22, Nat.reduceEqDiff, reduceCtorEq, Nat.reduceMul, Nat.reduceAdd, Nat.reduceSub, Nat.reduceDiv, Nat.reduceMod, Nat.reduceLeDiff, Nat.reduceLT, Nat.reduceBNe, Nat.reduceBEq, reduceIte, Int.reduceLE, Int.reduceLT, Int.reduceToNat, Int.reduceNeg, Int.reduceAdd, Int.reduceSub, Int.reduceMul, Int.reduceEq]
              refine ⟨fun c3 => ?_, fun c3 => ?_⟩
              · obtain ⟨k, rfl⟩ : ∃ j, k = j + 1 := ⟨k - 1, by omega⟩
                have e2 : ((k + 1 : Nat) : Int) - 1 = k := by omega
                have e3 : IntKind.i64.wrap ((k : Int) + 1) = ((k + 1 : Nat) : Int) := i64s (by omega)
                have e4 : IntKind.i64.wrap ((k : Int) - 1) = (k : Int) - 1 := i64w (by omega) (by omega)
                rw [e2, e3, e4]
                simp only [Int.toNat_natCast]
                clear c3
                have f1 : x.drop i = x.getD i 0 :: x.drop (i + 1) := drop_getD (l := x) (i := i) (by omega)
                have f2 : y.drop k = y.getD k 0 :: y.drop (k + 1) := drop_getD (l := y) (i := k) (by omega)
                have g1 : r.getD (k + 1) 0 = ed (x.drop (i + 1)) (y.drop (k + 1)) := k3 (k + 1) (Nat.zero_le _) m2
                have g2 : r.getD k 0 = ed (x.drop (i + 1)) (y.drop k) := k3 k (Nat.zero_le _) (by omega)
                have g3 : q.getD (k + 1) 0 = ed (x.drop i) (y.drop (k + 1)) := m3 (k + 1) (Nat.le_refl _) m2
                have leaf : ∀ v : Int, v = ed (x.drop i) (y.drop k) → ∀ σ, At 99 [(7, 3, 1), (10, 3, 1)] (Gf2 x y r i (q.set k v, k)) σ →
                    Below 99 [(7, 3, 1), (10, 3, 1)] (Gf2 x y r i) (fun p => p.1.length = y.length + 1 ∧ p.2 ≤ y.length ∧ gOk x y i p.2 p.1) (fun p => p.2) (k + 1) σ := fun v hv σ hσ => by
                  refine below_mk _ _ ⟨?_, ?_, ?_⟩ (by show k < k + 1; omega) hσ
                  · show (q.set _ _).length = _; rw [List.length_set, m1]
                  · show k ≤ _; omega
                  · intro t ht1 ht2
                    show (q.set k v).getD t 0 = _
                    rw [set_get (by omega)]
                    split
                    · rename_i e; rw [e, hv]
                    · exact m3 t (by have : k ≤ t := ht1; omega) ht2
                refine ⟨by omega, by omega, by omega, by omega, fun c4 => ⟨by omega, by omega, by omega, by omega, by omega, by omega, leaf (r.getD (k + 1) 0) ?_ _ ?_⟩, fun c4 => ⟨by omega, by omega, by omega, by omega, by omega, by omega, by omega, by omega, by omega, by omega, by omega, by omega, ?_⟩⟩
                · rw [f1, f2, ed_cons, if_pos c4, g1]
                · simp only [go_sem, h.hP, Gf2, Tryd.ntmps22, Nat.reduceEqDiff, reduceCtorEq, Nat.reduceMul, Nat.reduceAdd, Nat.reduceSub, Nat.reduceDiv, Nat.reduceMod, Nat.reduceLeDiff, Nat.reduceLT, Nat.reduceBNe, Nat.reduceBEq, reduceIte, Int.reduceLE, Int.reduceLT, Int.reduceToNat, Int.reduceNeg, Int.reduceAdd, Int.reduceSub, Int.reduceMul, Int.reduceEq]
                · have hv : 1 + min3 (r.getD (k + 1) 0) (r.getD k 0) (q.getD (k + 1) 0) = ed (x.drop i) (y.drop k) := by rw [f1, f2, ed_cons, if_neg c4, ← f1, ← f2, g1, g2, g3]
                  have hb := ed_range (x.drop i) (y.drop k)
                  have hl1 := List.length_drop (i := i) (l := x)
                  have hl2 := List.length_drop (i := k) (l := y)
                  refine leaf (1 + min3 (r.getD (k + 1) 0) (r.getD k 0) (q.getD (k + 1) 0)) hv _ ?_
                  have hw : IntKind.i64.wrap (1 + min3 (r.getD (k + 1) 0) (r.getD k 0) (q.getD (k + 1) 0)) = 1 + min3 (r.getD (k + 1) 0) (r.getD k 0) (q.getD (k + 1) 0) := i64w (by rw [hv]; omega) (by rw [hv]; omega)
                  simp only [go_sem, h.hP, Gf2, Tryd.ntmps22, Nat.reduceEqDiff, reduceCtorEq, Nat.reduceMul, Nat.reduceAdd, Nat.reduceSub, Nat.reduceDiv, Nat.reduceMod, Nat.reduceLeDiff, Nat.reduceLT, Nat.reduceBNe, Nat.reduceBEq, reduceIte, Int.reduceLE, Int.reduceLT, Int.reduceToNat, Int.reduceNeg, Int.reduceAdd, Int.reduceSub, Int.reduceMul, Int.reduceEq]
                  exact congrArg (fun v => Ob.arr 3 1 (rowsK .i64 (q.set k v))) hw
              · have hk : k = 0 := by omega
                subst hk
                rw [i64w (n := (i : Int) - 1) (by omega) (by omega)]
                refine below_mk _ (q, i) ⟨m1, by show i ≤ _; omega, m3⟩ (by show i < i + 1; omega) ?_
                simp only [go_sem, h.hP, Gf1, Tryd.ntmps22, Nat.reduceEqDiff, reduceCtorEq, Nat.reduceMul, Nat.reduceAdd, Nat.reduceSub, Nat.reduceDiv, Nat.reduceMod, Nat.reduceLeDiff, Nat.reduceLT, Nat.reduceBNe, Nat.reduceBEq, reduceIte, Int.reduceLE, Int.reduceLT, Int.reduceToNat, Int.reduceNeg, Int.reduceAdd, Int.reduceSub, Int.reduceMul, Int.reduceEq]
          · have hi : i = 0 := by omega
            subst hi
            have := k3 0 (Nat.le_refl _) (Nat.zero_le _)
            rw [List.drop_zero, List.drop_zero] at this
            exact ⟨by omega, by omega, this⟩
end Go.Avc

/- The generators of values and fields: their contracts. No condition. -/
set_option linter.unusedVariables false
set_option linter.unusedSimpArgs false
set_option maxRecDepth 100000
namespace Go.Avc
open Go Go.Proofs

def repL (s : ByteArray) (c : Int) : ByteArray := ⟨(Lib.repeatL s.data.toList c.toNat).toArray⟩
theorem repL_size (s : ByteArray) {c : Int} (h : 0 ≤ c) : ((repL s c).size : Int) = c * s.size := by
  show (((Lib.repeatL s.data.toList c.toNat).toArray.size : Nat) : Int) = _
  rw [List.size_toArray, Lib.repeatL_length, Array.length_toList, Int.natCast_mul, Int.toNat_of_nonneg h]
  rfl
def rep2S  : Spec where
  pre xs := ∃ (s : ByteArray) (c : Int), xs = [.str s, .i c] ∧ (0 ≤ c ∧ c ≤ 1000 ∧ s.size ≤ 1000000)
  post xs y := ∃ (s : ByteArray) (c : Int), xs = [.str s, .i c] ∧ y = .str (repL s c)
  cost _ := 0
  fresh := true
theorem rep2S_c  (xs : List AV) : (rep2S).cost xs = 0 := nr rfl
theorem rep2S_f  : (rep2S).fresh = true := nr rfl
theorem rep2S_q  (s : ByteArray) (c : Int) : (rep2S).pre [.str s, .i c] = (0 ≤ c ∧ c ≤ 1000 ∧ s.size ≤ 1000000) := propext ⟨fun h => by
  have h' : ∃ (s' : ByteArray) (c' : Int), ([.str s, .i c] : List AV) = [.str s', .i c'] ∧ (0 ≤ c' ∧ c' ≤ 1000 ∧ s'.size ≤ 1000000) := h
  obtain ⟨s', c', e, h⟩ := h'
  simp only [List.cons.injEq, AV.dv.injEq, AV.fv.injEq, DV.d.injEq, DV.ag.injEq, D.int.injEq, D.str.injEq, D.bool.injEq, D.sl.injEq, true_and, and_true, intsDi_inj, rowsT_inj, rowsKi_inj] at e
  obtain ⟨rfl, rfl⟩ := e
  exact h, fun h => ⟨s, c, rfl, h⟩⟩
theorem rep2S_p  (s : ByteArray) (c : Int) : (rep2S).post [.str s, .i c] = fun y => y = .str (repL s c) := funext fun y => propext ⟨fun h => by
  have h' : ∃ (s' : ByteArray) (c' : Int), ([.str s, .i c] : List AV) = [.str s', .i c'] ∧ y = .str (repL s' c') := h
  obtain ⟨s', c', e, h⟩ := h'
  simp only [List.cons.injEq, AV.dv.injEq, AV.fv.injEq, DV.d.injEq, DV.ag.injEq, D.int.injEq, D.str.injEq, D.bool.injEq, D.sl.injEq, true_and, and_true, intsDi_inj, rowsT_inj, rowsKi_inj] at e
  obtain ⟨rfl, rfl⟩ := e
  exact h, fun h => ⟨s, c, rfl, h⟩⟩
theorem rep2_ctr {cx : Cx} (h : Seat cx) : Ctr cx 20 rep2S := by
  refine ctr_flat (by rw [h.hP]; exact ⟨_, Tryd.func20, by kernel_rfl, by kernel_rfl⟩) (fun _ => rfl) ?_
  rintro xs ⟨s, c, rfl, h1, h2, h3⟩
  obtain ⟨n, rfl⟩ : ∃ n : Nat, c = n := ⟨c.toNat, by omega⟩
  refine ⟨_, .str (repL s n), _, rfl, ⟨s, n, rfl, rfl⟩, rfl, fun w hw => ?_⟩
  rw [h.hP]
  exact Tryd.strings_Repeat s n w (by omega) (Nat.le_trans (Nat.mul_le_mul h3 (show n ≤ 1000 by omega)) (by decide))
theorem exV {k n : Int} {s : ByteArray} (h1 : okI k) (h2 : okS s) (h3 : okI n) : ∃ v : TValue, v.ok ∧ [D.int .i64 k, D.str s, D.int .i64 n] = v.row := ⟨⟨k, s, n⟩, ⟨h1, h2, h3⟩, rfl⟩
def valueG : Spec where
  pre xs := xs = [.st]
  post xs y := ∃ v : TValue, v.ok ∧ y = .dv (.ag v.row)
  cost _ := 6
  fresh := false
set_option maxHeartbeats 8000000 in
theorem Value_ctr {cx : Cx} (h : Seat cx) : Ctr cx 39 valueG := by
  refine ctr_of (fn := Tryd.f39) (l := [.cell 2 71]) (envL [(25, nextS), (14, pickS), (19, flipS), (71, oneS), (20, rep2S)]) [0, 2, 3, 9, 14, 20, 26, 32, 34, 41, 47] [] [] (envL_cons (next_ctr cx h.hP h.hS) (envL_cons (pick_ctr cx h.hP h.hS) (envL_cons (flip_ctr cx h.hP h.hS) (envL_cons (one_ctr h) (envL_cons (rep2_ctr h) (env0 h.hP)))))) ?_ (by rw [h.hP]; exact Tryd.func39) rfl (by kernel_rfl) rfl ?_ ?_
  · rw [h.hP]; exact ⟨_, Tryd.func39, by kernel_rfl, by kernel_rfl⟩
  · rintro xs rfl; exact ⟨_, TValue.z, TValue.z_ok, rfl⟩
  · rintro xs rfl
    refine ⟨by rw [Tryd.ntmps39]; simp, ?_⟩
    simp only [go_sem, h.hP, List.cons_append, List.nil_append, Meets_e, Below_e, Prod.exists, exists_eq, exists_eq_left, exists_eq_left', exists_eq_right, exists_eq_right', exists_and_left, exists_and_right, Ob.arr.injEq, AV.own.injEq, AV.fv.injEq, valueG, nextS_q, nextS_p, nextS_c, nextS_f, pickS_q, pickS_p, pickS_c, pickS_f, flipS_q, flipS_p, flipS_c, flipS_f, oneS_q, oneS_p, oneS_c, oneS_f, rep2S_q, rep2S_p, rep2S_c, rep2S_f, ints1, intsc, strs1, strsc, Tryd.ntmps39, Nat.reduceEqDiff, reduceCtorEq, Nat.reduceMul, Nat.reduceAdd, Nat.reduceSub, Nat.reduceDiv, Nat.reduceMod, Nat.reduceLeDiff, Nat.reduceLT, Nat.reduceBNe, Nat.reduceBEq, reduceIte, Int.reduceLE, Int.reduceLT, Int.reduceToNat, Int.reduceNeg, Int.reduceAdd, Int.reduceSub, Int.reduceMul, Int.reduceEq]
    ((repeat' (first | with_reducible apply And.intro | with_reducible intro)) <;> refine exV ?_ ?_ ?_ <;> first | exact isIn_ok (by assumption) (by decide) | exact okS_z | exact okS_of (isOf_ok (by assumption) (by decide +kernel)) | exact ⟨by omega, by omega⟩)
def namesL : List ByteArray := [⟨#[97, 103, 101]⟩, ⟨#[99, 105, 116, 121]⟩, ⟨#[106, 111, 105, 110, 101, 100]⟩, ⟨#[110, 97, 109, 101]⟩, ⟨#[112, 108, 97, 110]⟩, ⟨#[118, 105, 112]⟩]
def namesD : List D := namesL.map D.str
theorem namesD_len : namesD.length = 6 := rfl
theorem namesD_take : namesD.take 6 = namesD := rfl
theorem namesD_get (n : Nat) : namesD.getD n (.str ⟨#[]⟩) = .str (namesL.getD n ⟨#[]⟩) := by
  unfold namesD
  rw [List.getD_eq_getElem?_getD, List.getD_eq_getElem?_getD, List.getElem?_map]
  cases namesL[n]? <;> rfl
theorem names_ok (n : Nat) : okS (namesL.getD n ⟨#[]⟩) := okS_of (all_get (p := fun s : ByteArray => s.size ≤ 1000) (fun x hx => by simpa using List.all_eq_true.1 (show namesL.all (fun y => decide (y.size ≤ 1000)) = true by decide) x hx) (by decide) n)
def fieldsG : Spec where
  pre xs := ∃ m : Int, xs = [.st, .i m]
  post xs y := ∃ (m : Int) (l : List TField), xs = [.st, .i m] ∧ l.length ≤ 7 ∧ (∀ x ∈ l, x.ok) ∧ y = .sl (TField.rows l)
  cost _ := 60
  fresh := false
set_option maxHeartbeats 8000000 in
theorem Fields_own {cx : Cx} (h : Seat cx) (hN : cx.glob 0 = some namesD) : CtrO cx 40 fieldsG 76 4 := by
  refine ctrO_of (fn := Tryd.f40) (t := 4) (envL [(39, valueG), (19, flipS), (71, oneS), (20, rep2S)]) [0, 1, 4, 5, 7, 8, 9, 10, 19, 29] [] [] (envL_cons (Value_ctr h) (envL_cons (flip_ctr cx h.hP h.hS) (envL_cons (one_ctr h) (envL_cons (rep2_ctr h) (env0 h.hP))))) ?_ (by rw [h.hP]; exact Tryd.func40) rfl (by kernel_rfl) rfl ?_
  · rw [h.hP]; exact ⟨_, Tryd.func40, by kernel_rfl, by kernel_rfl⟩
  · rintro xs ⟨m, rfl⟩
    refine ⟨by rw [Tryd.ntmps40]; simp, ?_⟩
    simp only [go_sem, h.hP, List.cons_append, List.nil_append, Meets_e, Below_e, Prod.exists, exists_eq, exists_eq_left, exists_eq_left', exists_eq_right, exists_eq_right', exists_and_left, exists_and_right, Ob.arr.injEq, AV.own.injEq, AV.fv.injEq, fieldsG, flipS_q, flipS_p, flipS_c, flipS_f, hN, Tryd.ntmps40, Nat.reduceEqDiff, reduceCtorEq, Nat.reduceMul, Nat.reduceAdd, Nat.reduceSub, Nat.reduceDiv, Nat.reduceMod, Nat.reduceLeDiff, Nat.reduceLT, Nat.reduceBNe, Nat.reduceBEq, reduceIte, Int.reduceLE, Int.reduceLT, Int.reduceToNat, Int.reduceNeg, Int.reduceAdd, Int.reduceSub, Int.reduceMul, Int.reduceEq]
    refine ⟨by rw [namesD_len]; decide, ?_⟩
    refine vc_loopS (Int × List TField) (fun (x : Int × List TField) => match x with | (i, l) => [(5, .own 5), (9, .i i)]) [] (fun (x : Int × List TField) => match x with | (i, l) => []) (fun (x : Int × List TField) => match x with | (i, l) => [(5, .arr 76 4 (TField.rows l))]) (fun (x : Int × List TField) => match x with | (i, l) => 7 * i.toNat) (fun (x : Int × List TField) => match x with | (i, l) => 0 ≤ i ∧ i ≤ 6 ∧ (l.length : Int) ≤ i ∧ ∀ c ∈ l, c.ok) (fun (x : Int × List TField) => match x with | (i, l) => (6 - i).toNat) [(5, 76, 4)] ?_ ?_
    · simp only [go_sem, h.hP, List.cons_append, List.nil_append, Meets_e, Below_e, Prod.exists, exists_eq, exists_eq_left, exists_eq_left', exists_eq_right, exists_eq_right', exists_and_left, exists_and_right, Ob.arr.injEq, AV.own.injEq, AV.fv.injEq, TField.nil2, Tryd.ntmps40, Nat.reduceEqDiff, reduceCtorEq, Nat.reduceMul, Nat.reduceAdd, Nat.reduceSub, Nat.reduceDiv, Nat.reduceMod, Nat.reduceLeDiff, Nat.reduceLT, Nat.reduceBNe, Nat.reduceBEq, reduceIte, Int.reduceLE, Int.reduceLT, Int.reduceToNat, Int.reduceNeg, Int.reduceAdd, Int.reduceSub, Int.reduceMul, Int.reduceEq]
      exact Int.le_refl _
    · rintro ⟨i, l⟩ ⟨j1, j2, j3, j4⟩
      have hw : IntKind.i64.wrap (i + 1) = i + 1 := i64w (by omega) (by omega)
      simp only [go_sem, h.hP, List.cons_append, List.nil_append, Meets_e, Below_e, Prod.exists, exists_eq, exists_eq_left, exists_eq_left', exists_eq_right, exists_eq_right', exists_and_left, exists_and_right, Ob.arr.injEq, AV.own.injEq, AV.fv.injEq, fieldsG, flipS_q, flipS_p, flipS_c, flipS_f, oneS_q, oneS_p, oneS_c, oneS_f, rep2S_q, rep2S_p, rep2S_c, rep2S_f, valueG, strs1, strsc, TValue.row, TField.fold1, TField.app', TField.rows_inj, TField.zlT, TField.len, TField.flat, List.length_append, List.length_singleton, namesD_len, namesD_take, namesD_get, hw, Tryd.ntmps40, Nat.reduceEqDiff, reduceCtorEq, Nat.reduceMul, Nat.reduceAdd, Nat.reduceSub, Nat.reduceDiv, Nat.reduceMod, Nat.reduceLeDiff, Nat.reduceLT, Nat.reduceBNe, Nat.reduceBEq, reduceIte, Int.reduceLE, Int.reduceLT, Int.reduceToNat, Int.reduceNeg, Int.reduceAdd, Int.reduceSub, Int.reduceMul, Int.reduceEq]
      have fin : ∀ {n : ByteArray} {v : TValue}, okS n → v.ok → i ≤ 6 → ∃ x : List TField, x.length ≤ 7 ∧ (∀ c ∈ x, c.ok) ∧ l ++ [⟨n, ⟨v.kind, v.text, v.number⟩⟩] = x := fun h1 h2 _ => ⟨_, by rw [List.length_append, List.length_singleton]; omega, okL_app j4 ⟨h1, h2⟩, rfl⟩
      clear hw
      ((repeat' (first | with_reducible apply And.intro | with_reducible intro)) <;> try first | omega | assumption | exact okL_mem (by assumption) j4 ⟨names_ok _, by assumption⟩ | exact fin (okS_of (isOf_ok (by assumption) (by decide +kernel))) (by assumption) j2 | exact ⟨l, by omega, j4, rfl⟩ | exact j4 _ (by assumption))
end Go.Avc

/- The tables of unicode/utf8, from a row's list to what the walks ask. No condition. -/
set_option linter.unusedVariables false
set_option maxRecDepth 100000
namespace Go.Avc
open Go Go.Proofs

def acceptL : List Int := (List.range 16).flatMap fun i => [(Lib.accLo i : Int), (Lib.accHi i : Int)]
def globU : Nat → Option (List D)
  | 2 => some (Lib.firstTab.map (D.int .u8))
  | 3 => some (acceptL.map (D.int .u8))
  | _ => none
theorem glob_first {cs : List Value} {ok : Nat → Prop} {w : World} {l : List Int} (h : RdL ok w (l.map (D.int .u8)) cs) (i : Nat) (hi : i < l.length) : cs[i]? = some (.int .u8 (l.getD i 0)) := by
  obtain ⟨v, hv, hr⟩ := h.get (j := i) (x := D.int .u8 (l.getD i 0)) (by rw [List.getElem?_map, List.getD_eq_getElem?_getD, List.getElem?_eq_getElem hi]; rfl)
  rw [hv]
  cases hr
  rfl
theorem rdL_ints {ok : Nat → Prop} {w : World} (l : List Int) : RdL ok w (l.map (D.int .u8)) (l.map (Value.int .u8)) := ⟨by rw [List.length_map, List.length_map], fun j x v hx hv => by
  rw [List.getElem?_map] at hx hv
  obtain ⟨n, hn, rfl⟩ := Option.map_eq_some_iff.1 hx
  rw [hn] at hv
  cases hv
  exact .int _ _⟩
theorem accept_at : ∀ i, i < 16 → acceptL.getD (2 * i) 0 = Lib.accLo i ∧ acceptL.getD (2 * i + 1) 0 = Lib.accHi i := by decide +kernel
theorem utf8_of_glob {cx : Cx} {W0 : Cx} (hW : W0.glob = globU) (h : ∀ w, GlAt cx w → GlAt W0 w) : Utf8 cx := by
  intro w hw
  have hg := h w hw
  obtain ⟨_, _, cs, hc, hr⟩ := hg 2 _ (by rw [hW]; rfl)
  obtain ⟨_, _, cs', hc', hr'⟩ := hg 3 _ (by rw [hW]; rfl)
  have hl : Lib.firstTab.length = 256 := by unfold Lib.firstTab; rw [List.length_map, List.length_range]
  have hl' : acceptL.length = 32 := by decide +kernel
  refine ⟨fun c hc0 => ?_, fun i hi => ?_⟩
  · have := hc c _ (glob_first hr c (by omega))
    rw [this]
    unfold Lib.firstTab
    rw [List.getD_eq_getElem?_getD, List.getElem?_map, List.getElem?_range hc0]
    rfl
  · obtain ⟨e1, e2⟩ := accept_at i hi
    have h1 := hc' (2 * i) _ (glob_first hr' (2 * i) (by omega))
    have h2 := hc' (2 * i + 1) _ (glob_first hr' (2 * i + 1) (by omega))
    rw [e1] at h1
    rw [e2] at h2
    exact ⟨h1, h2⟩
theorem glAt_of_tabs {W : World} {L : List Int} {ST : TypeId} (h : Lib.Utf8Tabs 2 3 W) : GlAt ⟨Tryd.prog, none, L, ST, 5, globU⟩ W := by
  obtain ⟨h1, h2⟩ := h
  have hin : ∀ (b o : Nat) (v : Value), W.cell? ⟨b, o, none⟩ = some v → b < W.heap.size := fun b o v hv => by
    by_cases hb : b < W.heap.size
    · exact hb
    · unfold World.cell? at hv
      rw [Array.getElem?_eq_none (show W.heap.size ≤ b by omega)] at hv
      cases hv
  intro k l hk
  have hk' : globU k = some l := hk
  have hl' : acceptL.length = 32 := by decide +kernel
  match k, hk' with
  | 2, hk' =>
    cases hk'
    refine ⟨Nat.lt_of_sub_eq_succ rfl, hin _ _ _ (h1 0 (by decide)), Lib.firstTab.map (Value.int .u8), fun j u hj => ?_, rdL_ints _⟩
    rw [List.getElem?_map] at hj
    obtain ⟨n, hn, rfl⟩ := Option.map_eq_some_iff.1 hj
    unfold Lib.firstTab at hn
    rw [List.getElem?_map] at hn
    obtain ⟨c, hc, rfl⟩ := Option.map_eq_some_iff.1 hn
    have hc1 := (List.getElem?_eq_some_iff.1 hc).1
    rw [List.length_range] at hc1
    rw [List.getElem?_range hc1] at hc
    cases hc
    exact h1 _ hc1
  | 3, hk' =>
    cases hk'
    refine ⟨Nat.lt_of_sub_eq_succ rfl, hin _ _ _ (h2 0 (by decide)).1, acceptL.map (Value.int .u8), fun j u hj => ?_, rdL_ints _⟩
    rw [List.getElem?_map] at hj
    obtain ⟨n, hn, rfl⟩ := Option.map_eq_some_iff.1 hj
    have hj1 := (List.getElem?_eq_some_iff.1 hn).1
    have hn' : acceptL.getD j 0 = n := by rw [List.getD_eq_getElem?_getD, hn]; rfl
    obtain ⟨e1, e2⟩ := accept_at (j / 2) (by omega)
    obtain ⟨g1, g2⟩ := h2 (j / 2) (by omega)
    rcases Nat.mod_two_eq_zero_or_one j with hm | hm
    · have hj2 : 2 * (j / 2) = j := by omega
      rw [hj2] at e1 g1
      rw [← hn', e1]
      exact g1
    · have hj2 : 2 * (j / 2) + 1 = j := by omega
      rw [hj2] at e2 g2
      rw [← hn', e2]
      exact g2
theorem u8Extra : U8Extra Tryd.prog Tryd.lays260_ren := ⟨by kernel_rfl, by kernel_rfl, by kernel_rfl, by kernel_rfl, by kernel_rfl, by kernel_rfl, by kernel_rfl⟩
theorem first_eq : YtikgmhplgbdmjaaDoor.Rows.laid_unicode_utf8_first = Lib.firstData := by kernel_rfl
theorem accept_eq : (YtikgmhplgbdmjaaDoor.Rows.laid_unicode_utf8_acceptRanges : DataW Unit) = Lib.acceptData := by kernel_rfl
/-- A row that lists the two tables, first of all: they lie so. -/
theorem tabs_of_laid {W : World} (h : laidMet Tryd.prog [("unicode/utf8.acceptRanges", YtikgmhplgbdmjaaDoor.Rows.laid_unicode_utf8_acceptRanges), ("unicode/utf8.first", YtikgmhplgbdmjaaDoor.Rows.laid_unicode_utf8_first)] W) : Lib.Utf8Tabs 2 3 W := by
  rw [first_eq, accept_eq] at h
  exact utf8Tabs_of_reads Tryd.lays260 u8Extra (Lib.laidMet.reads h (by simp)) (Lib.laidMet.reads h (by simp))
/-- The package-level variables are there. -/
theorem ng_of_shaped {W : World} (h : W.ShapedOpen Tryd.prog) : 5 ≤ W.heap.size := by
  have h0 : (((begin Tryd.prog (fun _ _ => 0) default).world.heap[4]?).bind Obj.row?).isSome = true := by kernel_rfl
  obtain ⟨⟨zero, t⟩, hz⟩ := Option.isSome_iff_exists.1 h0
  obtain ⟨cs, hc, _⟩ := h.1 4 zero t (of_decide_eq_true (by kernel_rfl)) hz
  have := (Array.getElem?_eq_some_iff.1 hc).1
  omega
/-- A world for a witness: the two tables hold what the program lays. -/
noncomputable def laidWorld (os : Os) : World :=
  { World.holding Tryd.prog os ⟨#[], #[], []⟩ with heap := (((World.holding Tryd.prog os ⟨#[], #[], []⟩).heap.modify 2 (fun o => match o with
      | .cells _ t frozen => .cells (Lib.firstTab.map (Value.int .u8)).toArray t frozen
      | o => o)).modify 3 (fun o => match o with
      | .cells _ t frozen => .cells (acceptL.map (Value.int .u8)).toArray t frozen
      | o => o)) }
theorem laid_met (os : Os) (args : Array Value) : laidMet Tryd.prog [("unicode/utf8.acceptRanges", YtikgmhplgbdmjaaDoor.Rows.laid_unicode_utf8_acceptRanges), ("unicode/utf8.first", YtikgmhplgbdmjaaDoor.Rows.laid_unicode_utf8_first)] ((laidWorld os).forCall (fun _ _ => 0) ⟨#[], args, []⟩).memory :=
  laidMet_of_run' 8 (by kernel_rfl) (by kernel_rfl)
end Go.Avc

/- Package-level tables of numbers, strings and structs of them, from a row's list to what the walks ask. No condition. -/
set_option linter.unusedVariables false
set_option linter.unusedSimpArgs false
set_option maxRecDepth 100000
namespace Go.Avc
open Go Go.Proofs

/-- A type whose cells are numbers, bools and strings only: how many. -/
def tileF (P : Program) (rec : TypeId → Option Nat) : List Field → Nat → Option Nat
  | [], o => some o
  | f :: r, o => match rec f.type with
    | some z => if f.offset = o ∧ P.cellsOf f.type = z then tileF P rec r (o + z) else none
    | none => none
def tile (P : Program) : Nat → TypeId → Option Nat
  | 0, _ => none
  | k + 1, t => match P.underlying t with
    | some (.int _) => some 1
    | some .bool => some 1
    | some .string => some 1
    | some (.struct fs) => (match tileF P (tile P k) fs.toList 0 with
      | some n => if P.cellsOf t = n then some n else none
      | none => none)
    | some (.array n e) => (match tile P k e with
      | some z => if P.cellsOf e = z ∧ P.cellsOf t = n * z then some (n * z) else none
      | none => none)
    | _ => none
mutual
def flatW {H : Type} : DataW H → Option (List D)
  | .lit (.int k z) => some [.int k z]
  | .lit (.bool b) => some [.bool b]
  | .lit (.string b) => some [.str ⟨b.toArray⟩]
  | .agg ds => flatWs ds
  | _ => none
def flatWs {H : Type} : List (DataW H) → Option (List D)
  | [] => some []
  | d :: r => match flatW d, flatWs r with
    | some l, some m => some (l ++ m)
    | _, _ => none
end
section
variable {H : Type} {enc : TypeId × Value → H} {P : Program} {w : World} {base : Nat} {sp : Nat → Bool} {held : Bool}
def TileOk (enc : TypeId × Value → H) (P : Program) (w : World) (base : Nat) (sp : Nat → Bool) (held : Bool) (k : Nat) : Prop := ∀ t n, tile P k t = some n → ∀ fuel cs d p, DataW.trod enc P w base sp held fuel t cs = some (d, p) → ∃ l, flatW d = some l ∧ cs = l.map vD ∧ l.length = n
theorem tile_fields {k : Nat} (ih : TileOk enc P w base sp held k) {n : Nat} {cs : List Value} : ∀ (fs : List Field) (o m : Nat) (xs : List (DataW H × List MemPlace)), tileF P (tile P k) fs o = some m → (fs.mapM fun f => DataW.trod enc P w base sp held n f.type ((cs.drop f.offset).take (P.cellsOf f.type))) = some xs → cs.length = m →
    ∃ l, flatWs (xs.map (·.1)) = some l ∧ cs.drop o = l.map vD ∧ o + l.length = m
  | [], o, m, xs, h, hx, hc => by
    cases h
    simp only [List.mapM_nil, Option.pure_def, Option.some.injEq] at hx
    subst hx
    exact ⟨[], rfl, by rw [List.drop_eq_nil_of_le (Nat.le_of_eq hc)]; rfl, rfl⟩
  | f :: r, o, m, xs, h, hx, hc => by
    unfold tileF at h
    split at h
    · rename_i z e
      split at h
      · rename_i hz
        obtain ⟨ho, hz⟩ := hz
        simp only [List.mapM_cons, Option.bind_eq_bind, Option.bind_eq_some_iff, Option.pure_def, Option.some.injEq] at hx
        obtain ⟨⟨d, p⟩, h1, ys, h2, rfl⟩ := hx
        obtain ⟨l, l1, l2, l3⟩ := ih _ _ e n _ d p h1
        obtain ⟨l', l4, l5, l6⟩ := tile_fields ih r (o + z) m ys h h2 hc
        rw [ho, hz] at l2
        refine ⟨l ++ l', ?_, ?_, by rw [List.length_append, l3]; omega⟩
        · rw [List.map_cons]
          unfold flatWs
          simp only [l1, l4]
        · rw [List.map_append, ← l2, ← l5, ← List.drop_drop, List.take_append_drop]
      · cases h
    · cases h
theorem tile_elems {k : Nat} (ih : TileOk enc P w base sp held k) {e : TypeId} {z n : Nat} (he : tile P k e = some z) {cs : List Value} : ∀ (m o : Nat) (xs : List (DataW H × List MemPlace)), ((List.range' o m).mapM fun i => DataW.trod enc P w base sp held n e ((cs.drop (i * z)).take z)) = some xs → cs.length = (o + m) * z →
    ∃ l, flatWs (xs.map (·.1)) = some l ∧ cs.drop (o * z) = l.map vD ∧ l.length = m * z
  | 0, o, xs, hx, hc => by
    simp only [List.range'_zero, List.mapM_nil, Option.pure_def, Option.some.injEq] at hx
    subst hx
    exact ⟨[], rfl, by rw [List.drop_eq_nil_of_le (by rw [hc]; exact Nat.le_refl _)]; rfl, (Nat.zero_mul z).symm⟩
  | m + 1, o, xs, hx, hc => by
    rw [List.range'_succ] at hx
    simp only [List.mapM_cons, Option.bind_eq_bind, Option.bind_eq_some_iff, Option.pure_def, Option.some.injEq] at hx
    obtain ⟨⟨d, p⟩, h1, ys, h2, rfl⟩ := hx
    obtain ⟨l, l1, l2, l3⟩ := ih _ _ he n _ d p h1
    obtain ⟨l', l4, l5, l6⟩ := tile_elems ih he m (o + 1) ys h2 (by rw [hc]; congr 1; omega)
    refine ⟨l ++ l', ?_, ?_, by rw [List.length_append, l3, l6, Nat.succ_mul]; omega⟩
    · rw [List.map_cons]
      unfold flatWs
      simp only [l1, l4]
    · rw [List.map_append, ← l2, ← l5, Nat.succ_mul, ← List.drop_drop, List.take_append_drop]
theorem tile_ok : ∀ k, TileOk enc P w base sp held k
  | 0 => fun t n h => by cases h
  | k + 1 => fun t n h fuel cs d p hd => by
    unfold tile at h
    split at h <;> rename_i hu
    · cases h
      obtain ⟨z, rfl, hx, _⟩ := DataW.trod_int hu hd
      cases hx
      exact ⟨_, rfl, rfl, rfl⟩
    · cases h
      obtain ⟨z, rfl, hx⟩ := DataW.trod_bool hu hd
      cases hx
      exact ⟨_, rfl, rfl, rfl⟩
    · cases h
      obtain ⟨z, rfl, hx, _⟩ := DataW.trod_string hu hd
      cases hx
      exact ⟨_, rfl, rfl, rfl⟩
    · rename_i fs
      split at h
      · rename_i m e
        split at h
        · rename_i hc
          cases h
          cases fuel with
          | zero => simp [DataW.trod] at hd
          | succ fuel =>
            change DataW.trodStep enc P w base sp held (DataW.trod enc P w base sp held fuel) t cs = _ at hd
            unfold DataW.trodStep at hd
            rw [hu] at hd
            simp only at hd
            split at hd
            · rename_i hl
              obtain ⟨xs, hx, hxs⟩ := Option.map_eq_some_iff.1 hd
              cases hxs
              obtain ⟨l, l1, l2, l3⟩ := tile_fields (tile_ok k) fs.toList 0 _ xs e hx (by rw [hl, hc])
              exact ⟨l, l1, by rw [List.drop_zero] at l2; exact l2, by omega⟩
            · cases hd
        · cases h
      · cases h
    · rename_i n' e
      split at h
      · rename_i z hz
        split at h
        · rename_i hc
          cases h
          cases fuel with
          | zero => simp [DataW.trod] at hd
          | succ fuel =>
            change DataW.trodStep enc P w base sp held (DataW.trod enc P w base sp held fuel) t cs = _ at hd
            unfold DataW.trodStep at hd
            rw [hu] at hd
            simp only at hd
            split at hd
            · rename_i hl
              obtain ⟨xs, hx, hxs⟩ := Option.map_eq_some_iff.1 hd
              cases hxs
              rw [hc.1, List.range_eq_range'] at hx
              obtain ⟨l, l1, l2, l3⟩ := tile_elems (tile_ok k) hz n' 0 xs hx (by rw [hl, hc.2, Nat.zero_add])
              exact ⟨l, l1, by rw [Nat.zero_mul, List.drop_zero] at l2; exact l2, l3⟩
            · cases hd
        · cases h
      · cases h
    · cases h
end
theorem vD_rd {ok : Nat → Prop} {w : World} {x : D} (h : x.flat = true) : Rd ok w x (match x with | .sl _ => .slice none 0 0 | x => vD x) := by
  cases x with
  | int k n => exact .int k n
  | bool b => exact .bool b
  | str s => exact .str s
  | sl l =>
    have : l = [] := by simpa [D.flat] using h
    subst this
    exact .nil _ _
theorem rdL_vD' {ok : Nat → Prop} {w : World} {l : List D} (h : (l.map D.ek).all EK.ok = true) : RdL ok w l (l.map vD) := ⟨by rw [List.length_map], fun j x v hx hv => by
  rw [List.getElem?_map, hx] at hv
  cases hv
  have hk := List.all_eq_true.1 h _ (List.mem_map.2 ⟨x, List.mem_of_getElem? hx, rfl⟩)
  cases x with
  | int k n => exact .int k n
  | bool b => exact .bool b
  | str s => exact .str s
  | sl l => cases hk⟩
/-- A listed variable lies so. -/
theorem lies_of_reads {P : Program} {w : World} {n : String} {d : DataW Unit} (h : Lib.VarReads P w n d) {g : Nat} {t : TypeId} {l : List D} {m : Nat} (hg : P.globalNamed n = some g) (ht : (P.globals[g]?).map (·.type) = some t) (htl : tile P 8 t = some m) (hl : flatW d = some l) (hne : l ≠ []) :
    g < w.heap.size ∧ ∀ (j : Nat) (u : Value), (l.map vD)[j]? = some u → w.cell? ⟨g, j, none⟩ = some u := by
  obtain ⟨g', t', cs, fuel, p, e1, e2, hvar, hd⟩ := h
  obtain rfl := Option.some.inj (hg.symm.trans e1)
  obtain rfl := Option.some.inj (ht.symm.trans e2)
  obtain ⟨l', l1, l2, _⟩ := tile_ok 8 _ _ htl _ _ _ _ hd
  obtain rfl := Option.some.inj (hl.symm.trans l1)
  have hcell : ∀ (j : Nat) (u : Value), (l.map vD)[j]? = some u → w.cell? ⟨g, j, none⟩ = some u := fun j u hj => by
    rw [World.var?_cell hg hvar j, ← Array.getElem?_toList, l2]
    exact hj
  refine ⟨?_, hcell⟩
  have h0 : ∃ u, (l.map vD)[0]? = some u := by
    cases l with
    | nil => exact absurd rfl hne
    | cons x r => exact ⟨vD x, rfl⟩
  obtain ⟨u, hu⟩ := h0
  have := hcell 0 u hu
  by_cases hb : g < w.heap.size
  · exact hb
  · unfold World.cell? at this
    rw [Array.getElem?_eq_none (show w.heap.size ≤ g by omega)] at this
    cases this
/-- The tables of unicode/utf8 and further ones. -/
def globX (ex : Nat → Option (List D)) : Nat → Option (List D) := fun k => match globU k with
  | some l => some l
  | none => ex k
def Lies (w : World) (ex : Nat → Option (List D)) : Prop := ∀ k l, ex k = some l → k < 5 ∧ k < w.heap.size ∧ (l.map D.ek).all EK.ok = true ∧ ∀ (j : Nat) (u : Value), (l.map vD)[j]? = some u → w.cell? ⟨k, j, none⟩ = some u
theorem glAt_X {W : World} {L : List Int} {ST : TypeId} {ex : Nat → Option (List D)} (h : Lib.Utf8Tabs 2 3 W) (hx : Lies W ex) : GlAt ⟨Tryd.prog, none, L, ST, 5, globX ex⟩ W := by
  intro k l hk
  have hU := glAt_of_tabs (L := L) (ST := ST) h
  change globX ex k = some l at hk
  unfold globX at hk
  split at hk
  · rename_i l' e
    cases hk
    exact hU k l e
  · obtain ⟨h1, h2, h3, h4⟩ := hx k l hk
    exact ⟨h1, h2, _, h4, rdL_vD' h3⟩
theorem utf8_of_globX {cx : Cx} {W0 : Cx} {ex : Nat → Option (List D)} (hW : W0.glob = globX ex) (h : ∀ w, GlAt cx w → GlAt W0 w) : Utf8 cx := by
  refine utf8_of_glob (W0 := { W0 with glob := globU }) rfl fun w hw k l hk => ?_
  refine h w hw k l ?_
  rw [hW]
  unfold globX
  rw [show globU k = some l from hk]
theorem tabs_of_list {W : World} {ls : List (String × DataW Unit)} (h : laidMet Tryd.prog ls W) (h1 : ("unicode/utf8.first", YtikgmhplgbdmjaaDoor.Rows.laid_unicode_utf8_first) ∈ ls) (h2 : ("unicode/utf8.acceptRanges", YtikgmhplgbdmjaaDoor.Rows.laid_unicode_utf8_acceptRanges) ∈ ls) : Lib.Utf8Tabs 2 3 W := by
  rw [first_eq] at h1
  rw [accept_eq] at h2
  exact utf8Tabs_of_reads Tryd.lays260 u8Extra (Lib.laidMet.reads h h1) (Lib.laidMet.reads h h2)
end Go.Avc

/- Distance, people, Changed: their contracts. No condition. -/
set_option linter.unusedVariables false
set_option linter.unusedSimpArgs false
set_option maxRecDepth 100000
namespace Go.Avc
open Go Go.Proofs

def distanceS : Spec where
  pre xs := ∃ s t : ByteArray, xs = [.str s, .str t]
  post xs r := ∃ s t : ByteArray, xs = [.str s, .str t] ∧ r = if s.size > 200 ∨ t.size > 200 then .tcons (.i 0) (.tcons (.i 2) .tnil) else .tcons (.i (distP (pts s) (pts t))) (.tcons (.i 0) .tnil)
  cost _ := 0
  fresh := true
theorem distance_ctr {cx : Cx} (h : Seat cx) (hU : Utf8 cx) : Ctr cx 21 distanceS := by
  refine ctr_of (fn := Tryd.f21) (l := [.tmp 4, .tmp 5]) (envL [(69, (ptsS .i32)), (68, distS)]) [0, 1, 4, 5, 13] [] [] (envL_cons (pts_ctr h hU) (envL_cons (dist_ctr h) (env0 h.hP))) ?_ (by rw [h.hP]; exact Tryd.func21) rfl (by kernel_rfl) rfl ?_ ?_
  · rw [h.hP]; exact ⟨_, Tryd.func21, by kernel_rfl, by kernel_rfl⟩
  · rintro xs ⟨s, t, rfl⟩; exact ⟨_, s, t, rfl, rfl⟩
  · rintro xs ⟨s, t, rfl⟩
    refine ⟨by rw [Tryd.ntmps21]; simp, ?_⟩
    simp only [go_sem, h.hP, distanceS, ptsS, distS, rowsK_inj, Tryd.ntmps21, Nat.reduceEqDiff, reduceCtorEq, Nat.reduceMul, Nat.reduceAdd, Nat.reduceSub, Nat.reduceDiv, Nat.reduceMod, Nat.reduceLeDiff, Nat.reduceLT, Nat.reduceBNe, Nat.reduceBEq, reduceIte, Int.reduceLE, Int.reduceLT, Int.reduceToNat, Int.reduceNeg, Int.reduceAdd, Int.reduceSub, Int.reduceMul, Int.reduceEq]
    have hp : (pts s).length ≤ s.size := ptsL_len s.size s
    have hq : (pts t).length ≤ t.size := ptsL_len t.size t
    (repeat' (first | with_reducible apply And.intro | with_reducible intro))
    all_goals first
      | omega
      | rw [if_pos (by omega)]
      | rw [if_neg (by omega)]
theorem kitten : distP (pts ⟨#[107, 105, 116, 116, 101, 110]⟩) (pts ⟨#[115, 105, 116, 116, 105, 110, 103]⟩) = 3 := by decide +kernel
theorem quote_space : quotedF ⟨#[32]⟩ = ⟨#[34, 92, 120, 50, 48, 34]⟩ := by decide +kernel
def peopleS : Spec where
  pre xs := xs = []
  post xs r := r = .b true
  cost _ := 0
  fresh := true
theorem people_ctr {cx : Cx} (h : Seat cx) (hU : Utf8 cx) : Ctr cx 18 peopleS := by
  refine ctr_of (fn := Tryd.f18) (l := [.tmp 0]) (envL [(21, distanceS), (12, quoteS)]) [0, 1, 2] [] [] (envL_cons (distance_ctr h hU) (envL_cons (quote_ctr h) (env0 h.hP))) ?_ (by rw [h.hP]; exact Tryd.func18) rfl (by kernel_rfl) rfl ?_ ?_
  · rw [h.hP]; exact ⟨_, Tryd.func18, by kernel_rfl, by kernel_rfl⟩
  · rintro xs rfl; exact ⟨_, rfl⟩
  · rintro xs rfl
    refine ⟨by rw [Tryd.ntmps18]; simp, ?_⟩
    simp only [go_sem, h.hP, peopleS, distanceS, quoteS, Tryd.ntmps18, Nat.reduceEqDiff, reduceCtorEq, Nat.reduceMul, Nat.reduceAdd, Nat.reduceSub, Nat.reduceDiv, Nat.reduceMod, Nat.reduceLeDiff, Nat.reduceLT, Nat.reduceBNe, Nat.reduceBEq, reduceIte, Int.reduceLE, Int.reduceLT, Int.reduceToNat, Int.reduceNeg, Int.reduceAdd, Int.reduceSub, Int.reduceMul, Int.reduceEq]
    exact ⟨fun _ => quote_space, fun e => e kitten⟩
theorem enc_le (n : Int) : (Utf8.encode n).size ≤ 4 := by
  unfold Utf8.encode
  simp only
  generalize (if Utf8.valid n = true then n.toNat else Utf8.runeError) = c
  split
  · exact (by decide : (1 : Nat) ≤ 4)
  · split
    · exact (by decide : (2 : Nat) ≤ 4)
    · split
      · exact (by decide : (3 : Nat) ≤ 4)
      · exact (by decide : (4 : Nat) ≤ 4)
def changedS : Spec where
  pre xs := ∃ t u : ByteArray, xs = [.st, .str t, .str u] ∧ t.size ≤ 1073741824 ∧ u.size ≤ 1073741824
  post xs r := ∃ t u v : ByteArray, xs = [.st, .str t, .str u] ∧ v.size ≤ t.size + u.size + 4 ∧ r = .str v
  cost _ := 3
  fresh := true
theorem changed_ctr {cx : Cx} (h : Seat cx) : Ctr cx 15 changedS := by
  refine ctr_of (fn := Tryd.f15) (l := [.tmp 6]) (envL [(25, nextS)]) [0, 1, 2, 6, 7, 8, 14, 27, 28, 42] [] [] (envL_cons (next_ctr cx h.hP h.hS) (env0 h.hP)) ?_ (by rw [h.hP]; exact Tryd.func15) rfl (by kernel_rfl) rfl ?_ ?_
  · rw [h.hP]; exact ⟨_, Tryd.func15, by kernel_rfl, by kernel_rfl⟩
  · rintro xs ⟨t, u, rfl, h1, h2⟩; exact ⟨_, t, u, ⟨#[]⟩, rfl, Nat.zero_le _, rfl⟩
  · rintro xs ⟨t, u, rfl, h1, h2⟩
    refine ⟨by rw [Tryd.ntmps15]; simp, ?_⟩
    simp only [go_sem, h.hP, changedS, nextS, str_nil, Tryd.ntmps15, Nat.reduceEqDiff, reduceCtorEq, Nat.reduceMul, Nat.reduceAdd, Nat.reduceSub, Nat.reduceDiv, Nat.reduceMod, Nat.reduceLeDiff, Nat.reduceLT, Nat.reduceBNe, Nat.reduceBEq, reduceIte, Int.reduceLE, Int.reduceLT, Int.reduceToNat, Int.reduceNeg, Int.reduceAdd, Int.reduceSub, Int.reduceMul, Int.reduceEq]
    refine ⟨fun c1 => ⟨fun c2 => by omega, fun c2 => ⟨by omega, fun a h3 h4 => ⟨by omega, fun b h5 h6 => ⟨by omega, by omega, fun q h7 h8 => ?_⟩⟩⟩⟩, fun c1 => by omega⟩
    obtain ⟨ha0, ha1⟩ := h3 (by omega)
    have he := enc_le (IntKind.i32.wrap (bt u b))
    rw [i64w (n := a + 1) (by omega) (by omega)]
    simp only [ByteArray.size_extract]
    clear h3 h4 h5 h6
    (repeat' (first | with_reducible apply And.intro | with_reducible intro)) <;> omega
end Go.Avc

/- Values and fields: what is wrong with them, by the program and by the reference. No condition. -/
set_option linter.unusedVariables false
set_option linter.unusedSimpArgs false
set_option maxRecDepth 100000
namespace Go.Avc
open Go Go.Proofs

def validB (s : ByteArray) : Bool := Lib.validD s.data.toList
def validSp  : Spec where
  pre xs := ∃ (s : ByteArray), xs = [.str s] ∧ (s.size ≤ 4611686018427387904)
  post xs y := ∃ (s : ByteArray), xs = [.str s] ∧ y = .b (validB s)
  cost _ := 0
  fresh := true
theorem validSp_c  (xs : List AV) : (validSp).cost xs = 0 := nr rfl
theorem validSp_f  : (validSp).fresh = true := nr rfl
theorem validSp_q  (s : ByteArray) : (validSp).pre [.str s] = (s.size ≤ 4611686018427387904) := propext ⟨fun h => by
  have h' : ∃ (s' : ByteArray), ([.str s] : List AV) = [.str s'] ∧ (s'.size ≤ 4611686018427387904) := h
  obtain ⟨s', e, h⟩ := h'
  simp only [List.cons.injEq, AV.dv.injEq, AV.fv.injEq, DV.d.injEq, DV.ag.injEq, D.int.injEq, D.str.injEq, D.bool.injEq, D.sl.injEq, true_and, and_true, intsDi_inj, rowsT_inj, rowsKi_inj] at e
  obtain rfl := e
  exact h, fun h => ⟨s, rfl, h⟩⟩
theorem validSp_p  (s : ByteArray) : (validSp).post [.str s] = fun y => y = .b (validB s) := funext fun y => propext ⟨fun h => by
  have h' : ∃ (s' : ByteArray), ([.str s] : List AV) = [.str s'] ∧ y = .b (validB s') := h
  obtain ⟨s', e, h⟩ := h'
  simp only [List.cons.injEq, AV.dv.injEq, AV.fv.injEq, DV.d.injEq, DV.ag.injEq, D.int.injEq, D.str.injEq, D.bool.injEq, D.sl.injEq, true_and, and_true, intsDi_inj, rowsT_inj, rowsKi_inj] at e
  obtain rfl := e
  exact h, fun h => ⟨s, rfl, h⟩⟩
theorem valid_ctr {cx : Cx} (h : Seat cx) (hU : Utf8 cx) : Ctr cx 136 validSp := by
  refine ctr_flat (by rw [h.hP]; exact ⟨_, Tryd.func136, by kernel_rfl, by kernel_rfl⟩) (fun _ => rfl) ?_
  rintro xs ⟨s, rfl, h1⟩
  refine ⟨_, _, _, rfl, ⟨s, rfl, rfl⟩, rfl, fun w hw => ?_⟩
  rw [h.hP]
  exact Tryd.utf8_ValidString s w (by omega) (hU w hw)
/-- the text of a value -/
def textF (s : ByteArray) : Int := if 200 < (s.size : Int) then 2 else if (pts s).any badPt = true then 3 else 0
def txtC (c : Int) : Bool := decide (32 ≤ c) && decide (c ≠ 127)
def txtΦ : List (List D) → FSpec := csp F0 u8D fun _ c => txtC c
theorem txtΦ_h (c : Int) : (txtΦ []).holds (.d (.int .u8 c)) = txtC c := csp_holds F0_inj u8D_inj () c
theorem txtΦ_d (c : Int) : (txtΦ []).det (.d (.int .u8 c)) := csp_det F0_inj u8D_inj () c
theorem txt_all (s : ByteArray) : ((bl s).all fun c => txtC c) = s.data.toList.all byteOk := by
  rw [bl_all]
  refine congrArg (fun p => s.data.toList.all p) (funext fun c => ?_)
  unfold txtC byteOk
  rw [Bool.eq_iff_iff]
  simp only [Bool.and_eq_true, decide_eq_true_eq]
  omega
theorem checkText1_ctr {cx : Cx} (h : Seat cx) : Ctr cx 137 (cloS F0 u8D fun _ c => txtC c) := by
  refine ctr_of (fn := Tryd.f137) (l := [.tmp 2]) (envL []) [0, 2] [] [] (env0 h.hP) ?_ (by rw [h.hP]; exact Tryd.func137) rfl (by kernel_rfl) rfl ?_ ?_
  · rw [h.hP]; exact ⟨_, Tryd.func137, by kernel_rfl, by kernel_rfl⟩
  · rintro xs ⟨c, a, rfl⟩; exact ⟨_, c, a, rfl, rfl⟩
  · rintro xs ⟨c, a, rfl⟩
    refine ⟨by rw [Tryd.ntmps137]; simp [F0], ?_⟩
    simp only [go_sem, h.hP, List.cons_append, List.nil_append, Meets_e, Below_e, Prod.exists, exists_eq, exists_eq_left, exists_eq_left', exists_eq_right, exists_eq_right', exists_and_left, exists_and_right, Ob.arr.injEq, AV.own.injEq, AV.fv.injEq, F0, u8D, cloS, Tryd.ntmps137, Nat.reduceEqDiff, reduceCtorEq, Nat.reduceMul, Nat.reduceAdd, Nat.reduceSub, Nat.reduceDiv, Nat.reduceMod, Nat.reduceLeDiff, Nat.reduceLT, Nat.reduceBNe, Nat.reduceBEq, reduceIte, Int.reduceLE, Int.reduceLT, Int.reduceToNat, Int.reduceNeg, Int.reduceAdd, Int.reduceSub, Int.reduceMul, Int.reduceEq]
    grind [txtC]
def textS  : Spec where
  pre xs := ∃ (s : ByteArray), xs = [.str s] ∧ (s.size ≤ 4611686018427387904)
  post xs y := ∃ (s : ByteArray), xs = [.str s] ∧ y = .i (textF s)
  cost _ := 0
  fresh := true
theorem textS_c  (xs : List AV) : (textS).cost xs = 0 := nr rfl
theorem textS_f  : (textS).fresh = true := nr rfl
theorem textS_q  (s : ByteArray) : (textS).pre [.str s] = (s.size ≤ 4611686018427387904) := propext ⟨fun h => by
  have h' : ∃ (s' : ByteArray), ([.str s] : List AV) = [.str s'] ∧ (s'.size ≤ 4611686018427387904) := h
  obtain ⟨s', e, h⟩ := h'
  simp only [List.cons.injEq, AV.dv.injEq, AV.fv.injEq, DV.d.injEq, DV.ag.injEq, D.int.injEq, D.str.injEq, D.bool.injEq, D.sl.injEq, true_and, and_true, intsDi_inj, rowsT_inj, rowsKi_inj] at e
  obtain rfl := e
  exact h, fun h => ⟨s, rfl, h⟩⟩
theorem textS_p  (s : ByteArray) : (textS).post [.str s] = fun y => y = .i (textF s) := funext fun y => propext ⟨fun h => by
  have h' : ∃ (s' : ByteArray), ([.str s] : List AV) = [.str s'] ∧ y = .i (textF s') := h
  obtain ⟨s', e, h⟩ := h'
  simp only [List.cons.injEq, AV.dv.injEq, AV.fv.injEq, DV.d.injEq, DV.ag.injEq, D.int.injEq, D.str.injEq, D.bool.injEq, D.sl.injEq, true_and, and_true, intsDi_inj, rowsT_inj, rowsKi_inj] at e
  obtain rfl := e
  exact h, fun h => ⟨s, rfl, h⟩⟩
theorem checkText_ctr {cx : Cx} (h : Seat cx) (hU : Utf8 cx) : Ctr cx 89 textS := by
  refine ctr_of (fn := Tryd.f89) (l := [.tmp 2]) (envF [(136, validSp), (109, allS)] [(137, txtΦ)]) [0, 2, 5, 13] [] [] (envF_cons (clo_of (checkText1_ctr h)) (envF_nil (envL_cons (valid_ctr h hU) (envL_cons (all_ctr h) (env0 h.hP))))) ?_ (by rw [h.hP]; exact Tryd.func89) rfl (by kernel_rfl) rfl ?_ ?_
  · rw [h.hP]; exact ⟨_, Tryd.func89, by kernel_rfl, by kernel_rfl⟩
  · rintro xs ⟨s, rfl, h1⟩; exact ⟨_, s, rfl, rfl⟩
  · rintro xs ⟨s, rfl, h1⟩
    refine ⟨by rw [Tryd.ntmps89]; simp, ?_⟩
    simp only [go_sem, h.hP, List.cons_append, List.nil_append, Meets_e, Below_e, Prod.exists, exists_eq, exists_eq_left, exists_eq_left', exists_eq_right, exists_eq_right', exists_and_left, exists_and_right, Ob.arr.injEq, AV.own.injEq, AV.fv.injEq, textS_q, textS_p, textS_c, textS_f, validSp_q, validSp_p, validSp_c, validSp_f, allS, txtΦ_h, txtΦ_d, txt_all, Tryd.ntmps89, Nat.reduceEqDiff, reduceCtorEq, Nat.reduceMul, Nat.reduceAdd, Nat.reduceSub, Nat.reduceDiv, Nat.reduceMod, Nat.reduceLeDiff, Nat.reduceLT, Nat.reduceBNe, Nat.reduceBEq, reduceIte, Int.reduceLE, Int.reduceLT, Int.reduceToNat, Int.reduceNeg, Int.reduceAdd, Int.reduceSub, Int.reduceMul, Int.reduceEq]
    have ht := text_pts s
    unfold textF validB
    generalize Lib.validD s.data.toList = v at ht ⊢
    generalize s.data.toList.all byteOk = q at ht ⊢
    generalize (pts s).any badPt = z at ht ⊢
    refine ⟨fun c => (if_pos c).symm, fun c => ⟨h1, fun c1 => ⟨h1, fun c2 => ?_, fun c2 => ?_⟩, fun c1 => ?_⟩⟩
    all_goals rw [if_neg c]
    · subst c1 c2
      cases z with
      | true => rfl
      | false => cases ht
    · subst c1 c2
      cases z with
      | true => cases ht
      | false => rfl
    · subst c1
      cases z with
      | true => rfl
      | false => cases ht
/-- a value -/
def lowV (k : Int) : Int := if k = 2 then -1000000000000 else 0
def highV (k : Int) : Int := if k = 2 then 1000000000000 else if k = 3 then 1 else 4321439
def valF (v : TValue) : Int := if inB v.kind 1 4 = false then 4 else if v.kind = 1 then (if v.number ≠ 0 then 3 else textF v.text) else if v.text.size ≠ 0 then 3 else if inB v.number (lowV v.kind) (highV v.kind) = false then 1 else 0
def valS  : Spec where
  pre xs := ∃ (v : TValue), xs = [.dv (.ag v.row)] ∧ (v.ok)
  post xs y := ∃ (v : TValue), xs = [.dv (.ag v.row)] ∧ y = .i (valF v)
  cost _ := 0
  fresh := true
theorem valS_c  (xs : List AV) : (valS).cost xs = 0 := nr rfl
theorem valS_f  : (valS).fresh = true := nr rfl
theorem valS_q  (v : TValue) : (valS).pre [.dv (.ag [.int .i64 v.kind, .str v.text, .int .i64 v.number])] = (v.ok) := propext ⟨fun h => by
  have h' : ∃ (v' : TValue), ([.dv (.ag v.row)] : List AV) = [.dv (.ag v'.row)] ∧ (v'.ok) := h
  obtain ⟨v', e, h⟩ := h'
  simp only [List.cons.injEq, AV.dv.injEq, AV.fv.injEq, DV.d.injEq, DV.ag.injEq, D.int.injEq, D.str.injEq, D.bool.injEq, D.sl.injEq, true_and, and_true, intsDi_inj, rowsT_inj, rowsKi_inj, TValue.row_inj, TValue.rows_inj] at e
  obtain rfl := e
  exact h, fun h => ⟨v, rfl, h⟩⟩
theorem valS_p  (v : TValue) : (valS).post [.dv (.ag [.int .i64 v.kind, .str v.text, .int .i64 v.number])] = fun y => y = .i (valF v) := funext fun y => propext ⟨fun h => by
  have h' : ∃ (v' : TValue), ([.dv (.ag v.row)] : List AV) = [.dv (.ag v'.row)] ∧ y = .i (valF v') := h
  obtain ⟨v', e, h⟩ := h'
  simp only [List.cons.injEq, AV.dv.injEq, AV.fv.injEq, DV.d.injEq, DV.ag.injEq, D.int.injEq, D.str.injEq, D.bool.injEq, D.sl.injEq, true_and, and_true, intsDi_inj, rowsT_inj, rowsKi_inj, TValue.row_inj, TValue.rows_inj] at e
  obtain rfl := e
  exact h, fun h => ⟨v, rfl, h⟩⟩
theorem CheckValue_ctr {cx : Cx} (h : Seat cx) (hU : Utf8 cx) : Ctr cx 41 valS := by
  refine ctr_of (fn := Tryd.f41) (l := [.tmp 2]) (envL [(89, textS), (90, inS)]) [0, 1, 2, 3, 4, 6, 7, 11, 15, 17, 19, 23, 29] [] [] (envL_cons (checkText_ctr h hU) (envL_cons (pwithin_ctr h) (env0 h.hP))) ?_ (by rw [h.hP]; exact Tryd.func41) rfl (by kernel_rfl) rfl ?_ ?_
  · rw [h.hP]; exact ⟨_, Tryd.func41, by kernel_rfl, by kernel_rfl⟩
  · rintro xs ⟨v, rfl, h1⟩; exact ⟨_, v, rfl, rfl⟩
  · rintro xs ⟨v, rfl, h1⟩
    obtain ⟨o1, o2, o3⟩ := h1
    refine ⟨by rw [Tryd.ntmps41]; simp, ?_⟩
    simp only [go_sem, h.hP, List.cons_append, List.nil_append, Meets_e, Below_e, Prod.exists, exists_eq, exists_eq_left, exists_eq_left', exists_eq_right, exists_eq_right', exists_and_left, exists_and_right, Ob.arr.injEq, AV.own.injEq, AV.fv.injEq, valS_q, valS_p, valS_c, valS_f, textS_q, textS_p, textS_c, textS_f, inS_q, inS_p, inS_c, inS_f, TValue.row, str_nil, Tryd.ntmps41, Nat.reduceEqDiff, reduceCtorEq, Nat.reduceMul, Nat.reduceAdd, Nat.reduceSub, Nat.reduceDiv, Nat.reduceMod, Nat.reduceLeDiff, Nat.reduceLT, Nat.reduceBNe, Nat.reduceBEq, reduceIte, Int.reduceLE, Int.reduceLT, Int.reduceToNat, Int.reduceNeg, Int.reduceAdd, Int.reduceSub, Int.reduceMul, Int.reduceEq]
    have hk : (v.kind = 1 ∨ v.kind = 2 ∨ v.kind = 3 ∨ v.kind = 4) → ¬ inB v.kind 1 4 = false := fun c => ne_ft (inB_iff.2 (by omega))
    have n0 : ∀ {k : Int}, v.kind = k → (k = 2 ∨ k = 3 ∨ k = 4) → ¬ v.kind = 1 := fun a b => by omega
    refine ⟨fun c => ?_, fun c => ⟨fun c1 => ?_, fun c1 => ⟨fun c2 => ?_, fun c2 => ⟨fun c3 => ?_, fun c3 => ?_⟩⟩⟩⟩
    · refine ⟨fun d => ?_, fun d => ⟨by unfold okS at o2; omega, ?_⟩⟩
      · exact ((if_neg (hk (.inl c))).trans ((if_pos c).trans (if_pos d))).symm
      · exact ((if_neg (hk (.inl c))).trans ((if_pos c).trans (if_neg (fun e => e d)))).symm
    · have e0 : valF v = if v.text.size ≠ 0 then 3 else if inB v.number (lowV v.kind) (highV v.kind) = false then 1 else 0 := (if_neg (hk (by omega))).trans (if_neg c)
      rw [e0, c1]
      exact ⟨fun d => (if_pos d).symm, fun d => ⟨fun e => ((if_neg (fun x => x d)).trans (if_pos e)).symm, fun e => ((if_neg (fun x => x d)).trans (if_neg (ne_ft e))).symm⟩⟩
    · have e0 : valF v = if v.text.size ≠ 0 then 3 else if inB v.number (lowV v.kind) (highV v.kind) = false then 1 else 0 := (if_neg (hk (by omega))).trans (if_neg c)
      rw [e0, c2]
      exact ⟨fun d => (if_pos d).symm, fun d => ⟨fun e => ((if_neg (fun x => x d)).trans (if_pos e)).symm, fun e => ((if_neg (fun x => x d)).trans (if_neg (ne_ft e))).symm⟩⟩
    · have e0 : valF v = if v.text.size ≠ 0 then 3 else if inB v.number (lowV v.kind) (highV v.kind) = false then 1 else 0 := (if_neg (hk (by omega))).trans (if_neg c)
      rw [e0, c3]
      exact ⟨fun d => (if_pos d).symm, fun d => ⟨fun e => ((if_neg (fun x => x d)).trans (if_pos e)).symm, fun e => ((if_neg (fun x => x d)).trans (if_neg (ne_ft e))).symm⟩⟩
    · have : inB v.kind 1 4 = false := by
        cases e : inB v.kind 1 4 with
        | true => have := inB_iff.1 e; omega
        | false => rfl
      exact (if_pos this).symm
theorem dlit5 (a b c d e z : Int) (n : Nat) : ([D.int .i64 a, D.int .i64 b, D.int .i64 c, D.int .i64 d, D.int .i64 e] : List D).getD n (D.int .i64 z) = D.int .i64 (([a, b, c, d, e] : List Int).getD n z) := by
  match n with
  | 0 => rfl
  | 1 => rfl
  | 2 => rfl
  | 3 => rfl
  | 4 => rfl
  | n + 5 => rfl
theorem low_lit {k : Int} (h : 0 ≤ k) : ([0, 0, -1000000000000, 0, 0] : List Int).getD k.toNat 0 = lowV k := by
  unfold lowV
  obtain ⟨n, rfl⟩ : ∃ n : Nat, k = n := ⟨k.toNat, by omega⟩
  rw [Int.toNat_natCast]
  match n with
  | 0 => rfl
  | 1 => rfl
  | 2 => rfl
  | 3 => rfl
  | 4 => rfl
  | n + 5 => rw [if_neg (by omega)]; rfl
theorem high_lit {k : Int} (h : 2 ≤ k) (h4 : k ≤ 4) : ([0, 0, 1000000000000, 1, 4321439] : List Int).getD k.toNat 0 = highV k := by
  unfold highV
  obtain ⟨n, rfl⟩ : ∃ n : Nat, k = n := ⟨k.toNat, by omega⟩
  rw [Int.toNat_natCast]
  match n with
  | 0 => omega
  | 1 => omega
  | 2 => rfl
  | 3 => rfl
  | 4 => rfl
  | n + 5 => omega
def badF (l : List Int) (i : Nat) : Int := if badPt (l.getD i 0) = true then 3 else 0
theorem bad_any (l : List Int) : firstI l.length (badF l) = if l.any badPt = true then 3 else 0 := any_first l 0 badPt (by decide)
set_option maxHeartbeats 4000000 in
theorem ValueFault_ctr {cx : Cx} (h : Seat cx) (hU : Utf8 cx) : Ctr cx 42 valS := by
  refine ctr_of (fn := Tryd.f42) (l := [.tmp 2]) (envL [(70, (ptsS .i64)), (80, inS)]) [0, 1, 2, 4, 5, 6, 10, 13, 14, 18, 25, 26, 27, 28, 36, 40, 54] [] [] (envL_cons (rpts_ctr h hU) (envL_cons (in_ctr h) (env0 h.hP))) ?_ (by rw [h.hP]; exact Tryd.func42) rfl (by kernel_rfl) rfl ?_ ?_
  · rw [h.hP]; exact ⟨_, Tryd.func42, by kernel_rfl, by kernel_rfl⟩
  · rintro xs ⟨v, rfl, h1⟩; exact ⟨_, v, rfl, rfl⟩
  · rintro xs ⟨v, rfl, h1⟩
    obtain ⟨o1, o2, o3⟩ := h1
    refine ⟨by rw [Tryd.ntmps42]; simp, ?_⟩
    simp only [go_sem, h.hP, List.cons_append, List.nil_append, Meets_e, Below_e, Prod.exists, exists_eq, exists_eq_left, exists_eq_left', exists_eq_right, exists_eq_right', exists_and_left, exists_and_right, Ob.arr.injEq, AV.own.injEq, AV.fv.injEq, valS_q, valS_p, valS_c, valS_f, inS_q, inS_p, inS_c, inS_f, ptsS, TValue.row, str_nil, dlit5, Tryd.ntmps42, Nat.reduceEqDiff, reduceCtorEq, Nat.reduceMul, Nat.reduceAdd, Nat.reduceSub, Nat.reduceDiv, Nat.reduceMod, Nat.reduceLeDiff, Nat.reduceLT, Nat.reduceBNe, Nat.reduceBEq, reduceIte, Int.reduceLE, Int.reduceLT, Int.reduceToNat, Int.reduceNeg, Int.reduceAdd, Int.reduceSub, Int.reduceMul, Int.reduceEq]
    unfold okS at o2
    refine ⟨fun c => (if_pos c).symm, fun c => ?_⟩
    have hk := inB_iff.1 c
    have e1 : v.kind = 1 → valF v = if v.number ≠ 0 then 3 else textF v.text := fun d => (if_neg (ne_ft c)).trans (if_pos d)
    have e2 : ¬ v.kind = 1 → valF v = if v.text.size ≠ 0 then 3 else if inB v.number (lowV v.kind) (highV v.kind) = false then 1 else 0 := fun d => (if_neg (ne_ft c)).trans (if_neg d)
    refine ⟨fun d => ⟨fun f => ?_, fun f => ⟨fun g => ?_, fun g => ⟨by omega, ?_⟩⟩⟩, fun d => ⟨fun f => ?_, fun f => ?_⟩⟩
    · rw [e1 d, if_pos f]
    · rw [e1 d, if_neg (fun x => x f)]
      exact (if_pos g).symm
    · have e3 : valF v = if (pts v.text).any badPt = true then 3 else 0 := by
        rw [e1 d, if_neg (fun x => x f)]
        exact if_neg g
      rw [e3, ← bad_any]
      have hp : (pts v.text).length ≤ v.text.size := ptsL_len v.text.size v.text
      generalize pts v.text = l at *
      refine vc_loopS (Int) (fun (i : Int) => [(25, .sl (rowsK .i64 l)), (27, .i i)]) [1] (fun (i : Int) => []) (fun (i : Int) => []) (fun (i : Int) => 0) (fun (i : Int) => Rounds l.length (badF l) i) (fun (i : Int) => (l.length - i).toNat) [] ?_ ?_
      · simp only [go_sem, h.hP, List.cons_append, List.nil_append, Meets_e, Below_e, Prod.exists, exists_eq, exists_eq_left, exists_eq_left', exists_eq_right, exists_eq_right', exists_and_left, exists_and_right, Ob.arr.injEq, AV.own.injEq, AV.fv.injEq, Tryd.ntmps42, Nat.reduceEqDiff, reduceCtorEq, Nat.reduceMul, Nat.reduceAdd, Nat.reduceSub, Nat.reduceDiv, Nat.reduceMod, Nat.reduceLeDiff, Nat.reduceLT, Nat.reduceBNe, Nat.reduceBEq, reduceIte, Int.reduceLE, Int.reduceLT, Int.reduceToNat, Int.reduceNeg, Int.reduceAdd, Int.reduceSub, Int.reduceMul, Int.reduceEq]
        exact Rounds.start
      · rintro i hr
        obtain ⟨hi, hS, hM, hE, hN⟩ := hr.use (by omega)
        simp only [go_sem, h.hP, List.cons_append, List.nil_append, Meets_e, Below_e, Prod.exists, exists_eq, exists_eq_left, exists_eq_left', exists_eq_right, exists_eq_right', exists_and_left, exists_and_right, Ob.arr.injEq, AV.own.injEq, AV.fv.injEq, valS_q, valS_p, valS_c, valS_f, rowsK_len, rowsK_get, Tryd.ntmps42, Nat.reduceEqDiff, reduceCtorEq, Nat.reduceMul, Nat.reduceAdd, Nat.reduceSub, Nat.reduceDiv, Nat.reduceMod, Nat.reduceLeDiff, Nat.reduceLT, Nat.reduceBNe, Nat.reduceBEq, reduceIte, Int.reduceLE, Int.reduceLT, Int.reduceToNat, Int.reduceNeg, Int.reduceAdd, Int.reduceSub, Int.reduceMul, Int.reduceEq]
        have b1 : badPt (l.getD i.toNat 0) = true → badF l i.toNat = 3 := fun a => if_pos a
        have b0 : badPt (l.getD i.toNat 0) = false → badF l i.toNat = 0 := fun a => if_neg (ne_tf a)
        have bd : badPt (l.getD i.toNat 0) = (decide (l.getD i.toNat 0 < 32) || (l.getD i.toNat 0 == 127)) := rfl
        generalize l.getD i.toNat 0 = x at *
        refine ⟨fun a => ⟨hi, a, fun b => ⟨fun c => ?_, fun c => ?_⟩, fun b => ?_⟩, fun a => (hN a).symm⟩
        · exact (hE 3 a (b1 (by rw [bd]; simp [c])) (by decide)).symm
        · exact ⟨hS a (b0 (by rw [bd]; simp [b, c])), hM a⟩
        · exact (hE 3 a (b1 (by rw [bd]; simp [b])) (by decide)).symm
    · rw [e2 d, if_pos f]
    · rw [e2 d, if_neg (fun x => x f), low_lit (by omega), high_lit (by omega) (by omega)]
      exact ⟨by omega, by omega, by omega, by omega, by omega, by omega, fun x => (if_pos x).symm, fun x => (if_neg (ne_ft x)).symm⟩
theorem le_nil {s : ByteArray} (h : keyB s = true) : ¬ (Op.bytesLess s.toList (⟨#[]⟩ : ByteArray).toList = true ∨ s = ⟨#[]⟩) := by
  rintro (c | rfl)
  · rw [toList_eq_data (⟨#[]⟩ : ByteArray)] at c
    change Op.bytesLess s.toList [] = true at c
    unfold Op.bytesLess at c
    exact absurd c (by simp)
  · revert h
    decide
/-- fields -/
def fieldF (l : List TField) (i : Nat) : Int := if keyB (l.getD i TField.z).name = false then 5 else if valF (l.getD i TField.z).value ≠ 0 then valF (l.getD i TField.z).value else
  if 0 < (i : Int) ∧ (Op.bytesLess (l.getD i TField.z).name.toList (l.getD (i - 1) TField.z).name.toList = true ∨ (l.getD i TField.z).name = (l.getD (i - 1) TField.z).name) then 7 else 0
def fieldsF (l : List TField) : Int := if 30 < (l.length : Int) then 2 else firstI l.length (fieldF l)
def fieldsS  : Spec where
  pre xs := ∃ (l : List TField), xs = [.sl (TField.rows l)] ∧ (okL TField.ok l)
  post xs y := ∃ (l : List TField), xs = [.sl (TField.rows l)] ∧ y = .i (fieldsF l)
  cost _ := 0
  fresh := true
theorem fieldsS_c  (xs : List AV) : (fieldsS).cost xs = 0 := nr rfl
theorem fieldsS_f  : (fieldsS).fresh = true := nr rfl
theorem fieldsS_q  (l : List TField) : (fieldsS).pre [.sl (TField.rows l)] = (okL TField.ok l) := propext ⟨fun h => by
  have h' : ∃ (l' : List TField), ([.sl (TField.rows l)] : List AV) = [.sl (TField.rows l')] ∧ (okL TField.ok l') := h
  obtain ⟨l', e, h⟩ := h'
  simp only [List.cons.injEq, AV.dv.injEq, AV.fv.injEq, DV.d.injEq, DV.ag.injEq, D.int.injEq, D.str.injEq, D.bool.injEq, D.sl.injEq, true_and, and_true, intsDi_inj, rowsT_inj, rowsKi_inj, TField.row_inj, TField.rows_inj] at e
  obtain rfl := e
  exact h, fun h => ⟨l, rfl, h⟩⟩
theorem fieldsS_p  (l : List TField) : (fieldsS).post [.sl (TField.rows l)] = fun y => y = .i (fieldsF l) := funext fun y => propext ⟨fun h => by
  have h' : ∃ (l' : List TField), ([.sl (TField.rows l)] : List AV) = [.sl (TField.rows l')] ∧ y = .i (fieldsF l') := h
  obtain ⟨l', e, h⟩ := h'
  simp only [List.cons.injEq, AV.dv.injEq, AV.fv.injEq, DV.d.injEq, DV.ag.injEq, D.int.injEq, D.str.injEq, D.bool.injEq, D.sl.injEq, true_and, and_true, intsDi_inj, rowsT_inj, rowsKi_inj, TField.row_inj, TField.rows_inj] at e
  obtain rfl := e
  exact h, fun h => ⟨l, rfl, h⟩⟩
theorem CheckFields_ctr {cx : Cx} (h : Seat cx) (hU : Utf8 cx) : Ctr cx 43 fieldsS := by
  refine ctr_of (fn := Tryd.f43) (l := [.tmp 2]) (envL [(91, (strB keyB)), (41, valS)]) [0, 2, 3, 4, 5, 8, 9, 10, 11, 12, 19, 24, 38] [] [] (envL_cons (IsKey_ctr h) (envL_cons (CheckValue_ctr h hU) (env0 h.hP))) ?_ (by rw [h.hP]; exact Tryd.func43) rfl (by kernel_rfl) rfl ?_ ?_
  · rw [h.hP]; exact ⟨_, Tryd.func43, by kernel_rfl, by kernel_rfl⟩
  · rintro xs ⟨l, rfl, h1⟩; exact ⟨_, l, rfl, rfl⟩
  · rintro xs ⟨l, rfl, h1⟩
    refine ⟨by rw [Tryd.ntmps43]; simp, ?_⟩
    simp only [go_sem, h.hP, List.cons_append, List.nil_append, Meets_e, Below_e, Prod.exists, exists_eq, exists_eq_left, exists_eq_left', exists_eq_right, exists_eq_right', exists_and_left, exists_and_right, Ob.arr.injEq, AV.own.injEq, AV.fv.injEq, fieldsS_q, fieldsS_p, fieldsS_c, fieldsS_f, TField.len, Tryd.ntmps43, Nat.reduceEqDiff, reduceCtorEq, Nat.reduceMul, Nat.reduceAdd, Nat.reduceSub, Nat.reduceDiv, Nat.reduceMod, Nat.reduceLeDiff, Nat.reduceLT, Nat.reduceBNe, Nat.reduceBEq, reduceIte, Int.reduceLE, Int.reduceLT, Int.reduceToNat, Int.reduceNeg, Int.reduceAdd, Int.reduceSub, Int.reduceMul, Int.reduceEq]
    refine ⟨fun c => (if_pos c).symm, fun c => ?_⟩
    have hc : fieldsF l = firstI l.length (fieldF l) := if_neg c
    rw [hc]
    refine vc_loopS (Int) (fun (i : Int) => [(11, .i i)]) [] (fun (i : Int) => []) (fun (i : Int) => []) (fun (i : Int) => 0) (fun (i : Int) => Rounds l.length (fieldF l) i) (fun (i : Int) => (l.length - i).toNat) [] ?_ ?_
    · simp only [go_sem, h.hP, List.cons_append, List.nil_append, Meets_e, Below_e, Prod.exists, exists_eq, exists_eq_left, exists_eq_left', exists_eq_right, exists_eq_right', exists_and_left, exists_and_right, Ob.arr.injEq, AV.own.injEq, AV.fv.injEq, Tryd.ntmps43, Nat.reduceEqDiff, reduceCtorEq, Nat.reduceMul, Nat.reduceAdd, Nat.reduceSub, Nat.reduceDiv, Nat.reduceMod, Nat.reduceLeDiff, Nat.reduceLT, Nat.reduceBNe, Nat.reduceBEq, reduceIte, Int.reduceLE, Int.reduceLT, Int.reduceToNat, Int.reduceNeg, Int.reduceAdd, Int.reduceSub, Int.reduceMul, Int.reduceEq]
      exact Rounds.start
    · rintro i hr
      obtain ⟨hi, hS, hM, hE, hN⟩ := hr.use (by have := h1.1; omega)
      have ho : (l.getD i.toNat TField.z).ok := okL_get h1 TField.z_ok _
      simp only [go_sem, h.hP, List.cons_append, List.nil_append, Meets_e, Below_e, Prod.exists, exists_eq, exists_eq_left, exists_eq_left', exists_eq_right, exists_eq_right', exists_and_left, exists_and_right, Ob.arr.injEq, AV.own.injEq, AV.fv.injEq, fieldsS_q, fieldsS_p, fieldsS_c, fieldsS_f, strB_q, strB_p, strB_c, strB_f, valS_q, valS_p, valS_c, valS_f, TField.len, TField.get, Tryd.ntmps43, Nat.reduceEqDiff, reduceCtorEq, Nat.reduceMul, Nat.reduceAdd, Nat.reduceSub, Nat.reduceDiv, Nat.reduceMod, Nat.reduceLeDiff, Nat.reduceLT, Nat.reduceBNe, Nat.reduceBEq, reduceIte, Int.reduceLE, Int.reduceLT, Int.reduceToNat, Int.reduceNeg, Int.reduceAdd, Int.reduceSub, Int.reduceMul, Int.reduceEq]
      have hl := h1.1
      have hw : 0 < i → i < l.length → IntKind.i64.wrap (i - 1) = i - 1 := fun a b => i64w (by omega) (by omega)
      have e0 : fieldF l i.toNat = if keyB (l.getD i.toNat TField.z).name = false then 5 else if valF (l.getD i.toNat TField.z).value ≠ 0 then valF (l.getD i.toNat TField.z).value else if 0 < i ∧ (Op.bytesLess (l.getD i.toNat TField.z).name.toList (l.getD (i - 1).toNat TField.z).name.toList = true ∨ (l.getD i.toNat TField.z).name = (l.getD (i - 1).toNat TField.z).name) then 7 else 0 := by
        unfold fieldF
        rw [Int.toNat_of_nonneg hi, show i.toNat - 1 = (i - 1).toNat by omega]
      generalize l.getD i.toNat TField.z = x at *
      obtain ⟨p1, p2⟩ := ho
      unfold okS at p1
      refine ⟨fun a => ⟨hi, a, by omega, fun b => (hE 5 a (e0.trans (if_pos b)) (by decide)).symm, fun b => ⟨p2, fun c => (hE _ a (e0.trans ((if_neg (ne_ft b)).trans (if_pos c))) c).symm, fun c => ⟨fun d => ?_, fun d => ?_⟩⟩⟩, fun a => (hN a).symm⟩
      · rw [hw d a]
        have e1 := e0.trans ((if_neg (ne_ft b)).trans (if_neg (fun q => q c)))
        refine ⟨by omega, by omega, fun e => (hE 7 a (e1.trans (if_pos ⟨d, e⟩)) (by decide)).symm, fun e => ⟨hS a (e1.trans (if_neg fun q => ?_)), hM a⟩⟩
        rw [Bool.or_eq_false_iff, decide_eq_false_iff_not] at e
        exact q.2.elim (ne_tf e.1) e.2
      · have e1 := e0.trans ((if_neg (ne_ft b)).trans (if_neg (fun q => q c)))
        exact ⟨hS a (e1.trans (if_neg fun q => d q.1)), hM a⟩
set_option maxHeartbeats 4000000 in
theorem FieldsFault_ctr {cx : Cx} (h : Seat cx) (hU : Utf8 cx) : Ctr cx 44 fieldsS := by
  refine ctr_of (fn := Tryd.f44) (l := [.tmp 2]) (envL [(81, (strB keyB)), (42, valS)]) [0, 2, 3, 5, 6, 9, 10, 11, 12, 13, 19, 24, 29] [] [] (envL_cons (Key_ctr h) (envL_cons (ValueFault_ctr h hU) (env0 h.hP))) ?_ (by rw [h.hP]; exact Tryd.func44) rfl (by kernel_rfl) rfl ?_ ?_
  · rw [h.hP]; exact ⟨_, Tryd.func44, by kernel_rfl, by kernel_rfl⟩
  · rintro xs ⟨l, rfl, h1⟩; exact ⟨_, l, rfl, rfl⟩
  · rintro xs ⟨l, rfl, h1⟩
    refine ⟨by rw [Tryd.ntmps44]; simp, ?_⟩
    simp only [go_sem, h.hP, List.cons_append, List.nil_append, Meets_e, Below_e, Prod.exists, exists_eq, exists_eq_left, exists_eq_left', exists_eq_right, exists_eq_right', exists_and_left, exists_and_right, Ob.arr.injEq, AV.own.injEq, AV.fv.injEq, fieldsS_q, fieldsS_p, fieldsS_c, fieldsS_f, TField.len, Tryd.ntmps44, Nat.reduceEqDiff, reduceCtorEq, Nat.reduceMul, Nat.reduceAdd, Nat.reduceSub, Nat.reduceDiv, Nat.reduceMod, Nat.reduceLeDiff, Nat.reduceLT, Nat.reduceBNe, Nat.reduceBEq, reduceIte, Int.reduceLE, Int.reduceLT, Int.reduceToNat, Int.reduceNeg, Int.reduceAdd, Int.reduceSub, Int.reduceMul, Int.reduceEq]
    refine ⟨fun c => (if_pos c).symm, fun c => ?_⟩
    have hc : fieldsF l = firstI l.length (fieldF l) := if_neg c
    rw [hc]
    refine vc_loopS (Int × ByteArray) (fun (x : Int × ByteArray) => match x with | (i, s) => [(12, .i i), (3, .str s)]) [] (fun (x : Int × ByteArray) => match x with | (i, s) => []) (fun (x : Int × ByteArray) => match x with | (i, s) => []) (fun (x : Int × ByteArray) => match x with | (i, s) => 0) (fun (x : Int × ByteArray) => match x with | (i, s) => Rounds l.length (fieldF l) i ∧ (0 < i → s = (l.getD (i - 1).toNat TField.z).name) ∧ (i = 0 → s = ⟨#[]⟩)) (fun (x : Int × ByteArray) => match x with | (i, s) => (l.length - i).toNat) [] ?_ ?_
    · simp only [go_sem, h.hP, List.cons_append, List.nil_append, Meets_e, Below_e, Prod.exists, exists_eq, exists_eq_left, exists_eq_left', exists_eq_right, exists_eq_right', exists_and_left, exists_and_right, Ob.arr.injEq, AV.own.injEq, AV.fv.injEq, Tryd.ntmps44, Nat.reduceEqDiff, reduceCtorEq, Nat.reduceMul, Nat.reduceAdd, Nat.reduceSub, Nat.reduceDiv, Nat.reduceMod, Nat.reduceLeDiff, Nat.reduceLT, Nat.reduceBNe, Nat.reduceBEq, reduceIte, Int.reduceLE, Int.reduceLT, Int.reduceToNat, Int.reduceNeg, Int.reduceAdd, Int.reduceSub, Int.reduceMul, Int.reduceEq]
      exact Rounds.start
    · rintro ⟨i, s⟩ ⟨hr, j2, j3⟩
      obtain ⟨hi, hS, hM, hE, hN⟩ := hr.use (by have := h1.1; omega)
      have ho : (l.getD i.toNat TField.z).ok := okL_get h1 TField.z_ok _
      simp only [go_sem, h.hP, List.cons_append, List.nil_append, Meets_e, Below_e, Prod.exists, exists_eq, exists_eq_left, exists_eq_left', exists_eq_right, exists_eq_right', exists_and_left, exists_and_right, Ob.arr.injEq, AV.own.injEq, AV.fv.injEq, fieldsS_q, fieldsS_p, fieldsS_c, fieldsS_f, strB_q, strB_p, strB_c, strB_f, valS_q, valS_p, valS_c, valS_f, TField.len, TField.get, Tryd.ntmps44, Nat.reduceEqDiff, reduceCtorEq, Nat.reduceMul, Nat.reduceAdd, Nat.reduceSub, Nat.reduceDiv, Nat.reduceMod, Nat.reduceLeDiff, Nat.reduceLT, Nat.reduceBNe, Nat.reduceBEq, reduceIte, Int.reduceLE, Int.reduceLT, Int.reduceToNat, Int.reduceNeg, Int.reduceAdd, Int.reduceSub, Int.reduceMul, Int.reduceEq]
      have hl := h1.1
      have hw : i < l.length → IntKind.i64.wrap (i + 1) = i + 1 := fun b => i64w (by omega) (by omega)
      have e0 : fieldF l i.toNat = if keyB (l.getD i.toNat TField.z).name = false then 5 else if valF (l.getD i.toNat TField.z).value ≠ 0 then valF (l.getD i.toNat TField.z).value else if 0 < i ∧ (Op.bytesLess (l.getD i.toNat TField.z).name.toList (l.getD (i - 1).toNat TField.z).name.toList = true ∨ (l.getD i.toNat TField.z).name = (l.getD (i - 1).toNat TField.z).name) then 7 else 0 := by
        unfold fieldF
        rw [Int.toNat_of_nonneg hi, show i.toNat - 1 = (i - 1).toNat by omega]
      have hg : (l.getD (i + 1 - 1).toNat TField.z).name = (l.getD i.toNat TField.z).name := by rw [show i + 1 - 1 = i by omega]
      generalize l.getD i.toNat TField.z = x at *
      obtain ⟨p1, p2⟩ := ho
      unfold okS at p1
      refine ⟨fun a => ⟨hi, a, by omega, fun b => (hE 5 a (e0.trans (if_pos b)) (by decide)).symm, fun b => ⟨p2, fun c => (hE _ a (e0.trans ((if_neg (ne_ft b)).trans (if_pos c))) c).symm, fun c => ?_⟩⟩, fun a => (hN a).symm⟩
      have e1 := e0.trans ((if_neg (ne_ft b)).trans (if_neg (fun q => q c)))
      have i0 : Op.bytesLess x.name.toList s.toList = true ∨ x.name = s → 0 < i := fun e => by
        rcases Int.lt_or_eq_of_le hi with g | g
        · exact g
        · rw [j3 g.symm] at e
          exact absurd e (le_nil b)
      refine ⟨fun e => ?_, fun e => ?_⟩
      · have g := i0 e
        rw [j2 g] at e
        exact (hE 7 a (e1.trans (if_pos ⟨g, e⟩)) (by decide)).symm
      · rw [Bool.or_eq_false_iff, decide_eq_false_iff_not] at e
        have s0 := hS a (e1.trans (if_neg fun q => by rw [← j2 q.1] at q; exact q.2.elim (ne_tf e.1) e.2))
        have m0 := hM a
        rw [hw a] at s0 m0 ⊢
        exact ⟨s0, fun _ => hg.symm, fun g => by omega, m0⟩
end Go.Avc

/- FieldChecks: its walk. No condition. -/
set_option linter.unusedVariables false
set_option linter.unusedSimpArgs false
set_option maxRecDepth 100000
namespace Go.Avc
open Go Go.Proofs

set_option maxHeartbeats 8000000 in
theorem fc_walk {L : List Int} {A : Option Addr} {cp : Nat} {W : World} (hng : 5 ≤ W.heap.size) (hrd : Rd (fun k => k < W.heap.size) W (.sl (intRows L)) (.slice A L.length cp)) {glob : Nat → Option (List D)} (hgl : GlAt ⟨Tryd.prog, none, L, 25, 5, glob⟩ W) (hU : ∀ cx : Cx, (∀ w, GlAt cx w → GlAt ⟨Tryd.prog, none, L, 25, 5, glob⟩ w) → Utf8 cx) (hgn : glob 0 = some namesD) :
    Calls Tryd.prog 7 [Value.slice A L.length cp].toArray W fun e W' => e = .returned (.bool true) ∧ RowKit.Below W.heap.size W W' := by
  refine law_calls (E := envO [(39, valueG), (19, flipS), (24, rangeS), (11, strangeS), (14, pickS), (20, rep2S), (41, valS), (42, valS), (43, fieldsS), (44, fieldsS), (18, peopleS)] [] [(40, fieldsG, 76, 4)]) (B := 300) (live := [0, 2, 3, 4, 5, 6, 13, 32]) (HH := [5]) (hz := []) (d := 2) (x1 := 7) (x2 := 8) (x3 := 9) (x4 := 3) (ng := 5) (glob := glob) Tryd.func7 rfl rfl (by kernel_rfl) ⟨rfl, rfl, rfl⟩ ⟨rfl, rfl, rfl⟩ ⟨rfl, rfl, rfl⟩ ⟨rfl, rfl, rfl⟩ ⟨rfl, rfl, rfl⟩ build_stream ⟨by simp, by decide, by decide, by decide, by decide, by decide, by rw [Tryd.ntmps7]; decide⟩ (ex := []) (xv := []) rfl (fun i x u hx hu => by simp at hx) (by decide) hng hrd hgl ?_
  intro cx hP hS hG hGl
  have h : Seat cx := ⟨hP, hS⟩
  refine ⟨envO_cons (Fields_own h ((congrFun hGl _).trans hgn)) (envO_nil (envF_nil (envL_cons (Value_ctr h) (envL_cons (flip_ctr cx h.hP h.hS) (envL_cons (range_ctr cx h.hP h.hS) (envL_cons (strange_ctr cx h.hP h.hS) (envL_cons (pick_ctr cx h.hP h.hS) (envL_cons (rep2_ctr h) (envL_cons (CheckValue_ctr h (hU cx hG)) (envL_cons (ValueFault_ctr h (hU cx hG)) (envL_cons (CheckFields_ctr h (hU cx hG)) (envL_cons (FieldsFault_ctr h (hU cx hG)) (envL_cons (people_ctr h (hU cx hG)) (env0 h.hP)))))))))))))), ?_⟩
  simp only [go_sem, h.hP, List.cons_append, List.nil_append, Meets_e, Below_e, Prod.exists, exists_eq, exists_eq_left, exists_eq_left', exists_eq_right, exists_eq_right', exists_and_left, exists_and_right, Ob.arr.injEq, AV.own.injEq, AV.fv.injEq, valueG, strangeS, flipS_q, flipS_p, flipS_c, flipS_f, rangeS_q, rangeS_p, rangeS_c, rangeS_f, pickS_q, pickS_p, pickS_c, pickS_f, ints1, intsc, TValue.row, Tryd.ntmps7, Nat.reduceEqDiff, reduceCtorEq, Nat.reduceMul, Nat.reduceAdd, Nat.reduceSub, Nat.reduceDiv, Nat.reduceMod, Nat.reduceLeDiff, Nat.reduceLT, Nat.reduceBNe, Nat.reduceBEq, reduceIte, Int.reduceLE, Int.reduceLT, Int.reduceToNat, Int.reduceNeg, Int.reduceAdd, Int.reduceSub, Int.reduceMul, Int.reduceEq]
  intro v0 hv0
  refine vc_cutT (TValue) (fun (v : TValue) => [(13, .un)]) [] (fun (v : TValue) => []) (fun (v : TValue) => [(4, .box 71 [.i v.kind, .str v.text, .i v.number])]) (fun (v : TValue) => 40) (fun (v : TValue) => v.ok) [] ?_ ?_ ?_
  · rfl
  · simp only [go_sem, h.hP, List.cons_append, List.nil_append, Meets_e, Below_e, Prod.exists, exists_eq, exists_eq_left, exists_eq_left', exists_eq_right, exists_eq_right', exists_and_left, exists_and_right, Ob.arr.injEq, AV.own.injEq, AV.fv.injEq, valueG, strangeS, flipS_q, flipS_p, flipS_c, flipS_f, rangeS_q, rangeS_p, rangeS_c, rangeS_f, pickS_q, pickS_p, pickS_c, pickS_f, ints1, intsc, TValue.row, TValue.ex, Tryd.ntmps7, Nat.reduceEqDiff, reduceCtorEq, Nat.reduceMul, Nat.reduceAdd, Nat.reduceSub, Nat.reduceDiv, Nat.reduceMod, Nat.reduceLeDiff, Nat.reduceLT, Nat.reduceBNe, Nat.reduceBEq, reduceIte, Int.reduceLE, Int.reduceLT, Int.reduceToNat, Int.reduceNeg, Int.reduceAdd, Int.reduceSub, Int.reduceMul, Int.reduceEq]
    exact fun a => ⟨fun _ k k0 k5 s hs n hn => ⟨(⟨by omega, by omega⟩ : okI k), okS_of (show s.size ≤ 1000 by omega), isIn_ok hn (by decide)⟩, fun _ => hv0⟩
  · rintro v hv
    simp only [go_sem, h.hP, List.cons_append, List.nil_append, Meets_e, Below_e, Prod.exists, exists_eq, exists_eq_left, exists_eq_left', exists_eq_right, exists_eq_right', exists_and_left, exists_and_right, Ob.arr.injEq, AV.own.injEq, AV.fv.injEq, flipS_q, flipS_p, flipS_c, flipS_f, rangeS_q, rangeS_p, rangeS_c, rangeS_f, pickS_q, pickS_p, pickS_c, pickS_f, fieldsG, ints1, intsc, TValue.row, Tryd.ntmps7, Nat.reduceEqDiff, reduceCtorEq, Nat.reduceMul, Nat.reduceAdd, Nat.reduceSub, Nat.reduceDiv, Nat.reduceMod, Nat.reduceLeDiff, Nat.reduceLT, Nat.reduceBNe, Nat.reduceBEq, reduceIte, Int.reduceLE, Int.reduceLT, Int.reduceToNat, Int.reduceNeg, Int.reduceAdd, Int.reduceSub, Int.reduceMul, Int.reduceEq]
    intro m hm l hl hok
    refine vc_loopS (Int × List TField) (fun (x : Int × List TField) => match x with | (i, l) => [(5, .own 5), (6, .i i)]) [4] (fun (x : Int × List TField) => match x with | (i, l) => []) (fun (x : Int × List TField) => match x with | (i, l) => [(5, .arr 76 4 (TField.rows l))]) (fun (x : Int × List TField) => match x with | (i, l) => 150 + i.toNat) (fun (x : Int × List TField) => match x with | (i, l) => 0 ≤ i ∧ i ≤ 31 ∧ (l.length : Int) ≤ 7 + i ∧ ∀ c ∈ l, c.ok) (fun (x : Int × List TField) => match x with | (i, l) => (31 - i).toNat) [(5, 76, 4)] ?_ ?_
    · simp only [go_sem, h.hP, List.cons_append, List.nil_append, Meets_e, Below_e, Prod.exists, exists_eq, exists_eq_left, exists_eq_left', exists_eq_right, exists_eq_right', exists_and_left, exists_and_right, Ob.arr.injEq, AV.own.injEq, AV.fv.injEq, TField.rows_inj, Tryd.ntmps7, Nat.reduceEqDiff, reduceCtorEq, Nat.reduceMul, Nat.reduceAdd, Nat.reduceSub, Nat.reduceDiv, Nat.reduceMod, Nat.reduceLeDiff, Nat.reduceLT, Nat.reduceBNe, Nat.reduceBEq, reduceIte, Int.reduceLE, Int.reduceLT, Int.reduceToNat, Int.reduceNeg, Int.reduceAdd, Int.reduceSub, Int.reduceMul, Int.reduceEq]
      exact ⟨by omega, hok⟩
    · rintro ⟨i, l⟩ ⟨j1, j2, j3, j4⟩
      have hw : i < 31 → IntKind.i64.wrap (i + 1) = i + 1 := fun _ => i64w (by omega) (by omega)
      simp only [go_sem, h.hP, List.cons_append, List.nil_append, Meets_e, Below_e, Prod.exists, exists_eq, exists_eq_left, exists_eq_left', exists_eq_right, exists_eq_right', exists_and_left, exists_and_right, Ob.arr.injEq, AV.own.injEq, AV.fv.injEq, flipS_q, flipS_p, flipS_c, flipS_f, rep2S_q, rep2S_p, rep2S_c, rep2S_f, valS_q, valS_p, valS_c, valS_f, fieldsS_q, fieldsS_p, fieldsS_c, fieldsS_f, peopleS, TValue.row, TField.fold1, TField.app', TField.rows_inj, TField.zlT, TField.len, List.length_append, List.length_singleton, Tryd.ntmps7, Nat.reduceEqDiff, reduceCtorEq, Nat.reduceMul, Nat.reduceAdd, Nat.reduceSub, Nat.reduceDiv, Nat.reduceMod, Nat.reduceLeDiff, Nat.reduceLT, Nat.reduceBNe, Nat.reduceBEq, reduceIte, Int.reduceLE, Int.reduceLT, Int.reduceToNat, Int.reduceNeg, Int.reduceAdd, Int.reduceSub, Int.reduceMul, Int.reduceEq]
      have q1 : 150 + i.toNat ≤ 299 := by omega
      have ho : okL TField.ok l := ⟨by omega, j4⟩
      have hr := repL_size ⟨#[120]⟩ j1
      have hs1 : ((⟨#[120]⟩ : ByteArray).size : Int) = 1 := rfl
      rw [hs1] at hr
      have hn : i < 31 → okS (⟨#[120]⟩ ++ repL ⟨#[120]⟩ i) := fun _ => okS_of (by rw [ByteArray.size_append]; show 1 + _ ≤ _; omega)
      simp only [q1, true_and, and_true, imp_self, implies_true]
      refine ⟨by omega, fun _ => ⟨fun _ => ⟨fun c => ?_, fun _ => ⟨hv, hv, ho, ho⟩⟩, fun _ => ⟨hv, hv, ho, ho⟩⟩⟩
      rw [hw c]
      exact ⟨by omega, by omega, by omega, by omega, by omega, by omega, by omega, by omega, by omega, okL_app j4 ⟨hn c, hv⟩, by omega⟩
end Go.Avc

/- FieldChecks returns true for every slice of numbers, and leaves it as it was; the two tables of unicode/utf8 and the fields' names, which its row lists, lie as the program lays them. -/
set_option linter.unusedVariables false
set_option linter.unusedSimpArgs false
set_option maxRecDepth 100000
namespace Go.Proofs.YtikgmhplgbdmjaaDoor.fieldChecks
open Go.ChangeShapes Go.ChangeMaps Go.WideShapes Go.ChangeAt Go.RowKit Go.Avc

def exF : Nat → Option (List D)
  | 0 => some namesD
  | _ => none
theorem lies {W : World} (hL : laidMetH Tryd.prog Rows.fieldChecksRow.laid W) : Lies W exF := by
  intro k l hk
  have hk' : exF k = some l := hk
  match k, hk' with
  | 0, hk' =>
    cases hk'
    have h := lies_of_reads (l := namesD) (m := 6) (Lib.laidMet.reads hL (n := "handbill/handmake.fieldNames") (d := Rows.laid_handbill_handmake_fieldNames) (by simp [Rows.fieldChecksRow])) (g := 0) rfl rfl (by kernel_rfl) (by kernel_rfl) (by decide)
    exact ⟨by decide, h.1, by decide, h.2⟩
/-- A world for a witness. -/
noncomputable def worldF (os : Os) : World := { laidWorld os with heap := (laidWorld os).heap.modify 0 (fun o => match o with
  | .cells _ t frozen => .cells (namesD.map vD).toArray t frozen
  | o => o) }
theorem metF (os : Os) (args : Array Value) : laidMet Tryd.prog Rows.fieldChecksRow.laid ((worldF os).forCall (fun _ _ => 0) ⟨#[], args, []⟩).memory := laidMet_of_run' 8 (by kernel_rfl) (by kernel_rfl)
theorem own : ownKnob Tryd.prog.godebug = none := by kernel_rfl
theorem one3 : Tryd.prog.cellsOf 3 = 1 := by kernel_rfl

/-- WHAT THE WALK GIVES. -/
theorem contract (H : Type) (enc : TypeId × Value → H) (W : World) (base : Nat) (args : Array Value) (ds gs : List (DataW H)) (before : List MemPlace)
    (hval : ∀ (j : Nat) t v, Tryd.f7.params[j]? = some t → args[j]? = some v → Value.okWide Tryd.prog W .any base t v)
    (hW : DataW.Whole enc Tryd.prog Tryd.f7.params.toList Rows.fieldChecksSpec.vars false W args.toList ds gs before) (hL : laidMetH Tryd.prog Rows.fieldChecksRow.laid W) (hSh : W.ShapedOpen Tryd.prog) :
    Calls Tryd.prog 7 args W fun e W' => ∃ v, e = .returned v ∧ Rows.fieldChecksSpec.post enc Tryd.prog Tryd.f7 false true false false W args v W' := by
  have hW' := hW
  obtain ⟨p, q, hA0, hV, rfl, hfz, hnd⟩ := hW
  have hA : DataW.TrodAll enc Tryd.prog W 0 (fun _ => true) true Tryd.f7.params.toList args.toList ds p := hA0
  rw [Tryd.params7] at hA hval
  obtain ⟨v0, vs0, d0, ds0, p0, q0, hargs, rfl, rfl, h0, r0⟩ := trodAll_cons hA
  obtain ⟨rfl, rfl, rfl⟩ := trodAll_nil r0
  obtain rfl : args = #[v0] := by cases args; simp_all
  obtain ⟨rfl, rfl⟩ := trodVars_none hV
  obtain ⟨A, L, cp, rfl, hrd, hsh⟩ := open_nums Tryd.underlying22 Tryd.underlying3 one3 (hval 0 22 v0 rfl rfl) h0
  clear hA0
  simp only [List.append_nil] at hW'
  have hg := glAt_X (L := L) (ST := 25) (tabs_of_list hL (by simp [Rows.fieldChecksRow]) (by simp [Rows.fieldChecksRow])) (lies hL)
  refine (fc_walk (ng_of_shaped hSh) hrd hg (fun cx h => utf8_of_globX rfl h) rfl).mono fun e W' ⟨he, hbl⟩ => ?_
  subst he
  refine ⟨_, rfl, post_of_below (pa := p0) (pv := []) hW' (fun _ _ _ => trodAll_cons_mk (shut_bool Tryd.underlying4 _) trodAll_mk0)
    (fun sp hsp => ?_) (fun _ _ => rfl) (List.append_nil _).symm hbl (ok_one (by kernel_rfl) rfl (okWide_bool_mk Tryd.underlying4 _))⟩
  have := trodAll_cons_mk (hsh W' hbl sp hsp) (trodAll_mk0 (w := W') (base := 0) (spare := sp) (held := true) (enc := enc))
  rw [List.append_nil] at this
  exact this
theorem reads (os : Os) {H : Type} (enc : TypeId × Value → H) : ∃ places, DataW.whole enc Tryd.prog ((worldF os).forCall (fun _ _ => 0) ⟨#[], #[.slice none 0 0], []⟩).memory Tryd.f7.params.toList Rows.fieldChecksSpec.vars false #[Value.slice none 0 0].toList 8 = some ([.nil], [], places) :=
  ⟨[], by kernel_rfl⟩
theorem lifted (os : Os) (started : os.Started) (H : Type) (enc : TypeId × Value → H) (F : Stop.Interp) :
    ReturnsInHanded {} Tryd.checked os 7 .any ((OpenSpec.ofChange Rows.fieldChecksSpec).preRow enc Tryd.prog Tryd.f7 Rows.fieldChecksRow.domain false Rows.fieldChecksRow.laid) (((OpenSpec.ofChange Rows.fieldChecksSpec).at F).post enc Tryd.prog Tryd.f7 false true false false) := by
  obtain ⟨places, hx⟩ := reads os enc
  refine returnsInHanded_of_row (C := Tryd.checked) (s := OpenSpec.ofChange Rows.fieldChecksSpec) own started (by kernel_rfl) Tryd.func7
    (witness_row_at (enc := enc) (C := Tryd.checked) false (worldF os) #[.slice none 0 0] rfl (by kernel_rfl) (by kernel_rfl) (by kernel_rfl)
      (OpenSpec.preRow_of_cond 8 hx (by kernel_rfl) (fun k hk => by cases hk) (by kernel_rfl) (metF os _))) ?_
  intro W base args ds gs before hval hW _ _ _ hL hSh _
  exact contract H enc W base args ds gs before hval hW hL hSh
theorem said : Rows.FieldChecksSaid :=
  OpenClaim.holds_of_cond 7 Tryd.f7 rfl rfl rfl rfl rfl rfl rfl ⟨rfl, rfl, rfl, rfl, rfl⟩ rfl rfl rfl rfl rfl (by kernel_rfl) Tryd.func7 (by kernel_rfl)
    (of_decide_eq_true (by kernel_rfl)) (by unfold Func.isWrapper; first | (rw [if_pos (by decide +kernel)]; kernel_rfl) | (rw [if_neg (by decide +kernel)]; exact ⟨rfl, rfl⟩))
    (fun os started H enc _ F => by rw [OpenClaim.pre_eq_preRow]; exact lifted os started H enc F)
theorem plain (f : FuncId) (fn : Func) (hf : Tryd.pinned.checked.prog.funcNamed "handbill/handlaw2.FieldChecks" = some f) (hfn : Tryd.pinned.checked.prog.funcs[f]? = some fn) :
    false = Tryd.pinned.checked.prog.looks [] ∧ ∀ (j : Nat) t, fn.params[j]? = some t → Tryd.pinned.checked.prog.wantsStandIn t = false := by
  obtain rfl : f = 7 := Option.some.inj ((show Tryd.prog.funcNamed "handbill/handlaw2.FieldChecks" = some 7 by kernel_rfl).symm.trans hf) |>.symm
  obtain rfl : fn = Tryd.f7 := (Option.some.inj (Tryd.func7.symm.trans hfn)).symm
  refine ⟨by kernel_rfl, fun j t ht => ?_⟩
  rw [Tryd.params7] at ht
  obtain rfl : t = 22 := by simpa using Array.mem_of_getElem? ht
  exact (show Tryd.prog.wantsStandIn 22 = false by kernel_rfl)
theorem card : Rows.FieldChecksCardSaid :=
  Claim7.holds_tied_plain_at .later [] _ _ _ _ said (fun _ h => by cases h) (by kernel_rfl) (fun _ h => by cases h) fieldChecks_row_tie rfl ⟨rfl, rfl⟩ (by kernel_rfl) rfl plain (by kernel_rfl)
end Go.Proofs.YtikgmhplgbdmjaaDoor.fieldChecks
