/- The stream's Range, Flip and Pick: their contracts. No condition. -/
import Derived.Test.YtcifphelninbmaaDoorNextC
import Derived.Test.YtcifphelninbmaaDoorBld
set_option linter.unusedVariables false
set_option linter.unusedSimpArgs false
set_option maxRecDepth 100000
namespace Go.Avc
open Go Go.Proofs

def rangeS : Spec where
  pre xs := ∃ lo hi : Int, xs = [.st, .i lo, .i hi] ∧ -1073741824 ≤ lo ∧ lo ≤ 1073741824 ∧ -1073741824 ≤ hi ∧ hi ≤ 1073741824
  post xs r := ∃ lo hi q : Int, xs = [.st, .i lo, .i hi] ∧ lo ≤ q ∧ (lo ≤ hi → q ≤ hi) ∧ (hi < lo → q = lo) ∧ r = .i q
  cost _ := 1
  fresh := true

theorem range_ctr (cx : Cx) (hP : cx.P = Tryd.prog) (hS : cx.ST = 25) : Ctr cx 24 rangeS := by
  refine ctr_of (fn := Tryd.f24) (l := [.tmp 6]) (envL [(25, nextS)]) [0, 1, 2, 6, 9] [] [] (envL_cons (next_ctr cx hP hS) (env0 hP)) ?_ (by rw [hP]; exact Tryd.func24) rfl (by kernel_rfl) rfl ?_ ?_
  · rw [hP]; exact ⟨_, Tryd.func24, by kernel_rfl, by kernel_rfl⟩
  · rintro xs ⟨lo, hi, rfl, h1, h2, h3, h4⟩
    exact ⟨.i lo, lo, hi, lo, rfl, by omega, by omega, by omega, rfl⟩
  · rintro xs ⟨lo, hi, rfl, h1, h2, h3, h4⟩
    refine ⟨by rw [Tryd.ntmps24]; simp, ?_⟩
    simp only [go_sem, hP, Tryd.ntmps24, rangeS, nextS, Nat.reduceEqDiff, reduceCtorEq, Nat.reduceMul, Nat.reduceAdd, Nat.reduceLeDiff, Nat.reduceLT, Nat.reduceBNe, Nat.reduceBEq, reduceIte]
    have w1 : IntKind.i64.wrap (hi - lo) = hi - lo := IntWalk.i64_in _ (by omega)
    have w2 : IntKind.i64.wrap (hi - lo + 1) = hi - lo + 1 := IntWalk.i64_in _ (by omega)
    simp [w1, w2]
    refine ⟨fun c => ⟨lo, hi, ⟨rfl, rfl⟩, lo, by omega⟩, fun c => ⟨by omega, fun a q e h5 h6 => ⟨lo, hi, ⟨rfl, rfl⟩, lo + q, by omega, by omega, by omega, IntWalk.i64_in _ (by omega)⟩⟩⟩

def flipS : Spec where
  pre xs := ∃ m : Int, xs = [.st, .i m] ∧ m ≤ 9223372036854775807
  post xs r := ∃ (m : Int) (b : Bool), xs = [.st, .i m] ∧ r = .b b
  cost _ := 1
  fresh := true

theorem flip_ctr (cx : Cx) (hP : cx.P = Tryd.prog) (hS : cx.ST = 25) : Ctr cx 19 flipS := by
  refine ctr_of (fn := Tryd.f19) (l := [.tmp 4]) (envL [(25, nextS)]) [0, 1, 4] [] [] (envL_cons (next_ctr cx hP hS) (env0 hP)) ?_ (by rw [hP]; exact Tryd.func19) rfl (by kernel_rfl) rfl ?_ ?_
  · rw [hP]; exact ⟨_, Tryd.func19, by kernel_rfl, by kernel_rfl⟩
  · rintro xs ⟨m, rfl, h1⟩
    exact ⟨.b true, m, true, rfl, rfl⟩
  · rintro xs ⟨m, rfl, h1⟩
    refine ⟨by rw [Tryd.ntmps19]; simp, ?_⟩
    simp only [go_sem, hP, Tryd.ntmps19, flipS, nextS, Nat.reduceEqDiff, reduceCtorEq, Nat.reduceMul, Nat.reduceAdd, Nat.reduceLeDiff, Nat.reduceLT, Nat.reduceBNe, Nat.reduceBEq, reduceIte]
    simp [and_assoc, h1]

def intsD (l : List Int) : List (List D) := l.map fun x => [D.int .i64 x]
def isIn (x : Int) (l : List Int) : Prop := x ∈ l
def pickS : Spec where
  pre xs := ∃ l : List Int, xs = [.st, .sl (intsD l)] ∧ l ≠ [] ∧ l.length ≤ 1073741824
  post xs r := ∃ (l : List Int) (x : Int), xs = [.st, .sl (intsD l)] ∧ isIn x l ∧ r = .i x
  cost _ := 1
  fresh := true

theorem pick_ctr (cx : Cx) (hP : cx.P = Tryd.prog) (hS : cx.ST = 25) : Ctr cx 14 pickS := by
  refine ctr_of (fn := Tryd.f14) (l := [.tmp 4]) (envL [(25, nextS)]) [0, 1, 4] [] [] (envL_cons (next_ctr cx hP hS) (env0 hP)) ?_ (by rw [hP]; exact Tryd.func14) rfl (by kernel_rfl) rfl ?_ ?_
  · rw [hP]; exact ⟨_, Tryd.func14, by kernel_rfl, by kernel_rfl⟩
  · rintro xs ⟨l, rfl, h1, h2⟩
    exact (match l, h1 with | x :: t, _ => ⟨.i x, x :: t, x, rfl, List.mem_cons_self, rfl⟩)
  · rintro xs ⟨l, rfl, h1, h2⟩
    refine ⟨by rw [Tryd.ntmps14]; simp, ?_⟩
    simp only [go_sem, hP, Tryd.ntmps14, pickS, nextS, Nat.reduceEqDiff, reduceCtorEq, Nat.reduceMul, Nat.reduceAdd, Nat.reduceLeDiff, Nat.reduceLT, Nat.reduceBNe, Nat.reduceBEq, reduceIte]
    refine ⟨⟨⟨_, rfl, by rw [intsD, List.length_map]; omega⟩, fun h => h.elim⟩, fun a q e h3 h4 => ?_⟩
    have hq : 0 ≤ q ∧ q < (l.length : Int) := by
      simp only [List.cons.injEq, AV.dv.injEq, DV.d.injEq, D.int.injEq, true_and, and_true, intsD, List.length_map] at e
      have := List.length_pos_iff.2 h1
      omega
    have hg : (intsD l).getD q.toNat [D.int .i64 0] = [D.int .i64 (l.getD q.toNat 0)] := by
      rw [List.getD_eq_getElem?_getD, intsD, List.getElem?_map, List.getD_eq_getElem?_getD, List.getElem?_eq_getElem (by omega)]
      rfl
    have hm : l.getD q.toNat 0 ∈ l := by
      rw [List.getD_eq_getElem?_getD, List.getElem?_eq_getElem (by omega)]
      exact List.getElem_mem _
    simp only [hg, go_sem, reduceCtorEq, reduceIte]
    exact ⟨⟨hq.1, by rw [intsD, List.length_map]; exact hq.2⟩, l, _, rfl, hm, rfl⟩
end Go.Avc
