/- The drawn string 'strange': its contract. No condition. -/
import Derived.Test.YtcifphelninbmaaDoorStrm
set_option linter.unusedVariables false
set_option linter.unusedSimpArgs false
set_option maxRecDepth 100000
namespace Go.Avc
open Go Go.Proofs

def strangeS : Spec where
  pre xs := xs = [.st]
  post xs r := ∃ s : ByteArray, s.size ≤ 64 ∧ r = .str s
  cost _ := 9
  fresh := true
def strangeSf (p : ByteArray × Int × Nat) : Sh := ⟨[(0, .st), (3, .str p.1), (5, .i p.2.1), (6, .i p.2.2)], [], 1 + p.2.2⟩
def strangeJ (p : ByteArray × Int × Nat) : Prop := p.1.size ≤ 4 * p.2.2 ∧ (p.2.2 : Int) ≤ p.2.1 ∧ p.2.1 ≤ 8
theorem strange_ctr (cx : Cx) (hP : cx.P = Tryd.prog) (hS : cx.ST = 25) : Ctr cx 11 strangeS := by
  refine ctr_of (fn := Tryd.f11) (l := [.tmp 2]) (envL [(25, nextS), (24, rangeS)]) [0, 2, 3, 5, 6, 7] [] [] (envL_cons (next_ctr cx hP hS) (envL_cons (range_ctr cx hP hS) (env0 hP))) ?_ (by rw [hP]; exact Tryd.func11) rfl (by kernel_rfl) rfl ?_ ?_
  · rw [hP]; exact ⟨_, Tryd.func11, by kernel_rfl, by kernel_rfl⟩
  · rintro xs rfl
    exact ⟨.str ⟨#[]⟩, ⟨#[]⟩, by decide, rfl⟩
  · rintro xs rfl
    refine ⟨by rw [Tryd.ntmps11]; simp, ?_⟩
    simp only [go_sem, hP, Tryd.ntmps11, strangeS, nextS, rangeS, Nat.reduceEqDiff, reduceCtorEq, Nat.reduceMul, Nat.reduceAdd, Nat.reduceLeDiff, Nat.reduceLT, Nat.reduceBNe, Nat.reduceBEq, reduceIte]
    refine ⟨⟨⟨0, 8, rfl, by decide, by decide, by decide, by decide⟩, fun h => h.elim⟩, fun lo hi q e h1 h2 h3 => ?_⟩
    simp only [List.cons.injEq, AV.dv.injEq, DV.d.injEq, D.int.injEq, true_and, and_true] at e
    obtain ⟨rfl, rfl⟩ := e
    refine vc_loop _ strangeSf strangeJ (fun p => 8 - p.2.2) [] ?_ ?_
    · refine meets_mk _ (⟨#[]⟩, q, 0) ⟨Nat.le_refl 0, by simpa using h1, h2 (by decide)⟩ ?_
      simp only [go_sem, hP, strangeSf, Nat.reduceEqDiff, reduceCtorEq, Nat.reduceLT, reduceIte, Nat.reduceAdd]
      rfl
    · rintro ⟨s, n, i⟩ ⟨j1, j2, j3⟩
      simp only at j1 j2 j3
      simp only [go_sem, hP, strangeSf, Tryd.ntmps11, strangeS, nextS, rangeS, Nat.reduceEqDiff, reduceCtorEq, Nat.reduceMul, Nat.reduceAdd, Nat.reduceLeDiff, Nat.reduceLT, Nat.reduceBNe, Nat.reduceBEq, reduceIte]
      refine ⟨by omega, fun c => ?_, fun c => ⟨by omega, by omega, by omega, s, by have := of_decide_eq_false c; omega, rfl⟩⟩
      have c' := of_decide_eq_true c
      refine ⟨by omega, by omega, by omega, ⟨⟨15, rfl, by decide⟩, fun h => h.elim⟩, by omega, fun m q e h4 h5 => ?_⟩
      simp only [List.cons.injEq, AV.dv.injEq, DV.d.injEq, D.int.injEq, true_and, and_true] at e
      subst e
      obtain ⟨h6, h7⟩ := h4 (by decide)
      obtain ⟨u, hu, hg⟩ : ∃ u : ByteArray, u.size ≤ 4 ∧ ([[D.str ⟨#[97]⟩], [D.str ⟨#[32]⟩], [D.str ⟨#[34]⟩], [D.str ⟨#[92]⟩], [D.str ⟨#[10]⟩], [D.str ⟨#[0]⟩], [D.str ⟨#[127]⟩], [D.str ⟨#[255]⟩], [D.str ⟨#[195, 169]⟩], [D.str ⟨#[92, 120]⟩], [D.str ⟨#[48]⟩], [D.str ⟨#[240, 159, 152, 128]⟩], [D.str ⟨#[195]⟩], [D.str ⟨#[98]⟩], [D.str ⟨#[61]⟩]] : List (List D)).getD q.toNat [D.str ⟨#[]⟩] = [D.str u] := by
        have hq : q.toNat = 0 ∨ q.toNat = 1 ∨ q.toNat = 2 ∨ q.toNat = 3 ∨ q.toNat = 4 ∨ q.toNat = 5 ∨ q.toNat = 6 ∨ q.toNat = 7 ∨ q.toNat = 8 ∨ q.toNat = 9 ∨ q.toNat = 10 ∨ q.toNat = 11 ∨ q.toNat = 12 ∨ q.toNat = 13 ∨ q.toNat = 14 := by omega
        rcases hq with h | h | h | h | h | h | h | h | h | h | h | h | h | h | h <;> rw [h] <;> exact ⟨_, by decide, rfl⟩
      simp only [hg, go_sem, Nat.reduceEqDiff, reduceCtorEq, reduceIte]
      refine ⟨by omega, ⟨h6, by simpa using h7⟩, by omega, by omega, by omega, by omega, by omega, by omega, ?_⟩
      refine below_mk _ (s ++ u, n, i + 1) ⟨by simp only [ByteArray.size_append]; omega, by show ((i + 1 : Nat) : Int) ≤ n; omega, j3⟩ (by show 8 - (i + 1) < 8 - i; omega) ?_
      simp only [go_sem, strangeSf, Nat.reduceEqDiff, reduceCtorEq, reduceIte]
      exact ⟨by rw [IntWalk.i64_in _ (by omega)]; rfl, by omega⟩
end Go.Avc
