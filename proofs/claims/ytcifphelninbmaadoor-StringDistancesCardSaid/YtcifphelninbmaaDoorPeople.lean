/- Distance, people, Changed: their contracts. No condition. -/
import Derived.Test.YtcifphelninbmaaDoorDist2
import Derived.Test.YtcifphelninbmaaDoorQuo4
set_option linter.unusedVariables false
set_option linter.unusedSimpArgs false
set_option maxRecDepth 100000
namespace Go.Avc
open Go Go.Proofs

def distanceS : Spec where
  pre xs := ∃ s t : ByteArray, xs = [.str s, .str t]
  post xs r := ∃ s t : ByteArray, xs = [.str s, .str t] ∧ r = if s.size > 200 ∨ t.size > 200 then .tcons (.i 0) (.tcons (.i 2) .tnil) else .tcons (.i (distP (pts s) (pts t))) (.tcons (.i 0) .tnil)
  cost _ := 0
  fresh := true
theorem distance_ctr {cx : Cx} (h : Seat cx) (hU : Utf8 cx) : Ctr cx 21 distanceS := by
  refine ctr_of (fn := Tryd.f21) (l := [.tmp 4, .tmp 5]) (envL [(69, (ptsS .i32)), (68, distS)]) [0, 1, 4, 5, 13] [] [] (envL_cons (pts_ctr h hU) (envL_cons (dist_ctr h) (env0 h.hP))) ?_ (by rw [h.hP]; exact Tryd.func21) rfl (by kernel_rfl) rfl ?_ ?_
  · rw [h.hP]; exact ⟨_, Tryd.func21, by kernel_rfl, by kernel_rfl⟩
  · rintro xs ⟨s, t, rfl⟩; exact ⟨_, s, t, rfl, rfl⟩
  · rintro xs ⟨s, t, rfl⟩
    refine ⟨by rw [Tryd.ntmps21]; simp, ?_⟩
    simp only [go_sem, h.hP, distanceS, ptsS, distS, rowsK_inj, Tryd.ntmps21, Nat.reduceEqDiff, reduceCtorEq, Nat.reduceMul, Nat.reduceAdd, Nat.reduceLeDiff, Nat.reduceLT, Nat.reduceBNe, Nat.reduceBEq, reduceIte, Int.reduceLE, Int.reduceLT, Int.reduceToNat, Int.reduceNeg, Int.reduceAdd, Int.reduceSub, Int.reduceMul, Int.reduceEq]
    have hp : (pts s).length ≤ s.size := ptsL_len s.size s
    have hq : (pts t).length ≤ t.size := ptsL_len t.size t
    (repeat' (first | with_reducible apply And.intro | with_reducible intro))
    all_goals first
      | omega
      | rw [if_pos (by omega)]
      | rw [if_neg (by omega)]
theorem kitten : distP (pts ⟨#[107, 105, 116, 116, 101, 110]⟩) (pts ⟨#[115, 105, 116, 116, 105, 110, 103]⟩) = 3 := by decide +kernel
theorem quote_space : quotedF ⟨#[32]⟩ = ⟨#[34, 92, 120, 50, 48, 34]⟩ := by decide +kernel
def peopleS : Spec where
  pre xs := xs = []
  post xs r := r = .b true
  cost _ := 0
  fresh := true
theorem people_ctr {cx : Cx} (h : Seat cx) (hU : Utf8 cx) : Ctr cx 18 peopleS := by
  refine ctr_of (fn := Tryd.f18) (l := [.tmp 0]) (envL [(21, distanceS), (12, quoteS)]) [0, 1, 2] [] [] (envL_cons (distance_ctr h hU) (envL_cons (quote_ctr h) (env0 h.hP))) ?_ (by rw [h.hP]; exact Tryd.func18) rfl (by kernel_rfl) rfl ?_ ?_
  · rw [h.hP]; exact ⟨_, Tryd.func18, by kernel_rfl, by kernel_rfl⟩
  · rintro xs rfl; exact ⟨_, rfl⟩
  · rintro xs rfl
    refine ⟨by rw [Tryd.ntmps18]; simp, ?_⟩
    simp only [go_sem, h.hP, peopleS, distanceS, quoteS, Tryd.ntmps18, Nat.reduceEqDiff, reduceCtorEq, Nat.reduceMul, Nat.reduceAdd, Nat.reduceLeDiff, Nat.reduceLT, Nat.reduceBNe, Nat.reduceBEq, reduceIte, Int.reduceLE, Int.reduceLT, Int.reduceToNat, Int.reduceNeg, Int.reduceAdd, Int.reduceSub, Int.reduceMul, Int.reduceEq]
    exact ⟨fun _ => quote_space, fun e => e kitten⟩
theorem enc_le (n : Int) : (Utf8.encode n).size ≤ 4 := by
  unfold Utf8.encode
  simp only
  generalize (if Utf8.valid n = true then n.toNat else Utf8.runeError) = c
  split
  · exact (by decide : (1 : Nat) ≤ 4)
  · split
    · exact (by decide : (2 : Nat) ≤ 4)
    · split
      · exact (by decide : (3 : Nat) ≤ 4)
      · exact (by decide : (4 : Nat) ≤ 4)
def changedS : Spec where
  pre xs := ∃ t u : ByteArray, xs = [.st, .str t, .str u] ∧ t.size ≤ 1073741824 ∧ u.size ≤ 1073741824
  post xs r := ∃ t u v : ByteArray, xs = [.st, .str t, .str u] ∧ v.size ≤ t.size + u.size + 4 ∧ r = .str v
  cost _ := 3
  fresh := true
theorem changed_ctr {cx : Cx} (h : Seat cx) : Ctr cx 15 changedS := by
  refine ctr_of (fn := Tryd.f15) (l := [.tmp 6]) (envL [(25, nextS)]) [0, 1, 2, 6, 7, 8, 14, 27, 28, 42] [] [] (envL_cons (next_ctr cx h.hP h.hS) (env0 h.hP)) ?_ (by rw [h.hP]; exact Tryd.func15) rfl (by kernel_rfl) rfl ?_ ?_
  · rw [h.hP]; exact ⟨_, Tryd.func15, by kernel_rfl, by kernel_rfl⟩
  · rintro xs ⟨t, u, rfl, h1, h2⟩; exact ⟨_, t, u, ⟨#[]⟩, rfl, Nat.zero_le _, rfl⟩
  · rintro xs ⟨t, u, rfl, h1, h2⟩
    refine ⟨by rw [Tryd.ntmps15]; simp, ?_⟩
    simp only [go_sem, h.hP, changedS, nextS, str_nil, Tryd.ntmps15, Nat.reduceEqDiff, reduceCtorEq, Nat.reduceMul, Nat.reduceAdd, Nat.reduceLeDiff, Nat.reduceLT, Nat.reduceBNe, Nat.reduceBEq, reduceIte, Int.reduceLE, Int.reduceLT, Int.reduceToNat, Int.reduceNeg, Int.reduceAdd, Int.reduceSub, Int.reduceMul, Int.reduceEq]
    refine ⟨fun c1 => ⟨fun c2 => by omega, fun c2 => ⟨by omega, fun a h3 h4 => ⟨by omega, fun b h5 h6 => ⟨by omega, by omega, fun q h7 h8 => ?_⟩⟩⟩⟩, fun c1 => by omega⟩
    obtain ⟨ha0, ha1⟩ := h3 (by omega)
    have he := enc_le (IntKind.i32.wrap (bt u b))
    rw [i64w (n := a + 1) (by omega) (by omega)]
    simp only [ByteArray.size_extract]
    clear h3 h4 h5 h6
    (repeat' (first | with_reducible apply And.intro | with_reducible intro)) <;> omega
end Go.Avc
