/- Unquote and the reference's Unquoted: their contracts. No condition. -/
import Derived.Test.YtcifphelninbmaaDoorQuo2
set_option linter.unusedVariables false
set_option linter.unusedSimpArgs false
set_option maxRecDepth 100000
namespace Go.Avc
open Go Go.Proofs

/-- Reading a quoted string. -/
def unqS (s : ByteArray) : Option (List Int × Nat) := if (bl s).head? = some 34 then unqL s.size ((bl s).drop 1) [] else none
def unqOut (s : ByteArray) : AV := match unqS s with
  | some (l, k) => .tcons (.str (strOfNums l)) (.tcons (.i ((s.size : Int) - k + 1)) (.tcons (.i 0) .tnil))
  | none => .tcons (.str ⟨#[]⟩) (.tcons (.i 0) (.tcons (.i 9) .tnil))
theorem escL_le (l : List Int) : 0 ≤ (escL l).2 ∧ (escL l).2 ≤ 3 ∧ (escL l).2.toNat ≤ l.length := by
  unfold escL
  match l with
  | [] => simp
  | [c] => simp only; repeat' split
           all_goals simp
  | [c, a] => simp only; repeat' split
              all_goals simp
  | c :: a :: b :: t =>
    simp only
    repeat' split
    all_goals simp
theorem head_bl {s : ByteArray} (h : 0 < s.size) : (bl s).head? = some (bt s 0) := by
  rw [bt_bl]
  cases hb : bl s with
  | nil => have := bl_length s; rw [hb] at this; simp at this; omega
  | cons c r => rfl
theorem unqS_no {s : ByteArray} (h : ¬ bt s 0 = 34) : unqS s = none := by
  unfold unqS
  rw [if_neg]
  intro e
  by_cases h0 : 0 < s.size
  · rw [head_bl h0] at e; exact h (by simpa using e)
  · have : bl s = [] := List.eq_nil_of_length_eq_zero (by rw [bl_length]; omega)
    rw [this] at e; cases e
theorem unqS_empty {s : ByteArray} (h : s.size = 0) : unqS s = none := by
  unfold unqS
  rw [show bl s = [] from List.eq_nil_of_length_eq_zero (by rw [bl_length]; exact h)]; rfl
theorem out_none {s : ByteArray} (h : unqS s = none) : unqOut s = .tcons (.str ⟨#[]⟩) (.tcons (.i 0) (.tcons (.i 9) .tnil)) := by unfold unqOut; rw [h]
theorem out_some {s : ByteArray} {l : List Int} {k : Nat} (h : unqS s = some (l, k)) : unqOut s = .tcons (.str (strOfNums l)) (.tcons (.i ((s.size : Int) - k + 1)) (.tcons (.i 0) .tnil)) := by unfold unqOut; rw [h]
theorem unqS_yes {s : ByteArray} (h0 : 0 < s.size) (h : bt s 0 = 34) : unqS s = unqL s.size ((bl s).drop 1) [] := by
  unfold unqS
  rw [if_pos (by rw [head_bl h0, h])]
theorem unq_step {s : ByteArray} {i k : Nat} (h : i < s.size) (hk : s.size - i ≤ k) (acc : List Int) : ∃ k', k = k' + 1 ∧ unqL k ((bl s).drop i) acc = if bt s (i : Int) = 34 then some (acc, s.size - i) else
    if bt s (i : Int) = 92 then (if (escL ((bl s).drop (i + 1))).2 = 0 then none else unqL k' ((bl s).drop (i + 1 + (escL ((bl s).drop (i + 1))).2.toNat)) (acc ++ [(escL ((bl s).drop (i + 1))).1]))
    else if hid (bt s (i : Int)) = true ∨ bt s (i : Int) = 10 then none else unqL k' ((bl s).drop (i + 1)) (acc ++ [bt s (i : Int)]) := by
  obtain ⟨k', rfl⟩ : ∃ k', k = k' + 1 := ⟨k - 1, by omega⟩
  refine ⟨k', rfl, ?_⟩
  have hl : i < (bl s).length := by rw [bl_length]; exact h
  rw [drop_getD hl, bt_bl, Int.toNat_natCast]
  conv => lhs; unfold unqL
  rw [List.length_drop, bl_length, show s.size - (i + 1) + 1 = s.size - i by omega, List.drop_drop]
theorem bl_tail (s : ByteArray) (i : Nat) : bl (s.extract i s.size) = (bl s).drop i := by
  rw [bl_extract, ← bl_length, List.take_length]
theorem unq_end {s : ByteArray} {k i : Nat} (h : ¬ i < s.size) (acc : List Int) : unqL k ((bl s).drop i) acc = none := by
  rw [List.drop_eq_nil_of_le (by rw [bl_length]; omega)]
  cases k <;> rfl
def unqSp : Spec where
  pre xs := ∃ s : ByteArray, xs = [.str s] ∧ s.size ≤ 16777216
  post xs r := ∃ s : ByteArray, xs = [.str s] ∧ r = unqOut s
  cost _ := 0
  fresh := true
def unqSf (s : ByteArray) (p : Nat × List Int × Nat) : Sh := ⟨[(0, .str s), (5, .own 5), (6, .i p.1)], [(5, .arr 5 1 (rowsB p.2.1))], 0⟩
def unqJ (s : ByteArray) (p : Nat × List Int × Nat) : Prop := 1 ≤ p.1 ∧ p.1 ≤ s.size ∧ p.2.1.length ≤ p.1 ∧ s.size - p.1 ≤ p.2.2 ∧ unqL p.2.2 ((bl s).drop p.1) p.2.1 = unqS s
theorem unq_ctr {cx : Cx} (h : Seat cx) : Ctr cx 16 unqSp := by
  refine ctr_of (fn := Tryd.f16) (l := [.tmp 2, .tmp 3, .tmp 4]) (envL [(61, hiddenS), (63, escS)]) [0, 2, 3, 4, 5, 6, 7, 8, 9, 16, 20, 30, 37, 49, 58] [] [] (envL_cons (hidden_ctr h) (envL_cons (esc_ctr h) (env0 h.hP))) ?_ (by rw [h.hP]; exact Tryd.func16) rfl (by kernel_rfl) rfl ?_ ?_
  · rw [h.hP]; exact ⟨_, Tryd.func16, by kernel_rfl, by kernel_rfl⟩
  · rintro xs ⟨s, rfl, hs⟩; exact ⟨_, s, rfl, rfl⟩
  · rintro xs ⟨s, rfl, hs⟩
    refine ⟨by rw [Tryd.ntmps16]; simp, ?_⟩
    simp only [go_sem, h.hP, unqSp, hiddenS, escS, str_nil, Tryd.ntmps16, Nat.reduceEqDiff, reduceCtorEq, Nat.reduceMul, Nat.reduceAdd, Nat.reduceLeDiff, Nat.reduceLT, Nat.reduceBNe, Nat.reduceBEq, reduceIte, Int.reduceLE, Int.reduceLT, Int.reduceToNat, Int.reduceNeg, Int.reduceAdd, Int.reduceSub, Int.reduceMul, Int.reduceEq]
    (repeat' (first | with_reducible apply And.intro | with_reducible intro))
    all_goals try omega
    all_goals first
      | exact (out_none (unqS_empty (by assumption))).symm
      | exact (out_none (unqS_no (by assumption))).symm
      | skip
    · have h34 : bt s 0 = 34 := by assumption
      have h0 : 0 < s.size := by omega
      refine vc_loop _ (unqSf s) (unqJ s) (fun p => s.size - p.1) [(5, 5, 1)] ?_ ?_
      · refine meets_mk _ (1, [], s.size) ⟨Nat.le_refl _, h0, Nat.zero_le _, Nat.sub_le _ _, (unqS_yes h0 h34).symm⟩ ?_
        simp only [go_sem, h.hP, unqSf, Tryd.ntmps16, Nat.reduceEqDiff, reduceCtorEq, Nat.reduceMul, Nat.reduceAdd, Nat.reduceLeDiff, Nat.reduceLT, Nat.reduceBNe, Nat.reduceBEq, reduceIte, Int.reduceLE, Int.reduceLT, Int.reduceToNat, Int.reduceNeg, Int.reduceAdd, Int.reduceSub, Int.reduceMul, Int.reduceEq]
        exact ⟨rfl, rfl⟩
      · rintro ⟨i, acc, k⟩ ⟨j1, j2, j3, j4, j5⟩
        simp only at j1 j2 j3 j4 j5
        simp only [go_sem, h.hP, unqSf, unqSp, hiddenS, escS, Tryd.ntmps16, Nat.reduceEqDiff, reduceCtorEq, Nat.reduceMul, Nat.reduceAdd, Nat.reduceLeDiff, Nat.reduceLT, Nat.reduceBNe, Nat.reduceBEq, reduceIte, Int.reduceLE, Int.reduceLT, Int.reduceToNat, Int.reduceNeg, Int.reduceAdd, Int.reduceSub, Int.reduceMul, Int.reduceEq]
        have hw : IntKind.i64.wrap ((i : Int) + 1) = ((i + 1 : Nat) : Int) := i64s (by omega)
        simp only [hw, Int.toNat_natCast, bl_tail, rowsB_len, rows1]
        have hstep : i < s.size → _ := fun hi => unq_step hi j4 acc
        have he := escL_le ((bl s).drop (i + 1))
        rw [List.length_drop, bl_length] at he
        have hnone : unqS s = none → AV.tcons (.str ⟨#[]⟩) (.tcons (.i 0) (.tcons (.i 9) .tnil)) = unqOut s := fun e => (out_none e).symm
        (repeat' (first | with_reducible apply And.intro | with_reducible intro))
        all_goals try omega
        all_goals first
          | exact rowsB_u8 _ _ (by assumption)
          | (rw [ByteArray.size_extract]; omega)
          | (have hi : ¬ i < s.size := by omega
             exact hnone (by rw [← j5, unq_end hi]))
          | (have hi : i < s.size := by omega
             obtain ⟨k', rfl, hst⟩ := hstep hi
             clear hstep
             rw [j5] at hst
             first
               | (rw [if_pos (by omega)] at hst
                  rw [out_some hst, numsOf_rowsB, show ((i + 1 : Nat) : Int) = (s.size : Int) - ((s.size - i : Nat) : Int) + 1 by omega])
               | (refine hnone ?_
                  rw [hst, if_neg (by omega)]
                  first
                    | rw [if_pos (by omega), if_pos (by omega)]
                    | (rw [if_neg (by omega), if_pos]
                       first
                         | exact .inl (by assumption)
                         | exact .inr (by omega)))
               | (rw [if_neg (by omega), if_pos (by omega), if_neg (by omega)] at hst
                  refine below_mk _ (i + 1 + (escL ((bl s).drop (i + 1))).2.toNat, acc ++ [(escL ((bl s).drop (i + 1))).1], k') ⟨by show 1 ≤ _; omega, by show _ ≤ s.size; omega, by show (acc ++ [_]).length ≤ _; simp; omega, by show s.size - _ ≤ k'; omega, hst.symm⟩ (by show s.size - _ < _; omega) ?_
                  simp only [go_sem, h.hP, unqSf, Tryd.ntmps16, Nat.reduceEqDiff, reduceCtorEq, Nat.reduceMul, Nat.reduceAdd, Nat.reduceLeDiff, Nat.reduceLT, Nat.reduceBNe, Nat.reduceBEq, reduceIte, Int.reduceLE, Int.reduceLT, Int.reduceToNat, Int.reduceNeg, Int.reduceAdd, Int.reduceSub, Int.reduceMul, Int.reduceEq]
                  refine ⟨?_, by rw [rowsB_app]⟩
                  rw [i64w (n := 1 + _) (by omega) (by omega), i64w (by omega) (by omega)]
                  omega)
               | (rw [if_neg (by omega), if_neg (by omega), if_neg (by rintro (e | e) <;> simp_all)] at hst
                  refine below_mk _ (i + 1, acc ++ [bt s (i : Int)], k') ⟨by show 1 ≤ _; omega, by show _ ≤ s.size; omega, by show (acc ++ [_]).length ≤ _; simp; omega, by show s.size - _ ≤ k'; omega, hst.symm⟩ (by show s.size - _ < _; omega) ?_
                  simp only [go_sem, h.hP, unqSf, Tryd.ntmps16, Nat.reduceEqDiff, reduceCtorEq, Nat.reduceMul, Nat.reduceAdd, Nat.reduceLeDiff, Nat.reduceLT, Nat.reduceBNe, Nat.reduceBEq, reduceIte, Int.reduceLE, Int.reduceLT, Int.reduceToNat, Int.reduceNeg, Int.reduceAdd, Int.reduceSub, Int.reduceMul, Int.reduceEq]
                  first | exact ⟨rfl, by rw [rowsB_app]⟩ | rw [rowsB_app]))
end Go.Avc
