/- The reference's Unquoted: its contract. No condition. -/
import Derived.Test.YtcifphelninbmaaDoorQuo3
set_option linter.unusedVariables false
set_option linter.unusedSimpArgs false
set_option maxRecDepth 100000
namespace Go.Avc
open Go Go.Proofs

def unqROut (s : ByteArray) : AV := match unqS s with
  | some (l, k) => .tcons (.str (strOfNums l)) (.tcons (.i ((s.size : Int) - k + 1)) (.tcons (.b true) .tnil))
  | none => .tcons (.str ⟨#[]⟩) (.tcons (.i 0) (.tcons (.b false) .tnil))
theorem rout_none {s : ByteArray} (h : unqS s = none) : unqROut s = .tcons (.str ⟨#[]⟩) (.tcons (.i 0) (.tcons (.b false) .tnil)) := by unfold unqROut; rw [h]
theorem rout_some {s : ByteArray} {l : List Int} {k : Nat} (h : unqS s = some (l, k)) : unqROut s = .tcons (.str (strOfNums l)) (.tcons (.i ((s.size : Int) - k + 1)) (.tcons (.b true) .tnil)) := by unfold unqROut; rw [h]
theorem find_at {rest : List Int} {c : Nat} (h1 : ∀ x : Nat, x < c → (q1 (x : Int)).isPrefixOf rest = false) (hc : c < 256) (h2 : (q1 (c : Int)).isPrefixOf rest = true) : findC rest = some (c : Int) := by
  unfold findC
  rw [show ((List.range 256).find? fun (x : Nat) => (q1 (x : Int)).isPrefixOf rest) = some c from ?_]
  · rfl
  · rw [List.find?_eq_some_iff_getElem]
    exact ⟨h2, c, by simpa using hc, by simp, fun j hj => by simp [h1 j hj]⟩
theorem find_no {rest : List Int} (h1 : ∀ x : Nat, x < 256 → (q1 (x : Int)).isPrefixOf rest = false) : findC rest = none := by
  unfold findC
  rw [show ((List.range 256).find? fun (x : Nat) => (q1 (x : Int)).isPrefixOf rest) = none from ?_]
  · rfl
  · rw [List.find?_eq_none]
    intro x hx
    rw [h1 x (by simpa using hx)]
    decide
theorem unqS_R (s : ByteArray) : unqS s = if (bl s).head? = some 34 then unqR s.size ((bl s).drop 1) [] else none := by
  unfold unqS
  rw [unq_same _ _ _ (isBs_drop (bl_bs s) 1)]
theorem unqR_step {t : ByteArray} {k : Nat} (h : 0 < t.size) (hk : t.size ≤ k) (acc : List Int) : ∃ k', k = k' + 1 ∧ unqR k (bl t) acc = if bt t 0 = 34 then some (acc, t.size) else match findC (bl t) with
    | none => none
    | some x => unqR k' ((bl t).drop (q1 x).length) (acc ++ [x]) := by
  obtain ⟨k', rfl⟩ : ∃ k', k = k' + 1 := ⟨k - 1, by omega⟩
  refine ⟨k', rfl, ?_⟩
  rw [bt_bl, ← bl_length]
  have hl : 0 < (bl t).length := by rw [bl_length]; exact h
  cases hb : bl t with
  | nil => rw [hb] at hl; simp at hl
  | cons c r => rfl
theorem unqR_nil {t : ByteArray} (h : t.size = 0) (k : Nat) (acc : List Int) : unqR k (bl t) acc = none := by
  rw [show bl t = [] from List.eq_nil_of_length_eq_zero (by rw [bl_length]; exact h)]
  cases k <;> rfl
theorem bl_quotedF (s : ByteArray) : bl (quotedF s) = quotedL (bl s) := bl_str (quotedL_bs (bl_bs s))
theorem q_size {c : Int} (h : 0 ≤ c ∧ c ≤ 255) : (quotedF (strOfNums [c])).size = (q1 c).length + 2 := by
  rw [← bl_length, bl_quotedF, bl_str (isBs_cons.2 ⟨h, isBs_nil⟩)]
  simp [quotedL]
theorem q_inner {c : Int} (h : 0 ≤ c ∧ c ≤ 255) : bl ((quotedF (strOfNums [c])).extract 1 ((q1 c).length + 1)) = q1 c := by
  rw [bl_extract, bl_quotedF, bl_str (isBs_cons.2 ⟨h, isBs_nil⟩)]
  simp [quotedL]
theorem hasPre34 (s : ByteArray) : hasPre s ⟨#[34]⟩ = true ↔ (bl s).head? = some 34 := by
  unfold hasPre
  rw [show bl ⟨#[34]⟩ = [34] by decide]
  cases bl s with
  | nil => simp
  | cons c r =>
    simp only [List.isPrefixOf, Bool.and_true, beq_iff_eq, List.head?_cons, Option.some.injEq]
    exact ⟨fun e => e.symm, fun e => e.symm⟩
def unqRSp : Spec where
  pre xs := ∃ s : ByteArray, xs = [.str s] ∧ s.size ≤ 16777216
  post xs r := ∃ s : ByteArray, xs = [.str s] ∧ r = unqROut s
  cost _ := 0
  fresh := true
def urSf (s : ByteArray) (p : ByteArray × List Int × Nat) : Sh := ⟨[(0, .str s), (5, .own 5), (6, .str p.1)], [(5, .arr 5 1 (rowsB p.2.1))], 0⟩
def urJ (s : ByteArray) (p : ByteArray × List Int × Nat) : Prop := p.1.size + 1 ≤ s.size ∧ p.2.1.length + p.1.size ≤ s.size ∧ p.1.size ≤ p.2.2 ∧ unqR p.2.2 (bl p.1) p.2.1 = unqS s
def urSi (s t : ByteArray) (acc : List Int) (c : Nat) : Sh := ⟨[(0, .str s), (5, .own 5), (6, .str t), (7, .b false), (28, .i c)], [(5, .arr 5 1 (rowsB acc))], 0⟩
theorem unqr_ctr {cx : Cx} (h : Seat cx) : Ctr cx 17 unqRSp := by
  refine ctr_of (fn := Tryd.f17) (l := [.tmp 2, .tmp 3, .tmp 4]) (envL [(64, hasPreS), (13, quoteS)]) [0, 2, 3, 4, 5, 6, 7, 8, 9, 12, 16, 19, 28, 29, 43, 55] [] [(15, [0, 1, 2, 5, 6, 7, 8], [3, 4, 9, 10, 11])] (envL_cons (hasPre_ctr h) (envL_cons (quoted_ctr h) (env0 h.hP))) ?_ (by rw [h.hP]; exact Tryd.func17) rfl (by kernel_rfl) rfl ?_ ?_
  · rw [h.hP]; exact ⟨_, Tryd.func17, by kernel_rfl, by kernel_rfl⟩
  · rintro xs ⟨s, rfl, hs⟩; exact ⟨_, s, rfl, rfl⟩
  · rintro xs ⟨s, rfl, hs⟩
    refine ⟨by rw [Tryd.ntmps17]; simp, ?_⟩
    simp only [go_sem, h.hP, unqRSp, hasPreS, quoteS, Tryd.ntmps17, Nat.reduceEqDiff, reduceCtorEq, Nat.reduceMul, Nat.reduceAdd, Nat.reduceLeDiff, Nat.reduceLT, Nat.reduceBNe, Nat.reduceBEq, reduceIte, Int.reduceLE, Int.reduceLT, Int.reduceToNat, Int.reduceNeg, Int.reduceAdd, Int.reduceSub, Int.reduceMul, Int.reduceEq]
    have hhp := hasPre34 s
    have hne : ¬ (bl s).head? = some 34 → unqS s = none := fun e => by unfold unqS; rw [if_neg e]
    have hsz : (bl s).head? = some 34 → 0 < s.size := fun e => by
      rw [← bl_length]
      cases hb : bl s with
      | nil => rw [hb] at e; cases e
      | cons c r => simp
    (repeat' (first | with_reducible apply And.intro | with_reducible intro))
    all_goals first
      | (with_reducible show Go.Avc.vc _ _ _ _ _ _)
      | omega
      | exact (rout_none (hne (by rw [← hhp]; simp_all))).symm
      | (have h34 := hhp.1 (by assumption); have := hsz h34; omega)
      | skip
    have h34 := hhp.1 (by assumption)
    have h0 := hsz h34
    clear hhp hne hsz
    refine vc_loop _ (urSf s) (urJ s) (fun p => p.1.size) [(5, 5, 1)] ?_ ?_
    · refine meets_mk _ (s.extract 1 s.size, [], s.size) ⟨?_, ?_, ?_, ?_⟩ ?_
      · show (s.extract 1 s.size).size + 1 ≤ s.size
        rw [ByteArray.size_extract]; omega
      · show 0 + (s.extract 1 s.size).size ≤ s.size
        rw [ByteArray.size_extract]; omega
      · show (s.extract 1 s.size).size ≤ s.size
        rw [ByteArray.size_extract]; omega
      · show unqR s.size (bl (s.extract 1 s.size)) [] = unqS s
        rw [bl_tail, unqS_R, if_pos h34]
      · simp only [go_sem, h.hP, urSf, Tryd.ntmps17, Nat.reduceEqDiff, reduceCtorEq, Nat.reduceMul, Nat.reduceAdd, Nat.reduceLeDiff, Nat.reduceLT, Nat.reduceBNe, Nat.reduceBEq, reduceIte, Int.reduceLE, Int.reduceLT, Int.reduceToNat, Int.reduceNeg, Int.reduceAdd, Int.reduceSub, Int.reduceMul, Int.reduceEq]
        rfl
    · rintro ⟨t, acc, k⟩ ⟨j1, j2, j3, j4⟩
      simp only at j1 j2 j3 j4
      simp only [go_sem, h.hP, urSf, unqRSp, hasPreS, quoteS, str_nil, Tryd.ntmps17, Nat.reduceEqDiff, reduceCtorEq, Nat.reduceMul, Nat.reduceAdd, Nat.reduceLeDiff, Nat.reduceLT, Nat.reduceBNe, Nat.reduceBEq, reduceIte, Int.reduceLE, Int.reduceLT, Int.reduceToNat, Int.reduceNeg, Int.reduceAdd, Int.reduceSub, Int.reduceMul, Int.reduceEq]
      refine ⟨fun c1 => ⟨by omega, fun c2 => ⟨fun x hx => rowsB_u8 _ _ hx, ?_⟩, fun c2 => ?_⟩, fun c1 => ?_⟩
      · obtain ⟨k', rfl, hst⟩ := unqR_step (by omega) j3 acc
        rw [j4, if_pos c2] at hst
        rw [rout_some hst, numsOf_rowsB, i64w (n := (s.size : Int) - t.size) (by omega) (by omega), i64w (by omega) (by omega)]
      · refine vc_loop _ (urSi s t acc) (fun c => c ≤ 256 ∧ ∀ x : Nat, x < c → (q1 (x : Int)).isPrefixOf (bl t) = false) (fun c => 256 - c) [] ?_ ?_
        · refine meets_mk _ 0 ⟨by decide, fun x hx => by omega⟩ ?_
          simp only [go_sem, h.hP, urSi, Tryd.ntmps17, Nat.reduceEqDiff, reduceCtorEq, Nat.reduceMul, Nat.reduceAdd, Nat.reduceLeDiff, Nat.reduceLT, Nat.reduceBNe, Nat.reduceBEq, reduceIte, Int.reduceLE, Int.reduceLT, Int.reduceToNat, Int.reduceNeg, Int.reduceAdd, Int.reduceSub, Int.reduceMul, Int.reduceEq]
          rfl
        · rintro c ⟨d1, d2⟩
          simp only [go_sem, h.hP, urSi, unqRSp, hasPreS, quoteS, str_nil, Tryd.ntmps17, Nat.reduceEqDiff, reduceCtorEq, Nat.reduceMul, Nat.reduceAdd, Nat.reduceLeDiff, Nat.reduceLT, Nat.reduceBNe, Nat.reduceBEq, reduceIte, Int.reduceLE, Int.reduceLT, Int.reduceToNat, Int.reduceNeg, Int.reduceAdd, Int.reduceSub, Int.reduceMul, Int.reduceEq]
          have hq1 := q1_len (c : Int)
          refine ⟨fun c3 => ?_, fun c3 => ?_⟩
          · have c3' : c < 256 := by omega
            have hq2 := q_size (c := (c : Int)) ⟨by omega, by omega⟩
            have hq3 := q_inner (c := (c : Int)) ⟨by omega, by omega⟩
            simp only [u8w (n := (c : Int)) (by omega) (by omega), show ∀ n : Int, numsOf [[D.int .u8 n]] = [n] from fun _ => rfl, hq2, show ((((q1 (c : Int)).length + 2 : Nat) : Int) - 1) = (((q1 (c : Int)).length + 1 : Nat) : Int) by omega, i64w (n := (((q1 (c : Int)).length + 1 : Nat) : Int)) (by omega) (by omega), Int.toNat_natCast]
            have hq4 : ((quotedF (strOfNums [(c : Int)])).extract 1 ((q1 (c : Int)).length + 1)).size = (q1 (c : Int)).length := by rw [← bl_length, hq3]
            generalize (quotedF (strOfNums [(c : Int)])).extract 1 ((q1 (c : Int)).length + 1) = q at *
            have hq5 : hasPre t q = (q1 (c : Int)).isPrefixOf (bl t) := by unfold hasPre; rw [hq3]
            rw [hq5, hq4]
            refine ⟨by rw [strOfNums_size]; simp, by omega, by omega, by omega, fun c4 => ?_, fun c4 => ?_⟩
            · have hle := (List.isPrefixOf_iff_prefix.1 c4).length_le
              rw [bl_length] at hle
              refine ⟨by omega, by omega, by omega, by rw [rowsB_len]; omega, by rw [rowsB_len]; omega, ?_⟩
              obtain ⟨k', rfl, hst⟩ := unqR_step (by omega) j3 acc
              rw [j4, if_neg c2, find_at d2 c3' c4] at hst
              have hsz : (t.extract (q1 (c : Int)).length t.size).size = t.size - (q1 (c : Int)).length := by rw [ByteArray.size_extract]; omega
              refine below_mk _ (t.extract (q1 (c : Int)).length t.size, acc ++ [(c : Int)], k') ⟨?_, ?_, ?_, ?_⟩ ?_ ?_
              · show (t.extract _ _).size + 1 ≤ _; omega
              · show (acc ++ [_]).length + (t.extract _ _).size ≤ _; rw [List.length_append, List.length_singleton]; omega
              · show (t.extract _ _).size ≤ k'; omega
              · show unqR k' (bl (t.extract _ _)) _ = _
                rw [bl_tail]; exact hst.symm
              · show (t.extract _ _).size < t.size; omega
              · simp only [go_sem, h.hP, urSf, Tryd.ntmps17, Nat.reduceEqDiff, reduceCtorEq, Nat.reduceMul, Nat.reduceAdd, Nat.reduceLeDiff, Nat.reduceLT, Nat.reduceBNe, Nat.reduceBEq, reduceIte, Int.reduceLE, Int.reduceLT, Int.reduceToNat, Int.reduceNeg, Int.reduceAdd, Int.reduceSub, Int.reduceMul, Int.reduceEq]
                rw [rowsB_app]; rfl
            · refine below_mk _ (c + 1) ⟨by omega, fun x hx => ?_⟩ (by show 256 - (c + 1) < 256 - c; omega) ?_
              · by_cases e : x = c
                · rw [e]; exact c4
                · exact d2 x (by omega)
              · simp only [go_sem, h.hP, urSi, Tryd.ntmps17, Nat.reduceEqDiff, reduceCtorEq, Nat.reduceMul, Nat.reduceAdd, Nat.reduceLeDiff, Nat.reduceLT, Nat.reduceBNe, Nat.reduceBEq, reduceIte, Int.reduceLE, Int.reduceLT, Int.reduceToNat, Int.reduceNeg, Int.reduceAdd, Int.reduceSub, Int.reduceMul, Int.reduceEq]
                exact i64s (by omega)
          · obtain ⟨k', rfl, hst⟩ := unqR_step (by omega) j3 acc
            rw [j4, if_neg c2, find_no (fun x hx => d2 x (by omega))] at hst
            exact (rout_none hst).symm
      · exact (rout_none (by rw [← j4, unqR_nil c1])).symm
end Go.Avc
