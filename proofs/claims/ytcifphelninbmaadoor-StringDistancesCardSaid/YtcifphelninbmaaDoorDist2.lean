/- The program's distance of two lists: its contract. No condition. -/
import Derived.Test.YtcifphelninbmaaDoorDist
set_option linter.unusedVariables false
set_option linter.unusedSimpArgs false
set_option maxRecDepth 100000
namespace Go.Avc
open Go Go.Proofs

def min3 (x y z : Int) : Int := if z < (if y < x then y else x) then z else (if y < x then y else x)
/-- A row of distances behind its first place. -/
def dStep (x : Int) : Int → Int → List Int → List Int → List Int
  | before, left, y :: b, o :: old => min3 (if x = y then before else before + 1) (left + 1) (o + 1) :: dStep x o (min3 (if x = y then before else before + 1) (left + 1) (o + 1)) b old
  | _, _, _, _ => []
def dRow (x : Int) (i : Nat) (b row : List Int) : List Int := ((i : Int) + 1) :: dStep x (row.getD 0 0) ((i : Int) + 1) b (row.drop 1)
def dRows (b : List Int) : List Int → Nat → List Int → List Int
  | [], _, row => row
  | x :: a, i, row => dRows b a (i + 1) (dRow x i b row)
def row0 (m : Nat) : List Int := (List.range (m + 1)).map fun (j : Nat) => (j : Int)
def distP (a b : List Int) : Int := (dRows b a 0 (row0 b.length)).getD b.length 0
def distS : Spec where
  pre xs := ∃ a b : List Int, xs = [.sl (rowsK .i32 a), .sl (rowsK .i32 b)] ∧ a.length ≤ 1073741824 ∧ b.length ≤ 1073741824
  post xs r := ∃ a b : List Int, xs = [.sl (rowsK .i32 a), .sl (rowsK .i32 b)] ∧ r = .i (distP a b)
  cost _ := 0
  fresh := true
theorem rowsK_inj {k : IntKind} {l m : List Int} : rowsK k l = rowsK k m ↔ l = m := by
  refine ⟨fun h => ?_, fun h => by rw [h]⟩
  have : numsOf (rowsK k l) = numsOf (rowsK k m) := by rw [h]
  have hn : ∀ l, numsOf (rowsK k l) = l := fun l => by
    unfold numsOf rowsK
    rw [List.map_map]
    induction l with
    | nil => rfl
    | cons x r ih => simp [ih]
  rwa [hn, hn] at this
def L0 (m j : Nat) : List Int := (List.range j).map (fun (t : Nat) => (t : Int)) ++ List.replicate (m + 1 - j) 0
theorem L0_len {m j : Nat} (h : j ≤ m + 1) : (L0 m j).length = m + 1 := by
  unfold L0; rw [List.length_append, List.length_map, List.length_range, List.length_replicate]; omega
theorem L0_get {m j t : Nat} : (L0 m j).getD t 0 = if t < j then (t : Int) else 0 := by
  unfold L0
  rw [List.getD_eq_getElem?_getD, List.getElem?_append]
  simp only [List.length_map, List.length_range]
  split
  · rename_i h
    simp [List.getElem?_map, List.getElem?_range h]
  · rw [List.getElem?_replicate]
    split <;> rfl
theorem getD_ext {l m : List Int} (hl : l.length = m.length) (h : ∀ t, l.getD t 0 = m.getD t 0) : l = m := by
  apply List.ext_getElem hl
  intro t h1 h2
  have := h t
  rwa [getD_lt h1, getD_lt h2] at this
theorem set_get {l : List Int} {i t : Nat} {c : Int} (hi : i < l.length) : (l.set i c).getD t 0 = if t = i then c else l.getD t 0 := by
  rw [List.getD_eq_getElem?_getD, List.getElem?_set, List.getD_eq_getElem?_getD]
  by_cases h : i = t
  · subst h; simp [hi]
  · rw [if_neg h, if_neg (fun e => h e.symm)]
theorem L0_set {m j : Nat} (h : j < m + 1) : (L0 m j).set j (j : Int) = L0 m (j + 1) := by
  apply getD_ext
  · rw [List.length_set, L0_len (by omega), L0_len (by omega)]
  · intro t
    rw [set_get (by rw [L0_len (by omega)]; exact h), L0_get, L0_get]
    by_cases e : t = j
    · subst e; rw [if_pos rfl, if_pos (by omega)]
    · rw [if_neg e]
      by_cases e2 : t < j
      · rw [if_pos e2, if_pos (by omega)]
      · rw [if_neg e2, if_neg (by omega)]
theorem L0_end (m : Nat) : L0 m (m + 1) = row0 m := by
  unfold L0 row0
  rw [Nat.sub_self]
  exact List.append_nil _
theorem repl_rows (n : Nat) : List.replicate n [D.int .i64 0] = rowsK .i64 (List.replicate n 0) := by
  unfold rowsK; rw [List.map_replicate]
def Sf0 (a b : List Int) (j : Nat) : Sh := ⟨[(0, .sl (rowsK .i32 a)), (1, .sl (rowsK .i32 b)), (5, .own 5), (18, .i ((b.length : Int) + 1)), (19, .i j)], [(5, .arr 3 1 (rowsK .i64 (L0 b.length j)))], 0⟩
def Sf1 (a b : List Int) (p : List Int × Nat) : Sh := ⟨[(0, .sl (rowsK .i32 a)), (1, .sl (rowsK .i32 b)), (5, .own 5), (27, .sl (rowsK .i32 a)), (28, .i a.length), (29, .i p.2)], [(5, .arr 3 1 (rowsK .i64 p.1))], 0⟩
def Sf2 (a b : List Int) (i : Nat) (x : Int) (p : List Int × Int × Nat) : Sh := ⟨[(0, .sl (rowsK .i32 a)), (1, .sl (rowsK .i32 b)), (5, .own 5), (8, .dv (.d (.int .i32 x))), (9, .i p.2.1), (27, .sl (rowsK .i32 a)), (28, .i a.length), (29, .i i), (41, .sl (rowsK .i32 b)), (42, .i b.length), (43, .i p.2.2)], [(5, .arr 3 1 (rowsK .i64 p.1))], 0⟩
def bnds (i : Nat) (r : List Int) : Prop := ∀ t, 0 ≤ r.getD t 0 ∧ r.getD t 0 ≤ (i : Int) + t
def J1 (a b : List Int) (p : List Int × Nat) : Prop := p.1.length = b.length + 1 ∧ p.2 ≤ a.length ∧ bnds p.2 p.1 ∧ (dRows b (a.drop p.2) p.2 p.1).getD b.length 0 = distP a b
def J2 (b : List Int) (i : Nat) (x : Int) (R : List Int) (p : List Int × Int × Nat) : Prop := p.1.length = b.length + 1 ∧ p.2.2 ≤ b.length ∧ bnds (i + 1) p.1 ∧ (0 ≤ p.2.1 ∧ p.2.1 ≤ (i : Int) + 1 + p.2.2) ∧ p.1.take (p.2.2 + 1) ++ dStep x p.2.1 (p.1.getD p.2.2 0) (b.drop p.2.2) (p.1.drop (p.2.2 + 1)) = R
theorem take_set {l : List Int} {j : Nat} {v : Int} (h : j + 1 < l.length) : (l.set (j + 1) v).take (j + 1 + 1) = l.take (j + 1) ++ [v] := by
  apply List.ext_getElem?
  intro t
  rw [List.getElem?_take, List.getElem?_set, List.getElem?_append, List.length_take, Nat.min_eq_left (by omega), List.getElem?_take]
  by_cases h1 : t < j + 1
  · rw [if_pos (by omega), if_neg (by omega), if_pos h1, if_pos h1]
  · rw [if_neg h1]
    by_cases h2 : t = j + 1
    · subst h2
      rw [if_pos (by omega), if_pos rfl, if_pos h, Nat.sub_self]
      rfl
    · rw [if_neg (by omega), List.getElem?_eq_none (by simp; omega)]
theorem drop_set' {l : List Int} {j : Nat} {v : Int} : (l.set (j + 1) v).drop (j + 1 + 1) = l.drop (j + 1 + 1) := by
  apply List.ext_getElem?
  intro t
  rw [List.getElem?_drop, List.getElem?_drop, List.getElem?_set, if_neg (by omega)]
theorem step2 {x bf : Int} {b r : List Int} {j : Nat} (hj : j < b.length) (hr : r.length = b.length + 1) {v : Int} (hv : v = min3 (if x = b.getD j 0 then bf else bf + 1) (r.getD j 0 + 1) (r.getD (j + 1) 0 + 1)) :
    (r.set (j + 1) v).take (j + 1 + 1) ++ dStep x (r.getD (j + 1) 0) ((r.set (j + 1) v).getD (j + 1) 0) (b.drop (j + 1)) ((r.set (j + 1) v).drop (j + 1 + 1)) = r.take (j + 1) ++ dStep x bf (r.getD j 0) (b.drop j) (r.drop (j + 1)) := by
  rw [take_set (by omega), drop_set', set_get (by omega), if_pos rfl, drop_getD hj, drop_getD (l := r) (i := j + 1) (by omega)]
  conv => rhs; unfold dStep
  rw [← hv, List.append_assoc]
  rfl
theorem min3_le {x y z : Int} (hx : 0 ≤ x) (hy : 0 ≤ y) (hz : 0 ≤ z) : 0 ≤ min3 x y z ∧ min3 x y z ≤ y := by
  unfold min3
  repeat' split
  all_goals omega
theorem dist_ctr {cx : Cx} (h : Seat cx) : Ctr cx 68 distS := by
  refine ctr_of (fn := Tryd.f68) (l := [.tmp 4]) (envL []) [0, 1, 4, 5, 6, 7, 8, 9, 10, 11, 12, 18, 19, 20, 27, 28, 29, 30, 41, 42, 43, 44, 51] [] [] (env0 h.hP) ?_ (by rw [h.hP]; exact Tryd.func68) rfl (by kernel_rfl) rfl ?_ ?_
  · rw [h.hP]; exact ⟨_, Tryd.func68, by kernel_rfl, by kernel_rfl⟩
  · rintro xs ⟨a, b, rfl, h1, h2⟩; exact ⟨_, a, b, rfl, rfl⟩
  · rintro xs ⟨a, b, rfl, h1, h2⟩
    refine ⟨by rw [Tryd.ntmps68]; simp, ?_⟩
    simp only [go_sem, h.hP, distS, rowsK_len, Tryd.ntmps68, Nat.reduceEqDiff, reduceCtorEq, Nat.reduceMul, Nat.reduceAdd, Nat.reduceLeDiff, Nat.reduceLT, Nat.reduceBNe, Nat.reduceBEq, reduceIte, Int.reduceLE, Int.reduceLT, Int.reduceToNat, Int.reduceNeg, Int.reduceAdd, Int.reduceSub, Int.reduceMul, Int.reduceEq]
    have hw1 : IntKind.i64.wrap ((b.length : Int) + 1) = (b.length : Int) + 1 := i64w (by omega) (by omega)
    rw [hw1]
    refine ⟨by omega, by omega, by omega, ?_⟩
    refine vc_loop _ (Sf0 a b) (fun j => j ≤ b.length + 1) (fun j => b.length + 1 - j) [(5, 3, 1)] ?_ ?_
    · refine meets_mk _ 0 (Nat.zero_le _) ?_
      simp only [go_sem, h.hP, Sf0, Tryd.ntmps68, Nat.reduceEqDiff, reduceCtorEq, Nat.reduceMul, Nat.reduceAdd, Nat.reduceLeDiff, Nat.reduceLT, Nat.reduceBNe, Nat.reduceBEq, reduceIte, Int.reduceLE, Int.reduceLT, Int.reduceToNat, Int.reduceNeg, Int.reduceAdd, Int.reduceSub, Int.reduceMul, Int.reduceEq]
      refine ⟨by rw [List.length_replicate]; omega, rfl, ?_⟩
      rw [repl_rows]
      unfold L0
      rw [show ((b.length : Int) + 1).toNat = b.length + 1 by omega]
      rfl
    · intro j hj
      have hl0 := L0_len hj
      simp only [go_sem, h.hP, Sf0, distS, rowsK_len, rowsK_get, rowsK_set, spl_one, hl0, Tryd.ntmps68, Nat.reduceEqDiff, reduceCtorEq, Nat.reduceMul, Nat.reduceAdd, Nat.reduceLeDiff, Nat.reduceLT, Nat.reduceBNe, Nat.reduceBEq, reduceIte, Int.reduceLE, Int.reduceLT, Int.reduceToNat, Int.reduceNeg, Int.reduceAdd, Int.reduceSub, Int.reduceMul, Int.reduceEq]
      refine ⟨fun c1 => ⟨by omega, by omega, by omega, ?_⟩, fun c1 => ?_⟩
      · refine below_mk (J := fun j => j ≤ b.length + 1) (μ := fun j => b.length + 1 - j) _ (j + 1) (by show j + 1 ≤ _; omega) (by show _ - _ < _; omega) ?_
        simp only [go_sem, h.hP, Sf0, Tryd.ntmps68, Nat.reduceEqDiff, reduceCtorEq, Nat.reduceMul, Nat.reduceAdd, Nat.reduceLeDiff, Nat.reduceLT, Nat.reduceBNe, Nat.reduceBEq, reduceIte, Int.reduceLE, Int.reduceLT, Int.reduceToNat, Int.reduceNeg, Int.reduceAdd, Int.reduceSub, Int.reduceMul, Int.reduceEq]
        exact ⟨i64s (by omega), by rw [L0_set (by omega)]⟩
      · have hj2 : j = b.length + 1 := by omega
        subst hj2
        rw [L0_end]
        refine vc_loop _ (Sf1 a b) (J1 a b) (fun p => a.length - p.2) [(5, 3, 1)] ?_ ?_
        · refine meets_mk _ (row0 b.length, 0) ⟨?_, Nat.zero_le _, ?_, rfl⟩ ?_
          · show (row0 b.length).length = b.length + 1
            rw [← L0_end, L0_len (Nat.le_refl _)]
          · intro t
            show 0 ≤ (row0 b.length).getD t 0 ∧ (row0 b.length).getD t 0 ≤ ((0 : Nat) : Int) + t
            rw [← L0_end, L0_get]
            split <;> omega
          · simp only [go_sem, h.hP, Sf1, Tryd.ntmps68, Nat.reduceEqDiff, reduceCtorEq, Nat.reduceMul, Nat.reduceAdd, Nat.reduceLeDiff, Nat.reduceLT, Nat.reduceBNe, Nat.reduceBEq, reduceIte, Int.reduceLE, Int.reduceLT, Int.reduceToNat, Int.reduceNeg, Int.reduceAdd, Int.reduceSub, Int.reduceMul, Int.reduceEq]
            rfl
        · rintro ⟨r, i⟩ ⟨k1, k2, k3, k4⟩
          simp only at k1 k2 k3 k4
          simp only [go_sem, h.hP, Sf1, distS, rowsK_len, rowsK_get, rowsK_set, spl_one, k1, Tryd.ntmps68, Nat.reduceEqDiff, reduceCtorEq, Nat.reduceMul, Nat.reduceAdd, Nat.reduceLeDiff, Nat.reduceLT, Nat.reduceBNe, Nat.reduceBEq, reduceIte, Int.reduceLE, Int.reduceLT, Int.reduceToNat, Int.reduceNeg, Int.reduceAdd, Int.reduceSub, Int.reduceMul, Int.reduceEq]
          have hwi : i < a.length → IntKind.i64.wrap ((i : Int) + 1) = ((i + 1 : Nat) : Int) := fun hi => i64s (by omega)
          refine ⟨fun c2 => ⟨by omega, by omega, by omega, by omega, by omega, by omega, ?_⟩, fun c2 => ?_⟩
          · have hi : i < a.length := by omega
            rw [hwi hi]
            refine vc_loop _ (Sf2 a b i (a.getD i 0)) (J2 b i (a.getD i 0) (dRow (a.getD i 0) i b r)) (fun p => b.length - p.2.2) [(5, 3, 1)] ?_ ?_
            · refine meets_mk _ (r.set 0 ((i : Int) + 1), r.getD 0 0, 0) ⟨?_, Nat.zero_le _, ?_, ?_, ?_⟩ ?_
              · show (r.set 0 _).length = _
                rw [List.length_set, k1]
              · intro t
                show 0 ≤ (r.set 0 _).getD t 0 ∧ (r.set 0 _).getD t 0 ≤ _
                have := k3 t
                rw [set_get (by omega)]
                split <;> omega
              · have := k3 0
                show 0 ≤ r.getD 0 0 ∧ r.getD 0 0 ≤ (i : Int) + 1 + ((0 : Nat) : Int)
                omega
              · show (r.set 0 _).take (0 + 1) ++ dStep _ (r.getD 0 0) ((r.set 0 _).getD 0 0) (b.drop 0) ((r.set 0 _).drop (0 + 1)) = _
                cases r with
                | nil => simp at k1
                | cons x0 r => rfl
              · simp only [go_sem, h.hP, Sf2, Tryd.ntmps68, Nat.reduceEqDiff, reduceCtorEq, Nat.reduceMul, Nat.reduceAdd, Nat.reduceLeDiff, Nat.reduceLT, Nat.reduceBNe, Nat.reduceBEq, reduceIte, Int.reduceLE, Int.reduceLT, Int.reduceToNat, Int.reduceNeg, Int.reduceAdd, Int.reduceSub, Int.reduceMul, Int.reduceEq]
                exact ⟨rfl, rfl⟩
            · rintro ⟨r2, bf, j⟩ ⟨m1, m2, m3, m4, m5⟩
              simp only at m1 m2 m3 m4 m5
              simp only [go_sem, h.hP, Sf2, distS, rowsK_len, rowsK_get, rowsK_set, spl_one, m1, Tryd.ntmps68, Nat.reduceEqDiff, reduceCtorEq, Nat.reduceMul, Nat.reduceAdd, Nat.reduceLeDiff, Nat.reduceLT, Nat.reduceBNe, Nat.reduceBEq, reduceIte, Int.reduceLE, Int.reduceLT, Int.reduceToNat, Int.reduceNeg, Int.reduceAdd, Int.reduceSub, Int.reduceMul, Int.reduceEq]
              have hwj : j < b.length → IntKind.i64.wrap ((j : Int) + 1) = ((j + 1 : Nat) : Int) := fun hj => i64s (by omega)
              refine ⟨fun c3 => ?_, fun c3 => ?_⟩
              · have hj' : j < b.length := by omega
                have b1 := m3 j
                have b2 := m3 (j + 1)
                rw [hwj hj', Int.toNat_natCast, i64w (n := bf + 1) (by omega) (by omega), i64w (n := r2.getD j 0 + 1) (by omega) (by omega), i64w (n := r2.getD (j + 1) 0 + 1) (by omega) (by omega)]
                have leaf : ∀ v : Int, v = min3 (if a.getD i 0 = b.getD j 0 then bf else bf + 1) (r2.getD j 0 + 1) (r2.getD (j + 1) 0 + 1) → ∀ σ, At 79 [(5, 3, 1)] (Sf2 a b i (a.getD i 0) (r2.set (j + 1) v, r2.getD (j + 1) 0, j + 1)) σ →
                    Below 79 [(5, 3, 1)] (Sf2 a b i (a.getD i 0)) (J2 b i (a.getD i 0) (dRow (a.getD i 0) i b r)) (fun p => b.length - p.2.2) (b.length - j) σ := fun v hv σ hσ => by
                  refine below_mk _ _ ⟨?_, ?_, ?_, ?_, ?_⟩ (by show b.length - (j + 1) < b.length - j; omega) hσ
                  · show (r2.set _ _).length = _; rw [List.length_set, m1]
                  · show j + 1 ≤ _; omega
                  · intro t
                    show 0 ≤ (r2.set (j + 1) v).getD t 0 ∧ (r2.set (j + 1) v).getD t 0 ≤ _
                    rw [set_get (by omega)]
                    have hm := min3_le (x := if a.getD i 0 = b.getD j 0 then bf else bf + 1) (y := r2.getD j 0 + 1) (z := r2.getD (j + 1) 0 + 1) (by split <;> omega) (by omega) (by omega)
                    split
                    · rename_i e; subst e; rw [hv]; omega
                    · exact m3 t
                  · show 0 ≤ r2.getD (j + 1) 0 ∧ r2.getD (j + 1) 0 ≤ (i : Int) + 1 + ((j + 1 : Nat) : Int); omega
                  · show (r2.set (j + 1) v).take (j + 1 + 1) ++ dStep _ (r2.getD (j + 1) 0) ((r2.set (j + 1) v).getD (j + 1) 0) (b.drop (j + 1)) ((r2.set (j + 1) v).drop (j + 1 + 1)) = _
                    rw [step2 hj' m1 hv]; exact m5
                refine ⟨by omega, by omega, fun c4 => ⟨by omega, by omega, by omega, by omega, by omega, by omega, by omega, by omega, by omega, leaf (min3 (bf + 1) (r2.getD j 0 + 1) (r2.getD (j + 1) 0 + 1)) ?_ _ ?_⟩, fun c4 => ⟨by omega, by omega, by omega, by omega, by omega, by omega, by omega, by omega, by omega, leaf (min3 bf (r2.getD j 0 + 1) (r2.getD (j + 1) 0 + 1)) ?_ _ ?_⟩⟩
                · rw [if_neg c4]
                · simp only [go_sem, h.hP, Sf2, Tryd.ntmps68, Nat.reduceEqDiff, reduceCtorEq, Nat.reduceMul, Nat.reduceAdd, Nat.reduceLeDiff, Nat.reduceLT, Nat.reduceBNe, Nat.reduceBEq, reduceIte, Int.reduceLE, Int.reduceLT, Int.reduceToNat, Int.reduceNeg, Int.reduceAdd, Int.reduceSub, Int.reduceMul, Int.reduceEq]
                  rfl
                · rw [if_pos c4]
                · simp only [go_sem, h.hP, Sf2, Tryd.ntmps68, Nat.reduceEqDiff, reduceCtorEq, Nat.reduceMul, Nat.reduceAdd, Nat.reduceLeDiff, Nat.reduceLT, Nat.reduceBNe, Nat.reduceBEq, reduceIte, Int.reduceLE, Int.reduceLT, Int.reduceToNat, Int.reduceNeg, Int.reduceAdd, Int.reduceSub, Int.reduceMul, Int.reduceEq]
                  rfl
              · have hj' : j = b.length := by omega
                subst hj'
                rw [List.drop_eq_nil_of_le (Nat.le_refl _), show b.length + 1 = r2.length from m1.symm, List.take_length, List.drop_length] at m5
                have hR : r2 = dRow (a.getD i 0) i b r := by rw [← m5]; exact (List.append_nil _).symm
                refine below_mk _ (r2, i + 1) ⟨m1, by show i + 1 ≤ _; omega, m3, ?_⟩ (by show a.length - (i + 1) < a.length - i; omega) ?_
                · show (dRows b (a.drop (i + 1)) (i + 1) r2).getD b.length 0 = _
                  rw [← k4, drop_getD (l := a) (i := i) hi, hR]
                  rfl
                · simp only [go_sem, h.hP, Sf1, Tryd.ntmps68, Nat.reduceEqDiff, reduceCtorEq, Nat.reduceMul, Nat.reduceAdd, Nat.reduceLeDiff, Nat.reduceLT, Nat.reduceBNe, Nat.reduceBEq, reduceIte, Int.reduceLE, Int.reduceLT, Int.reduceToNat, Int.reduceNeg, Int.reduceAdd, Int.reduceSub, Int.reduceMul, Int.reduceEq]
                  exact hwi hi
          · have hi : i = a.length := by omega
            subst hi
            rw [List.drop_length] at k4
            exact ⟨by omega, by omega, by omega, a, rfl, b, rfl, k4⟩
end Go.Avc
