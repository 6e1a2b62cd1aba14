/- IdNormals returns true for every slice of numbers, and leaves it as it was; the two tables of unicode/utf8, which its row lists, lie as the program lays them. -/
import Derived.Test.YtjeljamjocligaaDoorRows
import Derived.Lib.LaidU8
import Derived.Lib.IndexMore
import Derived.Lib.SplitLaws
import Derived.Lib.IndexBytes
import Derived.Test.YtjeljamjocligaaDoorCards
import Derived.Test.YtjeljamjocligaaDoorTie
import Derived.WalkKit
import Derived.ProofKit
import Derived.OpenShut
import Derived.Deep.DeepHandedRow
import Derived.Test.YtjeljamjocligaaDoorKINCS1
import Derived.Test.YtjeljamjocligaaDoorKINCS2
import Derived.Test.YtjeljamjocligaaDoorKINCS3
import Derived.Test.YtjeljamjocligaaDoorKINCS4
/- Code points and distances of strings: the program's functions: their contracts. No condition. -/
set_option linter.unusedVariables false
set_option linter.unusedSimpArgs false
set_option maxRecDepth 100000
namespace Go.Avc
open Go Go.Proofs
def ptsS (k : IntKind) : Spec where
  pre xs := ∃ s : ByteArray, xs = [.str s] ∧ s.size ≤ 1073741824
  post xs r := ∃ s : ByteArray, xs = [.str s] ∧ r = .sl (rowsK k (pts s))
  cost _ := 0
  fresh := true
def ptsSf (p : ByteArray × List Int × Nat) : Sh := ⟨[(0, .str p.1), (3, .own 3)], [(3, .arr 21 1 (rowsK .i32 p.2.1))], 0⟩
def ptsJ (s : ByteArray) (p : ByteArray × List Int × Nat) : Prop := p.2.1.length + p.1.size ≤ s.size ∧ p.1.size ≤ p.2.2 ∧ p.2.1 ++ ptsL p.2.2 p.1 = pts s
theorem pts_ctr {cx : Cx} (h : Seat cx) (hU : Utf8 cx) : Ctr cx 65 (ptsS .i32) := by
  refine ctr_of (fn := Tryd.f65) (l := [.tmp 2]) (envL [(74, decS)]) [0, 2, 3, 4, 5, 7, 18] [] [] (envL_cons (dec_ctr h hU) (env0 h.hP)) ?_ (by rw [h.hP]; exact Tryd.func65) rfl (by kernel_rfl) rfl ?_ ?_
  · rw [h.hP]; exact ⟨_, Tryd.func65, by kernel_rfl, by kernel_rfl⟩
  · rintro xs ⟨s, rfl, hs⟩; exact ⟨_, s, rfl, rfl⟩
  · rintro xs ⟨s, rfl, hs⟩
    refine ⟨by rw [Tryd.ntmps65]; simp, ?_⟩
    simp only [go_sem, h.hP, ptsS, decS, Tryd.ntmps65, Nat.reduceEqDiff, reduceCtorEq, Nat.reduceMul, Nat.reduceAdd, Nat.reduceSub, Nat.reduceDiv, Nat.reduceMod, Nat.reduceLeDiff, Nat.reduceLT, Nat.reduceBNe, Nat.reduceBEq, reduceIte, Int.reduceLE, Int.reduceLT, Int.reduceToNat, Int.reduceNeg, Int.reduceAdd, Int.reduceSub, Int.reduceMul, Int.reduceEq]
    refine vc_loop _ ptsSf (ptsJ s) (fun p => p.1.size) [(3, 21, 1)] ?_ ?_
    · refine meets_mk _ (s, [], s.size) ⟨by show 0 + s.size ≤ s.size; omega, Nat.le_refl _, rfl⟩ ?_
      simp only [go_sem, h.hP, ptsSf, Tryd.ntmps65, Nat.reduceEqDiff, reduceCtorEq, Nat.reduceMul, Nat.reduceAdd, Nat.reduceSub, Nat.reduceDiv, Nat.reduceMod, Nat.reduceLeDiff, Nat.reduceLT, Nat.reduceBNe, Nat.reduceBEq, reduceIte, Int.reduceLE, Int.reduceLT, Int.reduceToNat, Int.reduceNeg, Int.reduceAdd, Int.reduceSub, Int.reduceMul, Int.reduceEq]
      rfl
    · rintro ⟨t, acc, k⟩ ⟨j1, j2, j3⟩
      simp only at j1 j2 j3
      simp only [go_sem, h.hP, ptsSf, ptsS, decS, str_nil, Tryd.ntmps65, Nat.reduceEqDiff, reduceCtorEq, Nat.reduceMul, Nat.reduceAdd, Nat.reduceSub, Nat.reduceDiv, Nat.reduceMod, Nat.reduceLeDiff, Nat.reduceLT, Nat.reduceBNe, Nat.reduceBEq, reduceIte, Int.reduceLE, Int.reduceLT, Int.reduceToNat, Int.reduceNeg, Int.reduceAdd, Int.reduceSub, Int.reduceMul, Int.reduceEq]
      simp only [rowsK_flat, rowsK_len, rowsK_one, Bool.true_eq_false, if_false, D.sl.injEq, AV.dv.injEq, DV.d.injEq]
      have hr := bt_range t 0
      have hw : t.size ≠ 0 → 1 ≤ wid t ∧ wid t ≤ t.size ∧ (Lib.decodeGo t).1 ≤ 1114111 := wid_ge
      have hx : (t.extract (wid t) t.size).size = t.size - wid t := by rw [ByteArray.size_extract]; omega
      have hb : IntKind.i32.wrap (-1 - IntKind.i32.wrap (bt t 0)) = -1 - bt t 0 := by rw [i32w (n := bt t 0) (by omega) (by omega), i32w (by omega) (by omega)]
      have key : t.size ≠ 0 → ∃ k', k = k' + 1 ∧ (acc ++ [ptOf t]) ++ ptsL k' (t.extract (wid t) t.size) = pts s := fun hne => by
        obtain ⟨k', rfl, hst⟩ := ptsL_step hne j2
        rw [hst] at j3
        exact ⟨k', rfl, by rw [List.append_assoc]; exact j3⟩
      have leaf : ∀ c : Int, t.size ≠ 0 → c = ptOf t → ∀ σ, At 31 [(3, 21, 1)] (ptsSf (t.extract (wid t) t.size, acc ++ [c], k - 1)) σ → Below 31 [(3, 21, 1)] ptsSf (ptsJ s) (fun p => p.1.size) t.size σ := fun c hne hc σ hσ => by
        obtain ⟨k', rfl, hk⟩ := key hne
        have h1 := hw hne
        refine below_mk _ _ ⟨?_, ?_, ?_⟩ ?_ hσ
        · show (acc ++ [c]).length + (t.extract (wid t) t.size).size ≤ s.size
          rw [List.length_append, List.length_singleton]; omega
        · show (t.extract (wid t) t.size).size ≤ k' + 1 - 1; omega
        · show (acc ++ [c]) ++ ptsL k' _ = _
          rw [hc]; exact hk
        · show (t.extract (wid t) t.size).size < t.size; omega
      have hwd : (Lib.decodeGo t).2 = wid t := rfl
      rw [hb, hwd]
      clear key
      refine ⟨fun hne => ?_, fun he => ?_⟩
      · have h1 := hw hne
        refine ⟨fun c1 => ⟨fun c2 => ?_, fun c2 => ?_⟩, fun c1 => ?_⟩
        · refine ⟨by omega, by omega, by omega, by omega, by omega, by omega, leaf (-1 - bt t 0) hne ?_ _ ?_⟩
          · unfold ptOf; rw [if_pos ⟨c1, c2⟩]
          · simp only [go_sem, h.hP, ptsSf, Tryd.ntmps65, Nat.reduceEqDiff, reduceCtorEq, Nat.reduceMul, Nat.reduceAdd, Nat.reduceSub, Nat.reduceDiv, Nat.reduceMod, Nat.reduceLeDiff, Nat.reduceLT, Nat.reduceBNe, Nat.reduceBEq, reduceIte, Int.reduceLE, Int.reduceLT, Int.reduceToNat, Int.reduceNeg, Int.reduceAdd, Int.reduceSub, Int.reduceMul, Int.reduceEq]
            rw [rowsK_app]
        · refine ⟨by omega, by omega, by omega, by omega, by omega, leaf _ hne (?_ : ((Lib.decodeGo t).1 : Int) = _) _ ?_⟩
          · unfold ptOf; rw [if_neg (fun e => c2 e.2)]
          · simp only [go_sem, h.hP, ptsSf, Tryd.ntmps65, Nat.reduceEqDiff, reduceCtorEq, Nat.reduceMul, Nat.reduceAdd, Nat.reduceSub, Nat.reduceDiv, Nat.reduceMod, Nat.reduceLeDiff, Nat.reduceLT, Nat.reduceBNe, Nat.reduceBEq, reduceIte, Int.reduceLE, Int.reduceLT, Int.reduceToNat, Int.reduceNeg, Int.reduceAdd, Int.reduceSub, Int.reduceMul, Int.reduceEq]
            rw [rowsK_app]
        · refine ⟨by omega, by omega, by omega, by omega, by omega, leaf _ hne (?_ : ((Lib.decodeGo t).1 : Int) = _) _ ?_⟩
          · unfold ptOf; rw [if_neg (fun e => c1 e.1)]
          · simp only [go_sem, h.hP, ptsSf, Tryd.ntmps65, Nat.reduceEqDiff, reduceCtorEq, Nat.reduceMul, Nat.reduceAdd, Nat.reduceSub, Nat.reduceDiv, Nat.reduceMod, Nat.reduceLeDiff, Nat.reduceLT, Nat.reduceBNe, Nat.reduceBEq, reduceIte, Int.reduceLE, Int.reduceLT, Int.reduceToNat, Int.reduceNeg, Int.reduceAdd, Int.reduceSub, Int.reduceMul, Int.reduceEq]
            rw [rowsK_app]
      · rw [ptsL_nil he, List.append_nil] at j3
        rw [j3]
def rptsSf (p : ByteArray × List Int × Nat) : Sh := ⟨[(0, .str p.1), (3, .own 3)], [(3, .arr 3 1 (rowsK .i64 p.2.1))], 0⟩
end Go.Avc

/- Unquote and the reference's Unquoted: their contracts. No condition. -/
set_option linter.unusedVariables false
set_option linter.unusedSimpArgs false
set_option maxRecDepth 100000
namespace Go.Avc
open Go Go.Proofs

/-- Reading a quoted string. -/
def unqS (s : ByteArray) : Option (List Int × Nat) := if (bl s).head? = some 34 then unqL s.size ((bl s).drop 1) [] else none
def unqOut (s : ByteArray) : AV := match unqS s with
  | some (l, k) => .tcons (.str (strOfNums l)) (.tcons (.i ((s.size : Int) - k + 1)) (.tcons (.i 0) .tnil))
  | none => .tcons (.str ⟨#[]⟩) (.tcons (.i 0) (.tcons (.i 9) .tnil))
theorem escL_le (l : List Int) : 0 ≤ (escL l).2 ∧ (escL l).2 ≤ 3 ∧ (escL l).2.toNat ≤ l.length := by
  unfold escL
  match l with
  | [] => simp
  | [c] => simp only; repeat' split
           all_goals simp
  | [c, a] => simp only; repeat' split
              all_goals simp
  | c :: a :: b :: t =>
    simp only
    repeat' split
    all_goals simp
theorem head_bl {s : ByteArray} (h : 0 < s.size) : (bl s).head? = some (bt s 0) := by
  rw [bt_bl]
  cases hb : bl s with
  | nil => have := bl_length s; rw [hb] at this; simp at this; omega
  | cons c r => rfl
theorem unqS_no {s : ByteArray} (h : ¬ bt s 0 = 34) : unqS s = none := by
  unfold unqS
  rw [if_neg]
  intro e
  by_cases h0 : 0 < s.size
  · rw [head_bl h0] at e; exact h (by simpa using e)
  · have : bl s = [] := List.eq_nil_of_length_eq_zero (by rw [bl_length]; omega)
    rw [this] at e; cases e
theorem unqS_empty {s : ByteArray} (h : s.size = 0) : unqS s = none := by
  unfold unqS
  rw [show bl s = [] from List.eq_nil_of_length_eq_zero (by rw [bl_length]; exact h)]; rfl
theorem out_none {s : ByteArray} (h : unqS s = none) : unqOut s = .tcons (.str ⟨#[]⟩) (.tcons (.i 0) (.tcons (.i 9) .tnil)) := by unfold unqOut; rw [h]
theorem out_some {s : ByteArray} {l : List Int} {k : Nat} (h : unqS s = some (l, k)) : unqOut s = .tcons (.str (strOfNums l)) (.tcons (.i ((s.size : Int) - k + 1)) (.tcons (.i 0) .tnil)) := by unfold unqOut; rw [h]
theorem unqS_yes {s : ByteArray} (h0 : 0 < s.size) (h : bt s 0 = 34) : unqS s = unqL s.size ((bl s).drop 1) [] := by
  unfold unqS
  rw [if_pos (by rw [head_bl h0, h])]
theorem unq_step {s : ByteArray} {i k : Nat} (h : i < s.size) (hk : s.size - i ≤ k) (acc : List Int) : ∃ k', k = k' + 1 ∧ unqL k ((bl s).drop i) acc = if bt s (i : Int) = 34 then some (acc, s.size - i) else
    if bt s (i : Int) = 92 then (if (escL ((bl s).drop (i + 1))).2 = 0 then none else unqL k' ((bl s).drop (i + 1 + (escL ((bl s).drop (i + 1))).2.toNat)) (acc ++ [(escL ((bl s).drop (i + 1))).1]))
    else if hid (bt s (i : Int)) = true ∨ bt s (i : Int) = 10 then none else unqL k' ((bl s).drop (i + 1)) (acc ++ [bt s (i : Int)]) := by
  obtain ⟨k', rfl⟩ : ∃ k', k = k' + 1 := ⟨k - 1, by omega⟩
  refine ⟨k', rfl, ?_⟩
  have hl : i < (bl s).length := by rw [bl_length]; exact h
  rw [drop_getD hl, bt_bl, Int.toNat_natCast]
  conv => lhs; unfold unqL
  rw [List.length_drop, bl_length, show s.size - (i + 1) + 1 = s.size - i by omega, List.drop_drop]
theorem bl_tail (s : ByteArray) (i : Nat) : bl (s.extract i s.size) = (bl s).drop i := by
  rw [bl_extract, ← bl_length, List.take_length]
theorem unq_end {s : ByteArray} {k i : Nat} (h : ¬ i < s.size) (acc : List Int) : unqL k ((bl s).drop i) acc = none := by
  rw [List.drop_eq_nil_of_le (by rw [bl_length]; omega)]
  cases k <;> rfl
def unqSp : Spec where
  pre xs := ∃ s : ByteArray, xs = [.str s] ∧ s.size ≤ 16777216
  post xs r := ∃ s : ByteArray, xs = [.str s] ∧ r = unqOut s
  cost _ := 0
  fresh := true
def unqSf (s : ByteArray) (p : Nat × List Int × Nat) : Sh := ⟨[(0, .str s), (5, .own 5), (6, .i p.1)], [(5, .arr 5 1 (rowsB p.2.1))], 0⟩
def unqJ (s : ByteArray) (p : Nat × List Int × Nat) : Prop := 1 ≤ p.1 ∧ p.1 ≤ s.size ∧ p.2.1.length ≤ p.1 ∧ s.size - p.1 ≤ p.2.2 ∧ unqL p.2.2 ((bl s).drop p.1) p.2.1 = unqS s
end Go.Avc

/- Changed: its contract. No condition. -/
set_option linter.unusedVariables false
set_option linter.unusedSimpArgs false
set_option maxRecDepth 100000
namespace Go.Avc
open Go Go.Proofs

theorem enc_le (n : Int) : (Utf8.encode n).size ≤ 4 := by
  unfold Utf8.encode
  simp only
  generalize (if Utf8.valid n = true then n.toNat else Utf8.runeError) = c
  split
  · exact (by decide : (1 : Nat) ≤ 4)
  · split
    · exact (by decide : (2 : Nat) ≤ 4)
    · split
      · exact (by decide : (3 : Nat) ≤ 4)
      · exact (by decide : (4 : Nat) ≤ 4)
def changedS : Spec where
  pre xs := ∃ t u : ByteArray, xs = [.st, .str t, .str u] ∧ t.size ≤ 1073741824 ∧ u.size ≤ 1073741824
  post xs r := ∃ t u v : ByteArray, xs = [.st, .str t, .str u] ∧ v.size ≤ t.size + u.size + 4 ∧ r = .str v
  cost _ := 3
  fresh := true
theorem changed_ctr {cx : Cx} (h : Seat cx) : Ctr cx 11 changedS := by
  refine ctr_of (fn := Tryd.f11) (l := [.tmp 6]) (envL [(33, nextS)]) [0, 1, 2, 6, 7, 8, 14, 27, 28, 42] [] [] (envL_cons (next_ctr cx h.hP h.hS) (env0 h.hP)) ?_ (by rw [h.hP]; exact Tryd.func11) rfl (by kernel_rfl) rfl ?_ ?_
  · rw [h.hP]; exact ⟨_, Tryd.func11, by kernel_rfl, by kernel_rfl⟩
  · rintro xs ⟨t, u, rfl, h1, h2⟩; exact ⟨_, t, u, ⟨#[]⟩, rfl, Nat.zero_le _, rfl⟩
  · rintro xs ⟨t, u, rfl, h1, h2⟩
    refine ⟨by rw [Tryd.ntmps11]; simp, ?_⟩
    simp only [go_sem, h.hP, changedS, nextS, str_nil, Tryd.ntmps11, Nat.reduceEqDiff, reduceCtorEq, Nat.reduceMul, Nat.reduceAdd, Nat.reduceSub, Nat.reduceDiv, Nat.reduceMod, Nat.reduceLeDiff, Nat.reduceLT, Nat.reduceBNe, Nat.reduceBEq, reduceIte, Int.reduceLE, Int.reduceLT, Int.reduceToNat, Int.reduceNeg, Int.reduceAdd, Int.reduceSub, Int.reduceMul, Int.reduceEq]
    refine ⟨fun c1 => ⟨fun c2 => by omega, fun c2 => ⟨by omega, fun a h3 h4 => ⟨by omega, fun b h5 h6 => ⟨by omega, by omega, fun q h7 h8 => ?_⟩⟩⟩⟩, fun c1 => by omega⟩
    obtain ⟨ha0, ha1⟩ := h3 (by omega)
    have he := enc_le (IntKind.i32.wrap (bt u b))
    rw [i64w (n := a + 1) (by omega) (by omega)]
    simp only [ByteArray.size_extract]
    clear h3 h4 h5 h6
    (repeat' (first | with_reducible apply And.intro | with_reducible intro)) <;> omega
end Go.Avc

/- The program's distance of two lists: its contract. No condition. -/
set_option linter.unusedVariables false
set_option linter.unusedSimpArgs false
set_option maxRecDepth 100000
namespace Go.Avc
open Go Go.Proofs

def min3 (x y z : Int) : Int := if z < (if y < x then y else x) then z else (if y < x then y else x)
/-- A row of distances behind its first place. -/
def dStep (x : Int) : Int → Int → List Int → List Int → List Int
  | before, left, y :: b, o :: old => min3 (if x = y then before else before + 1) (left + 1) (o + 1) :: dStep x o (min3 (if x = y then before else before + 1) (left + 1) (o + 1)) b old
  | _, _, _, _ => []
def dRow (x : Int) (i : Nat) (b row : List Int) : List Int := ((i : Int) + 1) :: dStep x (row.getD 0 0) ((i : Int) + 1) b (row.drop 1)
def dRows (b : List Int) : List Int → Nat → List Int → List Int
  | [], _, row => row
  | x :: a, i, row => dRows b a (i + 1) (dRow x i b row)
def row0 (m : Nat) : List Int := (List.range (m + 1)).map fun (j : Nat) => (j : Int)
def distP (a b : List Int) : Int := (dRows b a 0 (row0 b.length)).getD b.length 0
def distS : Spec where
  pre xs := ∃ a b : List Int, xs = [.sl (rowsK .i32 a), .sl (rowsK .i32 b)] ∧ a.length ≤ 1073741824 ∧ b.length ≤ 1073741824
  post xs r := ∃ a b : List Int, xs = [.sl (rowsK .i32 a), .sl (rowsK .i32 b)] ∧ r = .i (distP a b)
  cost _ := 0
  fresh := true
theorem rowsK_inj {k : IntKind} {l m : List Int} : rowsK k l = rowsK k m ↔ l = m := by
  refine ⟨fun h => ?_, fun h => by rw [h]⟩
  have : numsOf (rowsK k l) = numsOf (rowsK k m) := by rw [h]
  have hn : ∀ l, numsOf (rowsK k l) = l := fun l => by
    unfold numsOf rowsK
    rw [List.map_map]
    induction l with
    | nil => rfl
    | cons x r ih => simp [ih]
  rwa [hn, hn] at this
def L0 (m j : Nat) : List Int := (List.range j).map (fun (t : Nat) => (t : Int)) ++ List.replicate (m + 1 - j) 0
theorem L0_len {m j : Nat} (h : j ≤ m + 1) : (L0 m j).length = m + 1 := by
  unfold L0; rw [List.length_append, List.length_map, List.length_range, List.length_replicate]; omega
theorem L0_get {m j t : Nat} : (L0 m j).getD t 0 = if t < j then (t : Int) else 0 := by
  unfold L0
  rw [List.getD_eq_getElem?_getD, List.getElem?_append]
  simp only [List.length_map, List.length_range]
  split
  · rename_i h
    simp [List.getElem?_map, List.getElem?_range h]
  · rw [List.getElem?_replicate]
    split <;> rfl
theorem getD_ext {l m : List Int} (hl : l.length = m.length) (h : ∀ t, l.getD t 0 = m.getD t 0) : l = m := by
  apply List.ext_getElem hl
  intro t h1 h2
  have := h t
  rwa [getD_lt h1, getD_lt h2] at this
theorem set_get {l : List Int} {i t : Nat} {c : Int} (hi : i < l.length) : (l.set i c).getD t 0 = if t = i then c else l.getD t 0 := by
  rw [List.getD_eq_getElem?_getD, List.getElem?_set, List.getD_eq_getElem?_getD]
  by_cases h : i = t
  · subst h; simp [hi]
  · rw [if_neg h, if_neg (fun e => h e.symm)]
theorem L0_set {m j : Nat} (h : j < m + 1) : (L0 m j).set j (j : Int) = L0 m (j + 1) := by
  apply getD_ext
  · rw [List.length_set, L0_len (by omega), L0_len (by omega)]
  · intro t
    rw [set_get (by rw [L0_len (by omega)]; exact h), L0_get, L0_get]
    by_cases e : t = j
    · subst e; rw [if_pos rfl, if_pos (by omega)]
    · rw [if_neg e]
      by_cases e2 : t < j
      · rw [if_pos e2, if_pos (by omega)]
      · rw [if_neg e2, if_neg (by omega)]
theorem L0_end (m : Nat) : L0 m (m + 1) = row0 m := by
  unfold L0 row0
  rw [Nat.sub_self]
  exact List.append_nil _
theorem repl_rows (n : Nat) : List.replicate n [D.int .i64 0] = rowsK .i64 (List.replicate n 0) := by
  unfold rowsK; rw [List.map_replicate]
def Sf0 (a b : List Int) (j : Nat) : Sh := ⟨[(0, .sl (rowsK .i32 a)), (1, .sl (rowsK .i32 b)), (5, .own 5), (18, .i ((b.length : Int) + 1)), (19, .i j)], [(5, .arr 3 1 (rowsK .i64 (L0 b.length j)))], 0⟩
def Sf1 (a b : List Int) (p : List Int × Nat) : Sh := ⟨[(0, .sl (rowsK .i32 a)), (1, .sl (rowsK .i32 b)), (5, .own 5), (27, .sl (rowsK .i32 a)), (28, .i a.length), (29, .i p.2)], [(5, .arr 3 1 (rowsK .i64 p.1))], 0⟩
def Sf2 (a b : List Int) (i : Nat) (x : Int) (p : List Int × Int × Nat) : Sh := ⟨[(0, .sl (rowsK .i32 a)), (1, .sl (rowsK .i32 b)), (5, .own 5), (8, .dv (.d (.int .i32 x))), (9, .i p.2.1), (27, .sl (rowsK .i32 a)), (28, .i a.length), (29, .i i), (41, .sl (rowsK .i32 b)), (42, .i b.length), (43, .i p.2.2)], [(5, .arr 3 1 (rowsK .i64 p.1))], 0⟩
def bnds (i : Nat) (r : List Int) : Prop := ∀ t, 0 ≤ r.getD t 0 ∧ r.getD t 0 ≤ (i : Int) + t
def J1 (a b : List Int) (p : List Int × Nat) : Prop := p.1.length = b.length + 1 ∧ p.2 ≤ a.length ∧ bnds p.2 p.1 ∧ (dRows b (a.drop p.2) p.2 p.1).getD b.length 0 = distP a b
def J2 (b : List Int) (i : Nat) (x : Int) (R : List Int) (p : List Int × Int × Nat) : Prop := p.1.length = b.length + 1 ∧ p.2.2 ≤ b.length ∧ bnds (i + 1) p.1 ∧ (0 ≤ p.2.1 ∧ p.2.1 ≤ (i : Int) + 1 + p.2.2) ∧ p.1.take (p.2.2 + 1) ++ dStep x p.2.1 (p.1.getD p.2.2 0) (b.drop p.2.2) (p.1.drop (p.2.2 + 1)) = R
theorem take_set {l : List Int} {j : Nat} {v : Int} (h : j + 1 < l.length) : (l.set (j + 1) v).take (j + 1 + 1) = l.take (j + 1) ++ [v] := by
  apply List.ext_getElem?
  intro t
  rw [List.getElem?_take, List.getElem?_set, List.getElem?_append, List.length_take, Nat.min_eq_left (by omega), List.getElem?_take]
  by_cases h1 : t < j + 1
  · rw [if_pos (by omega), if_neg (by omega), if_pos h1, if_pos h1]
  · rw [if_neg h1]
    by_cases h2 : t = j + 1
    · subst h2
      rw [if_pos (by omega), if_pos rfl, if_pos h, Nat.sub_self]
      rfl
    · rw [if_neg (by omega), List.getElem?_eq_none (by simp; omega)]
theorem drop_set' {l : List Int} {j : Nat} {v : Int} : (l.set (j + 1) v).drop (j + 1 + 1) = l.drop (j + 1 + 1) := by
  apply List.ext_getElem?
  intro t
  rw [List.getElem?_drop, List.getElem?_drop, List.getElem?_set, if_neg (by omega)]
theorem step2 {x bf : Int} {b r : List Int} {j : Nat} (hj : j < b.length) (hr : r.length = b.length + 1) {v : Int} (hv : v = min3 (if x = b.getD j 0 then bf else bf + 1) (r.getD j 0 + 1) (r.getD (j + 1) 0 + 1)) :
    (r.set (j + 1) v).take (j + 1 + 1) ++ dStep x (r.getD (j + 1) 0) ((r.set (j + 1) v).getD (j + 1) 0) (b.drop (j + 1)) ((r.set (j + 1) v).drop (j + 1 + 1)) = r.take (j + 1) ++ dStep x bf (r.getD j 0) (b.drop j) (r.drop (j + 1)) := by
  rw [take_set (by omega), drop_set', set_get (by omega), if_pos rfl, drop_getD hj, drop_getD (l := r) (i := j + 1) (by omega)]
  conv => rhs; unfold dStep
  rw [← hv, List.append_assoc]
  rfl
theorem min3_le {x y z : Int} (hx : 0 ≤ x) (hy : 0 ≤ y) (hz : 0 ≤ z) : 0 ≤ min3 x y z ∧ min3 x y z ≤ y := by
  unfold min3
  repeat' split
  all_goals omega
theorem dist_ctr {cx : Cx} (h : Seat cx) : Ctr cx 64 distS := by
  refine ctr_of (fn := Tryd.f64) (l := [.tmp 4]) (envL []) [0, 1, 4, 5, 6, 7, 8, 9, 10, 11, 12, 18, 19, 20, 27, 28, 29, 30, 41, 42, 43, 44, 51] [] [] (env0 h.hP) ?_ (by rw [h.hP]; exact Tryd.func64) rfl (by kernel_rfl) rfl ?_ ?_
  · rw [h.hP]; exact ⟨_, Tryd.func64, by kernel_rfl, by kernel_rfl⟩
  · rintro xs ⟨a, b, rfl, h1, h2⟩; exact ⟨_, a, b, rfl, rfl⟩
  · rintro xs ⟨a, b, rfl, h1, h2⟩
    refine ⟨by rw [Tryd.ntmps64]; simp, ?_⟩
    simp only [go_sem, h.hP, distS, rowsK_len, Tryd.ntmps64, Nat.reduceEqDiff, reduceCtorEq, Nat.reduceMul, Nat.reduceAdd, Nat.reduceSub, Nat.reduceDiv, Nat.reduceMod, Nat.reduceLeDiff, Nat.reduceLT, Nat.reduceBNe, Nat.reduceBEq, reduceIte, Int.reduceLE, Int.reduceLT, Int.reduceToNat, Int.reduceNeg, Int.reduceAdd, Int.reduceSub, Int.reduceMul, Int.reduceEq]
    have hw1 : IntKind.i64.wrap ((b.length : Int) + 1) = (b.length : Int) + 1 := i64w (by omega) (by omega)
    rw [hw1]
    refine ⟨by omega, by omega, by omega, ?_⟩
    refine vc_loop _ (Sf0 a b) (fun j => j ≤ b.length + 1) (fun j => b.length + 1 - j) [(5, 3, 1)] ?_ ?_
    · refine meets_mk _ 0 (Nat.zero_le _) ?_
      simp only [go_sem, h.hP, Sf0, Tryd.ntmps64, Nat.reduceEqDiff, reduceCtorEq, Nat.reduceMul, Nat.reduceAdd, Nat.reduceSub, Nat.reduceDiv, Nat.reduceMod, Nat.reduceLeDiff, Nat.reduceLT, Nat.reduceBNe, Nat.reduceBEq, reduceIte, Int.reduceLE, Int.reduceLT, Int.reduceToNat, Int.reduceNeg, Int.reduceAdd, Int.reduceSub, Int.reduceMul, Int.reduceEq]
      refine ⟨by rw [List.length_replicate]; omega, rfl, ?_⟩
      rw [repl_rows]
      unfold L0
      rw [show ((b.length : Int) + 1).toNat = b.length + 1 by omega]
      rfl
    · intro j hj
      have hl0 := L0_len hj
      simp only [go_sem, h.hP, Sf0, distS, rowsK_len, rowsK_get, rowsK_set, spl_one, hl0, Tryd.ntmps64, Nat.reduceEqDiff, reduceCtorEq, Nat.reduceMul, Nat.reduceAdd, Nat.reduceSub, Nat.reduceDiv, Nat.reduceMod, Nat.reduceLeDiff, Nat.reduceLT, Nat.reduceBNe, Nat.reduceBEq, reduceIte, Int.reduceLE, Int.reduceLT, Int.reduceToNat, Int.reduceNeg, Int.reduceAdd, Int.reduceSub, Int.reduceMul, Int.reduceEq]
      refine ⟨fun c1 => ⟨by omega, by omega, by omega, ?_⟩, fun c1 => ?_⟩
      · refine below_mk (J := fun j => j ≤ b.length + 1) (μ := fun j => b.length + 1 - j) _ (j + 1) (by show j + 1 ≤ _; omega) (by show _ - _ < _; omega) ?_
        simp only [go_sem, h.hP, Sf0, Tryd.ntmps64, Nat.reduceEqDiff, reduceCtorEq, Nat.reduceMul, Nat.reduceAdd, Nat.reduceSub, Nat.reduceDiv, Nat.reduceMod, Nat.reduceLeDiff, Nat.reduceLT, Nat.reduceBNe, Nat.reduceBEq, reduceIte, Int.reduceLE, Int.reduceLT, Int.reduceToNat, Int.reduceNeg, Int.reduceAdd, Int.reduceSub, Int.reduceMul, Int.reduceEq]
        exact ⟨i64s (by omega), by rw [L0_set (by omega)]⟩
      · have hj2 : j = b.length + 1 := by omega
        subst hj2
        rw [L0_end]
        refine vc_loop _ (Sf1 a b) (J1 a b) (fun p => a.length - p.2) [(5, 3, 1)] ?_ ?_
        · refine meets_mk _ (row0 b.length, 0) ⟨?_, Nat.zero_le _, ?_, rfl⟩ ?_
          · show (row0 b.length).length = b.length + 1
            rw [← L0_end, L0_len (Nat.le_refl _)]
          · intro t
            show 0 ≤ (row0 b.length).getD t 0 ∧ (row0 b.length).getD t 0 ≤ ((0 : Nat) : Int) + t
            rw [← L0_end, L0_get]
            split <;> omega
          · simp only [go_sem, h.hP, Sf1, Tryd.ntmps64, Nat.reduceEqDiff, reduceCtorEq, Nat.reduceMul, Nat.reduceAdd, Nat.reduceSub, Nat.reduceDiv, Nat.reduceMod, Nat.reduceLeDiff, Nat.reduceLT, Nat.reduceBNe, Nat.reduceBEq, reduceIte, Int.reduceLE, Int.reduceLT, Int.reduceToNat, Int.reduceNeg, Int.reduceAdd, Int.reduceSub, Int.reduceMul, Int.reduceEq]
            rfl
        · rintro ⟨r, i⟩ ⟨k1, k2, k3, k4⟩
          simp only at k1 k2 k3 k4
          simp only [go_sem, h.hP, Sf1, distS, rowsK_len, rowsK_get, rowsK_set, spl_one, k1, Tryd.ntmps64, Nat.reduceEqDiff, reduceCtorEq, Nat.reduceMul, Nat.reduceAdd, Nat.reduceSub, Nat.reduceDiv, Nat.reduceMod, Nat.reduceLeDiff, Nat.reduceLT, Nat.reduceBNe, Nat.reduceBEq, reduceIte, Int.reduceLE, Int.reduceLT, Int.reduceToNat, Int.reduceNeg, Int.reduceAdd, Int.reduceSub, Int.reduceMul, Int.reduceEq]
          have hwi : i < a.length → IntKind.i64.wrap ((i : Int) + 1) = ((i + 1 : Nat) : Int) := fun hi => i64s (by omega)
          refine ⟨fun c2 => ⟨by omega, by omega, by omega, by omega, by omega, by omega, ?_⟩, fun c2 => ?_⟩
          · have hi : i < a.length := by omega
            rw [hwi hi]
            refine vc_loop _ (Sf2 a b i (a.getD i 0)) (J2 b i (a.getD i 0) (dRow (a.getD i 0) i b r)) (fun p => b.length - p.2.2) [(5, 3, 1)] ?_ ?_
            · refine meets_mk _ (r.set 0 ((i : Int) + 1), r.getD 0 0, 0) ⟨?_, Nat.zero_le _, ?_, ?_, ?_⟩ ?_
              · show (r.set 0 _).length = _
                rw [List.length_set, k1]
              · intro t
                show 0 ≤ (r.set 0 _).getD t 0 ∧ (r.set 0 _).getD t 0 ≤ _
                have := k3 t
                rw [set_get (by omega)]
                split <;> omega
              · have := k3 0
                show 0 ≤ r.getD 0 0 ∧ r.getD 0 0 ≤ (i : Int) + 1 + ((0 : Nat) : Int)
                omega
              · show (r.set 0 _).take (0 + 1) ++ dStep _ (r.getD 0 0) ((r.set 0 _).getD 0 0) (b.drop 0) ((r.set 0 _).drop (0 + 1)) = _
                cases r with
                | nil => simp at k1
                | cons x0 r => rfl
              · simp only [go_sem, h.hP, Sf2, Tryd.ntmps64, Nat.reduceEqDiff, reduceCtorEq, Nat.reduceMul, Nat.reduceAdd, Nat.reduceSub, Nat.reduceDiv, Nat.reduceMod, Nat.reduceLeDiff, Nat.reduceLT, Nat.reduceBNe, Nat.reduceBEq, reduceIte, Int.reduceLE, Int.reduceLT, Int.reduceToNat, Int.reduceNeg, Int.reduceAdd, Int.reduceSub, Int.reduceMul, Int.reduceEq]
                exact ⟨rfl, rfl⟩
            · rintro ⟨r2, bf, j⟩ ⟨m1, m2, m3, m4, m5⟩
              simp only at m1 m2 m3 m4 m5
              simp only [go_sem, h.hP, Sf2, distS, rowsK_len, rowsK_get, rowsK_set, spl_one, m1, Tryd.ntmps64, Nat.reduceEqDiff, reduceCtorEq, Nat.reduceMul, Nat.reduceAdd, Nat.reduceSub, Nat.reduceDiv, Nat.reduceMod, Nat.reduceLeDiff, Nat.reduceLT, Nat.reduceBNe, Nat.reduceBEq, reduceIte, Int.reduceLE, Int.reduceLT, Int.reduceToNat, Int.reduceNeg, Int.reduceAdd, Int.reduceSub, Int.reduceMul, Int.reduceEq]
              have hwj : j < b.length → IntKind.i64.wrap ((j : Int) + 1) = ((j + 1 : Nat) : Int) := fun hj => i64s (by omega)
              refine ⟨fun c3 => ?_, fun c3 => ?_⟩
              · have hj' : j < b.length := by omega
                have b1 := m3 j
                have b2 := m3 (j + 1)
                rw [hwj hj', Int.toNat_natCast, i64w (n := bf + 1) (by omega) (by omega), i64w (n := r2.getD j 0 + 1) (by omega) (by omega), i64w (n := r2.getD (j + 1) 0 + 1) (by omega) (by omega)]
                have leaf : ∀ v : Int, v = min3 (if a.getD i 0 = b.getD j 0 then bf else bf + 1) (r2.getD j 0 + 1) (r2.getD (j + 1) 0 + 1) → ∀ σ, At 79 [(5, 3, 1)] (Sf2 a b i (a.getD i 0) (r2.set (j + 1) v, r2.getD (j + 1) 0, j + 1)) σ →
                    Below 79 [(5, 3, 1)] (Sf2 a b i (a.getD i 0)) (J2 b i (a.getD i 0) (dRow (a.getD i 0) i b r)) (fun p => b.length - p.2.2) (b.length - j) σ := fun v hv σ hσ => by
                  refine below_mk _ _ ⟨?_, ?_, ?_, ?_, ?_⟩ (by show b.length - (j + 1) < b.length - j; omega) hσ
                  · show (r2.set _ _).length = _; rw [List.length_set, m1]
                  · show j + 1 ≤ _; omega
                  · intro t
                    show 0 ≤ (r2.set (j + 1) v).getD t 0 ∧ (r2.set (j + 1) v).getD t 0 ≤ _
                    rw [set_get (by omega)]
                    have hm := min3_le (x := if a.getD i 0 = b.getD j 0 then bf else bf + 1) (y := r2.getD j 0 + 1) (z := r2.getD (j + 1) 0 + 1) (by split <;> omega) (by omega) (by omega)
                    split
                    · rename_i e; subst e; rw [hv]; omega
                    · exact m3 t
                  · show 0 ≤ r2.getD (j + 1) 0 ∧ r2.getD (j + 1) 0 ≤ (i : Int) + 1 + ((j + 1 : Nat) : Int); omega
                  · show (r2.set (j + 1) v).take (j + 1 + 1) ++ dStep _ (r2.getD (j + 1) 0) ((r2.set (j + 1) v).getD (j + 1) 0) (b.drop (j + 1)) ((r2.set (j + 1) v).drop (j + 1 + 1)) = _
                    rw [step2 hj' m1 hv]; exact m5
                refine ⟨by omega, by omega, fun c4 => ⟨by omega, by omega, by omega, by omega, by omega, by omega, by omega, by omega, by omega, leaf (min3 (bf + 1) (r2.getD j 0 + 1) (r2.getD (j + 1) 0 + 1)) ?_ _ ?_⟩, fun c4 => ⟨by omega, by omega, by omega, by omega, by omega, by omega, by omega, by omega, by omega, leaf (min3 bf (r2.getD j 0 + 1) (r2.getD (j + 1) 0 + 1)) ?_ _ ?_⟩⟩
                · rw [if_neg c4]
                · simp only [go_sem, h.hP, Sf2, Tryd.ntmps64, Nat.reduceEqDiff, reduceCtorEq, Nat.reduceMul, Nat.reduceAdd, Nat.reduceSub, Nat.reduceDiv, Nat.reduceMod, Nat.reduceLeDiff, Nat.reduceLT, Nat.reduceBNe, Nat.reduceBEq, reduceIte, Int.reduceLE, Int.reduceLT, Int.reduceToNat, Int.reduceNeg, Int.reduceAdd, Int.reduceSub, Int.reduceMul, Int.reduceEq]
                  rfl
                · rw [if_pos c4]
                · simp only [go_sem, h.hP, Sf2, Tryd.ntmps64, Nat.reduceEqDiff, reduceCtorEq, Nat.reduceMul, Nat.reduceAdd, Nat.reduceSub, Nat.reduceDiv, Nat.reduceMod, Nat.reduceLeDiff, Nat.reduceLT, Nat.reduceBNe, Nat.reduceBEq, reduceIte, Int.reduceLE, Int.reduceLT, Int.reduceToNat, Int.reduceNeg, Int.reduceAdd, Int.reduceSub, Int.reduceMul, Int.reduceEq]
                  rfl
              · have hj' : j = b.length := by omega
                subst hj'
                rw [List.drop_eq_nil_of_le (Nat.le_refl _), show b.length + 1 = r2.length from m1.symm, List.take_length, List.drop_length] at m5
                have hR : r2 = dRow (a.getD i 0) i b r := by rw [← m5]; exact (List.append_nil _).symm
                refine below_mk _ (r2, i + 1) ⟨m1, by show i + 1 ≤ _; omega, m3, ?_⟩ (by show a.length - (i + 1) < a.length - i; omega) ?_
                · show (dRows b (a.drop (i + 1)) (i + 1) r2).getD b.length 0 = _
                  rw [← k4, drop_getD (l := a) (i := i) hi, hR]
                  rfl
                · simp only [go_sem, h.hP, Sf1, Tryd.ntmps64, Nat.reduceEqDiff, reduceCtorEq, Nat.reduceMul, Nat.reduceAdd, Nat.reduceSub, Nat.reduceDiv, Nat.reduceMod, Nat.reduceLeDiff, Nat.reduceLT, Nat.reduceBNe, Nat.reduceBEq, reduceIte, Int.reduceLE, Int.reduceLT, Int.reduceToNat, Int.reduceNeg, Int.reduceAdd, Int.reduceSub, Int.reduceMul, Int.reduceEq]
                  exact hwi hi
          · have hi : i = a.length := by omega
            subst hi
            rw [List.drop_length] at k4
            exact ⟨by omega, by omega, by omega, a, rfl, b, rfl, k4⟩
end Go.Avc

/- The reference's Unquoted: its contract. No condition. -/
set_option linter.unusedVariables false
set_option linter.unusedSimpArgs false
set_option maxRecDepth 100000
namespace Go.Avc
open Go Go.Proofs

def unqROut (s : ByteArray) : AV := match unqS s with
  | some (l, k) => .tcons (.str (strOfNums l)) (.tcons (.i ((s.size : Int) - k + 1)) (.tcons (.b true) .tnil))
  | none => .tcons (.str ⟨#[]⟩) (.tcons (.i 0) (.tcons (.b false) .tnil))
theorem rout_none {s : ByteArray} (h : unqS s = none) : unqROut s = .tcons (.str ⟨#[]⟩) (.tcons (.i 0) (.tcons (.b false) .tnil)) := by unfold unqROut; rw [h]
theorem rout_some {s : ByteArray} {l : List Int} {k : Nat} (h : unqS s = some (l, k)) : unqROut s = .tcons (.str (strOfNums l)) (.tcons (.i ((s.size : Int) - k + 1)) (.tcons (.b true) .tnil)) := by unfold unqROut; rw [h]
theorem find_at {rest : List Int} {c : Nat} (h1 : ∀ x : Nat, x < c → (q1 (x : Int)).isPrefixOf rest = false) (hc : c < 256) (h2 : (q1 (c : Int)).isPrefixOf rest = true) : findC rest = some (c : Int) := by
  unfold findC
  rw [show ((List.range 256).find? fun (x : Nat) => (q1 (x : Int)).isPrefixOf rest) = some c from ?_]
  · rfl
  · rw [List.find?_eq_some_iff_getElem]
    exact ⟨h2, c, by simpa using hc, by simp, fun j hj => by simp [h1 j hj]⟩
theorem find_no {rest : List Int} (h1 : ∀ x : Nat, x < 256 → (q1 (x : Int)).isPrefixOf rest = false) : findC rest = none := by
  unfold findC
  rw [show ((List.range 256).find? fun (x : Nat) => (q1 (x : Int)).isPrefixOf rest) = none from ?_]
  · rfl
  · rw [List.find?_eq_none]
    intro x hx
    rw [h1 x (by simpa using hx)]
    decide
theorem unqS_R (s : ByteArray) : unqS s = if (bl s).head? = some 34 then unqR s.size ((bl s).drop 1) [] else none := by
  unfold unqS
  rw [unq_same _ _ _ (isBs_drop (bl_bs s) 1)]
theorem unqR_step {t : ByteArray} {k : Nat} (h : 0 < t.size) (hk : t.size ≤ k) (acc : List Int) : ∃ k', k = k' + 1 ∧ unqR k (bl t) acc = if bt t 0 = 34 then some (acc, t.size) else match findC (bl t) with
    | none => none
    | some x => unqR k' ((bl t).drop (q1 x).length) (acc ++ [x]) := by
  obtain ⟨k', rfl⟩ : ∃ k', k = k' + 1 := ⟨k - 1, by omega⟩
  refine ⟨k', rfl, ?_⟩
  rw [bt_bl, ← bl_length]
  have hl : 0 < (bl t).length := by rw [bl_length]; exact h
  cases hb : bl t with
  | nil => rw [hb] at hl; simp at hl
  | cons c r => rfl
theorem unqR_nil {t : ByteArray} (h : t.size = 0) (k : Nat) (acc : List Int) : unqR k (bl t) acc = none := by
  rw [show bl t = [] from List.eq_nil_of_length_eq_zero (by rw [bl_length]; exact h)]
  cases k <;> rfl
theorem bl_quotedF (s : ByteArray) : bl (quotedF s) = quotedL (bl s) := bl_str (quotedL_bs (bl_bs s))
theorem q_size {c : Int} (h : 0 ≤ c ∧ c ≤ 255) : (quotedF (strOfNums [c])).size = (q1 c).length + 2 := by
  rw [← bl_length, bl_quotedF, bl_str (isBs_cons.2 ⟨h, isBs_nil⟩)]
  simp [quotedL]
theorem q_inner {c : Int} (h : 0 ≤ c ∧ c ≤ 255) : bl ((quotedF (strOfNums [c])).extract 1 ((q1 c).length + 1)) = q1 c := by
  rw [bl_extract, bl_quotedF, bl_str (isBs_cons.2 ⟨h, isBs_nil⟩)]
  simp [quotedL]
theorem hasPre34 (s : ByteArray) : hasPre s ⟨#[34]⟩ = true ↔ (bl s).head? = some 34 := by
  unfold hasPre
  rw [show bl ⟨#[34]⟩ = [34] by decide]
  cases bl s with
  | nil => simp
  | cons c r =>
    simp only [List.isPrefixOf, Bool.and_true, beq_iff_eq, List.head?_cons, Option.some.injEq]
    exact ⟨fun e => e.symm, fun e => e.symm⟩
def unqRSp : Spec where
  pre xs := ∃ s : ByteArray, xs = [.str s] ∧ s.size ≤ 16777216
  post xs r := ∃ s : ByteArray, xs = [.str s] ∧ r = unqROut s
  cost _ := 0
  fresh := true
def urSf (s : ByteArray) (p : ByteArray × List Int × Nat) : Sh := ⟨[(0, .str s), (5, .own 5), (6, .str p.1)], [(5, .arr 5 1 (rowsB p.2.1))], 0⟩
def urJ (s : ByteArray) (p : ByteArray × List Int × Nat) : Prop := p.1.size + 1 ≤ s.size ∧ p.2.1.length + p.1.size ≤ s.size ∧ p.1.size ≤ p.2.2 ∧ unqR p.2.2 (bl p.1) p.2.1 = unqS s
def urSi (s t : ByteArray) (acc : List Int) (c : Nat) : Sh := ⟨[(0, .str s), (5, .own 5), (6, .str t), (7, .b false), (28, .i c)], [(5, .arr 5 1 (rowsB acc))], 0⟩
end Go.Avc

/- The tables of unicode/utf8, from a row's list to what the walks ask. No condition. -/
set_option linter.unusedVariables false
set_option maxRecDepth 100000
namespace Go.Avc
open Go Go.Proofs

def acceptL : List Int := (List.range 16).flatMap fun i => [(Lib.accLo i : Int), (Lib.accHi i : Int)]
def globU : Nat → Option (List D)
  | 1 => some (Lib.firstTab.map (D.int .u8))
  | 2 => some (acceptL.map (D.int .u8))
  | _ => none
theorem glob_first {cs : List Value} {ok : Nat → Prop} {w : World} {l : List Int} (h : RdL ok w (l.map (D.int .u8)) cs) (i : Nat) (hi : i < l.length) : cs[i]? = some (.int .u8 (l.getD i 0)) := by
  obtain ⟨v, hv, hr⟩ := h.get (j := i) (x := D.int .u8 (l.getD i 0)) (by rw [List.getElem?_map, List.getD_eq_getElem?_getD, List.getElem?_eq_getElem hi]; rfl)
  rw [hv]
  cases hr
  rfl
theorem rdL_ints {ok : Nat → Prop} {w : World} (l : List Int) : RdL ok w (l.map (D.int .u8)) (l.map (Value.int .u8)) := ⟨by rw [List.length_map, List.length_map], fun j x v hx hv => by
  rw [List.getElem?_map] at hx hv
  obtain ⟨n, hn, rfl⟩ := Option.map_eq_some_iff.1 hx
  rw [hn] at hv
  cases hv
  exact .int _ _⟩
theorem accept_at : ∀ i, i < 16 → acceptL.getD (2 * i) 0 = Lib.accLo i ∧ acceptL.getD (2 * i + 1) 0 = Lib.accHi i := by decide +kernel
theorem utf8_of_glob {cx : Cx} {W0 : Cx} (hW : W0.glob = globU) (h : ∀ w, GlAt cx w → GlAt W0 w) : Utf8 cx := by
  intro w hw
  have hg := h w hw
  obtain ⟨_, _, cs, hc, hr⟩ := hg 1 _ (by rw [hW]; rfl)
  obtain ⟨_, _, cs', hc', hr'⟩ := hg 2 _ (by rw [hW]; rfl)
  have hl : Lib.firstTab.length = 256 := by unfold Lib.firstTab; rw [List.length_map, List.length_range]
  have hl' : acceptL.length = 32 := by decide +kernel
  refine ⟨fun c hc0 => ?_, fun i hi => ?_⟩
  · have := hc c _ (glob_first hr c (by omega))
    rw [this]
    unfold Lib.firstTab
    rw [List.getD_eq_getElem?_getD, List.getElem?_map, List.getElem?_range hc0]
    rfl
  · obtain ⟨e1, e2⟩ := accept_at i hi
    have h1 := hc' (2 * i) _ (glob_first hr' (2 * i) (by omega))
    have h2 := hc' (2 * i + 1) _ (glob_first hr' (2 * i + 1) (by omega))
    rw [e1] at h1
    rw [e2] at h2
    exact ⟨h1, h2⟩
theorem glAt_of_tabs {W : World} {L : List Int} {ST : TypeId} (h : Lib.Utf8Tabs 1 2 W) : GlAt ⟨Tryd.prog, none, L, ST, 3, globU⟩ W := by
  obtain ⟨h1, h2⟩ := h
  have hin : ∀ (b o : Nat) (v : Value), W.cell? ⟨b, o, none⟩ = some v → b < W.heap.size := fun b o v hv => by
    by_cases hb : b < W.heap.size
    · exact hb
    · unfold World.cell? at hv
      rw [Array.getElem?_eq_none (show W.heap.size ≤ b by omega)] at hv
      cases hv
  intro k l hk
  have hk' : globU k = some l := hk
  have hl' : acceptL.length = 32 := by decide +kernel
  match k, hk' with
  | 1, hk' =>
    cases hk'
    refine ⟨Nat.lt_of_sub_eq_succ rfl, hin _ _ _ (h1 0 (by decide)), Lib.firstTab.map (Value.int .u8), fun j u hj => ?_, rdL_ints _⟩
    rw [List.getElem?_map] at hj
    obtain ⟨n, hn, rfl⟩ := Option.map_eq_some_iff.1 hj
    unfold Lib.firstTab at hn
    rw [List.getElem?_map] at hn
    obtain ⟨c, hc, rfl⟩ := Option.map_eq_some_iff.1 hn
    have hc1 := (List.getElem?_eq_some_iff.1 hc).1
    rw [List.length_range] at hc1
    rw [List.getElem?_range hc1] at hc
    cases hc
    exact h1 _ hc1
  | 2, hk' =>
    cases hk'
    refine ⟨Nat.lt_of_sub_eq_succ rfl, hin _ _ _ (h2 0 (by decide)).1, acceptL.map (Value.int .u8), fun j u hj => ?_, rdL_ints _⟩
    rw [List.getElem?_map] at hj
    obtain ⟨n, hn, rfl⟩ := Option.map_eq_some_iff.1 hj
    have hj1 := (List.getElem?_eq_some_iff.1 hn).1
    have hn' : acceptL.getD j 0 = n := by rw [List.getD_eq_getElem?_getD, hn]; rfl
    obtain ⟨e1, e2⟩ := accept_at (j / 2) (by omega)
    obtain ⟨g1, g2⟩ := h2 (j / 2) (by omega)
    rcases Nat.mod_two_eq_zero_or_one j with hm | hm
    · have hj2 : 2 * (j / 2) = j := by omega
      rw [hj2] at e1 g1
      rw [← hn', e1]
      exact g1
    · have hj2 : 2 * (j / 2) + 1 = j := by omega
      rw [hj2] at e2 g2
      rw [← hn', e2]
      exact g2
theorem u8Extra : U8Extra Tryd.prog Tryd.lays260_ren := ⟨by kernel_rfl, by kernel_rfl, by kernel_rfl, by kernel_rfl, by kernel_rfl, by kernel_rfl, by kernel_rfl⟩
theorem first_eq : YtjeljamjocligaaDoor.Rows.laid_unicode_utf8_first = Lib.firstData := by kernel_rfl
theorem accept_eq : (YtjeljamjocligaaDoor.Rows.laid_unicode_utf8_acceptRanges : DataW Unit) = Lib.acceptData := by kernel_rfl
/-- A row that lists the two tables, first of all: they lie so. -/
theorem tabs_of_laid {W : World} (h : laidMet Tryd.prog [("unicode/utf8.acceptRanges", YtjeljamjocligaaDoor.Rows.laid_unicode_utf8_acceptRanges), ("unicode/utf8.first", YtjeljamjocligaaDoor.Rows.laid_unicode_utf8_first)] W) : Lib.Utf8Tabs 1 2 W := by
  rw [first_eq, accept_eq] at h
  exact utf8Tabs_of_reads Tryd.lays260 u8Extra (Lib.laidMet.reads h (by simp)) (Lib.laidMet.reads h (by simp))
/-- The package-level variables are there. -/
theorem ng_of_shaped {W : World} (h : W.ShapedOpen Tryd.prog) : 3 ≤ W.heap.size := by
  have h0 : (((begin Tryd.prog (fun _ _ => 0) default).world.heap[2]?).bind Obj.row?).isSome = true := by kernel_rfl
  obtain ⟨⟨zero, t⟩, hz⟩ := Option.isSome_iff_exists.1 h0
  obtain ⟨cs, hc, _⟩ := h.1 2 zero t (of_decide_eq_true (by kernel_rfl)) hz
  have := (Array.getElem?_eq_some_iff.1 hc).1
  omega
/-- A world for a witness: the two tables hold what the program lays. -/
noncomputable def laidWorld (os : Os) : World :=
  { World.holding Tryd.prog os ⟨#[], #[], []⟩ with heap := (((World.holding Tryd.prog os ⟨#[], #[], []⟩).heap.modify 1 (fun o => match o with
      | .cells _ t frozen => .cells (Lib.firstTab.map (Value.int .u8)).toArray t frozen
      | o => o)).modify 2 (fun o => match o with
      | .cells _ t frozen => .cells (acceptL.map (Value.int .u8)).toArray t frozen
      | o => o)) }
theorem laid_met (os : Os) (args : Array Value) : laidMet Tryd.prog [("unicode/utf8.acceptRanges", YtjeljamjocligaaDoor.Rows.laid_unicode_utf8_acceptRanges), ("unicode/utf8.first", YtjeljamjocligaaDoor.Rows.laid_unicode_utf8_first)] ((laidWorld os).forCall (fun _ _ => 0) ⟨#[], args, []⟩).memory :=
  laidMet_of_run' 8 (by kernel_rfl) (by kernel_rfl)
end Go.Avc

/- Ids: their forms, check signs and order: plain law. No condition. -/
set_option linter.unusedVariables false
set_option linter.unusedSimpArgs false
set_option maxRecDepth 100000
namespace Go.Avc
open Go Go.Proofs

def cutL (s p : ByteArray) : ByteArray := ⟨(Lib.cut s.data.toList p.data.toList).1.toArray⟩
def cutR (s p : ByteArray) : ByteArray := ⟨(Lib.cut s.data.toList p.data.toList).2.1.toArray⟩
def cutB (s p : ByteArray) : Bool := (Lib.cut s.data.toList p.data.toList).2.2
theorem size_list (l : List UInt8) : (⟨l.toArray⟩ : ByteArray).size = l.length := rfl
theorem len_size (s : ByteArray) : s.data.toList.length = s.size := Array.length_toList
theorem cutL_size (s p : ByteArray) : (cutL s p).size ≤ s.size := by
  unfold cutL
  rw [size_list, ← len_size s]
  unfold Lib.cut
  split
  · show (List.take _ _).length ≤ _
    rw [List.length_take]; omega
  · exact Nat.le_refl _
theorem cutR_size (s p : ByteArray) : (cutR s p).size ≤ s.size := by
  unfold cutR
  rw [size_list, ← len_size s]
  unfold Lib.cut
  split
  · show (List.drop _ _).length ≤ _
    rw [List.length_drop]; omega
  · exact Nat.zero_le _
def splitS (s p : ByteArray) : List ByteArray := Lib.splitB p 0 (Lib.countB s p) s
theorem splitB_size (p : ByteArray) : ∀ (k : Nat) (s x : ByteArray), x ∈ Lib.splitB p 0 k s → x.size ≤ s.size
  | 0, s, x, h => by
    rw [Lib.splitB_zero, List.mem_singleton] at h
    rw [h]; exact Nat.le_refl _
  | k + 1, s, x, h => by
    unfold Lib.splitB at h
    split at h
    · rw [List.mem_singleton] at h
      rw [h]; exact Nat.le_refl _
    · rcases List.mem_cons.1 h with e | e
      · rw [e, ByteArray.size_extract]; omega
      · have := splitB_size p k _ x e
        rw [ByteArray.size_extract] at this
        omega
theorem splitS_size {s p x : ByteArray} (h : x ∈ splitS s p) : x.size ≤ s.size := splitB_size p _ s x h
theorem splitS_get (s p : ByteArray) (i : Nat) : ((splitS s p).getD i ⟨#[]⟩).size ≤ s.size := by
  rw [List.getD_eq_getElem?_getD]
  cases e : (splitS s p)[i]? with
  | none => exact Nat.zero_le _
  | some x => exact splitS_size (List.mem_of_getElem? e)
theorem splitS_len {s p : ByteArray} (h : 1 ≤ p.size) : (splitS s p).length = Lib.countB s p + 1 := Lib.splitB_all p h 0 _ s rfl
theorem splitS_le {s p : ByteArray} (h : 1 ≤ p.size) : (splitS s p).length ≤ s.size + 1 := by
  rw [splitS_len h]
  have := Lib.countB_le p h s.size s (Nat.le_refl _)
  omega
def conS (s p : ByteArray) : Bool := Lib.contains s.data.toList p.data.toList
def preS (s p : ByteArray) : Bool := Lib.hasPrefix s.data.toList p.data.toList
/-- Trim at one byte leaves a string as it is: it neither begins nor ends with the byte. -/
theorem drop_same {α : Type} {p : α → Bool} : ∀ {l : List α}, l.dropWhile p = l ↔ ∀ x, l.head? = some x → p x = false
  | [] => by simp
  | x :: l => by
    cases h : p x with
    | true =>
      rw [List.dropWhile_cons_of_pos h]
      constructor
      · intro e
        have := congrArg List.length e
        have h2 : (l.dropWhile p).length ≤ l.length := (List.dropWhile_sublist p).length_le
        simp at this
        omega
      · intro e
        have := e x rfl
        rw [h] at this
        cases this
    | false =>
      rw [List.dropWhile_cons_of_neg (by simp [h])]
      simp [h]
theorem trim_same (l : List UInt8) (c : UInt8) : Lib.trimS l [c] = l ↔ l.head? ≠ some c ∧ l.getLast? ≠ some c := by
  have hp : ∀ x : UInt8, [c].contains x = false ↔ x ≠ c := fun x => by simp
  have hR : Lib.trimRightS l [c] = l ↔ l.getLast? ≠ some c := by
    unfold Lib.trimRightS
    rw [List.reverse_eq_iff, drop_same]
    rw [List.head?_reverse]
    constructor
    · intro h e
      have := h c e
      rw [hp] at this
      exact this rfl
    · intro h x hx
      rw [hp]
      intro e
      rw [e] at hx
      exact h hx
  have hL : ∀ m : List UInt8, Lib.trimLeftS m [c] = m ↔ m.head? ≠ some c := fun m => by
    unfold Lib.trimLeftS
    rw [drop_same]
    constructor
    · intro h e
      have := h c e
      rw [hp] at this
      exact this rfl
    · intro h x hx
      rw [hp]
      intro e
      rw [e] at hx
      exact h hx
  have hlR : (Lib.trimRightS l [c]).length ≤ l.length := by
    unfold Lib.trimRightS
    rw [List.length_reverse]
    have := (List.dropWhile_sublist (l := l.reverse) fun x => [c].contains x).length_le
    rwa [List.length_reverse] at this
  unfold Lib.trimS
  constructor
  · intro h
    have h1 : (Lib.trimLeftS (Lib.trimRightS l [c]) [c]).length ≤ (Lib.trimRightS l [c]).length := (List.dropWhile_sublist _).length_le
    rw [h] at h1
    have h2 : Lib.trimRightS l [c] = l := by
      have hs : (Lib.trimRightS l [c]).Sublist l := by
        unfold Lib.trimRightS
        have := (List.dropWhile_sublist (l := l.reverse) fun x => [c].contains x).reverse
        rwa [List.reverse_reverse] at this
      exact hs.eq_of_length (by omega)
    rw [h2] at h
    exact ⟨(hL l).1 h, hR.1 h2⟩
  · rintro ⟨h1, h2⟩
    rw [hR.2 h2, (hL l).2 h1]
theorem bt_head {s : ByteArray} (h : 1 ≤ s.size) (c : UInt8) : s.data.toList.head? ≠ some c ↔ bt s 0 ≠ (c.toNat : Int) := by
  cases hd : s.data.toList with
  | nil => rw [← len_size, hd] at h; cases h
  | cons x r =>
    have : bt s 0 = (x.toNat : Int) := by unfold bt; rw [hd]; rfl
    rw [this]
    simp only [List.head?_cons, ne_eq, Option.some.injEq, Int.natCast_inj]
    exact ⟨fun h e => h (UInt8.toNat_inj.1 e), fun h e => h (by rw [e])⟩
theorem bt_last {s : ByteArray} (h : 1 ≤ s.size) (c : UInt8) : s.data.toList.getLast? ≠ some c ↔ bt s ((s.size : Int) - 1) ≠ (c.toNat : Int) := by
  have hl := len_size s
  have e1 : ((s.size : Int) - 1).toNat = s.size - 1 := by omega
  have hlt : s.size - 1 < s.data.toList.length := by omega
  have : bt s ((s.size : Int) - 1) = ((s.data.toList[s.size - 1]'hlt).toNat : Int) := by
    unfold bt
    rw [e1, List.getD_eq_getElem?_getD, List.getElem?_eq_getElem hlt]; rfl
  rw [this, List.getLast?_eq_getElem?, hl, List.getElem?_eq_getElem hlt]
  simp only [ne_eq, Option.some.injEq, Int.natCast_inj]
  exact ⟨fun h e => h (UInt8.toNat_inj.1 e), fun h e => h (by rw [e])⟩
theorem ba_eq {s t : ByteArray} : s = t ↔ s.data.toList = t.data.toList := ⟨fun h => by rw [h], fun h => ByteArray.ext (Array.ext' h)⟩
theorem trim_one {s : ByteArray} (h : 1 ≤ s.size) (c : UInt8) : trimF s ⟨#[c]⟩ = s ↔ bt s 0 ≠ (c.toNat : Int) ∧ bt s ((s.size : Int) - 1) ≠ (c.toNat : Int) := by
  rw [ba_eq]
  unfold trimF
  show Lib.trimS s.data.toList [c] = _ ↔ _
  rw [trim_same, bt_head h, bt_last h]
theorem all_no {α : Type} {l : List α} {p : α → Bool} {i : Nat} {d : α} (hi : i < l.length) (h : p (l.getD i d) = false) : l.all p = false := by
  cases e : l.all p with
  | false => rfl
  | true =>
    rw [List.all_eq_true] at e
    have := e _ (List.getElem_mem hi)
    rw [List.getD_eq_getElem?_getD, List.getElem?_eq_getElem hi, Option.getD_some] at h
    rw [h] at this
    cases this
theorem all_yes {α : Type} {l : List α} {p : α → Bool} (d : α) (h : ∀ j : Nat, j < l.length → p (l.getD j d) = true) : l.all p = true := by
  rw [List.all_eq_true]
  intro x hx
  obtain ⟨k, hk, rfl⟩ := List.mem_iff_getElem.1 hx
  have := h k hk
  rwa [List.getD_eq_getElem?_getD, List.getElem?_eq_getElem hk] at this
/-! ### The forms -/
def labC (c : Int) : Bool := smallC c || digitC c || (c == 45)
def locC (c : Int) : Bool := smallC c || digitC c || (c == 46) || (c == 45) || (c == 95)
def memC (c : Int) : Bool := digitC c || capitalC c
def hexC (c : Int) : Bool := digitC c || decide (97 ≤ c ∧ c ≤ 102)
def labelB (s : ByteArray) : Bool := inB s.size 1 30 && decide (bt s 0 ≠ 45) && decide (bt s ((s.size : Int) - 1) ≠ 45) && (bl s).all labC
def atS : ByteArray := ⟨#[64]⟩
def dotS : ByteArray := ⟨#[46]⟩
def dotsS : ByteArray := ⟨#[46, 46]⟩
def plusS : ByteArray := ⟨#[43]⟩
def localB (s : ByteArray) : Bool := inB s.size 1 64 && decide (bt s 0 ≠ 46) && decide (bt s ((s.size : Int) - 1) ≠ 46) && !conS s dotsS && (bl s).all locC
def mailB (s : ByteArray) : Bool := cutB s atS && decide ((s.size : Int) ≤ 80) && localB (cutL s atS) && (splitS (cutR s atS) dotS).all labelB && decide (2 ≤ (splitS (cutR s atS) dotS).length)
def phoneB (s : ByteArray) : Bool := preS s plusS && inB s.size 8 16 && (bl (s.extract 1 s.size)).all digitC && decide (bt s 1 ≠ 48)
def memberB (s : ByteArray) : Bool := inB s.size 4 20 && (bl s).all memC
def deviceB (s : ByteArray) : Bool := decide ((s.size : Int) = 32) && (bl s).all hexC
/-- the check sign -/
def idxC (c : Int) : Int := if digitC c = true then c - 48 else c - 55
def termS (s : ByteArray) (i : Nat) : Int := let p := if (s.size - i) % 2 = 1 then 2 * idxC (bt s i) else idxC (bt s i); p / 36 + p % 36
def sumUp (s : ByteArray) : Nat → Int
  | 0 => 0
  | n + 1 => sumUp s n + termS s n
def signN (s : ByteArray) : Int := (36 - sumUp s s.size % 36) % 36
def signsB : ByteArray := ⟨#[48, 49, 50, 51, 52, 53, 54, 55, 56, 57, 65, 66, 67, 68, 69, 70, 71, 72, 73, 74, 75, 76, 77, 78, 79, 80, 81, 82, 83, 84, 85, 86, 87, 88, 89, 90]⟩
theorem idxC_in {c : Int} (h : memC c = true) : 0 ≤ idxC c ∧ idxC c ≤ 35 := by
  unfold memC digitC capitalC at h
  unfold idxC digitC
  simp only [Bool.or_eq_true, decide_eq_true_eq] at h
  split <;> rename_i c1 <;> simp only [decide_eq_true_eq] at c1 <;> omega
theorem idx_signs : ∀ c : UInt8, memC (c.toNat : Int) = true → Lib.indexByte signsB.data.toList c = idxC (c.toNat : Int) := by
  have h := u8_all (p := fun c => !memC (c.toNat : Int) || (Lib.indexByte signsB.data.toList c == idxC (c.toNat : Int))) (by decide +kernel)
  intro c hc
  have := h c
  rw [hc] at this
  simpa using this
theorem bt_u8 (s : ByteArray) (i : Int) : (bt s i).toNat.toUInt8 = s.data.toList.getD i.toNat 0 := by
  unfold bt
  rw [Int.toNat_natCast]
  exact UInt8.ofNat_toNat
theorem idx_bt {s : ByteArray} {i : Int} (h : memC (bt s i) = true) : Lib.indexByte signsB.data.toList (bt s i).toNat.toUInt8 = idxC (bt s i) := by
  rw [bt_u8]
  exact idx_signs _ h
theorem all_at {s : ByteArray} {p : Int → Bool} (h : (bl s).all p = true) {i : Int} (h0 : 0 ≤ i) (h1 : i < s.size) : p (bt s i) = true := by
  rw [all_bt] at h
  have := h i.toNat (by omega)
  rwa [Int.toNat_of_nonneg h0] at this
theorem term_in {s : ByteArray} (h : (bl s).all memC = true) {i : Nat} (hi : i < s.size) : 0 ≤ termS s i ∧ termS s i ≤ 36 := by
  have := idxC_in (all_at h (i := i) (by omega) (by omega))
  unfold termS
  simp only
  split <;> omega
theorem sumUp_in {s : ByteArray} (h : (bl s).all memC = true) : ∀ n, n ≤ s.size → 0 ≤ sumUp s n ∧ sumUp s n ≤ 36 * n
  | 0, _ => ⟨Int.le_refl _, Int.le_refl _⟩
  | n + 1, hn => by
    have h1 := sumUp_in h n (by omega)
    have h2 := term_in h (i := n) (by omega)
    unfold sumUp
    omega
theorem signN_in (s : ByteArray) : 0 ≤ signN s ∧ signN s < 36 := by
  unfold signN
  omega
/-- What is wrong with an id. -/
def initS (s : ByteArray) : ByteArray := s.extract 0 (s.size - 1)
def idF (x : TId) : Int := if x.kind = 1 then (if mailB x.text = true then 0 else 3) else if x.kind = 2 then (if phoneB x.text = true then 0 else 3) else
  if x.kind = 3 then (if memberB x.text = true then (if bt signsB (signN (initS x.text)) ≠ bt x.text ((x.text.size : Int) - 1) then 15 else 0) else 3) else
  if x.kind = 4 then (if deviceB x.text = true then 0 else 3) else 4
/-- Their order. -/
def cmpI (a b : Int) : Int := if a < b then -1 else if a > b then 1 else 0
def lessS (s t : ByteArray) : Bool := Op.bytesLess s.toList t.toList
def cmpT (s t : ByteArray) : Int := if lessS s t = true then -1 else if s = t then 0 else 1
def ordF (a b : TId) : Int := if a.kind < b.kind then -1 else if a.kind > b.kind then 1 else cmpT a.text b.text
end Go.Avc

/- Package-level tables of numbers, strings and structs of them, from a row's list to what the walks ask. No condition. -/
set_option linter.unusedVariables false
set_option linter.unusedSimpArgs false
set_option maxRecDepth 100000
namespace Go.Avc
open Go Go.Proofs

/-- A type whose cells are numbers, bools and strings only: how many. -/
def tileF (P : Program) (rec : TypeId → Option Nat) : List Field → Nat → Option Nat
  | [], o => some o
  | f :: r, o => match rec f.type with
    | some z => if f.offset = o ∧ P.cellsOf f.type = z then tileF P rec r (o + z) else none
    | none => none
def tile (P : Program) : Nat → TypeId → Option Nat
  | 0, _ => none
  | k + 1, t => match P.underlying t with
    | some (.int _) => some 1
    | some .bool => some 1
    | some .string => some 1
    | some (.struct fs) => (match tileF P (tile P k) fs.toList 0 with
      | some n => if P.cellsOf t = n then some n else none
      | none => none)
    | some (.array n e) => (match tile P k e with
      | some z => if P.cellsOf e = z ∧ P.cellsOf t = n * z then some (n * z) else none
      | none => none)
    | _ => none
mutual
def flatW {H : Type} : DataW H → Option (List D)
  | .lit (.int k z) => some [.int k z]
  | .lit (.bool b) => some [.bool b]
  | .lit (.string b) => some [.str ⟨b.toArray⟩]
  | .agg ds => flatWs ds
  | _ => none
def flatWs {H : Type} : List (DataW H) → Option (List D)
  | [] => some []
  | d :: r => match flatW d, flatWs r with
    | some l, some m => some (l ++ m)
    | _, _ => none
end
section
variable {H : Type} {enc : TypeId × Value → H} {P : Program} {w : World} {base : Nat} {sp : Nat → Bool} {held : Bool}
def TileOk (enc : TypeId × Value → H) (P : Program) (w : World) (base : Nat) (sp : Nat → Bool) (held : Bool) (k : Nat) : Prop := ∀ t n, tile P k t = some n → ∀ fuel cs d p, DataW.trod enc P w base sp held fuel t cs = some (d, p) → ∃ l, flatW d = some l ∧ cs = l.map vD ∧ l.length = n
theorem tile_fields {k : Nat} (ih : TileOk enc P w base sp held k) {n : Nat} {cs : List Value} : ∀ (fs : List Field) (o m : Nat) (xs : List (DataW H × List MemPlace)), tileF P (tile P k) fs o = some m → (fs.mapM fun f => DataW.trod enc P w base sp held n f.type ((cs.drop f.offset).take (P.cellsOf f.type))) = some xs → cs.length = m →
    ∃ l, flatWs (xs.map (·.1)) = some l ∧ cs.drop o = l.map vD ∧ o + l.length = m
  | [], o, m, xs, h, hx, hc => by
    cases h
    simp only [List.mapM_nil, Option.pure_def, Option.some.injEq] at hx
    subst hx
    exact ⟨[], rfl, by rw [List.drop_eq_nil_of_le (Nat.le_of_eq hc)]; rfl, rfl⟩
  | f :: r, o, m, xs, h, hx, hc => by
    unfold tileF at h
    split at h
    · rename_i z e
      split at h
      · rename_i hz
        obtain ⟨ho, hz⟩ := hz
        simp only [List.mapM_cons, Option.bind_eq_bind, Option.bind_eq_some_iff, Option.pure_def, Option.some.injEq] at hx
        obtain ⟨⟨d, p⟩, h1, ys, h2, rfl⟩ := hx
        obtain ⟨l, l1, l2, l3⟩ := ih _ _ e n _ d p h1
        obtain ⟨l', l4, l5, l6⟩ := tile_fields ih r (o + z) m ys h h2 hc
        rw [ho, hz] at l2
        refine ⟨l ++ l', ?_, ?_, by rw [List.length_append, l3]; omega⟩
        · rw [List.map_cons]
          unfold flatWs
          simp only [l1, l4]
        · rw [List.map_append, ← l2, ← l5, ← List.drop_drop, List.take_append_drop]
      · cases h
    · cases h
theorem tile_elems {k : Nat} (ih : TileOk enc P w base sp held k) {e : TypeId} {z n : Nat} (he : tile P k e = some z) {cs : List Value} : ∀ (m o : Nat) (xs : List (DataW H × List MemPlace)), ((List.range' o m).mapM fun i => DataW.trod enc P w base sp held n e ((cs.drop (i * z)).take z)) = some xs → cs.length = (o + m) * z →
    ∃ l, flatWs (xs.map (·.1)) = some l ∧ cs.drop (o * z) = l.map vD ∧ l.length = m * z
  | 0, o, xs, hx, hc => by
    simp only [List.range'_zero, List.mapM_nil, Option.pure_def, Option.some.injEq] at hx
    subst hx
    exact ⟨[], rfl, by rw [List.drop_eq_nil_of_le (by rw [hc]; exact Nat.le_refl _)]; rfl, (Nat.zero_mul z).symm⟩
  | m + 1, o, xs, hx, hc => by
    rw [List.range'_succ] at hx
    simp only [List.mapM_cons, Option.bind_eq_bind, Option.bind_eq_some_iff, Option.pure_def, Option.some.injEq] at hx
    obtain ⟨⟨d, p⟩, h1, ys, h2, rfl⟩ := hx
    obtain ⟨l, l1, l2, l3⟩ := ih _ _ he n _ d p h1
    obtain ⟨l', l4, l5, l6⟩ := tile_elems ih he m (o + 1) ys h2 (by rw [hc]; congr 1; omega)
    refine ⟨l ++ l', ?_, ?_, by rw [List.length_append, l3, l6, Nat.succ_mul]; omega⟩
    · rw [List.map_cons]
      unfold flatWs
      simp only [l1, l4]
    · rw [List.map_append, ← l2, ← l5, Nat.succ_mul, ← List.drop_drop, List.take_append_drop]
theorem tile_ok : ∀ k, TileOk enc P w base sp held k
  | 0 => fun t n h => by cases h
  | k + 1 => fun t n h fuel cs d p hd => by
    unfold tile at h
    split at h <;> rename_i hu
    · cases h
      obtain ⟨z, rfl, hx, _⟩ := DataW.trod_int hu hd
      cases hx
      exact ⟨_, rfl, rfl, rfl⟩
    · cases h
      obtain ⟨z, rfl, hx⟩ := DataW.trod_bool hu hd
      cases hx
      exact ⟨_, rfl, rfl, rfl⟩
    · cases h
      obtain ⟨z, rfl, hx, _⟩ := DataW.trod_string hu hd
      cases hx
      exact ⟨_, rfl, rfl, rfl⟩
    · rename_i fs
      split at h
      · rename_i m e
        split at h
        · rename_i hc
          cases h
          cases fuel with
          | zero => simp [DataW.trod] at hd
          | succ fuel =>
            change DataW.trodStep enc P w base sp held (DataW.trod enc P w base sp held fuel) t cs = _ at hd
            unfold DataW.trodStep at hd
            rw [hu] at hd
            simp only at hd
            split at hd
            · rename_i hl
              obtain ⟨xs, hx, hxs⟩ := Option.map_eq_some_iff.1 hd
              cases hxs
              obtain ⟨l, l1, l2, l3⟩ := tile_fields (tile_ok k) fs.toList 0 _ xs e hx (by rw [hl, hc])
              exact ⟨l, l1, by rw [List.drop_zero] at l2; exact l2, by omega⟩
            · cases hd
        · cases h
      · cases h
    · rename_i n' e
      split at h
      · rename_i z hz
        split at h
        · rename_i hc
          cases h
          cases fuel with
          | zero => simp [DataW.trod] at hd
          | succ fuel =>
            change DataW.trodStep enc P w base sp held (DataW.trod enc P w base sp held fuel) t cs = _ at hd
            unfold DataW.trodStep at hd
            rw [hu] at hd
            simp only at hd
            split at hd
            · rename_i hl
              obtain ⟨xs, hx, hxs⟩ := Option.map_eq_some_iff.1 hd
              cases hxs
              rw [hc.1, List.range_eq_range'] at hx
              obtain ⟨l, l1, l2, l3⟩ := tile_elems (tile_ok k) hz n' 0 xs hx (by rw [hl, hc.2, Nat.zero_add])
              exact ⟨l, l1, by rw [Nat.zero_mul, List.drop_zero] at l2; exact l2, l3⟩
            · cases hd
        · cases h
      · cases h
    · cases h
end
theorem vD_rd {ok : Nat → Prop} {w : World} {x : D} (h : x.flat = true) : Rd ok w x (match x with | .sl _ => .slice none 0 0 | x => vD x) := by
  cases x with
  | int k n => exact .int k n
  | bool b => exact .bool b
  | str s => exact .str s
  | sl l =>
    have : l = [] := by simpa [D.flat] using h
    subst this
    exact .nil _ _
theorem rdL_vD' {ok : Nat → Prop} {w : World} {l : List D} (h : (l.map D.ek).all EK.ok = true) : RdL ok w l (l.map vD) := ⟨by rw [List.length_map], fun j x v hx hv => by
  rw [List.getElem?_map, hx] at hv
  cases hv
  have hk := List.all_eq_true.1 h _ (List.mem_map.2 ⟨x, List.mem_of_getElem? hx, rfl⟩)
  cases x with
  | int k n => exact .int k n
  | bool b => exact .bool b
  | str s => exact .str s
  | sl l => cases hk⟩
/-- A listed variable lies so. -/
theorem lies_of_reads {P : Program} {w : World} {n : String} {d : DataW Unit} (h : Lib.VarReads P w n d) {g : Nat} {t : TypeId} {l : List D} {m : Nat} (hg : P.globalNamed n = some g) (ht : (P.globals[g]?).map (·.type) = some t) (htl : tile P 8 t = some m) (hl : flatW d = some l) (hne : l ≠ []) :
    g < w.heap.size ∧ ∀ (j : Nat) (u : Value), (l.map vD)[j]? = some u → w.cell? ⟨g, j, none⟩ = some u := by
  obtain ⟨g', t', cs, fuel, p, e1, e2, hvar, hd⟩ := h
  obtain rfl := Option.some.inj (hg.symm.trans e1)
  obtain rfl := Option.some.inj (ht.symm.trans e2)
  obtain ⟨l', l1, l2, _⟩ := tile_ok 8 _ _ htl _ _ _ _ hd
  obtain rfl := Option.some.inj (hl.symm.trans l1)
  have hcell : ∀ (j : Nat) (u : Value), (l.map vD)[j]? = some u → w.cell? ⟨g, j, none⟩ = some u := fun j u hj => by
    rw [World.var?_cell hg hvar j, ← Array.getElem?_toList, l2]
    exact hj
  refine ⟨?_, hcell⟩
  have h0 : ∃ u, (l.map vD)[0]? = some u := by
    cases l with
    | nil => exact absurd rfl hne
    | cons x r => exact ⟨vD x, rfl⟩
  obtain ⟨u, hu⟩ := h0
  have := hcell 0 u hu
  by_cases hb : g < w.heap.size
  · exact hb
  · unfold World.cell? at this
    rw [Array.getElem?_eq_none (show w.heap.size ≤ g by omega)] at this
    cases this
/-- The tables of unicode/utf8 and further ones. -/
def globX (ex : Nat → Option (List D)) : Nat → Option (List D) := fun k => match globU k with
  | some l => some l
  | none => ex k
def Lies (w : World) (ex : Nat → Option (List D)) : Prop := ∀ k l, ex k = some l → k < 3 ∧ k < w.heap.size ∧ (l.map D.ek).all EK.ok = true ∧ ∀ (j : Nat) (u : Value), (l.map vD)[j]? = some u → w.cell? ⟨k, j, none⟩ = some u
theorem glAt_X {W : World} {L : List Int} {ST : TypeId} {ex : Nat → Option (List D)} (h : Lib.Utf8Tabs 1 2 W) (hx : Lies W ex) : GlAt ⟨Tryd.prog, none, L, ST, 3, globX ex⟩ W := by
  intro k l hk
  have hU := glAt_of_tabs (L := L) (ST := ST) h
  change globX ex k = some l at hk
  unfold globX at hk
  split at hk
  · rename_i l' e
    cases hk
    exact hU k l e
  · obtain ⟨h1, h2, h3, h4⟩ := hx k l hk
    exact ⟨h1, h2, _, h4, rdL_vD' h3⟩
theorem utf8_of_globX {cx : Cx} {W0 : Cx} {ex : Nat → Option (List D)} (hW : W0.glob = globX ex) (h : ∀ w, GlAt cx w → GlAt W0 w) : Utf8 cx := by
  refine utf8_of_glob (W0 := { W0 with glob := globU }) rfl fun w hw k l hk => ?_
  refine h w hw k l ?_
  rw [hW]
  unfold globX
  rw [show globU k = some l from hk]
theorem tabs_of_list {W : World} {ls : List (String × DataW Unit)} (h : laidMet Tryd.prog ls W) (h1 : ("unicode/utf8.first", YtjeljamjocligaaDoor.Rows.laid_unicode_utf8_first) ∈ ls) (h2 : ("unicode/utf8.acceptRanges", YtjeljamjocligaaDoor.Rows.laid_unicode_utf8_acceptRanges) ∈ ls) : Lib.Utf8Tabs 1 2 W := by
  rw [first_eq] at h1
  rw [accept_eq] at h2
  exact utf8Tabs_of_reads Tryd.lays260 u8Extra (Lib.laidMet.reads h h1) (Lib.laidMet.reads h h2)
end Go.Avc

/- Functions of package strings on plain strings, and comparisons: their contracts. No condition. -/
set_option linter.unusedVariables false
set_option linter.unusedSimpArgs false
set_option maxRecDepth 100000
namespace Go.Avc
open Go Go.Proofs

/-- The greatest length for which package bytealg looks for a string is some number. -/
def MaxL (cx : Cx) : Prop := ∀ w, GlAt cx w → ∃ m : Int, w.cell? ⟨0, 0, none⟩ = some (.int .i64 m)
theorem below_same {w w' : World} (h : w' = w) : RowKit.Below w.heap.size w w' := by
  subst h
  exact ⟨rfl, rfl, rfl, Nat.le_refl _, fun _ _ => rfl⟩
theorem below_drawn {w w' : World} (h : ∃ n, w' = w.drewN n) : RowKit.Below w.heap.size w w' := by
  obtain ⟨n, rfl⟩ := h
  exact ⟨rfl, rfl, rfl, Nat.le_refl _, fun _ _ => rfl⟩
def cutSp  : Spec where
  pre xs := ∃ (s : ByteArray) (p : ByteArray), xs = [.str s, .str p] ∧ (s.size ≤ 4000000000)
  post xs y := ∃ (s : ByteArray) (p : ByteArray), xs = [.str s, .str p] ∧ y = .tcons (.str (cutL s p)) (.tcons (.str (cutR s p)) (.tcons (.b (cutB s p)) .tnil))
  cost _ := 0
  fresh := true
theorem cutSp_c  (xs : List AV) : (cutSp).cost xs = 0 := nr rfl
theorem cutSp_f  : (cutSp).fresh = true := nr rfl
theorem cutSp_q  (s : ByteArray) (p : ByteArray) : (cutSp).pre [.str s, .str p] = (s.size ≤ 4000000000) := propext ⟨fun h => by
  have h' : ∃ (s' : ByteArray) (p' : ByteArray), ([.str s, .str p] : List AV) = [.str s', .str p'] ∧ (s'.size ≤ 4000000000) := h
  obtain ⟨s', p', e, h⟩ := h'
  simp only [List.cons.injEq, AV.dv.injEq, AV.fv.injEq, DV.d.injEq, DV.ag.injEq, D.int.injEq, D.str.injEq, D.bool.injEq, D.sl.injEq, true_and, and_true, intsDi_inj, rowsT_inj, rowsKi_inj] at e
  obtain ⟨rfl, rfl⟩ := e
  exact h, fun h => ⟨s, p, rfl, h⟩⟩
theorem cutSp_p  (s : ByteArray) (p : ByteArray) : (cutSp).post [.str s, .str p] = fun y => y = .tcons (.str (cutL s p)) (.tcons (.str (cutR s p)) (.tcons (.b (cutB s p)) .tnil)) := funext fun y => propext ⟨fun h => by
  have h' : ∃ (s' : ByteArray) (p' : ByteArray), ([.str s, .str p] : List AV) = [.str s', .str p'] ∧ y = .tcons (.str (cutL s' p')) (.tcons (.str (cutR s' p')) (.tcons (.b (cutB s' p')) .tnil)) := h
  obtain ⟨s', p', e, h⟩ := h'
  simp only [List.cons.injEq, AV.dv.injEq, AV.fv.injEq, DV.d.injEq, DV.ag.injEq, D.int.injEq, D.str.injEq, D.bool.injEq, D.sl.injEq, true_and, and_true, intsDi_inj, rowsT_inj, rowsKi_inj] at e
  obtain ⟨rfl, rfl⟩ := e
  exact h, fun h => ⟨s, p, rfl, h⟩⟩
theorem cut_ctr {cx : Cx} (h : Seat cx) (hM : MaxL cx) : Ctr cx 46 cutSp := by
  refine ctr_flat (by rw [h.hP]; exact ⟨_, Tryd.func46, by kernel_rfl, by kernel_rfl⟩) (fun _ => rfl) ?_
  rintro xs ⟨s, p, rfl, h1⟩
  refine ⟨_, _, _, rfl, ⟨s, p, rfl, rfl⟩, rfl, fun w hw => ?_⟩
  rw [h.hP]
  obtain ⟨m, hm⟩ := hM w hw
  exact (Tryd.strings_Cut s p m w (by omega) hm).mono fun e w' ⟨h1, h2⟩ => ⟨h1, below_drawn h2⟩
def conSp  : Spec where
  pre xs := ∃ (s : ByteArray) (p : ByteArray), xs = [.str s, .str p] ∧ (s.size ≤ 4000000000)
  post xs y := ∃ (s : ByteArray) (p : ByteArray), xs = [.str s, .str p] ∧ y = .b (conS s p)
  cost _ := 0
  fresh := true
theorem conSp_c  (xs : List AV) : (conSp).cost xs = 0 := nr rfl
theorem conSp_f  : (conSp).fresh = true := nr rfl
theorem conSp_q  (s : ByteArray) (p : ByteArray) : (conSp).pre [.str s, .str p] = (s.size ≤ 4000000000) := propext ⟨fun h => by
  have h' : ∃ (s' : ByteArray) (p' : ByteArray), ([.str s, .str p] : List AV) = [.str s', .str p'] ∧ (s'.size ≤ 4000000000) := h
  obtain ⟨s', p', e, h⟩ := h'
  simp only [List.cons.injEq, AV.dv.injEq, AV.fv.injEq, DV.d.injEq, DV.ag.injEq, D.int.injEq, D.str.injEq, D.bool.injEq, D.sl.injEq, true_and, and_true, intsDi_inj, rowsT_inj, rowsKi_inj] at e
  obtain ⟨rfl, rfl⟩ := e
  exact h, fun h => ⟨s, p, rfl, h⟩⟩
theorem conSp_p  (s : ByteArray) (p : ByteArray) : (conSp).post [.str s, .str p] = fun y => y = .b (conS s p) := funext fun y => propext ⟨fun h => by
  have h' : ∃ (s' : ByteArray) (p' : ByteArray), ([.str s, .str p] : List AV) = [.str s', .str p'] ∧ y = .b (conS s' p') := h
  obtain ⟨s', p', e, h⟩ := h'
  simp only [List.cons.injEq, AV.dv.injEq, AV.fv.injEq, DV.d.injEq, DV.ag.injEq, D.int.injEq, D.str.injEq, D.bool.injEq, D.sl.injEq, true_and, and_true, intsDi_inj, rowsT_inj, rowsKi_inj] at e
  obtain ⟨rfl, rfl⟩ := e
  exact h, fun h => ⟨s, p, rfl, h⟩⟩
theorem contains_ctr {cx : Cx} (h : Seat cx) (hM : MaxL cx) : Ctr cx 62 conSp := by
  refine ctr_flat (by rw [h.hP]; exact ⟨_, Tryd.func62, by kernel_rfl, by kernel_rfl⟩) (fun _ => rfl) ?_
  rintro xs ⟨s, p, rfl, h1⟩
  refine ⟨_, _, _, rfl, ⟨s, p, rfl, rfl⟩, rfl, fun w hw => ?_⟩
  rw [h.hP]
  obtain ⟨m, hm⟩ := hM w hw
  exact (Tryd.strings_Contains s p m w (by omega) hm).mono fun e w' ⟨h1, h2⟩ => ⟨h1, below_same h2⟩
def preSp  : Spec where
  pre xs := ∃ (s : ByteArray) (p : ByteArray), xs = [.str s, .str p]
  post xs y := ∃ (s : ByteArray) (p : ByteArray), xs = [.str s, .str p] ∧ y = .b (preS s p)
  cost _ := 0
  fresh := true
theorem preSp_c  (xs : List AV) : (preSp).cost xs = 0 := nr rfl
theorem preSp_f  : (preSp).fresh = true := nr rfl
theorem preSp_q  (s : ByteArray) (p : ByteArray) : (preSp).pre [.str s, .str p] = (True) := propext ⟨fun h => by
  have h' : ∃ (s' : ByteArray) (p' : ByteArray), ([.str s, .str p] : List AV) = [.str s', .str p'] := h
  obtain ⟨s', p', e⟩ := h'
  simp only [List.cons.injEq, AV.dv.injEq, AV.fv.injEq, DV.d.injEq, DV.ag.injEq, D.int.injEq, D.str.injEq, D.bool.injEq, D.sl.injEq, true_and, and_true, intsDi_inj, rowsT_inj, rowsKi_inj] at e
  obtain ⟨rfl, rfl⟩ := e
  exact trivial, fun h => ⟨s, p, rfl⟩⟩
theorem preSp_p  (s : ByteArray) (p : ByteArray) : (preSp).post [.str s, .str p] = fun y => y = .b (preS s p) := funext fun y => propext ⟨fun h => by
  have h' : ∃ (s' : ByteArray) (p' : ByteArray), ([.str s, .str p] : List AV) = [.str s', .str p'] ∧ y = .b (preS s' p') := h
  obtain ⟨s', p', e, h⟩ := h'
  simp only [List.cons.injEq, AV.dv.injEq, AV.fv.injEq, DV.d.injEq, DV.ag.injEq, D.int.injEq, D.str.injEq, D.bool.injEq, D.sl.injEq, true_and, and_true, intsDi_inj, rowsT_inj, rowsKi_inj] at e
  obtain ⟨rfl, rfl⟩ := e
  exact h, fun h => ⟨s, p, rfl, h⟩⟩
theorem hasPrefix_ctr {cx : Cx} (h : Seat cx) : Ctr cx 29 preSp := by
  refine ctr_flat (by rw [h.hP]; exact ⟨_, Tryd.func29, by kernel_rfl, by kernel_rfl⟩) (fun _ => rfl) ?_
  rintro xs ⟨s, p, rfl⟩
  refine ⟨_, _, _, rfl, ⟨s, p, rfl, rfl⟩, rfl, fun w hw => ?_⟩
  rw [h.hP]
  exact (Tryd.strings_HasPrefix s p w).mono fun e w' ⟨h1, h2⟩ => ⟨h1, below_same h2⟩
def cpreF (s p : ByteArray) : ByteArray := ⟨(Lib.trimPrefix s.data.toList p.data.toList).toArray⟩
def cpreSp  : Spec where
  pre xs := ∃ (s : ByteArray) (p : ByteArray), xs = [.str s, .str p]
  post xs y := ∃ (s : ByteArray) (p : ByteArray), xs = [.str s, .str p] ∧ y = .tcons (.str (cpreF s p)) (.tcons (.b (preS s p)) .tnil)
  cost _ := 0
  fresh := true
theorem cpreSp_c  (xs : List AV) : (cpreSp).cost xs = 0 := nr rfl
theorem cpreSp_f  : (cpreSp).fresh = true := nr rfl
theorem cpreSp_q  (s : ByteArray) (p : ByteArray) : (cpreSp).pre [.str s, .str p] = (True) := propext ⟨fun h => by
  have h' : ∃ (s' : ByteArray) (p' : ByteArray), ([.str s, .str p] : List AV) = [.str s', .str p'] := h
  obtain ⟨s', p', e⟩ := h'
  simp only [List.cons.injEq, AV.dv.injEq, AV.fv.injEq, DV.d.injEq, DV.ag.injEq, D.int.injEq, D.str.injEq, D.bool.injEq, D.sl.injEq, true_and, and_true, intsDi_inj, rowsT_inj, rowsKi_inj] at e
  obtain ⟨rfl, rfl⟩ := e
  exact trivial, fun h => ⟨s, p, rfl⟩⟩
theorem cpreSp_p  (s : ByteArray) (p : ByteArray) : (cpreSp).post [.str s, .str p] = fun y => y = .tcons (.str (cpreF s p)) (.tcons (.b (preS s p)) .tnil) := funext fun y => propext ⟨fun h => by
  have h' : ∃ (s' : ByteArray) (p' : ByteArray), ([.str s, .str p] : List AV) = [.str s', .str p'] ∧ y = .tcons (.str (cpreF s' p')) (.tcons (.b (preS s' p')) .tnil) := h
  obtain ⟨s', p', e, h⟩ := h'
  simp only [List.cons.injEq, AV.dv.injEq, AV.fv.injEq, DV.d.injEq, DV.ag.injEq, D.int.injEq, D.str.injEq, D.bool.injEq, D.sl.injEq, true_and, and_true, intsDi_inj, rowsT_inj, rowsKi_inj] at e
  obtain ⟨rfl, rfl⟩ := e
  exact h, fun h => ⟨s, p, rfl, h⟩⟩
theorem cutPrefix_ctr {cx : Cx} (h : Seat cx) : Ctr cx 28 cpreSp := by
  refine ctr_flat (by rw [h.hP]; exact ⟨_, Tryd.func28, by kernel_rfl, by kernel_rfl⟩) (fun _ => rfl) ?_
  rintro xs ⟨s, p, rfl⟩
  refine ⟨_, _, _, rfl, ⟨s, p, rfl, rfl⟩, rfl, fun w hw => ?_⟩
  rw [h.hP]
  exact (Tryd.strings_CutPrefix s p w).mono fun e w' ⟨h1, h2⟩ => ⟨h1, below_same h2⟩
def ixB (s : ByteArray) (c : Int) : Int := Lib.indexByte s.data.toList c.toNat.toUInt8
def ixSp  : Spec where
  pre xs := ∃ (s : ByteArray) (c : Int), xs = [.str s, .u8 c]
  post xs y := ∃ (s : ByteArray) (c : Int), xs = [.str s, .u8 c] ∧ y = .i (ixB s c)
  cost _ := 0
  fresh := true
theorem ixSp_c  (xs : List AV) : (ixSp).cost xs = 0 := nr rfl
theorem ixSp_f  : (ixSp).fresh = true := nr rfl
theorem ixSp_q  (s : ByteArray) (c : Int) : (ixSp).pre [.str s, .u8 c] = (True) := propext ⟨fun h => by
  have h' : ∃ (s' : ByteArray) (c' : Int), ([.str s, .u8 c] : List AV) = [.str s', .u8 c'] := h
  obtain ⟨s', c', e⟩ := h'
  simp only [List.cons.injEq, AV.dv.injEq, AV.fv.injEq, DV.d.injEq, DV.ag.injEq, D.int.injEq, D.str.injEq, D.bool.injEq, D.sl.injEq, true_and, and_true, intsDi_inj, rowsT_inj, rowsKi_inj] at e
  obtain ⟨rfl, rfl⟩ := e
  exact trivial, fun h => ⟨s, c, rfl⟩⟩
theorem ixSp_p  (s : ByteArray) (c : Int) : (ixSp).post [.str s, .u8 c] = fun y => y = .i (ixB s c) := funext fun y => propext ⟨fun h => by
  have h' : ∃ (s' : ByteArray) (c' : Int), ([.str s, .u8 c] : List AV) = [.str s', .u8 c'] ∧ y = .i (ixB s' c') := h
  obtain ⟨s', c', e, h⟩ := h'
  simp only [List.cons.injEq, AV.dv.injEq, AV.fv.injEq, DV.d.injEq, DV.ag.injEq, D.int.injEq, D.str.injEq, D.bool.injEq, D.sl.injEq, true_and, and_true, intsDi_inj, rowsT_inj, rowsKi_inj] at e
  obtain ⟨rfl, rfl⟩ := e
  exact h, fun h => ⟨s, c, rfl, h⟩⟩
theorem indexByte_ctr {cx : Cx} (h : Seat cx) : Ctr cx 26 ixSp := by
  refine ctr_flat (by rw [h.hP]; exact ⟨_, Tryd.func26, by kernel_rfl, by kernel_rfl⟩) (fun _ => rfl) ?_
  rintro xs ⟨s, c, rfl⟩
  refine ⟨_, _, _, rfl, ⟨s, c, rfl, rfl⟩, rfl, fun w hw => ?_⟩
  rw [h.hP]
  exact (Tryd.strings_IndexByte s c w).mono fun e w' ⟨h1, h2⟩ => ⟨h1, below_same h2⟩
def splitSp  : Spec where
  pre xs := ∃ (s : ByteArray) (p : ByteArray), xs = [.str s, .str p] ∧ (s.size ≤ 4000000000 ∧ 1 ≤ p.size)
  post xs y := ∃ (s : ByteArray) (p : ByteArray), xs = [.str s, .str p] ∧ y = .sl (rowsT (splitS s p))
  cost _ := 0
  fresh := true
theorem splitSp_c  (xs : List AV) : (splitSp).cost xs = 0 := nr rfl
theorem splitSp_f  : (splitSp).fresh = true := nr rfl
theorem splitSp_q  (s : ByteArray) (p : ByteArray) : (splitSp).pre [.str s, .str p] = (s.size ≤ 4000000000 ∧ 1 ≤ p.size) := propext ⟨fun h => by
  have h' : ∃ (s' : ByteArray) (p' : ByteArray), ([.str s, .str p] : List AV) = [.str s', .str p'] ∧ (s'.size ≤ 4000000000 ∧ 1 ≤ p'.size) := h
  obtain ⟨s', p', e, h⟩ := h'
  simp only [List.cons.injEq, AV.dv.injEq, AV.fv.injEq, DV.d.injEq, DV.ag.injEq, D.int.injEq, D.str.injEq, D.bool.injEq, D.sl.injEq, true_and, and_true, intsDi_inj, rowsT_inj, rowsKi_inj] at e
  obtain ⟨rfl, rfl⟩ := e
  exact h, fun h => ⟨s, p, rfl, h⟩⟩
theorem splitSp_p  (s : ByteArray) (p : ByteArray) : (splitSp).post [.str s, .str p] = fun y => y = .sl (rowsT (splitS s p)) := funext fun y => propext ⟨fun h => by
  have h' : ∃ (s' : ByteArray) (p' : ByteArray), ([.str s, .str p] : List AV) = [.str s', .str p'] ∧ y = .sl (rowsT (splitS s' p')) := h
  obtain ⟨s', p', e, h⟩ := h'
  simp only [List.cons.injEq, AV.dv.injEq, AV.fv.injEq, DV.d.injEq, DV.ag.injEq, D.int.injEq, D.str.injEq, D.bool.injEq, D.sl.injEq, true_and, and_true, intsDi_inj, rowsT_inj, rowsKi_inj] at e
  obtain ⟨rfl, rfl⟩ := e
  exact h, fun h => ⟨s, p, rfl, h⟩⟩
theorem split_ctr {cx : Cx} (h : Seat cx) (hM : MaxL cx) : Ctr cx 61 splitSp := by
  refine ⟨by rw [h.hP]; exact ⟨_, Tryd.func61, by kernel_rfl, by kernel_rfl⟩, fun xs ⟨s, p, e, _⟩ => ⟨_, s, p, e, rfl⟩, ?_⟩
  rintro F xs us hcx hF hst hgl hco hlen hargs ⟨s, p, rfl, h1, h2⟩
  obtain rfl := vals_of (vs := [.string s, .string p]) rfl hlen hargs
  rw [h.hP]
  obtain ⟨m, hm⟩ := hM F.w0 hgl
  refine (Tryd.strings_Split s p m F.w0 (by omega) hm h2).mono ?_
  rintro e w' ⟨rfl, rfl⟩
  refine ⟨_, _, rfl, Gr.alloc _ F.w0 _, hst.keep (Nat.le_of_lt (alloc_size F.w0 _)) (fun b hb => (alloc_gr F.w0 _).block b hb (by simp)), ⟨s, p, rfl, rfl⟩, rfl, ?_⟩
  show Rd _ _ (.sl (rowsT (splitS s p))) _
  have hl : (rowsT (splitS s p)).length = Lib.countB s p + 1 := by rw [rowsT_len, splitS_len h2]
  rw [← hl]
  have hg : ∀ (i : Nat) (x : List D), (rowsT (splitS s p))[i]? = some x → ∃ t, (splitS s p)[i]? = some t ∧ x = [.str t] := fun i x hx => by
    unfold rowsT at hx
    rw [List.getElem?_map, Option.map_eq_some_iff] at hx
    obtain ⟨t, ht, rfl⟩ := hx
    exact ⟨t, ht, rfl⟩
  refine .sl _ 1 F.w0.heap.size 0 _ (fun i _ => .string ((splitS s p).getD i ⟨#[]⟩)) (Nat.le_refl _) (.inr (Nat.le_refl _)) (alloc_size F.w0 _) (fun i x hx => ?_) (fun i x hx j y hy => ?_) (fun i x hx j y hy => ?_)
  · obtain ⟨t, ht, rfl⟩ := hg i x hx
    rfl
  · obtain ⟨t, ht, rfl⟩ := hg i x hx
    cases j with
    | succ j => simp at hy
    | zero =>
      unfold World.cell?
      rw [heap_alloc_new]
      show (((Lib.splitB p 0 (Lib.countB s p) s).map Value.string).toArray)[0 + i * 1 + 0]? = _
      rw [List.getElem?_toArray, List.getElem?_map, List.getD_eq_getElem?_getD, ht, show 0 + i * 1 + 0 = i by omega]
      show ((splitS s p)[i]?).map _ = _
      rw [ht]
      rfl
  · obtain ⟨t, ht, rfl⟩ := hg i x hx
    cases j with
    | succ j => simp at hy
    | zero =>
      cases hy
      rw [List.getD_eq_getElem?_getD, ht]
      exact .str t
/-! ### Comparisons -/
def cmpISp  : Spec where
  pre xs := ∃ (a : Int) (b : Int), xs = [.i a, .i b]
  post xs y := ∃ (a : Int) (b : Int), xs = [.i a, .i b] ∧ y = .i (cmpI a b)
  cost _ := 0
  fresh := true
theorem cmpISp_c  (xs : List AV) : (cmpISp).cost xs = 0 := nr rfl
theorem cmpISp_f  : (cmpISp).fresh = true := nr rfl
theorem cmpISp_q  (a : Int) (b : Int) : (cmpISp).pre [.i a, .i b] = (True) := propext ⟨fun h => by
  have h' : ∃ (a' : Int) (b' : Int), ([.i a, .i b] : List AV) = [.i a', .i b'] := h
  obtain ⟨a', b', e⟩ := h'
  simp only [List.cons.injEq, AV.dv.injEq, AV.fv.injEq, DV.d.injEq, DV.ag.injEq, D.int.injEq, D.str.injEq, D.bool.injEq, D.sl.injEq, true_and, and_true, intsDi_inj, rowsT_inj, rowsKi_inj] at e
  obtain ⟨rfl, rfl⟩ := e
  exact trivial, fun h => ⟨a, b, rfl⟩⟩
theorem cmpISp_p  (a : Int) (b : Int) : (cmpISp).post [.i a, .i b] = fun y => y = .i (cmpI a b) := funext fun y => propext ⟨fun h => by
  have h' : ∃ (a' : Int) (b' : Int), ([.i a, .i b] : List AV) = [.i a', .i b'] ∧ y = .i (cmpI a' b') := h
  obtain ⟨a', b', e, h⟩ := h'
  simp only [List.cons.injEq, AV.dv.injEq, AV.fv.injEq, DV.d.injEq, DV.ag.injEq, D.int.injEq, D.str.injEq, D.bool.injEq, D.sl.injEq, true_and, and_true, intsDi_inj, rowsT_inj, rowsKi_inj] at e
  obtain ⟨rfl, rfl⟩ := e
  exact h, fun h => ⟨a, b, rfl, h⟩⟩
end Go.Avc

/- Ids: what is wrong with them and their order, by the program. No condition. -/
set_option linter.unusedVariables false
set_option linter.unusedSimpArgs false
set_option maxRecDepth 100000
namespace Go.Avc
open Go Go.Proofs

/-- a closure over nothing on bytes -/
def byteΦ (p : Int → Bool) : List (List D) → FSpec := csp F0 u8D fun _ c => p c
theorem byteΦ_h (p : Int → Bool) (c : Int) : (byteΦ p []).holds (.d (.int .u8 c)) = p c := csp_holds (g := fun _ c => p c) F0_inj u8D_inj () c
theorem byteΦ_d (p : Int → Bool) (c : Int) : (byteΦ p []).det (.d (.int .u8 c)) := csp_det (g := fun _ c => p c) F0_inj u8D_inj () c
theorem byteΦ_of {cx : Cx} {fn : FuncId} {p : Int → Bool} (h : Ctr cx fn (byteS p)) : ∀ caps, Ctr cx fn (clo (byteΦ p) caps) := clo_of (g := fun _ c => p c) (h.weaken (fun xs ⟨_, a, e⟩ => ⟨a, e⟩) (fun xs r ⟨_, a, e⟩ ⟨b, e2, e3⟩ => ⟨(), b, e2, e3⟩) (fun _ => Nat.le_refl _) rfl)
theorem isLabel1_ctr {cx : Cx} (h : Seat cx) : Ctr cx 90 (byteS labC) := by
  refine ctr_of (fn := Tryd.f90) (l := [.tmp 2]) (envL [(48, (byteS smallC)), (15, (byteS digitC))]) [0, 2] [] [] (envL_cons (small_ctr h) (envL_cons (digit_ctr h) (env0 h.hP))) ?_ (by rw [h.hP]; exact Tryd.func90) rfl (by kernel_rfl) rfl ?_ ?_
  · rw [h.hP]; exact ⟨_, Tryd.func90, by kernel_rfl, by kernel_rfl⟩
  · rintro xs ⟨c, rfl⟩; exact ⟨_, c, rfl, rfl⟩
  · rintro xs ⟨c, rfl⟩
    refine ⟨by rw [Tryd.ntmps90]; simp, ?_⟩
    simp only [go_sem, h.hP, byteS_q, byteS_p, byteS_c, byteS_f, Tryd.ntmps90, Nat.reduceEqDiff, reduceCtorEq, Nat.reduceMul, Nat.reduceAdd, Nat.reduceSub, Nat.reduceDiv, Nat.reduceMod, Nat.reduceLeDiff, Nat.reduceLT, Nat.reduceBNe, Nat.reduceBEq, reduceIte, Int.reduceLE, Int.reduceLT, Int.reduceToNat, Int.reduceNeg, Int.reduceAdd, Int.reduceSub, Int.reduceMul, Int.reduceEq]
    grind [labC]
theorem isMail1_ctr {cx : Cx} (h : Seat cx) : Ctr cx 77 (byteS locC) := by
  refine ctr_of (fn := Tryd.f77) (l := [.tmp 2]) (envL [(48, (byteS smallC)), (15, (byteS digitC))]) [0, 2] [] [] (envL_cons (small_ctr h) (envL_cons (digit_ctr h) (env0 h.hP))) ?_ (by rw [h.hP]; exact Tryd.func77) rfl (by kernel_rfl) rfl ?_ ?_
  · rw [h.hP]; exact ⟨_, Tryd.func77, by kernel_rfl, by kernel_rfl⟩
  · rintro xs ⟨c, rfl⟩; exact ⟨_, c, rfl, rfl⟩
  · rintro xs ⟨c, rfl⟩
    refine ⟨by rw [Tryd.ntmps77]; simp, ?_⟩
    simp only [go_sem, h.hP, byteS_q, byteS_p, byteS_c, byteS_f, Tryd.ntmps77, Nat.reduceEqDiff, reduceCtorEq, Nat.reduceMul, Nat.reduceAdd, Nat.reduceSub, Nat.reduceDiv, Nat.reduceMod, Nat.reduceLeDiff, Nat.reduceLT, Nat.reduceBNe, Nat.reduceBEq, reduceIte, Int.reduceLE, Int.reduceLT, Int.reduceToNat, Int.reduceNeg, Int.reduceAdd, Int.reduceSub, Int.reduceMul, Int.reduceEq]
    grind [locC]
theorem capital_ctr {cx : Cx} (h : Seat cx) : Ctr cx 47 (byteS capitalC) := by
  refine ctr_of (fn := Tryd.f47) (l := [.tmp 2]) (envL []) [0, 2] [] [] (env0 h.hP) ?_ (by rw [h.hP]; exact Tryd.func47) rfl (by kernel_rfl) rfl ?_ ?_
  · rw [h.hP]; exact ⟨_, Tryd.func47, by kernel_rfl, by kernel_rfl⟩
  · rintro xs ⟨c, rfl⟩; exact ⟨_, c, rfl, rfl⟩
  · rintro xs ⟨c, rfl⟩
    refine ⟨by rw [Tryd.ntmps47]; simp, ?_⟩
    simp only [go_sem, h.hP, byteS_q, byteS_p, byteS_c, byteS_f, Tryd.ntmps47, Nat.reduceEqDiff, reduceCtorEq, Nat.reduceMul, Nat.reduceAdd, Nat.reduceSub, Nat.reduceDiv, Nat.reduceMod, Nat.reduceLeDiff, Nat.reduceLT, Nat.reduceBNe, Nat.reduceBEq, reduceIte, Int.reduceLE, Int.reduceLT, Int.reduceToNat, Int.reduceNeg, Int.reduceAdd, Int.reduceSub, Int.reduceMul, Int.reduceEq]
    unfold capitalC
    exact ⟨fun c => by simp [c], fun c => by simp [c]⟩
theorem isMember1_ctr {cx : Cx} (h : Seat cx) : Ctr cx 79 (byteS memC) := by
  refine ctr_of (fn := Tryd.f79) (l := [.tmp 2]) (envL [(47, (byteS capitalC)), (15, (byteS digitC))]) [0, 2] [] [] (envL_cons (capital_ctr h) (envL_cons (digit_ctr h) (env0 h.hP))) ?_ (by rw [h.hP]; exact Tryd.func79) rfl (by kernel_rfl) rfl ?_ ?_
  · rw [h.hP]; exact ⟨_, Tryd.func79, by kernel_rfl, by kernel_rfl⟩
  · rintro xs ⟨c, rfl⟩; exact ⟨_, c, rfl, rfl⟩
  · rintro xs ⟨c, rfl⟩
    refine ⟨by rw [Tryd.ntmps79]; simp, ?_⟩
    simp only [go_sem, h.hP, byteS_q, byteS_p, byteS_c, byteS_f, Tryd.ntmps79, Nat.reduceEqDiff, reduceCtorEq, Nat.reduceMul, Nat.reduceAdd, Nat.reduceSub, Nat.reduceDiv, Nat.reduceMod, Nat.reduceLeDiff, Nat.reduceLT, Nat.reduceBNe, Nat.reduceBEq, reduceIte, Int.reduceLE, Int.reduceLT, Int.reduceToNat, Int.reduceNeg, Int.reduceAdd, Int.reduceSub, Int.reduceMul, Int.reduceEq]
    grind [memC]
theorem isDevice1_ctr {cx : Cx} (h : Seat cx) : Ctr cx 80 (byteS hexC) := by
  refine ctr_of (fn := Tryd.f80) (l := [.tmp 2]) (envL [(15, (byteS digitC))]) [0, 2] [] [] (envL_cons (digit_ctr h) (env0 h.hP)) ?_ (by rw [h.hP]; exact Tryd.func80) rfl (by kernel_rfl) rfl ?_ ?_
  · rw [h.hP]; exact ⟨_, Tryd.func80, by kernel_rfl, by kernel_rfl⟩
  · rintro xs ⟨c, rfl⟩; exact ⟨_, c, rfl, rfl⟩
  · rintro xs ⟨c, rfl⟩
    refine ⟨by rw [Tryd.ntmps80]; simp, ?_⟩
    simp only [go_sem, h.hP, byteS_q, byteS_p, byteS_c, byteS_f, Tryd.ntmps80, Nat.reduceEqDiff, reduceCtorEq, Nat.reduceMul, Nat.reduceAdd, Nat.reduceSub, Nat.reduceDiv, Nat.reduceMod, Nat.reduceLeDiff, Nat.reduceLT, Nat.reduceBNe, Nat.reduceBEq, reduceIte, Int.reduceLE, Int.reduceLT, Int.reduceToNat, Int.reduceNeg, Int.reduceAdd, Int.reduceSub, Int.reduceMul, Int.reduceEq]
    grind [hexC]
def strB4 (p : ByteArray → Bool) : Spec where
  pre xs := ∃ (s : ByteArray), xs = [.str s] ∧ (s.size ≤ 4000000000)
  post xs y := ∃ (s : ByteArray), xs = [.str s] ∧ y = .b (p s)
  cost _ := 0
  fresh := true
theorem strB4_c (p : ByteArray → Bool) (xs : List AV) : (strB4 p).cost xs = 0 := nr rfl
theorem strB4_f (p : ByteArray → Bool) : (strB4 p).fresh = true := nr rfl
theorem strB4_q (p : ByteArray → Bool) (s : ByteArray) : (strB4 p).pre [.str s] = (s.size ≤ 4000000000) := propext ⟨fun h => by
  have h' : ∃ (s' : ByteArray), ([.str s] : List AV) = [.str s'] ∧ (s'.size ≤ 4000000000) := h
  obtain ⟨s', e, h⟩ := h'
  simp only [List.cons.injEq, AV.dv.injEq, AV.fv.injEq, DV.d.injEq, DV.ag.injEq, D.int.injEq, D.str.injEq, D.bool.injEq, D.sl.injEq, true_and, and_true, intsDi_inj, rowsT_inj, rowsKi_inj] at e
  obtain rfl := e
  exact h, fun h => ⟨s, rfl, h⟩⟩
theorem strB4_p (p : ByteArray → Bool) (s : ByteArray) : (strB4 p).post [.str s] = fun y => y = .b (p s) := funext fun y => propext ⟨fun h => by
  have h' : ∃ (s' : ByteArray), ([.str s] : List AV) = [.str s'] ∧ y = .b (p s') := h
  obtain ⟨s', e, h⟩ := h'
  simp only [List.cons.injEq, AV.dv.injEq, AV.fv.injEq, DV.d.injEq, DV.ag.injEq, D.int.injEq, D.str.injEq, D.bool.injEq, D.sl.injEq, true_and, and_true, intsDi_inj, rowsT_inj, rowsKi_inj] at e
  obtain rfl := e
  exact h, fun h => ⟨s, rfl, h⟩⟩
theorem isLabel_ctr {cx : Cx} (h : Seat cx) : Ctr cx 78 (strB4 labelB) := by
  refine ctr_of (fn := Tryd.f78) (l := [.tmp 2]) (envF [(13, inS), (14, allS)] [(90, (byteΦ labC))]) [0, 2] [] [] (envF_cons (byteΦ_of (isLabel1_ctr h)) (envF_nil (envL_cons (pwithin_ctr h) (envL_cons (all_ctr h) (env0 h.hP))))) ?_ (by rw [h.hP]; exact Tryd.func78) rfl (by kernel_rfl) rfl ?_ ?_
  · rw [h.hP]; exact ⟨_, Tryd.func78, by kernel_rfl, by kernel_rfl⟩
  · rintro xs ⟨s, rfl, hs⟩; exact ⟨_, s, rfl, rfl⟩
  · rintro xs ⟨s, rfl, hs⟩
    refine ⟨by rw [Tryd.ntmps78]; simp, ?_⟩
    simp only [go_sem, h.hP, List.cons_append, List.nil_append, Meets_e, Below_e, Prod.exists, exists_eq, exists_eq_left, exists_eq_left', exists_eq_right, exists_eq_right', exists_and_left, exists_and_right, Ob.arr.injEq, AV.own.injEq, AV.fv.injEq, strB4_q, strB4_p, strB4_c, strB4_f, inS_q, inS_p, inS_c, inS_f, allS, byteΦ_h, byteΦ_d, Tryd.ntmps78, Nat.reduceEqDiff, reduceCtorEq, Nat.reduceMul, Nat.reduceAdd, Nat.reduceSub, Nat.reduceDiv, Nat.reduceMod, Nat.reduceLeDiff, Nat.reduceLT, Nat.reduceBNe, Nat.reduceBEq, reduceIte, Int.reduceLE, Int.reduceLT, Int.reduceToNat, Int.reduceNeg, Int.reduceAdd, Int.reduceSub, Int.reduceMul, Int.reduceEq]
    unfold labelB
    refine ⟨fun c => ?_, fun c => by simp [c]⟩
    have e1 := inB_iff.1 c
    rw [i64w (n := (s.size : Int) - 1) (by omega) (by omega)]
    refine ⟨by omega, fun c1 => ⟨by omega, by omega, fun c2 => ⟨by omega, by simp [c, c1, c2]⟩, fun c2 => by simp [c2]⟩, fun c1 => by simp [c1]⟩
theorem isPhone_ctr {cx : Cx} (h : Seat cx) : Ctr cx 50 (strB4 phoneB) := by
  refine ctr_of (fn := Tryd.f50) (l := [.tmp 2]) (envF [(13, inS), (14, allS), (29, preSp)] [(15, (byteΦ digitC))]) [0, 2] [] [] (envF_cons (byteΦ_of (digit_ctr h)) (envF_nil (envL_cons (pwithin_ctr h) (envL_cons (all_ctr h) (envL_cons (hasPrefix_ctr h) (env0 h.hP)))))) ?_ (by rw [h.hP]; exact Tryd.func50) rfl (by kernel_rfl) rfl ?_ ?_
  · rw [h.hP]; exact ⟨_, Tryd.func50, by kernel_rfl, by kernel_rfl⟩
  · rintro xs ⟨s, rfl, hs⟩; exact ⟨_, s, rfl, rfl⟩
  · rintro xs ⟨s, rfl, hs⟩
    refine ⟨by rw [Tryd.ntmps50]; simp, ?_⟩
    simp only [go_sem, h.hP, List.cons_append, List.nil_append, Meets_e, Below_e, Prod.exists, exists_eq, exists_eq_left, exists_eq_left', exists_eq_right, exists_eq_right', exists_and_left, exists_and_right, Ob.arr.injEq, AV.own.injEq, AV.fv.injEq, strB4_q, strB4_p, strB4_c, strB4_f, inS_q, inS_p, inS_c, inS_f, preSp_q, preSp_p, preSp_c, preSp_f, allS, byteΦ_h, byteΦ_d, Tryd.ntmps50, Nat.reduceEqDiff, reduceCtorEq, Nat.reduceMul, Nat.reduceAdd, Nat.reduceSub, Nat.reduceDiv, Nat.reduceMod, Nat.reduceLeDiff, Nat.reduceLT, Nat.reduceBNe, Nat.reduceBEq, reduceIte, Int.reduceLE, Int.reduceLT, Int.reduceToNat, Int.reduceNeg, Int.reduceAdd, Int.reduceSub, Int.reduceMul, Int.reduceEq]
    unfold phoneB
    refine ⟨fun c0 => ⟨fun c => ?_, fun c => by simp [c]⟩, fun c0 => by simp [plusS, c0]⟩
    have e1 := inB_iff.1 c
    refine ⟨by omega, by omega, by rw [ByteArray.size_extract]; omega, fun c1 => ⟨by omega, ?_⟩, fun c1 => by simp [c1]⟩
    simp only [plusS, c0, c, c1, Bool.true_and]
    grind
theorem isMember_ctr {cx : Cx} (h : Seat cx) : Ctr cx 51 (strB4 memberB) := by
  refine ctr_of (fn := Tryd.f51) (l := [.tmp 2]) (envF [(13, inS), (14, allS)] [(79, (byteΦ memC))]) [0, 2] [] [] (envF_cons (byteΦ_of (isMember1_ctr h)) (envF_nil (envL_cons (pwithin_ctr h) (envL_cons (all_ctr h) (env0 h.hP))))) ?_ (by rw [h.hP]; exact Tryd.func51) rfl (by kernel_rfl) rfl ?_ ?_
  · rw [h.hP]; exact ⟨_, Tryd.func51, by kernel_rfl, by kernel_rfl⟩
  · rintro xs ⟨s, rfl, hs⟩; exact ⟨_, s, rfl, rfl⟩
  · rintro xs ⟨s, rfl, hs⟩
    refine ⟨by rw [Tryd.ntmps51]; simp, ?_⟩
    simp only [go_sem, h.hP, List.cons_append, List.nil_append, Meets_e, Below_e, Prod.exists, exists_eq, exists_eq_left, exists_eq_left', exists_eq_right, exists_eq_right', exists_and_left, exists_and_right, Ob.arr.injEq, AV.own.injEq, AV.fv.injEq, strB4_q, strB4_p, strB4_c, strB4_f, inS_q, inS_p, inS_c, inS_f, allS, byteΦ_h, byteΦ_d, Tryd.ntmps51, Nat.reduceEqDiff, reduceCtorEq, Nat.reduceMul, Nat.reduceAdd, Nat.reduceSub, Nat.reduceDiv, Nat.reduceMod, Nat.reduceLeDiff, Nat.reduceLT, Nat.reduceBNe, Nat.reduceBEq, reduceIte, Int.reduceLE, Int.reduceLT, Int.reduceToNat, Int.reduceNeg, Int.reduceAdd, Int.reduceSub, Int.reduceMul, Int.reduceEq]
    unfold memberB
    exact ⟨fun c => ⟨by omega, by simp [c]⟩, fun c => by simp [c]⟩
theorem isDevice_ctr {cx : Cx} (h : Seat cx) : Ctr cx 52 (strB4 deviceB) := by
  refine ctr_of (fn := Tryd.f52) (l := [.tmp 2]) (envF [(13, inS), (14, allS)] [(80, (byteΦ hexC))]) [0, 2] [] [] (envF_cons (byteΦ_of (isDevice1_ctr h)) (envF_nil (envL_cons (pwithin_ctr h) (envL_cons (all_ctr h) (env0 h.hP))))) ?_ (by rw [h.hP]; exact Tryd.func52) rfl (by kernel_rfl) rfl ?_ ?_
  · rw [h.hP]; exact ⟨_, Tryd.func52, by kernel_rfl, by kernel_rfl⟩
  · rintro xs ⟨s, rfl, hs⟩; exact ⟨_, s, rfl, rfl⟩
  · rintro xs ⟨s, rfl, hs⟩
    refine ⟨by rw [Tryd.ntmps52]; simp, ?_⟩
    simp only [go_sem, h.hP, List.cons_append, List.nil_append, Meets_e, Below_e, Prod.exists, exists_eq, exists_eq_left, exists_eq_left', exists_eq_right, exists_eq_right', exists_and_left, exists_and_right, Ob.arr.injEq, AV.own.injEq, AV.fv.injEq, strB4_q, strB4_p, strB4_c, strB4_f, inS_q, inS_p, inS_c, inS_f, allS, byteΦ_h, byteΦ_d, Tryd.ntmps52, Nat.reduceEqDiff, reduceCtorEq, Nat.reduceMul, Nat.reduceAdd, Nat.reduceSub, Nat.reduceDiv, Nat.reduceMod, Nat.reduceLeDiff, Nat.reduceLT, Nat.reduceBNe, Nat.reduceBEq, reduceIte, Int.reduceLE, Int.reduceLT, Int.reduceToNat, Int.reduceNeg, Int.reduceAdd, Int.reduceSub, Int.reduceMul, Int.reduceEq]
    unfold deviceB
    exact ⟨fun c => ⟨by omega, by simp [c]⟩, fun c => by simp [c]⟩
theorem isMail_ctr {cx : Cx} (h : Seat cx) (hM : MaxL cx) : Ctr cx 49 (strB4 mailB) := by
  refine ctr_of (fn := Tryd.f49) (l := [.tmp 2]) (envF [(46, cutSp), (13, inS), (62, conSp), (14, allS), (61, splitSp), (78, (strB4 labelB))] [(77, (byteΦ locC))]) [0, 2, 3, 4, 5, 6, 8, 44, 47, 50, 51, 52, 53, 58] [] [] (envF_cons (byteΦ_of (isMail1_ctr h)) (envF_nil (envL_cons (cut_ctr h hM) (envL_cons (pwithin_ctr h) (envL_cons (contains_ctr h hM) (envL_cons (all_ctr h) (envL_cons (split_ctr h hM) (envL_cons (isLabel_ctr h) (env0 h.hP))))))))) ?_ (by rw [h.hP]; exact Tryd.func49) rfl (by kernel_rfl) rfl ?_ ?_
  · rw [h.hP]; exact ⟨_, Tryd.func49, by kernel_rfl, by kernel_rfl⟩
  · rintro xs ⟨s, rfl, hs⟩; exact ⟨_, s, rfl, rfl⟩
  · rintro xs ⟨s, rfl, hs⟩
    refine ⟨by rw [Tryd.ntmps49]; simp, ?_⟩
    simp only [go_sem, h.hP, List.cons_append, List.nil_append, Meets_e, Below_e, Prod.exists, exists_eq, exists_eq_left, exists_eq_left', exists_eq_right, exists_eq_right', exists_and_left, exists_and_right, Ob.arr.injEq, AV.own.injEq, AV.fv.injEq, strB4_q, strB4_p, strB4_c, strB4_f, inS_q, inS_p, inS_c, inS_f, cutSp_q, cutSp_p, cutSp_c, cutSp_f, conSp_q, conSp_p, conSp_c, conSp_f, splitSp_q, splitSp_p, splitSp_c, splitSp_f, allS, byteΦ_h, byteΦ_d, Tryd.ntmps49, Nat.reduceEqDiff, reduceCtorEq, Nat.reduceMul, Nat.reduceAdd, Nat.reduceSub, Nat.reduceDiv, Nat.reduceMod, Nat.reduceLeDiff, Nat.reduceLT, Nat.reduceBNe, Nat.reduceBEq, reduceIte, Int.reduceLE, Int.reduceLT, Int.reduceToNat, Int.reduceNeg, Int.reduceAdd, Int.reduceSub, Int.reduceMul, Int.reduceEq]
    have hL := cutL_size s ⟨#[64]⟩
    have hR := cutR_size s ⟨#[64]⟩
    have hD : mailB s = (cutB s ⟨#[64]⟩ && decide ((s.size : Int) ≤ 80) && localB (cutL s ⟨#[64]⟩) && (splitS (cutR s ⟨#[64]⟩) ⟨#[46]⟩).all labelB && decide (2 ≤ (splitS (cutR s ⟨#[64]⟩) ⟨#[46]⟩).length)) := rfl
    generalize mailB s = R at hD
    generalize cutL s ⟨#[64]⟩ = a at *
    generalize cutR s ⟨#[64]⟩ = b at *
    have hA : localB a = (inB a.size 1 64 && decide (bt a 0 ≠ 46) && decide (bt a ((a.size : Int) - 1) ≠ 46) && !conS a ⟨#[46, 46]⟩ && (bl a).all locC) := rfl
    refine ⟨hs, fun c1 => ⟨fun c2 => ⟨fun c3 => ?_, fun c3 => by rw [hD, hA]; simp [c3]⟩, fun c2 => by rw [hD]; simp; omega⟩, fun c1 => by rw [hD]; simp [c1]⟩
    have e3 := inB_iff.1 c3
    rw [i64w (n := (a.size : Int) - 1) (by omega) (by omega)]
    refine ⟨by omega, fun c4 => ⟨by omega, by omega, fun c5 => ⟨by omega, fun c6 => by rw [hD, hA]; simp [c6], fun c6 => ⟨by omega, fun c7 => by rw [hD, hA]; simp [show (bl a).all locC = false from c7], fun c7 => ⟨by omega, ?_⟩⟩⟩, fun c5 => by rw [hD, hA]; simp [c5]⟩, fun c4 => by rw [hD, hA]; simp [c4]⟩
    have hl : localB a = true := by rw [hA]; simp [c3, c4, c5, c6, show (bl a).all locC = true from c7]
    have hle := splitS_le (s := b) (p := ⟨#[46]⟩) (by decide)
    have hsz := splitS_get b ⟨#[46]⟩
    rw [c1, hl, decide_eq_true (show (s.size : Int) ≤ 80 by omega)] at hD
    generalize splitS b ⟨#[46]⟩ = l at *
    refine vc_loopS (Int) (fun (i : Int) => [(52, .i i)]) [] (fun (i : Int) => []) (fun (i : Int) => []) (fun (i : Int) => 0) (fun (i : Int) => 0 ≤ i ∧ i ≤ l.length ∧ ∀ j : Nat, (j : Int) < i → labelB (l.getD j ⟨#[]⟩) = true) (fun (i : Int) => (l.length - i).toNat) [] ?_ ?_
    · simp only [go_sem, h.hP, List.cons_append, List.nil_append, Meets_e, Below_e, Prod.exists, exists_eq, exists_eq_left, exists_eq_left', exists_eq_right, exists_eq_right', exists_and_left, exists_and_right, Ob.arr.injEq, AV.own.injEq, AV.fv.injEq, rowsT_len, Tryd.ntmps49, Nat.reduceEqDiff, reduceCtorEq, Nat.reduceMul, Nat.reduceAdd, Nat.reduceSub, Nat.reduceDiv, Nat.reduceMod, Nat.reduceLeDiff, Nat.reduceLT, Nat.reduceBNe, Nat.reduceBEq, reduceIte, Int.reduceLE, Int.reduceLT, Int.reduceToNat, Int.reduceNeg, Int.reduceAdd, Int.reduceSub, Int.reduceMul, Int.reduceEq]
      exact ⟨by omega, fun j hj => by omega⟩
    · rintro i ⟨j1, j2, j3⟩
      simp only [go_sem, h.hP, List.cons_append, List.nil_append, Meets_e, Below_e, Prod.exists, exists_eq, exists_eq_left, exists_eq_left', exists_eq_right, exists_eq_right', exists_and_left, exists_and_right, Ob.arr.injEq, AV.own.injEq, AV.fv.injEq, strB4_q, strB4_p, strB4_c, strB4_f, rowsT_len, rowsT_get, Tryd.ntmps49, Nat.reduceEqDiff, reduceCtorEq, Nat.reduceMul, Nat.reduceAdd, Nat.reduceSub, Nat.reduceDiv, Nat.reduceMod, Nat.reduceLeDiff, Nat.reduceLT, Nat.reduceBNe, Nat.reduceBEq, reduceIte, Int.reduceLE, Int.reduceLT, Int.reduceToNat, Int.reduceNeg, Int.reduceAdd, Int.reduceSub, Int.reduceMul, Int.reduceEq]
      refine ⟨fun q => ?_, fun q => ?_⟩
      · have := hsz i.toNat
        refine ⟨j1, q, by omega, fun d => ?_, fun d => ?_⟩
        · have := all_no (p := labelB) (show i.toNat < l.length by omega) d
          rw [hD, this]; simp
        · rw [i64w (n := i + 1) (by omega) (by omega)]
          refine ⟨by omega, by omega, fun j hj => ?_, by omega⟩
          by_cases e : (j : Int) = i
          · have : i.toNat = j := by omega
            rw [← this]; exact d
          · exact j3 j (by omega)
      · have := all_yes (p := labelB) ⟨#[]⟩ fun j hj => j3 j (by omega)
        rw [hD, this]
        simp only [Bool.true_and]
        exact decide_eq_decide.2 (by omega)
end Go.Avc

/- Check signs of member numbers, by the program and by the reference. No condition. -/
set_option linter.unusedVariables false
set_option linter.unusedSimpArgs false
set_option maxRecDepth 100000
namespace Go.Avc
open Go Go.Proofs

theorem ix_lit {s : ByteArray} {i : Int} (h : memC (bt s i) = true) : ixB ⟨#[48, 49, 50, 51, 52, 53, 54, 55, 56, 57, 65, 66, 67, 68, 69, 70, 71, 72, 73, 74, 75, 76, 77, 78, 79, 80, 81, 82, 83, 84, 85, 86, 87, 88, 89, 90]⟩ (bt s i) = idxC (bt s i) := idx_bt h
theorem tdivN {a b : Int} (h : 0 ≤ a) : a.tdiv b = a / b := Int.tdiv_eq_ediv_of_nonneg h
theorem tmodN {a b : Int} (h : 0 ≤ a) : a.tmod b = a % b := Int.tmod_eq_emod_of_nonneg h
theorem signs_lit (i : Int) : bt ⟨#[48, 49, 50, 51, 52, 53, 54, 55, 56, 57, 65, 66, 67, 68, 69, 70, 71, 72, 73, 74, 75, 76, 77, 78, 79, 80, 81, 82, 83, 84, 85, 86, 87, 88, 89, 90]⟩ i = bt signsB i := rfl
theorem sumUp_step (s : ByteArray) {i : Int} (h : 0 ≤ i) : sumUp s (i + 1).toNat = sumUp s i.toNat + termS s i.toNat := by
  rw [show (i + 1).toNat = i.toNat + 1 by omega]
  rfl
def signP  : Spec where
  pre xs := ∃ (s : ByteArray), xs = [.str s] ∧ (s.size ≤ 100 ∧ (bl s).all memC = true)
  post xs y := ∃ (s : ByteArray), xs = [.str s] ∧ y = .u8 (bt signsB (signN s))
  cost _ := 0
  fresh := true
theorem signP_c  (xs : List AV) : (signP).cost xs = 0 := nr rfl
theorem signP_f  : (signP).fresh = true := nr rfl
theorem signP_q  (s : ByteArray) : (signP).pre [.str s] = (s.size ≤ 100 ∧ (bl s).all memC = true) := propext ⟨fun h => by
  have h' : ∃ (s' : ByteArray), ([.str s] : List AV) = [.str s'] ∧ (s'.size ≤ 100 ∧ (bl s').all memC = true) := h
  obtain ⟨s', e, h⟩ := h'
  simp only [List.cons.injEq, AV.dv.injEq, AV.fv.injEq, DV.d.injEq, DV.ag.injEq, D.int.injEq, D.str.injEq, D.bool.injEq, D.sl.injEq, true_and, and_true, intsDi_inj, rowsT_inj, rowsKi_inj] at e
  obtain rfl := e
  exact h, fun h => ⟨s, rfl, h⟩⟩
theorem signP_p  (s : ByteArray) : (signP).post [.str s] = fun y => y = .u8 (bt signsB (signN s)) := funext fun y => propext ⟨fun h => by
  have h' : ∃ (s' : ByteArray), ([.str s] : List AV) = [.str s'] ∧ y = .u8 (bt signsB (signN s')) := h
  obtain ⟨s', e, h⟩ := h'
  simp only [List.cons.injEq, AV.dv.injEq, AV.fv.injEq, DV.d.injEq, DV.ag.injEq, D.int.injEq, D.str.injEq, D.bool.injEq, D.sl.injEq, true_and, and_true, intsDi_inj, rowsT_inj, rowsKi_inj] at e
  obtain rfl := e
  exact h, fun h => ⟨s, rfl, h⟩⟩
theorem pcheckSign_ctr {cx : Cx} (h : Seat cx) : Ctr cx 53 signP := by
  refine ctr_of (fn := Tryd.f53) (l := [.tmp 2]) (envL [(26, ixSp)]) [0, 2, 3, 4, 5, 6, 11] [] [] (envL_cons (indexByte_ctr h) (env0 h.hP)) ?_ (by rw [h.hP]; exact Tryd.func53) rfl (by kernel_rfl) rfl ?_ ?_
  · rw [h.hP]; exact ⟨_, Tryd.func53, by kernel_rfl, by kernel_rfl⟩
  · rintro xs ⟨s, rfl, h1, h2⟩; exact ⟨_, s, rfl, rfl⟩
  · rintro xs ⟨s, rfl, h1, h2⟩
    refine ⟨by rw [Tryd.ntmps53]; simp, ?_⟩
    simp only [go_sem, h.hP, List.cons_append, List.nil_append, Meets_e, Below_e, Prod.exists, exists_eq, exists_eq_left, exists_eq_left', exists_eq_right, exists_eq_right', exists_and_left, exists_and_right, Ob.arr.injEq, AV.own.injEq, AV.fv.injEq, signP_q, signP_p, signP_c, signP_f, ixSp_q, ixSp_p, ixSp_c, ixSp_f, Tryd.ntmps53, Nat.reduceEqDiff, reduceCtorEq, Nat.reduceMul, Nat.reduceAdd, Nat.reduceSub, Nat.reduceDiv, Nat.reduceMod, Nat.reduceLeDiff, Nat.reduceLT, Nat.reduceBNe, Nat.reduceBEq, reduceIte, Int.reduceLE, Int.reduceLT, Int.reduceToNat, Int.reduceNeg, Int.reduceAdd, Int.reduceSub, Int.reduceMul, Int.reduceEq]
    refine vc_loopS (Int × Int × Int) (fun (x : Int × Int × Int) => match x with | (i, u, t) => [(5, .i i), (3, .i u), (4, .i t)]) [] (fun (x : Int × Int × Int) => match x with | (i, u, t) => []) (fun (x : Int × Int × Int) => match x with | (i, u, t) => []) (fun (x : Int × Int × Int) => match x with | (i, u, t) => 0) (fun (x : Int × Int × Int) => match x with | (i, u, t) => -1 ≤ i ∧ i < s.size ∧ u + sumUp s (i + 1).toNat = sumUp s s.size ∧ (t = if ((s.size : Int) - i) % 2 = 1 then 2 else 1) ∧ 0 ≤ u) (fun (x : Int × Int × Int) => match x with | (i, u, t) => (i + 1).toNat) [] ?_ ?_
    · simp only [go_sem, h.hP, List.cons_append, List.nil_append, Meets_e, Below_e, Prod.exists, exists_eq, exists_eq_left, exists_eq_left', exists_eq_right, exists_eq_right', exists_and_left, exists_and_right, Ob.arr.injEq, AV.own.injEq, AV.fv.injEq, Tryd.ntmps53, Nat.reduceEqDiff, reduceCtorEq, Nat.reduceMul, Nat.reduceAdd, Nat.reduceSub, Nat.reduceDiv, Nat.reduceMod, Nat.reduceLeDiff, Nat.reduceLT, Nat.reduceBNe, Nat.reduceBEq, reduceIte, Int.reduceLE, Int.reduceLT, Int.reduceToNat, Int.reduceNeg, Int.reduceAdd, Int.reduceSub, Int.reduceMul, Int.reduceEq]
      rw [i64w (n := (s.size : Int) - 1) (by omega) (by omega), show ((s.size : Int) - 1 + 1).toNat = s.size by omega]
      exact ⟨by omega, by omega, Int.zero_add _, (if_pos (by omega)).symm⟩
    · rintro ⟨i, u, t⟩ ⟨j1, j2, j3, j4, j5⟩
      simp only [go_sem, h.hP, List.cons_append, List.nil_append, Meets_e, Below_e, Prod.exists, exists_eq, exists_eq_left, exists_eq_left', exists_eq_right, exists_eq_right', exists_and_left, exists_and_right, Ob.arr.injEq, AV.own.injEq, AV.fv.injEq, signP_q, signP_p, signP_c, signP_f, ixSp_q, ixSp_p, ixSp_c, ixSp_f, Tryd.ntmps53, Nat.reduceEqDiff, reduceCtorEq, Nat.reduceMul, Nat.reduceAdd, Nat.reduceSub, Nat.reduceDiv, Nat.reduceMod, Nat.reduceLeDiff, Nat.reduceLT, Nat.reduceBNe, Nat.reduceBEq, reduceIte, Int.reduceLE, Int.reduceLT, Int.reduceToNat, Int.reduceNeg, Int.reduceAdd, Int.reduceSub, Int.reduceMul, Int.reduceEq]
      have hs0 := sumUp_in h2 s.size (Nat.le_refl _)
      have hs1 := sumUp_in h2 (i + 1).toNat (by omega)
      refine ⟨fun c => ?_, fun c => ?_⟩
      · have hm := all_at h2 c j2
        rw [ix_lit hm]
        have hx := idxC_in hm
        have ht := sumUp_step s c
        have hterm : termS s i.toNat = t * idxC (bt s i) / 36 + t * idxC (bt s i) % 36 := by
          unfold termS
          simp only
          rw [Int.toNat_of_nonneg c, j4]
          by_cases e : ((s.size : Int) - i) % 2 = 1
          · rw [if_pos e, if_pos (by omega)]
          · rw [if_neg e, if_neg (by omega), Int.one_mul]
        have hp0 : 0 ≤ t * idxC (bt s i) ∧ t * idxC (bt s i) ≤ 70 := by
          rw [j4]
          split <;> omega
        generalize t * idxC (bt s i) = p at *
        rw [i64w (n := p) (by omega) (by omega), tdivN hp0.1, tmodN hp0.1, i64w (n := p / 36) (by omega) (by omega), i64w (n := p / 36 + p % 36) (by omega) (by omega), i64w (n := u + (p / 36 + p % 36)) (by omega) (by omega), i64w (n := i - 1) (by omega) (by omega), i64w (n := 3 - t) (by rw [j4]; split <;> omega) (by rw [j4]; split <;> omega), show i - 1 + 1 = i by omega]
        exact ⟨c, j2, by omega, by omega, by omega, by rw [j4]; split <;> split <;> omega, by omega, by omega⟩
      · have hi : (i + 1).toNat = 0 := by omega
        rw [hi] at j3
        have hz : sumUp s 0 = 0 := rfl
        have hsg := signN_in s
        have e1 : (36 - u % 36) % 36 = signN s := by
          unfold signN
          rw [show u = sumUp s s.size by omega]
        rw [tmodN j5, i64w (n := 36 - u % 36) (by omega) (by omega), tmodN (by omega), signs_lit, e1]
        exact ⟨by omega, by omega, rfl⟩
def signR  : Spec where
  pre xs := ∃ (s : ByteArray), xs = [.str s] ∧ (s.size ≤ 100 ∧ (bl s).all memC = true)
  post xs y := ∃ (s : ByteArray), xs = [.str s] ∧ y = .i (signN s)
  cost _ := 0
  fresh := true
theorem signR_c  (xs : List AV) : (signR).cost xs = 0 := nr rfl
theorem signR_f  : (signR).fresh = true := nr rfl
theorem signR_q  (s : ByteArray) : (signR).pre [.str s] = (s.size ≤ 100 ∧ (bl s).all memC = true) := propext ⟨fun h => by
  have h' : ∃ (s' : ByteArray), ([.str s] : List AV) = [.str s'] ∧ (s'.size ≤ 100 ∧ (bl s').all memC = true) := h
  obtain ⟨s', e, h⟩ := h'
  simp only [List.cons.injEq, AV.dv.injEq, AV.fv.injEq, DV.d.injEq, DV.ag.injEq, D.int.injEq, D.str.injEq, D.bool.injEq, D.sl.injEq, true_and, and_true, intsDi_inj, rowsT_inj, rowsKi_inj] at e
  obtain rfl := e
  exact h, fun h => ⟨s, rfl, h⟩⟩
theorem signR_p  (s : ByteArray) : (signR).post [.str s] = fun y => y = .i (signN s) := funext fun y => propext ⟨fun h => by
  have h' : ∃ (s' : ByteArray), ([.str s] : List AV) = [.str s'] ∧ y = .i (signN s') := h
  obtain ⟨s', e, h⟩ := h'
  simp only [List.cons.injEq, AV.dv.injEq, AV.fv.injEq, DV.d.injEq, DV.ag.injEq, D.int.injEq, D.str.injEq, D.bool.injEq, D.sl.injEq, true_and, and_true, intsDi_inj, rowsT_inj, rowsKi_inj] at e
  obtain rfl := e
  exact h, fun h => ⟨s, rfl, h⟩⟩
theorem rcheckSign_ctr {cx : Cx} (h : Seat cx) : Ctr cx 63 signR := by
  refine ctr_of (fn := Tryd.f63) (l := [.tmp 2]) (envL [(26, ixSp)]) [0, 2, 3, 4, 5, 6, 8, 9, 10, 21, 32, 33, 39] [] [] (envL_cons (indexByte_ctr h) (env0 h.hP)) ?_ (by rw [h.hP]; exact Tryd.func63) rfl (by kernel_rfl) rfl ?_ ?_
  · rw [h.hP]; exact ⟨_, Tryd.func63, by kernel_rfl, by kernel_rfl⟩
  · rintro xs ⟨s, rfl, h1, h2⟩; exact ⟨_, s, rfl, rfl⟩
  · rintro xs ⟨s, rfl, h1, h2⟩
    refine ⟨by rw [Tryd.ntmps63]; simp, ?_⟩
    simp only [go_sem, h.hP, List.cons_append, List.nil_append, Meets_e, Below_e, Prod.exists, exists_eq, exists_eq_left, exists_eq_left', exists_eq_right, exists_eq_right', exists_and_left, exists_and_right, Ob.arr.injEq, AV.own.injEq, AV.fv.injEq, signR_q, signR_p, signR_c, signR_f, ixSp_q, ixSp_p, ixSp_c, ixSp_f, Tryd.ntmps63, Nat.reduceEqDiff, reduceCtorEq, Nat.reduceMul, Nat.reduceAdd, Nat.reduceSub, Nat.reduceDiv, Nat.reduceMod, Nat.reduceLeDiff, Nat.reduceLT, Nat.reduceBNe, Nat.reduceBEq, reduceIte, Int.reduceLE, Int.reduceLT, Int.reduceToNat, Int.reduceNeg, Int.reduceAdd, Int.reduceSub, Int.reduceMul, Int.reduceEq]
    refine vc_loopS (Int × Int) (fun (x : Int × Int) => match x with | (i, u) => [(9, .i i), (3, .i u)]) [] (fun (x : Int × Int) => match x with | (i, u) => []) (fun (x : Int × Int) => match x with | (i, u) => []) (fun (x : Int × Int) => match x with | (i, u) => 0) (fun (x : Int × Int) => match x with | (i, u) => 0 ≤ i ∧ i ≤ s.size ∧ u = sumUp s i.toNat) (fun (x : Int × Int) => match x with | (i, u) => (s.size - i).toNat) [] ?_ ?_
    · simp only [go_sem, h.hP, List.cons_append, List.nil_append, Meets_e, Below_e, Prod.exists, exists_eq, exists_eq_left, exists_eq_left', exists_eq_right, exists_eq_right', exists_and_left, exists_and_right, Ob.arr.injEq, AV.own.injEq, AV.fv.injEq, Tryd.ntmps63, Nat.reduceEqDiff, reduceCtorEq, Nat.reduceMul, Nat.reduceAdd, Nat.reduceSub, Nat.reduceDiv, Nat.reduceMod, Nat.reduceLeDiff, Nat.reduceLT, Nat.reduceBNe, Nat.reduceBEq, reduceIte, Int.reduceLE, Int.reduceLT, Int.reduceToNat, Int.reduceNeg, Int.reduceAdd, Int.reduceSub, Int.reduceMul, Int.reduceEq]
      exact ⟨Int.natCast_nonneg _, rfl⟩
    · rintro ⟨i, u⟩ ⟨j1, j2, j3⟩
      simp only [go_sem, h.hP, List.cons_append, List.nil_append, Meets_e, Below_e, Prod.exists, exists_eq, exists_eq_left, exists_eq_left', exists_eq_right, exists_eq_right', exists_and_left, exists_and_right, Ob.arr.injEq, AV.own.injEq, AV.fv.injEq, signR_q, signR_p, signR_c, signR_f, ixSp_q, ixSp_p, ixSp_c, ixSp_f, Tryd.ntmps63, Nat.reduceEqDiff, reduceCtorEq, Nat.reduceMul, Nat.reduceAdd, Nat.reduceSub, Nat.reduceDiv, Nat.reduceMod, Nat.reduceLeDiff, Nat.reduceLT, Nat.reduceBNe, Nat.reduceBEq, reduceIte, Int.reduceLE, Int.reduceLT, Int.reduceToNat, Int.reduceNeg, Int.reduceAdd, Int.reduceSub, Int.reduceMul, Int.reduceEq]
      have hs1 := sumUp_in h2 i.toNat (by omega)
      refine ⟨fun c => ?_, fun c => ?_⟩
      · have hm := all_at h2 j1 c
        rw [ix_lit hm]
        have hx := idxC_in hm
        have ht := sumUp_step s j1
        have hterm : termS s i.toNat = if ((s.size : Int) - i) % 2 = 1 then idxC (bt s i) * 2 / 36 + idxC (bt s i) * 2 % 36 else idxC (bt s i) / 36 + idxC (bt s i) % 36 := by
          unfold termS
          simp only
          rw [Int.toNat_of_nonneg j1]
          by_cases e : ((s.size : Int) - i) % 2 = 1
          · rw [if_pos e, if_pos (by omega), Int.mul_comm]
          · rw [if_neg e, if_neg (by omega)]
        generalize idxC (bt s i) = x at *
        rw [i64w (n := (s.size : Int) - i) (by omega) (by omega), tmodN (by omega), i64w (n := i + 1) (by omega) (by omega)]
        refine ⟨j1, c, fun e => ?_, fun e => ?_⟩
        · rw [if_pos e] at hterm
          rw [i64w (n := x * 2) (by omega) (by omega), tdivN (by omega), tmodN (by omega), i64w (n := x * 2 / 36) (by omega) (by omega), i64w (n := x * 2 / 36 + x * 2 % 36) (by omega) (by omega), i64w (n := u + (x * 2 / 36 + x * 2 % 36)) (by omega) (by omega)]
          exact ⟨by omega, by omega, by omega, by omega⟩
        · rw [if_neg e] at hterm
          rw [tdivN (by omega), tmodN (by omega), i64w (n := x / 36) (by omega) (by omega), i64w (n := x / 36 + x % 36) (by omega) (by omega), i64w (n := u + (x / 36 + x % 36)) (by omega) (by omega)]
          exact ⟨by omega, by omega, by omega, by omega⟩
      · have hi : i.toNat = s.size := by omega
        rw [hi] at j3
        have hsg := signN_in s
        have e1 : (36 - u % 36) % 36 = signN s := by
          unfold signN
          rw [j3]
        refine vc_loopT (Int) (fun (c : Int) => [(32, .i c)]) [] (fun (c : Int) => []) (fun (c : Int) => []) (fun (c : Int) => 0) (fun (c : Int) => 0 ≤ c ∧ c ≤ signN s) (fun (c : Int) => (36 - c).toNat) [] ?_ ?_
        · simp only [go_sem, h.hP, List.cons_append, List.nil_append, Meets_e, Below_e, Prod.exists, exists_eq, exists_eq_left, exists_eq_left', exists_eq_right, exists_eq_right', exists_and_left, exists_and_right, Ob.arr.injEq, AV.own.injEq, AV.fv.injEq, Tryd.ntmps63, Nat.reduceEqDiff, reduceCtorEq, Nat.reduceMul, Nat.reduceAdd, Nat.reduceSub, Nat.reduceDiv, Nat.reduceMod, Nat.reduceLeDiff, Nat.reduceLT, Nat.reduceBNe, Nat.reduceBEq, reduceIte, Int.reduceLE, Int.reduceLT, Int.reduceToNat, Int.reduceNeg, Int.reduceAdd, Int.reduceSub, Int.reduceMul, Int.reduceEq]
          exact hsg.1
        · rintro d ⟨k1, k2⟩
          have hs2 := sumUp_in h2 s.size (Nat.le_refl _)
          simp only [go_sem, h.hP, List.cons_append, List.nil_append, Meets_e, Below_e, Prod.exists, exists_eq, exists_eq_left, exists_eq_left', exists_eq_right, exists_eq_right', exists_and_left, exists_and_right, Ob.arr.injEq, AV.own.injEq, AV.fv.injEq, signR_q, signR_p, signR_c, signR_f, Tryd.ntmps63, Nat.reduceEqDiff, reduceCtorEq, Nat.reduceMul, Nat.reduceAdd, Nat.reduceSub, Nat.reduceDiv, Nat.reduceMod, Nat.reduceLeDiff, Nat.reduceLT, Nat.reduceBNe, Nat.reduceBEq, reduceIte, Int.reduceLE, Int.reduceLT, Int.reduceToNat, Int.reduceNeg, Int.reduceAdd, Int.reduceSub, Int.reduceMul, Int.reduceEq]
          refine ⟨fun q => ?_, fun q => by omega⟩
          rw [i64w (n := u + d) (by omega) (by omega), tmodN (by omega), i64w (n := d + 1) (by omega) (by omega)]
          exact ⟨fun e => by omega, fun e => ⟨by omega, by omega, by omega⟩⟩
end Go.Avc

/- Ids: what is wrong with them, and their order, by the program. No condition. -/
set_option linter.unusedVariables false
set_option linter.unusedSimpArgs false
set_option maxRecDepth 100000
namespace Go.Avc
open Go Go.Proofs

def idS  : Spec where
  pre xs := ∃ (x : TId), xs = [.dv (.ag x.row)] ∧ (x.ok)
  post xs y := ∃ (x : TId), xs = [.dv (.ag x.row)] ∧ y = .i (idF x)
  cost _ := 0
  fresh := true
theorem idS_c  (xs : List AV) : (idS).cost xs = 0 := nr rfl
theorem idS_f  : (idS).fresh = true := nr rfl
theorem idS_q  (x : TId) : (idS).pre [.dv (.ag [.int .i64 x.kind, .str x.text])] = (x.ok) := propext ⟨fun h => by
  have h' : ∃ (x' : TId), ([.dv (.ag x.row)] : List AV) = [.dv (.ag x'.row)] ∧ (x'.ok) := h
  obtain ⟨x', e, h⟩ := h'
  simp only [List.cons.injEq, AV.dv.injEq, AV.fv.injEq, DV.d.injEq, DV.ag.injEq, D.int.injEq, D.str.injEq, D.bool.injEq, D.sl.injEq, true_and, and_true, intsDi_inj, rowsT_inj, rowsKi_inj, TId.row_inj, TId.rows_inj] at e
  obtain rfl := e
  exact h, fun h => ⟨x, rfl, h⟩⟩
theorem idS_p  (x : TId) : (idS).post [.dv (.ag [.int .i64 x.kind, .str x.text])] = fun y => y = .i (idF x) := funext fun y => propext ⟨fun h => by
  have h' : ∃ (x' : TId), ([.dv (.ag x.row)] : List AV) = [.dv (.ag x'.row)] ∧ y = .i (idF x') := h
  obtain ⟨x', e, h⟩ := h'
  simp only [List.cons.injEq, AV.dv.injEq, AV.fv.injEq, DV.d.injEq, DV.ag.injEq, D.int.injEq, D.str.injEq, D.bool.injEq, D.sl.injEq, true_and, and_true, intsDi_inj, rowsT_inj, rowsKi_inj, TId.row_inj, TId.rows_inj] at e
  obtain rfl := e
  exact h, fun h => ⟨x, rfl, h⟩⟩
set_option maxHeartbeats 4000000 in
theorem CheckId_ctr {cx : Cx} (h : Seat cx) (hM : MaxL cx) : Ctr cx 22 idS := by
  refine ctr_of (fn := Tryd.f22) (l := [.tmp 2]) (envL [(49, (strB4 mailB)), (50, (strB4 phoneB)), (51, (strB4 memberB)), (52, (strB4 deviceB)), (53, signP)]) [0, 1, 2, 3, 4, 6, 7, 12, 17, 22, 28, 47] [] [] (envL_cons (isMail_ctr h hM) (envL_cons (isPhone_ctr h) (envL_cons (isMember_ctr h) (envL_cons (isDevice_ctr h) (envL_cons (pcheckSign_ctr h) (env0 h.hP)))))) ?_ (by rw [h.hP]; exact Tryd.func22) rfl (by kernel_rfl) rfl ?_ ?_
  · rw [h.hP]; exact ⟨_, Tryd.func22, by kernel_rfl, by kernel_rfl⟩
  · rintro xs ⟨x, rfl, h1⟩; exact ⟨_, x, rfl, rfl⟩
  · rintro xs ⟨x, rfl, h1⟩
    obtain ⟨o1, o2⟩ := h1
    refine ⟨by rw [Tryd.ntmps22]; simp, ?_⟩
    simp only [go_sem, h.hP, List.cons_append, List.nil_append, Meets_e, Below_e, Prod.exists, exists_eq, exists_eq_left, exists_eq_left', exists_eq_right, exists_eq_right', exists_and_left, exists_and_right, Ob.arr.injEq, AV.own.injEq, AV.fv.injEq, idS_q, idS_p, idS_c, idS_f, strB4_q, strB4_p, strB4_c, strB4_f, signP_q, signP_p, signP_c, signP_f, TId.row, Tryd.ntmps22, Nat.reduceEqDiff, reduceCtorEq, Nat.reduceMul, Nat.reduceAdd, Nat.reduceSub, Nat.reduceDiv, Nat.reduceMod, Nat.reduceLeDiff, Nat.reduceLT, Nat.reduceBNe, Nat.reduceBEq, reduceIte, Int.reduceLE, Int.reduceLT, Int.reduceToNat, Int.reduceNeg, Int.reduceAdd, Int.reduceSub, Int.reduceMul, Int.reduceEq]
    unfold okS at o2
    have m0 : memberB x.text = true → 4 ≤ (x.text.size : Int) ∧ (x.text.size : Int) ≤ 20 ∧ (bl x.text).all memC = true := fun e => by
      unfold memberB at e
      rw [Bool.and_eq_true] at e
      have := inB_iff.1 e.1
      exact ⟨this.1, this.2, e.2⟩
    have hI : 4 ≤ (x.text.size : Int) → x.text.extract 0 (IntKind.i64.wrap ((x.text.size : Int) - 1)).toNat = initS x.text := fun e => by
      rw [i64w (n := (x.text.size : Int) - 1) (by omega) (by omega), show ((x.text.size : Int) - 1).toNat = x.text.size - 1 by omega]
      rfl
    have hIs : (initS x.text).size ≤ x.text.size := by unfold initS; rw [ByteArray.size_extract]; omega
    have hIm : (bl x.text).all memC = true → (bl (initS x.text)).all memC = true := fun e => by
      unfold initS
      rw [bl_extract, List.drop_zero]
      rw [List.all_eq_true] at e ⊢
      exact fun y hy => e y (List.mem_of_mem_take hy)
    have e1 : x.kind = 1 → idF x = if mailB x.text = true then 0 else 3 := fun c => if_pos c
    have e2 : ¬ x.kind = 1 → x.kind = 2 → idF x = if phoneB x.text = true then 0 else 3 := fun c d => (if_neg c).trans (if_pos d)
    have e3 : ¬ x.kind = 1 → ¬ x.kind = 2 → x.kind = 3 → idF x = if memberB x.text = true then (if bt signsB (signN (initS x.text)) ≠ bt x.text ((x.text.size : Int) - 1) then 15 else 0) else 3 := fun c d e => (if_neg c).trans ((if_neg d).trans (if_pos e))
    have e4 : ¬ x.kind = 1 → ¬ x.kind = 2 → ¬ x.kind = 3 → idF x = if x.kind = 4 then (if deviceB x.text = true then 0 else 3) else 4 := fun c d e => (if_neg c).trans ((if_neg d).trans (if_neg e))
    generalize idF x = R at *
    refine ⟨fun c1 => ⟨by omega, fun c => ?_, fun c => ⟨fun d => by omega, fun _ => ?_⟩⟩, fun c1 => ⟨fun c2 => ⟨by omega, fun c => ?_, fun c => ⟨fun d => by omega, fun _ => ?_⟩⟩, fun c2 => ⟨fun c3 => ⟨by omega, fun c => ?_, fun c => ⟨fun _ => ?_, fun d => absurd c3 d⟩⟩, fun c3 => ⟨fun c4 => ⟨by omega, fun c => ?_, fun c => ⟨fun d => absurd d c3, fun _ => ?_⟩⟩, fun c4 => ?_⟩⟩⟩⟩
    · rw [e1 c1, if_neg (ne_tf c)]
    · rw [e1 c1, if_pos c]
    · rw [e2 c1 c2, if_neg (ne_tf c)]
    · rw [e2 c1 c2, if_pos c]
    · rw [e3 c1 c2 c3, if_neg (ne_tf c)]
    · obtain ⟨n1, n2, n3⟩ := m0 c
      rw [hI n1, i64w (n := (x.text.size : Int) - 1) (by omega) (by omega), e3 c1 c2 c3, if_pos c]
      exact ⟨by omega, by omega, by omega, hIm n3, by omega, by omega, fun q => (if_pos q).symm, fun q => (if_neg (fun z => z q)).symm⟩
    · rw [e4 c1 c2 c3, if_pos c4, if_neg (ne_tf c)]
    · rw [e4 c1 c2 c3, if_pos c4, if_pos c]
    · rw [e4 c1 c2 c3, if_neg c4]
/-! ### Comparisons -/
def nanT  : Spec where
  pre xs := ∃ (s : ByteArray), xs = [.str s]
  post xs y := ∃ (s : ByteArray), xs = [.str s] ∧ y = .b false
  cost _ := 0
  fresh := true
theorem nanT_c  (xs : List AV) : (nanT).cost xs = 0 := nr rfl
theorem nanT_f  : (nanT).fresh = true := nr rfl
theorem nanT_q  (s : ByteArray) : (nanT).pre [.str s] = (True) := propext ⟨fun h => by
  have h' : ∃ (s' : ByteArray), ([.str s] : List AV) = [.str s'] := h
  obtain ⟨s', e⟩ := h'
  simp only [List.cons.injEq, AV.dv.injEq, AV.fv.injEq, DV.d.injEq, DV.ag.injEq, D.int.injEq, D.str.injEq, D.bool.injEq, D.sl.injEq, true_and, and_true, intsDi_inj, rowsT_inj, rowsKi_inj] at e
  obtain rfl := e
  exact trivial, fun h => ⟨s, rfl⟩⟩
theorem nanT_p  (s : ByteArray) : (nanT).post [.str s] = fun y => y = .b false := funext fun y => propext ⟨fun h => by
  have h' : ∃ (s' : ByteArray), ([.str s] : List AV) = [.str s'] ∧ y = .b false := h
  obtain ⟨s', e, h⟩ := h'
  simp only [List.cons.injEq, AV.dv.injEq, AV.fv.injEq, DV.d.injEq, DV.ag.injEq, D.int.injEq, D.str.injEq, D.bool.injEq, D.sl.injEq, true_and, and_true, intsDi_inj, rowsT_inj, rowsKi_inj] at e
  obtain rfl := e
  exact h, fun h => ⟨s, rfl, h⟩⟩
def cmpTSp  : Spec where
  pre xs := ∃ (s : ByteArray) (t : ByteArray), xs = [.str s, .str t]
  post xs y := ∃ (s : ByteArray) (t : ByteArray), xs = [.str s, .str t] ∧ y = .i (cmpT s t)
  cost _ := 0
  fresh := true
theorem cmpTSp_c  (xs : List AV) : (cmpTSp).cost xs = 0 := nr rfl
theorem cmpTSp_f  : (cmpTSp).fresh = true := nr rfl
theorem cmpTSp_q  (s : ByteArray) (t : ByteArray) : (cmpTSp).pre [.str s, .str t] = (True) := propext ⟨fun h => by
  have h' : ∃ (s' : ByteArray) (t' : ByteArray), ([.str s, .str t] : List AV) = [.str s', .str t'] := h
  obtain ⟨s', t', e⟩ := h'
  simp only [List.cons.injEq, AV.dv.injEq, AV.fv.injEq, DV.d.injEq, DV.ag.injEq, D.int.injEq, D.str.injEq, D.bool.injEq, D.sl.injEq, true_and, and_true, intsDi_inj, rowsT_inj, rowsKi_inj] at e
  obtain ⟨rfl, rfl⟩ := e
  exact trivial, fun h => ⟨s, t, rfl⟩⟩
theorem cmpTSp_p  (s : ByteArray) (t : ByteArray) : (cmpTSp).post [.str s, .str t] = fun y => y = .i (cmpT s t) := funext fun y => propext ⟨fun h => by
  have h' : ∃ (s' : ByteArray) (t' : ByteArray), ([.str s, .str t] : List AV) = [.str s', .str t'] ∧ y = .i (cmpT s' t') := h
  obtain ⟨s', t', e, h⟩ := h'
  simp only [List.cons.injEq, AV.dv.injEq, AV.fv.injEq, DV.d.injEq, DV.ag.injEq, D.int.injEq, D.str.injEq, D.bool.injEq, D.sl.injEq, true_and, and_true, intsDi_inj, rowsT_inj, rowsKi_inj] at e
  obtain ⟨rfl, rfl⟩ := e
  exact h, fun h => ⟨s, t, rfl, h⟩⟩
def orSp  : Spec where
  pre xs := ∃ (l : List Int), xs = [.sl (intsD l)] ∧ (l.length ≤ 1048576)
  post xs y := ∃ (l : List Int), xs = [.sl (intsD l)] ∧ y = .i (firstI l.length fun i => l.getD i 0)
  cost _ := 0
  fresh := true
theorem orSp_c  (xs : List AV) : (orSp).cost xs = 0 := nr rfl
theorem orSp_f  : (orSp).fresh = true := nr rfl
theorem orSp_q  (l : List Int) : (orSp).pre [.sl (intsD l)] = (l.length ≤ 1048576) := propext ⟨fun h => by
  have h' : ∃ (l' : List Int), ([.sl (intsD l)] : List AV) = [.sl (intsD l')] ∧ (l'.length ≤ 1048576) := h
  obtain ⟨l', e, h⟩ := h'
  simp only [List.cons.injEq, AV.dv.injEq, AV.fv.injEq, DV.d.injEq, DV.ag.injEq, D.int.injEq, D.str.injEq, D.bool.injEq, D.sl.injEq, true_and, and_true, intsDi_inj, rowsT_inj, rowsKi_inj] at e
  obtain rfl := e
  exact h, fun h => ⟨l, rfl, h⟩⟩
theorem orSp_p  (l : List Int) : (orSp).post [.sl (intsD l)] = fun y => y = .i (firstI l.length fun i => l.getD i 0) := funext fun y => propext ⟨fun h => by
  have h' : ∃ (l' : List Int), ([.sl (intsD l)] : List AV) = [.sl (intsD l')] ∧ y = .i (firstI l'.length fun i => l'.getD i 0) := h
  obtain ⟨l', e, h⟩ := h'
  simp only [List.cons.injEq, AV.dv.injEq, AV.fv.injEq, DV.d.injEq, DV.ag.injEq, D.int.injEq, D.str.injEq, D.bool.injEq, D.sl.injEq, true_and, and_true, intsDi_inj, rowsT_inj, rowsKi_inj] at e
  obtain rfl := e
  exact h, fun h => ⟨l, rfl, h⟩⟩
theorem or_two (a b : Int) : firstI 2 (fun i => [a, b].getD i 0) = if a ≠ 0 then a else b := by
  by_cases h : a ≠ 0
  · rw [if_pos h]
    exact firstI_at (n := 2) (f := fun i => [a, b].getD i 0) (i := 0) (by decide) (by decide) (fun j hj => by omega) h
  · rw [if_neg h]
    have h0 : ∀ j : Nat, (j : Int) < 1 → [a, b].getD j 0 = 0 := fun j hj => by
      obtain rfl : j = 0 := by omega
      exact Decidable.not_not.1 h
    by_cases h2 : b ≠ 0
    · exact firstI_at (n := 2) (f := fun i => [a, b].getD i 0) (i := 1) (by decide) (by decide) h0 h2
    · rw [firstI_no (n := 2) (f := fun i => [a, b].getD i 0) (i := 2) (fun j hj => ?_) (by decide), Decidable.not_not.1 h2]
      by_cases hj1 : (j : Int) < 1
      · exact h0 j hj1
      · obtain rfl : j = 1 := by omega
        exact Decidable.not_not.1 h2
def ordS  : Spec where
  pre xs := ∃ (a : TId) (b : TId), xs = [.dv (.ag a.row), .dv (.ag b.row)]
  post xs y := ∃ (a : TId) (b : TId), xs = [.dv (.ag a.row), .dv (.ag b.row)] ∧ y = .i (ordF a b)
  cost _ := 0
  fresh := true
theorem ordS_c  (xs : List AV) : (ordS).cost xs = 0 := nr rfl
theorem ordS_f  : (ordS).fresh = true := nr rfl
theorem ordS_q  (a : TId) (b : TId) : (ordS).pre [.dv (.ag [.int .i64 a.kind, .str a.text]), .dv (.ag [.int .i64 b.kind, .str b.text])] = (True) := propext ⟨fun h => by
  have h' : ∃ (a' : TId) (b' : TId), ([.dv (.ag a.row), .dv (.ag b.row)] : List AV) = [.dv (.ag a'.row), .dv (.ag b'.row)] := h
  obtain ⟨a', b', e⟩ := h'
  simp only [List.cons.injEq, AV.dv.injEq, AV.fv.injEq, DV.d.injEq, DV.ag.injEq, D.int.injEq, D.str.injEq, D.bool.injEq, D.sl.injEq, true_and, and_true, intsDi_inj, rowsT_inj, rowsKi_inj, TId.row_inj, TId.rows_inj, TId.row_inj, TId.rows_inj] at e
  obtain ⟨rfl, rfl⟩ := e
  exact trivial, fun h => ⟨a, b, rfl⟩⟩
theorem ordS_p  (a : TId) (b : TId) : (ordS).post [.dv (.ag [.int .i64 a.kind, .str a.text]), .dv (.ag [.int .i64 b.kind, .str b.text])] = fun y => y = .i (ordF a b) := funext fun y => propext ⟨fun h => by
  have h' : ∃ (a' : TId) (b' : TId), ([.dv (.ag a.row), .dv (.ag b.row)] : List AV) = [.dv (.ag a'.row), .dv (.ag b'.row)] ∧ y = .i (ordF a' b') := h
  obtain ⟨a', b', e, h⟩ := h'
  simp only [List.cons.injEq, AV.dv.injEq, AV.fv.injEq, DV.d.injEq, DV.ag.injEq, D.int.injEq, D.str.injEq, D.bool.injEq, D.sl.injEq, true_and, and_true, intsDi_inj, rowsT_inj, rowsKi_inj, TId.row_inj, TId.rows_inj, TId.row_inj, TId.rows_inj] at e
  obtain ⟨rfl, rfl⟩ := e
  exact h, fun h => ⟨a, b, rfl, h⟩⟩
end Go.Avc

/- Ids: what is wrong with them, by the reference. No condition. -/
set_option linter.unusedVariables false
set_option linter.unusedSimpArgs false
set_option maxRecDepth 100000
namespace Go.Avc
open Go Go.Proofs

theorem only_loc (s : ByteArray) : onlyB s ⟨#[97, 98, 99, 100, 101, 102, 103, 104, 105, 106, 107, 108, 109, 110, 111, 112, 113, 114, 115, 116, 117, 118, 119, 120, 121, 122, 48, 49, 50, 51, 52, 53, 54, 55, 56, 57, 46, 45, 95]⟩ = (bl s).all locC := only_all (p := locC) (by decide +kernel) s
theorem only_lab (s : ByteArray) : onlyB s ⟨#[97, 98, 99, 100, 101, 102, 103, 104, 105, 106, 107, 108, 109, 110, 111, 112, 113, 114, 115, 116, 117, 118, 119, 120, 121, 122, 48, 49, 50, 51, 52, 53, 54, 55, 56, 57, 45]⟩ = (bl s).all labC := only_all (p := labC) (by decide +kernel) s
theorem only_dig (s : ByteArray) : onlyB s ⟨#[48, 49, 50, 51, 52, 53, 54, 55, 56, 57]⟩ = (bl s).all digitC := only_all (p := digitC) (by decide +kernel) s
theorem only_mem (s : ByteArray) : onlyB s ⟨#[48, 49, 50, 51, 52, 53, 54, 55, 56, 57, 65, 66, 67, 68, 69, 70, 71, 72, 73, 74, 75, 76, 77, 78, 79, 80, 81, 82, 83, 84, 85, 86, 87, 88, 89, 90]⟩ = (bl s).all memC := only_all (p := memC) (by decide +kernel) s
theorem only_hex (s : ByteArray) : onlyB s ⟨#[48, 49, 50, 51, 52, 53, 54, 55, 56, 57, 97, 98, 99, 100, 101, 102]⟩ = (bl s).all hexC := only_all (p := hexC) (by decide +kernel) s
theorem all_take {α : Type} {l : List α} {p : α → Bool} {i : Nat} (d : α) (h : i < l.length) : (l.take (i + 1)).all p = ((l.take i).all p && p (l.getD i d)) := by
  rw [List.take_add_one, List.all_append, List.getD_eq_getElem?_getD, List.getElem?_eq_getElem h]
  simp
theorem pre_plus {s : ByteArray} (h : preS s ⟨#[43]⟩ = true) : 1 ≤ s.size ∧ cpreF s ⟨#[43]⟩ = s.extract 1 s.size := by
  have h' : Lib.hasPrefix s.data.toList [43] = true := h
  constructor
  · rw [← len_size]
    cases hd : s.data.toList with
    | nil => rw [hd] at h'; cases h'
    | cons x r => simp
  · rw [ba_eq, ByteArray.data_extract, Array.toList_extract, List.extract_eq_take_drop]
    show (if Lib.hasPrefix s.data.toList [43] = true then s.data.toList.drop 1 else s.data.toList) = _
    rw [if_pos h', List.take_of_length_le]
    rw [List.length_drop, len_size]
    exact Nat.le_refl _
theorem bt_ext1 {s : ByteArray} (h : 1 ≤ s.size) : bt (s.extract 1 s.size) 0 = bt s 1 := by
  rw [bt_bl, bt_bl, bl_extract]
  rw [List.take_of_length_le (by rw [bl_length]; exact Nat.le_refl _)]
  show (List.drop 1 (bl s)).getD 0 0 = (bl s).getD 1 0
  rw [List.getD_eq_getElem?_getD, List.getElem?_drop, List.getD_eq_getElem?_getD]
theorem trim_dot {s : ByteArray} (h : 1 ≤ s.size) : (trimF s ⟨#[46]⟩ = s) = (bt s 0 ≠ 46 ∧ bt s ((s.size : Int) - 1) ≠ 46) := propext (trim_one h 46)
theorem trim_dash {s : ByteArray} (h : 1 ≤ s.size) : (trimF s ⟨#[45]⟩ = s) = (bt s 0 ≠ 45 ∧ bt s ((s.size : Int) - 1) ≠ 45) := propext (trim_one h 45)
set_option maxHeartbeats 8000000 in
theorem IdFault_ctr {cx : Cx} (h : Seat cx) (hM : MaxL cx) : Ctr cx 30 idS := by
  refine ctr_of (fn := Tryd.f30) (l := [.tmp 2]) (envL [(46, cutSp), (61, splitSp), (23, inS), (24, onlyS), (16, trimSp), (62, conSp), (28, cpreSp), (63, signR)]) [0, 1, 2, 3, 4, 5, 6, 7, 8, 10, 11, 12, 16, 17, 58, 59, 60, 61, 81, 103, 127, 128, 138] [9] [] (envL_cons (cut_ctr h hM) (envL_cons (split_ctr h hM) (envL_cons (in_ctr h) (envL_cons (only_ctr h) (envL_cons (trim_ctr h) (envL_cons (contains_ctr h hM) (envL_cons (cutPrefix_ctr h) (envL_cons (rcheckSign_ctr h) (env0 h.hP))))))))) ?_ (by rw [h.hP]; exact Tryd.func30) rfl (by kernel_rfl) rfl ?_ ?_
  · rw [h.hP]; exact ⟨_, Tryd.func30, by kernel_rfl, by kernel_rfl⟩
  · rintro xs ⟨x, rfl, h1⟩; exact ⟨_, x, rfl, rfl⟩
  · rintro xs ⟨x, rfl, h1⟩
    obtain ⟨o1, o2⟩ := h1
    refine ⟨by rw [Tryd.ntmps30]; simp, ?_⟩
    simp only [go_sem, h.hP, List.cons_append, List.nil_append, Meets_e, Below_e, Prod.exists, exists_eq, exists_eq_left, exists_eq_left', exists_eq_right, exists_eq_right', exists_and_left, exists_and_right, Ob.arr.injEq, AV.own.injEq, AV.fv.injEq, idS_q, idS_p, idS_c, idS_f, cutSp_q, cutSp_p, cutSp_c, cutSp_f, splitSp_q, splitSp_p, splitSp_c, splitSp_f, inS_q, inS_p, inS_c, inS_f, onlyS_q, onlyS_p, onlyS_c, onlyS_f, trimSp_q, trimSp_p, trimSp_c, trimSp_f, conSp_q, conSp_p, conSp_c, conSp_f, cpreSp_q, cpreSp_p, cpreSp_c, cpreSp_f, signR_q, signR_p, signR_c, signR_f, TId.row, only_loc, only_lab, only_dig, only_mem, only_hex, Tryd.ntmps30, Nat.reduceEqDiff, reduceCtorEq, Nat.reduceMul, Nat.reduceAdd, Nat.reduceSub, Nat.reduceDiv, Nat.reduceMod, Nat.reduceLeDiff, Nat.reduceLT, Nat.reduceBNe, Nat.reduceBEq, reduceIte, Int.reduceLE, Int.reduceLT, Int.reduceToNat, Int.reduceNeg, Int.reduceAdd, Int.reduceSub, Int.reduceMul, Int.reduceEq]
    unfold okS at o2
    have hw : IntKind.i64.wrap ((x.text.size : Int) - 1) = (x.text.size : Int) - 1 := i64w (by omega) (by omega)
    have hIs : (initS x.text).size ≤ x.text.size := by unfold initS; rw [ByteArray.size_extract]; omega
    have hIm : (bl x.text).all memC = true → (bl (initS x.text)).all memC = true := fun e => by
      unfold initS
      rw [bl_extract, List.drop_zero]
      rw [List.all_eq_true] at e ⊢
      exact fun y hy => e y (List.mem_of_mem_take hy)
    have hI : x.text.extract 0 ((x.text.size : Int) - 1).toNat = initS x.text := by
      rw [show ((x.text.size : Int) - 1).toNat = x.text.size - 1 by omega]
      rfl
    have e1 : x.kind = 1 → idF x = if mailB x.text = true then 0 else 3 := fun c => if_pos c
    have e2 : ¬ x.kind = 1 → x.kind = 2 → idF x = if phoneB x.text = true then 0 else 3 := fun c d => (if_neg c).trans (if_pos d)
    have e3 : ¬ x.kind = 1 → ¬ x.kind = 2 → x.kind = 3 → idF x = if memberB x.text = true then (if bt signsB (signN (initS x.text)) ≠ bt x.text ((x.text.size : Int) - 1) then 15 else 0) else 3 := fun c d e => (if_neg c).trans ((if_neg d).trans (if_pos e))
    have e4 : ¬ x.kind = 1 → ¬ x.kind = 2 → ¬ x.kind = 3 → idF x = if x.kind = 4 then (if deviceB x.text = true then 0 else 3) else 4 := fun c d e => (if_neg c).trans ((if_neg d).trans (if_neg e))
    rw [hw, hI]
    generalize idF x = R at *
    have hsn := signN_in (initS x.text)
    have hp : phoneB x.text = (preS x.text ⟨#[43]⟩ && inB x.text.size 8 16 && (bl (x.text.extract 1 x.text.size)).all digitC && decide (bt x.text 1 ≠ 48)) := rfl
    have hmm : memberB x.text = (inB x.text.size 4 20 && (bl x.text).all memC) := rfl
    have hdv : deviceB x.text = (decide ((x.text.size : Int) = 32) && (bl x.text).all hexC) := rfl
    refine ⟨fun c1 => ⟨by omega, by have := cutR_size x.text ⟨#[64]⟩; omega, ?_⟩, fun c1 => ⟨fun c2 => ?_, fun c2 => ⟨fun c3 => ?_, fun c3 => ⟨fun c4 => ?_, fun c4 => ?_⟩⟩⟩⟩
    · have hm : mailB x.text = (cutB x.text ⟨#[64]⟩ && decide ((x.text.size : Int) ≤ 80) && localB (cutL x.text ⟨#[64]⟩) && (splitS (cutR x.text ⟨#[64]⟩) ⟨#[46]⟩).all labelB && decide (2 ≤ (splitS (cutR x.text ⟨#[64]⟩) ⟨#[46]⟩).length)) := rfl
      have hL := cutL_size x.text ⟨#[64]⟩
      have hle := splitS_le (s := cutR x.text ⟨#[64]⟩) (p := ⟨#[46]⟩) (by decide)
      have hsz := splitS_get (cutR x.text ⟨#[64]⟩) ⟨#[46]⟩
      have hR := cutR_size x.text ⟨#[64]⟩
      have E1 := e1 c1
      rw [hm] at E1
      clear e1 e2 e3 e4 hm hp hmm hdv
      generalize cutL x.text ⟨#[64]⟩ = a at *
      generalize splitS (cutR x.text ⟨#[64]⟩) ⟨#[46]⟩ = l at *
      generalize cutB x.text ⟨#[64]⟩ = k at *
      have hA : localB a = (inB a.size 1 64 && decide (bt a 0 ≠ 46) && decide (bt a ((a.size : Int) - 1) ≠ 46) && !conS a ⟨#[46, 46]⟩ && (bl a).all locC) := rfl
      refine vc_cutT (Bool) (fun (b : Bool) => [(4, .b b)]) [1] (fun (b : Bool) => []) (fun (b : Bool) => []) (fun (b : Bool) => 0) (fun (b : Bool) => b = (k && decide ((x.text.size : Int) ≤ 80) && localB a && decide (2 ≤ l.length))) [] ?_ ?_ ?_
      · rfl
      · simp only [go_sem, h.hP, List.cons_append, List.nil_append, Meets_e, Below_e, Prod.exists, exists_eq, exists_eq_left, exists_eq_left', exists_eq_right, exists_eq_right', exists_and_left, exists_and_right, Ob.arr.injEq, AV.own.injEq, AV.fv.injEq, inS_q, inS_p, inS_c, inS_f, onlyS_q, onlyS_p, onlyS_c, onlyS_f, trimSp_q, trimSp_p, trimSp_c, trimSp_f, conSp_q, conSp_p, conSp_c, conSp_f, only_loc, rowsT_len, Tryd.ntmps30, Nat.reduceEqDiff, reduceCtorEq, Nat.reduceMul, Nat.reduceAdd, Nat.reduceSub, Nat.reduceDiv, Nat.reduceMod, Nat.reduceLeDiff, Nat.reduceLT, Nat.reduceBNe, Nat.reduceBEq, reduceIte, Int.reduceLE, Int.reduceLT, Int.reduceToNat, Int.reduceNeg, Int.reduceAdd, Int.reduceSub, Int.reduceMul, Int.reduceEq]
        have hd : decide (2 ≤ (l.length : Int)) = decide (2 ≤ l.length) := decide_eq_decide.2 (by omega)
        refine ⟨fun d1 => ⟨fun d2 => ⟨fun d3 => ?_, fun d3 => by rw [hA, d3]; simp⟩, fun d2 => by simp [d2]⟩, fun d1 => by rw [d1]; rfl⟩
        have i3 := inB_iff.1 d3
        rw [trim_dot (by omega)]
        refine ⟨by omega, by decide +kernel, fun d4 => ⟨by omega, by decide, fun d5 => ⟨by omega, fun d6 => ?_, fun d6 => by rw [hA, d6]; simp⟩, fun d5 => ?_⟩, fun d4 => by rw [hA, d4]; simp⟩
        · rw [hd, hA, d1, d3, d4, d6, decide_eq_true d2, decide_eq_true d5.1, decide_eq_true d5.2]
          simp
        · rw [hA]
          by_cases q : bt a 0 = 46
          · simp [q]
          · have q2 : bt a ((a.size : Int) - 1) = 46 := Decidable.not_not.1 fun z => d5 ⟨q, z⟩
            simp [q2]
      · rintro b0 hb
        simp only [go_sem, h.hP, List.cons_append, List.nil_append, Meets_e, Below_e, Prod.exists, exists_eq, exists_eq_left, exists_eq_left', exists_eq_right, exists_eq_right', exists_and_left, exists_and_right, Ob.arr.injEq, AV.own.injEq, AV.fv.injEq, rowsT_len, Tryd.ntmps30, Nat.reduceEqDiff, reduceCtorEq, Nat.reduceMul, Nat.reduceAdd, Nat.reduceSub, Nat.reduceDiv, Nat.reduceMod, Nat.reduceLeDiff, Nat.reduceLT, Nat.reduceBNe, Nat.reduceBEq, reduceIte, Int.reduceLE, Int.reduceLT, Int.reduceToNat, Int.reduceNeg, Int.reduceAdd, Int.reduceSub, Int.reduceMul, Int.reduceEq]
        refine vc_loopS (Int × Bool) (fun (x : Int × Bool) => match x with | (i, b) => [(60, .i i), (4, .b b)]) [1] (fun (x : Int × Bool) => match x with | (i, b) => []) (fun (x : Int × Bool) => match x with | (i, b) => []) (fun (x : Int × Bool) => match x with | (i, b) => 0) (fun (x : Int × Bool) => match x with | (i, b) => 0 ≤ i ∧ i ≤ l.length ∧ b = (b0 && (l.take i.toNat).all labelB)) (fun (x : Int × Bool) => match x with | (i, b) => (l.length - i).toNat) [] ?_ ?_
        · simp only [go_sem, h.hP, List.cons_append, List.nil_append, Meets_e, Below_e, Prod.exists, exists_eq, exists_eq_left, exists_eq_left', exists_eq_right, exists_eq_right', exists_and_left, exists_and_right, Ob.arr.injEq, AV.own.injEq, AV.fv.injEq, rowsT_len, Tryd.ntmps30, Nat.reduceEqDiff, reduceCtorEq, Nat.reduceMul, Nat.reduceAdd, Nat.reduceSub, Nat.reduceDiv, Nat.reduceMod, Nat.reduceLeDiff, Nat.reduceLT, Nat.reduceBNe, Nat.reduceBEq, reduceIte, Int.reduceLE, Int.reduceLT, Int.reduceToNat, Int.reduceNeg, Int.reduceAdd, Int.reduceSub, Int.reduceMul, Int.reduceEq]
          exact Int.natCast_nonneg _
        · rintro ⟨i, b⟩ ⟨j1, j2, j3⟩
          simp only [go_sem, h.hP, List.cons_append, List.nil_append, Meets_e, Below_e, Prod.exists, exists_eq, exists_eq_left, exists_eq_left', exists_eq_right, exists_eq_right', exists_and_left, exists_and_right, Ob.arr.injEq, AV.own.injEq, AV.fv.injEq, idS_q, idS_p, idS_c, idS_f, inS_q, inS_p, inS_c, inS_f, onlyS_q, onlyS_p, onlyS_c, onlyS_f, trimSp_q, trimSp_p, trimSp_c, trimSp_f, only_lab, rowsT_len, rowsT_get, Tryd.ntmps30, Nat.reduceEqDiff, reduceCtorEq, Nat.reduceMul, Nat.reduceAdd, Nat.reduceSub, Nat.reduceDiv, Nat.reduceMod, Nat.reduceLeDiff, Nat.reduceLT, Nat.reduceBNe, Nat.reduceBEq, reduceIte, Int.reduceLE, Int.reduceLT, Int.reduceToNat, Int.reduceNeg, Int.reduceAdd, Int.reduceSub, Int.reduceMul, Int.reduceEq]
          have hs0 := hsz i.toNat
          have hq : ∀ q : ByteArray, labelB q = (inB q.size 1 30 && decide (bt q 0 ≠ 45) && decide (bt q ((q.size : Int) - 1) ≠ 45) && (bl q).all labC) := fun q => rfl
          refine ⟨fun c => ?_, fun c => ?_⟩
          · have ht := all_take (p := labelB) ⟨#[]⟩ (show i.toNat < l.length by omega)
            rw [i64w (n := i + 1) (by omega) (by omega), show (i + 1).toNat = i.toNat + 1 by omega, ht, ← Bool.and_assoc, ← j3, hq]
            clear ht
            generalize l.getD i.toNat ⟨#[]⟩ = q at *
            refine ⟨j1, c, fun d1 => ⟨fun d2 => ?_, fun d2 => ⟨by omega, by omega, by rw [d2]; simp, by omega⟩⟩, fun d1 => ⟨by omega, by omega, by rw [d1]; rfl, by omega⟩⟩
            have i2 := inB_iff.1 d2
            have hdec : decide (trimF q ⟨#[45]⟩ = q) = (decide (bt q 0 ≠ 45) && decide (bt q ((q.size : Int) - 1) ≠ 45)) := by
              rw [← Bool.decide_and]
              exact decide_eq_decide.2 (trim_one (by omega) 45)
            refine ⟨by omega, by decide +kernel, fun d3 => ⟨by omega, by decide, by omega, by omega, ?_, by omega⟩, fun d3 => ⟨by omega, by omega, by rw [d3]; simp, by omega⟩⟩
            rw [hdec, d1, d2, d3]
            simp
          · have hi : i.toNat = l.length := by omega
            rw [hi, List.take_length, hb, Bool.and_right_comm] at j3
            rw [E1, ← j3]
            exact ⟨fun d => by rw [d]; rfl, fun d => by rw [d]; rfl⟩
    · rw [e2 c1 c2, hp]
      refine ⟨fun d1 => ?_, fun d1 => by rw [d1]; rfl⟩
      obtain ⟨n1, n2⟩ := pre_plus d1
      have n3 : (x.text.extract 1 x.text.size).size = x.text.size - 1 := by rw [ByteArray.size_extract]; omega
      rw [n2, bt_ext1 n1, n3]
      have n4 : inB ((x.text.size - 1 : Nat) : Int) 7 15 = inB x.text.size 8 16 := by
        unfold inB
        exact decide_eq_decide.2 (by omega)
      rw [n4]
      refine ⟨fun d2 => ?_, fun d2 => by rw [d2]; simp⟩
      have i2 := inB_iff.1 d2
      exact ⟨by omega, by decide, fun d3 => ⟨by omega, fun d4 => by simp [d4], fun d4 => by rw [d1, d2, d3]; simp [d4]⟩, fun d3 => by rw [d3]; simp⟩
    · rw [e3 c1 c2 c3, hmm]
      refine ⟨fun d1 => ⟨by omega, by decide +kernel, fun d2 => ?_, fun d2 => ⟨fun _ => by rw [d2]; simp, fun z => (by rw [d2] at z; cases z)⟩⟩, fun d1 => by rw [d1]; rfl⟩
      have i1 := inB_iff.1 d1
      rw [signs_lit]
      refine ⟨by omega, by omega, by omega, hIm d2, hsn.1, by omega, by omega, by omega, fun d3 => ?_, fun d3 => ⟨fun z => (by rw [d2] at z; cases z), fun _ => ?_⟩⟩
      · rw [d1, d2]
        exact (if_pos d3).symm
      · rw [d1, d2]
        exact (if_neg (fun z => z d3)).symm
    · rw [e4 c1 c2 c3, if_pos c4, hdv]
      exact ⟨fun d1 => ⟨by omega, by decide +kernel, fun d2 => by rw [d2]; simp, fun d2 => by rw [d2, decide_eq_true d1]; rfl⟩, fun d1 => by rw [decide_eq_false d1]; rfl⟩
    · rw [e4 c1 c2 c3, if_neg c4]
end Go.Avc

/- Distance, people, Changed: their contracts. No condition. -/
set_option linter.unusedVariables false
set_option linter.unusedSimpArgs false
set_option maxRecDepth 100000
namespace Go.Avc
open Go Go.Proofs

def distanceS : Spec where
  pre xs := ∃ s t : ByteArray, xs = [.str s, .str t]
  post xs r := ∃ s t : ByteArray, xs = [.str s, .str t] ∧ r = if s.size > 200 ∨ t.size > 200 then .tcons (.i 0) (.tcons (.i 2) .tnil) else .tcons (.i (distP (pts s) (pts t))) (.tcons (.i 0) .tnil)
  cost _ := 0
  fresh := true
theorem distance_ctr {cx : Cx} (h : Seat cx) (hU : Utf8 cx) : Ctr cx 31 distanceS := by
  refine ctr_of (fn := Tryd.f31) (l := [.tmp 4, .tmp 5]) (envL [(65, (ptsS .i32)), (64, distS)]) [0, 1, 4, 5, 13] [] [] (envL_cons (pts_ctr h hU) (envL_cons (dist_ctr h) (env0 h.hP))) ?_ (by rw [h.hP]; exact Tryd.func31) rfl (by kernel_rfl) rfl ?_ ?_
  · rw [h.hP]; exact ⟨_, Tryd.func31, by kernel_rfl, by kernel_rfl⟩
  · rintro xs ⟨s, t, rfl⟩; exact ⟨_, s, t, rfl, rfl⟩
  · rintro xs ⟨s, t, rfl⟩
    refine ⟨by rw [Tryd.ntmps31]; simp, ?_⟩
    simp only [go_sem, h.hP, distanceS, ptsS, distS, rowsK_inj, Tryd.ntmps31, Nat.reduceEqDiff, reduceCtorEq, Nat.reduceMul, Nat.reduceAdd, Nat.reduceSub, Nat.reduceDiv, Nat.reduceMod, Nat.reduceLeDiff, Nat.reduceLT, Nat.reduceBNe, Nat.reduceBEq, reduceIte, Int.reduceLE, Int.reduceLT, Int.reduceToNat, Int.reduceNeg, Int.reduceAdd, Int.reduceSub, Int.reduceMul, Int.reduceEq]
    have hp : (pts s).length ≤ s.size := ptsL_len s.size s
    have hq : (pts t).length ≤ t.size := ptsL_len t.size t
    (repeat' (first | with_reducible apply And.intro | with_reducible intro))
    all_goals first
      | omega
      | rw [if_pos (by omega)]
      | rw [if_neg (by omega)]
theorem kitten : distP (pts ⟨#[107, 105, 116, 116, 101, 110]⟩) (pts ⟨#[115, 105, 116, 116, 105, 110, 103]⟩) = 3 := by decide +kernel
theorem quote_space : quotedF ⟨#[32]⟩ = ⟨#[34, 92, 120, 50, 48, 34]⟩ := by decide +kernel
def peopleS : Spec where
  pre xs := xs = []
  post xs r := r = .b true
  cost _ := 0
  fresh := true
theorem people_ctr {cx : Cx} (h : Seat cx) (hU : Utf8 cx) : Ctr cx 7 peopleS := by
  refine ctr_of (fn := Tryd.f7) (l := [.tmp 0]) (envL [(31, distanceS), (32, quoteS)]) [0, 1, 2] [] [] (envL_cons (distance_ctr h hU) (envL_cons (quote_ctr h) (env0 h.hP))) ?_ (by rw [h.hP]; exact Tryd.func7) rfl (by kernel_rfl) rfl ?_ ?_
  · rw [h.hP]; exact ⟨_, Tryd.func7, by kernel_rfl, by kernel_rfl⟩
  · rintro xs rfl; exact ⟨_, rfl⟩
  · rintro xs rfl
    refine ⟨by rw [Tryd.ntmps7]; simp, ?_⟩
    simp only [go_sem, h.hP, peopleS, distanceS, quoteS, Tryd.ntmps7, Nat.reduceEqDiff, reduceCtorEq, Nat.reduceMul, Nat.reduceAdd, Nat.reduceSub, Nat.reduceDiv, Nat.reduceMod, Nat.reduceLeDiff, Nat.reduceLT, Nat.reduceBNe, Nat.reduceBEq, reduceIte, Int.reduceLE, Int.reduceLT, Int.reduceToNat, Int.reduceNeg, Int.reduceAdd, Int.reduceSub, Int.reduceMul, Int.reduceEq]
    exact ⟨fun _ => quote_space, fun e => e kitten⟩
end Go.Avc

/- Normal and the reference's NormalOf: what they compute, in plain words; that the two ways agree. No condition. -/
set_option linter.unusedVariables false
set_option linter.unusedSimpArgs false
set_option maxRecDepth 100000
namespace Go.Avc
open Go Go.Proofs

def lowS (s : ByteArray) : ByteArray := Nrm.mapS Nrm.lowU s
def upS (s : ByteArray) : ByteArray := Nrm.mapS Nrm.upU s
def woS (s b : ByteArray) : ByteArray := Nrm.woS b s
theorem mapS_size (f : UInt8 → UInt8) (s : ByteArray) : (Nrm.mapS f s).size = s.size := by
  unfold Nrm.mapS
  rw [size_list, List.length_map, len_size]
theorem lowS_size (s : ByteArray) : (lowS s).size = s.size := mapS_size _ s
theorem upS_size (s : ByteArray) : (upS s).size = s.size := mapS_size _ s
theorem woS_size (s b : ByteArray) : (woS s b).size ≤ s.size := by
  unfold woS Nrm.woS
  rw [size_list, ← len_size s]
  exact List.length_filter_le _ _
theorem trimF_size (s c : ByteArray) : (trimF s c).size ≤ s.size := by
  unfold trimF Lib.trimS Lib.trimLeftS Lib.trimRightS
  rw [size_list, ← len_size s]
  have h (p : UInt8 → Bool) (l : List UInt8) : (l.dropWhile p).length ≤ l.length := (List.dropWhile_sublist p).length_le
  first
    | (refine Nat.le_trans (h _ _) ?_; rw [List.length_reverse]; refine Nat.le_trans (h _ _) ?_; rw [List.length_reverse]; exact Nat.le_refl _)
    | (rw [List.length_reverse]; refine Nat.le_trans (h _ _) ?_; rw [List.length_reverse]; exact h _ _)
theorem tr_low (s : ByteArray) : Nrm.mapS (Nrm.trU ⟨#[65, 66, 67, 68, 69, 70, 71, 72, 73, 74, 75, 76, 77, 78, 79, 80, 81, 82, 83, 84, 85, 86, 87, 88, 89, 90]⟩ ⟨#[97, 98, 99, 100, 101, 102, 103, 104, 105, 106, 107, 108, 109, 110, 111, 112, 113, 114, 115, 116, 117, 118, 119, 120, 121, 122]⟩) s = lowS s := by
  have h := u8_all (p := fun c => Nrm.trU ⟨#[65, 66, 67, 68, 69, 70, 71, 72, 73, 74, 75, 76, 77, 78, 79, 80, 81, 82, 83, 84, 85, 86, 87, 88, 89, 90]⟩ ⟨#[97, 98, 99, 100, 101, 102, 103, 104, 105, 106, 107, 108, 109, 110, 111, 112, 113, 114, 115, 116, 117, 118, 119, 120, 121, 122]⟩ c == Nrm.lowU c) (by decide +kernel)
  unfold lowS
  congr 1
  funext c
  exact eq_of_beq (h c)
theorem tr_up (s : ByteArray) : Nrm.mapS (Nrm.trU ⟨#[97, 98, 99, 100, 101, 102, 103, 104, 105, 106, 107, 108, 109, 110, 111, 112, 113, 114, 115, 116, 117, 118, 119, 120, 121, 122]⟩ ⟨#[65, 66, 67, 68, 69, 70, 71, 72, 73, 74, 75, 76, 77, 78, 79, 80, 81, 82, 83, 84, 85, 86, 87, 88, 89, 90]⟩) s = upS s := by
  have h := u8_all (p := fun c => Nrm.trU ⟨#[97, 98, 99, 100, 101, 102, 103, 104, 105, 106, 107, 108, 109, 110, 111, 112, 113, 114, 115, 116, 117, 118, 119, 120, 121, 122]⟩ ⟨#[65, 66, 67, 68, 69, 70, 71, 72, 73, 74, 75, 76, 77, 78, 79, 80, 81, 82, 83, 84, 85, 86, 87, 88, 89, 90]⟩ c == Nrm.upU c) (by decide +kernel)
  unfold upS
  congr 1
  funext c
  exact eq_of_beq (h c)
/-- The bytes of a set are ASCII: then the two ways to leave bytes out are one. -/
def setOk (b : ByteArray) : Prop := ∀ c : UInt8, decide (Lib.indexByte b.data.toList c < 0) = !Nrm.inSet b c.toNat
theorem set1 : setOk ⟨#[32, 45, 46, 47, 40, 41]⟩ := fun c => eq_of_beq (u8_all (p := fun c => decide (Lib.indexByte (⟨#[32, 45, 46, 47, 40, 41]⟩ : ByteArray).data.toList c < 0) == !Nrm.inSet ⟨#[32, 45, 46, 47, 40, 41]⟩ c.toNat) (by decide +kernel) c)
theorem set2 : setOk ⟨#[32, 45]⟩ := fun c => eq_of_beq (u8_all (p := fun c => decide (Lib.indexByte (⟨#[32, 45]⟩ : ByteArray).data.toList c < 0) == !Nrm.inSet ⟨#[32, 45]⟩ c.toNat) (by decide +kernel) c)
theorem set3 : setOk ⟨#[45]⟩ := fun c => eq_of_beq (u8_all (p := fun c => decide (Lib.indexByte (⟨#[45]⟩ : ByteArray).data.toList c < 0) == !Nrm.inSet ⟨#[45]⟩ c.toNat) (by decide +kernel) c)
/-- What without has gathered after i bytes. -/
def woL (s b : ByteArray) (i : Nat) : List Int := ((bl s).take i).filter fun c => decide (ixB b c < 0)
theorem woL_len (s b : ByteArray) (i : Nat) : (woL s b i).length ≤ i := by
  refine Nat.le_trans (List.length_filter_le _ _) ?_
  rw [List.length_take]
  omega
theorem woL_step (s b : ByteArray) {i : Nat} (h : i < s.size) : woL s b (i + 1) = woL s b i ++ if ixB b (bt s (i : Int)) < 0 then [bt s (i : Int)] else [] := by
  have h' : i < (bl s).length := by rw [bl_length]; exact h
  unfold woL
  rw [List.take_succ_eq_append_getElem h', List.filter_append]
  congr 1
  have e : (bl s)[i] = bt s (i : Int) := by rw [bt_bl, Int.toNat_natCast, getD_lt h']
  rw [e]
  by_cases c : ixB b (bt s (i : Int)) < 0
  · rw [if_pos c, List.filter_cons_of_pos (by simpa using c)]; rfl
  · rw [if_neg c, List.filter_cons_of_neg (by simpa using c)]; rfl
theorem woL_all (s b : ByteArray) (h : setOk b) {i : Nat} (hi : i = s.size) : strOfNums (woL s b i) = woS s b := by
  have e : woL s b i = bl (woS s b) := by
    unfold woL
    rw [List.take_of_length_le (by rw [bl_length]; omega)]
    unfold woS Nrm.woS bl
    rw [List.filter_map]
    congr 1
    apply List.filter_congr
    intro c _
    rw [← h c]
    show decide (ixB b (c.toNat : Int) < 0) = _
    unfold ixB
    rw [Int.toNat_natCast]
    simp
  rw [e, str_bl]

/-! ### Mail addresses -/
theorem ix_no_take (c : UInt8) : ∀ (l : List UInt8) (k : Nat), Lib.indexByte l c < 0 → Lib.indexByte (l.take k) c < 0
  | [], k, h => by simpa using h
  | b :: r, 0, h => by show (-1 : Int) < 0; decide
  | b :: r, k + 1, h => by
    rw [List.take_succ_cons]
    unfold Lib.indexByte at h ⊢
    split
    · rename_i e
      rw [if_pos e] at h
      exact absurd h (by decide)
    · rename_i e
      rw [if_neg e] at h
      split at h
      · rename_i h1
        have := ix_no_take c r k (by rw [beq_iff_eq] at h1; omega)
        rcases Nrm.ix_range (r.take k) c with h2 | h2
        · rw [if_pos (by rw [h2]; rfl)]; decide
        · omega
      · rename_i h1
        rw [beq_iff_eq] at h1
        rcases Nrm.ix_range r c with h2 | h2 <;> omega
theorem ix_at (c : UInt8) : ∀ (l : List UInt8) (k : Nat), Lib.indexByte l c = (k : Int) → l[k]? = some c
  | [], k, h => by
    have : (-1 : Int) = k := h
    omega
  | b :: r, k, h => by
    unfold Lib.indexByte at h
    split at h
    · rename_i e
      have : k = 0 := by omega
      subst this
      rw [beq_iff_eq] at e
      rw [e]
      rfl
    · split at h
      · omega
      · obtain ⟨k', rfl⟩ : ∃ k', k = k' + 1 := ⟨k - 1, by
          rename_i h1
          rw [beq_iff_eq] at h1
          rcases Nrm.ix_range r c with h2 | h2 <;> omega⟩
        rw [List.getElem?_cons_succ]
        exact ix_at c r k' (by omega)
theorem ixB_in {s : ByteArray} {c : Int} (h : 0 ≤ ixB s c) : ∃ k : Nat, ixB s c = (k : Int) ∧ k < s.size ∧ Lib.indexByte s.data.toList c.toNat.toUInt8 = (k : Int) := by
  rcases Nrm.ix_range s.data.toList c.toNat.toUInt8 with h1 | ⟨h1, h2⟩
  · unfold ixB at h; omega
  · exact ⟨(ixB s c).toNat, (Int.toNat_of_nonneg h).symm, by rw [len_size] at h2; unfold ixB; omega, by show ixB s c = _; exact (Int.toNat_of_nonneg h).symm⟩
theorem one_list (c : UInt8) : (⟨#[c]⟩ : ByteArray).data.toList = [c] := rfl
theorem ext_list (s : ByteArray) (a b : Nat) : (s.extract a b).data.toList = (s.data.toList.drop a).take (b - a) := by
  rw [ByteArray.data_extract, Array.toList_extract, List.extract_eq_take_drop]
theorem cut_no {s : ByteArray} {c : UInt8} (h : Lib.indexByte s.data.toList c < 0) : cutB s ⟨#[c]⟩ = false ∧ cutL s ⟨#[c]⟩ = s := by
  unfold cutB cutL Lib.cut
  rw [one_list, Lib.index_one, if_neg (by omega)]
  exact ⟨rfl, rfl⟩
theorem cut_yes {s : ByteArray} {c : UInt8} {k : Nat} (h : Lib.indexByte s.data.toList c = (k : Int)) : cutB s ⟨#[c]⟩ = true ∧ cutL s ⟨#[c]⟩ = s.extract 0 k ∧ (⟨#[c]⟩ : ByteArray) ++ cutR s ⟨#[c]⟩ = s.extract k s.size := by
  have h1 := ix_at c _ k h
  have hk : k < s.data.toList.length := (List.getElem?_eq_some_iff.1 h1).1
  unfold cutB cutL cutR Lib.cut
  rw [one_list, Lib.index_one, if_pos (by omega), h, Int.toNat_natCast]
  refine ⟨rfl, ?_, ?_⟩
  · rw [ba_eq, ext_list]
    simp
  · rw [ba_eq, ext_list, ByteArray.data_append, Array.toList_append]
    show [c] ++ s.data.toList.drop (k + [c].length) = _
    rw [List.take_of_length_le (by rw [List.length_drop, len_size]; exact Nat.le_refl _), List.drop_eq_getElem_cons hk]
    rw [List.getElem?_eq_getElem hk] at h1
    rw [Option.some.inj h1]
    rfl
def mailF (s : ByteArray) : ByteArray := if cutB s ⟨#[64]⟩ = true then cutL (cutL s ⟨#[64]⟩) ⟨#[43]⟩ ++ ⟨#[64]⟩ ++ cutR s ⟨#[64]⟩ else s
theorem app_size (s t : ByteArray) : (s ++ t).size = s.size + t.size := ByteArray.size_append
theorem mailF_size (s : ByteArray) : (mailF s).size ≤ 2 * s.size + 1 := by
  unfold mailF
  split
  · rw [app_size, app_size]
    have h1 := cutL_size (cutL s ⟨#[64]⟩) ⟨#[43]⟩
    have h2 := cutL_size s ⟨#[64]⟩
    have h3 := cutR_size s ⟨#[64]⟩
    have h4 : (⟨#[64]⟩ : ByteArray).size = 1 := rfl
    omega
  · omega
/-- The reference's way: what stands behind a plus sign falls away. -/
def headR (s : ByteArray) : ByteArray := if 0 ≤ ixB s 43 then s.extract 0 (ixB s 43).toNat else s
theorem headR_cut (s : ByteArray) : headR s = cutL s ⟨#[43]⟩ := by
  unfold headR
  by_cases h : 0 ≤ ixB s 43
  · obtain ⟨k, h1, h2, h3⟩ := ixB_in h
    rw [if_pos h, h1, Int.toNat_natCast]
    exact (cut_yes (c := 43) h3).2.1.symm
  · rw [if_neg h]
    exact (cut_no (c := 43) (by unfold ixB at h; simpa using h)).2.symm
theorem mail_yes {s : ByteArray} (h : 0 ≤ ixB s 64) : headR (s.extract 0 (ixB s 64).toNat) ++ s.extract (ixB s 64).toNat s.size = mailF s := by
  obtain ⟨k, h1, h2, h3⟩ := ixB_in h
  obtain ⟨g1, g2, g3⟩ := cut_yes (c := 64) h3
  unfold mailF
  rw [if_pos g1, h1, Int.toNat_natCast, headR_cut, g2, ByteArray.append_assoc, g3]
theorem idF_nomail {s : ByteArray} (h : cutB s ⟨#[64]⟩ = false) : idF ⟨1, s⟩ = 3 := by
  unfold idF mailB
  rw [if_pos rfl]
  show (if (cutB s ⟨#[64]⟩ && _ && _ && _ && _) = true then (0 : Int) else 3) = 3
  rw [h]
  simp
theorem mail_no {s : ByteArray} (h : ¬ 0 ≤ ixB s 64) : idF ⟨1, mailF s⟩ = 3 ∧ idF ⟨1, headR s ++ ⟨#[]⟩⟩ = 3 := by
  have h1 : Lib.indexByte s.data.toList 64 < 0 := by unfold ixB at h; simpa using h
  obtain ⟨g1, g2⟩ := cut_no (c := 64) h1
  refine ⟨?_, ?_⟩
  · unfold mailF
    rw [g1]
    exact idF_nomail g1
  · have e : headR s ++ (⟨#[]⟩ : ByteArray) = headR s := by rw [ba_eq, ByteArray.data_append, Array.toList_append]; simp
    rw [e]
    refine idF_nomail (cut_no (c := 64) ?_).1
    unfold headR
    split
    · rw [ext_list, List.drop_zero]
      exact ix_no_take _ _ _ h1
    · exact h1

/-! ### Phone numbers -/
theorem pre_ext {s p : ByteArray} (h : preS s p = true) : p.size ≤ s.size ∧ cpreF s p = s.extract p.size s.size := by
  have h' : Lib.hasPrefix s.data.toList p.data.toList = true := h
  have hp := (List.isPrefixOf_iff_prefix.1 (show p.data.toList.isPrefixOf s.data.toList = true from h')).length_le
  rw [len_size, len_size] at hp
  refine ⟨hp, ?_⟩
  rw [ba_eq, ext_list]
  show (if Lib.hasPrefix s.data.toList p.data.toList = true then s.data.toList.drop p.data.toList.length else s.data.toList) = _
  rw [if_pos h', List.take_of_length_le (by rw [List.length_drop, len_size]; exact Nat.le_refl _), len_size]
def phoneF (s c : ByteArray) : ByteArray :=
  if preS s ⟨#[48, 48]⟩ = true then ⟨#[43]⟩ ++ s.extract 2 s.size
  else if preS s ⟨#[48]⟩ = true then ⟨#[43]⟩ ++ c ++ s.extract 1 s.size
  else if preS s ⟨#[43]⟩ = true then s
  else ⟨#[43]⟩ ++ c ++ s
theorem phoneF_size (s c : ByteArray) : (phoneF s c).size ≤ s.size + c.size + 1 := by
  unfold phoneF
  have h4 : (⟨#[43]⟩ : ByteArray).size = 1 := rfl
  repeat' split
  all_goals try simp only [app_size, ByteArray.size_extract, h4]
  all_goals omega

/-! ### All kinds -/
def normT (k : Int) (t c : ByteArray) : ByteArray :=
  if k = 1 then mailF (lowS (trimF t ⟨#[32]⟩))
  else if k = 2 then phoneF (woS (trimF t ⟨#[32]⟩) ⟨#[32, 45, 46, 47, 40, 41]⟩) c
  else if k = 3 then woS (upS (trimF t ⟨#[32]⟩)) ⟨#[32, 45]⟩
  else woS (lowS (trimF t ⟨#[32]⟩)) ⟨#[45]⟩
def normE (k : Int) (t c : ByteArray) : Int :=
  if ¬ (1 ≤ k ∧ k ≤ 4) then 4 else if 200 < t.size then 1 else if inB c.size 1 3 = false ∨ (bl c).all digitC = false ∨ bt c 0 = 48 then 3 else idF ⟨k, normT k t c⟩
def normX (k : Int) (t c : ByteArray) : TId := if normE k t c = 0 then ⟨k, normT k t c⟩ else TId.z
end Go.Avc

/- Normal and the reference's NormalOf: their contracts. No condition. -/
set_option linter.unusedVariables false
set_option linter.unusedSimpArgs false
set_option maxRecDepth 100000
namespace Go.Avc
open Go Go.Proofs

def lowSp  : Spec where
  pre xs := ∃ (s : ByteArray), xs = [.str s] ∧ (s.size ≤ 4000000000)
  post xs y := ∃ (s : ByteArray), xs = [.str s] ∧ y = .str (lowS s)
  cost _ := 0
  fresh := true
theorem lowSp_c  (xs : List AV) : (lowSp).cost xs = 0 := nr rfl
theorem lowSp_f  : (lowSp).fresh = true := nr rfl
theorem lowSp_q  (s : ByteArray) : (lowSp).pre [.str s] = (s.size ≤ 4000000000) := propext ⟨fun h => by
  have h' : ∃ (s' : ByteArray), ([.str s] : List AV) = [.str s'] ∧ (s'.size ≤ 4000000000) := h
  obtain ⟨s', e, h⟩ := h'
  simp only [List.cons.injEq, AV.dv.injEq, AV.dp.injEq, AV.fv.injEq, DV.d.injEq, DV.ag.injEq, D.int.injEq, D.str.injEq, D.bool.injEq, D.sl.injEq, true_and, and_true, intsDi_inj, rowsT_inj, rowsKi_inj] at e
  obtain rfl := e
  exact h, fun h => ⟨s, rfl, h⟩⟩
theorem lowSp_p  (s : ByteArray) : (lowSp).post [.str s] = fun y => y = .str (lowS s) := funext fun y => propext ⟨fun h => by
  have h' : ∃ (s' : ByteArray), ([.str s] : List AV) = [.str s'] ∧ y = .str (lowS s') := h
  obtain ⟨s', e, h⟩ := h'
  simp only [List.cons.injEq, AV.dv.injEq, AV.dp.injEq, AV.fv.injEq, DV.d.injEq, DV.ag.injEq, D.int.injEq, D.str.injEq, D.bool.injEq, D.sl.injEq, true_and, and_true, intsDi_inj, rowsT_inj, rowsKi_inj] at e
  obtain rfl := e
  exact h, fun h => ⟨s, rfl, h⟩⟩
theorem lower_ctr {cx : Cx} (h : Seat cx) : Ctr cx 18 lowSp := by
  refine ctr_flat (by rw [h.hP]; exact ⟨_, Tryd.func18, by kernel_rfl, by kernel_rfl⟩) (fun _ => rfl) ?_
  rintro xs ⟨s, rfl, h1⟩
  refine ⟨_, _, _, rfl, ⟨s, rfl, rfl⟩, rfl, fun w hw => ?_⟩
  rw [h.hP]
  exact Nrm.lower_walk s w h1
def upSp  : Spec where
  pre xs := ∃ (s : ByteArray), xs = [.str s] ∧ (s.size ≤ 4000000000)
  post xs y := ∃ (s : ByteArray), xs = [.str s] ∧ y = .str (upS s)
  cost _ := 0
  fresh := true
theorem upSp_c  (xs : List AV) : (upSp).cost xs = 0 := nr rfl
theorem upSp_f  : (upSp).fresh = true := nr rfl
theorem upSp_q  (s : ByteArray) : (upSp).pre [.str s] = (s.size ≤ 4000000000) := propext ⟨fun h => by
  have h' : ∃ (s' : ByteArray), ([.str s] : List AV) = [.str s'] ∧ (s'.size ≤ 4000000000) := h
  obtain ⟨s', e, h⟩ := h'
  simp only [List.cons.injEq, AV.dv.injEq, AV.dp.injEq, AV.fv.injEq, DV.d.injEq, DV.ag.injEq, D.int.injEq, D.str.injEq, D.bool.injEq, D.sl.injEq, true_and, and_true, intsDi_inj, rowsT_inj, rowsKi_inj] at e
  obtain rfl := e
  exact h, fun h => ⟨s, rfl, h⟩⟩
theorem upSp_p  (s : ByteArray) : (upSp).post [.str s] = fun y => y = .str (upS s) := funext fun y => propext ⟨fun h => by
  have h' : ∃ (s' : ByteArray), ([.str s] : List AV) = [.str s'] ∧ y = .str (upS s') := h
  obtain ⟨s', e, h⟩ := h'
  simp only [List.cons.injEq, AV.dv.injEq, AV.dp.injEq, AV.fv.injEq, DV.d.injEq, DV.ag.injEq, D.int.injEq, D.str.injEq, D.bool.injEq, D.sl.injEq, true_and, and_true, intsDi_inj, rowsT_inj, rowsKi_inj] at e
  obtain rfl := e
  exact h, fun h => ⟨s, rfl, h⟩⟩
theorem upper_ctr {cx : Cx} (h : Seat cx) : Ctr cx 21 upSp := by
  refine ctr_flat (by rw [h.hP]; exact ⟨_, Tryd.func21, by kernel_rfl, by kernel_rfl⟩) (fun _ => rfl) ?_
  rintro xs ⟨s, rfl, h1⟩
  refine ⟨_, _, _, rfl, ⟨s, rfl, rfl⟩, rfl, fun w hw => ?_⟩
  rw [h.hP]
  exact Nrm.upper_walk s w h1
def woSp  : Spec where
  pre xs := ∃ (s : ByteArray) (b : ByteArray), xs = [.str s, .str b] ∧ (s.size ≤ 4000000000 ∧ setOk b)
  post xs y := ∃ (s : ByteArray) (b : ByteArray), xs = [.str s, .str b] ∧ y = .str (woS s b)
  cost _ := 0
  fresh := true
theorem woSp_c  (xs : List AV) : (woSp).cost xs = 0 := nr rfl
theorem woSp_f  : (woSp).fresh = true := nr rfl
theorem woSp_q  (s : ByteArray) (b : ByteArray) : (woSp).pre [.str s, .str b] = (s.size ≤ 4000000000 ∧ setOk b) := propext ⟨fun h => by
  have h' : ∃ (s' : ByteArray) (b' : ByteArray), ([.str s, .str b] : List AV) = [.str s', .str b'] ∧ (s'.size ≤ 4000000000 ∧ setOk b') := h
  obtain ⟨s', b', e, h⟩ := h'
  simp only [List.cons.injEq, AV.dv.injEq, AV.dp.injEq, AV.fv.injEq, DV.d.injEq, DV.ag.injEq, D.int.injEq, D.str.injEq, D.bool.injEq, D.sl.injEq, true_and, and_true, intsDi_inj, rowsT_inj, rowsKi_inj] at e
  obtain ⟨rfl, rfl⟩ := e
  exact h, fun h => ⟨s, b, rfl, h⟩⟩
theorem woSp_p  (s : ByteArray) (b : ByteArray) : (woSp).post [.str s, .str b] = fun y => y = .str (woS s b) := funext fun y => propext ⟨fun h => by
  have h' : ∃ (s' : ByteArray) (b' : ByteArray), ([.str s, .str b] : List AV) = [.str s', .str b'] ∧ y = .str (woS s' b') := h
  obtain ⟨s', b', e, h⟩ := h'
  simp only [List.cons.injEq, AV.dv.injEq, AV.dp.injEq, AV.fv.injEq, DV.d.injEq, DV.ag.injEq, D.int.injEq, D.str.injEq, D.bool.injEq, D.sl.injEq, true_and, and_true, intsDi_inj, rowsT_inj, rowsKi_inj] at e
  obtain ⟨rfl, rfl⟩ := e
  exact h, fun h => ⟨s, b, rfl, h⟩⟩
theorem rwithout_ctr {cx : Cx} (h : Seat cx) : Ctr cx 27 woSp := by
  refine ctr_flat (by rw [h.hP]; exact ⟨_, Tryd.func27, by kernel_rfl, by kernel_rfl⟩) (fun _ => rfl) ?_
  rintro xs ⟨s, b, rfl, h1, h2⟩
  refine ⟨_, _, _, rfl, ⟨s, b, rfl, rfl⟩, rfl, fun w hw => ?_⟩
  rw [h.hP]
  exact Nrm.wo_walk b s w h1
def mapSp  : Spec where
  pre xs := ∃ (f : ByteArray) (t : ByteArray) (s : ByteArray), xs = [.str f, .str t, .dp [.str s]] ∧ (s.size ≤ 4000000000 ∧ f.size ≤ t.size)
  post xs y := ∃ (f : ByteArray) (t : ByteArray) (s : ByteArray), xs = [.str f, .str t, .dp [.str s]] ∧ y = .str (Nrm.mapS (Nrm.trU f t) s)
  cost _ := 0
  fresh := true
theorem mapSp_c  (xs : List AV) : (mapSp).cost xs = 0 := nr rfl
theorem mapSp_f  : (mapSp).fresh = true := nr rfl
theorem mapSp_q  (f : ByteArray) (t : ByteArray) (s : ByteArray) : (mapSp).pre [.str f, .str t, .dp [.str s]] = (s.size ≤ 4000000000 ∧ f.size ≤ t.size) := propext ⟨fun h => by
  have h' : ∃ (f' : ByteArray) (t' : ByteArray) (s' : ByteArray), ([.str f, .str t, .dp [.str s]] : List AV) = [.str f', .str t', .dp [.str s']] ∧ (s'.size ≤ 4000000000 ∧ f'.size ≤ t'.size) := h
  obtain ⟨f', t', s', e, h⟩ := h'
  simp only [List.cons.injEq, AV.dv.injEq, AV.dp.injEq, AV.fv.injEq, DV.d.injEq, DV.ag.injEq, D.int.injEq, D.str.injEq, D.bool.injEq, D.sl.injEq, true_and, and_true, intsDi_inj, rowsT_inj, rowsKi_inj] at e
  obtain ⟨rfl, rfl, rfl⟩ := e
  exact h, fun h => ⟨f, t, s, rfl, h⟩⟩
theorem mapSp_p  (f : ByteArray) (t : ByteArray) (s : ByteArray) : (mapSp).post [.str f, .str t, .dp [.str s]] = fun y => y = .str (Nrm.mapS (Nrm.trU f t) s) := funext fun y => propext ⟨fun h => by
  have h' : ∃ (f' : ByteArray) (t' : ByteArray) (s' : ByteArray), ([.str f, .str t, .dp [.str s]] : List AV) = [.str f', .str t', .dp [.str s']] ∧ y = .str (Nrm.mapS (Nrm.trU f' t') s') := h
  obtain ⟨f', t', s', e, h⟩ := h'
  simp only [List.cons.injEq, AV.dv.injEq, AV.dp.injEq, AV.fv.injEq, DV.d.injEq, DV.ag.injEq, D.int.injEq, D.str.injEq, D.bool.injEq, D.sl.injEq, true_and, and_true, intsDi_inj, rowsT_inj, rowsKi_inj] at e
  obtain ⟨rfl, rfl, rfl⟩ := e
  exact h, fun h => ⟨f, t, s, rfl, h⟩⟩
theorem map_ctr {cx : Cx} (h : Seat cx) : Ctr cx 25 mapSp := by
  refine ⟨by rw [h.hP]; exact ⟨_, Tryd.func25, by kernel_rfl, by kernel_rfl⟩, fun xs ⟨f, t, s, e, _⟩ => ⟨_, f, t, s, e, rfl⟩, ?_⟩
  rintro F xs us hcx hF hst hgl hco hlen hargs ⟨f, t, s, rfl, h1, h2⟩
  obtain ⟨u0, u1, u2, rfl⟩ : ∃ u0 u1 u2, us = [u0, u1, u2] := by
    match us, hlen with
    | [u0, u1, u2], _ => exact ⟨u0, u1, u2, rfl⟩
  have a0 := hargs 0 _ u0 rfl rfl
  have a1 := hargs 1 _ u1 rfl rfl
  obtain ⟨b, o, cs, rfl, hb, hlt, hc, hR⟩ := hargs 2 _ u2 rfl rfl
  cases (show Rd _ _ (.str f) u0 from a0)
  cases (show Rd _ _ (.str t) u1 from a1)
  obtain ⟨v, hv, hs⟩ := hR.get (j := 0) (x := .str s) rfl
  cases (show Rd _ _ (.str s) v from hs)
  rw [h.hP]
  refine (Nrm.map_walk f t s b o F.w0 hlt (hc 0 _ hv) h1 h2).mono ?_
  rintro e w' ⟨rfl, hbl⟩
  subst hcx
  have hg : Gr F.cx.g F.w0 w' := ⟨hbl.os, hbl.tape, hbl.output, hbl.size, fun k hk _ => hbl.block k hk⟩
  exact ⟨_, _, rfl, hg, hst.keep hbl.size (fun k hk => hbl.block k hk), ⟨f, t, s, rfl, rfl⟩, rfl, Rd.str _⟩
theorem pwithout_ctr {cx : Cx} (h : Seat cx) : Ctr cx 20 woSp := by
  refine ctr_of (fn := Tryd.f20) (l := [.tmp 4]) (envL [(26, ixSp)]) [0, 1, 4, 5, 6, 8, 9, 10, 17] [] [] (envL_cons (indexByte_ctr h) (env0 h.hP)) ?_ (by rw [h.hP]; exact Tryd.func20) rfl (by kernel_rfl) rfl ?_ ?_
  · rw [h.hP]; exact ⟨_, Tryd.func20, by kernel_rfl, by kernel_rfl⟩
  · rintro xs ⟨s, b, rfl, h1, h2⟩; exact ⟨_, s, b, rfl, rfl⟩
  · rintro xs ⟨s, b, rfl, h1, h2⟩
    refine ⟨by rw [Tryd.ntmps20]; simp, ?_⟩
    simp only [go_sem, h.hP, List.cons_append, List.nil_append, Meets_e, Below_e, Prod.exists, exists_eq, exists_eq_left, exists_eq_left', exists_eq_right, exists_eq_right', exists_and_left, exists_and_right, Ob.arr.injEq, AV.own.injEq, AV.fv.injEq, woSp_q, woSp_p, woSp_c, woSp_f, ixSp_q, ixSp_p, ixSp_c, ixSp_f, Tryd.ntmps20, Nat.reduceEqDiff, reduceCtorEq, Nat.reduceMul, Nat.reduceAdd, Nat.reduceSub, Nat.reduceDiv, Nat.reduceMod, Nat.reduceLeDiff, Nat.reduceLT, Nat.reduceBNe, Nat.reduceBEq, reduceIte, Int.reduceLE, Int.reduceLT, Int.reduceToNat, Int.reduceNeg, Int.reduceAdd, Int.reduceSub, Int.reduceMul, Int.reduceEq]
    refine vc_loopS (Int) (fun (i : Int) => [(9, .i i), (5, .own 5)]) [] (fun (i : Int) => []) (fun (i : Int) => [(5, .arr 5 1 (rowsB (woL s b i.toNat)))]) (fun (i : Int) => 0) (fun (i : Int) => 0 ≤ i ∧ i ≤ s.size) (fun (i : Int) => (s.size - i).toNat) [(5, 5, 1)] ?_ ?_
    · simp only [go_sem, h.hP, List.cons_append, List.nil_append, Meets_e, Below_e, Prod.exists, exists_eq, exists_eq_left, exists_eq_left', exists_eq_right, exists_eq_right', exists_and_left, exists_and_right, Ob.arr.injEq, AV.own.injEq, AV.fv.injEq, Tryd.ntmps20, Nat.reduceEqDiff, reduceCtorEq, Nat.reduceMul, Nat.reduceAdd, Nat.reduceSub, Nat.reduceDiv, Nat.reduceMod, Nat.reduceLeDiff, Nat.reduceLT, Nat.reduceBNe, Nat.reduceBEq, reduceIte, Int.reduceLE, Int.reduceLT, Int.reduceToNat, Int.reduceNeg, Int.reduceAdd, Int.reduceSub, Int.reduceMul, Int.reduceEq]
      exact ⟨rfl, by omega⟩
    · rintro i ⟨j1, j2⟩
      simp only [go_sem, h.hP, List.cons_append, List.nil_append, Meets_e, Below_e, Prod.exists, exists_eq, exists_eq_left, exists_eq_left', exists_eq_right, exists_eq_right', exists_and_left, exists_and_right, Ob.arr.injEq, AV.own.injEq, AV.fv.injEq, woSp_q, woSp_p, woSp_c, woSp_f, ixSp_q, ixSp_p, ixSp_c, ixSp_f, Tryd.ntmps20, Nat.reduceEqDiff, reduceCtorEq, Nat.reduceMul, Nat.reduceAdd, Nat.reduceSub, Nat.reduceDiv, Nat.reduceMod, Nat.reduceLeDiff, Nat.reduceLT, Nat.reduceBNe, Nat.reduceBEq, reduceIte, Int.reduceLE, Int.reduceLT, Int.reduceToNat, Int.reduceNeg, Int.reduceAdd, Int.reduceSub, Int.reduceMul, Int.reduceEq]
      have hl := woL_len s b i.toNat
      have hw : IntKind.i64.wrap (i + 1) = i + 1 := i64w (by omega) (by omega)
      rw [hw, rowsB_len]
      refine ⟨fun c1 => ?_, fun c1 => ⟨fun x hx => rowsB_u8 _ _ hx, by rw [numsOf_rowsB]; exact woL_all s b h2 (by omega)⟩⟩
      have hs := woL_step s b (i := i.toNat) (by omega)
      rw [Int.toNat_of_nonneg j1, show i.toNat + 1 = (i + 1).toNat by omega] at hs
      refine ⟨j1, c1, fun c2 => ⟨j1, c1, by omega, by omega, ?_, by omega, by omega, by omega⟩, fun c2 => ⟨?_, by omega, by omega, by omega⟩⟩
      · rw [hs, if_pos c2]
        unfold rowsB
        rw [List.map_append]
        rfl
      · rw [hs, if_neg c2, List.append_nil]
def mailSp  : Spec where
  pre xs := ∃ (s : ByteArray), xs = [.str s] ∧ (s.size ≤ 1000000)
  post xs y := ∃ (s : ByteArray), xs = [.str s] ∧ y = .str (mailF s)
  cost _ := 0
  fresh := true
theorem mailSp_c  (xs : List AV) : (mailSp).cost xs = 0 := nr rfl
theorem mailSp_f  : (mailSp).fresh = true := nr rfl
theorem mailSp_q  (s : ByteArray) : (mailSp).pre [.str s] = (s.size ≤ 1000000) := propext ⟨fun h => by
  have h' : ∃ (s' : ByteArray), ([.str s] : List AV) = [.str s'] ∧ (s'.size ≤ 1000000) := h
  obtain ⟨s', e, h⟩ := h'
  simp only [List.cons.injEq, AV.dv.injEq, AV.dp.injEq, AV.fv.injEq, DV.d.injEq, DV.ag.injEq, D.int.injEq, D.str.injEq, D.bool.injEq, D.sl.injEq, true_and, and_true, intsDi_inj, rowsT_inj, rowsKi_inj] at e
  obtain rfl := e
  exact h, fun h => ⟨s, rfl, h⟩⟩
theorem mailSp_p  (s : ByteArray) : (mailSp).post [.str s] = fun y => y = .str (mailF s) := funext fun y => propext ⟨fun h => by
  have h' : ∃ (s' : ByteArray), ([.str s] : List AV) = [.str s'] ∧ y = .str (mailF s') := h
  obtain ⟨s', e, h⟩ := h'
  simp only [List.cons.injEq, AV.dv.injEq, AV.dp.injEq, AV.fv.injEq, DV.d.injEq, DV.ag.injEq, D.int.injEq, D.str.injEq, D.bool.injEq, D.sl.injEq, true_and, and_true, intsDi_inj, rowsT_inj, rowsKi_inj] at e
  obtain rfl := e
  exact h, fun h => ⟨s, rfl, h⟩⟩
theorem mail_ctr {cx : Cx} (h : Seat cx) (hM : MaxL cx) : Ctr cx 17 mailSp := by
  refine ctr_of (fn := Tryd.f17) (l := [.tmp 2]) (envL [(46, cutSp)]) [0, 2, 3, 4, 5, 13] [] [] (envL_cons (cut_ctr h hM) (env0 h.hP)) ?_ (by rw [h.hP]; exact Tryd.func17) rfl (by kernel_rfl) rfl ?_ ?_
  · rw [h.hP]; exact ⟨_, Tryd.func17, by kernel_rfl, by kernel_rfl⟩
  · rintro xs ⟨s, rfl, h1⟩; exact ⟨_, s, rfl, rfl⟩
  · rintro xs ⟨s, rfl, h1⟩
    refine ⟨by rw [Tryd.ntmps17]; simp, ?_⟩
    simp only [go_sem, h.hP, List.cons_append, List.nil_append, Meets_e, Below_e, Prod.exists, exists_eq, exists_eq_left, exists_eq_left', exists_eq_right, exists_eq_right', exists_and_left, exists_and_right, Ob.arr.injEq, AV.own.injEq, AV.fv.injEq, mailSp_q, mailSp_p, mailSp_c, mailSp_f, cutSp_q, cutSp_p, cutSp_c, cutSp_f, Tryd.ntmps17, Nat.reduceEqDiff, reduceCtorEq, Nat.reduceMul, Nat.reduceAdd, Nat.reduceSub, Nat.reduceDiv, Nat.reduceMod, Nat.reduceLeDiff, Nat.reduceLT, Nat.reduceBNe, Nat.reduceBEq, reduceIte, Int.reduceLE, Int.reduceLT, Int.reduceToNat, Int.reduceNeg, Int.reduceAdd, Int.reduceSub, Int.reduceMul, Int.reduceEq]
    have h2 := cutL_size s ⟨#[64]⟩
    have h3 := cutL_size (cutL s ⟨#[64]⟩) ⟨#[43]⟩
    have h4 := cutR_size s ⟨#[64]⟩
    refine ⟨by omega, fun c => ?_, fun c => ⟨by omega, by omega, by omega, ?_⟩⟩
    · unfold mailF; rw [c]; rfl
    · unfold mailF; rw [if_pos c]
def phoneSp  : Spec where
  pre xs := ∃ (s : ByteArray) (c : ByteArray), xs = [.str s, .str c] ∧ (s.size ≤ 1000000 ∧ c.size ≤ 1000000)
  post xs y := ∃ (s : ByteArray) (c : ByteArray), xs = [.str s, .str c] ∧ y = .str (phoneF (woS s ⟨#[32, 45, 46, 47, 40, 41]⟩) c)
  cost _ := 0
  fresh := true
theorem phoneSp_c  (xs : List AV) : (phoneSp).cost xs = 0 := nr rfl
theorem phoneSp_f  : (phoneSp).fresh = true := nr rfl
theorem phoneSp_q  (s : ByteArray) (c : ByteArray) : (phoneSp).pre [.str s, .str c] = (s.size ≤ 1000000 ∧ c.size ≤ 1000000) := propext ⟨fun h => by
  have h' : ∃ (s' : ByteArray) (c' : ByteArray), ([.str s, .str c] : List AV) = [.str s', .str c'] ∧ (s'.size ≤ 1000000 ∧ c'.size ≤ 1000000) := h
  obtain ⟨s', c', e, h⟩ := h'
  simp only [List.cons.injEq, AV.dv.injEq, AV.dp.injEq, AV.fv.injEq, DV.d.injEq, DV.ag.injEq, D.int.injEq, D.str.injEq, D.bool.injEq, D.sl.injEq, true_and, and_true, intsDi_inj, rowsT_inj, rowsKi_inj] at e
  obtain ⟨rfl, rfl⟩ := e
  exact h, fun h => ⟨s, c, rfl, h⟩⟩
theorem phoneSp_p  (s : ByteArray) (c : ByteArray) : (phoneSp).post [.str s, .str c] = fun y => y = .str (phoneF (woS s ⟨#[32, 45, 46, 47, 40, 41]⟩) c) := funext fun y => propext ⟨fun h => by
  have h' : ∃ (s' : ByteArray) (c' : ByteArray), ([.str s, .str c] : List AV) = [.str s', .str c'] ∧ y = .str (phoneF (woS s' ⟨#[32, 45, 46, 47, 40, 41]⟩) c') := h
  obtain ⟨s', c', e, h⟩ := h'
  simp only [List.cons.injEq, AV.dv.injEq, AV.dp.injEq, AV.fv.injEq, DV.d.injEq, DV.ag.injEq, D.int.injEq, D.str.injEq, D.bool.injEq, D.sl.injEq, true_and, and_true, intsDi_inj, rowsT_inj, rowsKi_inj] at e
  obtain ⟨rfl, rfl⟩ := e
  exact h, fun h => ⟨s, c, rfl, h⟩⟩
theorem phone_ctr {cx : Cx} (h : Seat cx) : Ctr cx 19 phoneSp := by
  refine ctr_of (fn := Tryd.f19) (l := [.tmp 4]) (envL [(20, woSp), (29, preSp)]) [0, 1, 4, 7, 13, 21] [] [] (envL_cons (pwithout_ctr h) (envL_cons (hasPrefix_ctr h) (env0 h.hP))) ?_ (by rw [h.hP]; exact Tryd.func19) rfl (by kernel_rfl) rfl ?_ ?_
  · rw [h.hP]; exact ⟨_, Tryd.func19, by kernel_rfl, by kernel_rfl⟩
  · rintro xs ⟨s, c, rfl, h1, h2⟩; exact ⟨_, s, c, rfl, rfl⟩
  · rintro xs ⟨s, c, rfl, h1, h2⟩
    refine ⟨by rw [Tryd.ntmps19]; simp, ?_⟩
    simp only [go_sem, h.hP, List.cons_append, List.nil_append, Meets_e, Below_e, Prod.exists, exists_eq, exists_eq_left, exists_eq_left', exists_eq_right, exists_eq_right', exists_and_left, exists_and_right, Ob.arr.injEq, AV.own.injEq, AV.fv.injEq, phoneSp_q, phoneSp_p, phoneSp_c, phoneSp_f, woSp_q, woSp_p, woSp_c, woSp_f, preSp_q, preSp_p, preSp_c, preSp_f, Tryd.ntmps19, Nat.reduceEqDiff, reduceCtorEq, Nat.reduceMul, Nat.reduceAdd, Nat.reduceSub, Nat.reduceDiv, Nat.reduceMod, Nat.reduceLeDiff, Nat.reduceLT, Nat.reduceBNe, Nat.reduceBEq, reduceIte, Int.reduceLE, Int.reduceLT, Int.reduceToNat, Int.reduceNeg, Int.reduceAdd, Int.reduceSub, Int.reduceMul, Int.reduceEq]
    have hw := woS_size s ⟨#[32, 45, 46, 47, 40, 41]⟩
    have e0 : (⟨#[48, 48]⟩ : ByteArray).size = 2 := rfl
    have e1 : (⟨#[48]⟩ : ByteArray).size = 1 := rfl
    generalize woS s ⟨#[32, 45, 46, 47, 40, 41]⟩ = t at *
    simp only [ByteArray.size_extract]
    refine ⟨by omega, set1, fun c1 => ?_, fun c1 => ⟨fun c2 => ?_, fun c2 => ⟨fun c3 => ⟨by omega, by omega, ?_⟩, fun c3 => ?_⟩⟩⟩
    · have := (pre_ext c1).1
      exact ⟨by omega, by omega, by omega, by unfold phoneF; rw [if_pos c1]⟩
    · have := (pre_ext c2).1
      exact ⟨by omega, by omega, by omega, by omega, by unfold phoneF; rw [c1, if_neg Bool.false_ne_true, if_pos c2]⟩
    · unfold phoneF; rw [c1, if_neg Bool.false_ne_true, c2, if_neg Bool.false_ne_true, c3, if_neg Bool.false_ne_true]
    · unfold phoneF; rw [c1, if_neg Bool.false_ne_true, c2, if_neg Bool.false_ne_true, if_pos c3]

def normS  : Spec where
  pre xs := ∃ (k : Int) (t : ByteArray) (c : ByteArray), xs = [.i k, .str t, .str c] ∧ (t.size ≤ 1000000 ∧ c.size ≤ 1000000 ∧ okI k)
  post xs y := ∃ (k : Int) (t : ByteArray) (c : ByteArray), xs = [.i k, .str t, .str c] ∧ y = .tcons (.dv (.ag (normX k t c).row)) (.tcons (.i (normE k t c)) .tnil)
  cost _ := 0
  fresh := true
theorem normS_c  (xs : List AV) : (normS).cost xs = 0 := nr rfl
theorem normS_f  : (normS).fresh = true := nr rfl
theorem normS_q  (k : Int) (t : ByteArray) (c : ByteArray) : (normS).pre [.i k, .str t, .str c] = (t.size ≤ 1000000 ∧ c.size ≤ 1000000 ∧ okI k) := propext ⟨fun h => by
  have h' : ∃ (k' : Int) (t' : ByteArray) (c' : ByteArray), ([.i k, .str t, .str c] : List AV) = [.i k', .str t', .str c'] ∧ (t'.size ≤ 1000000 ∧ c'.size ≤ 1000000 ∧ okI k') := h
  obtain ⟨k', t', c', e, h⟩ := h'
  simp only [List.cons.injEq, AV.dv.injEq, AV.dp.injEq, AV.fv.injEq, DV.d.injEq, DV.ag.injEq, D.int.injEq, D.str.injEq, D.bool.injEq, D.sl.injEq, true_and, and_true, intsDi_inj, rowsT_inj, rowsKi_inj] at e
  obtain ⟨rfl, rfl, rfl⟩ := e
  exact h, fun h => ⟨k, t, c, rfl, h⟩⟩
theorem normS_p  (k : Int) (t : ByteArray) (c : ByteArray) : (normS).post [.i k, .str t, .str c] = fun y => y = .tcons (.dv (.ag (normX k t c).row)) (.tcons (.i (normE k t c)) .tnil) := funext fun y => propext ⟨fun h => by
  have h' : ∃ (k' : Int) (t' : ByteArray) (c' : ByteArray), ([.i k, .str t, .str c] : List AV) = [.i k', .str t', .str c'] ∧ y = .tcons (.dv (.ag (normX k' t' c').row)) (.tcons (.i (normE k' t' c')) .tnil) := h
  obtain ⟨k', t', c', e, h⟩ := h'
  simp only [List.cons.injEq, AV.dv.injEq, AV.dp.injEq, AV.fv.injEq, DV.d.injEq, DV.ag.injEq, D.int.injEq, D.str.injEq, D.bool.injEq, D.sl.injEq, true_and, and_true, intsDi_inj, rowsT_inj, rowsKi_inj] at e
  obtain ⟨rfl, rfl, rfl⟩ := e
  exact h, fun h => ⟨k, t, c, rfl, h⟩⟩
theorem idS_q2 (k : Int) (s : ByteArray) : idS.pre [.dv (.ag [.int .i64 k, .str s])] = (okI k ∧ okS s) := idS_q ⟨k, s⟩
theorem idS_p2 (k : Int) (s : ByteArray) : idS.post [.dv (.ag [.int .i64 k, .str s])] = fun y => y = .i (idF ⟨k, s⟩) := idS_p ⟨k, s⟩
theorem res_bad {k : Int} {t c : ByteArray} {e : Int} (h : normE k t c = e) (he : e ≠ 0) : [D.int .i64 0, D.str ⟨#[]⟩] = (normX k t c).row ∧ e = normE k t c := by
  refine ⟨?_, h.symm⟩
  unfold normX
  rw [if_neg (by rw [h]; exact he)]
  rfl
theorem res_idF {k : Int} {t c T : ByteArray} (hE : normE k t c = idF ⟨k, normT k t c⟩) (hT : T = normT k t c ∨ (idF ⟨k, T⟩ = 3 ∧ idF ⟨k, normT k t c⟩ = 3)) :
    (¬ idF ⟨k, T⟩ = 0 → [D.int .i64 0, D.str ⟨#[]⟩] = (normX k t c).row ∧ idF ⟨k, T⟩ = normE k t c) ∧ (idF ⟨k, T⟩ = 0 → [D.int .i64 k, D.str T] = (normX k t c).row ∧ 0 = normE k t c) := by
  rcases hT with rfl | ⟨h1, h2⟩
  · rw [← hE]
    refine ⟨fun h => res_bad rfl h, fun h => ⟨?_, h.symm⟩⟩
    unfold normX
    rw [if_pos h]
    rfl
  · rw [h1]
    refine ⟨fun h => res_bad (by rw [hE, h2]) (by decide), fun h => absurd h (by decide)⟩
theorem nE1 {k : Int} {t c : ByteArray} (h : inB k 1 4 = false) : normE k t c = 4 := by
  unfold normE
  rw [if_pos]
  intro e
  rw [inB_iff.2 e] at h
  cases h
theorem nE2 {k : Int} {t c : ByteArray} (h : inB k 1 4 = true) (h2 : 200 < (t.size : Int)) : normE k t c = 1 := by
  unfold normE
  rw [if_neg (fun e => e (inB_iff.1 h)), if_pos (by omega)]
theorem nE3 {k : Int} {t c : ByteArray} (h : inB k 1 4 = true) (h2 : ¬ 200 < (t.size : Int)) (h3 : inB c.size 1 3 = false ∨ (bl c).all digitC = false ∨ bt c 0 = 48) : normE k t c = 3 := by
  unfold normE
  rw [if_neg (fun e => e (inB_iff.1 h)), if_neg (by omega), if_pos h3]
theorem nE4 {k : Int} {t c : ByteArray} (h : inB k 1 4 = true) (h2 : ¬ 200 < (t.size : Int)) (h3 : inB c.size 1 3 = true) (h4 : (bl c).all digitC = true) (h5 : ¬ bt c 0 = 48) : normE k t c = idF ⟨k, normT k t c⟩ := by
  unfold normE
  rw [if_neg (fun e => e (inB_iff.1 h)), if_neg (by omega), if_neg (by rw [h3, h4]; simpa using h5)]
set_option maxHeartbeats 8000000 in
theorem Normal_ctr {cx : Cx} (h : Seat cx) (hM : MaxL cx) : Ctr cx 5 normS := by
  refine ctr_of (fn := Tryd.f5) (l := [.cell 6 29, .tmp 7]) (envF [(13, inS), (14, allS), (16, trimSp), (18, lowSp), (21, upSp), (17, mailSp), (19, phoneSp), (20, woSp), (22, idS)] [(15, (byteΦ digitC))]) [0, 1, 2, 6, 7, 8, 9, 10, 11, 16, 21, 39, 43, 48, 53, 64] [] [] (envF_cons (byteΦ_of (digit_ctr h)) (envF_nil (envL_cons (pwithin_ctr h) (envL_cons (all_ctr h) (envL_cons (trim_ctr h) (envL_cons (lower_ctr h) (envL_cons (upper_ctr h) (envL_cons (mail_ctr h hM) (envL_cons (phone_ctr h) (envL_cons (pwithout_ctr h) (envL_cons (CheckId_ctr h hM) (env0 h.hP)))))))))))) ?_ (by rw [h.hP]; exact Tryd.func5) rfl (by kernel_rfl) rfl ?_ ?_
  · rw [h.hP]; exact ⟨_, Tryd.func5, by kernel_rfl, by kernel_rfl⟩
  · rintro xs ⟨k, t, c, rfl, h1, h2, h3⟩; exact ⟨_, k, t, c, rfl, rfl⟩
  · rintro xs ⟨k, t, c, rfl, h1, h2, h3⟩
    refine ⟨by rw [Tryd.ntmps5]; simp, ?_⟩
    simp only [go_sem, h.hP, List.cons_append, List.nil_append, Meets_e, Below_e, Prod.exists, exists_eq, exists_eq_left, exists_eq_left', exists_eq_right, exists_eq_right', exists_and_left, exists_and_right, Ob.arr.injEq, AV.own.injEq, AV.fv.injEq, allS, byteΦ_h, byteΦ_d, normS_q, normS_p, normS_c, normS_f, inS_q, inS_p, inS_c, inS_f, trimSp_q, trimSp_p, trimSp_c, trimSp_f, lowSp_q, lowSp_p, lowSp_c, lowSp_f, upSp_q, upSp_p, upSp_c, upSp_f, mailSp_q, mailSp_p, mailSp_c, mailSp_f, phoneSp_q, phoneSp_p, phoneSp_c, phoneSp_f, woSp_q, woSp_p, woSp_c, woSp_f, idS_q, idS_p, idS_c, idS_f, idS_q2, idS_p2, Tryd.ntmps5, Nat.reduceEqDiff, reduceCtorEq, Nat.reduceMul, Nat.reduceAdd, Nat.reduceSub, Nat.reduceDiv, Nat.reduceMod, Nat.reduceLeDiff, Nat.reduceLT, Nat.reduceBNe, Nat.reduceBEq, reduceIte, Int.reduceLE, Int.reduceLT, Int.reduceToNat, Int.reduceNeg, Int.reduceAdd, Int.reduceSub, Int.reduceMul, Int.reduceEq]
    have hs := trimF_size t ⟨#[32]⟩
    refine ⟨fun c1 => res_bad (nE1 c1) (by decide), fun c1 => ⟨fun c2 => res_bad (nE2 c1 c2) (by decide), fun c2 => ⟨fun c3 => ⟨by omega, fun c4 => ⟨?_, fun c5 => res_bad (nE3 c1 c2 (.inr (.inr c5))) (by decide), fun c5 => ⟨by omega, rfl, ?_⟩⟩, fun c4 => res_bad (nE3 c1 c2 (.inr (.inl c4))) (by decide)⟩, fun c3 => res_bad (nE3 c1 c2 (.inl c3)) (by decide)⟩⟩⟩
    · have := inB_iff.1 c3
      omega
    · have hE := nE4 c1 c2 c3 c4 c5
      have hc := inB_iff.1 c3
      refine ⟨fun d1 => ?_, fun d1 => ⟨fun d2 => ?_, fun d2 => ⟨fun d3 => ?_, fun d3 => ?_⟩⟩⟩
      · have h4 := lowS_size (trimF t ⟨#[32]⟩)
        have h5 := mailF_size (lowS (trimF t ⟨#[32]⟩))
        exact ⟨by omega, by omega, h3, by unfold okS; omega, res_idF hE (.inl (by unfold normT; rw [if_pos d1]))⟩
      · have h4 := woS_size (trimF t ⟨#[32]⟩) ⟨#[32, 45, 46, 47, 40, 41]⟩
        have h5 := phoneF_size (woS (trimF t ⟨#[32]⟩) ⟨#[32, 45, 46, 47, 40, 41]⟩) c
        exact ⟨by omega, by omega, h3, by unfold okS; omega, res_idF hE (.inl (by unfold normT; rw [if_neg d1, if_pos d2]))⟩
      · have h4 := upS_size (trimF t ⟨#[32]⟩)
        have h5 := woS_size (upS (trimF t ⟨#[32]⟩)) ⟨#[32, 45]⟩
        exact ⟨by omega, by omega, set2, h3, by unfold okS; omega, res_idF hE (.inl (by unfold normT; rw [if_neg d1, if_neg d2, if_pos d3]))⟩
      · have h4 := lowS_size (trimF t ⟨#[32]⟩)
        have h5 := woS_size (lowS (trimF t ⟨#[32]⟩)) ⟨#[45]⟩
        exact ⟨by omega, by omega, set3, h3, by unfold okS; omega, res_idF hE (.inl (by unfold normT; rw [if_neg d1, if_neg d2, if_neg d3]))⟩
end Go.Avc

/- The reference's NormalOf: its contract. No condition. -/
set_option linter.unusedVariables false
set_option linter.unusedSimpArgs false
set_option maxRecDepth 100000
namespace Go.Avc
open Go Go.Proofs

set_option maxHeartbeats 8000000 in
theorem NormalOf_ctr {cx : Cx} (h : Seat cx) (hM : MaxL cx) : Ctr cx 6 normS := by
  refine ctr_of (fn := Tryd.f6) (l := [.cell 6 29, .tmp 7]) (envL [(23, inS), (24, onlyS), (16, trimSp), (25, mapSp), (26, ixSp), (27, woSp), (28, cpreSp), (29, preSp), (30, idS)]) [0, 1, 2, 6, 7, 8, 9, 10, 11, 12, 13, 14, 15, 16, 17, 18, 19, 20, 25, 30, 49, 53, 61, 71, 78, 87, 95, 102, 107, 118] [33] [] (envL_cons (in_ctr h) (envL_cons (only_ctr h) (envL_cons (trim_ctr h) (envL_cons (map_ctr h) (envL_cons (indexByte_ctr h) (envL_cons (rwithout_ctr h) (envL_cons (cutPrefix_ctr h) (envL_cons (hasPrefix_ctr h) (envL_cons (IdFault_ctr h hM) (env0 h.hP)))))))))) ?_ (by rw [h.hP]; exact Tryd.func6) rfl (by kernel_rfl) rfl ?_ ?_
  · rw [h.hP]; exact ⟨_, Tryd.func6, by kernel_rfl, by kernel_rfl⟩
  · rintro xs ⟨k, t, c, rfl, h1, h2, h3⟩; exact ⟨_, k, t, c, rfl, rfl⟩
  · rintro xs ⟨k, t, c, rfl, h1, h2, h3⟩
    refine ⟨by rw [Tryd.ntmps6]; simp, ?_⟩
    simp only [go_sem, h.hP, List.cons_append, List.nil_append, Meets_e, Below_e, Prod.exists, exists_eq, exists_eq_left, exists_eq_left', exists_eq_right, exists_eq_right', exists_and_left, exists_and_right, Ob.arr.injEq, AV.own.injEq, AV.fv.injEq, normS_q, normS_p, normS_c, normS_f, inS_q, inS_p, inS_c, inS_f, onlyS_q, onlyS_p, onlyS_c, onlyS_f, trimSp_q, trimSp_p, trimSp_c, trimSp_f, mapSp_q, mapSp_p, mapSp_c, mapSp_f, ixSp_q, ixSp_p, ixSp_c, ixSp_f, woSp_q, woSp_p, woSp_c, woSp_f, cpreSp_q, cpreSp_p, cpreSp_c, cpreSp_f, preSp_q, preSp_p, preSp_c, preSp_f, idS_q, idS_p, idS_c, idS_f, idS_q2, idS_p2, Tryd.ntmps6, Nat.reduceEqDiff, reduceCtorEq, Nat.reduceMul, Nat.reduceAdd, Nat.reduceSub, Nat.reduceDiv, Nat.reduceMod, Nat.reduceLeDiff, Nat.reduceLT, Nat.reduceBNe, Nat.reduceBEq, reduceIte, Int.reduceLE, Int.reduceLT, Int.reduceToNat, Int.reduceNeg, Int.reduceAdd, Int.reduceSub, Int.reduceMul, Int.reduceEq]
    have hs := trimF_size t ⟨#[32]⟩
    rw [only_dig]
    refine ⟨fun c1 => res_bad (nE1 c1) (by decide), fun c1 => ⟨fun c2 => res_bad (nE2 c1 c2) (by decide), fun c2 => ⟨fun c3 => ⟨by omega, rfl, fun c4 => ⟨?_, fun c5 => res_bad (nE3 c1 c2 (.inr (.inr c5))) (by decide), fun c5 => ⟨by omega, rfl, ?_⟩⟩, fun c4 => res_bad (nE3 c1 c2 (.inr (.inl c4))) (by decide)⟩, fun c3 => res_bad (nE3 c1 c2 (.inl c3)) (by decide)⟩⟩⟩
    · have := inB_iff.1 c3
      omega
    have hE := nE4 c1 c2 c3 c4 c5
    have hc := inB_iff.1 c3
    refine vc_cutS (ByteArray) (fun (T : ByteArray) => [(10, .un), (11, .un), (12, .un), (13, .un), (14, .un), (15, .un), (16, .un), (17, .un), (53, .un), (61, .un), (71, .un), (78, .un), (87, .un), (95, .un), (102, .un), (107, .un)]) [6] (fun (T : ByteArray) => []) (fun (T : ByteArray) => [(8, .box 9 [.str T])]) (fun (T : ByteArray) => 0) (fun (T : ByteArray) => okS T ∧ (T = normT k t c ∨ (idF ⟨k, T⟩ = 3 ∧ idF ⟨k, normT k t c⟩ = 3))) [] ?_ ?_ ?_
    · rfl
    · simp only [go_sem, h.hP, List.cons_append, List.nil_append, Meets_e, Below_e, Prod.exists, exists_eq, exists_eq_left, exists_eq_left', exists_eq_right, exists_eq_right', exists_and_left, exists_and_right, Ob.arr.injEq, AV.own.injEq, AV.fv.injEq, normS_q, normS_p, normS_c, normS_f, inS_q, inS_p, inS_c, inS_f, onlyS_q, onlyS_p, onlyS_c, onlyS_f, trimSp_q, trimSp_p, trimSp_c, trimSp_f, mapSp_q, mapSp_p, mapSp_c, mapSp_f, ixSp_q, ixSp_p, ixSp_c, ixSp_f, woSp_q, woSp_p, woSp_c, woSp_f, cpreSp_q, cpreSp_p, cpreSp_c, cpreSp_f, preSp_q, preSp_p, preSp_c, preSp_f, idS_q, idS_p, idS_c, idS_f, idS_q2, idS_p2, tr_low, tr_up, Tryd.ntmps6, Nat.reduceEqDiff, reduceCtorEq, Nat.reduceMul, Nat.reduceAdd, Nat.reduceSub, Nat.reduceDiv, Nat.reduceMod, Nat.reduceLeDiff, Nat.reduceLT, Nat.reduceBNe, Nat.reduceBEq, reduceIte, Int.reduceLE, Int.reduceLT, Int.reduceToNat, Int.reduceNeg, Int.reduceAdd, Int.reduceSub, Int.reduceMul, Int.reduceEq]
      have n1 : k = 1 → normT k t c = mailF (lowS (trimF t ⟨#[32]⟩)) := fun d1 => by unfold normT; rw [if_pos d1]
      have n2 : ¬ k = 1 → k = 2 → normT k t c = phoneF (woS (trimF t ⟨#[32]⟩) ⟨#[32, 45, 46, 47, 40, 41]⟩) c := fun d1 d2 => by unfold normT; rw [if_neg d1, if_pos d2]
      have n3 : ¬ k = 1 → ¬ k = 2 → k = 3 → normT k t c = woS (upS (trimF t ⟨#[32]⟩)) ⟨#[32, 45]⟩ := fun d1 d2 d3 => by unfold normT; rw [if_neg d1, if_neg d2, if_pos d3]
      have n4 : ¬ k = 1 → ¬ k = 2 → ¬ k = 3 → normT k t c = woS (lowS (trimF t ⟨#[32]⟩)) ⟨#[45]⟩ := fun d1 d2 d3 => by unfold normT; rw [if_neg d1, if_neg d2, if_neg d3]
      generalize normT k t c = N at *
      refine ⟨fun d1 => ⟨by omega, ?_⟩, fun d1 => ⟨fun d2 => ?_, fun d2 => ⟨fun d3 => ?_, fun d3 => ?_⟩⟩⟩
      · have h4 := lowS_size (trimF t ⟨#[32]⟩)
        rw [n1 d1]
        subst d1
        generalize lowS (trimF t ⟨#[32]⟩) = L at *
        refine ⟨fun g1 => ?_, fun g1 => ?_⟩
        · have hy := mail_yes g1
          obtain ⟨m, e1, e2, e3⟩ := ixB_in g1
          rw [e1, Int.toNat_natCast] at hy ⊢
          have hx : (L.extract 0 m).size = m := by rw [ByteArray.size_extract]; omega
          have hz : (L.extract m L.size).size = L.size - m := by rw [ByteArray.size_extract]; omega
          unfold headR at hy
          refine ⟨by omega, by omega, by omega, by omega, by omega, fun g2 => ?_, fun g2 => ?_⟩
          · rw [if_pos g2] at hy
            obtain ⟨q, q1, q2, q3⟩ := ixB_in g2
            have hw : ((L.extract 0 m).extract 0 (ixB (L.extract 0 m) 43).toNat).size ≤ L.size := by rw [ByteArray.size_extract]; omega
            exact ⟨by omega, by omega, by omega, by unfold okS; rw [app_size]; omega, .inl hy⟩
          · rw [if_neg g2] at hy
            exact ⟨by omega, by unfold okS; rw [app_size]; omega, .inl hy⟩
        · obtain ⟨hn1, hn2⟩ := mail_no g1
          have e0 : (⟨#[]⟩ : ByteArray).size = 0 := rfl
          unfold headR at hn2
          refine ⟨fun g2 => ?_, fun g2 => ?_⟩
          · rw [if_pos g2] at hn2
            obtain ⟨q, q1, q2, q3⟩ := ixB_in g2
            have hw : (L.extract 0 (ixB L 43).toNat).size ≤ L.size := by rw [ByteArray.size_extract]; omega
            exact ⟨by omega, by omega, by omega, by unfold okS; rw [app_size]; omega, .inr ⟨hn2, hn1⟩⟩
          · rw [if_neg g2] at hn2
            exact ⟨by omega, by unfold okS; rw [app_size]; omega, .inr ⟨hn2, hn1⟩⟩
      · have h4 := woS_size (trimF t ⟨#[32]⟩) ⟨#[32, 45, 46, 47, 40, 41]⟩
        rw [n2 d1 d2]
        generalize woS (trimF t ⟨#[32]⟩) ⟨#[32, 45, 46, 47, 40, 41]⟩ = W at *
        have e0 : (⟨#[48, 48]⟩ : ByteArray).size = 2 := rfl
        have e1 : (⟨#[48]⟩ : ByteArray).size = 1 := rfl
        have e2 : (⟨#[43]⟩ : ByteArray).size = 1 := rfl
        refine ⟨by omega, set1, fun g1 => ?_, fun g1 => ⟨fun g2 => ?_, fun g2 => ⟨fun g3 => ?_, fun g3 => ?_⟩⟩⟩
        · obtain ⟨p1, p2⟩ := pre_ext g1
          rw [p2, e0]
          have hw : (W.extract 2 W.size).size ≤ W.size := by rw [ByteArray.size_extract]; omega
          exact ⟨by omega, by unfold okS; rw [app_size]; omega, .inl (by unfold phoneF; rw [if_pos g1])⟩
        · obtain ⟨p1, p2⟩ := pre_ext g2
          rw [p2, e1]
          have hw : (W.extract 1 W.size).size ≤ W.size := by rw [ByteArray.size_extract]; omega
          exact ⟨by omega, by omega, by unfold okS; rw [app_size, app_size]; omega, .inl (by unfold phoneF; rw [g1, if_neg Bool.false_ne_true, if_pos g2])⟩
        · exact ⟨by omega, by omega, by unfold okS; rw [app_size, app_size]; omega, .inl (by unfold phoneF; rw [g1, if_neg Bool.false_ne_true, g2, if_neg Bool.false_ne_true, g3, if_neg Bool.false_ne_true])⟩
        · exact ⟨by unfold okS; omega, .inl (by unfold phoneF; rw [g1, if_neg Bool.false_ne_true, g2, if_neg Bool.false_ne_true, if_pos g3])⟩
      · have h4 := upS_size (trimF t ⟨#[32]⟩)
        have h5 := woS_size (upS (trimF t ⟨#[32]⟩)) ⟨#[32, 45]⟩
        exact ⟨by omega, by omega, set2, by unfold okS; omega, .inl (n3 d1 d2 d3).symm⟩
      · have h4 := lowS_size (trimF t ⟨#[32]⟩)
        have h5 := woS_size (lowS (trimF t ⟨#[32]⟩)) ⟨#[45]⟩
        exact ⟨by omega, by omega, set3, by unfold okS; omega, .inl (n4 d1 d2 d3).symm⟩
    · rintro T ⟨j1, j2⟩
      simp only [go_sem, h.hP, List.cons_append, List.nil_append, Meets_e, Below_e, Prod.exists, exists_eq, exists_eq_left, exists_eq_left', exists_eq_right, exists_eq_right', exists_and_left, exists_and_right, Ob.arr.injEq, AV.own.injEq, AV.fv.injEq, normS_q, normS_p, normS_c, normS_f, inS_q, inS_p, inS_c, inS_f, onlyS_q, onlyS_p, onlyS_c, onlyS_f, trimSp_q, trimSp_p, trimSp_c, trimSp_f, mapSp_q, mapSp_p, mapSp_c, mapSp_f, ixSp_q, ixSp_p, ixSp_c, ixSp_f, woSp_q, woSp_p, woSp_c, woSp_f, cpreSp_q, cpreSp_p, cpreSp_c, cpreSp_f, preSp_q, preSp_p, preSp_c, preSp_f, idS_q, idS_p, idS_c, idS_f, idS_q2, idS_p2, Tryd.ntmps6, Nat.reduceEqDiff, reduceCtorEq, Nat.reduceMul, Nat.reduceAdd, Nat.reduceSub, Nat.reduceDiv, Nat.reduceMod, Nat.reduceLeDiff, Nat.reduceLT, Nat.reduceBNe, Nat.reduceBEq, reduceIte, Int.reduceLE, Int.reduceLT, Int.reduceToNat, Int.reduceNeg, Int.reduceAdd, Int.reduceSub, Int.reduceMul, Int.reduceEq]
      exact ⟨h3, j1, res_idF hE j2⟩
end Go.Avc

/- IdText: its contract. No condition. -/
set_option linter.unusedVariables false
set_option linter.unusedSimpArgs false
set_option maxRecDepth 100000
namespace Go.Avc
open Go Go.Proofs

def rep3 (s : ByteArray) (c : Int) : ByteArray := ⟨(Lib.repeatL s.data.toList c.toNat).toArray⟩
theorem rep3_size (s : ByteArray) {c : Int} (h : 0 ≤ c) : ((rep3 s c).size : Int) = c * s.size := by
  show (((Lib.repeatL s.data.toList c.toNat).toArray.size : Nat) : Int) = _
  rw [List.size_toArray, Lib.repeatL_length, Array.length_toList, Int.natCast_mul, Int.toNat_of_nonneg h]
  rfl
def rep3S  : Spec where
  pre xs := ∃ (s : ByteArray) (c : Int), xs = [.str s, .i c] ∧ (0 ≤ c ∧ c ≤ 1000 ∧ s.size ≤ 1000000)
  post xs y := ∃ (s : ByteArray) (c : Int), xs = [.str s, .i c] ∧ y = .str (rep3 s c)
  cost _ := 0
  fresh := true
theorem rep3S_c  (xs : List AV) : (rep3S).cost xs = 0 := nr rfl
theorem rep3S_f  : (rep3S).fresh = true := nr rfl
theorem rep3S_q  (s : ByteArray) (c : Int) : (rep3S).pre [.str s, .i c] = (0 ≤ c ∧ c ≤ 1000 ∧ s.size ≤ 1000000) := propext ⟨fun h => by
  have h' : ∃ (s' : ByteArray) (c' : Int), ([.str s, .i c] : List AV) = [.str s', .i c'] ∧ (0 ≤ c' ∧ c' ≤ 1000 ∧ s'.size ≤ 1000000) := h
  obtain ⟨s', c', e, h⟩ := h'
  simp only [List.cons.injEq, AV.dv.injEq, AV.dp.injEq, AV.fv.injEq, DV.d.injEq, DV.ag.injEq, D.int.injEq, D.str.injEq, D.bool.injEq, D.sl.injEq, true_and, and_true, intsDi_inj, rowsT_inj, rowsKi_inj] at e
  obtain ⟨rfl, rfl⟩ := e
  exact h, fun h => ⟨s, c, rfl, h⟩⟩
theorem rep3S_p  (s : ByteArray) (c : Int) : (rep3S).post [.str s, .i c] = fun y => y = .str (rep3 s c) := funext fun y => propext ⟨fun h => by
  have h' : ∃ (s' : ByteArray) (c' : Int), ([.str s, .i c] : List AV) = [.str s', .i c'] ∧ y = .str (rep3 s' c') := h
  obtain ⟨s', c', e, h⟩ := h'
  simp only [List.cons.injEq, AV.dv.injEq, AV.dp.injEq, AV.fv.injEq, DV.d.injEq, DV.ag.injEq, D.int.injEq, D.str.injEq, D.bool.injEq, D.sl.injEq, true_and, and_true, intsDi_inj, rowsT_inj, rowsKi_inj] at e
  obtain ⟨rfl, rfl⟩ := e
  exact h, fun h => ⟨s, c, rfl, h⟩⟩
theorem rep3_ctr {cx : Cx} (h : Seat cx) : Ctr cx 12 rep3S := by
  refine ctr_flat (by rw [h.hP]; exact ⟨_, Tryd.func12, by kernel_rfl, by kernel_rfl⟩) (fun _ => rfl) ?_
  rintro xs ⟨s, c, rfl, h1, h2, h3⟩
  obtain ⟨n, rfl⟩ : ∃ n : Nat, c = n := ⟨c.toNat, by omega⟩
  refine ⟨_, .str (rep3 s n), _, rfl, ⟨s, n, rfl, rfl⟩, rfl, fun w hw => ?_⟩
  rw [h.hP]
  exact Tryd.strings_Repeat s n w (by omega) (Nat.le_trans (Nat.mul_le_mul h3 (show n ≤ 1000 by omega)) (by decide))
def idTextG : Spec where
  pre xs := xs = [.st]
  post xs y := ∃ (k : Int) (t c : ByteArray), okI k ∧ t.size ≤ 100000 ∧ c.size ≤ 1000 ∧ y = .tcons (.i k) (.tcons (.str t) (.tcons (.str c) .tnil))
  cost _ := 10
  fresh := false
set_option maxHeartbeats 8000000 in
theorem IdText_ctr {cx : Cx} (h : Seat cx) : Ctr cx 4 idTextG := by
  refine ctr_of (fn := Tryd.f4) (l := [.tmp 2, .tmp 3, .tmp 4]) (envL [(8, pickS), (9, oneS), (10, flipS), (11, changedS), (12, rep3S)]) [0, 2, 3, 4, 5, 6, 14, 19] [] [] (envL_cons (pick_ctr cx h.hP h.hS) (envL_cons (one_ctr h) (envL_cons (flip_ctr cx h.hP h.hS) (envL_cons (changed_ctr h) (envL_cons (rep3_ctr h) (env0 h.hP)))))) ?_ (by rw [h.hP]; exact Tryd.func4) rfl (by kernel_rfl) rfl ?_ ?_
  · rw [h.hP]; exact ⟨_, Tryd.func4, by kernel_rfl, by kernel_rfl⟩
  · rintro xs rfl; exact ⟨_, 0, ⟨#[]⟩, ⟨#[]⟩, ⟨by omega, by omega⟩, Nat.zero_le _, Nat.zero_le _, rfl⟩
  · rintro xs rfl
    refine ⟨by rw [Tryd.ntmps4]; simp, ?_⟩
    simp only [go_sem, h.hP, List.cons_append, List.nil_append, Meets_e, Below_e, Prod.exists, exists_eq, exists_eq_left, exists_eq_left', exists_eq_right, exists_eq_right', exists_and_left, exists_and_right, Ob.arr.injEq, AV.own.injEq, AV.fv.injEq, idTextG, changedS, pickS_q, pickS_p, pickS_c, pickS_f, oneS_q, oneS_p, oneS_c, oneS_f, flipS_q, flipS_p, flipS_c, flipS_f, rep3S_q, rep3S_p, rep3S_c, rep3S_f, ints1, intsc, strs1, strsc, Tryd.ntmps4, Nat.reduceEqDiff, reduceCtorEq, Nat.reduceMul, Nat.reduceAdd, Nat.reduceSub, Nat.reduceDiv, Nat.reduceMod, Nat.reduceLeDiff, Nat.reduceLT, Nat.reduceBNe, Nat.reduceBEq, reduceIte, Int.reduceLE, Int.reduceLT, Int.reduceToNat, Int.reduceNeg, Int.reduceAdd, Int.reduceSub, Int.reduceMul, Int.reduceEq]
    have hk : ∀ a : Int, isIn a [1, 1, 2, 2, 2, 3, 4, 0, 5] → okI a := fun a ha => isIn_ok ha (by decide)
    have hn : ∀ a : Int, isIn a [200, 201] → 0 ≤ a ∧ a ≤ 1000 := fun a ha => by
      simp only [isIn, List.mem_cons, List.not_mem_nil, or_false] at ha
      omega
    have h1 : ((⟨#[49]⟩ : ByteArray).size : Int) = 1 := rfl
    have hr : ∀ a : Int, 0 ≤ a → a ≤ 1000 → (rep3 ⟨#[49]⟩ a).size ≤ 100000 := fun a a0 a1 => by
      have := rep3_size ⟨#[49]⟩ a0
      rw [h1] at this
      omega
    intro a ha b hb
    have hb2 := isOf_ok hb (by decide +kernel)
    refine fun f => ⟨fun _ => ⟨by omega, fun t ht g => ⟨fun _ n hn' => ⟨(hn n hn').1, (hn n hn').2, fun c hc => ⟨a, hk a ha, _, hr n (hn n hn').1 (hn n hn').2, c, isOf_ok hc (by decide +kernel), rfl, rfl, rfl⟩⟩, fun _ c hc => ⟨a, hk a ha, t, by omega, c, isOf_ok hc (by decide +kernel), rfl, rfl, rfl⟩⟩⟩,
      fun _ g => ⟨fun _ n hn' => ⟨(hn n hn').1, (hn n hn').2, fun c hc => ⟨a, hk a ha, _, hr n (hn n hn').1 (hn n hn').2, c, isOf_ok hc (by decide +kernel), rfl, rfl, rfl⟩⟩, fun _ c hc => ⟨a, hk a ha, b, by omega, c, isOf_ok hc (by decide +kernel), rfl, rfl, rfl⟩⟩⟩
end Go.Avc

/- IdNormals: its walk. No condition. -/
set_option linter.unusedVariables false
set_option linter.unusedSimpArgs false
set_option maxRecDepth 100000
namespace Go.Avc
open Go Go.Proofs

theorem maxL_of {cx W0 : Cx} {m : Int} (hW : W0.glob 0 = some [.int .i64 m]) (h : ∀ w, GlAt cx w → GlAt W0 w) : MaxL cx := by
  intro w hw
  obtain ⟨_, _, cs, hc, hr⟩ := h w hw 0 _ hW
  obtain ⟨v, hv, hr⟩ := hr.get (j := 0) (x := .int .i64 m) rfl
  refine ⟨m, ?_⟩
  have := hc 0 v hv
  rw [this]
  cases hr
  rfl
set_option maxHeartbeats 8000000 in
theorem in_walk {L : List Int} {A : Option Addr} {cp : Nat} {W : World} (hng : 3 ≤ W.heap.size) (hrd : Rd (fun k => k < W.heap.size) W (.sl (intRows L)) (.slice A L.length cp)) {glob : Nat → Option (List D)} (hgl : GlAt ⟨Tryd.prog, none, L, 25, 3, glob⟩ W) (hU : ∀ cx : Cx, (∀ w, GlAt cx w → GlAt ⟨Tryd.prog, none, L, 25, 3, glob⟩ w) → Utf8 cx) (hMx : ∀ cx : Cx, (∀ w, GlAt cx w → GlAt ⟨Tryd.prog, none, L, 25, 3, glob⟩ w) → MaxL cx) :
    Calls Tryd.prog 3 [Value.slice A L.length cp].toArray W fun e W' => e = .returned (.bool true) ∧ RowKit.Below W.heap.size W W' := by
  refine law_calls (E := envL [(4, idTextG), (5, normS), (6, normS), (7, peopleS)]) (B := 20) (live := [0, 2, 3, 4, 5, 6, 7, 8, 9, 10]) (HH := []) (hz := []) (d := 2) (x1 := 11) (x2 := 12) (x3 := 13) (x4 := 3) (ng := 3) (glob := glob) Tryd.func3 rfl rfl (by kernel_rfl) ⟨rfl, rfl, rfl⟩ ⟨rfl, rfl, rfl⟩ ⟨rfl, rfl, rfl⟩ ⟨rfl, rfl, rfl⟩ ⟨rfl, rfl, rfl⟩ build_stream ⟨by simp, by decide, by decide, by decide, by decide, by decide, by rw [Tryd.ntmps3]; decide⟩ (ex := []) (xv := []) rfl (fun i x u hx hu => by simp at hx) (by decide) hng hrd hgl ?_
  intro cx hP hS hG hGl
  have h : Seat cx := ⟨hP, hS⟩
  refine ⟨envL_cons (IdText_ctr h) (envL_cons (Normal_ctr h (hMx cx hG)) (envL_cons (NormalOf_ctr h (hMx cx hG)) (envL_cons (people_ctr h (hU cx hG)) (env0 h.hP)))), ?_⟩
  simp only [go_sem, h.hP, List.cons_append, List.nil_append, Meets_e, Below_e, Prod.exists, exists_eq, exists_eq_left, exists_eq_left', exists_eq_right, exists_eq_right', exists_and_left, exists_and_right, Ob.arr.injEq, AV.own.injEq, AV.fv.injEq, idTextG, peopleS, normS_q, normS_p, normS_c, normS_f, TId.row, Tryd.ntmps3, Nat.reduceEqDiff, reduceCtorEq, Nat.reduceMul, Nat.reduceAdd, Nat.reduceSub, Nat.reduceDiv, Nat.reduceMod, Nat.reduceLeDiff, Nat.reduceLT, Nat.reduceBNe, Nat.reduceBEq, reduceIte, Int.reduceLE, Int.reduceLT, Int.reduceToNat, Int.reduceNeg, Int.reduceAdd, Int.reduceSub, Int.reduceMul, Int.reduceEq]
  exact fun k hk t ht c hc => ⟨by omega, by omega, hk, by omega, by omega, hk⟩
end Go.Avc

/- IdNormals returns true for every slice of numbers, and leaves it as it was; the two tables of unicode/utf8, which its row lists, lie as the program lays them. -/
set_option linter.unusedVariables false
set_option linter.unusedSimpArgs false
set_option maxRecDepth 100000
namespace Go.Proofs.YtjeljamjocligaaDoor.idNormals
open Go.ChangeShapes Go.ChangeMaps Go.WideShapes Go.ChangeAt Go.RowKit Go.Avc

def exF (m : Int) : Nat → Option (List D)
  | 0 => some [.int .i64 m]
  | _ => none
theorem lies {W : World} {m : Int} (hm : W.cell? ⟨0, 0, none⟩ = some (.int .i64 m)) : Lies W (exF m) := by
  intro k l hk
  have hk' : exF m k = some l := hk
  match k, hk' with
  | 0, hk' =>
    cases hk'
    refine ⟨by decide, ?_, rfl, fun j u hj => ?_⟩
    · by_cases hb : 0 < W.heap.size
      · exact hb
      · unfold World.cell? at hm
        rw [Array.getElem?_eq_none (show W.heap.size ≤ 0 by omega)] at hm
        cases hm
    · cases j with
      | zero => cases hj; exact hm
      | succ j => simp at hj
/-- A world for a witness. -/
noncomputable def worldF (os : Os) : World := laidWorld os
theorem metF (os : Os) (args : Array Value) : laidMet Tryd.prog Rows.idNormalsRow.laid ((worldF os).forCall (fun _ _ => 0) ⟨#[], args, []⟩).memory := laidMet_of_run' 8 (by kernel_rfl) (by kernel_rfl)
theorem own : ownKnob Tryd.prog.godebug = none := by kernel_rfl
theorem one3 : Tryd.prog.cellsOf 3 = 1 := by kernel_rfl

/-- WHAT THE WALK GIVES. -/
theorem contract (H : Type) (enc : TypeId × Value → H) (W : World) (base : Nat) (args : Array Value) (ds gs : List (DataW H)) (before : List MemPlace)
    (hval : ∀ (j : Nat) t v, Tryd.f3.params[j]? = some t → args[j]? = some v → Value.okWide Tryd.prog W .any base t v)
    (hW : DataW.Whole enc Tryd.prog Tryd.f3.params.toList Rows.idNormalsSpec.vars false W args.toList ds gs before) (hL : laidMetH Tryd.prog Rows.idNormalsRow.laid W) (hSh : W.ShapedOpen Tryd.prog) :
    Calls Tryd.prog 3 args W fun e W' => ∃ v, e = .returned v ∧ Rows.idNormalsSpec.post enc Tryd.prog Tryd.f3 false true false false W args v W' := by
  have hW' := hW
  obtain ⟨p, q, hA0, hV, rfl, hfz, hnd⟩ := hW
  have hA : DataW.TrodAll enc Tryd.prog W 0 (fun _ => true) true Tryd.f3.params.toList args.toList ds p := hA0
  rw [Tryd.params3] at hA hval
  obtain ⟨v0, vs0, d0, ds0, p0, q0, hargs, rfl, rfl, h0, r0⟩ := trodAll_cons hA
  obtain ⟨rfl, rfl, rfl⟩ := trodAll_nil r0
  obtain rfl : args = #[v0] := by cases args; simp_all
  obtain ⟨rfl, rfl⟩ := trodVars_none hV
  obtain ⟨A, L, cp, rfl, hrd, hsh⟩ := open_nums Tryd.underlying22 Tryd.underlying3 one3 (hval 0 22 v0 rfl rfl) h0
  clear hA0
  simp only [List.append_nil] at hW'
  obtain ⟨mx, hmx⟩ := Tryd.laysM144.s1_3 W hSh
  have hg := glAt_X (L := L) (ST := 25) (tabs_of_list hL (by simp [Rows.idNormalsRow]) (by simp [Rows.idNormalsRow])) (lies hmx)
  refine (in_walk (ng_of_shaped hSh) hrd hg (fun cx h => utf8_of_globX rfl h) (fun cx h => maxL_of rfl h)).mono fun e W' ⟨he, hbl⟩ => ?_
  subst he
  refine ⟨_, rfl, post_of_below (pa := p0) (pv := []) hW' (fun _ _ _ => trodAll_cons_mk (shut_bool Tryd.underlying4 _) trodAll_mk0)
    (fun sp hsp => ?_) (fun _ _ => rfl) (List.append_nil _).symm hbl (ok_one (by kernel_rfl) rfl (okWide_bool_mk Tryd.underlying4 _))⟩
  have := trodAll_cons_mk (hsh W' hbl sp hsp) (trodAll_mk0 (w := W') (base := 0) (spare := sp) (held := true) (enc := enc))
  rw [List.append_nil] at this
  exact this
theorem reads (os : Os) {H : Type} (enc : TypeId × Value → H) : ∃ places, DataW.whole enc Tryd.prog ((worldF os).forCall (fun _ _ => 0) ⟨#[], #[.slice none 0 0], []⟩).memory Tryd.f3.params.toList Rows.idNormalsSpec.vars false #[Value.slice none 0 0].toList 8 = some ([.nil], [], places) :=
  ⟨[], by kernel_rfl⟩
theorem lifted (os : Os) (started : os.Started) (H : Type) (enc : TypeId × Value → H) (F : Stop.Interp) :
    ReturnsInHanded {} Tryd.checked os 3 .any ((OpenSpec.ofChange Rows.idNormalsSpec).preRow enc Tryd.prog Tryd.f3 Rows.idNormalsRow.domain false Rows.idNormalsRow.laid) (((OpenSpec.ofChange Rows.idNormalsSpec).at F).post enc Tryd.prog Tryd.f3 false true false false) := by
  obtain ⟨places, hx⟩ := reads os enc
  refine returnsInHanded_of_row (C := Tryd.checked) (s := OpenSpec.ofChange Rows.idNormalsSpec) own started (by kernel_rfl) Tryd.func3
    (witness_row_at (enc := enc) (C := Tryd.checked) false (worldF os) #[.slice none 0 0] rfl (by kernel_rfl) (by kernel_rfl) (by kernel_rfl)
      (OpenSpec.preRow_of_cond 8 hx (by kernel_rfl) (fun k hk => by cases hk) (by kernel_rfl) (metF os _))) ?_
  intro W base args ds gs before hval hW _ _ _ hL hSh _
  exact contract H enc W base args ds gs before hval hW hL hSh
theorem said : Rows.IdNormalsSaid :=
  OpenClaim.holds_of_cond 3 Tryd.f3 rfl rfl rfl rfl rfl rfl rfl ⟨rfl, rfl, rfl, rfl, rfl⟩ rfl rfl rfl rfl rfl (by kernel_rfl) Tryd.func3 (by kernel_rfl)
    (of_decide_eq_true (by kernel_rfl)) (by unfold Func.isWrapper; first | (rw [if_pos (by decide +kernel)]; kernel_rfl) | (rw [if_neg (by decide +kernel)]; exact ⟨rfl, rfl⟩))
    (fun os started H enc _ F => by rw [OpenClaim.pre_eq_preRow]; exact lifted os started H enc F)
theorem plain (f : FuncId) (fn : Func) (hf : Tryd.pinned.checked.prog.funcNamed "handbill/handlaw2.IdNormals" = some f) (hfn : Tryd.pinned.checked.prog.funcs[f]? = some fn) :
    false = Tryd.pinned.checked.prog.looks [] ∧ ∀ (j : Nat) t, fn.params[j]? = some t → Tryd.pinned.checked.prog.wantsStandIn t = false := by
  obtain rfl : f = 3 := Option.some.inj ((show Tryd.prog.funcNamed "handbill/handlaw2.IdNormals" = some 3 by kernel_rfl).symm.trans hf) |>.symm
  obtain rfl : fn = Tryd.f3 := (Option.some.inj (Tryd.func3.symm.trans hfn)).symm
  refine ⟨by kernel_rfl, fun j t ht => ?_⟩
  rw [Tryd.params3] at ht
  obtain rfl : t = 22 := by simpa using Array.mem_of_getElem? ht
  exact (show Tryd.prog.wantsStandIn 22 = false by kernel_rfl)
theorem card : Rows.IdNormalsCardSaid :=
  Claim7.holds_tied_plain_at .later [] _ _ _ _ said (fun _ h => by cases h) (by kernel_rfl) (fun _ h => by cases h) idNormals_row_tie rfl ⟨rfl, rfl⟩ (by kernel_rfl) rfl plain (by kernel_rfl)
end Go.Proofs.YtjeljamjocligaaDoor.idNormals
