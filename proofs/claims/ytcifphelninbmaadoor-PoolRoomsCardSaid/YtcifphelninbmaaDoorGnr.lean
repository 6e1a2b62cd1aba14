/- The generator of sending rules: its contract. No condition. -/
import Derived.Test.YtcifphelninbmaaDoorSml
set_option linter.unusedVariables false
set_option linter.unusedSimpArgs false
set_option maxRecDepth 100000
namespace Go.Avc
open Go Go.Proofs

theorem isIn_le {x : Int} {l : List Int} (h : isIn x l) {b : Int} (hb : l.all (fun y => decide (-b ≤ y ∧ y ≤ b)) = true) : -b ≤ x ∧ x ≤ b := by
  have := List.all_eq_true.1 hb x h
  simpa using this
theorem isOf_ok {x : ByteArray} {l : List ByteArray} (h : isOf x l) (hb : l.all (fun y => decide (y.size ≤ 1000)) = true) : x.size ≤ 1000 := by
  have := List.all_eq_true.1 hb x h
  simpa using this
theorem okI_of {x : Int} {b : Int} (h : -b ≤ x ∧ x ≤ b) (hb : b ≤ 1125899906842624) : okI x := ⟨by omega, by omega⟩
theorem isIn_ok {x : Int} {l : List Int} (h : isIn x l) (hb : l.all (fun y => decide (-1125899906842624 ≤ y ∧ y ≤ 1125899906842624)) = true) : okI x := isIn_le h hb
theorem okL_app {α : Type} {p : α → Prop} {l : List α} {x : α} (h : ∀ y ∈ l, p y) (hx : p x) : ∀ y ∈ l ++ [x], p y := fun y hy => by
  rcases List.mem_append.1 hy with hy | hy
  · exact h y hy
  · rw [List.mem_singleton] at hy; rw [hy]; exact hx
theorem okL_mem {α : Type} {p : α → Prop} {l : List α} {x y : α} (hm : y ∈ l ++ [x]) (h : ∀ y ∈ l, p y) (hx : p x) : p y := okL_app h hx y hm
theorem okL_one {α : Type} {p : α → Prop} {x : α} (hx : p x) : okL p [x] := ⟨by simp, fun y hy => by rw [List.mem_singleton] at hy; rw [hy]; exact hx⟩
theorem okS_of {s : ByteArray} (h : s.size ≤ 1000) : okS s := by unfold okS; omega
theorem odd_ok {q : Int} (h1 : -1099511627776 ≤ q) (h2 : q ≤ 1099511627776) : okI q := ⟨by omega, by omega⟩
theorem enc4 (n : Int) : (Utf8.encode n).size ≤ 4 := by
  unfold Utf8.encode
  simp only
  generalize (if Utf8.valid n = true then n.toNat else Utf8.runeError) = c
  split
  · exact (by decide : (1 : Nat) ≤ 4)
  · split
    · exact (by decide : (2 : Nat) ≤ 4)
    · split
      · exact (by decide : (3 : Nat) ≤ 4)
      · exact (by decide : (4 : Nat) ≤ 4)
theorem all_get {α : Type} {p : α → Prop} {l : List α} {d : α} (h : ∀ x ∈ l, p x) (hd : p d) (i : Nat) : p (l.getD i d) := by
  rw [List.getD_eq_getElem?_getD]
  cases e : l[i]? with
  | none => exact hd
  | some x => exact h x (List.mem_of_getElem? e)
def okIB (l : List Int) : Bool := decide (l.length ≤ 1048576) && l.all fun y => decide (-1125899906842624 ≤ y ∧ y ≤ 1125899906842624)
theorem okLI_of {l : List Int} (h : okIB l = true) : okL okI l := by
  unfold okIB at h
  rw [Bool.and_eq_true, decide_eq_true_eq, List.all_eq_true] at h
  exact ⟨h.1, fun x hx => by have := h.2 x hx; unfold okI; simpa using this⟩
def okSB (l : List ByteArray) : Bool := decide (l.length ≤ 1048576) && l.all fun y => decide (y.size ≤ 1000)
theorem okLS_of {l : List ByteArray} (h : okSB l = true) : okL okS l := by
  unfold okSB at h
  rw [Bool.and_eq_true, decide_eq_true_eq, List.all_eq_true] at h
  exact ⟨h.1, fun x hx => okS_of (by simpa using h.2 x hx)⟩
theorem okLI_lit {ls : List (List Int)} (h : ls.all okIB = true) (i : Nat) : okL okI (ls.getD i []) := all_get (p := okL okI) (fun x hx => okLI_of (List.all_eq_true.1 h x hx)) (okL_z _) i
theorem okLS_lit {ls : List (List ByteArray)} (h : ls.all okSB = true) (i : Nat) : okL okS (ls.getD i []) := all_get (p := okL okS) (fun x hx => okLS_of (List.all_eq_true.1 h x hx)) (okL_z _) i
theorem okL_snoc {α : Type} {p : α → Prop} {l : List α} {x : α} (h : ∀ y ∈ l, p y) (hl : (l.length : Int) ≤ 1000) (hx : p x) : okL p (l ++ [x]) := ⟨by rw [List.length_append, List.length_singleton]; omega, okL_app h hx⟩
def rulesG : Spec where
  pre xs := xs = [.st]
  post xs y := ∃ r : TSendRules, r.ok ∧ y = .dv (.ag r.row)
  cost _ := 1000
  fresh := false
set_option maxHeartbeats 16000000 in
theorem SendRules_ctr {cx : Cx} (h : Seat cx) : Ctr cx 23 rulesG := by
  refine ctr_of (fn := Tryd.f23) (l := [.cell 2 47]) (envL [(25, nextS), (14, pickS), (19, flipS), (71, oneS), (72, oddS)]) [0, 2, 3, 4, 5, 30, 31, 32, 54, 55, 56, 78, 79, 80, 99, 100, 101, 112, 114, 115, 116, 123, 137, 147, 164, 184] [14, 36] [(1, [22], [])] (envL_cons (next_ctr cx h.hP h.hS) (envL_cons (pick_ctr cx h.hP h.hS) (envL_cons (flip_ctr cx h.hP h.hS) (envL_cons (one_ctr h) (envL_cons (odd_ctr h) (env0 h.hP)))))) ?_ (by rw [h.hP]; exact Tryd.func23) rfl (by kernel_rfl) rfl ?_ ?_
  · rw [h.hP]; exact ⟨_, Tryd.func23, by kernel_rfl, by kernel_rfl⟩
  · rintro xs rfl; exact ⟨_, TSendRules.z, TSendRules.z_ok, rfl⟩
  · rintro xs rfl
    refine ⟨by rw [Tryd.ntmps23]; simp, ?_⟩
    simp only [go_sem, h.hP, List.cons_append, List.nil_append, Meets_e, Below_e, Prod.exists, exists_eq, exists_eq_left, exists_eq_left', exists_eq_right, exists_eq_right', exists_and_left, exists_and_right, Ob.arr.injEq, AV.own.injEq, AV.fv.injEq, rulesG, nextS_q, nextS_p, nextS_c, nextS_f, pickS_q, pickS_p, pickS_c, pickS_f, ints1, intsc, strs1, strsc, intsDi_inj, rowsT_inj, LI_1, LI_c, LI_n, LT_1, LT_c, LT_n, rowsLI_len, rowsLI_get, rowsLT_len, rowsLT_get, Tryd.ntmps23, Nat.reduceEqDiff, reduceCtorEq, Nat.reduceMul, Nat.reduceAdd, Nat.reduceSub, Nat.reduceDiv, Nat.reduceMod, Nat.reduceLeDiff, Nat.reduceLT, Nat.reduceBNe, Nat.reduceBEq, reduceIte, Int.reduceLE, Int.reduceLT, Int.reduceToNat, Int.reduceNeg, Int.reduceAdd, Int.reduceSub, Int.reduceMul, Int.reduceEq]
    intro a _ h1
    rename_i h0
    refine ⟨h0, h1, fun a1 ha1 a2 ha2 a3 h20 h2 => ⟨h20, h2, fun n hn => ?_⟩⟩
    have hn2 := isIn_le hn (b := 2) (by decide)
    have hq0 : okL okI ([[], [1], [1, 2], [1, 2, 3, 4]].getD a.toNat []) := okLI_lit (by decide) _
    have hq3 : okL okS ([[], [⟨#[115, 97, 108, 101]⟩], [⟨#[110, 101, 119, 115]⟩, ⟨#[98, 105, 108, 108]⟩]].getD a3.toNat []) := okLS_lit (by decide) _
    generalize ([[], [1], [1, 2], [1, 2, 3, 4]] : List (List Int)).getD a.toNat [] = q0 at hq0
    generalize ([[], [⟨#[115, 97, 108, 101]⟩], [⟨#[110, 101, 119, 115]⟩, ⟨#[98, 105, 108, 108]⟩]] : List (List ByteArray)).getD a3.toNat [] = q3 at hq3
    refine vc_loopS (Int × List TCap) (fun (x : Int × List TCap) => match x with | (i, l) => [(31, .i i)]) [2, 3] (fun (x : Int × List TCap) => match x with | (i, l) => [(3, 4, .own 10304)]) (fun (x : Int × List TCap) => match x with | (i, l) => [(10304, .arr 120 4 (TCap.rows l))]) (fun (x : Int × List TCap) => match x with | (i, l) => 5 + 4 * i.toNat) (fun (x : Int × List TCap) => match x with | (i, l) => 0 ≤ i ∧ i ≤ 2 ∧ (l.length : Int) ≤ i ∧ ∀ c ∈ l, c.ok) (fun (x : Int × List TCap) => match x with | (i, l) => (2 - i).toNat) [(10304, 120, 4)] ?_ ?_
    · simp only [go_sem, h.hP, List.cons_append, List.nil_append, Meets_e, Below_e, Prod.exists, exists_eq, exists_eq_left, exists_eq_left', exists_eq_right, exists_eq_right', exists_and_left, exists_and_right, Ob.arr.injEq, AV.own.injEq, AV.fv.injEq, TCap.nil2, Tryd.ntmps23, Nat.reduceEqDiff, reduceCtorEq, Nat.reduceMul, Nat.reduceAdd, Nat.reduceSub, Nat.reduceDiv, Nat.reduceMod, Nat.reduceLeDiff, Nat.reduceLT, Nat.reduceBNe, Nat.reduceBEq, reduceIte, Int.reduceLE, Int.reduceLT, Int.reduceToNat, Int.reduceNeg, Int.reduceAdd, Int.reduceSub, Int.reduceMul, Int.reduceEq]
      simp
    · rintro ⟨i, l⟩ ⟨j1, j2, j3, j4⟩
      have hw : IntKind.i64.wrap (i + 1) = i + 1 := i64w (by omega) (by omega)
      simp only [go_sem, h.hP, List.cons_append, List.nil_append, Meets_e, Below_e, Prod.exists, exists_eq, exists_eq_left, exists_eq_left', exists_eq_right, exists_eq_right', exists_and_left, exists_and_right, Ob.arr.injEq, AV.own.injEq, AV.fv.injEq, rulesG, pickS_q, pickS_p, pickS_c, pickS_f, oneS_q, oneS_p, oneS_c, oneS_f, ints1, intsc, strs1, strsc, intsDi_inj, rowsT_inj, TCap.fold1, TCap.app', TCap.rows_inj, TCap.zlT, TCap.len, List.length_append, List.length_singleton, hw, Tryd.ntmps23, Nat.reduceEqDiff, reduceCtorEq, Nat.reduceMul, Nat.reduceAdd, Nat.reduceSub, Nat.reduceDiv, Nat.reduceMod, Nat.reduceLeDiff, Nat.reduceLT, Nat.reduceBNe, Nat.reduceBEq, reduceIte, Int.reduceLE, Int.reduceLT, Int.reduceToNat, Int.reduceNeg, Int.reduceAdd, Int.reduceSub, Int.reduceMul, Int.reduceEq]
      ((repeat' (first | with_reducible apply And.intro | with_reducible intro)) <;> try first | omega | exact okL_mem (by assumption) j4 ⟨isIn_ok (by assumption) (by decide), okS_of (isOf_ok (by assumption) (by decide)), isIn_ok (by assumption) (by decide), isIn_ok (by assumption) (by decide)⟩)
      rename_i c n2 hn2
      have hn2' := isIn_le hn2 (b := 3) (by decide)
      clear hw
      refine vc_loopS (Int × List TPool) (fun (x : Int × List TPool) => match x with | (i2, p) => [(55, .i i2)]) [2, 3, 10304] (fun (x : Int × List TPool) => match x with | (i2, p) => [(3, 5, .own 10305)]) (fun (x : Int × List TPool) => match x with | (i2, p) => [(10305, .arr 51 5 (TPool.rows p))]) (fun (x : Int × List TPool) => match x with | (i2, p) => 20 + 10 * i2.toNat) (fun (x : Int × List TPool) => match x with | (i2, p) => 0 ≤ i2 ∧ i2 ≤ 3 ∧ (p.length : Int) ≤ i2 ∧ ∀ c ∈ p, c.ok) (fun (x : Int × List TPool) => match x with | (i2, p) => (3 - i2).toNat) [(10305, 51, 5)] ?_ ?_
      · simp only [go_sem, h.hP, List.cons_append, List.nil_append, Meets_e, Below_e, Prod.exists, exists_eq, exists_eq_left, exists_eq_left', exists_eq_right, exists_eq_right', exists_and_left, exists_and_right, Ob.arr.injEq, AV.own.injEq, AV.fv.injEq, TPool.nil2, Tryd.ntmps23, Nat.reduceEqDiff, reduceCtorEq, Nat.reduceMul, Nat.reduceAdd, Nat.reduceSub, Nat.reduceDiv, Nat.reduceMod, Nat.reduceLeDiff, Nat.reduceLT, Nat.reduceBNe, Nat.reduceBEq, reduceIte, Int.reduceLE, Int.reduceLT, Int.reduceToNat, Int.reduceNeg, Int.reduceAdd, Int.reduceSub, Int.reduceMul, Int.reduceEq]
        exact ⟨by omega, by decide⟩
      · rintro ⟨i2, p⟩ ⟨k1, k2, k3, k4⟩
        have hw : IntKind.i64.wrap (i2 + 1) = i2 + 1 := i64w (by omega) (by omega)
        simp only [go_sem, h.hP, List.cons_append, List.nil_append, Meets_e, Below_e, Prod.exists, exists_eq, exists_eq_left, exists_eq_left', exists_eq_right, exists_eq_right', exists_and_left, exists_and_right, Ob.arr.injEq, AV.own.injEq, AV.fv.injEq, rulesG, pickS_q, pickS_p, pickS_c, pickS_f, oneS_q, oneS_p, oneS_c, oneS_f, ints1, intsc, strs1, strsc, TPool.fold1, TPool.app', TPool.rows_inj, TPool.zlT, TPool.len, List.length_append, List.length_singleton, hw, Tryd.ntmps23, Nat.reduceEqDiff, reduceCtorEq, Nat.reduceMul, Nat.reduceAdd, Nat.reduceSub, Nat.reduceDiv, Nat.reduceMod, Nat.reduceLeDiff, Nat.reduceLT, Nat.reduceBNe, Nat.reduceBEq, reduceIte, Int.reduceLE, Int.reduceLT, Int.reduceToNat, Int.reduceNeg, Int.reduceAdd, Int.reduceSub, Int.reduceMul, Int.reduceEq]
        refine ⟨by omega, fun c2 => ?_, fun c2 => ?_⟩
        · ((repeat' (first | with_reducible apply And.intro | with_reducible intro)) <;> try first | omega | (have := enc4 (IntKind.i32.wrap (IntKind.i64.wrap (97 + i2))); have := isOf_ok (x := by assumption) (by assumption) (by decide); omega))
          rename_i s hs a5 h5 a6 h6 a7 h7
          refine vc_cutS (List Int) (fun (w : List Int) => [(78, .un), (79, .un), (80, .un)]) [2, 3, 10304, 10305, 5] (fun (w : List Int) => [(5, 4, .sl (intsD w))]) (fun (w : List Int) => []) (fun (w : List Int) => 20 + 10 * i2.toNat + 8) (fun (w : List Int) => (w.length : Int) ≤ 3 ∧ ∀ x ∈ w, okI x) [] ?_ ?_ ?_
          · rfl
          · simp only [go_sem, h.hP, List.cons_append, List.nil_append, Meets_e, Below_e, Prod.exists, exists_eq, exists_eq_left, exists_eq_left', exists_eq_right, exists_eq_right', exists_and_left, exists_and_right, Ob.arr.injEq, AV.own.injEq, AV.fv.injEq, rulesG, pickS_q, pickS_p, pickS_c, pickS_f, ints1, intsc, Tryd.ntmps23, Nat.reduceEqDiff, reduceCtorEq, Nat.reduceMul, Nat.reduceAdd, Nat.reduceSub, Nat.reduceDiv, Nat.reduceMod, Nat.reduceLeDiff, Nat.reduceLT, Nat.reduceBNe, Nat.reduceBEq, reduceIte, Int.reduceLE, Int.reduceLT, Int.reduceToNat, Int.reduceNeg, Int.reduceAdd, Int.reduceSub, Int.reduceMul, Int.reduceEq]
            refine ⟨by omega, by omega, by omega, fun n3 hn3 => ⟨by omega, ?_⟩⟩
            have hn3' := isIn_le hn3 (b := 2) (by decide)
            clear hw
            refine vc_loopS (Int × List Int) (fun (x : Int × List Int) => match x with | (i3, w) => [(79, .i i3)]) [2, 3, 10304, 10305, 5] (fun (x : Int × List Int) => match x with | (i3, w) => [(5, 4, .own 10504)]) (fun (x : Int × List Int) => match x with | (i3, w) => [(10504, .arr 3 1 (intsD w))]) (fun (x : Int × List Int) => match x with | (i3, w) => 20 + 10 * i2.toNat + 5 + i3.toNat) (fun (x : Int × List Int) => match x with | (i3, w) => 0 ≤ i3 ∧ i3 ≤ 2 ∧ (w.length : Int) ≤ i3 ∧ ∀ x ∈ w, okI x) (fun (x : Int × List Int) => match x with | (i3, w) => (2 - i3).toNat) [(10504, 3, 1)] ?_ ?_
            · simp only [go_sem, h.hP, List.cons_append, List.nil_append, Meets_e, Below_e, Prod.exists, exists_eq, exists_eq_left, exists_eq_left', exists_eq_right, exists_eq_right', exists_and_left, exists_and_right, Ob.arr.injEq, AV.own.injEq, AV.fv.injEq, ints_nil2, Tryd.ntmps23, Nat.reduceEqDiff, reduceCtorEq, Nat.reduceMul, Nat.reduceAdd, Nat.reduceSub, Nat.reduceDiv, Nat.reduceMod, Nat.reduceLeDiff, Nat.reduceLT, Nat.reduceBNe, Nat.reduceBEq, reduceIte, Int.reduceLE, Int.reduceLT, Int.reduceToNat, Int.reduceNeg, Int.reduceAdd, Int.reduceSub, Int.reduceMul, Int.reduceEq]
              first | omega | exact ⟨by omega, by decide⟩ | simp
            · rintro ⟨i3, w⟩ ⟨m1, m2, m3, m4⟩
              have hw : IntKind.i64.wrap (i3 + 1) = i3 + 1 := i64w (by omega) (by omega)
              simp only [go_sem, h.hP, List.cons_append, List.nil_append, Meets_e, Below_e, Prod.exists, exists_eq, exists_eq_left, exists_eq_left', exists_eq_right, exists_eq_right', exists_and_left, exists_and_right, Ob.arr.injEq, AV.own.injEq, AV.fv.injEq, rulesG, pickS_q, pickS_p, pickS_c, pickS_f, ints1, intsc, intsD_app', intsDi_inj, intsD_len, intsD_zlT, List.length_append, List.length_singleton, hw, Tryd.ntmps23, Nat.reduceEqDiff, reduceCtorEq, Nat.reduceMul, Nat.reduceAdd, Nat.reduceSub, Nat.reduceDiv, Nat.reduceMod, Nat.reduceLeDiff, Nat.reduceLT, Nat.reduceBNe, Nat.reduceBEq, reduceIte, Int.reduceLE, Int.reduceLT, Int.reduceToNat, Int.reduceNeg, Int.reduceAdd, Int.reduceSub, Int.reduceMul, Int.reduceEq]
              ((repeat' (first | with_reducible apply And.intro | with_reducible intro)) <;> first | omega | exact okL_mem (by assumption) m4 (isIn_ok (by assumption) (by decide)) | exact m4 _ (by assumption))
          · rintro w ⟨m1, m2⟩
            simp only [go_sem, h.hP, List.cons_append, List.nil_append, Meets_e, Below_e, Prod.exists, exists_eq, exists_eq_left, exists_eq_left', exists_eq_right, exists_eq_right', exists_and_left, exists_and_right, Ob.arr.injEq, AV.own.injEq, AV.fv.injEq, rulesG, TPool.fold1, TPool.app', TPool.rows_inj, TPool.zlT, TPool.len, List.length_append, List.length_singleton, hw, Tryd.ntmps23, Nat.reduceEqDiff, reduceCtorEq, Nat.reduceMul, Nat.reduceAdd, Nat.reduceSub, Nat.reduceDiv, Nat.reduceMod, Nat.reduceLeDiff, Nat.reduceLT, Nat.reduceBNe, Nat.reduceBEq, reduceIte, Int.reduceLE, Int.reduceLT, Int.reduceToNat, Int.reduceNeg, Int.reduceAdd, Int.reduceSub, Int.reduceMul, Int.reduceEq]
            have e1 := enc4 (IntKind.i32.wrap (IntKind.i64.wrap (97 + i2)))
            have e2 := isOf_ok hs (by decide)
            ((repeat' (first | with_reducible apply And.intro | with_reducible intro)) <;> first | omega | exact okL_mem (by assumption) k4 ⟨by unfold okS; rw [ByteArray.size_append]; omega, isIn_ok h5 (by decide), isIn_ok h6 (by decide), isIn_ok h7 (by decide), (by show w.length ≤ _; omega), m2⟩)
        · refine ⟨by omega, by omega, by omega, fun n4 hn4 => ⟨by omega, ?_⟩⟩
          have hn4' := isIn_le hn4 (b := 2) (by decide)
          clear hw
          have Hl : okL TCap.ok l := ⟨by omega, j4⟩
          have Hp : okL TPool.ok p := ⟨by omega, k4⟩
          have H1 : okI a1 := isIn_ok ha1 (by decide)
          have H2 : okI a2 := isIn_ok ha2 (by decide)
          refine vc_loopS (Int × List Int) (fun (x : Int × List Int) => match x with | (i5, d) => [(100, .i i5)]) [2, 3, 10304, 10305] (fun (x : Int × List Int) => match x with | (i5, d) => [(3, 6, .own 10306)]) (fun (x : Int × List Int) => match x with | (i5, d) => [(10306, .arr 3 1 (intsD d))]) (fun (x : Int × List Int) => match x with | (i5, d) => 60 + i5.toNat) (fun (x : Int × List Int) => match x with | (i5, d) => 0 ≤ i5 ∧ i5 ≤ 2 ∧ (d.length : Int) ≤ i5 ∧ ∀ x ∈ d, okI x) (fun (x : Int × List Int) => match x with | (i5, d) => (2 - i5).toNat) [(10306, 3, 1)] ?_ ?_
          · simp only [go_sem, h.hP, List.cons_append, List.nil_append, Meets_e, Below_e, Prod.exists, exists_eq, exists_eq_left, exists_eq_left', exists_eq_right, exists_eq_right', exists_and_left, exists_and_right, Ob.arr.injEq, AV.own.injEq, AV.fv.injEq, ints_nil2, Tryd.ntmps23, Nat.reduceEqDiff, reduceCtorEq, Nat.reduceMul, Nat.reduceAdd, Nat.reduceSub, Nat.reduceDiv, Nat.reduceMod, Nat.reduceLeDiff, Nat.reduceLT, Nat.reduceBNe, Nat.reduceBEq, reduceIte, Int.reduceLE, Int.reduceLT, Int.reduceToNat, Int.reduceNeg, Int.reduceAdd, Int.reduceSub, Int.reduceMul, Int.reduceEq]
            first | omega | exact ⟨by omega, by decide⟩ | simp
          · rintro ⟨i5, d⟩ ⟨m1, m2, m3, m4⟩
            have hw : IntKind.i64.wrap (i5 + 1) = i5 + 1 := i64w (by omega) (by omega)
            simp only [go_sem, h.hP, List.cons_append, List.nil_append, Meets_e, Below_e, Prod.exists, exists_eq, exists_eq_left, exists_eq_left', exists_eq_right, exists_eq_right', exists_and_left, exists_and_right, Ob.arr.injEq, AV.own.injEq, AV.fv.injEq, rulesG, pickS_q, pickS_p, pickS_c, pickS_f, flipS_q, flipS_p, flipS_c, flipS_f, ints1, intsc, intsD_app', intsDi_inj, intsD_len, intsD_zlT, List.length_append, List.length_singleton, hw, Tryd.ntmps23, Nat.reduceEqDiff, reduceCtorEq, Nat.reduceMul, Nat.reduceAdd, Nat.reduceSub, Nat.reduceDiv, Nat.reduceMod, Nat.reduceLeDiff, Nat.reduceLT, Nat.reduceBNe, Nat.reduceBEq, reduceIte, Int.reduceLE, Int.reduceLT, Int.reduceToNat, Int.reduceNeg, Int.reduceAdd, Int.reduceSub, Int.reduceMul, Int.reduceEq]
            ((repeat' (first | with_reducible apply And.intro | with_reducible intro)) <;> try first | omega | exact okL_mem (by assumption) m4 (isIn_ok (by assumption) (by decide)) | exact m4 _ (by assumption))
            have Hd : okL okI d := ⟨by omega, m4⟩
            clear hw
            refine vc_cutT (TSendRules) (fun (r : TSendRules) => [(112, .un)]) [2] (fun (r : TSendRules) => []) (fun (r : TSendRules) => [(3, .box 47 [.sl (intsD r.quiet), .i r.quietFrom, .i r.quietTo, .sl (rowsT r.ranks), .sl (TCap.rows r.caps), .sl (TPool.rows r.pools), .sl (intsD r.delays)])]) (fun (r : TSendRules) => 900) (fun (r : TSendRules) => r.ok) [] ?_ ?_ ?_
            · rfl
            · simp only [go_sem, h.hP, List.cons_append, List.nil_append, Meets_e, Below_e, Prod.exists, exists_eq, exists_eq_left, exists_eq_left', exists_eq_right, exists_eq_right', exists_and_left, exists_and_right, Ob.arr.injEq, AV.own.injEq, AV.fv.injEq, rulesG, nextS_q, nextS_p, nextS_c, nextS_f, oneS_q, oneS_p, oneS_c, oneS_f, oddS_q, oddS_p, oddS_c, oddS_f, flipS_q, flipS_p, flipS_c, flipS_f, ints1, intsc, strs1, strsc, LI_1, LI_c, LI_n, LT_1, LT_c, LT_n, rowsLI_len, rowsLI_get, rowsLT_len, rowsLT_get, intsDi_inj, rowsT_inj, intsD_app', intsD_len, intsD_zlT, TCap.fold1, TCap.app', TCap.rows_inj, TCap.zlT, TCap.len, TPool.fold1, TPool.app', TPool.rows_inj, TPool.zlT, TPool.len, List.length_append, List.length_singleton, TSendRules.ex, Tryd.ntmps23, Nat.reduceEqDiff, reduceCtorEq, Nat.reduceMul, Nat.reduceAdd, Nat.reduceSub, Nat.reduceDiv, Nat.reduceMod, Nat.reduceLeDiff, Nat.reduceLT, Nat.reduceBNe, Nat.reduceBEq, reduceIte, Int.reduceLE, Int.reduceLT, Int.reduceToNat, Int.reduceNeg, Int.reduceAdd, Int.reduceSub, Int.reduceMul, Int.reduceEq]
              ((repeat' (first | with_reducible apply And.intro | with_reducible intro)) <;> try first | omega | (refine ⟨?_, ?_, ?_, ?_, ?_, ?_, ?_⟩ <;> first | assumption | exact odd_ok (by assumption) (by assumption) | exact okLI_lit (by decide) _ | exact okLS_lit (by decide) _ | exact okL_snoc m4 (by omega) (odd_ok (by assumption) (by assumption)) | exact okL_snoc j4 (by omega) ⟨odd_ok (by assumption) (by assumption), okS_of (isOf_ok (by assumption) (by decide)), odd_ok (by assumption) (by assumption), odd_ok (by assumption) (by assumption)⟩ | exact okL_snoc k4 (by omega) ⟨okS_of (isOf_ok (by assumption) (by decide)), odd_ok (by assumption) (by assumption), odd_ok (by assumption) (by assumption), odd_ok (by assumption) (by assumption), okL_one (odd_ok (by assumption) (by assumption))⟩))
              refine vc_loopS (Int × List Int) (fun (x : Int × List Int) => match x with | (i6, e) => [(115, .i i6)]) [2, 3, 10304, 10305] (fun (x : Int × List Int) => match x with | (i6, e) => [(3, 6, .own 10306)]) (fun (x : Int × List Int) => match x with | (i6, e) => [(10306, .arr 3 1 (intsD e))]) (fun (x : Int × List Int) => match x with | (i6, e) => 70) (fun (x : Int × List Int) => match x with | (i6, e) => 0 ≤ i6 ∧ i6 ≤ 11 ∧ (e.length : Int) ≤ 2 + i6 ∧ ∀ x ∈ e, okI x) (fun (x : Int × List Int) => match x with | (i6, e) => (11 - i6).toNat) [(10306, 3, 1)] ?_ ?_
              · simp only [go_sem, h.hP, List.cons_append, List.nil_append, Meets_e, Below_e, Prod.exists, exists_eq, exists_eq_left, exists_eq_left', exists_eq_right, exists_eq_right', exists_and_left, exists_and_right, Ob.arr.injEq, AV.own.injEq, AV.fv.injEq, intsDi_inj, Tryd.ntmps23, Nat.reduceEqDiff, reduceCtorEq, Nat.reduceMul, Nat.reduceAdd, Nat.reduceSub, Nat.reduceDiv, Nat.reduceMod, Nat.reduceLeDiff, Nat.reduceLT, Nat.reduceBNe, Nat.reduceBEq, reduceIte, Int.reduceLE, Int.reduceLT, Int.reduceToNat, Int.reduceNeg, Int.reduceAdd, Int.reduceSub, Int.reduceMul, Int.reduceEq]
                exact ⟨by omega, by omega, m4⟩
              · rintro ⟨i6, e⟩ ⟨q1, q2, q3', q4⟩
                have hw : i6 < 11 → IntKind.i64.wrap (i6 + 1) = i6 + 1 := fun _ => i64w (by omega) (by omega)
                have He : okL okI e := ⟨by omega, q4⟩
                simp only [go_sem, h.hP, List.cons_append, List.nil_append, Meets_e, Below_e, Prod.exists, exists_eq, exists_eq_left, exists_eq_left', exists_eq_right, exists_eq_right', exists_and_left, exists_and_right, Ob.arr.injEq, AV.own.injEq, AV.fv.injEq, rulesG, ints1, intsc, intsD_app', intsDi_inj, intsD_len, intsD_zlT, rowsT_inj, TCap.rows_inj, TPool.rows_inj, List.length_append, List.length_singleton, TSendRules.ex, Tryd.ntmps23, Nat.reduceEqDiff, reduceCtorEq, Nat.reduceMul, Nat.reduceAdd, Nat.reduceSub, Nat.reduceDiv, Nat.reduceMod, Nat.reduceLeDiff, Nat.reduceLT, Nat.reduceBNe, Nat.reduceBEq, reduceIte, Int.reduceLE, Int.reduceLT, Int.reduceToNat, Int.reduceNeg, Int.reduceAdd, Int.reduceSub, Int.reduceMul, Int.reduceEq]
                refine ⟨fun c6 => ?_, fun _ => ⟨hq0, H1, H2, hq3, Hl, Hp, He⟩⟩
                rw [hw c6]
                exact ⟨by omega, by omega, by omega, by omega, by omega, okL_app q4 ⟨by decide, by decide⟩, by omega⟩
            · rintro r hr
              simp only [go_sem, h.hP, List.cons_append, List.nil_append, Meets_e, Below_e, Prod.exists, exists_eq, exists_eq_left, exists_eq_left', exists_eq_right, exists_eq_right', exists_and_left, exists_and_right, Ob.arr.injEq, AV.own.injEq, AV.fv.injEq, rulesG, TSendRules.row, TSendRules.ex, intsDi_inj, rowsT_inj, TCap.rows_inj, TPool.rows_inj, Tryd.ntmps23, Nat.reduceEqDiff, reduceCtorEq, Nat.reduceMul, Nat.reduceAdd, Nat.reduceSub, Nat.reduceDiv, Nat.reduceMod, Nat.reduceLeDiff, Nat.reduceLT, Nat.reduceBNe, Nat.reduceBEq, reduceIte, Int.reduceLE, Int.reduceLT, Int.reduceToNat, Int.reduceNeg, Int.reduceAdd, Int.reduceSub, Int.reduceMul, Int.reduceEq]
              exact ⟨r.quiet, r.quietFrom, r.quietTo, r.ranks, r.caps, r.pools, r.delays, hr, rfl, rfl, rfl, rfl, rfl, rfl, rfl⟩
end Go.Avc
