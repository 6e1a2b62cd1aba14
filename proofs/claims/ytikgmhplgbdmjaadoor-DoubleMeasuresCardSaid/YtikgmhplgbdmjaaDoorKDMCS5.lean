/- DoubleMeasures returns true for every slice of numbers, and leaves it as it was; the two tables of unicode/utf8 and the fields' names, which its row lists, lie as the program lays them. -/
import Derived.Lib.Repeat
import Derived.Test.YtikgmhplgbdmjaaDoorRows
import Derived.Lib.LaidU8
import Derived.Lib.IndexMore
import Derived.Lib.SplitLaws
import Derived.Test.YtikgmhplgbdmjaaDoorCards
import Derived.Test.YtikgmhplgbdmjaaDoorTie
import Derived.WalkKit
import Derived.ProofKit
import Derived.OpenShut
import Derived.Deep.DeepHandedRow
import Derived.Test.YtikgmhplgbdmjaaDoorKDMCS1
import Derived.Test.YtikgmhplgbdmjaaDoorKDMCS2
import Derived.Test.YtikgmhplgbdmjaaDoorKDMCS3
import Derived.Test.YtikgmhplgbdmjaaDoorKDMCS4
/- The generators of values and fields: their contracts. No condition. -/
set_option linter.unusedVariables false
set_option linter.unusedSimpArgs false
set_option maxRecDepth 100000
namespace Go.Avc
open Go Go.Proofs

def repL (s : ByteArray) (c : Int) : ByteArray := ⟨(Lib.repeatL s.data.toList c.toNat).toArray⟩
theorem repL_size (s : ByteArray) {c : Int} (h : 0 ≤ c) : ((repL s c).size : Int) = c * s.size := by
  show (((Lib.repeatL s.data.toList c.toNat).toArray.size : Nat) : Int) = _
  rw [List.size_toArray, Lib.repeatL_length, Array.length_toList, Int.natCast_mul, Int.toNat_of_nonneg h]
  rfl
def rep2S  : Spec where
  pre xs := ∃ (s : ByteArray) (c : Int), xs = [.str s, .i c] ∧ (0 ≤ c ∧ c ≤ 1000 ∧ s.size ≤ 1000000)
  post xs y := ∃ (s : ByteArray) (c : Int), xs = [.str s, .i c] ∧ y = .str (repL s c)
  cost _ := 0
  fresh := true
theorem rep2S_c  (xs : List AV) : (rep2S).cost xs = 0 := nr rfl
theorem rep2S_f  : (rep2S).fresh = true := nr rfl
theorem rep2S_q  (s : ByteArray) (c : Int) : (rep2S).pre [.str s, .i c] = (0 ≤ c ∧ c ≤ 1000 ∧ s.size ≤ 1000000) := propext ⟨fun h => by
  have h' : ∃ (s' : ByteArray) (c' : Int), ([.str s, .i c] : List AV) = [.str s', .i c'] ∧ (0 ≤ c' ∧ c' ≤ 1000 ∧ s'.size ≤ 1000000) := h
  obtain ⟨s', c', e, h⟩ := h'
  simp only [List.cons.injEq, AV.dv.injEq, AV.fv.injEq, DV.d.injEq, DV.ag.injEq, D.int.injEq, D.str.injEq, D.bool.injEq, D.sl.injEq, true_and, and_true, intsDi_inj, rowsT_inj, rowsKi_inj] at e
  obtain ⟨rfl, rfl⟩ := e
  exact h, fun h => ⟨s, c, rfl, h⟩⟩
theorem rep2S_p  (s : ByteArray) (c : Int) : (rep2S).post [.str s, .i c] = fun y => y = .str (repL s c) := funext fun y => propext ⟨fun h => by
  have h' : ∃ (s' : ByteArray) (c' : Int), ([.str s, .i c] : List AV) = [.str s', .i c'] ∧ y = .str (repL s' c') := h
  obtain ⟨s', c', e, h⟩ := h'
  simp only [List.cons.injEq, AV.dv.injEq, AV.fv.injEq, DV.d.injEq, DV.ag.injEq, D.int.injEq, D.str.injEq, D.bool.injEq, D.sl.injEq, true_and, and_true, intsDi_inj, rowsT_inj, rowsKi_inj] at e
  obtain ⟨rfl, rfl⟩ := e
  exact h, fun h => ⟨s, c, rfl, h⟩⟩
theorem rep2_ctr {cx : Cx} (h : Seat cx) : Ctr cx 20 rep2S := by
  refine ctr_flat (by rw [h.hP]; exact ⟨_, Tryd.func20, by kernel_rfl, by kernel_rfl⟩) (fun _ => rfl) ?_
  rintro xs ⟨s, c, rfl, h1, h2, h3⟩
  obtain ⟨n, rfl⟩ : ∃ n : Nat, c = n := ⟨c.toNat, by omega⟩
  refine ⟨_, .str (repL s n), _, rfl, ⟨s, n, rfl, rfl⟩, rfl, fun w hw => ?_⟩
  rw [h.hP]
  exact Tryd.strings_Repeat s n w (by omega) (Nat.le_trans (Nat.mul_le_mul h3 (show n ≤ 1000 by omega)) (by decide))
theorem exV {k n : Int} {s : ByteArray} (h1 : okI k) (h2 : okS s) (h3 : okI n) : ∃ v : TValue, v.ok ∧ [D.int .i64 k, D.str s, D.int .i64 n] = v.row := ⟨⟨k, s, n⟩, ⟨h1, h2, h3⟩, rfl⟩
def valueG : Spec where
  pre xs := xs = [.st]
  post xs y := ∃ v : TValue, v.ok ∧ y = .dv (.ag v.row)
  cost _ := 6
  fresh := false
set_option maxHeartbeats 8000000 in
theorem Value_ctr {cx : Cx} (h : Seat cx) : Ctr cx 39 valueG := by
  refine ctr_of (fn := Tryd.f39) (l := [.cell 2 71]) (envL [(25, nextS), (14, pickS), (19, flipS), (71, oneS), (20, rep2S)]) [0, 2, 3, 9, 14, 20, 26, 32, 34, 41, 47] [] [] (envL_cons (next_ctr cx h.hP h.hS) (envL_cons (pick_ctr cx h.hP h.hS) (envL_cons (flip_ctr cx h.hP h.hS) (envL_cons (one_ctr h) (envL_cons (rep2_ctr h) (env0 h.hP)))))) ?_ (by rw [h.hP]; exact Tryd.func39) rfl (by kernel_rfl) rfl ?_ ?_
  · rw [h.hP]; exact ⟨_, Tryd.func39, by kernel_rfl, by kernel_rfl⟩
  · rintro xs rfl; exact ⟨_, TValue.z, TValue.z_ok, rfl⟩
  · rintro xs rfl
    refine ⟨by rw [Tryd.ntmps39]; simp, ?_⟩
    simp only [go_sem, h.hP, List.cons_append, List.nil_append, Meets_e, Below_e, Prod.exists, exists_eq, exists_eq_left, exists_eq_left', exists_eq_right, exists_eq_right', exists_and_left, exists_and_right, Ob.arr.injEq, AV.own.injEq, AV.fv.injEq, valueG, nextS_q, nextS_p, nextS_c, nextS_f, pickS_q, pickS_p, pickS_c, pickS_f, flipS_q, flipS_p, flipS_c, flipS_f, oneS_q, oneS_p, oneS_c, oneS_f, rep2S_q, rep2S_p, rep2S_c, rep2S_f, ints1, intsc, strs1, strsc, Tryd.ntmps39, Nat.reduceEqDiff, reduceCtorEq, Nat.reduceMul, Nat.reduceAdd, Nat.reduceSub, Nat.reduceDiv, Nat.reduceMod, Nat.reduceLeDiff, Nat.reduceLT, Nat.reduceBNe, Nat.reduceBEq, reduceIte, Int.reduceLE, Int.reduceLT, Int.reduceToNat, Int.reduceNeg, Int.reduceAdd, Int.reduceSub, Int.reduceMul, Int.reduceEq]
    ((repeat' (first | with_reducible apply And.intro | with_reducible intro)) <;> refine exV ?_ ?_ ?_ <;> first | exact isIn_ok (by assumption) (by decide) | exact okS_z | exact okS_of (isOf_ok (by assumption) (by decide +kernel)) | exact ⟨by omega, by omega⟩)
def namesL : List ByteArray := [⟨#[97, 103, 101]⟩, ⟨#[99, 105, 116, 121]⟩, ⟨#[106, 111, 105, 110, 101, 100]⟩, ⟨#[110, 97, 109, 101]⟩, ⟨#[112, 108, 97, 110]⟩, ⟨#[118, 105, 112]⟩]
def namesD : List D := namesL.map D.str
theorem namesD_len : namesD.length = 6 := rfl
theorem namesD_take : namesD.take 6 = namesD := rfl
theorem namesD_get (n : Nat) : namesD.getD n (.str ⟨#[]⟩) = .str (namesL.getD n ⟨#[]⟩) := by
  unfold namesD
  rw [List.getD_eq_getElem?_getD, List.getD_eq_getElem?_getD, List.getElem?_map]
  cases namesL[n]? <;> rfl
theorem names_ok (n : Nat) : okS (namesL.getD n ⟨#[]⟩) := okS_of (all_get (p := fun s : ByteArray => s.size ≤ 1000) (fun x hx => by simpa using List.all_eq_true.1 (show namesL.all (fun y => decide (y.size ≤ 1000)) = true by decide) x hx) (by decide) n)
def fieldsG : Spec where
  pre xs := ∃ m : Int, xs = [.st, .i m]
  post xs y := ∃ (m : Int) (l : List TField), xs = [.st, .i m] ∧ l.length ≤ 7 ∧ (∀ x ∈ l, x.ok) ∧ y = .sl (TField.rows l)
  cost _ := 60
  fresh := false
set_option maxHeartbeats 8000000 in
theorem Fields_own {cx : Cx} (h : Seat cx) (hN : cx.glob 0 = some namesD) : CtrO cx 40 fieldsG 76 4 := by
  refine ctrO_of (fn := Tryd.f40) (t := 4) (envL [(39, valueG), (19, flipS), (71, oneS), (20, rep2S)]) [0, 1, 4, 5, 7, 8, 9, 10, 19, 29] [] [] (envL_cons (Value_ctr h) (envL_cons (flip_ctr cx h.hP h.hS) (envL_cons (one_ctr h) (envL_cons (rep2_ctr h) (env0 h.hP))))) ?_ (by rw [h.hP]; exact Tryd.func40) rfl (by kernel_rfl) rfl ?_
  · rw [h.hP]; exact ⟨_, Tryd.func40, by kernel_rfl, by kernel_rfl⟩
  · rintro xs ⟨m, rfl⟩
    refine ⟨by rw [Tryd.ntmps40]; simp, ?_⟩
    simp only [go_sem, h.hP, List.cons_append, List.nil_append, Meets_e, Below_e, Prod.exists, exists_eq, exists_eq_left, exists_eq_left', exists_eq_right, exists_eq_right', exists_and_left, exists_and_right, Ob.arr.injEq, AV.own.injEq, AV.fv.injEq, fieldsG, flipS_q, flipS_p, flipS_c, flipS_f, hN, Tryd.ntmps40, Nat.reduceEqDiff, reduceCtorEq, Nat.reduceMul, Nat.reduceAdd, Nat.reduceSub, Nat.reduceDiv, Nat.reduceMod, Nat.reduceLeDiff, Nat.reduceLT, Nat.reduceBNe, Nat.reduceBEq, reduceIte, Int.reduceLE, Int.reduceLT, Int.reduceToNat, Int.reduceNeg, Int.reduceAdd, Int.reduceSub, Int.reduceMul, Int.reduceEq]
    refine ⟨by rw [namesD_len]; decide, ?_⟩
    refine vc_loopS (Int × List TField) (fun (x : Int × List TField) => match x with | (i, l) => [(5, .own 5), (9, .i i)]) [] (fun (x : Int × List TField) => match x with | (i, l) => []) (fun (x : Int × List TField) => match x with | (i, l) => [(5, .arr 76 4 (TField.rows l))]) (fun (x : Int × List TField) => match x with | (i, l) => 7 * i.toNat) (fun (x : Int × List TField) => match x with | (i, l) => 0 ≤ i ∧ i ≤ 6 ∧ (l.length : Int) ≤ i ∧ ∀ c ∈ l, c.ok) (fun (x : Int × List TField) => match x with | (i, l) => (6 - i).toNat) [(5, 76, 4)] ?_ ?_
    · simp only [go_sem, h.hP, List.cons_append, List.nil_append, Meets_e, Below_e, Prod.exists, exists_eq, exists_eq_left, exists_eq_left', exists_eq_right, exists_eq_right', exists_and_left, exists_and_right, Ob.arr.injEq, AV.own.injEq, AV.fv.injEq, TField.nil2, Tryd.ntmps40, Nat.reduceEqDiff, reduceCtorEq, Nat.reduceMul, Nat.reduceAdd, Nat.reduceSub, Nat.reduceDiv, Nat.reduceMod, Nat.reduceLeDiff, Nat.reduceLT, Nat.reduceBNe, Nat.reduceBEq, reduceIte, Int.reduceLE, Int.reduceLT, Int.reduceToNat, Int.reduceNeg, Int.reduceAdd, Int.reduceSub, Int.reduceMul, Int.reduceEq]
      exact Int.le_refl _
    · rintro ⟨i, l⟩ ⟨j1, j2, j3, j4⟩
      have hw : IntKind.i64.wrap (i + 1) = i + 1 := i64w (by omega) (by omega)
      simp only [go_sem, h.hP, List.cons_append, List.nil_append, Meets_e, Below_e, Prod.exists, exists_eq, exists_eq_left, exists_eq_left', exists_eq_right, exists_eq_right', exists_and_left, exists_and_right, Ob.arr.injEq, AV.own.injEq, AV.fv.injEq, fieldsG, flipS_q, flipS_p, flipS_c, flipS_f, oneS_q, oneS_p, oneS_c, oneS_f, rep2S_q, rep2S_p, rep2S_c, rep2S_f, valueG, strs1, strsc, TValue.row, TField.fold1, TField.app', TField.rows_inj, TField.zlT, TField.len, TField.flat, List.length_append, List.length_singleton, namesD_len, namesD_take, namesD_get, hw, Tryd.ntmps40, Nat.reduceEqDiff, reduceCtorEq, Nat.reduceMul, Nat.reduceAdd, Nat.reduceSub, Nat.reduceDiv, Nat.reduceMod, Nat.reduceLeDiff, Nat.reduceLT, Nat.reduceBNe, Nat.reduceBEq, reduceIte, Int.reduceLE, Int.reduceLT, Int.reduceToNat, Int.reduceNeg, Int.reduceAdd, Int.reduceSub, Int.reduceMul, Int.reduceEq]
      have fin : ∀ {n : ByteArray} {v : TValue}, okS n → v.ok → i ≤ 6 → ∃ x : List TField, x.length ≤ 7 ∧ (∀ c ∈ x, c.ok) ∧ l ++ [⟨n, ⟨v.kind, v.text, v.number⟩⟩] = x := fun h1 h2 _ => ⟨_, by rw [List.length_append, List.length_singleton]; omega, okL_app j4 ⟨h1, h2⟩, rfl⟩
      clear hw
      ((repeat' (first | with_reducible apply And.intro | with_reducible intro)) <;> try first | omega | assumption | exact okL_mem (by assumption) j4 ⟨names_ok _, by assumption⟩ | exact fin (okS_of (isOf_ok (by assumption) (by decide +kernel))) (by assumption) j2 | exact ⟨l, by omega, j4, rfl⟩ | exact j4 _ (by assumption))
end Go.Avc

/- The tables of unicode/utf8, from a row's list to what the walks ask. No condition. -/
set_option linter.unusedVariables false
set_option maxRecDepth 100000
namespace Go.Avc
open Go Go.Proofs

def acceptL : List Int := (List.range 16).flatMap fun i => [(Lib.accLo i : Int), (Lib.accHi i : Int)]
def globU : Nat → Option (List D)
  | 2 => some (Lib.firstTab.map (D.int .u8))
  | 3 => some (acceptL.map (D.int .u8))
  | _ => none
theorem glob_first {cs : List Value} {ok : Nat → Prop} {w : World} {l : List Int} (h : RdL ok w (l.map (D.int .u8)) cs) (i : Nat) (hi : i < l.length) : cs[i]? = some (.int .u8 (l.getD i 0)) := by
  obtain ⟨v, hv, hr⟩ := h.get (j := i) (x := D.int .u8 (l.getD i 0)) (by rw [List.getElem?_map, List.getD_eq_getElem?_getD, List.getElem?_eq_getElem hi]; rfl)
  rw [hv]
  cases hr
  rfl
theorem rdL_ints {ok : Nat → Prop} {w : World} (l : List Int) : RdL ok w (l.map (D.int .u8)) (l.map (Value.int .u8)) := ⟨by rw [List.length_map, List.length_map], fun j x v hx hv => by
  rw [List.getElem?_map] at hx hv
  obtain ⟨n, hn, rfl⟩ := Option.map_eq_some_iff.1 hx
  rw [hn] at hv
  cases hv
  exact .int _ _⟩
theorem accept_at : ∀ i, i < 16 → acceptL.getD (2 * i) 0 = Lib.accLo i ∧ acceptL.getD (2 * i + 1) 0 = Lib.accHi i := by decide +kernel
theorem utf8_of_glob {cx : Cx} {W0 : Cx} (hW : W0.glob = globU) (h : ∀ w, GlAt cx w → GlAt W0 w) : Utf8 cx := by
  intro w hw
  have hg := h w hw
  obtain ⟨_, _, cs, hc, hr⟩ := hg 2 _ (by rw [hW]; rfl)
  obtain ⟨_, _, cs', hc', hr'⟩ := hg 3 _ (by rw [hW]; rfl)
  have hl : Lib.firstTab.length = 256 := by unfold Lib.firstTab; rw [List.length_map, List.length_range]
  have hl' : acceptL.length = 32 := by decide +kernel
  refine ⟨fun c hc0 => ?_, fun i hi => ?_⟩
  · have := hc c _ (glob_first hr c (by omega))
    rw [this]
    unfold Lib.firstTab
    rw [List.getD_eq_getElem?_getD, List.getElem?_map, List.getElem?_range hc0]
    rfl
  · obtain ⟨e1, e2⟩ := accept_at i hi
    have h1 := hc' (2 * i) _ (glob_first hr' (2 * i) (by omega))
    have h2 := hc' (2 * i + 1) _ (glob_first hr' (2 * i + 1) (by omega))
    rw [e1] at h1
    rw [e2] at h2
    exact ⟨h1, h2⟩
theorem glAt_of_tabs {W : World} {L : List Int} {ST : TypeId} (h : Lib.Utf8Tabs 2 3 W) : GlAt ⟨Tryd.prog, none, L, ST, 5, globU⟩ W := by
  obtain ⟨h1, h2⟩ := h
  have hin : ∀ (b o : Nat) (v : Value), W.cell? ⟨b, o, none⟩ = some v → b < W.heap.size := fun b o v hv => by
    by_cases hb : b < W.heap.size
    · exact hb
    · unfold World.cell? at hv
      rw [Array.getElem?_eq_none (show W.heap.size ≤ b by omega)] at hv
      cases hv
  intro k l hk
  have hk' : globU k = some l := hk
  have hl' : acceptL.length = 32 := by decide +kernel
  match k, hk' with
  | 2, hk' =>
    cases hk'
    refine ⟨Nat.lt_of_sub_eq_succ rfl, hin _ _ _ (h1 0 (by decide)), Lib.firstTab.map (Value.int .u8), fun j u hj => ?_, rdL_ints _⟩
    rw [List.getElem?_map] at hj
    obtain ⟨n, hn, rfl⟩ := Option.map_eq_some_iff.1 hj
    unfold Lib.firstTab at hn
    rw [List.getElem?_map] at hn
    obtain ⟨c, hc, rfl⟩ := Option.map_eq_some_iff.1 hn
    have hc1 := (List.getElem?_eq_some_iff.1 hc).1
    rw [List.length_range] at hc1
    rw [List.getElem?_range hc1] at hc
    cases hc
    exact h1 _ hc1
  | 3, hk' =>
    cases hk'
    refine ⟨Nat.lt_of_sub_eq_succ rfl, hin _ _ _ (h2 0 (by decide)).1, acceptL.map (Value.int .u8), fun j u hj => ?_, rdL_ints _⟩
    rw [List.getElem?_map] at hj
    obtain ⟨n, hn, rfl⟩ := Option.map_eq_some_iff.1 hj
    have hj1 := (List.getElem?_eq_some_iff.1 hn).1
    have hn' : acceptL.getD j 0 = n := by rw [List.getD_eq_getElem?_getD, hn]; rfl
    obtain ⟨e1, e2⟩ := accept_at (j / 2) (by omega)
    obtain ⟨g1, g2⟩ := h2 (j / 2) (by omega)
    rcases Nat.mod_two_eq_zero_or_one j with hm | hm
    · have hj2 : 2 * (j / 2) = j := by omega
      rw [hj2] at e1 g1
      rw [← hn', e1]
      exact g1
    · have hj2 : 2 * (j / 2) + 1 = j := by omega
      rw [hj2] at e2 g2
      rw [← hn', e2]
      exact g2
theorem u8Extra : U8Extra Tryd.prog Tryd.lays260_ren := ⟨by kernel_rfl, by kernel_rfl, by kernel_rfl, by kernel_rfl, by kernel_rfl, by kernel_rfl, by kernel_rfl⟩
theorem first_eq : YtikgmhplgbdmjaaDoor.Rows.laid_unicode_utf8_first = Lib.firstData := by kernel_rfl
theorem accept_eq : (YtikgmhplgbdmjaaDoor.Rows.laid_unicode_utf8_acceptRanges : DataW Unit) = Lib.acceptData := by kernel_rfl
/-- A row that lists the two tables, first of all: they lie so. -/
theorem tabs_of_laid {W : World} (h : laidMet Tryd.prog [("unicode/utf8.acceptRanges", YtikgmhplgbdmjaaDoor.Rows.laid_unicode_utf8_acceptRanges), ("unicode/utf8.first", YtikgmhplgbdmjaaDoor.Rows.laid_unicode_utf8_first)] W) : Lib.Utf8Tabs 2 3 W := by
  rw [first_eq, accept_eq] at h
  exact utf8Tabs_of_reads Tryd.lays260 u8Extra (Lib.laidMet.reads h (by simp)) (Lib.laidMet.reads h (by simp))
/-- The package-level variables are there. -/
theorem ng_of_shaped {W : World} (h : W.ShapedOpen Tryd.prog) : 5 ≤ W.heap.size := by
  have h0 : (((begin Tryd.prog (fun _ _ => 0) default).world.heap[4]?).bind Obj.row?).isSome = true := by kernel_rfl
  obtain ⟨⟨zero, t⟩, hz⟩ := Option.isSome_iff_exists.1 h0
  obtain ⟨cs, hc, _⟩ := h.1 4 zero t (of_decide_eq_true (by kernel_rfl)) hz
  have := (Array.getElem?_eq_some_iff.1 hc).1
  omega
/-- A world for a witness: the two tables hold what the program lays. -/
noncomputable def laidWorld (os : Os) : World :=
  { World.holding Tryd.prog os ⟨#[], #[], []⟩ with heap := (((World.holding Tryd.prog os ⟨#[], #[], []⟩).heap.modify 2 (fun o => match o with
      | .cells _ t frozen => .cells (Lib.firstTab.map (Value.int .u8)).toArray t frozen
      | o => o)).modify 3 (fun o => match o with
      | .cells _ t frozen => .cells (acceptL.map (Value.int .u8)).toArray t frozen
      | o => o)) }
theorem laid_met (os : Os) (args : Array Value) : laidMet Tryd.prog [("unicode/utf8.acceptRanges", YtikgmhplgbdmjaaDoor.Rows.laid_unicode_utf8_acceptRanges), ("unicode/utf8.first", YtikgmhplgbdmjaaDoor.Rows.laid_unicode_utf8_first)] ((laidWorld os).forCall (fun _ _ => 0) ⟨#[], args, []⟩).memory :=
  laidMet_of_run' 8 (by kernel_rfl) (by kernel_rfl)
end Go.Avc

/- Ids: their forms, check signs and order: plain law. No condition. -/
set_option linter.unusedVariables false
set_option linter.unusedSimpArgs false
set_option maxRecDepth 100000
namespace Go.Avc
open Go Go.Proofs

def cutL (s p : ByteArray) : ByteArray := ⟨(Lib.cut s.data.toList p.data.toList).1.toArray⟩
def cutR (s p : ByteArray) : ByteArray := ⟨(Lib.cut s.data.toList p.data.toList).2.1.toArray⟩
def cutB (s p : ByteArray) : Bool := (Lib.cut s.data.toList p.data.toList).2.2
theorem size_list (l : List UInt8) : (⟨l.toArray⟩ : ByteArray).size = l.length := rfl
theorem len_size (s : ByteArray) : s.data.toList.length = s.size := Array.length_toList
theorem cutL_size (s p : ByteArray) : (cutL s p).size ≤ s.size := by
  unfold cutL
  rw [size_list, ← len_size s]
  unfold Lib.cut
  split
  · show (List.take _ _).length ≤ _
    rw [List.length_take]; omega
  · exact Nat.le_refl _
theorem cutR_size (s p : ByteArray) : (cutR s p).size ≤ s.size := by
  unfold cutR
  rw [size_list, ← len_size s]
  unfold Lib.cut
  split
  · show (List.drop _ _).length ≤ _
    rw [List.length_drop]; omega
  · exact Nat.zero_le _
def splitS (s p : ByteArray) : List ByteArray := Lib.splitB p 0 (Lib.countB s p) s
theorem splitB_size (p : ByteArray) : ∀ (k : Nat) (s x : ByteArray), x ∈ Lib.splitB p 0 k s → x.size ≤ s.size
  | 0, s, x, h => by
    rw [Lib.splitB_zero, List.mem_singleton] at h
    rw [h]; exact Nat.le_refl _
  | k + 1, s, x, h => by
    unfold Lib.splitB at h
    split at h
    · rw [List.mem_singleton] at h
      rw [h]; exact Nat.le_refl _
    · rcases List.mem_cons.1 h with e | e
      · rw [e, ByteArray.size_extract]; omega
      · have := splitB_size p k _ x e
        rw [ByteArray.size_extract] at this
        omega
theorem splitS_size {s p x : ByteArray} (h : x ∈ splitS s p) : x.size ≤ s.size := splitB_size p _ s x h
theorem splitS_get (s p : ByteArray) (i : Nat) : ((splitS s p).getD i ⟨#[]⟩).size ≤ s.size := by
  rw [List.getD_eq_getElem?_getD]
  cases e : (splitS s p)[i]? with
  | none => exact Nat.zero_le _
  | some x => exact splitS_size (List.mem_of_getElem? e)
theorem splitS_len {s p : ByteArray} (h : 1 ≤ p.size) : (splitS s p).length = Lib.countB s p + 1 := Lib.splitB_all p h 0 _ s rfl
theorem splitS_le {s p : ByteArray} (h : 1 ≤ p.size) : (splitS s p).length ≤ s.size + 1 := by
  rw [splitS_len h]
  have := Lib.countB_le p h s.size s (Nat.le_refl _)
  omega
def conS (s p : ByteArray) : Bool := Lib.contains s.data.toList p.data.toList
def preS (s p : ByteArray) : Bool := Lib.hasPrefix s.data.toList p.data.toList
/-- Trim at one byte leaves a string as it is: it neither begins nor ends with the byte. -/
theorem drop_same {α : Type} {p : α → Bool} : ∀ {l : List α}, l.dropWhile p = l ↔ ∀ x, l.head? = some x → p x = false
  | [] => by simp
  | x :: l => by
    cases h : p x with
    | true =>
      rw [List.dropWhile_cons_of_pos h]
      constructor
      · intro e
        have := congrArg List.length e
        have h2 : (l.dropWhile p).length ≤ l.length := (List.dropWhile_sublist p).length_le
        simp at this
        omega
      · intro e
        have := e x rfl
        rw [h] at this
        cases this
    | false =>
      rw [List.dropWhile_cons_of_neg (by simp [h])]
      simp [h]
theorem trim_same (l : List UInt8) (c : UInt8) : Lib.trimS l [c] = l ↔ l.head? ≠ some c ∧ l.getLast? ≠ some c := by
  have hp : ∀ x : UInt8, [c].contains x = false ↔ x ≠ c := fun x => by simp
  have hR : Lib.trimRightS l [c] = l ↔ l.getLast? ≠ some c := by
    unfold Lib.trimRightS
    rw [List.reverse_eq_iff, drop_same]
    rw [List.head?_reverse]
    constructor
    · intro h e
      have := h c e
      rw [hp] at this
      exact this rfl
    · intro h x hx
      rw [hp]
      intro e
      rw [e] at hx
      exact h hx
  have hL : ∀ m : List UInt8, Lib.trimLeftS m [c] = m ↔ m.head? ≠ some c := fun m => by
    unfold Lib.trimLeftS
    rw [drop_same]
    constructor
    · intro h e
      have := h c e
      rw [hp] at this
      exact this rfl
    · intro h x hx
      rw [hp]
      intro e
      rw [e] at hx
      exact h hx
  have hlR : (Lib.trimRightS l [c]).length ≤ l.length := by
    unfold Lib.trimRightS
    rw [List.length_reverse]
    have := (List.dropWhile_sublist (l := l.reverse) fun x => [c].contains x).length_le
    rwa [List.length_reverse] at this
  unfold Lib.trimS
  constructor
  · intro h
    have h1 : (Lib.trimLeftS (Lib.trimRightS l [c]) [c]).length ≤ (Lib.trimRightS l [c]).length := (List.dropWhile_sublist _).length_le
    rw [h] at h1
    have h2 : Lib.trimRightS l [c] = l := by
      have hs : (Lib.trimRightS l [c]).Sublist l := by
        unfold Lib.trimRightS
        have := (List.dropWhile_sublist (l := l.reverse) fun x => [c].contains x).reverse
        rwa [List.reverse_reverse] at this
      exact hs.eq_of_length (by omega)
    rw [h2] at h
    exact ⟨(hL l).1 h, hR.1 h2⟩
  · rintro ⟨h1, h2⟩
    rw [hR.2 h2, (hL l).2 h1]
theorem bt_head {s : ByteArray} (h : 1 ≤ s.size) (c : UInt8) : s.data.toList.head? ≠ some c ↔ bt s 0 ≠ (c.toNat : Int) := by
  cases hd : s.data.toList with
  | nil => rw [← len_size, hd] at h; cases h
  | cons x r =>
    have : bt s 0 = (x.toNat : Int) := by unfold bt; rw [hd]; rfl
    rw [this]
    simp only [List.head?_cons, ne_eq, Option.some.injEq, Int.natCast_inj]
    exact ⟨fun h e => h (UInt8.toNat_inj.1 e), fun h e => h (by rw [e])⟩
theorem bt_last {s : ByteArray} (h : 1 ≤ s.size) (c : UInt8) : s.data.toList.getLast? ≠ some c ↔ bt s ((s.size : Int) - 1) ≠ (c.toNat : Int) := by
  have hl := len_size s
  have e1 : ((s.size : Int) - 1).toNat = s.size - 1 := by omega
  have hlt : s.size - 1 < s.data.toList.length := by omega
  have : bt s ((s.size : Int) - 1) = ((s.data.toList[s.size - 1]'hlt).toNat : Int) := by
    unfold bt
    rw [e1, List.getD_eq_getElem?_getD, List.getElem?_eq_getElem hlt]; rfl
  rw [this, List.getLast?_eq_getElem?, hl, List.getElem?_eq_getElem hlt]
  simp only [ne_eq, Option.some.injEq, Int.natCast_inj]
  exact ⟨fun h e => h (UInt8.toNat_inj.1 e), fun h e => h (by rw [e])⟩
theorem ba_eq {s t : ByteArray} : s = t ↔ s.data.toList = t.data.toList := ⟨fun h => by rw [h], fun h => ByteArray.ext (Array.ext' h)⟩
theorem trim_one {s : ByteArray} (h : 1 ≤ s.size) (c : UInt8) : trimF s ⟨#[c]⟩ = s ↔ bt s 0 ≠ (c.toNat : Int) ∧ bt s ((s.size : Int) - 1) ≠ (c.toNat : Int) := by
  rw [ba_eq]
  unfold trimF
  show Lib.trimS s.data.toList [c] = _ ↔ _
  rw [trim_same, bt_head h, bt_last h]
theorem all_no {α : Type} {l : List α} {p : α → Bool} {i : Nat} {d : α} (hi : i < l.length) (h : p (l.getD i d) = false) : l.all p = false := by
  cases e : l.all p with
  | false => rfl
  | true =>
    rw [List.all_eq_true] at e
    have := e _ (List.getElem_mem hi)
    rw [List.getD_eq_getElem?_getD, List.getElem?_eq_getElem hi, Option.getD_some] at h
    rw [h] at this
    cases this
theorem all_yes {α : Type} {l : List α} {p : α → Bool} (d : α) (h : ∀ j : Nat, j < l.length → p (l.getD j d) = true) : l.all p = true := by
  rw [List.all_eq_true]
  intro x hx
  obtain ⟨k, hk, rfl⟩ := List.mem_iff_getElem.1 hx
  have := h k hk
  rwa [List.getD_eq_getElem?_getD, List.getElem?_eq_getElem hk] at this
/-! ### The forms -/
def labC (c : Int) : Bool := smallC c || digitC c || (c == 45)
def locC (c : Int) : Bool := smallC c || digitC c || (c == 46) || (c == 45) || (c == 95)
def memC (c : Int) : Bool := digitC c || capitalC c
def hexC (c : Int) : Bool := digitC c || decide (97 ≤ c ∧ c ≤ 102)
def labelB (s : ByteArray) : Bool := inB s.size 1 30 && decide (bt s 0 ≠ 45) && decide (bt s ((s.size : Int) - 1) ≠ 45) && (bl s).all labC
def atS : ByteArray := ⟨#[64]⟩
def dotS : ByteArray := ⟨#[46]⟩
def dotsS : ByteArray := ⟨#[46, 46]⟩
def plusS : ByteArray := ⟨#[43]⟩
def localB (s : ByteArray) : Bool := inB s.size 1 64 && decide (bt s 0 ≠ 46) && decide (bt s ((s.size : Int) - 1) ≠ 46) && !conS s dotsS && (bl s).all locC
def mailB (s : ByteArray) : Bool := cutB s atS && decide ((s.size : Int) ≤ 80) && localB (cutL s atS) && (splitS (cutR s atS) dotS).all labelB && decide (2 ≤ (splitS (cutR s atS) dotS).length)
def phoneB (s : ByteArray) : Bool := preS s plusS && inB s.size 8 16 && (bl (s.extract 1 s.size)).all digitC && decide (bt s 1 ≠ 48)
def memberB (s : ByteArray) : Bool := inB s.size 4 20 && (bl s).all memC
def deviceB (s : ByteArray) : Bool := decide ((s.size : Int) = 32) && (bl s).all hexC
/-- the check sign -/
def idxC (c : Int) : Int := if digitC c = true then c - 48 else c - 55
def termS (s : ByteArray) (i : Nat) : Int := let p := if (s.size - i) % 2 = 1 then 2 * idxC (bt s i) else idxC (bt s i); p / 36 + p % 36
def sumUp (s : ByteArray) : Nat → Int
  | 0 => 0
  | n + 1 => sumUp s n + termS s n
def signN (s : ByteArray) : Int := (36 - sumUp s s.size % 36) % 36
def signsB : ByteArray := ⟨#[48, 49, 50, 51, 52, 53, 54, 55, 56, 57, 65, 66, 67, 68, 69, 70, 71, 72, 73, 74, 75, 76, 77, 78, 79, 80, 81, 82, 83, 84, 85, 86, 87, 88, 89, 90]⟩
theorem idxC_in {c : Int} (h : memC c = true) : 0 ≤ idxC c ∧ idxC c ≤ 35 := by
  unfold memC digitC capitalC at h
  unfold idxC digitC
  simp only [Bool.or_eq_true, decide_eq_true_eq] at h
  split <;> rename_i c1 <;> simp only [decide_eq_true_eq] at c1 <;> omega
theorem idx_signs : ∀ c : UInt8, memC (c.toNat : Int) = true → Lib.indexByte signsB.data.toList c = idxC (c.toNat : Int) := by
  have h := u8_all (p := fun c => !memC (c.toNat : Int) || (Lib.indexByte signsB.data.toList c == idxC (c.toNat : Int))) (by decide +kernel)
  intro c hc
  have := h c
  rw [hc] at this
  simpa using this
theorem bt_u8 (s : ByteArray) (i : Int) : (bt s i).toNat.toUInt8 = s.data.toList.getD i.toNat 0 := by
  unfold bt
  rw [Int.toNat_natCast]
  exact UInt8.ofNat_toNat
theorem idx_bt {s : ByteArray} {i : Int} (h : memC (bt s i) = true) : Lib.indexByte signsB.data.toList (bt s i).toNat.toUInt8 = idxC (bt s i) := by
  rw [bt_u8]
  exact idx_signs _ h
theorem all_at {s : ByteArray} {p : Int → Bool} (h : (bl s).all p = true) {i : Int} (h0 : 0 ≤ i) (h1 : i < s.size) : p (bt s i) = true := by
  rw [all_bt] at h
  have := h i.toNat (by omega)
  rwa [Int.toNat_of_nonneg h0] at this
theorem term_in {s : ByteArray} (h : (bl s).all memC = true) {i : Nat} (hi : i < s.size) : 0 ≤ termS s i ∧ termS s i ≤ 36 := by
  have := idxC_in (all_at h (i := i) (by omega) (by omega))
  unfold termS
  simp only
  split <;> omega
theorem sumUp_in {s : ByteArray} (h : (bl s).all memC = true) : ∀ n, n ≤ s.size → 0 ≤ sumUp s n ∧ sumUp s n ≤ 36 * n
  | 0, _ => ⟨Int.le_refl _, Int.le_refl _⟩
  | n + 1, hn => by
    have h1 := sumUp_in h n (by omega)
    have h2 := term_in h (i := n) (by omega)
    unfold sumUp
    omega
theorem signN_in (s : ByteArray) : 0 ≤ signN s ∧ signN s < 36 := by
  unfold signN
  omega
/-- What is wrong with an id. -/
def initS (s : ByteArray) : ByteArray := s.extract 0 (s.size - 1)
def idF (x : TId) : Int := if x.kind = 1 then (if mailB x.text = true then 0 else 3) else if x.kind = 2 then (if phoneB x.text = true then 0 else 3) else
  if x.kind = 3 then (if memberB x.text = true then (if bt signsB (signN (initS x.text)) ≠ bt x.text ((x.text.size : Int) - 1) then 15 else 0) else 3) else
  if x.kind = 4 then (if deviceB x.text = true then 0 else 3) else 4
/-- Their order. -/
def cmpI (a b : Int) : Int := if a < b then -1 else if a > b then 1 else 0
def lessS (s t : ByteArray) : Bool := Op.bytesLess s.toList t.toList
def cmpT (s t : ByteArray) : Int := if lessS s t = true then -1 else if s = t then 0 else 1
def ordF (a b : TId) : Int := if a.kind < b.kind then -1 else if a.kind > b.kind then 1 else cmpT a.text b.text
end Go.Avc

/- Package-level tables of numbers, strings and structs of them, from a row's list to what the walks ask. No condition. -/
set_option linter.unusedVariables false
set_option linter.unusedSimpArgs false
set_option maxRecDepth 100000
namespace Go.Avc
open Go Go.Proofs

/-- A type whose cells are numbers, bools and strings only: how many. -/
def tileF (P : Program) (rec : TypeId → Option Nat) : List Field → Nat → Option Nat
  | [], o => some o
  | f :: r, o => match rec f.type with
    | some z => if f.offset = o ∧ P.cellsOf f.type = z then tileF P rec r (o + z) else none
    | none => none
def tile (P : Program) : Nat → TypeId → Option Nat
  | 0, _ => none
  | k + 1, t => match P.underlying t with
    | some (.int _) => some 1
    | some .bool => some 1
    | some .string => some 1
    | some (.struct fs) => (match tileF P (tile P k) fs.toList 0 with
      | some n => if P.cellsOf t = n then some n else none
      | none => none)
    | some (.array n e) => (match tile P k e with
      | some z => if P.cellsOf e = z ∧ P.cellsOf t = n * z then some (n * z) else none
      | none => none)
    | _ => none
mutual
def flatW {H : Type} : DataW H → Option (List D)
  | .lit (.int k z) => some [.int k z]
  | .lit (.bool b) => some [.bool b]
  | .lit (.string b) => some [.str ⟨b.toArray⟩]
  | .agg ds => flatWs ds
  | _ => none
def flatWs {H : Type} : List (DataW H) → Option (List D)
  | [] => some []
  | d :: r => match flatW d, flatWs r with
    | some l, some m => some (l ++ m)
    | _, _ => none
end
section
variable {H : Type} {enc : TypeId × Value → H} {P : Program} {w : World} {base : Nat} {sp : Nat → Bool} {held : Bool}
def TileOk (enc : TypeId × Value → H) (P : Program) (w : World) (base : Nat) (sp : Nat → Bool) (held : Bool) (k : Nat) : Prop := ∀ t n, tile P k t = some n → ∀ fuel cs d p, DataW.trod enc P w base sp held fuel t cs = some (d, p) → ∃ l, flatW d = some l ∧ cs = l.map vD ∧ l.length = n
theorem tile_fields {k : Nat} (ih : TileOk enc P w base sp held k) {n : Nat} {cs : List Value} : ∀ (fs : List Field) (o m : Nat) (xs : List (DataW H × List MemPlace)), tileF P (tile P k) fs o = some m → (fs.mapM fun f => DataW.trod enc P w base sp held n f.type ((cs.drop f.offset).take (P.cellsOf f.type))) = some xs → cs.length = m →
    ∃ l, flatWs (xs.map (·.1)) = some l ∧ cs.drop o = l.map vD ∧ o + l.length = m
  | [], o, m, xs, h, hx, hc => by
    cases h
    simp only [List.mapM_nil, Option.pure_def, Option.some.injEq] at hx
    subst hx
    exact ⟨[], rfl, by rw [List.drop_eq_nil_of_le (Nat.le_of_eq hc)]; rfl, rfl⟩
  | f :: r, o, m, xs, h, hx, hc => by
    unfold tileF at h
    split at h
    · rename_i z e
      split at h
      · rename_i hz
        obtain ⟨ho, hz⟩ := hz
        simp only [List.mapM_cons, Option.bind_eq_bind, Option.bind_eq_some_iff, Option.pure_def, Option.some.injEq] at hx
        obtain ⟨⟨d, p⟩, h1, ys, h2, rfl⟩ := hx
        obtain ⟨l, l1, l2, l3⟩ := ih _ _ e n _ d p h1
        obtain ⟨l', l4, l5, l6⟩ := tile_fields ih r (o + z) m ys h h2 hc
        rw [ho, hz] at l2
        refine ⟨l ++ l', ?_, ?_, by rw [List.length_append, l3]; omega⟩
        · rw [List.map_cons]
          unfold flatWs
          simp only [l1, l4]
        · rw [List.map_append, ← l2, ← l5, ← List.drop_drop, List.take_append_drop]
      · cases h
    · cases h
theorem tile_elems {k : Nat} (ih : TileOk enc P w base sp held k) {e : TypeId} {z n : Nat} (he : tile P k e = some z) {cs : List Value} : ∀ (m o : Nat) (xs : List (DataW H × List MemPlace)), ((List.range' o m).mapM fun i => DataW.trod enc P w base sp held n e ((cs.drop (i * z)).take z)) = some xs → cs.length = (o + m) * z →
    ∃ l, flatWs (xs.map (·.1)) = some l ∧ cs.drop (o * z) = l.map vD ∧ l.length = m * z
  | 0, o, xs, hx, hc => by
    simp only [List.range'_zero, List.mapM_nil, Option.pure_def, Option.some.injEq] at hx
    subst hx
    exact ⟨[], rfl, by rw [List.drop_eq_nil_of_le (by rw [hc]; exact Nat.le_refl _)]; rfl, (Nat.zero_mul z).symm⟩
  | m + 1, o, xs, hx, hc => by
    rw [List.range'_succ] at hx
    simp only [List.mapM_cons, Option.bind_eq_bind, Option.bind_eq_some_iff, Option.pure_def, Option.some.injEq] at hx
    obtain ⟨⟨d, p⟩, h1, ys, h2, rfl⟩ := hx
    obtain ⟨l, l1, l2, l3⟩ := ih _ _ he n _ d p h1
    obtain ⟨l', l4, l5, l6⟩ := tile_elems ih he m (o + 1) ys h2 (by rw [hc]; congr 1; omega)
    refine ⟨l ++ l', ?_, ?_, by rw [List.length_append, l3, l6, Nat.succ_mul]; omega⟩
    · rw [List.map_cons]
      unfold flatWs
      simp only [l1, l4]
    · rw [List.map_append, ← l2, ← l5, Nat.succ_mul, ← List.drop_drop, List.take_append_drop]
theorem tile_ok : ∀ k, TileOk enc P w base sp held k
  | 0 => fun t n h => by cases h
  | k + 1 => fun t n h fuel cs d p hd => by
    unfold tile at h
    split at h <;> rename_i hu
    · cases h
      obtain ⟨z, rfl, hx, _⟩ := DataW.trod_int hu hd
      cases hx
      exact ⟨_, rfl, rfl, rfl⟩
    · cases h
      obtain ⟨z, rfl, hx⟩ := DataW.trod_bool hu hd
      cases hx
      exact ⟨_, rfl, rfl, rfl⟩
    · cases h
      obtain ⟨z, rfl, hx, _⟩ := DataW.trod_string hu hd
      cases hx
      exact ⟨_, rfl, rfl, rfl⟩
    · rename_i fs
      split at h
      · rename_i m e
        split at h
        · rename_i hc
          cases h
          cases fuel with
          | zero => simp [DataW.trod] at hd
          | succ fuel =>
            change DataW.trodStep enc P w base sp held (DataW.trod enc P w base sp held fuel) t cs = _ at hd
            unfold DataW.trodStep at hd
            rw [hu] at hd
            simp only at hd
            split at hd
            · rename_i hl
              obtain ⟨xs, hx, hxs⟩ := Option.map_eq_some_iff.1 hd
              cases hxs
              obtain ⟨l, l1, l2, l3⟩ := tile_fields (tile_ok k) fs.toList 0 _ xs e hx (by rw [hl, hc])
              exact ⟨l, l1, by rw [List.drop_zero] at l2; exact l2, by omega⟩
            · cases hd
        · cases h
      · cases h
    · rename_i n' e
      split at h
      · rename_i z hz
        split at h
        · rename_i hc
          cases h
          cases fuel with
          | zero => simp [DataW.trod] at hd
          | succ fuel =>
            change DataW.trodStep enc P w base sp held (DataW.trod enc P w base sp held fuel) t cs = _ at hd
            unfold DataW.trodStep at hd
            rw [hu] at hd
            simp only at hd
            split at hd
            · rename_i hl
              obtain ⟨xs, hx, hxs⟩ := Option.map_eq_some_iff.1 hd
              cases hxs
              rw [hc.1, List.range_eq_range'] at hx
              obtain ⟨l, l1, l2, l3⟩ := tile_elems (tile_ok k) hz n' 0 xs hx (by rw [hl, hc.2, Nat.zero_add])
              exact ⟨l, l1, by rw [Nat.zero_mul, List.drop_zero] at l2; exact l2, l3⟩
            · cases hd
        · cases h
      · cases h
    · cases h
end
theorem vD_rd {ok : Nat → Prop} {w : World} {x : D} (h : x.flat = true) : Rd ok w x (match x with | .sl _ => .slice none 0 0 | x => vD x) := by
  cases x with
  | int k n => exact .int k n
  | bool b => exact .bool b
  | str s => exact .str s
  | sl l =>
    have : l = [] := by simpa [D.flat] using h
    subst this
    exact .nil _ _
theorem rdL_vD' {ok : Nat → Prop} {w : World} {l : List D} (h : (l.map D.ek).all EK.ok = true) : RdL ok w l (l.map vD) := ⟨by rw [List.length_map], fun j x v hx hv => by
  rw [List.getElem?_map, hx] at hv
  cases hv
  have hk := List.all_eq_true.1 h _ (List.mem_map.2 ⟨x, List.mem_of_getElem? hx, rfl⟩)
  cases x with
  | int k n => exact .int k n
  | bool b => exact .bool b
  | str s => exact .str s
  | sl l => cases hk⟩
/-- A listed variable lies so. -/
theorem lies_of_reads {P : Program} {w : World} {n : String} {d : DataW Unit} (h : Lib.VarReads P w n d) {g : Nat} {t : TypeId} {l : List D} {m : Nat} (hg : P.globalNamed n = some g) (ht : (P.globals[g]?).map (·.type) = some t) (htl : tile P 8 t = some m) (hl : flatW d = some l) (hne : l ≠ []) :
    g < w.heap.size ∧ ∀ (j : Nat) (u : Value), (l.map vD)[j]? = some u → w.cell? ⟨g, j, none⟩ = some u := by
  obtain ⟨g', t', cs, fuel, p, e1, e2, hvar, hd⟩ := h
  obtain rfl := Option.some.inj (hg.symm.trans e1)
  obtain rfl := Option.some.inj (ht.symm.trans e2)
  obtain ⟨l', l1, l2, _⟩ := tile_ok 8 _ _ htl _ _ _ _ hd
  obtain rfl := Option.some.inj (hl.symm.trans l1)
  have hcell : ∀ (j : Nat) (u : Value), (l.map vD)[j]? = some u → w.cell? ⟨g, j, none⟩ = some u := fun j u hj => by
    rw [World.var?_cell hg hvar j, ← Array.getElem?_toList, l2]
    exact hj
  refine ⟨?_, hcell⟩
  have h0 : ∃ u, (l.map vD)[0]? = some u := by
    cases l with
    | nil => exact absurd rfl hne
    | cons x r => exact ⟨vD x, rfl⟩
  obtain ⟨u, hu⟩ := h0
  have := hcell 0 u hu
  by_cases hb : g < w.heap.size
  · exact hb
  · unfold World.cell? at this
    rw [Array.getElem?_eq_none (show w.heap.size ≤ g by omega)] at this
    cases this
/-- The tables of unicode/utf8 and further ones. -/
def globX (ex : Nat → Option (List D)) : Nat → Option (List D) := fun k => match globU k with
  | some l => some l
  | none => ex k
def Lies (w : World) (ex : Nat → Option (List D)) : Prop := ∀ k l, ex k = some l → k < 5 ∧ k < w.heap.size ∧ (l.map D.ek).all EK.ok = true ∧ ∀ (j : Nat) (u : Value), (l.map vD)[j]? = some u → w.cell? ⟨k, j, none⟩ = some u
theorem glAt_X {W : World} {L : List Int} {ST : TypeId} {ex : Nat → Option (List D)} (h : Lib.Utf8Tabs 2 3 W) (hx : Lies W ex) : GlAt ⟨Tryd.prog, none, L, ST, 5, globX ex⟩ W := by
  intro k l hk
  have hU := glAt_of_tabs (L := L) (ST := ST) h
  change globX ex k = some l at hk
  unfold globX at hk
  split at hk
  · rename_i l' e
    cases hk
    exact hU k l e
  · obtain ⟨h1, h2, h3, h4⟩ := hx k l hk
    exact ⟨h1, h2, _, h4, rdL_vD' h3⟩
theorem utf8_of_globX {cx : Cx} {W0 : Cx} {ex : Nat → Option (List D)} (hW : W0.glob = globX ex) (h : ∀ w, GlAt cx w → GlAt W0 w) : Utf8 cx := by
  refine utf8_of_glob (W0 := { W0 with glob := globU }) rfl fun w hw k l hk => ?_
  refine h w hw k l ?_
  rw [hW]
  unfold globX
  rw [show globU k = some l from hk]
theorem tabs_of_list {W : World} {ls : List (String × DataW Unit)} (h : laidMet Tryd.prog ls W) (h1 : ("unicode/utf8.first", YtikgmhplgbdmjaaDoor.Rows.laid_unicode_utf8_first) ∈ ls) (h2 : ("unicode/utf8.acceptRanges", YtikgmhplgbdmjaaDoor.Rows.laid_unicode_utf8_acceptRanges) ∈ ls) : Lib.Utf8Tabs 2 3 W := by
  rw [first_eq] at h1
  rw [accept_eq] at h2
  exact utf8Tabs_of_reads Tryd.lays260 u8Extra (Lib.laidMet.reads h h1) (Lib.laidMet.reads h h2)
end Go.Avc

/- Functions of package strings on plain strings, and comparisons: their contracts. No condition. -/
set_option linter.unusedVariables false
set_option linter.unusedSimpArgs false
set_option maxRecDepth 100000
namespace Go.Avc
open Go Go.Proofs

/-- The greatest length for which package bytealg looks for a string is some number. -/
def MaxL (cx : Cx) : Prop := ∀ w, GlAt cx w → ∃ m : Int, w.cell? ⟨4, 0, none⟩ = some (.int .i64 m)
theorem below_same {w w' : World} (h : w' = w) : RowKit.Below w.heap.size w w' := by
  subst h
  exact ⟨rfl, rfl, rfl, Nat.le_refl _, fun _ _ => rfl⟩
theorem below_drawn {w w' : World} (h : ∃ n, w' = w.drewN n) : RowKit.Below w.heap.size w w' := by
  obtain ⟨n, rfl⟩ := h
  exact ⟨rfl, rfl, rfl, Nat.le_refl _, fun _ _ => rfl⟩
def cutSp  : Spec where
  pre xs := ∃ (s : ByteArray) (p : ByteArray), xs = [.str s, .str p] ∧ (s.size ≤ 4000000000)
  post xs y := ∃ (s : ByteArray) (p : ByteArray), xs = [.str s, .str p] ∧ y = .tcons (.str (cutL s p)) (.tcons (.str (cutR s p)) (.tcons (.b (cutB s p)) .tnil))
  cost _ := 0
  fresh := true
theorem cutSp_c  (xs : List AV) : (cutSp).cost xs = 0 := nr rfl
theorem cutSp_f  : (cutSp).fresh = true := nr rfl
theorem cutSp_q  (s : ByteArray) (p : ByteArray) : (cutSp).pre [.str s, .str p] = (s.size ≤ 4000000000) := propext ⟨fun h => by
  have h' : ∃ (s' : ByteArray) (p' : ByteArray), ([.str s, .str p] : List AV) = [.str s', .str p'] ∧ (s'.size ≤ 4000000000) := h
  obtain ⟨s', p', e, h⟩ := h'
  simp only [List.cons.injEq, AV.dv.injEq, AV.fv.injEq, DV.d.injEq, DV.ag.injEq, D.int.injEq, D.str.injEq, D.bool.injEq, D.sl.injEq, true_and, and_true, intsDi_inj, rowsT_inj, rowsKi_inj] at e
  obtain ⟨rfl, rfl⟩ := e
  exact h, fun h => ⟨s, p, rfl, h⟩⟩
theorem cutSp_p  (s : ByteArray) (p : ByteArray) : (cutSp).post [.str s, .str p] = fun y => y = .tcons (.str (cutL s p)) (.tcons (.str (cutR s p)) (.tcons (.b (cutB s p)) .tnil)) := funext fun y => propext ⟨fun h => by
  have h' : ∃ (s' : ByteArray) (p' : ByteArray), ([.str s, .str p] : List AV) = [.str s', .str p'] ∧ y = .tcons (.str (cutL s' p')) (.tcons (.str (cutR s' p')) (.tcons (.b (cutB s' p')) .tnil)) := h
  obtain ⟨s', p', e, h⟩ := h'
  simp only [List.cons.injEq, AV.dv.injEq, AV.fv.injEq, DV.d.injEq, DV.ag.injEq, D.int.injEq, D.str.injEq, D.bool.injEq, D.sl.injEq, true_and, and_true, intsDi_inj, rowsT_inj, rowsKi_inj] at e
  obtain ⟨rfl, rfl⟩ := e
  exact h, fun h => ⟨s, p, rfl, h⟩⟩
theorem cut_ctr {cx : Cx} (h : Seat cx) (hM : MaxL cx) : Ctr cx 99 cutSp := by
  refine ctr_flat (by rw [h.hP]; exact ⟨_, Tryd.func99, by kernel_rfl, by kernel_rfl⟩) (fun _ => rfl) ?_
  rintro xs ⟨s, p, rfl, h1⟩
  refine ⟨_, _, _, rfl, ⟨s, p, rfl, rfl⟩, rfl, fun w hw => ?_⟩
  rw [h.hP]
  obtain ⟨m, hm⟩ := hM w hw
  exact (Tryd.strings_Cut s p m w (by omega) hm).mono fun e w' ⟨h1, h2⟩ => ⟨h1, below_drawn h2⟩
def conSp  : Spec where
  pre xs := ∃ (s : ByteArray) (p : ByteArray), xs = [.str s, .str p] ∧ (s.size ≤ 4000000000)
  post xs y := ∃ (s : ByteArray) (p : ByteArray), xs = [.str s, .str p] ∧ y = .b (conS s p)
  cost _ := 0
  fresh := true
theorem conSp_c  (xs : List AV) : (conSp).cost xs = 0 := nr rfl
theorem conSp_f  : (conSp).fresh = true := nr rfl
theorem conSp_q  (s : ByteArray) (p : ByteArray) : (conSp).pre [.str s, .str p] = (s.size ≤ 4000000000) := propext ⟨fun h => by
  have h' : ∃ (s' : ByteArray) (p' : ByteArray), ([.str s, .str p] : List AV) = [.str s', .str p'] ∧ (s'.size ≤ 4000000000) := h
  obtain ⟨s', p', e, h⟩ := h'
  simp only [List.cons.injEq, AV.dv.injEq, AV.fv.injEq, DV.d.injEq, DV.ag.injEq, D.int.injEq, D.str.injEq, D.bool.injEq, D.sl.injEq, true_and, and_true, intsDi_inj, rowsT_inj, rowsKi_inj] at e
  obtain ⟨rfl, rfl⟩ := e
  exact h, fun h => ⟨s, p, rfl, h⟩⟩
theorem conSp_p  (s : ByteArray) (p : ByteArray) : (conSp).post [.str s, .str p] = fun y => y = .b (conS s p) := funext fun y => propext ⟨fun h => by
  have h' : ∃ (s' : ByteArray) (p' : ByteArray), ([.str s, .str p] : List AV) = [.str s', .str p'] ∧ y = .b (conS s' p') := h
  obtain ⟨s', p', e, h⟩ := h'
  simp only [List.cons.injEq, AV.dv.injEq, AV.fv.injEq, DV.d.injEq, DV.ag.injEq, D.int.injEq, D.str.injEq, D.bool.injEq, D.sl.injEq, true_and, and_true, intsDi_inj, rowsT_inj, rowsKi_inj] at e
  obtain ⟨rfl, rfl⟩ := e
  exact h, fun h => ⟨s, p, rfl, h⟩⟩
theorem contains_ctr {cx : Cx} (h : Seat cx) (hM : MaxL cx) : Ctr cx 103 conSp := by
  refine ctr_flat (by rw [h.hP]; exact ⟨_, Tryd.func103, by kernel_rfl, by kernel_rfl⟩) (fun _ => rfl) ?_
  rintro xs ⟨s, p, rfl, h1⟩
  refine ⟨_, _, _, rfl, ⟨s, p, rfl, rfl⟩, rfl, fun w hw => ?_⟩
  rw [h.hP]
  obtain ⟨m, hm⟩ := hM w hw
  exact (Tryd.strings_Contains s p m w (by omega) hm).mono fun e w' ⟨h1, h2⟩ => ⟨h1, below_same h2⟩
def preSp  : Spec where
  pre xs := ∃ (s : ByteArray) (p : ByteArray), xs = [.str s, .str p]
  post xs y := ∃ (s : ByteArray) (p : ByteArray), xs = [.str s, .str p] ∧ y = .b (preS s p)
  cost _ := 0
  fresh := true
theorem preSp_c  (xs : List AV) : (preSp).cost xs = 0 := nr rfl
theorem preSp_f  : (preSp).fresh = true := nr rfl
theorem preSp_q  (s : ByteArray) (p : ByteArray) : (preSp).pre [.str s, .str p] = (True) := propext ⟨fun h => by
  have h' : ∃ (s' : ByteArray) (p' : ByteArray), ([.str s, .str p] : List AV) = [.str s', .str p'] := h
  obtain ⟨s', p', e⟩ := h'
  simp only [List.cons.injEq, AV.dv.injEq, AV.fv.injEq, DV.d.injEq, DV.ag.injEq, D.int.injEq, D.str.injEq, D.bool.injEq, D.sl.injEq, true_and, and_true, intsDi_inj, rowsT_inj, rowsKi_inj] at e
  obtain ⟨rfl, rfl⟩ := e
  exact trivial, fun h => ⟨s, p, rfl⟩⟩
theorem preSp_p  (s : ByteArray) (p : ByteArray) : (preSp).post [.str s, .str p] = fun y => y = .b (preS s p) := funext fun y => propext ⟨fun h => by
  have h' : ∃ (s' : ByteArray) (p' : ByteArray), ([.str s, .str p] : List AV) = [.str s', .str p'] ∧ y = .b (preS s' p') := h
  obtain ⟨s', p', e, h⟩ := h'
  simp only [List.cons.injEq, AV.dv.injEq, AV.fv.injEq, DV.d.injEq, DV.ag.injEq, D.int.injEq, D.str.injEq, D.bool.injEq, D.sl.injEq, true_and, and_true, intsDi_inj, rowsT_inj, rowsKi_inj] at e
  obtain ⟨rfl, rfl⟩ := e
  exact h, fun h => ⟨s, p, rfl, h⟩⟩
theorem hasPrefix_ctr {cx : Cx} (h : Seat cx) : Ctr cx 64 preSp := by
  refine ctr_flat (by rw [h.hP]; exact ⟨_, Tryd.func64, by kernel_rfl, by kernel_rfl⟩) (fun _ => rfl) ?_
  rintro xs ⟨s, p, rfl⟩
  refine ⟨_, _, _, rfl, ⟨s, p, rfl, rfl⟩, rfl, fun w hw => ?_⟩
  rw [h.hP]
  exact (Tryd.strings_HasPrefix s p w).mono fun e w' ⟨h1, h2⟩ => ⟨h1, below_same h2⟩
def cpreF (s p : ByteArray) : ByteArray := ⟨(Lib.trimPrefix s.data.toList p.data.toList).toArray⟩
def cpreSp  : Spec where
  pre xs := ∃ (s : ByteArray) (p : ByteArray), xs = [.str s, .str p]
  post xs y := ∃ (s : ByteArray) (p : ByteArray), xs = [.str s, .str p] ∧ y = .tcons (.str (cpreF s p)) (.tcons (.b (preS s p)) .tnil)
  cost _ := 0
  fresh := true
theorem cpreSp_c  (xs : List AV) : (cpreSp).cost xs = 0 := nr rfl
theorem cpreSp_f  : (cpreSp).fresh = true := nr rfl
theorem cpreSp_q  (s : ByteArray) (p : ByteArray) : (cpreSp).pre [.str s, .str p] = (True) := propext ⟨fun h => by
  have h' : ∃ (s' : ByteArray) (p' : ByteArray), ([.str s, .str p] : List AV) = [.str s', .str p'] := h
  obtain ⟨s', p', e⟩ := h'
  simp only [List.cons.injEq, AV.dv.injEq, AV.fv.injEq, DV.d.injEq, DV.ag.injEq, D.int.injEq, D.str.injEq, D.bool.injEq, D.sl.injEq, true_and, and_true, intsDi_inj, rowsT_inj, rowsKi_inj] at e
  obtain ⟨rfl, rfl⟩ := e
  exact trivial, fun h => ⟨s, p, rfl⟩⟩
theorem cpreSp_p  (s : ByteArray) (p : ByteArray) : (cpreSp).post [.str s, .str p] = fun y => y = .tcons (.str (cpreF s p)) (.tcons (.b (preS s p)) .tnil) := funext fun y => propext ⟨fun h => by
  have h' : ∃ (s' : ByteArray) (p' : ByteArray), ([.str s, .str p] : List AV) = [.str s', .str p'] ∧ y = .tcons (.str (cpreF s' p')) (.tcons (.b (preS s' p')) .tnil) := h
  obtain ⟨s', p', e, h⟩ := h'
  simp only [List.cons.injEq, AV.dv.injEq, AV.fv.injEq, DV.d.injEq, DV.ag.injEq, D.int.injEq, D.str.injEq, D.bool.injEq, D.sl.injEq, true_and, and_true, intsDi_inj, rowsT_inj, rowsKi_inj] at e
  obtain ⟨rfl, rfl⟩ := e
  exact h, fun h => ⟨s, p, rfl, h⟩⟩
theorem cutPrefix_ctr {cx : Cx} (h : Seat cx) : Ctr cx 104 cpreSp := by
  refine ctr_flat (by rw [h.hP]; exact ⟨_, Tryd.func104, by kernel_rfl, by kernel_rfl⟩) (fun _ => rfl) ?_
  rintro xs ⟨s, p, rfl⟩
  refine ⟨_, _, _, rfl, ⟨s, p, rfl, rfl⟩, rfl, fun w hw => ?_⟩
  rw [h.hP]
  exact (Tryd.strings_CutPrefix s p w).mono fun e w' ⟨h1, h2⟩ => ⟨h1, below_same h2⟩
def ixB (s : ByteArray) (c : Int) : Int := Lib.indexByte s.data.toList c.toNat.toUInt8
def ixSp  : Spec where
  pre xs := ∃ (s : ByteArray) (c : Int), xs = [.str s, .u8 c]
  post xs y := ∃ (s : ByteArray) (c : Int), xs = [.str s, .u8 c] ∧ y = .i (ixB s c)
  cost _ := 0
  fresh := true
theorem ixSp_c  (xs : List AV) : (ixSp).cost xs = 0 := nr rfl
theorem ixSp_f  : (ixSp).fresh = true := nr rfl
theorem ixSp_q  (s : ByteArray) (c : Int) : (ixSp).pre [.str s, .u8 c] = (True) := propext ⟨fun h => by
  have h' : ∃ (s' : ByteArray) (c' : Int), ([.str s, .u8 c] : List AV) = [.str s', .u8 c'] := h
  obtain ⟨s', c', e⟩ := h'
  simp only [List.cons.injEq, AV.dv.injEq, AV.fv.injEq, DV.d.injEq, DV.ag.injEq, D.int.injEq, D.str.injEq, D.bool.injEq, D.sl.injEq, true_and, and_true, intsDi_inj, rowsT_inj, rowsKi_inj] at e
  obtain ⟨rfl, rfl⟩ := e
  exact trivial, fun h => ⟨s, c, rfl⟩⟩
theorem ixSp_p  (s : ByteArray) (c : Int) : (ixSp).post [.str s, .u8 c] = fun y => y = .i (ixB s c) := funext fun y => propext ⟨fun h => by
  have h' : ∃ (s' : ByteArray) (c' : Int), ([.str s, .u8 c] : List AV) = [.str s', .u8 c'] ∧ y = .i (ixB s' c') := h
  obtain ⟨s', c', e, h⟩ := h'
  simp only [List.cons.injEq, AV.dv.injEq, AV.fv.injEq, DV.d.injEq, DV.ag.injEq, D.int.injEq, D.str.injEq, D.bool.injEq, D.sl.injEq, true_and, and_true, intsDi_inj, rowsT_inj, rowsKi_inj] at e
  obtain ⟨rfl, rfl⟩ := e
  exact h, fun h => ⟨s, c, rfl, h⟩⟩
theorem indexByte_ctr {cx : Cx} (h : Seat cx) : Ctr cx 117 ixSp := by
  refine ctr_flat (by rw [h.hP]; exact ⟨_, Tryd.func117, by kernel_rfl, by kernel_rfl⟩) (fun _ => rfl) ?_
  rintro xs ⟨s, c, rfl⟩
  refine ⟨_, _, _, rfl, ⟨s, c, rfl, rfl⟩, rfl, fun w hw => ?_⟩
  rw [h.hP]
  exact (Tryd.strings_IndexByte s c w).mono fun e w' ⟨h1, h2⟩ => ⟨h1, below_same h2⟩
def splitSp  : Spec where
  pre xs := ∃ (s : ByteArray) (p : ByteArray), xs = [.str s, .str p] ∧ (s.size ≤ 4000000000 ∧ 1 ≤ p.size)
  post xs y := ∃ (s : ByteArray) (p : ByteArray), xs = [.str s, .str p] ∧ y = .sl (rowsT (splitS s p))
  cost _ := 0
  fresh := true
theorem splitSp_c  (xs : List AV) : (splitSp).cost xs = 0 := nr rfl
theorem splitSp_f  : (splitSp).fresh = true := nr rfl
theorem splitSp_q  (s : ByteArray) (p : ByteArray) : (splitSp).pre [.str s, .str p] = (s.size ≤ 4000000000 ∧ 1 ≤ p.size) := propext ⟨fun h => by
  have h' : ∃ (s' : ByteArray) (p' : ByteArray), ([.str s, .str p] : List AV) = [.str s', .str p'] ∧ (s'.size ≤ 4000000000 ∧ 1 ≤ p'.size) := h
  obtain ⟨s', p', e, h⟩ := h'
  simp only [List.cons.injEq, AV.dv.injEq, AV.fv.injEq, DV.d.injEq, DV.ag.injEq, D.int.injEq, D.str.injEq, D.bool.injEq, D.sl.injEq, true_and, and_true, intsDi_inj, rowsT_inj, rowsKi_inj] at e
  obtain ⟨rfl, rfl⟩ := e
  exact h, fun h => ⟨s, p, rfl, h⟩⟩
theorem splitSp_p  (s : ByteArray) (p : ByteArray) : (splitSp).post [.str s, .str p] = fun y => y = .sl (rowsT (splitS s p)) := funext fun y => propext ⟨fun h => by
  have h' : ∃ (s' : ByteArray) (p' : ByteArray), ([.str s, .str p] : List AV) = [.str s', .str p'] ∧ y = .sl (rowsT (splitS s' p')) := h
  obtain ⟨s', p', e, h⟩ := h'
  simp only [List.cons.injEq, AV.dv.injEq, AV.fv.injEq, DV.d.injEq, DV.ag.injEq, D.int.injEq, D.str.injEq, D.bool.injEq, D.sl.injEq, true_and, and_true, intsDi_inj, rowsT_inj, rowsKi_inj] at e
  obtain ⟨rfl, rfl⟩ := e
  exact h, fun h => ⟨s, p, rfl, h⟩⟩
theorem split_ctr {cx : Cx} (h : Seat cx) (hM : MaxL cx) : Ctr cx 100 splitSp := by
  refine ⟨by rw [h.hP]; exact ⟨_, Tryd.func100, by kernel_rfl, by kernel_rfl⟩, fun xs ⟨s, p, e, _⟩ => ⟨_, s, p, e, rfl⟩, ?_⟩
  rintro F xs us hcx hF hst hgl hco hlen hargs ⟨s, p, rfl, h1, h2⟩
  obtain rfl := vals_of (vs := [.string s, .string p]) rfl hlen hargs
  rw [h.hP]
  obtain ⟨m, hm⟩ := hM F.w0 hgl
  refine (Tryd.strings_Split s p m F.w0 (by omega) hm h2).mono ?_
  rintro e w' ⟨rfl, rfl⟩
  refine ⟨_, _, rfl, Gr.alloc _ F.w0 _, hst.keep (Nat.le_of_lt (alloc_size F.w0 _)) (fun b hb => (alloc_gr F.w0 _).block b hb (by simp)), ⟨s, p, rfl, rfl⟩, rfl, ?_⟩
  show Rd _ _ (.sl (rowsT (splitS s p))) _
  have hl : (rowsT (splitS s p)).length = Lib.countB s p + 1 := by rw [rowsT_len, splitS_len h2]
  rw [← hl]
  have hg : ∀ (i : Nat) (x : List D), (rowsT (splitS s p))[i]? = some x → ∃ t, (splitS s p)[i]? = some t ∧ x = [.str t] := fun i x hx => by
    unfold rowsT at hx
    rw [List.getElem?_map, Option.map_eq_some_iff] at hx
    obtain ⟨t, ht, rfl⟩ := hx
    exact ⟨t, ht, rfl⟩
  refine .sl _ 1 F.w0.heap.size 0 _ (fun i _ => .string ((splitS s p).getD i ⟨#[]⟩)) (Nat.le_refl _) (.inr (Nat.le_refl _)) (alloc_size F.w0 _) (fun i x hx => ?_) (fun i x hx j y hy => ?_) (fun i x hx j y hy => ?_)
  · obtain ⟨t, ht, rfl⟩ := hg i x hx
    rfl
  · obtain ⟨t, ht, rfl⟩ := hg i x hx
    cases j with
    | succ j => simp at hy
    | zero =>
      unfold World.cell?
      rw [heap_alloc_new]
      show (((Lib.splitB p 0 (Lib.countB s p) s).map Value.string).toArray)[0 + i * 1 + 0]? = _
      rw [List.getElem?_toArray, List.getElem?_map, List.getD_eq_getElem?_getD, ht, show 0 + i * 1 + 0 = i by omega]
      show ((splitS s p)[i]?).map _ = _
      rw [ht]
      rfl
  · obtain ⟨t, ht, rfl⟩ := hg i x hx
    cases j with
    | succ j => simp at hy
    | zero =>
      cases hy
      rw [List.getD_eq_getElem?_getD, ht]
      exact .str t
/-! ### Comparisons -/
def cmpISp  : Spec where
  pre xs := ∃ (a : Int) (b : Int), xs = [.i a, .i b]
  post xs y := ∃ (a : Int) (b : Int), xs = [.i a, .i b] ∧ y = .i (cmpI a b)
  cost _ := 0
  fresh := true
theorem cmpISp_c  (xs : List AV) : (cmpISp).cost xs = 0 := nr rfl
theorem cmpISp_f  : (cmpISp).fresh = true := nr rfl
theorem cmpISp_q  (a : Int) (b : Int) : (cmpISp).pre [.i a, .i b] = (True) := propext ⟨fun h => by
  have h' : ∃ (a' : Int) (b' : Int), ([.i a, .i b] : List AV) = [.i a', .i b'] := h
  obtain ⟨a', b', e⟩ := h'
  simp only [List.cons.injEq, AV.dv.injEq, AV.fv.injEq, DV.d.injEq, DV.ag.injEq, D.int.injEq, D.str.injEq, D.bool.injEq, D.sl.injEq, true_and, and_true, intsDi_inj, rowsT_inj, rowsKi_inj] at e
  obtain ⟨rfl, rfl⟩ := e
  exact trivial, fun h => ⟨a, b, rfl⟩⟩
theorem cmpISp_p  (a : Int) (b : Int) : (cmpISp).post [.i a, .i b] = fun y => y = .i (cmpI a b) := funext fun y => propext ⟨fun h => by
  have h' : ∃ (a' : Int) (b' : Int), ([.i a, .i b] : List AV) = [.i a', .i b'] ∧ y = .i (cmpI a' b') := h
  obtain ⟨a', b', e, h⟩ := h'
  simp only [List.cons.injEq, AV.dv.injEq, AV.fv.injEq, DV.d.injEq, DV.ag.injEq, D.int.injEq, D.str.injEq, D.bool.injEq, D.sl.injEq, true_and, and_true, intsDi_inj, rowsT_inj, rowsKi_inj] at e
  obtain ⟨rfl, rfl⟩ := e
  exact h, fun h => ⟨a, b, rfl, h⟩⟩
theorem compareI_ctr {cx : Cx} (h : Seat cx) : Ctr cx 107 cmpISp := by
  refine ctr_flat (by rw [h.hP]; exact ⟨_, Tryd.func107, by kernel_rfl, by kernel_rfl⟩) (fun _ => rfl) ?_
  rintro xs ⟨a, b, rfl⟩
  refine ⟨_, _, _, rfl, ⟨a, b, rfl, rfl⟩, rfl, fun w hw => ?_⟩
  rw [h.hP]
  exact (Tryd.cmp_Compare_int a b w).mono fun e w' ⟨h1, h2⟩ => ⟨h1, below_same h2⟩
end Go.Avc

/- Ids: what is wrong with them and their order, by the program. No condition. -/
set_option linter.unusedVariables false
set_option linter.unusedSimpArgs false
set_option maxRecDepth 100000
namespace Go.Avc
open Go Go.Proofs

/-- a closure over nothing on bytes -/
def byteΦ (p : Int → Bool) : List (List D) → FSpec := csp F0 u8D fun _ c => p c
theorem byteΦ_h (p : Int → Bool) (c : Int) : (byteΦ p []).holds (.d (.int .u8 c)) = p c := csp_holds (g := fun _ c => p c) F0_inj u8D_inj () c
theorem byteΦ_d (p : Int → Bool) (c : Int) : (byteΦ p []).det (.d (.int .u8 c)) := csp_det (g := fun _ c => p c) F0_inj u8D_inj () c
theorem byteΦ_of {cx : Cx} {fn : FuncId} {p : Int → Bool} (h : Ctr cx fn (byteS p)) : ∀ caps, Ctr cx fn (clo (byteΦ p) caps) := clo_of (g := fun _ c => p c) (h.weaken (fun xs ⟨_, a, e⟩ => ⟨a, e⟩) (fun xs r ⟨_, a, e⟩ ⟨b, e2, e3⟩ => ⟨(), b, e2, e3⟩) (fun _ => Nat.le_refl _) rfl)
theorem isLabel1_ctr {cx : Cx} (h : Seat cx) : Ctr cx 180 (byteS labC) := by
  refine ctr_of (fn := Tryd.f180) (l := [.tmp 2]) (envL [(138, (byteS smallC)), (110, (byteS digitC))]) [0, 2] [] [] (envL_cons (small_ctr h) (envL_cons (digit_ctr h) (env0 h.hP))) ?_ (by rw [h.hP]; exact Tryd.func180) rfl (by kernel_rfl) rfl ?_ ?_
  · rw [h.hP]; exact ⟨_, Tryd.func180, by kernel_rfl, by kernel_rfl⟩
  · rintro xs ⟨c, rfl⟩; exact ⟨_, c, rfl, rfl⟩
  · rintro xs ⟨c, rfl⟩
    refine ⟨by rw [Tryd.ntmps180]; simp, ?_⟩
    simp only [go_sem, h.hP, byteS_q, byteS_p, byteS_c, byteS_f, Tryd.ntmps180, Nat.reduceEqDiff, reduceCtorEq, Nat.reduceMul, Nat.reduceAdd, Nat.reduceSub, Nat.reduceDiv, Nat.reduceMod, Nat.reduceLeDiff, Nat.reduceLT, Nat.reduceBNe, Nat.reduceBEq, reduceIte, Int.reduceLE, Int.reduceLT, Int.reduceToNat, Int.reduceNeg, Int.reduceAdd, Int.reduceSub, Int.reduceMul, Int.reduceEq]
    grind [labC]
theorem isMail1_ctr {cx : Cx} (h : Seat cx) : Ctr cx 143 (byteS locC) := by
  refine ctr_of (fn := Tryd.f143) (l := [.tmp 2]) (envL [(138, (byteS smallC)), (110, (byteS digitC))]) [0, 2] [] [] (envL_cons (small_ctr h) (envL_cons (digit_ctr h) (env0 h.hP))) ?_ (by rw [h.hP]; exact Tryd.func143) rfl (by kernel_rfl) rfl ?_ ?_
  · rw [h.hP]; exact ⟨_, Tryd.func143, by kernel_rfl, by kernel_rfl⟩
  · rintro xs ⟨c, rfl⟩; exact ⟨_, c, rfl, rfl⟩
  · rintro xs ⟨c, rfl⟩
    refine ⟨by rw [Tryd.ntmps143]; simp, ?_⟩
    simp only [go_sem, h.hP, byteS_q, byteS_p, byteS_c, byteS_f, Tryd.ntmps143, Nat.reduceEqDiff, reduceCtorEq, Nat.reduceMul, Nat.reduceAdd, Nat.reduceSub, Nat.reduceDiv, Nat.reduceMod, Nat.reduceLeDiff, Nat.reduceLT, Nat.reduceBNe, Nat.reduceBEq, reduceIte, Int.reduceLE, Int.reduceLT, Int.reduceToNat, Int.reduceNeg, Int.reduceAdd, Int.reduceSub, Int.reduceMul, Int.reduceEq]
    grind [locC]
theorem capital_ctr {cx : Cx} (h : Seat cx) : Ctr cx 146 (byteS capitalC) := by
  refine ctr_of (fn := Tryd.f146) (l := [.tmp 2]) (envL []) [0, 2] [] [] (env0 h.hP) ?_ (by rw [h.hP]; exact Tryd.func146) rfl (by kernel_rfl) rfl ?_ ?_
  · rw [h.hP]; exact ⟨_, Tryd.func146, by kernel_rfl, by kernel_rfl⟩
  · rintro xs ⟨c, rfl⟩; exact ⟨_, c, rfl, rfl⟩
  · rintro xs ⟨c, rfl⟩
    refine ⟨by rw [Tryd.ntmps146]; simp, ?_⟩
    simp only [go_sem, h.hP, byteS_q, byteS_p, byteS_c, byteS_f, Tryd.ntmps146, Nat.reduceEqDiff, reduceCtorEq, Nat.reduceMul, Nat.reduceAdd, Nat.reduceSub, Nat.reduceDiv, Nat.reduceMod, Nat.reduceLeDiff, Nat.reduceLT, Nat.reduceBNe, Nat.reduceBEq, reduceIte, Int.reduceLE, Int.reduceLT, Int.reduceToNat, Int.reduceNeg, Int.reduceAdd, Int.reduceSub, Int.reduceMul, Int.reduceEq]
    unfold capitalC
    exact ⟨fun c => by simp [c], fun c => by simp [c]⟩
theorem isMember1_ctr {cx : Cx} (h : Seat cx) : Ctr cx 145 (byteS memC) := by
  refine ctr_of (fn := Tryd.f145) (l := [.tmp 2]) (envL [(146, (byteS capitalC)), (110, (byteS digitC))]) [0, 2] [] [] (envL_cons (capital_ctr h) (envL_cons (digit_ctr h) (env0 h.hP))) ?_ (by rw [h.hP]; exact Tryd.func145) rfl (by kernel_rfl) rfl ?_ ?_
  · rw [h.hP]; exact ⟨_, Tryd.func145, by kernel_rfl, by kernel_rfl⟩
  · rintro xs ⟨c, rfl⟩; exact ⟨_, c, rfl, rfl⟩
  · rintro xs ⟨c, rfl⟩
    refine ⟨by rw [Tryd.ntmps145]; simp, ?_⟩
    simp only [go_sem, h.hP, byteS_q, byteS_p, byteS_c, byteS_f, Tryd.ntmps145, Nat.reduceEqDiff, reduceCtorEq, Nat.reduceMul, Nat.reduceAdd, Nat.reduceSub, Nat.reduceDiv, Nat.reduceMod, Nat.reduceLeDiff, Nat.reduceLT, Nat.reduceBNe, Nat.reduceBEq, reduceIte, Int.reduceLE, Int.reduceLT, Int.reduceToNat, Int.reduceNeg, Int.reduceAdd, Int.reduceSub, Int.reduceMul, Int.reduceEq]
    grind [memC]
theorem isDevice1_ctr {cx : Cx} (h : Seat cx) : Ctr cx 147 (byteS hexC) := by
  refine ctr_of (fn := Tryd.f147) (l := [.tmp 2]) (envL [(110, (byteS digitC))]) [0, 2] [] [] (envL_cons (digit_ctr h) (env0 h.hP)) ?_ (by rw [h.hP]; exact Tryd.func147) rfl (by kernel_rfl) rfl ?_ ?_
  · rw [h.hP]; exact ⟨_, Tryd.func147, by kernel_rfl, by kernel_rfl⟩
  · rintro xs ⟨c, rfl⟩; exact ⟨_, c, rfl, rfl⟩
  · rintro xs ⟨c, rfl⟩
    refine ⟨by rw [Tryd.ntmps147]; simp, ?_⟩
    simp only [go_sem, h.hP, byteS_q, byteS_p, byteS_c, byteS_f, Tryd.ntmps147, Nat.reduceEqDiff, reduceCtorEq, Nat.reduceMul, Nat.reduceAdd, Nat.reduceSub, Nat.reduceDiv, Nat.reduceMod, Nat.reduceLeDiff, Nat.reduceLT, Nat.reduceBNe, Nat.reduceBEq, reduceIte, Int.reduceLE, Int.reduceLT, Int.reduceToNat, Int.reduceNeg, Int.reduceAdd, Int.reduceSub, Int.reduceMul, Int.reduceEq]
    grind [hexC]
def strB4 (p : ByteArray → Bool) : Spec where
  pre xs := ∃ (s : ByteArray), xs = [.str s] ∧ (s.size ≤ 4000000000)
  post xs y := ∃ (s : ByteArray), xs = [.str s] ∧ y = .b (p s)
  cost _ := 0
  fresh := true
theorem strB4_c (p : ByteArray → Bool) (xs : List AV) : (strB4 p).cost xs = 0 := nr rfl
theorem strB4_f (p : ByteArray → Bool) : (strB4 p).fresh = true := nr rfl
theorem strB4_q (p : ByteArray → Bool) (s : ByteArray) : (strB4 p).pre [.str s] = (s.size ≤ 4000000000) := propext ⟨fun h => by
  have h' : ∃ (s' : ByteArray), ([.str s] : List AV) = [.str s'] ∧ (s'.size ≤ 4000000000) := h
  obtain ⟨s', e, h⟩ := h'
  simp only [List.cons.injEq, AV.dv.injEq, AV.fv.injEq, DV.d.injEq, DV.ag.injEq, D.int.injEq, D.str.injEq, D.bool.injEq, D.sl.injEq, true_and, and_true, intsDi_inj, rowsT_inj, rowsKi_inj] at e
  obtain rfl := e
  exact h, fun h => ⟨s, rfl, h⟩⟩
theorem strB4_p (p : ByteArray → Bool) (s : ByteArray) : (strB4 p).post [.str s] = fun y => y = .b (p s) := funext fun y => propext ⟨fun h => by
  have h' : ∃ (s' : ByteArray), ([.str s] : List AV) = [.str s'] ∧ y = .b (p s') := h
  obtain ⟨s', e, h⟩ := h'
  simp only [List.cons.injEq, AV.dv.injEq, AV.fv.injEq, DV.d.injEq, DV.ag.injEq, D.int.injEq, D.str.injEq, D.bool.injEq, D.sl.injEq, true_and, and_true, intsDi_inj, rowsT_inj, rowsKi_inj] at e
  obtain rfl := e
  exact h, fun h => ⟨s, rfl, h⟩⟩
theorem isLabel_ctr {cx : Cx} (h : Seat cx) : Ctr cx 144 (strB4 labelB) := by
  refine ctr_of (fn := Tryd.f144) (l := [.tmp 2]) (envF [(90, inS), (109, allS)] [(180, (byteΦ labC))]) [0, 2] [] [] (envF_cons (byteΦ_of (isLabel1_ctr h)) (envF_nil (envL_cons (pwithin_ctr h) (envL_cons (all_ctr h) (env0 h.hP))))) ?_ (by rw [h.hP]; exact Tryd.func144) rfl (by kernel_rfl) rfl ?_ ?_
  · rw [h.hP]; exact ⟨_, Tryd.func144, by kernel_rfl, by kernel_rfl⟩
  · rintro xs ⟨s, rfl, hs⟩; exact ⟨_, s, rfl, rfl⟩
  · rintro xs ⟨s, rfl, hs⟩
    refine ⟨by rw [Tryd.ntmps144]; simp, ?_⟩
    simp only [go_sem, h.hP, List.cons_append, List.nil_append, Meets_e, Below_e, Prod.exists, exists_eq, exists_eq_left, exists_eq_left', exists_eq_right, exists_eq_right', exists_and_left, exists_and_right, Ob.arr.injEq, AV.own.injEq, AV.fv.injEq, strB4_q, strB4_p, strB4_c, strB4_f, inS_q, inS_p, inS_c, inS_f, allS, byteΦ_h, byteΦ_d, Tryd.ntmps144, Nat.reduceEqDiff, reduceCtorEq, Nat.reduceMul, Nat.reduceAdd, Nat.reduceSub, Nat.reduceDiv, Nat.reduceMod, Nat.reduceLeDiff, Nat.reduceLT, Nat.reduceBNe, Nat.reduceBEq, reduceIte, Int.reduceLE, Int.reduceLT, Int.reduceToNat, Int.reduceNeg, Int.reduceAdd, Int.reduceSub, Int.reduceMul, Int.reduceEq]
    unfold labelB
    refine ⟨fun c => ?_, fun c => by simp [c]⟩
    have e1 := inB_iff.1 c
    rw [i64w (n := (s.size : Int) - 1) (by omega) (by omega)]
    refine ⟨by omega, fun c1 => ⟨by omega, by omega, fun c2 => ⟨by omega, by simp [c, c1, c2]⟩, fun c2 => by simp [c2]⟩, fun c1 => by simp [c1]⟩
theorem isPhone_ctr {cx : Cx} (h : Seat cx) : Ctr cx 95 (strB4 phoneB) := by
  refine ctr_of (fn := Tryd.f95) (l := [.tmp 2]) (envF [(90, inS), (109, allS), (64, preSp)] [(110, (byteΦ digitC))]) [0, 2] [] [] (envF_cons (byteΦ_of (digit_ctr h)) (envF_nil (envL_cons (pwithin_ctr h) (envL_cons (all_ctr h) (envL_cons (hasPrefix_ctr h) (env0 h.hP)))))) ?_ (by rw [h.hP]; exact Tryd.func95) rfl (by kernel_rfl) rfl ?_ ?_
  · rw [h.hP]; exact ⟨_, Tryd.func95, by kernel_rfl, by kernel_rfl⟩
  · rintro xs ⟨s, rfl, hs⟩; exact ⟨_, s, rfl, rfl⟩
  · rintro xs ⟨s, rfl, hs⟩
    refine ⟨by rw [Tryd.ntmps95]; simp, ?_⟩
    simp only [go_sem, h.hP, List.cons_append, List.nil_append, Meets_e, Below_e, Prod.exists, exists_eq, exists_eq_left, exists_eq_left', exists_eq_right, exists_eq_right', exists_and_left, exists_and_right, Ob.arr.injEq, AV.own.injEq, AV.fv.injEq, strB4_q, strB4_p, strB4_c, strB4_f, inS_q, inS_p, inS_c, inS_f, preSp_q, preSp_p, preSp_c, preSp_f, allS, byteΦ_h, byteΦ_d, Tryd.ntmps95, Nat.reduceEqDiff, reduceCtorEq, Nat.reduceMul, Nat.reduceAdd, Nat.reduceSub, Nat.reduceDiv, Nat.reduceMod, Nat.reduceLeDiff, Nat.reduceLT, Nat.reduceBNe, Nat.reduceBEq, reduceIte, Int.reduceLE, Int.reduceLT, Int.reduceToNat, Int.reduceNeg, Int.reduceAdd, Int.reduceSub, Int.reduceMul, Int.reduceEq]
    unfold phoneB
    refine ⟨fun c0 => ⟨fun c => ?_, fun c => by simp [c]⟩, fun c0 => by simp [plusS, c0]⟩
    have e1 := inB_iff.1 c
    refine ⟨by omega, by omega, by rw [ByteArray.size_extract]; omega, fun c1 => ⟨by omega, ?_⟩, fun c1 => by simp [c1]⟩
    simp only [plusS, c0, c, c1, Bool.true_and]
    grind
theorem isMember_ctr {cx : Cx} (h : Seat cx) : Ctr cx 96 (strB4 memberB) := by
  refine ctr_of (fn := Tryd.f96) (l := [.tmp 2]) (envF [(90, inS), (109, allS)] [(145, (byteΦ memC))]) [0, 2] [] [] (envF_cons (byteΦ_of (isMember1_ctr h)) (envF_nil (envL_cons (pwithin_ctr h) (envL_cons (all_ctr h) (env0 h.hP))))) ?_ (by rw [h.hP]; exact Tryd.func96) rfl (by kernel_rfl) rfl ?_ ?_
  · rw [h.hP]; exact ⟨_, Tryd.func96, by kernel_rfl, by kernel_rfl⟩
  · rintro xs ⟨s, rfl, hs⟩; exact ⟨_, s, rfl, rfl⟩
  · rintro xs ⟨s, rfl, hs⟩
    refine ⟨by rw [Tryd.ntmps96]; simp, ?_⟩
    simp only [go_sem, h.hP, List.cons_append, List.nil_append, Meets_e, Below_e, Prod.exists, exists_eq, exists_eq_left, exists_eq_left', exists_eq_right, exists_eq_right', exists_and_left, exists_and_right, Ob.arr.injEq, AV.own.injEq, AV.fv.injEq, strB4_q, strB4_p, strB4_c, strB4_f, inS_q, inS_p, inS_c, inS_f, allS, byteΦ_h, byteΦ_d, Tryd.ntmps96, Nat.reduceEqDiff, reduceCtorEq, Nat.reduceMul, Nat.reduceAdd, Nat.reduceSub, Nat.reduceDiv, Nat.reduceMod, Nat.reduceLeDiff, Nat.reduceLT, Nat.reduceBNe, Nat.reduceBEq, reduceIte, Int.reduceLE, Int.reduceLT, Int.reduceToNat, Int.reduceNeg, Int.reduceAdd, Int.reduceSub, Int.reduceMul, Int.reduceEq]
    unfold memberB
    exact ⟨fun c => ⟨by omega, by simp [c]⟩, fun c => by simp [c]⟩
theorem isDevice_ctr {cx : Cx} (h : Seat cx) : Ctr cx 97 (strB4 deviceB) := by
  refine ctr_of (fn := Tryd.f97) (l := [.tmp 2]) (envF [(90, inS), (109, allS)] [(147, (byteΦ hexC))]) [0, 2] [] [] (envF_cons (byteΦ_of (isDevice1_ctr h)) (envF_nil (envL_cons (pwithin_ctr h) (envL_cons (all_ctr h) (env0 h.hP))))) ?_ (by rw [h.hP]; exact Tryd.func97) rfl (by kernel_rfl) rfl ?_ ?_
  · rw [h.hP]; exact ⟨_, Tryd.func97, by kernel_rfl, by kernel_rfl⟩
  · rintro xs ⟨s, rfl, hs⟩; exact ⟨_, s, rfl, rfl⟩
  · rintro xs ⟨s, rfl, hs⟩
    refine ⟨by rw [Tryd.ntmps97]; simp, ?_⟩
    simp only [go_sem, h.hP, List.cons_append, List.nil_append, Meets_e, Below_e, Prod.exists, exists_eq, exists_eq_left, exists_eq_left', exists_eq_right, exists_eq_right', exists_and_left, exists_and_right, Ob.arr.injEq, AV.own.injEq, AV.fv.injEq, strB4_q, strB4_p, strB4_c, strB4_f, inS_q, inS_p, inS_c, inS_f, allS, byteΦ_h, byteΦ_d, Tryd.ntmps97, Nat.reduceEqDiff, reduceCtorEq, Nat.reduceMul, Nat.reduceAdd, Nat.reduceSub, Nat.reduceDiv, Nat.reduceMod, Nat.reduceLeDiff, Nat.reduceLT, Nat.reduceBNe, Nat.reduceBEq, reduceIte, Int.reduceLE, Int.reduceLT, Int.reduceToNat, Int.reduceNeg, Int.reduceAdd, Int.reduceSub, Int.reduceMul, Int.reduceEq]
    unfold deviceB
    exact ⟨fun c => ⟨by omega, by simp [c]⟩, fun c => by simp [c]⟩
theorem isMail_ctr {cx : Cx} (h : Seat cx) (hM : MaxL cx) : Ctr cx 94 (strB4 mailB) := by
  refine ctr_of (fn := Tryd.f94) (l := [.tmp 2]) (envF [(99, cutSp), (90, inS), (103, conSp), (109, allS), (100, splitSp), (144, (strB4 labelB))] [(143, (byteΦ locC))]) [0, 2, 3, 4, 5, 6, 8, 44, 47, 50, 51, 52, 53, 58] [] [] (envF_cons (byteΦ_of (isMail1_ctr h)) (envF_nil (envL_cons (cut_ctr h hM) (envL_cons (pwithin_ctr h) (envL_cons (contains_ctr h hM) (envL_cons (all_ctr h) (envL_cons (split_ctr h hM) (envL_cons (isLabel_ctr h) (env0 h.hP))))))))) ?_ (by rw [h.hP]; exact Tryd.func94) rfl (by kernel_rfl) rfl ?_ ?_
  · rw [h.hP]; exact ⟨_, Tryd.func94, by kernel_rfl, by kernel_rfl⟩
  · rintro xs ⟨s, rfl, hs⟩; exact ⟨_, s, rfl, rfl⟩
  · rintro xs ⟨s, rfl, hs⟩
    refine ⟨by rw [Tryd.ntmps94]; simp, ?_⟩
    simp only [go_sem, h.hP, List.cons_append, List.nil_append, Meets_e, Below_e, Prod.exists, exists_eq, exists_eq_left, exists_eq_left', exists_eq_right, exists_eq_right', exists_and_left, exists_and_right, Ob.arr.injEq, AV.own.injEq, AV.fv.injEq, strB4_q, strB4_p, strB4_c, strB4_f, inS_q, inS_p, inS_c, inS_f, cutSp_q, cutSp_p, cutSp_c, cutSp_f, conSp_q, conSp_p, conSp_c, conSp_f, splitSp_q, splitSp_p, splitSp_c, splitSp_f, allS, byteΦ_h, byteΦ_d, Tryd.ntmps94, Nat.reduceEqDiff, reduceCtorEq, Nat.reduceMul, Nat.reduceAdd, Nat.reduceSub, Nat.reduceDiv, Nat.reduceMod, Nat.reduceLeDiff, Nat.reduceLT, Nat.reduceBNe, Nat.reduceBEq, reduceIte, Int.reduceLE, Int.reduceLT, Int.reduceToNat, Int.reduceNeg, Int.reduceAdd, Int.reduceSub, Int.reduceMul, Int.reduceEq]
    have hL := cutL_size s ⟨#[64]⟩
    have hR := cutR_size s ⟨#[64]⟩
    have hD : mailB s = (cutB s ⟨#[64]⟩ && decide ((s.size : Int) ≤ 80) && localB (cutL s ⟨#[64]⟩) && (splitS (cutR s ⟨#[64]⟩) ⟨#[46]⟩).all labelB && decide (2 ≤ (splitS (cutR s ⟨#[64]⟩) ⟨#[46]⟩).length)) := rfl
    generalize mailB s = R at hD
    generalize cutL s ⟨#[64]⟩ = a at *
    generalize cutR s ⟨#[64]⟩ = b at *
    have hA : localB a = (inB a.size 1 64 && decide (bt a 0 ≠ 46) && decide (bt a ((a.size : Int) - 1) ≠ 46) && !conS a ⟨#[46, 46]⟩ && (bl a).all locC) := rfl
    refine ⟨hs, fun c1 => ⟨fun c2 => ⟨fun c3 => ?_, fun c3 => by rw [hD, hA]; simp [c3]⟩, fun c2 => by rw [hD]; simp; omega⟩, fun c1 => by rw [hD]; simp [c1]⟩
    have e3 := inB_iff.1 c3
    rw [i64w (n := (a.size : Int) - 1) (by omega) (by omega)]
    refine ⟨by omega, fun c4 => ⟨by omega, by omega, fun c5 => ⟨by omega, fun c6 => by rw [hD, hA]; simp [c6], fun c6 => ⟨by omega, fun c7 => by rw [hD, hA]; simp [show (bl a).all locC = false from c7], fun c7 => ⟨by omega, ?_⟩⟩⟩, fun c5 => by rw [hD, hA]; simp [c5]⟩, fun c4 => by rw [hD, hA]; simp [c4]⟩
    have hl : localB a = true := by rw [hA]; simp [c3, c4, c5, c6, show (bl a).all locC = true from c7]
    have hle := splitS_le (s := b) (p := ⟨#[46]⟩) (by decide)
    have hsz := splitS_get b ⟨#[46]⟩
    rw [c1, hl, decide_eq_true (show (s.size : Int) ≤ 80 by omega)] at hD
    generalize splitS b ⟨#[46]⟩ = l at *
    refine vc_loopS (Int) (fun (i : Int) => [(52, .i i)]) [] (fun (i : Int) => []) (fun (i : Int) => []) (fun (i : Int) => 0) (fun (i : Int) => 0 ≤ i ∧ i ≤ l.length ∧ ∀ j : Nat, (j : Int) < i → labelB (l.getD j ⟨#[]⟩) = true) (fun (i : Int) => (l.length - i).toNat) [] ?_ ?_
    · simp only [go_sem, h.hP, List.cons_append, List.nil_append, Meets_e, Below_e, Prod.exists, exists_eq, exists_eq_left, exists_eq_left', exists_eq_right, exists_eq_right', exists_and_left, exists_and_right, Ob.arr.injEq, AV.own.injEq, AV.fv.injEq, rowsT_len, Tryd.ntmps94, Nat.reduceEqDiff, reduceCtorEq, Nat.reduceMul, Nat.reduceAdd, Nat.reduceSub, Nat.reduceDiv, Nat.reduceMod, Nat.reduceLeDiff, Nat.reduceLT, Nat.reduceBNe, Nat.reduceBEq, reduceIte, Int.reduceLE, Int.reduceLT, Int.reduceToNat, Int.reduceNeg, Int.reduceAdd, Int.reduceSub, Int.reduceMul, Int.reduceEq]
      exact ⟨by omega, fun j hj => by omega⟩
    · rintro i ⟨j1, j2, j3⟩
      simp only [go_sem, h.hP, List.cons_append, List.nil_append, Meets_e, Below_e, Prod.exists, exists_eq, exists_eq_left, exists_eq_left', exists_eq_right, exists_eq_right', exists_and_left, exists_and_right, Ob.arr.injEq, AV.own.injEq, AV.fv.injEq, strB4_q, strB4_p, strB4_c, strB4_f, rowsT_len, rowsT_get, Tryd.ntmps94, Nat.reduceEqDiff, reduceCtorEq, Nat.reduceMul, Nat.reduceAdd, Nat.reduceSub, Nat.reduceDiv, Nat.reduceMod, Nat.reduceLeDiff, Nat.reduceLT, Nat.reduceBNe, Nat.reduceBEq, reduceIte, Int.reduceLE, Int.reduceLT, Int.reduceToNat, Int.reduceNeg, Int.reduceAdd, Int.reduceSub, Int.reduceMul, Int.reduceEq]
      refine ⟨fun q => ?_, fun q => ?_⟩
      · have := hsz i.toNat
        refine ⟨j1, q, by omega, fun d => ?_, fun d => ?_⟩
        · have := all_no (p := labelB) (show i.toNat < l.length by omega) d
          rw [hD, this]; simp
        · rw [i64w (n := i + 1) (by omega) (by omega)]
          refine ⟨by omega, by omega, fun j hj => ?_, by omega⟩
          by_cases e : (j : Int) = i
          · have : i.toNat = j := by omega
            rw [← this]; exact d
          · exact j3 j (by omega)
      · have := all_yes (p := labelB) ⟨#[]⟩ fun j hj => j3 j (by omega)
        rw [hD, this]
        simp only [Bool.true_and]
        exact decide_eq_decide.2 (by omega)
end Go.Avc

/- Distance, people, Changed: their contracts. No condition. -/
set_option linter.unusedVariables false
set_option linter.unusedSimpArgs false
set_option maxRecDepth 100000
namespace Go.Avc
open Go Go.Proofs

def distanceS : Spec where
  pre xs := ∃ s t : ByteArray, xs = [.str s, .str t]
  post xs r := ∃ s t : ByteArray, xs = [.str s, .str t] ∧ r = if s.size > 200 ∨ t.size > 200 then .tcons (.i 0) (.tcons (.i 2) .tnil) else .tcons (.i (distP (pts s) (pts t))) (.tcons (.i 0) .tnil)
  cost _ := 0
  fresh := true
theorem distance_ctr {cx : Cx} (h : Seat cx) (hU : Utf8 cx) : Ctr cx 21 distanceS := by
  refine ctr_of (fn := Tryd.f21) (l := [.tmp 4, .tmp 5]) (envL [(69, (ptsS .i32)), (68, distS)]) [0, 1, 4, 5, 13] [] [] (envL_cons (pts_ctr h hU) (envL_cons (dist_ctr h) (env0 h.hP))) ?_ (by rw [h.hP]; exact Tryd.func21) rfl (by kernel_rfl) rfl ?_ ?_
  · rw [h.hP]; exact ⟨_, Tryd.func21, by kernel_rfl, by kernel_rfl⟩
  · rintro xs ⟨s, t, rfl⟩; exact ⟨_, s, t, rfl, rfl⟩
  · rintro xs ⟨s, t, rfl⟩
    refine ⟨by rw [Tryd.ntmps21]; simp, ?_⟩
    simp only [go_sem, h.hP, distanceS, ptsS, distS, rowsK_inj, Tryd.ntmps21, Nat.reduceEqDiff, reduceCtorEq, Nat.reduceMul, Nat.reduceAdd, Nat.reduceSub, Nat.reduceDiv, Nat.reduceMod, Nat.reduceLeDiff, Nat.reduceLT, Nat.reduceBNe, Nat.reduceBEq, reduceIte, Int.reduceLE, Int.reduceLT, Int.reduceToNat, Int.reduceNeg, Int.reduceAdd, Int.reduceSub, Int.reduceMul, Int.reduceEq]
    have hp : (pts s).length ≤ s.size := ptsL_len s.size s
    have hq : (pts t).length ≤ t.size := ptsL_len t.size t
    (repeat' (first | with_reducible apply And.intro | with_reducible intro))
    all_goals first
      | omega
      | rw [if_pos (by omega)]
      | rw [if_neg (by omega)]
theorem kitten : distP (pts ⟨#[107, 105, 116, 116, 101, 110]⟩) (pts ⟨#[115, 105, 116, 116, 105, 110, 103]⟩) = 3 := by decide +kernel
theorem quote_space : quotedF ⟨#[32]⟩ = ⟨#[34, 92, 120, 50, 48, 34]⟩ := by decide +kernel
def peopleS : Spec where
  pre xs := xs = []
  post xs r := r = .b true
  cost _ := 0
  fresh := true
theorem people_ctr {cx : Cx} (h : Seat cx) (hU : Utf8 cx) : Ctr cx 18 peopleS := by
  refine ctr_of (fn := Tryd.f18) (l := [.tmp 0]) (envL [(21, distanceS), (12, quoteS)]) [0, 1, 2] [] [] (envL_cons (distance_ctr h hU) (envL_cons (quote_ctr h) (env0 h.hP))) ?_ (by rw [h.hP]; exact Tryd.func18) rfl (by kernel_rfl) rfl ?_ ?_
  · rw [h.hP]; exact ⟨_, Tryd.func18, by kernel_rfl, by kernel_rfl⟩
  · rintro xs rfl; exact ⟨_, rfl⟩
  · rintro xs rfl
    refine ⟨by rw [Tryd.ntmps18]; simp, ?_⟩
    simp only [go_sem, h.hP, peopleS, distanceS, quoteS, Tryd.ntmps18, Nat.reduceEqDiff, reduceCtorEq, Nat.reduceMul, Nat.reduceAdd, Nat.reduceSub, Nat.reduceDiv, Nat.reduceMod, Nat.reduceLeDiff, Nat.reduceLT, Nat.reduceBNe, Nat.reduceBEq, reduceIte, Int.reduceLE, Int.reduceLT, Int.reduceToNat, Int.reduceNeg, Int.reduceAdd, Int.reduceSub, Int.reduceMul, Int.reduceEq]
    exact ⟨fun _ => quote_space, fun e => e kitten⟩
theorem enc_le (n : Int) : (Utf8.encode n).size ≤ 4 := by
  unfold Utf8.encode
  simp only
  generalize (if Utf8.valid n = true then n.toNat else Utf8.runeError) = c
  split
  · exact (by decide : (1 : Nat) ≤ 4)
  · split
    · exact (by decide : (2 : Nat) ≤ 4)
    · split
      · exact (by decide : (3 : Nat) ≤ 4)
      · exact (by decide : (4 : Nat) ≤ 4)
def changedS : Spec where
  pre xs := ∃ t u : ByteArray, xs = [.st, .str t, .str u] ∧ t.size ≤ 1073741824 ∧ u.size ≤ 1073741824
  post xs r := ∃ t u v : ByteArray, xs = [.st, .str t, .str u] ∧ v.size ≤ t.size + u.size + 4 ∧ r = .str v
  cost _ := 3
  fresh := true
theorem changed_ctr {cx : Cx} (h : Seat cx) : Ctr cx 15 changedS := by
  refine ctr_of (fn := Tryd.f15) (l := [.tmp 6]) (envL [(25, nextS)]) [0, 1, 2, 6, 7, 8, 14, 27, 28, 42] [] [] (envL_cons (next_ctr cx h.hP h.hS) (env0 h.hP)) ?_ (by rw [h.hP]; exact Tryd.func15) rfl (by kernel_rfl) rfl ?_ ?_
  · rw [h.hP]; exact ⟨_, Tryd.func15, by kernel_rfl, by kernel_rfl⟩
  · rintro xs ⟨t, u, rfl, h1, h2⟩; exact ⟨_, t, u, ⟨#[]⟩, rfl, Nat.zero_le _, rfl⟩
  · rintro xs ⟨t, u, rfl, h1, h2⟩
    refine ⟨by rw [Tryd.ntmps15]; simp, ?_⟩
    simp only [go_sem, h.hP, changedS, nextS, str_nil, Tryd.ntmps15, Nat.reduceEqDiff, reduceCtorEq, Nat.reduceMul, Nat.reduceAdd, Nat.reduceSub, Nat.reduceDiv, Nat.reduceMod, Nat.reduceLeDiff, Nat.reduceLT, Nat.reduceBNe, Nat.reduceBEq, reduceIte, Int.reduceLE, Int.reduceLT, Int.reduceToNat, Int.reduceNeg, Int.reduceAdd, Int.reduceSub, Int.reduceMul, Int.reduceEq]
    refine ⟨fun c1 => ⟨fun c2 => by omega, fun c2 => ⟨by omega, fun a h3 h4 => ⟨by omega, fun b h5 h6 => ⟨by omega, by omega, fun q h7 h8 => ?_⟩⟩⟩⟩, fun c1 => by omega⟩
    obtain ⟨ha0, ha1⟩ := h3 (by omega)
    have he := enc_le (IntKind.i32.wrap (bt u b))
    rw [i64w (n := a + 1) (by omega) (by omega)]
    simp only [ByteArray.size_extract]
    clear h3 h4 h5 h6
    (repeat' (first | with_reducible apply And.intro | with_reducible intro)) <;> omega
end Go.Avc

/- Check signs of member numbers, by the program and by the reference. No condition. -/
set_option linter.unusedVariables false
set_option linter.unusedSimpArgs false
set_option maxRecDepth 100000
namespace Go.Avc
open Go Go.Proofs

theorem ix_lit {s : ByteArray} {i : Int} (h : memC (bt s i) = true) : ixB ⟨#[48, 49, 50, 51, 52, 53, 54, 55, 56, 57, 65, 66, 67, 68, 69, 70, 71, 72, 73, 74, 75, 76, 77, 78, 79, 80, 81, 82, 83, 84, 85, 86, 87, 88, 89, 90]⟩ (bt s i) = idxC (bt s i) := idx_bt h
theorem tdivN {a b : Int} (h : 0 ≤ a) : a.tdiv b = a / b := Int.tdiv_eq_ediv_of_nonneg h
theorem tmodN {a b : Int} (h : 0 ≤ a) : a.tmod b = a % b := Int.tmod_eq_emod_of_nonneg h
theorem signs_lit (i : Int) : bt ⟨#[48, 49, 50, 51, 52, 53, 54, 55, 56, 57, 65, 66, 67, 68, 69, 70, 71, 72, 73, 74, 75, 76, 77, 78, 79, 80, 81, 82, 83, 84, 85, 86, 87, 88, 89, 90]⟩ i = bt signsB i := rfl
theorem sumUp_step (s : ByteArray) {i : Int} (h : 0 ≤ i) : sumUp s (i + 1).toNat = sumUp s i.toNat + termS s i.toNat := by
  rw [show (i + 1).toNat = i.toNat + 1 by omega]
  rfl
def signP  : Spec where
  pre xs := ∃ (s : ByteArray), xs = [.str s] ∧ (s.size ≤ 100 ∧ (bl s).all memC = true)
  post xs y := ∃ (s : ByteArray), xs = [.str s] ∧ y = .u8 (bt signsB (signN s))
  cost _ := 0
  fresh := true
theorem signP_c  (xs : List AV) : (signP).cost xs = 0 := nr rfl
theorem signP_f  : (signP).fresh = true := nr rfl
theorem signP_q  (s : ByteArray) : (signP).pre [.str s] = (s.size ≤ 100 ∧ (bl s).all memC = true) := propext ⟨fun h => by
  have h' : ∃ (s' : ByteArray), ([.str s] : List AV) = [.str s'] ∧ (s'.size ≤ 100 ∧ (bl s').all memC = true) := h
  obtain ⟨s', e, h⟩ := h'
  simp only [List.cons.injEq, AV.dv.injEq, AV.fv.injEq, DV.d.injEq, DV.ag.injEq, D.int.injEq, D.str.injEq, D.bool.injEq, D.sl.injEq, true_and, and_true, intsDi_inj, rowsT_inj, rowsKi_inj] at e
  obtain rfl := e
  exact h, fun h => ⟨s, rfl, h⟩⟩
theorem signP_p  (s : ByteArray) : (signP).post [.str s] = fun y => y = .u8 (bt signsB (signN s)) := funext fun y => propext ⟨fun h => by
  have h' : ∃ (s' : ByteArray), ([.str s] : List AV) = [.str s'] ∧ y = .u8 (bt signsB (signN s')) := h
  obtain ⟨s', e, h⟩ := h'
  simp only [List.cons.injEq, AV.dv.injEq, AV.fv.injEq, DV.d.injEq, DV.ag.injEq, D.int.injEq, D.str.injEq, D.bool.injEq, D.sl.injEq, true_and, and_true, intsDi_inj, rowsT_inj, rowsKi_inj] at e
  obtain rfl := e
  exact h, fun h => ⟨s, rfl, h⟩⟩
theorem pcheckSign_ctr {cx : Cx} (h : Seat cx) : Ctr cx 98 signP := by
  refine ctr_of (fn := Tryd.f98) (l := [.tmp 2]) (envL [(117, ixSp)]) [0, 2, 3, 4, 5, 6, 11] [] [] (envL_cons (indexByte_ctr h) (env0 h.hP)) ?_ (by rw [h.hP]; exact Tryd.func98) rfl (by kernel_rfl) rfl ?_ ?_
  · rw [h.hP]; exact ⟨_, Tryd.func98, by kernel_rfl, by kernel_rfl⟩
  · rintro xs ⟨s, rfl, h1, h2⟩; exact ⟨_, s, rfl, rfl⟩
  · rintro xs ⟨s, rfl, h1, h2⟩
    refine ⟨by rw [Tryd.ntmps98]; simp, ?_⟩
    simp only [go_sem, h.hP, List.cons_append, List.nil_append, Meets_e, Below_e, Prod.exists, exists_eq, exists_eq_left, exists_eq_left', exists_eq_right, exists_eq_right', exists_and_left, exists_and_right, Ob.arr.injEq, AV.own.injEq, AV.fv.injEq, signP_q, signP_p, signP_c, signP_f, ixSp_q, ixSp_p, ixSp_c, ixSp_f, Tryd.ntmps98, Nat.reduceEqDiff, reduceCtorEq, Nat.reduceMul, Nat.reduceAdd, Nat.reduceSub, Nat.reduceDiv, Nat.reduceMod, Nat.reduceLeDiff, Nat.reduceLT, Nat.reduceBNe, Nat.reduceBEq, reduceIte, Int.reduceLE, Int.reduceLT, Int.reduceToNat, Int.reduceNeg, Int.reduceAdd, Int.reduceSub, Int.reduceMul, Int.reduceEq]
    refine vc_loopS (Int × Int × Int) (fun (x : Int × Int × Int) => match x with | (i, u, t) => [(5, .i i), (3, .i u), (4, .i t)]) [] (fun (x : Int × Int × Int) => match x with | (i, u, t) => []) (fun (x : Int × Int × Int) => match x with | (i, u, t) => []) (fun (x : Int × Int × Int) => match x with | (i, u, t) => 0) (fun (x : Int × Int × Int) => match x with | (i, u, t) => -1 ≤ i ∧ i < s.size ∧ u + sumUp s (i + 1).toNat = sumUp s s.size ∧ (t = if ((s.size : Int) - i) % 2 = 1 then 2 else 1) ∧ 0 ≤ u) (fun (x : Int × Int × Int) => match x with | (i, u, t) => (i + 1).toNat) [] ?_ ?_
    · simp only [go_sem, h.hP, List.cons_append, List.nil_append, Meets_e, Below_e, Prod.exists, exists_eq, exists_eq_left, exists_eq_left', exists_eq_right, exists_eq_right', exists_and_left, exists_and_right, Ob.arr.injEq, AV.own.injEq, AV.fv.injEq, Tryd.ntmps98, Nat.reduceEqDiff, reduceCtorEq, Nat.reduceMul, Nat.reduceAdd, Nat.reduceSub, Nat.reduceDiv, Nat.reduceMod, Nat.reduceLeDiff, Nat.reduceLT, Nat.reduceBNe, Nat.reduceBEq, reduceIte, Int.reduceLE, Int.reduceLT, Int.reduceToNat, Int.reduceNeg, Int.reduceAdd, Int.reduceSub, Int.reduceMul, Int.reduceEq]
      rw [i64w (n := (s.size : Int) - 1) (by omega) (by omega), show ((s.size : Int) - 1 + 1).toNat = s.size by omega]
      exact ⟨by omega, by omega, Int.zero_add _, (if_pos (by omega)).symm⟩
    · rintro ⟨i, u, t⟩ ⟨j1, j2, j3, j4, j5⟩
      simp only [go_sem, h.hP, List.cons_append, List.nil_append, Meets_e, Below_e, Prod.exists, exists_eq, exists_eq_left, exists_eq_left', exists_eq_right, exists_eq_right', exists_and_left, exists_and_right, Ob.arr.injEq, AV.own.injEq, AV.fv.injEq, signP_q, signP_p, signP_c, signP_f, ixSp_q, ixSp_p, ixSp_c, ixSp_f, Tryd.ntmps98, Nat.reduceEqDiff, reduceCtorEq, Nat.reduceMul, Nat.reduceAdd, Nat.reduceSub, Nat.reduceDiv, Nat.reduceMod, Nat.reduceLeDiff, Nat.reduceLT, Nat.reduceBNe, Nat.reduceBEq, reduceIte, Int.reduceLE, Int.reduceLT, Int.reduceToNat, Int.reduceNeg, Int.reduceAdd, Int.reduceSub, Int.reduceMul, Int.reduceEq]
      have hs0 := sumUp_in h2 s.size (Nat.le_refl _)
      have hs1 := sumUp_in h2 (i + 1).toNat (by omega)
      refine ⟨fun c => ?_, fun c => ?_⟩
      · have hm := all_at h2 c j2
        rw [ix_lit hm]
        have hx := idxC_in hm
        have ht := sumUp_step s c
        have hterm : termS s i.toNat = t * idxC (bt s i) / 36 + t * idxC (bt s i) % 36 := by
          unfold termS
          simp only
          rw [Int.toNat_of_nonneg c, j4]
          by_cases e : ((s.size : Int) - i) % 2 = 1
          · rw [if_pos e, if_pos (by omega)]
          · rw [if_neg e, if_neg (by omega), Int.one_mul]
        have hp0 : 0 ≤ t * idxC (bt s i) ∧ t * idxC (bt s i) ≤ 70 := by
          rw [j4]
          split <;> omega
        generalize t * idxC (bt s i) = p at *
        rw [i64w (n := p) (by omega) (by omega), tdivN hp0.1, tmodN hp0.1, i64w (n := p / 36) (by omega) (by omega), i64w (n := p / 36 + p % 36) (by omega) (by omega), i64w (n := u + (p / 36 + p % 36)) (by omega) (by omega), i64w (n := i - 1) (by omega) (by omega), i64w (n := 3 - t) (by rw [j4]; split <;> omega) (by rw [j4]; split <;> omega), show i - 1 + 1 = i by omega]
        exact ⟨c, j2, by omega, by omega, by omega, by rw [j4]; split <;> split <;> omega, by omega, by omega⟩
      · have hi : (i + 1).toNat = 0 := by omega
        rw [hi] at j3
        have hz : sumUp s 0 = 0 := rfl
        have hsg := signN_in s
        have e1 : (36 - u % 36) % 36 = signN s := by
          unfold signN
          rw [show u = sumUp s s.size by omega]
        rw [tmodN j5, i64w (n := 36 - u % 36) (by omega) (by omega), tmodN (by omega), signs_lit, e1]
        exact ⟨by omega, by omega, rfl⟩
def signR  : Spec where
  pre xs := ∃ (s : ByteArray), xs = [.str s] ∧ (s.size ≤ 100 ∧ (bl s).all memC = true)
  post xs y := ∃ (s : ByteArray), xs = [.str s] ∧ y = .i (signN s)
  cost _ := 0
  fresh := true
theorem signR_c  (xs : List AV) : (signR).cost xs = 0 := nr rfl
theorem signR_f  : (signR).fresh = true := nr rfl
theorem signR_q  (s : ByteArray) : (signR).pre [.str s] = (s.size ≤ 100 ∧ (bl s).all memC = true) := propext ⟨fun h => by
  have h' : ∃ (s' : ByteArray), ([.str s] : List AV) = [.str s'] ∧ (s'.size ≤ 100 ∧ (bl s').all memC = true) := h
  obtain ⟨s', e, h⟩ := h'
  simp only [List.cons.injEq, AV.dv.injEq, AV.fv.injEq, DV.d.injEq, DV.ag.injEq, D.int.injEq, D.str.injEq, D.bool.injEq, D.sl.injEq, true_and, and_true, intsDi_inj, rowsT_inj, rowsKi_inj] at e
  obtain rfl := e
  exact h, fun h => ⟨s, rfl, h⟩⟩
theorem signR_p  (s : ByteArray) : (signR).post [.str s] = fun y => y = .i (signN s) := funext fun y => propext ⟨fun h => by
  have h' : ∃ (s' : ByteArray), ([.str s] : List AV) = [.str s'] ∧ y = .i (signN s') := h
  obtain ⟨s', e, h⟩ := h'
  simp only [List.cons.injEq, AV.dv.injEq, AV.fv.injEq, DV.d.injEq, DV.ag.injEq, D.int.injEq, D.str.injEq, D.bool.injEq, D.sl.injEq, true_and, and_true, intsDi_inj, rowsT_inj, rowsKi_inj] at e
  obtain rfl := e
  exact h, fun h => ⟨s, rfl, h⟩⟩
theorem rcheckSign_ctr {cx : Cx} (h : Seat cx) : Ctr cx 105 signR := by
  refine ctr_of (fn := Tryd.f105) (l := [.tmp 2]) (envL [(117, ixSp)]) [0, 2, 3, 4, 5, 6, 8, 9, 10, 21, 32, 33, 39] [] [] (envL_cons (indexByte_ctr h) (env0 h.hP)) ?_ (by rw [h.hP]; exact Tryd.func105) rfl (by kernel_rfl) rfl ?_ ?_
  · rw [h.hP]; exact ⟨_, Tryd.func105, by kernel_rfl, by kernel_rfl⟩
  · rintro xs ⟨s, rfl, h1, h2⟩; exact ⟨_, s, rfl, rfl⟩
  · rintro xs ⟨s, rfl, h1, h2⟩
    refine ⟨by rw [Tryd.ntmps105]; simp, ?_⟩
    simp only [go_sem, h.hP, List.cons_append, List.nil_append, Meets_e, Below_e, Prod.exists, exists_eq, exists_eq_left, exists_eq_left', exists_eq_right, exists_eq_right', exists_and_left, exists_and_right, Ob.arr.injEq, AV.own.injEq, AV.fv.injEq, signR_q, signR_p, signR_c, signR_f, ixSp_q, ixSp_p, ixSp_c, ixSp_f, Tryd.ntmps105, Nat.reduceEqDiff, reduceCtorEq, Nat.reduceMul, Nat.reduceAdd, Nat.reduceSub, Nat.reduceDiv, Nat.reduceMod, Nat.reduceLeDiff, Nat.reduceLT, Nat.reduceBNe, Nat.reduceBEq, reduceIte, Int.reduceLE, Int.reduceLT, Int.reduceToNat, Int.reduceNeg, Int.reduceAdd, Int.reduceSub, Int.reduceMul, Int.reduceEq]
    refine vc_loopS (Int × Int) (fun (x : Int × Int) => match x with | (i, u) => [(9, .i i), (3, .i u)]) [] (fun (x : Int × Int) => match x with | (i, u) => []) (fun (x : Int × Int) => match x with | (i, u) => []) (fun (x : Int × Int) => match x with | (i, u) => 0) (fun (x : Int × Int) => match x with | (i, u) => 0 ≤ i ∧ i ≤ s.size ∧ u = sumUp s i.toNat) (fun (x : Int × Int) => match x with | (i, u) => (s.size - i).toNat) [] ?_ ?_
    · simp only [go_sem, h.hP, List.cons_append, List.nil_append, Meets_e, Below_e, Prod.exists, exists_eq, exists_eq_left, exists_eq_left', exists_eq_right, exists_eq_right', exists_and_left, exists_and_right, Ob.arr.injEq, AV.own.injEq, AV.fv.injEq, Tryd.ntmps105, Nat.reduceEqDiff, reduceCtorEq, Nat.reduceMul, Nat.reduceAdd, Nat.reduceSub, Nat.reduceDiv, Nat.reduceMod, Nat.reduceLeDiff, Nat.reduceLT, Nat.reduceBNe, Nat.reduceBEq, reduceIte, Int.reduceLE, Int.reduceLT, Int.reduceToNat, Int.reduceNeg, Int.reduceAdd, Int.reduceSub, Int.reduceMul, Int.reduceEq]
      exact ⟨Int.natCast_nonneg _, rfl⟩
    · rintro ⟨i, u⟩ ⟨j1, j2, j3⟩
      simp only [go_sem, h.hP, List.cons_append, List.nil_append, Meets_e, Below_e, Prod.exists, exists_eq, exists_eq_left, exists_eq_left', exists_eq_right, exists_eq_right', exists_and_left, exists_and_right, Ob.arr.injEq, AV.own.injEq, AV.fv.injEq, signR_q, signR_p, signR_c, signR_f, ixSp_q, ixSp_p, ixSp_c, ixSp_f, Tryd.ntmps105, Nat.reduceEqDiff, reduceCtorEq, Nat.reduceMul, Nat.reduceAdd, Nat.reduceSub, Nat.reduceDiv, Nat.reduceMod, Nat.reduceLeDiff, Nat.reduceLT, Nat.reduceBNe, Nat.reduceBEq, reduceIte, Int.reduceLE, Int.reduceLT, Int.reduceToNat, Int.reduceNeg, Int.reduceAdd, Int.reduceSub, Int.reduceMul, Int.reduceEq]
      have hs1 := sumUp_in h2 i.toNat (by omega)
      refine ⟨fun c => ?_, fun c => ?_⟩
      · have hm := all_at h2 j1 c
        rw [ix_lit hm]
        have hx := idxC_in hm
        have ht := sumUp_step s j1
        have hterm : termS s i.toNat = if ((s.size : Int) - i) % 2 = 1 then idxC (bt s i) * 2 / 36 + idxC (bt s i) * 2 % 36 else idxC (bt s i) / 36 + idxC (bt s i) % 36 := by
          unfold termS
          simp only
          rw [Int.toNat_of_nonneg j1]
          by_cases e : ((s.size : Int) - i) % 2 = 1
          · rw [if_pos e, if_pos (by omega), Int.mul_comm]
          · rw [if_neg e, if_neg (by omega)]
        generalize idxC (bt s i) = x at *
        rw [i64w (n := (s.size : Int) - i) (by omega) (by omega), tmodN (by omega), i64w (n := i + 1) (by omega) (by omega)]
        refine ⟨j1, c, fun e => ?_, fun e => ?_⟩
        · rw [if_pos e] at hterm
          rw [i64w (n := x * 2) (by omega) (by omega), tdivN (by omega), tmodN (by omega), i64w (n := x * 2 / 36) (by omega) (by omega), i64w (n := x * 2 / 36 + x * 2 % 36) (by omega) (by omega), i64w (n := u + (x * 2 / 36 + x * 2 % 36)) (by omega) (by omega)]
          exact ⟨by omega, by omega, by omega, by omega⟩
        · rw [if_neg e] at hterm
          rw [tdivN (by omega), tmodN (by omega), i64w (n := x / 36) (by omega) (by omega), i64w (n := x / 36 + x % 36) (by omega) (by omega), i64w (n := u + (x / 36 + x % 36)) (by omega) (by omega)]
          exact ⟨by omega, by omega, by omega, by omega⟩
      · have hi : i.toNat = s.size := by omega
        rw [hi] at j3
        have hsg := signN_in s
        have e1 : (36 - u % 36) % 36 = signN s := by
          unfold signN
          rw [j3]
        refine vc_loopT (Int) (fun (c : Int) => [(32, .i c)]) [] (fun (c : Int) => []) (fun (c : Int) => []) (fun (c : Int) => 0) (fun (c : Int) => 0 ≤ c ∧ c ≤ signN s) (fun (c : Int) => (36 - c).toNat) [] ?_ ?_
        · simp only [go_sem, h.hP, List.cons_append, List.nil_append, Meets_e, Below_e, Prod.exists, exists_eq, exists_eq_left, exists_eq_left', exists_eq_right, exists_eq_right', exists_and_left, exists_and_right, Ob.arr.injEq, AV.own.injEq, AV.fv.injEq, Tryd.ntmps105, Nat.reduceEqDiff, reduceCtorEq, Nat.reduceMul, Nat.reduceAdd, Nat.reduceSub, Nat.reduceDiv, Nat.reduceMod, Nat.reduceLeDiff, Nat.reduceLT, Nat.reduceBNe, Nat.reduceBEq, reduceIte, Int.reduceLE, Int.reduceLT, Int.reduceToNat, Int.reduceNeg, Int.reduceAdd, Int.reduceSub, Int.reduceMul, Int.reduceEq]
          exact hsg.1
        · rintro d ⟨k1, k2⟩
          have hs2 := sumUp_in h2 s.size (Nat.le_refl _)
          simp only [go_sem, h.hP, List.cons_append, List.nil_append, Meets_e, Below_e, Prod.exists, exists_eq, exists_eq_left, exists_eq_left', exists_eq_right, exists_eq_right', exists_and_left, exists_and_right, Ob.arr.injEq, AV.own.injEq, AV.fv.injEq, signR_q, signR_p, signR_c, signR_f, Tryd.ntmps105, Nat.reduceEqDiff, reduceCtorEq, Nat.reduceMul, Nat.reduceAdd, Nat.reduceSub, Nat.reduceDiv, Nat.reduceMod, Nat.reduceLeDiff, Nat.reduceLT, Nat.reduceBNe, Nat.reduceBEq, reduceIte, Int.reduceLE, Int.reduceLT, Int.reduceToNat, Int.reduceNeg, Int.reduceAdd, Int.reduceSub, Int.reduceMul, Int.reduceEq]
          refine ⟨fun q => ?_, fun q => by omega⟩
          rw [i64w (n := u + d) (by omega) (by omega), tmodN (by omega), i64w (n := d + 1) (by omega) (by omega)]
          exact ⟨fun e => by omega, fun e => ⟨by omega, by omega, by omega⟩⟩
end Go.Avc

/- Ids: what is wrong with them, and their order, by the program. No condition. -/
set_option linter.unusedVariables false
set_option linter.unusedSimpArgs false
set_option maxRecDepth 100000
namespace Go.Avc
open Go Go.Proofs

def idS  : Spec where
  pre xs := ∃ (x : TId), xs = [.dv (.ag x.row)] ∧ (x.ok)
  post xs y := ∃ (x : TId), xs = [.dv (.ag x.row)] ∧ y = .i (idF x)
  cost _ := 0
  fresh := true
theorem idS_c  (xs : List AV) : (idS).cost xs = 0 := nr rfl
theorem idS_f  : (idS).fresh = true := nr rfl
theorem idS_q  (x : TId) : (idS).pre [.dv (.ag [.int .i64 x.kind, .str x.text])] = (x.ok) := propext ⟨fun h => by
  have h' : ∃ (x' : TId), ([.dv (.ag x.row)] : List AV) = [.dv (.ag x'.row)] ∧ (x'.ok) := h
  obtain ⟨x', e, h⟩ := h'
  simp only [List.cons.injEq, AV.dv.injEq, AV.fv.injEq, DV.d.injEq, DV.ag.injEq, D.int.injEq, D.str.injEq, D.bool.injEq, D.sl.injEq, true_and, and_true, intsDi_inj, rowsT_inj, rowsKi_inj, TId.row_inj, TId.rows_inj] at e
  obtain rfl := e
  exact h, fun h => ⟨x, rfl, h⟩⟩
theorem idS_p  (x : TId) : (idS).post [.dv (.ag [.int .i64 x.kind, .str x.text])] = fun y => y = .i (idF x) := funext fun y => propext ⟨fun h => by
  have h' : ∃ (x' : TId), ([.dv (.ag x.row)] : List AV) = [.dv (.ag x'.row)] ∧ y = .i (idF x') := h
  obtain ⟨x', e, h⟩ := h'
  simp only [List.cons.injEq, AV.dv.injEq, AV.fv.injEq, DV.d.injEq, DV.ag.injEq, D.int.injEq, D.str.injEq, D.bool.injEq, D.sl.injEq, true_and, and_true, intsDi_inj, rowsT_inj, rowsKi_inj, TId.row_inj, TId.rows_inj] at e
  obtain rfl := e
  exact h, fun h => ⟨x, rfl, h⟩⟩
set_option maxHeartbeats 4000000 in
theorem CheckId_ctr {cx : Cx} (h : Seat cx) (hM : MaxL cx) : Ctr cx 52 idS := by
  refine ctr_of (fn := Tryd.f52) (l := [.tmp 2]) (envL [(94, (strB4 mailB)), (95, (strB4 phoneB)), (96, (strB4 memberB)), (97, (strB4 deviceB)), (98, signP)]) [0, 1, 2, 3, 4, 6, 7, 12, 17, 22, 28, 47] [] [] (envL_cons (isMail_ctr h hM) (envL_cons (isPhone_ctr h) (envL_cons (isMember_ctr h) (envL_cons (isDevice_ctr h) (envL_cons (pcheckSign_ctr h) (env0 h.hP)))))) ?_ (by rw [h.hP]; exact Tryd.func52) rfl (by kernel_rfl) rfl ?_ ?_
  · rw [h.hP]; exact ⟨_, Tryd.func52, by kernel_rfl, by kernel_rfl⟩
  · rintro xs ⟨x, rfl, h1⟩; exact ⟨_, x, rfl, rfl⟩
  · rintro xs ⟨x, rfl, h1⟩
    obtain ⟨o1, o2⟩ := h1
    refine ⟨by rw [Tryd.ntmps52]; simp, ?_⟩
    simp only [go_sem, h.hP, List.cons_append, List.nil_append, Meets_e, Below_e, Prod.exists, exists_eq, exists_eq_left, exists_eq_left', exists_eq_right, exists_eq_right', exists_and_left, exists_and_right, Ob.arr.injEq, AV.own.injEq, AV.fv.injEq, idS_q, idS_p, idS_c, idS_f, strB4_q, strB4_p, strB4_c, strB4_f, signP_q, signP_p, signP_c, signP_f, TId.row, Tryd.ntmps52, Nat.reduceEqDiff, reduceCtorEq, Nat.reduceMul, Nat.reduceAdd, Nat.reduceSub, Nat.reduceDiv, Nat.reduceMod, Nat.reduceLeDiff, Nat.reduceLT, Nat.reduceBNe, Nat.reduceBEq, reduceIte, Int.reduceLE, Int.reduceLT, Int.reduceToNat, Int.reduceNeg, Int.reduceAdd, Int.reduceSub, Int.reduceMul, Int.reduceEq]
    unfold okS at o2
    have m0 : memberB x.text = true → 4 ≤ (x.text.size : Int) ∧ (x.text.size : Int) ≤ 20 ∧ (bl x.text).all memC = true := fun e => by
      unfold memberB at e
      rw [Bool.and_eq_true] at e
      have := inB_iff.1 e.1
      exact ⟨this.1, this.2, e.2⟩
    have hI : 4 ≤ (x.text.size : Int) → x.text.extract 0 (IntKind.i64.wrap ((x.text.size : Int) - 1)).toNat = initS x.text := fun e => by
      rw [i64w (n := (x.text.size : Int) - 1) (by omega) (by omega), show ((x.text.size : Int) - 1).toNat = x.text.size - 1 by omega]
      rfl
    have hIs : (initS x.text).size ≤ x.text.size := by unfold initS; rw [ByteArray.size_extract]; omega
    have hIm : (bl x.text).all memC = true → (bl (initS x.text)).all memC = true := fun e => by
      unfold initS
      rw [bl_extract, List.drop_zero]
      rw [List.all_eq_true] at e ⊢
      exact fun y hy => e y (List.mem_of_mem_take hy)
    have e1 : x.kind = 1 → idF x = if mailB x.text = true then 0 else 3 := fun c => if_pos c
    have e2 : ¬ x.kind = 1 → x.kind = 2 → idF x = if phoneB x.text = true then 0 else 3 := fun c d => (if_neg c).trans (if_pos d)
    have e3 : ¬ x.kind = 1 → ¬ x.kind = 2 → x.kind = 3 → idF x = if memberB x.text = true then (if bt signsB (signN (initS x.text)) ≠ bt x.text ((x.text.size : Int) - 1) then 15 else 0) else 3 := fun c d e => (if_neg c).trans ((if_neg d).trans (if_pos e))
    have e4 : ¬ x.kind = 1 → ¬ x.kind = 2 → ¬ x.kind = 3 → idF x = if x.kind = 4 then (if deviceB x.text = true then 0 else 3) else 4 := fun c d e => (if_neg c).trans ((if_neg d).trans (if_neg e))
    generalize idF x = R at *
    refine ⟨fun c1 => ⟨by omega, fun c => ?_, fun c => ⟨fun d => by omega, fun _ => ?_⟩⟩, fun c1 => ⟨fun c2 => ⟨by omega, fun c => ?_, fun c => ⟨fun d => by omega, fun _ => ?_⟩⟩, fun c2 => ⟨fun c3 => ⟨by omega, fun c => ?_, fun c => ⟨fun _ => ?_, fun d => absurd c3 d⟩⟩, fun c3 => ⟨fun c4 => ⟨by omega, fun c => ?_, fun c => ⟨fun d => absurd d c3, fun _ => ?_⟩⟩, fun c4 => ?_⟩⟩⟩⟩
    · rw [e1 c1, if_neg (ne_tf c)]
    · rw [e1 c1, if_pos c]
    · rw [e2 c1 c2, if_neg (ne_tf c)]
    · rw [e2 c1 c2, if_pos c]
    · rw [e3 c1 c2 c3, if_neg (ne_tf c)]
    · obtain ⟨n1, n2, n3⟩ := m0 c
      rw [hI n1, i64w (n := (x.text.size : Int) - 1) (by omega) (by omega), e3 c1 c2 c3, if_pos c]
      exact ⟨by omega, by omega, by omega, hIm n3, by omega, by omega, fun q => (if_pos q).symm, fun q => (if_neg (fun z => z q)).symm⟩
    · rw [e4 c1 c2 c3, if_pos c4, if_neg (ne_tf c)]
    · rw [e4 c1 c2 c3, if_pos c4, if_pos c]
    · rw [e4 c1 c2 c3, if_neg c4]
/-! ### Comparisons -/
def nanT  : Spec where
  pre xs := ∃ (s : ByteArray), xs = [.str s]
  post xs y := ∃ (s : ByteArray), xs = [.str s] ∧ y = .b false
  cost _ := 0
  fresh := true
theorem nanT_c  (xs : List AV) : (nanT).cost xs = 0 := nr rfl
theorem nanT_f  : (nanT).fresh = true := nr rfl
theorem nanT_q  (s : ByteArray) : (nanT).pre [.str s] = (True) := propext ⟨fun h => by
  have h' : ∃ (s' : ByteArray), ([.str s] : List AV) = [.str s'] := h
  obtain ⟨s', e⟩ := h'
  simp only [List.cons.injEq, AV.dv.injEq, AV.fv.injEq, DV.d.injEq, DV.ag.injEq, D.int.injEq, D.str.injEq, D.bool.injEq, D.sl.injEq, true_and, and_true, intsDi_inj, rowsT_inj, rowsKi_inj] at e
  obtain rfl := e
  exact trivial, fun h => ⟨s, rfl⟩⟩
theorem nanT_p  (s : ByteArray) : (nanT).post [.str s] = fun y => y = .b false := funext fun y => propext ⟨fun h => by
  have h' : ∃ (s' : ByteArray), ([.str s] : List AV) = [.str s'] ∧ y = .b false := h
  obtain ⟨s', e, h⟩ := h'
  simp only [List.cons.injEq, AV.dv.injEq, AV.fv.injEq, DV.d.injEq, DV.ag.injEq, D.int.injEq, D.str.injEq, D.bool.injEq, D.sl.injEq, true_and, and_true, intsDi_inj, rowsT_inj, rowsKi_inj] at e
  obtain rfl := e
  exact h, fun h => ⟨s, rfl, h⟩⟩
theorem isNaNT_ctr {cx : Cx} (h : Seat cx) : Ctr cx 160 nanT := by
  refine ctr_of (fn := Tryd.f160) (l := [.tmp 2]) (envL []) [0, 2] [] [] (env0 h.hP) ?_ (by rw [h.hP]; exact Tryd.func160) rfl (by kernel_rfl) rfl ?_ ?_
  · rw [h.hP]; exact ⟨_, Tryd.func160, by kernel_rfl, by kernel_rfl⟩
  · rintro xs ⟨s, rfl⟩; exact ⟨_, s, rfl, rfl⟩
  · rintro xs ⟨s, rfl⟩
    refine ⟨by rw [Tryd.ntmps160]; simp, ?_⟩
    simp only [go_sem, h.hP, List.cons_append, List.nil_append, Meets_e, Below_e, Prod.exists, exists_eq, exists_eq_left, exists_eq_left', exists_eq_right, exists_eq_right', exists_and_left, exists_and_right, Ob.arr.injEq, AV.own.injEq, AV.fv.injEq, nanT_q, nanT_p, nanT_c, nanT_f, Tryd.ntmps160, Nat.reduceEqDiff, reduceCtorEq, Nat.reduceMul, Nat.reduceAdd, Nat.reduceSub, Nat.reduceDiv, Nat.reduceMod, Nat.reduceLeDiff, Nat.reduceLT, Nat.reduceBNe, Nat.reduceBEq, reduceIte, Int.reduceLE, Int.reduceLT, Int.reduceToNat, Int.reduceNeg, Int.reduceAdd, Int.reduceSub, Int.reduceMul, Int.reduceEq]
def cmpTSp  : Spec where
  pre xs := ∃ (s : ByteArray) (t : ByteArray), xs = [.str s, .str t]
  post xs y := ∃ (s : ByteArray) (t : ByteArray), xs = [.str s, .str t] ∧ y = .i (cmpT s t)
  cost _ := 0
  fresh := true
theorem cmpTSp_c  (xs : List AV) : (cmpTSp).cost xs = 0 := nr rfl
theorem cmpTSp_f  : (cmpTSp).fresh = true := nr rfl
theorem cmpTSp_q  (s : ByteArray) (t : ByteArray) : (cmpTSp).pre [.str s, .str t] = (True) := propext ⟨fun h => by
  have h' : ∃ (s' : ByteArray) (t' : ByteArray), ([.str s, .str t] : List AV) = [.str s', .str t'] := h
  obtain ⟨s', t', e⟩ := h'
  simp only [List.cons.injEq, AV.dv.injEq, AV.fv.injEq, DV.d.injEq, DV.ag.injEq, D.int.injEq, D.str.injEq, D.bool.injEq, D.sl.injEq, true_and, and_true, intsDi_inj, rowsT_inj, rowsKi_inj] at e
  obtain ⟨rfl, rfl⟩ := e
  exact trivial, fun h => ⟨s, t, rfl⟩⟩
theorem cmpTSp_p  (s : ByteArray) (t : ByteArray) : (cmpTSp).post [.str s, .str t] = fun y => y = .i (cmpT s t) := funext fun y => propext ⟨fun h => by
  have h' : ∃ (s' : ByteArray) (t' : ByteArray), ([.str s, .str t] : List AV) = [.str s', .str t'] ∧ y = .i (cmpT s' t') := h
  obtain ⟨s', t', e, h⟩ := h'
  simp only [List.cons.injEq, AV.dv.injEq, AV.fv.injEq, DV.d.injEq, DV.ag.injEq, D.int.injEq, D.str.injEq, D.bool.injEq, D.sl.injEq, true_and, and_true, intsDi_inj, rowsT_inj, rowsKi_inj] at e
  obtain ⟨rfl, rfl⟩ := e
  exact h, fun h => ⟨s, t, rfl, h⟩⟩
theorem compareT_ctr {cx : Cx} (h : Seat cx) : Ctr cx 108 cmpTSp := by
  refine ctr_of (fn := Tryd.f108) (l := [.tmp 4]) (envL [(160, nanT)]) [0, 1, 4, 5, 6, 11, 12, 13, 16, 19] [] [] (envL_cons (isNaNT_ctr h) (env0 h.hP)) ?_ (by rw [h.hP]; exact Tryd.func108) rfl (by kernel_rfl) rfl ?_ ?_
  · rw [h.hP]; exact ⟨_, Tryd.func108, by kernel_rfl, by kernel_rfl⟩
  · rintro xs ⟨s, t, rfl⟩; exact ⟨_, s, t, rfl, rfl⟩
  · rintro xs ⟨s, t, rfl⟩
    refine ⟨by rw [Tryd.ntmps108]; simp, ?_⟩
    simp only [go_sem, h.hP, List.cons_append, List.nil_append, Meets_e, Below_e, Prod.exists, exists_eq, exists_eq_left, exists_eq_left', exists_eq_right, exists_eq_right', exists_and_left, exists_and_right, Ob.arr.injEq, AV.own.injEq, AV.fv.injEq, cmpTSp_q, cmpTSp_p, cmpTSp_c, cmpTSp_f, nanT_q, nanT_p, nanT_c, nanT_f, Tryd.ntmps108, Nat.reduceEqDiff, reduceCtorEq, Nat.reduceMul, Nat.reduceAdd, Nat.reduceSub, Nat.reduceDiv, Nat.reduceMod, Nat.reduceLeDiff, Nat.reduceLT, Nat.reduceBNe, Nat.reduceBEq, reduceIte, Int.reduceLE, Int.reduceLT, Int.reduceToNat, Int.reduceNeg, Int.reduceAdd, Int.reduceSub, Int.reduceMul, Int.reduceEq]
    have e : cmpT s t = if lessS s t = true then -1 else if s = t then 0 else 1 := rfl
    have el : lessS s t = Op.bytesLess s.toList t.toList := rfl
    generalize Op.bytesLess s.toList t.toList = q at *
    rw [e, el]
    refine ⟨fun c => (if_pos c).symm, fun c => ⟨fun d => ?_, fun d => ?_⟩⟩
    · rw [if_neg (ne_tf c)]
      rw [c, Bool.false_or, decide_eq_false_iff_not] at d
      rw [if_neg d]
    · rw [if_neg (ne_tf c), if_pos (d.resolve_left (ne_tf c))]
def orSp  : Spec where
  pre xs := ∃ (l : List Int), xs = [.sl (intsD l)] ∧ (l.length ≤ 1048576)
  post xs y := ∃ (l : List Int), xs = [.sl (intsD l)] ∧ y = .i (firstI l.length fun i => l.getD i 0)
  cost _ := 0
  fresh := true
theorem orSp_c  (xs : List AV) : (orSp).cost xs = 0 := nr rfl
theorem orSp_f  : (orSp).fresh = true := nr rfl
theorem orSp_q  (l : List Int) : (orSp).pre [.sl (intsD l)] = (l.length ≤ 1048576) := propext ⟨fun h => by
  have h' : ∃ (l' : List Int), ([.sl (intsD l)] : List AV) = [.sl (intsD l')] ∧ (l'.length ≤ 1048576) := h
  obtain ⟨l', e, h⟩ := h'
  simp only [List.cons.injEq, AV.dv.injEq, AV.fv.injEq, DV.d.injEq, DV.ag.injEq, D.int.injEq, D.str.injEq, D.bool.injEq, D.sl.injEq, true_and, and_true, intsDi_inj, rowsT_inj, rowsKi_inj] at e
  obtain rfl := e
  exact h, fun h => ⟨l, rfl, h⟩⟩
theorem orSp_p  (l : List Int) : (orSp).post [.sl (intsD l)] = fun y => y = .i (firstI l.length fun i => l.getD i 0) := funext fun y => propext ⟨fun h => by
  have h' : ∃ (l' : List Int), ([.sl (intsD l)] : List AV) = [.sl (intsD l')] ∧ y = .i (firstI l'.length fun i => l'.getD i 0) := h
  obtain ⟨l', e, h⟩ := h'
  simp only [List.cons.injEq, AV.dv.injEq, AV.fv.injEq, DV.d.injEq, DV.ag.injEq, D.int.injEq, D.str.injEq, D.bool.injEq, D.sl.injEq, true_and, and_true, intsDi_inj, rowsT_inj, rowsKi_inj] at e
  obtain rfl := e
  exact h, fun h => ⟨l, rfl, h⟩⟩
theorem or_ctr {cx : Cx} (h : Seat cx) : Ctr cx 106 orSp := by
  refine ctr_of (fn := Tryd.f106) (l := [.tmp 2]) (envL []) [0, 2, 3, 5, 6, 7, 8, 9, 14] [] [] (env0 h.hP) ?_ (by rw [h.hP]; exact Tryd.func106) rfl (by kernel_rfl) rfl ?_ ?_
  · rw [h.hP]; exact ⟨_, Tryd.func106, by kernel_rfl, by kernel_rfl⟩
  · rintro xs ⟨l, rfl, h1⟩; exact ⟨_, l, rfl, rfl⟩
  · rintro xs ⟨l, rfl, h1⟩
    refine ⟨by rw [Tryd.ntmps106]; simp, ?_⟩
    simp only [go_sem, h.hP, List.cons_append, List.nil_append, Meets_e, Below_e, Prod.exists, exists_eq, exists_eq_left, exists_eq_left', exists_eq_right, exists_eq_right', exists_and_left, exists_and_right, Ob.arr.injEq, AV.own.injEq, AV.fv.injEq, orSp_q, orSp_p, orSp_c, orSp_f, intsD_len, Tryd.ntmps106, Nat.reduceEqDiff, reduceCtorEq, Nat.reduceMul, Nat.reduceAdd, Nat.reduceSub, Nat.reduceDiv, Nat.reduceMod, Nat.reduceLeDiff, Nat.reduceLT, Nat.reduceBNe, Nat.reduceBEq, reduceIte, Int.reduceLE, Int.reduceLT, Int.reduceToNat, Int.reduceNeg, Int.reduceAdd, Int.reduceSub, Int.reduceMul, Int.reduceEq]
    refine vc_loopS (Int) (fun (i : Int) => [(8, .i i)]) [] (fun (i : Int) => []) (fun (i : Int) => []) (fun (i : Int) => 0) (fun (i : Int) => Rounds l.length (fun i => l.getD i 0) i) (fun (i : Int) => (l.length - i).toNat) [] ?_ ?_
    · simp only [go_sem, h.hP, List.cons_append, List.nil_append, Meets_e, Below_e, Prod.exists, exists_eq, exists_eq_left, exists_eq_left', exists_eq_right, exists_eq_right', exists_and_left, exists_and_right, Ob.arr.injEq, AV.own.injEq, AV.fv.injEq, Tryd.ntmps106, Nat.reduceEqDiff, reduceCtorEq, Nat.reduceMul, Nat.reduceAdd, Nat.reduceSub, Nat.reduceDiv, Nat.reduceMod, Nat.reduceLeDiff, Nat.reduceLT, Nat.reduceBNe, Nat.reduceBEq, reduceIte, Int.reduceLE, Int.reduceLT, Int.reduceToNat, Int.reduceNeg, Int.reduceAdd, Int.reduceSub, Int.reduceMul, Int.reduceEq]
      exact Rounds.start
    · rintro i hr
      obtain ⟨hi, hS, hM, hE, hN⟩ := hr.use (by omega)
      simp only [go_sem, h.hP, List.cons_append, List.nil_append, Meets_e, Below_e, Prod.exists, exists_eq, exists_eq_left, exists_eq_left', exists_eq_right, exists_eq_right', exists_and_left, exists_and_right, Ob.arr.injEq, AV.own.injEq, AV.fv.injEq, orSp_q, orSp_p, orSp_c, orSp_f, intsD_len, intsD_get, Tryd.ntmps106, Nat.reduceEqDiff, reduceCtorEq, Nat.reduceMul, Nat.reduceAdd, Nat.reduceSub, Nat.reduceDiv, Nat.reduceMod, Nat.reduceLeDiff, Nat.reduceLT, Nat.reduceBNe, Nat.reduceBEq, reduceIte, Int.reduceLE, Int.reduceLT, Int.reduceToNat, Int.reduceNeg, Int.reduceAdd, Int.reduceSub, Int.reduceMul, Int.reduceEq]
      refine ⟨fun c => ⟨hi, c, fun d => (hE _ c rfl d).symm, fun d => ⟨hS c d, hM c⟩⟩, fun c => (hN c).symm⟩
theorem or_two (a b : Int) : firstI 2 (fun i => [a, b].getD i 0) = if a ≠ 0 then a else b := by
  by_cases h : a ≠ 0
  · rw [if_pos h]
    exact firstI_at (n := 2) (f := fun i => [a, b].getD i 0) (i := 0) (by decide) (by decide) (fun j hj => by omega) h
  · rw [if_neg h]
    have h0 : ∀ j : Nat, (j : Int) < 1 → [a, b].getD j 0 = 0 := fun j hj => by
      obtain rfl : j = 0 := by omega
      exact Decidable.not_not.1 h
    by_cases h2 : b ≠ 0
    · exact firstI_at (n := 2) (f := fun i => [a, b].getD i 0) (i := 1) (by decide) (by decide) h0 h2
    · rw [firstI_no (n := 2) (f := fun i => [a, b].getD i 0) (i := 2) (fun j hj => ?_) (by decide), Decidable.not_not.1 h2]
      by_cases hj1 : (j : Int) < 1
      · exact h0 j hj1
      · obtain rfl : j = 1 := by omega
        exact Decidable.not_not.1 h2
def ordS  : Spec where
  pre xs := ∃ (a : TId) (b : TId), xs = [.dv (.ag a.row), .dv (.ag b.row)]
  post xs y := ∃ (a : TId) (b : TId), xs = [.dv (.ag a.row), .dv (.ag b.row)] ∧ y = .i (ordF a b)
  cost _ := 0
  fresh := true
theorem ordS_c  (xs : List AV) : (ordS).cost xs = 0 := nr rfl
theorem ordS_f  : (ordS).fresh = true := nr rfl
theorem ordS_q  (a : TId) (b : TId) : (ordS).pre [.dv (.ag [.int .i64 a.kind, .str a.text]), .dv (.ag [.int .i64 b.kind, .str b.text])] = (True) := propext ⟨fun h => by
  have h' : ∃ (a' : TId) (b' : TId), ([.dv (.ag a.row), .dv (.ag b.row)] : List AV) = [.dv (.ag a'.row), .dv (.ag b'.row)] := h
  obtain ⟨a', b', e⟩ := h'
  simp only [List.cons.injEq, AV.dv.injEq, AV.fv.injEq, DV.d.injEq, DV.ag.injEq, D.int.injEq, D.str.injEq, D.bool.injEq, D.sl.injEq, true_and, and_true, intsDi_inj, rowsT_inj, rowsKi_inj, TId.row_inj, TId.rows_inj, TId.row_inj, TId.rows_inj] at e
  obtain ⟨rfl, rfl⟩ := e
  exact trivial, fun h => ⟨a, b, rfl⟩⟩
theorem ordS_p  (a : TId) (b : TId) : (ordS).post [.dv (.ag [.int .i64 a.kind, .str a.text]), .dv (.ag [.int .i64 b.kind, .str b.text])] = fun y => y = .i (ordF a b) := funext fun y => propext ⟨fun h => by
  have h' : ∃ (a' : TId) (b' : TId), ([.dv (.ag a.row), .dv (.ag b.row)] : List AV) = [.dv (.ag a'.row), .dv (.ag b'.row)] ∧ y = .i (ordF a' b') := h
  obtain ⟨a', b', e, h⟩ := h'
  simp only [List.cons.injEq, AV.dv.injEq, AV.fv.injEq, DV.d.injEq, DV.ag.injEq, D.int.injEq, D.str.injEq, D.bool.injEq, D.sl.injEq, true_and, and_true, intsDi_inj, rowsT_inj, rowsKi_inj, TId.row_inj, TId.rows_inj, TId.row_inj, TId.rows_inj] at e
  obtain ⟨rfl, rfl⟩ := e
  exact h, fun h => ⟨a, b, rfl, h⟩⟩
theorem CompareIds_ctr {cx : Cx} (h : Seat cx) : Ctr cx 54 ordS := by
  refine ctr_of (fn := Tryd.f54) (l := [.tmp 4]) (envL [(107, cmpISp), (108, cmpTSp), (106, orSp)]) [0, 1, 2, 3, 4] [] [] (envL_cons (compareI_ctr h) (envL_cons (compareT_ctr h) (envL_cons (or_ctr h) (env0 h.hP)))) ?_ (by rw [h.hP]; exact Tryd.func54) rfl (by kernel_rfl) rfl ?_ ?_
  · rw [h.hP]; exact ⟨_, Tryd.func54, by kernel_rfl, by kernel_rfl⟩
  · rintro xs ⟨a, b, rfl⟩; exact ⟨_, a, b, rfl, rfl⟩
  · rintro xs ⟨a, b, rfl⟩
    refine ⟨by rw [Tryd.ntmps54]; simp, ?_⟩
    simp only [go_sem, h.hP, List.cons_append, List.nil_append, Meets_e, Below_e, Prod.exists, exists_eq, exists_eq_left, exists_eq_left', exists_eq_right, exists_eq_right', exists_and_left, exists_and_right, Ob.arr.injEq, AV.own.injEq, AV.fv.injEq, ordS_q, ordS_p, ordS_c, ordS_f, cmpISp_q, cmpISp_p, cmpISp_c, cmpISp_f, cmpTSp_q, cmpTSp_p, cmpTSp_c, cmpTSp_f, orSp_q, orSp_p, orSp_c, orSp_f, TId.row, ints1, intsc, Tryd.ntmps54, Nat.reduceEqDiff, reduceCtorEq, Nat.reduceMul, Nat.reduceAdd, Nat.reduceSub, Nat.reduceDiv, Nat.reduceMod, Nat.reduceLeDiff, Nat.reduceLT, Nat.reduceBNe, Nat.reduceBEq, reduceIte, Int.reduceLE, Int.reduceLT, Int.reduceToNat, Int.reduceNeg, Int.reduceAdd, Int.reduceSub, Int.reduceMul, Int.reduceEq]
    rw [or_two]
    unfold ordF cmpI
    by_cases c1 : a.kind < b.kind
    · rw [if_pos c1, if_pos c1]; rfl
    · rw [if_neg c1, if_neg c1]
      by_cases c2 : a.kind > b.kind
      · rw [if_pos c2, if_pos c2]; rfl
      · rw [if_neg c2, if_neg c2]; rfl
theorem Order_ctr {cx : Cx} (h : Seat cx) : Ctr cx 55 ordS := by
  refine ctr_of (fn := Tryd.f55) (l := [.tmp 4]) (envL []) [0, 1, 2, 3, 4, 5, 25] [] [] (env0 h.hP) ?_ (by rw [h.hP]; exact Tryd.func55) rfl (by kernel_rfl) rfl ?_ ?_
  · rw [h.hP]; exact ⟨_, Tryd.func55, by kernel_rfl, by kernel_rfl⟩
  · rintro xs ⟨a, b, rfl⟩; exact ⟨_, a, b, rfl, rfl⟩
  · rintro xs ⟨a, b, rfl⟩
    refine ⟨by rw [Tryd.ntmps55]; simp, ?_⟩
    simp only [go_sem, h.hP, List.cons_append, List.nil_append, Meets_e, Below_e, Prod.exists, exists_eq, exists_eq_left, exists_eq_left', exists_eq_right, exists_eq_right', exists_and_left, exists_and_right, Ob.arr.injEq, AV.own.injEq, AV.fv.injEq, ordS_q, ordS_p, ordS_c, ordS_f, TId.row, Tryd.ntmps55, Nat.reduceEqDiff, reduceCtorEq, Nat.reduceMul, Nat.reduceAdd, Nat.reduceSub, Nat.reduceDiv, Nat.reduceMod, Nat.reduceLeDiff, Nat.reduceLT, Nat.reduceBNe, Nat.reduceBEq, reduceIte, Int.reduceLE, Int.reduceLT, Int.reduceToNat, Int.reduceNeg, Int.reduceAdd, Int.reduceSub, Int.reduceMul, Int.reduceEq]
    have e : ordF a b = if a.kind < b.kind then -1 else if a.kind > b.kind then 1 else if lessS a.text b.text = true then -1 else if a.text = b.text then 0 else 1 := rfl
    have el : lessS a.text b.text = Op.bytesLess a.text.toList b.text.toList := rfl
    rw [e, el]
    generalize Op.bytesLess a.text.toList b.text.toList = q
    have bk : (a.kind == b.kind && decide (a.text = b.text)) = false → ¬ (a.kind = b.kind ∧ a.text = b.text) := fun z1 z2 => by
      rw [z2.1, z2.2] at z1
      simp at z1
    refine ⟨fun c => ⟨fun c1 => ⟨fun d => ?_, fun d => ⟨fun f => ?_, fun f => ?_⟩⟩, fun c1 => ⟨fun f => absurd f.1 c1, fun f => ?_⟩⟩, fun c => (if_pos c).symm⟩
    · rw [if_neg c, if_neg (by omega), if_pos d]
    · rw [if_neg c, if_neg (by omega), if_neg (ne_tf d), if_pos f.2]
    · rw [if_neg c, if_neg (by omega), if_neg (ne_tf d), if_neg (fun z => bk f ⟨c1, z⟩)]
    · rw [if_neg c, if_pos (by omega)]
end Go.Avc

/- Values and fields: what is wrong with them, by the program and by the reference. No condition. -/
set_option linter.unusedVariables false
set_option linter.unusedSimpArgs false
set_option maxRecDepth 100000
namespace Go.Avc
open Go Go.Proofs

def validB (s : ByteArray) : Bool := Lib.validD s.data.toList
def validSp  : Spec where
  pre xs := ∃ (s : ByteArray), xs = [.str s] ∧ (s.size ≤ 4611686018427387904)
  post xs y := ∃ (s : ByteArray), xs = [.str s] ∧ y = .b (validB s)
  cost _ := 0
  fresh := true
theorem validSp_c  (xs : List AV) : (validSp).cost xs = 0 := nr rfl
theorem validSp_f  : (validSp).fresh = true := nr rfl
theorem validSp_q  (s : ByteArray) : (validSp).pre [.str s] = (s.size ≤ 4611686018427387904) := propext ⟨fun h => by
  have h' : ∃ (s' : ByteArray), ([.str s] : List AV) = [.str s'] ∧ (s'.size ≤ 4611686018427387904) := h
  obtain ⟨s', e, h⟩ := h'
  simp only [List.cons.injEq, AV.dv.injEq, AV.fv.injEq, DV.d.injEq, DV.ag.injEq, D.int.injEq, D.str.injEq, D.bool.injEq, D.sl.injEq, true_and, and_true, intsDi_inj, rowsT_inj, rowsKi_inj] at e
  obtain rfl := e
  exact h, fun h => ⟨s, rfl, h⟩⟩
theorem validSp_p  (s : ByteArray) : (validSp).post [.str s] = fun y => y = .b (validB s) := funext fun y => propext ⟨fun h => by
  have h' : ∃ (s' : ByteArray), ([.str s] : List AV) = [.str s'] ∧ y = .b (validB s') := h
  obtain ⟨s', e, h⟩ := h'
  simp only [List.cons.injEq, AV.dv.injEq, AV.fv.injEq, DV.d.injEq, DV.ag.injEq, D.int.injEq, D.str.injEq, D.bool.injEq, D.sl.injEq, true_and, and_true, intsDi_inj, rowsT_inj, rowsKi_inj] at e
  obtain rfl := e
  exact h, fun h => ⟨s, rfl, h⟩⟩
theorem valid_ctr {cx : Cx} (h : Seat cx) (hU : Utf8 cx) : Ctr cx 136 validSp := by
  refine ctr_flat (by rw [h.hP]; exact ⟨_, Tryd.func136, by kernel_rfl, by kernel_rfl⟩) (fun _ => rfl) ?_
  rintro xs ⟨s, rfl, h1⟩
  refine ⟨_, _, _, rfl, ⟨s, rfl, rfl⟩, rfl, fun w hw => ?_⟩
  rw [h.hP]
  exact Tryd.utf8_ValidString s w (by omega) (hU w hw)
/-- the text of a value -/
def textF (s : ByteArray) : Int := if 200 < (s.size : Int) then 2 else if (pts s).any badPt = true then 3 else 0
def txtC (c : Int) : Bool := decide (32 ≤ c) && decide (c ≠ 127)
def txtΦ : List (List D) → FSpec := csp F0 u8D fun _ c => txtC c
theorem txtΦ_h (c : Int) : (txtΦ []).holds (.d (.int .u8 c)) = txtC c := csp_holds F0_inj u8D_inj () c
theorem txtΦ_d (c : Int) : (txtΦ []).det (.d (.int .u8 c)) := csp_det F0_inj u8D_inj () c
theorem txt_all (s : ByteArray) : ((bl s).all fun c => txtC c) = s.data.toList.all byteOk := by
  rw [bl_all]
  refine congrArg (fun p => s.data.toList.all p) (funext fun c => ?_)
  unfold txtC byteOk
  rw [Bool.eq_iff_iff]
  simp only [Bool.and_eq_true, decide_eq_true_eq]
  omega
theorem checkText1_ctr {cx : Cx} (h : Seat cx) : Ctr cx 137 (cloS F0 u8D fun _ c => txtC c) := by
  refine ctr_of (fn := Tryd.f137) (l := [.tmp 2]) (envL []) [0, 2] [] [] (env0 h.hP) ?_ (by rw [h.hP]; exact Tryd.func137) rfl (by kernel_rfl) rfl ?_ ?_
  · rw [h.hP]; exact ⟨_, Tryd.func137, by kernel_rfl, by kernel_rfl⟩
  · rintro xs ⟨c, a, rfl⟩; exact ⟨_, c, a, rfl, rfl⟩
  · rintro xs ⟨c, a, rfl⟩
    refine ⟨by rw [Tryd.ntmps137]; simp [F0], ?_⟩
    simp only [go_sem, h.hP, List.cons_append, List.nil_append, Meets_e, Below_e, Prod.exists, exists_eq, exists_eq_left, exists_eq_left', exists_eq_right, exists_eq_right', exists_and_left, exists_and_right, Ob.arr.injEq, AV.own.injEq, AV.fv.injEq, F0, u8D, cloS, Tryd.ntmps137, Nat.reduceEqDiff, reduceCtorEq, Nat.reduceMul, Nat.reduceAdd, Nat.reduceSub, Nat.reduceDiv, Nat.reduceMod, Nat.reduceLeDiff, Nat.reduceLT, Nat.reduceBNe, Nat.reduceBEq, reduceIte, Int.reduceLE, Int.reduceLT, Int.reduceToNat, Int.reduceNeg, Int.reduceAdd, Int.reduceSub, Int.reduceMul, Int.reduceEq]
    grind [txtC]
def textS  : Spec where
  pre xs := ∃ (s : ByteArray), xs = [.str s] ∧ (s.size ≤ 4611686018427387904)
  post xs y := ∃ (s : ByteArray), xs = [.str s] ∧ y = .i (textF s)
  cost _ := 0
  fresh := true
theorem textS_c  (xs : List AV) : (textS).cost xs = 0 := nr rfl
theorem textS_f  : (textS).fresh = true := nr rfl
theorem textS_q  (s : ByteArray) : (textS).pre [.str s] = (s.size ≤ 4611686018427387904) := propext ⟨fun h => by
  have h' : ∃ (s' : ByteArray), ([.str s] : List AV) = [.str s'] ∧ (s'.size ≤ 4611686018427387904) := h
  obtain ⟨s', e, h⟩ := h'
  simp only [List.cons.injEq, AV.dv.injEq, AV.fv.injEq, DV.d.injEq, DV.ag.injEq, D.int.injEq, D.str.injEq, D.bool.injEq, D.sl.injEq, true_and, and_true, intsDi_inj, rowsT_inj, rowsKi_inj] at e
  obtain rfl := e
  exact h, fun h => ⟨s, rfl, h⟩⟩
theorem textS_p  (s : ByteArray) : (textS).post [.str s] = fun y => y = .i (textF s) := funext fun y => propext ⟨fun h => by
  have h' : ∃ (s' : ByteArray), ([.str s] : List AV) = [.str s'] ∧ y = .i (textF s') := h
  obtain ⟨s', e, h⟩ := h'
  simp only [List.cons.injEq, AV.dv.injEq, AV.fv.injEq, DV.d.injEq, DV.ag.injEq, D.int.injEq, D.str.injEq, D.bool.injEq, D.sl.injEq, true_and, and_true, intsDi_inj, rowsT_inj, rowsKi_inj] at e
  obtain rfl := e
  exact h, fun h => ⟨s, rfl, h⟩⟩
theorem checkText_ctr {cx : Cx} (h : Seat cx) (hU : Utf8 cx) : Ctr cx 89 textS := by
  refine ctr_of (fn := Tryd.f89) (l := [.tmp 2]) (envF [(136, validSp), (109, allS)] [(137, txtΦ)]) [0, 2, 5, 13] [] [] (envF_cons (clo_of (checkText1_ctr h)) (envF_nil (envL_cons (valid_ctr h hU) (envL_cons (all_ctr h) (env0 h.hP))))) ?_ (by rw [h.hP]; exact Tryd.func89) rfl (by kernel_rfl) rfl ?_ ?_
  · rw [h.hP]; exact ⟨_, Tryd.func89, by kernel_rfl, by kernel_rfl⟩
  · rintro xs ⟨s, rfl, h1⟩; exact ⟨_, s, rfl, rfl⟩
  · rintro xs ⟨s, rfl, h1⟩
    refine ⟨by rw [Tryd.ntmps89]; simp, ?_⟩
    simp only [go_sem, h.hP, List.cons_append, List.nil_append, Meets_e, Below_e, Prod.exists, exists_eq, exists_eq_left, exists_eq_left', exists_eq_right, exists_eq_right', exists_and_left, exists_and_right, Ob.arr.injEq, AV.own.injEq, AV.fv.injEq, textS_q, textS_p, textS_c, textS_f, validSp_q, validSp_p, validSp_c, validSp_f, allS, txtΦ_h, txtΦ_d, txt_all, Tryd.ntmps89, Nat.reduceEqDiff, reduceCtorEq, Nat.reduceMul, Nat.reduceAdd, Nat.reduceSub, Nat.reduceDiv, Nat.reduceMod, Nat.reduceLeDiff, Nat.reduceLT, Nat.reduceBNe, Nat.reduceBEq, reduceIte, Int.reduceLE, Int.reduceLT, Int.reduceToNat, Int.reduceNeg, Int.reduceAdd, Int.reduceSub, Int.reduceMul, Int.reduceEq]
    have ht := text_pts s
    unfold textF validB
    generalize Lib.validD s.data.toList = v at ht ⊢
    generalize s.data.toList.all byteOk = q at ht ⊢
    generalize (pts s).any badPt = z at ht ⊢
    refine ⟨fun c => (if_pos c).symm, fun c => ⟨h1, fun c1 => ⟨h1, fun c2 => ?_, fun c2 => ?_⟩, fun c1 => ?_⟩⟩
    all_goals rw [if_neg c]
    · subst c1 c2
      cases z with
      | true => rfl
      | false => cases ht
    · subst c1 c2
      cases z with
      | true => cases ht
      | false => rfl
    · subst c1
      cases z with
      | true => rfl
      | false => cases ht
/-- a value -/
def lowV (k : Int) : Int := if k = 2 then -1000000000000 else 0
def highV (k : Int) : Int := if k = 2 then 1000000000000 else if k = 3 then 1 else 4321439
def valF (v : TValue) : Int := if inB v.kind 1 4 = false then 4 else if v.kind = 1 then (if v.number ≠ 0 then 3 else textF v.text) else if v.text.size ≠ 0 then 3 else if inB v.number (lowV v.kind) (highV v.kind) = false then 1 else 0
def valS  : Spec where
  pre xs := ∃ (v : TValue), xs = [.dv (.ag v.row)] ∧ (v.ok)
  post xs y := ∃ (v : TValue), xs = [.dv (.ag v.row)] ∧ y = .i (valF v)
  cost _ := 0
  fresh := true
theorem valS_c  (xs : List AV) : (valS).cost xs = 0 := nr rfl
theorem valS_f  : (valS).fresh = true := nr rfl
theorem valS_q  (v : TValue) : (valS).pre [.dv (.ag [.int .i64 v.kind, .str v.text, .int .i64 v.number])] = (v.ok) := propext ⟨fun h => by
  have h' : ∃ (v' : TValue), ([.dv (.ag v.row)] : List AV) = [.dv (.ag v'.row)] ∧ (v'.ok) := h
  obtain ⟨v', e, h⟩ := h'
  simp only [List.cons.injEq, AV.dv.injEq, AV.fv.injEq, DV.d.injEq, DV.ag.injEq, D.int.injEq, D.str.injEq, D.bool.injEq, D.sl.injEq, true_and, and_true, intsDi_inj, rowsT_inj, rowsKi_inj, TValue.row_inj, TValue.rows_inj] at e
  obtain rfl := e
  exact h, fun h => ⟨v, rfl, h⟩⟩
theorem valS_p  (v : TValue) : (valS).post [.dv (.ag [.int .i64 v.kind, .str v.text, .int .i64 v.number])] = fun y => y = .i (valF v) := funext fun y => propext ⟨fun h => by
  have h' : ∃ (v' : TValue), ([.dv (.ag v.row)] : List AV) = [.dv (.ag v'.row)] ∧ y = .i (valF v') := h
  obtain ⟨v', e, h⟩ := h'
  simp only [List.cons.injEq, AV.dv.injEq, AV.fv.injEq, DV.d.injEq, DV.ag.injEq, D.int.injEq, D.str.injEq, D.bool.injEq, D.sl.injEq, true_and, and_true, intsDi_inj, rowsT_inj, rowsKi_inj, TValue.row_inj, TValue.rows_inj] at e
  obtain rfl := e
  exact h, fun h => ⟨v, rfl, h⟩⟩
theorem CheckValue_ctr {cx : Cx} (h : Seat cx) (hU : Utf8 cx) : Ctr cx 41 valS := by
  refine ctr_of (fn := Tryd.f41) (l := [.tmp 2]) (envL [(89, textS), (90, inS)]) [0, 1, 2, 3, 4, 6, 7, 11, 15, 17, 19, 23, 29] [] [] (envL_cons (checkText_ctr h hU) (envL_cons (pwithin_ctr h) (env0 h.hP))) ?_ (by rw [h.hP]; exact Tryd.func41) rfl (by kernel_rfl) rfl ?_ ?_
  · rw [h.hP]; exact ⟨_, Tryd.func41, by kernel_rfl, by kernel_rfl⟩
  · rintro xs ⟨v, rfl, h1⟩; exact ⟨_, v, rfl, rfl⟩
  · rintro xs ⟨v, rfl, h1⟩
    obtain ⟨o1, o2, o3⟩ := h1
    refine ⟨by rw [Tryd.ntmps41]; simp, ?_⟩
    simp only [go_sem, h.hP, List.cons_append, List.nil_append, Meets_e, Below_e, Prod.exists, exists_eq, exists_eq_left, exists_eq_left', exists_eq_right, exists_eq_right', exists_and_left, exists_and_right, Ob.arr.injEq, AV.own.injEq, AV.fv.injEq, valS_q, valS_p, valS_c, valS_f, textS_q, textS_p, textS_c, textS_f, inS_q, inS_p, inS_c, inS_f, TValue.row, str_nil, Tryd.ntmps41, Nat.reduceEqDiff, reduceCtorEq, Nat.reduceMul, Nat.reduceAdd, Nat.reduceSub, Nat.reduceDiv, Nat.reduceMod, Nat.reduceLeDiff, Nat.reduceLT, Nat.reduceBNe, Nat.reduceBEq, reduceIte, Int.reduceLE, Int.reduceLT, Int.reduceToNat, Int.reduceNeg, Int.reduceAdd, Int.reduceSub, Int.reduceMul, Int.reduceEq]
    have hk : (v.kind = 1 ∨ v.kind = 2 ∨ v.kind = 3 ∨ v.kind = 4) → ¬ inB v.kind 1 4 = false := fun c => ne_ft (inB_iff.2 (by omega))
    have n0 : ∀ {k : Int}, v.kind = k → (k = 2 ∨ k = 3 ∨ k = 4) → ¬ v.kind = 1 := fun a b => by omega
    refine ⟨fun c => ?_, fun c => ⟨fun c1 => ?_, fun c1 => ⟨fun c2 => ?_, fun c2 => ⟨fun c3 => ?_, fun c3 => ?_⟩⟩⟩⟩
    · refine ⟨fun d => ?_, fun d => ⟨by unfold okS at o2; omega, ?_⟩⟩
      · exact ((if_neg (hk (.inl c))).trans ((if_pos c).trans (if_pos d))).symm
      · exact ((if_neg (hk (.inl c))).trans ((if_pos c).trans (if_neg (fun e => e d)))).symm
    · have e0 : valF v = if v.text.size ≠ 0 then 3 else if inB v.number (lowV v.kind) (highV v.kind) = false then 1 else 0 := (if_neg (hk (by omega))).trans (if_neg c)
      rw [e0, c1]
      exact ⟨fun d => (if_pos d).symm, fun d => ⟨fun e => ((if_neg (fun x => x d)).trans (if_pos e)).symm, fun e => ((if_neg (fun x => x d)).trans (if_neg (ne_ft e))).symm⟩⟩
    · have e0 : valF v = if v.text.size ≠ 0 then 3 else if inB v.number (lowV v.kind) (highV v.kind) = false then 1 else 0 := (if_neg (hk (by omega))).trans (if_neg c)
      rw [e0, c2]
      exact ⟨fun d => (if_pos d).symm, fun d => ⟨fun e => ((if_neg (fun x => x d)).trans (if_pos e)).symm, fun e => ((if_neg (fun x => x d)).trans (if_neg (ne_ft e))).symm⟩⟩
    · have e0 : valF v = if v.text.size ≠ 0 then 3 else if inB v.number (lowV v.kind) (highV v.kind) = false then 1 else 0 := (if_neg (hk (by omega))).trans (if_neg c)
      rw [e0, c3]
      exact ⟨fun d => (if_pos d).symm, fun d => ⟨fun e => ((if_neg (fun x => x d)).trans (if_pos e)).symm, fun e => ((if_neg (fun x => x d)).trans (if_neg (ne_ft e))).symm⟩⟩
    · have : inB v.kind 1 4 = false := by
        cases e : inB v.kind 1 4 with
        | true => have := inB_iff.1 e; omega
        | false => rfl
      exact (if_pos this).symm
theorem dlit5 (a b c d e z : Int) (n : Nat) : ([D.int .i64 a, D.int .i64 b, D.int .i64 c, D.int .i64 d, D.int .i64 e] : List D).getD n (D.int .i64 z) = D.int .i64 (([a, b, c, d, e] : List Int).getD n z) := by
  match n with
  | 0 => rfl
  | 1 => rfl
  | 2 => rfl
  | 3 => rfl
  | 4 => rfl
  | n + 5 => rfl
theorem low_lit {k : Int} (h : 0 ≤ k) : ([0, 0, -1000000000000, 0, 0] : List Int).getD k.toNat 0 = lowV k := by
  unfold lowV
  obtain ⟨n, rfl⟩ : ∃ n : Nat, k = n := ⟨k.toNat, by omega⟩
  rw [Int.toNat_natCast]
  match n with
  | 0 => rfl
  | 1 => rfl
  | 2 => rfl
  | 3 => rfl
  | 4 => rfl
  | n + 5 => rw [if_neg (by omega)]; rfl
theorem high_lit {k : Int} (h : 2 ≤ k) (h4 : k ≤ 4) : ([0, 0, 1000000000000, 1, 4321439] : List Int).getD k.toNat 0 = highV k := by
  unfold highV
  obtain ⟨n, rfl⟩ : ∃ n : Nat, k = n := ⟨k.toNat, by omega⟩
  rw [Int.toNat_natCast]
  match n with
  | 0 => omega
  | 1 => omega
  | 2 => rfl
  | 3 => rfl
  | 4 => rfl
  | n + 5 => omega
def badF (l : List Int) (i : Nat) : Int := if badPt (l.getD i 0) = true then 3 else 0
theorem bad_any (l : List Int) : firstI l.length (badF l) = if l.any badPt = true then 3 else 0 := any_first l 0 badPt (by decide)
set_option maxHeartbeats 4000000 in
theorem ValueFault_ctr {cx : Cx} (h : Seat cx) (hU : Utf8 cx) : Ctr cx 42 valS := by
  refine ctr_of (fn := Tryd.f42) (l := [.tmp 2]) (envL [(70, (ptsS .i64)), (80, inS)]) [0, 1, 2, 4, 5, 6, 10, 13, 14, 18, 25, 26, 27, 28, 36, 40, 54] [] [] (envL_cons (rpts_ctr h hU) (envL_cons (in_ctr h) (env0 h.hP))) ?_ (by rw [h.hP]; exact Tryd.func42) rfl (by kernel_rfl) rfl ?_ ?_
  · rw [h.hP]; exact ⟨_, Tryd.func42, by kernel_rfl, by kernel_rfl⟩
  · rintro xs ⟨v, rfl, h1⟩; exact ⟨_, v, rfl, rfl⟩
  · rintro xs ⟨v, rfl, h1⟩
    obtain ⟨o1, o2, o3⟩ := h1
    refine ⟨by rw [Tryd.ntmps42]; simp, ?_⟩
    simp only [go_sem, h.hP, List.cons_append, List.nil_append, Meets_e, Below_e, Prod.exists, exists_eq, exists_eq_left, exists_eq_left', exists_eq_right, exists_eq_right', exists_and_left, exists_and_right, Ob.arr.injEq, AV.own.injEq, AV.fv.injEq, valS_q, valS_p, valS_c, valS_f, inS_q, inS_p, inS_c, inS_f, ptsS, TValue.row, str_nil, dlit5, Tryd.ntmps42, Nat.reduceEqDiff, reduceCtorEq, Nat.reduceMul, Nat.reduceAdd, Nat.reduceSub, Nat.reduceDiv, Nat.reduceMod, Nat.reduceLeDiff, Nat.reduceLT, Nat.reduceBNe, Nat.reduceBEq, reduceIte, Int.reduceLE, Int.reduceLT, Int.reduceToNat, Int.reduceNeg, Int.reduceAdd, Int.reduceSub, Int.reduceMul, Int.reduceEq]
    unfold okS at o2
    refine ⟨fun c => (if_pos c).symm, fun c => ?_⟩
    have hk := inB_iff.1 c
    have e1 : v.kind = 1 → valF v = if v.number ≠ 0 then 3 else textF v.text := fun d => (if_neg (ne_ft c)).trans (if_pos d)
    have e2 : ¬ v.kind = 1 → valF v = if v.text.size ≠ 0 then 3 else if inB v.number (lowV v.kind) (highV v.kind) = false then 1 else 0 := fun d => (if_neg (ne_ft c)).trans (if_neg d)
    refine ⟨fun d => ⟨fun f => ?_, fun f => ⟨fun g => ?_, fun g => ⟨by omega, ?_⟩⟩⟩, fun d => ⟨fun f => ?_, fun f => ?_⟩⟩
    · rw [e1 d, if_pos f]
    · rw [e1 d, if_neg (fun x => x f)]
      exact (if_pos g).symm
    · have e3 : valF v = if (pts v.text).any badPt = true then 3 else 0 := by
        rw [e1 d, if_neg (fun x => x f)]
        exact if_neg g
      rw [e3, ← bad_any]
      have hp : (pts v.text).length ≤ v.text.size := ptsL_len v.text.size v.text
      generalize pts v.text = l at *
      refine vc_loopS (Int) (fun (i : Int) => [(25, .sl (rowsK .i64 l)), (27, .i i)]) [1] (fun (i : Int) => []) (fun (i : Int) => []) (fun (i : Int) => 0) (fun (i : Int) => Rounds l.length (badF l) i) (fun (i : Int) => (l.length - i).toNat) [] ?_ ?_
      · simp only [go_sem, h.hP, List.cons_append, List.nil_append, Meets_e, Below_e, Prod.exists, exists_eq, exists_eq_left, exists_eq_left', exists_eq_right, exists_eq_right', exists_and_left, exists_and_right, Ob.arr.injEq, AV.own.injEq, AV.fv.injEq, Tryd.ntmps42, Nat.reduceEqDiff, reduceCtorEq, Nat.reduceMul, Nat.reduceAdd, Nat.reduceSub, Nat.reduceDiv, Nat.reduceMod, Nat.reduceLeDiff, Nat.reduceLT, Nat.reduceBNe, Nat.reduceBEq, reduceIte, Int.reduceLE, Int.reduceLT, Int.reduceToNat, Int.reduceNeg, Int.reduceAdd, Int.reduceSub, Int.reduceMul, Int.reduceEq]
        exact Rounds.start
      · rintro i hr
        obtain ⟨hi, hS, hM, hE, hN⟩ := hr.use (by omega)
        simp only [go_sem, h.hP, List.cons_append, List.nil_append, Meets_e, Below_e, Prod.exists, exists_eq, exists_eq_left, exists_eq_left', exists_eq_right, exists_eq_right', exists_and_left, exists_and_right, Ob.arr.injEq, AV.own.injEq, AV.fv.injEq, valS_q, valS_p, valS_c, valS_f, rowsK_len, rowsK_get, Tryd.ntmps42, Nat.reduceEqDiff, reduceCtorEq, Nat.reduceMul, Nat.reduceAdd, Nat.reduceSub, Nat.reduceDiv, Nat.reduceMod, Nat.reduceLeDiff, Nat.reduceLT, Nat.reduceBNe, Nat.reduceBEq, reduceIte, Int.reduceLE, Int.reduceLT, Int.reduceToNat, Int.reduceNeg, Int.reduceAdd, Int.reduceSub, Int.reduceMul, Int.reduceEq]
        have b1 : badPt (l.getD i.toNat 0) = true → badF l i.toNat = 3 := fun a => if_pos a
        have b0 : badPt (l.getD i.toNat 0) = false → badF l i.toNat = 0 := fun a => if_neg (ne_tf a)
        have bd : badPt (l.getD i.toNat 0) = (decide (l.getD i.toNat 0 < 32) || (l.getD i.toNat 0 == 127)) := rfl
        generalize l.getD i.toNat 0 = x at *
        refine ⟨fun a => ⟨hi, a, fun b => ⟨fun c => ?_, fun c => ?_⟩, fun b => ?_⟩, fun a => (hN a).symm⟩
        · exact (hE 3 a (b1 (by rw [bd]; simp [c])) (by decide)).symm
        · exact ⟨hS a (b0 (by rw [bd]; simp [b, c])), hM a⟩
        · exact (hE 3 a (b1 (by rw [bd]; simp [b])) (by decide)).symm
    · rw [e2 d, if_pos f]
    · rw [e2 d, if_neg (fun x => x f), low_lit (by omega), high_lit (by omega) (by omega)]
      exact ⟨by omega, by omega, by omega, by omega, by omega, by omega, fun x => (if_pos x).symm, fun x => (if_neg (ne_ft x)).symm⟩
theorem le_nil {s : ByteArray} (h : keyB s = true) : ¬ (Op.bytesLess s.toList (⟨#[]⟩ : ByteArray).toList = true ∨ s = ⟨#[]⟩) := by
  rintro (c | rfl)
  · rw [toList_eq_data (⟨#[]⟩ : ByteArray)] at c
    change Op.bytesLess s.toList [] = true at c
    unfold Op.bytesLess at c
    exact absurd c (by simp)
  · revert h
    decide
/-- fields -/
def fieldF (l : List TField) (i : Nat) : Int := if keyB (l.getD i TField.z).name = false then 5 else if valF (l.getD i TField.z).value ≠ 0 then valF (l.getD i TField.z).value else
  if 0 < (i : Int) ∧ (Op.bytesLess (l.getD i TField.z).name.toList (l.getD (i - 1) TField.z).name.toList = true ∨ (l.getD i TField.z).name = (l.getD (i - 1) TField.z).name) then 7 else 0
def fieldsF (l : List TField) : Int := if 30 < (l.length : Int) then 2 else firstI l.length (fieldF l)
def fieldsS  : Spec where
  pre xs := ∃ (l : List TField), xs = [.sl (TField.rows l)] ∧ (okL TField.ok l)
  post xs y := ∃ (l : List TField), xs = [.sl (TField.rows l)] ∧ y = .i (fieldsF l)
  cost _ := 0
  fresh := true
theorem fieldsS_c  (xs : List AV) : (fieldsS).cost xs = 0 := nr rfl
theorem fieldsS_f  : (fieldsS).fresh = true := nr rfl
theorem fieldsS_q  (l : List TField) : (fieldsS).pre [.sl (TField.rows l)] = (okL TField.ok l) := propext ⟨fun h => by
  have h' : ∃ (l' : List TField), ([.sl (TField.rows l)] : List AV) = [.sl (TField.rows l')] ∧ (okL TField.ok l') := h
  obtain ⟨l', e, h⟩ := h'
  simp only [List.cons.injEq, AV.dv.injEq, AV.fv.injEq, DV.d.injEq, DV.ag.injEq, D.int.injEq, D.str.injEq, D.bool.injEq, D.sl.injEq, true_and, and_true, intsDi_inj, rowsT_inj, rowsKi_inj, TField.row_inj, TField.rows_inj] at e
  obtain rfl := e
  exact h, fun h => ⟨l, rfl, h⟩⟩
theorem fieldsS_p  (l : List TField) : (fieldsS).post [.sl (TField.rows l)] = fun y => y = .i (fieldsF l) := funext fun y => propext ⟨fun h => by
  have h' : ∃ (l' : List TField), ([.sl (TField.rows l)] : List AV) = [.sl (TField.rows l')] ∧ y = .i (fieldsF l') := h
  obtain ⟨l', e, h⟩ := h'
  simp only [List.cons.injEq, AV.dv.injEq, AV.fv.injEq, DV.d.injEq, DV.ag.injEq, D.int.injEq, D.str.injEq, D.bool.injEq, D.sl.injEq, true_and, and_true, intsDi_inj, rowsT_inj, rowsKi_inj, TField.row_inj, TField.rows_inj] at e
  obtain rfl := e
  exact h, fun h => ⟨l, rfl, h⟩⟩
theorem CheckFields_ctr {cx : Cx} (h : Seat cx) (hU : Utf8 cx) : Ctr cx 43 fieldsS := by
  refine ctr_of (fn := Tryd.f43) (l := [.tmp 2]) (envL [(91, (strB keyB)), (41, valS)]) [0, 2, 3, 4, 5, 8, 9, 10, 11, 12, 19, 24, 38] [] [] (envL_cons (IsKey_ctr h) (envL_cons (CheckValue_ctr h hU) (env0 h.hP))) ?_ (by rw [h.hP]; exact Tryd.func43) rfl (by kernel_rfl) rfl ?_ ?_
  · rw [h.hP]; exact ⟨_, Tryd.func43, by kernel_rfl, by kernel_rfl⟩
  · rintro xs ⟨l, rfl, h1⟩; exact ⟨_, l, rfl, rfl⟩
  · rintro xs ⟨l, rfl, h1⟩
    refine ⟨by rw [Tryd.ntmps43]; simp, ?_⟩
    simp only [go_sem, h.hP, List.cons_append, List.nil_append, Meets_e, Below_e, Prod.exists, exists_eq, exists_eq_left, exists_eq_left', exists_eq_right, exists_eq_right', exists_and_left, exists_and_right, Ob.arr.injEq, AV.own.injEq, AV.fv.injEq, fieldsS_q, fieldsS_p, fieldsS_c, fieldsS_f, TField.len, Tryd.ntmps43, Nat.reduceEqDiff, reduceCtorEq, Nat.reduceMul, Nat.reduceAdd, Nat.reduceSub, Nat.reduceDiv, Nat.reduceMod, Nat.reduceLeDiff, Nat.reduceLT, Nat.reduceBNe, Nat.reduceBEq, reduceIte, Int.reduceLE, Int.reduceLT, Int.reduceToNat, Int.reduceNeg, Int.reduceAdd, Int.reduceSub, Int.reduceMul, Int.reduceEq]
    refine ⟨fun c => (if_pos c).symm, fun c => ?_⟩
    have hc : fieldsF l = firstI l.length (fieldF l) := if_neg c
    rw [hc]
    refine vc_loopS (Int) (fun (i : Int) => [(11, .i i)]) [] (fun (i : Int) => []) (fun (i : Int) => []) (fun (i : Int) => 0) (fun (i : Int) => Rounds l.length (fieldF l) i) (fun (i : Int) => (l.length - i).toNat) [] ?_ ?_
    · simp only [go_sem, h.hP, List.cons_append, List.nil_append, Meets_e, Below_e, Prod.exists, exists_eq, exists_eq_left, exists_eq_left', exists_eq_right, exists_eq_right', exists_and_left, exists_and_right, Ob.arr.injEq, AV.own.injEq, AV.fv.injEq, Tryd.ntmps43, Nat.reduceEqDiff, reduceCtorEq, Nat.reduceMul, Nat.reduceAdd, Nat.reduceSub, Nat.reduceDiv, Nat.reduceMod, Nat.reduceLeDiff, Nat.reduceLT, Nat.reduceBNe, Nat.reduceBEq, reduceIte, Int.reduceLE, Int.reduceLT, Int.reduceToNat, Int.reduceNeg, Int.reduceAdd, Int.reduceSub, Int.reduceMul, Int.reduceEq]
      exact Rounds.start
    · rintro i hr
      obtain ⟨hi, hS, hM, hE, hN⟩ := hr.use (by have := h1.1; omega)
      have ho : (l.getD i.toNat TField.z).ok := okL_get h1 TField.z_ok _
      simp only [go_sem, h.hP, List.cons_append, List.nil_append, Meets_e, Below_e, Prod.exists, exists_eq, exists_eq_left, exists_eq_left', exists_eq_right, exists_eq_right', exists_and_left, exists_and_right, Ob.arr.injEq, AV.own.injEq, AV.fv.injEq, fieldsS_q, fieldsS_p, fieldsS_c, fieldsS_f, strB_q, strB_p, strB_c, strB_f, valS_q, valS_p, valS_c, valS_f, TField.len, TField.get, Tryd.ntmps43, Nat.reduceEqDiff, reduceCtorEq, Nat.reduceMul, Nat.reduceAdd, Nat.reduceSub, Nat.reduceDiv, Nat.reduceMod, Nat.reduceLeDiff, Nat.reduceLT, Nat.reduceBNe, Nat.reduceBEq, reduceIte, Int.reduceLE, Int.reduceLT, Int.reduceToNat, Int.reduceNeg, Int.reduceAdd, Int.reduceSub, Int.reduceMul, Int.reduceEq]
      have hl := h1.1
      have hw : 0 < i → i < l.length → IntKind.i64.wrap (i - 1) = i - 1 := fun a b => i64w (by omega) (by omega)
      have e0 : fieldF l i.toNat = if keyB (l.getD i.toNat TField.z).name = false then 5 else if valF (l.getD i.toNat TField.z).value ≠ 0 then valF (l.getD i.toNat TField.z).value else if 0 < i ∧ (Op.bytesLess (l.getD i.toNat TField.z).name.toList (l.getD (i - 1).toNat TField.z).name.toList = true ∨ (l.getD i.toNat TField.z).name = (l.getD (i - 1).toNat TField.z).name) then 7 else 0 := by
        unfold fieldF
        rw [Int.toNat_of_nonneg hi, show i.toNat - 1 = (i - 1).toNat by omega]
      generalize l.getD i.toNat TField.z = x at *
      obtain ⟨p1, p2⟩ := ho
      unfold okS at p1
      refine ⟨fun a => ⟨hi, a, by omega, fun b => (hE 5 a (e0.trans (if_pos b)) (by decide)).symm, fun b => ⟨p2, fun c => (hE _ a (e0.trans ((if_neg (ne_ft b)).trans (if_pos c))) c).symm, fun c => ⟨fun d => ?_, fun d => ?_⟩⟩⟩, fun a => (hN a).symm⟩
      · rw [hw d a]
        have e1 := e0.trans ((if_neg (ne_ft b)).trans (if_neg (fun q => q c)))
        refine ⟨by omega, by omega, fun e => (hE 7 a (e1.trans (if_pos ⟨d, e⟩)) (by decide)).symm, fun e => ⟨hS a (e1.trans (if_neg fun q => ?_)), hM a⟩⟩
        rw [Bool.or_eq_false_iff, decide_eq_false_iff_not] at e
        exact q.2.elim (ne_tf e.1) e.2
      · have e1 := e0.trans ((if_neg (ne_ft b)).trans (if_neg (fun q => q c)))
        exact ⟨hS a (e1.trans (if_neg fun q => d q.1)), hM a⟩
set_option maxHeartbeats 4000000 in
theorem FieldsFault_ctr {cx : Cx} (h : Seat cx) (hU : Utf8 cx) : Ctr cx 44 fieldsS := by
  refine ctr_of (fn := Tryd.f44) (l := [.tmp 2]) (envL [(81, (strB keyB)), (42, valS)]) [0, 2, 3, 5, 6, 9, 10, 11, 12, 13, 19, 24, 29] [] [] (envL_cons (Key_ctr h) (envL_cons (ValueFault_ctr h hU) (env0 h.hP))) ?_ (by rw [h.hP]; exact Tryd.func44) rfl (by kernel_rfl) rfl ?_ ?_
  · rw [h.hP]; exact ⟨_, Tryd.func44, by kernel_rfl, by kernel_rfl⟩
  · rintro xs ⟨l, rfl, h1⟩; exact ⟨_, l, rfl, rfl⟩
  · rintro xs ⟨l, rfl, h1⟩
    refine ⟨by rw [Tryd.ntmps44]; simp, ?_⟩
    simp only [go_sem, h.hP, List.cons_append, List.nil_append, Meets_e, Below_e, Prod.exists, exists_eq, exists_eq_left, exists_eq_left', exists_eq_right, exists_eq_right', exists_and_left, exists_and_right, Ob.arr.injEq, AV.own.injEq, AV.fv.injEq, fieldsS_q, fieldsS_p, fieldsS_c, fieldsS_f, TField.len, Tryd.ntmps44, Nat.reduceEqDiff, reduceCtorEq, Nat.reduceMul, Nat.reduceAdd, Nat.reduceSub, Nat.reduceDiv, Nat.reduceMod, Nat.reduceLeDiff, Nat.reduceLT, Nat.reduceBNe, Nat.reduceBEq, reduceIte, Int.reduceLE, Int.reduceLT, Int.reduceToNat, Int.reduceNeg, Int.reduceAdd, Int.reduceSub, Int.reduceMul, Int.reduceEq]
    refine ⟨fun c => (if_pos c).symm, fun c => ?_⟩
    have hc : fieldsF l = firstI l.length (fieldF l) := if_neg c
    rw [hc]
    refine vc_loopS (Int × ByteArray) (fun (x : Int × ByteArray) => match x with | (i, s) => [(12, .i i), (3, .str s)]) [] (fun (x : Int × ByteArray) => match x with | (i, s) => []) (fun (x : Int × ByteArray) => match x with | (i, s) => []) (fun (x : Int × ByteArray) => match x with | (i, s) => 0) (fun (x : Int × ByteArray) => match x with | (i, s) => Rounds l.length (fieldF l) i ∧ (0 < i → s = (l.getD (i - 1).toNat TField.z).name) ∧ (i = 0 → s = ⟨#[]⟩)) (fun (x : Int × ByteArray) => match x with | (i, s) => (l.length - i).toNat) [] ?_ ?_
    · simp only [go_sem, h.hP, List.cons_append, List.nil_append, Meets_e, Below_e, Prod.exists, exists_eq, exists_eq_left, exists_eq_left', exists_eq_right, exists_eq_right', exists_and_left, exists_and_right, Ob.arr.injEq, AV.own.injEq, AV.fv.injEq, Tryd.ntmps44, Nat.reduceEqDiff, reduceCtorEq, Nat.reduceMul, Nat.reduceAdd, Nat.reduceSub, Nat.reduceDiv, Nat.reduceMod, Nat.reduceLeDiff, Nat.reduceLT, Nat.reduceBNe, Nat.reduceBEq, reduceIte, Int.reduceLE, Int.reduceLT, Int.reduceToNat, Int.reduceNeg, Int.reduceAdd, Int.reduceSub, Int.reduceMul, Int.reduceEq]
      exact Rounds.start
    · rintro ⟨i, s⟩ ⟨hr, j2, j3⟩
      obtain ⟨hi, hS, hM, hE, hN⟩ := hr.use (by have := h1.1; omega)
      have ho : (l.getD i.toNat TField.z).ok := okL_get h1 TField.z_ok _
      simp only [go_sem, h.hP, List.cons_append, List.nil_append, Meets_e, Below_e, Prod.exists, exists_eq, exists_eq_left, exists_eq_left', exists_eq_right, exists_eq_right', exists_and_left, exists_and_right, Ob.arr.injEq, AV.own.injEq, AV.fv.injEq, fieldsS_q, fieldsS_p, fieldsS_c, fieldsS_f, strB_q, strB_p, strB_c, strB_f, valS_q, valS_p, valS_c, valS_f, TField.len, TField.get, Tryd.ntmps44, Nat.reduceEqDiff, reduceCtorEq, Nat.reduceMul, Nat.reduceAdd, Nat.reduceSub, Nat.reduceDiv, Nat.reduceMod, Nat.reduceLeDiff, Nat.reduceLT, Nat.reduceBNe, Nat.reduceBEq, reduceIte, Int.reduceLE, Int.reduceLT, Int.reduceToNat, Int.reduceNeg, Int.reduceAdd, Int.reduceSub, Int.reduceMul, Int.reduceEq]
      have hl := h1.1
      have hw : i < l.length → IntKind.i64.wrap (i + 1) = i + 1 := fun b => i64w (by omega) (by omega)
      have e0 : fieldF l i.toNat = if keyB (l.getD i.toNat TField.z).name = false then 5 else if valF (l.getD i.toNat TField.z).value ≠ 0 then valF (l.getD i.toNat TField.z).value else if 0 < i ∧ (Op.bytesLess (l.getD i.toNat TField.z).name.toList (l.getD (i - 1).toNat TField.z).name.toList = true ∨ (l.getD i.toNat TField.z).name = (l.getD (i - 1).toNat TField.z).name) then 7 else 0 := by
        unfold fieldF
        rw [Int.toNat_of_nonneg hi, show i.toNat - 1 = (i - 1).toNat by omega]
      have hg : (l.getD (i + 1 - 1).toNat TField.z).name = (l.getD i.toNat TField.z).name := by rw [show i + 1 - 1 = i by omega]
      generalize l.getD i.toNat TField.z = x at *
      obtain ⟨p1, p2⟩ := ho
      unfold okS at p1
      refine ⟨fun a => ⟨hi, a, by omega, fun b => (hE 5 a (e0.trans (if_pos b)) (by decide)).symm, fun b => ⟨p2, fun c => (hE _ a (e0.trans ((if_neg (ne_ft b)).trans (if_pos c))) c).symm, fun c => ?_⟩⟩, fun a => (hN a).symm⟩
      have e1 := e0.trans ((if_neg (ne_ft b)).trans (if_neg (fun q => q c)))
      have i0 : Op.bytesLess x.name.toList s.toList = true ∨ x.name = s → 0 < i := fun e => by
        rcases Int.lt_or_eq_of_le hi with g | g
        · exact g
        · rw [j3 g.symm] at e
          exact absurd e (le_nil b)
      refine ⟨fun e => ?_, fun e => ?_⟩
      · have g := i0 e
        rw [j2 g] at e
        exact (hE 7 a (e1.trans (if_pos ⟨g, e⟩)) (by decide)).symm
      · rw [Bool.or_eq_false_iff, decide_eq_false_iff_not] at e
        have s0 := hS a (e1.trans (if_neg fun q => by rw [← j2 q.1] at q; exact q.2.elim (ne_tf e.1) e.2))
        have m0 := hM a
        rw [hw a] at s0 m0 ⊢
        exact ⟨s0, fun _ => hg.symm, fun g => by omega, m0⟩
end Go.Avc

/- Measures, records and their points: plain law. No condition. -/
set_option linter.unusedVariables false
set_option linter.unusedSimpArgs false
set_option maxRecDepth 100000
namespace Go.Avc
open Go Go.Proofs

theorem less_lt : ∀ (x y : List UInt8), Op.bytesLess x y = decide (x < y)
  | [], [] => by simp [Op.bytesLess]
  | _ :: _, [] => by simp [Op.bytesLess]
  | [], _ :: _ => by simp [Op.bytesLess]
  | a :: x, b :: y => by
    rw [Op.bytesLess, less_lt x y]
    simp only [List.cons_lt_cons_iff]
    by_cases h1 : a < b <;> by_cases h2 : a = b <;> by_cases h3 : x < y <;> simp [h1, h2, h3]
theorem lessS_lt (s t : ByteArray) : lessS s t = decide (s.data.toList < t.data.toList) := by
  unfold lessS
  rw [toList_eq_data, toList_eq_data]
  exact less_lt _ _
theorem lessS_trans {s t u : ByteArray} (h : lessS s t = true) (k : lessS t u = true) : lessS s u = true := by
  rw [lessS_lt, decide_eq_true_eq] at *
  exact List.lt_trans h k
theorem lessS_irrefl (s : ByteArray) : lessS s s = false := by
  rw [lessS_lt, decide_eq_false_iff_not]
  exact List.lt_irrefl _
theorem lessS_total {s t : ByteArray} (h : ¬ (lessS s t = true ∨ s = t)) : lessS t s = true := by
  rw [lessS_lt, decide_eq_true_eq] at *
  have h1 : ¬ s.data.toList < t.data.toList := fun e => h (.inl e)
  have h2 : ¬ s.data.toList = t.data.toList := fun e => h (.inr (ba_eq.2 e))
  rcases List.le_total s.data.toList t.data.toList with e | e
  · rcases List.le_iff_lt_or_eq.1 e with e | e
    · exact absurd e h1
    · exact absurd e h2
  · rcases List.le_iff_lt_or_eq.1 e with e | e
    · exact e
    · exact absurd e.symm h2
/-- Fields whose names rise. -/
def ascF (l : List TField) : Prop := ∀ i j : Nat, i < j → j < l.length → lessS (l.getD i TField.z).name (l.getD j TField.z).name = true
theorem asc_of_step {l : List TField} (h : ∀ i : Nat, i + 1 < l.length → lessS (l.getD i TField.z).name (l.getD (i + 1) TField.z).name = true) : ascF l := by
  intro i j hij
  induction j with
  | zero => omega
  | succ j ih =>
    intro hj
    by_cases e : i = j
    · subst e; exact h i hj
    · exact lessS_trans (ih (by omega) (by omega)) (h j hj)
theorem asc_of_fields {l : List TField} (h : fieldsF l = 0) : ascF l ∧ l.length ≤ 30 := by
  unfold fieldsF at h
  have h1 : ¬ 30 < (l.length : Int) := fun e => by rw [if_pos e] at h; cases h
  rw [if_neg h1] at h
  refine ⟨asc_of_step fun i hi => ?_, by omega⟩
  have hz : fieldF l (i + 1) = 0 := by
    cases hq : decide (fieldF l (i + 1) = 0) with
    | true => exact of_decide_eq_true hq
    | false =>
      exfalso
      have hne : fieldF l (i + 1) ≠ 0 := of_decide_eq_false hq
      unfold firstI at h
      cases hf : (List.range l.length).find? (fun i => decide (fieldF l i ≠ 0)) with
      | none =>
        have := List.find?_eq_none.1 hf (i + 1) (List.mem_range.2 hi)
        simp only [decide_eq_true_eq] at this
        exact this hne
      | some k =>
        rw [hf] at h
        have := List.find?_some hf
        simp only [decide_eq_true_eq] at this
        exact this h
  unfold fieldF at hz
  split at hz
  · cases hz
  · split at hz
    · rename_i c; exact absurd hz c
    · split at hz
      · cases hz
      · rename_i c
        refine lessS_total fun e => c ⟨by omega, ?_⟩
        rw [show i + 1 - 1 = i by omega]
        exact e
def findF (l : List TField) (n : ByteArray) : Option TField := l.find? fun f => decide (f.name = n)
theorem asc_inj {l : List TField} (h : ascF l) {i j : Nat} (hi : i < l.length) (hj : j < l.length) (e : (l.getD i TField.z).name = (l.getD j TField.z).name) : i = j := by
  rcases Nat.lt_trichotomy i j with c | c | c
  · have := h i j c hj
    rw [e, lessS_irrefl] at this
    cases this
  · exact c
  · have := h j i c hi
    rw [e, lessS_irrefl] at this
    cases this
theorem findF_at {l : List TField} (h : ascF l) {i : Nat} (hi : i < l.length) {n : ByteArray} (e : (l.getD i TField.z).name = n) : findF l n = some (l.getD i TField.z) := by
  unfold findF
  cases hf : l.find? (fun f => decide (f.name = n)) with
  | none =>
    have := List.find?_eq_none.1 hf (l.getD i TField.z) (by rw [getD_lt hi]; exact List.getElem_mem hi)
    simp only [decide_eq_true_eq] at this
    exact absurd e this
  | some f =>
    have h1 := List.find?_some hf
    simp only [decide_eq_true_eq] at h1
    obtain ⟨j, hj, hfj⟩ := List.mem_iff_getElem.1 (List.mem_of_find?_eq_some hf)
    have h2 : l.getD j TField.z = f := by rw [getD_lt hj]; exact hfj
    have : i = j := asc_inj h hi hj (by rw [e, h2, h1])
    rw [this, h2]
theorem findF_no {l : List TField} {n : ByteArray} (h : ∀ i : Nat, i < l.length → (l.getD i TField.z).name ≠ n) : findF l n = none := by
  unfold findF
  rw [List.find?_eq_none]
  intro x hx
  obtain ⟨j, hj, rfl⟩ := List.mem_iff_getElem.1 hx
  have := h j hj
  rw [getD_lt hj] at this
  simpa using this
/-- At most one of a list's elements counts. -/
theorem sum_one {α : Type} (p : α → Bool) (F : α → Int) (hF : ∀ x, p x = false → F x = 0) : ∀ (l : List α), l.Pairwise (fun x y => ¬ (p x = true ∧ p y = true)) → (l.map F).sum = ((l.find? p).map F).getD 0
  | [], _ => rfl
  | x :: r, h => by
    rw [List.pairwise_cons] at h
    rw [List.map_cons, List.sum_cons, sum_one p F hF r h.2]
    cases hp : p x with
    | true =>
      have hn : r.find? p = none := by
        rw [List.find?_eq_none]
        intro y hy e
        exact h.1 y hy ⟨hp, e⟩
      rw [hn, List.find?_cons_of_pos hp]
      simp
    | false =>
      rw [hF x hp, List.find?_cons_of_neg (by simp [hp]), Int.zero_add]
theorem asc_pair {l : List TField} (h : ascF l) (n : ByteArray) : l.Pairwise (fun x y => ¬ (decide (x.name = n) = true ∧ decide (y.name = n) = true)) := by
  rw [List.pairwise_iff_getElem]
  intro i j hi hj hij e
  simp only [decide_eq_true_eq] at e
  have := asc_inj h hi hj (by rw [getD_lt hi, getD_lt hj, e.1, e.2])
  omega
/-- measures -/
def farOk (m : TMeasure) : Bool := if m.how = 1 then decide (m.far = 0) else inB m.far 1 20
def measE (l : List TMeasure) (i : Nat) : Int := if keyB (l.getD i TMeasure.z).name = false then 5 else if inB (l.getD i TMeasure.z).how 1 3 = false then 4 else if farOk (l.getD i TMeasure.z) = false ∨ inB (l.getD i TMeasure.z).points (-1000) 1000 = false then 1 else 0
def measF (l : List TMeasure) : Int := if (l.length : Int) = 0 then 3 else if 20 < (l.length : Int) then 2 else firstI l.length (measE l)
def measOk (m : TMeasure) : Prop := farOk m = true ∧ -1000 ≤ m.points ∧ m.points ≤ 1000
theorem first_zero {n : Nat} {f : Nat → Int} (h : firstI n f = 0) : ∀ i, i < n → f i = 0 := by
  intro i hi
  cases hq : decide (f i = 0) with
  | true => exact of_decide_eq_true hq
  | false =>
    exfalso
    have hne : f i ≠ 0 := of_decide_eq_false hq
    unfold firstI at h
    cases hf : (List.range n).find? (fun i => decide (f i ≠ 0)) with
    | none =>
      have := List.find?_eq_none.1 hf i (List.mem_range.2 hi)
      simp only [decide_eq_true_eq] at this
      exact this hne
    | some k =>
      rw [hf] at h
      have := List.find?_some hf
      simp only [decide_eq_true_eq] at this
      exact this h
theorem meas_ok {l : List TMeasure} (h : measF l = 0) : l.length ≤ 20 ∧ ∀ i, i < l.length → measOk (l.getD i TMeasure.z) := by
  unfold measF at h
  have h0 : ¬ (l.length : Int) = 0 := fun e => by rw [if_pos e] at h; cases h
  rw [if_neg h0] at h
  have h1 : ¬ 20 < (l.length : Int) := fun e => by rw [if_pos e] at h; cases h
  rw [if_neg h1] at h
  refine ⟨by omega, fun i hi => ?_⟩
  have hz := first_zero h i hi
  unfold measE at hz
  split at hz
  · cases hz
  · split at hz
    · cases hz
    · split at hz
      · cases hz
      · rename_i c
        have c1 : farOk (l.getD i TMeasure.z) = true := by
          cases e : farOk (l.getD i TMeasure.z) with
          | true => rfl
          | false => exact absurd (.inl e) c
        have c2 : inB (l.getD i TMeasure.z).points (-1000) 1000 = true := by
          cases e : inB (l.getD i TMeasure.z).points (-1000) 1000 with
          | true => rfl
          | false => exact absurd (.inr e) c
        have := inB_iff.1 c2
        exact ⟨c1, this.1, this.2⟩
/-- two values by a measure -/
def valEq (a b : TValue) : Bool := a.kind == b.kind && (decide (a.text = b.text) && a.number == b.number)
def alikeF (m : TMeasure) (a b : TValue) : Bool := if m.how = 1 then valEq a b else if a.kind ≠ 1 ∨ b.kind ≠ 1 then false else if m.how = 2 then decide (ed (pts a.text) (pts b.text) ≤ m.far) else
  decide (m.far ≤ ((pts a.text).length : Int)) && decide (m.far ≤ ((pts b.text).length : Int)) && decide ((pts a.text).take m.far.toNat = (pts b.text).take m.far.toNat)
/-- what a measure gives -/
def termF (m : TMeasure) (a b : List TField) : Int := match findF a m.name, findF b m.name with
  | some f, some g => if alikeF m f.value g.value = true then m.points else 0
  | _, _ => 0
def pairF (m : TMeasure) (f g : TField) : Int := if (f.name = m.name ∧ g.name = m.name) ∧ alikeF m f.value g.value = true then m.points else 0
def rowF (m : TMeasure) (f : TField) (b : List TField) : Int := (b.map (pairF m f)).sum
def allF (m : TMeasure) (a b : List TField) : Int := (a.map fun f => rowF m f b).sum
theorem allF_term {m : TMeasure} {a b : List TField} (ha : ascF a) (hb : ascF b) : allF m a b = termF m a b := by
  have hr : ∀ f, rowF m f b = ((findF b m.name).map (pairF m f)).getD 0 := fun f => sum_one (fun g : TField => decide (g.name = m.name)) (pairF m f) (fun g hg => by
    unfold pairF
    rw [if_neg]
    intro e
    simp only [decide_eq_false_iff_not] at hg
    exact hg e.1.2) b (asc_pair hb m.name)
  have h0 : ∀ f : TField, f.name ≠ m.name → rowF m f b = 0 := fun f hf => by
    rw [hr]
    cases findF b m.name with
    | none => rfl
    | some g =>
      show pairF m f g = 0
      unfold pairF
      rw [if_neg (fun e => hf e.1.1)]
  have hs : allF m a b = ((findF a m.name).map fun f => rowF m f b).getD 0 := sum_one (fun f : TField => decide (f.name = m.name)) (fun f => rowF m f b) (fun f hf => h0 f (by simpa using hf)) a (asc_pair ha m.name)
  rw [hs]
  unfold termF
  cases e1 : findF a m.name with
  | none => rfl
  | some f =>
    show rowF m f b = _
    rw [hr]
    cases e2 : findF b m.name with
    | none => rfl
    | some g =>
      show pairF m f g = if alikeF m f.value g.value = true then m.points else 0
      have n1 := List.find?_some e1
      have n2 := List.find?_some e2
      simp only [decide_eq_true_eq] at n1 n2
      unfold pairF
      by_cases c : alikeF m f.value g.value = true
      · rw [if_pos ⟨⟨n1, n2⟩, c⟩, if_pos c]
      · rw [if_neg (fun z => c z.2), if_neg c]
def scoreF (l : List TMeasure) (a b : List TField) : Int := (l.map fun m => termF m a b).sum
def pointsF (l : List TMeasure) (a b : List TField) : Int := (l.map fun m => allF m a b).sum
theorem points_score {l : List TMeasure} {a b : List TField} (ha : ascF a) (hb : ascF b) : pointsF l a b = scoreF l a b := by
  unfold pointsF scoreF
  rw [List.map_congr_left fun m _ => allF_term ha hb]
/-- sums step by step -/
def upTo {α : Type} (l : List α) (F : α → Int) (i : Nat) : Int := ((l.take i).map F).sum
theorem upTo_zero {α : Type} (l : List α) (F : α → Int) : upTo l F 0 = 0 := rfl
theorem upTo_all {α : Type} (l : List α) (F : α → Int) : upTo l F l.length = (l.map F).sum := by unfold upTo; rw [List.take_length]
theorem upTo_step {α : Type} {l : List α} (F : α → Int) {i : Nat} (d : α) (h : i < l.length) : upTo l F (i + 1) = upTo l F i + F (l.getD i d) := by
  unfold upTo
  rw [List.take_add_one, List.map_append, List.sum_append, List.getD_eq_getElem?_getD, List.getElem?_eq_getElem h]
  simp
theorem upTo_in {α : Type} {l : List α} {F : α → Int} {k : Int} (hk : 0 ≤ k) (h : ∀ x ∈ l, -k ≤ F x ∧ F x ≤ k) : ∀ i : Nat, -(k * i) ≤ upTo l F i ∧ upTo l F i ≤ k * i
  | 0 => by rw [upTo_zero]; simp
  | i + 1 => by
    have ih := upTo_in hk h i
    have e : k * ((i + 1 : Nat) : Int) = k * i + k := by rw [Int.natCast_add, Int.mul_add]; simp
    by_cases hi : i < l.length
    · have h1 := h l[i] (List.getElem_mem hi)
      rw [upTo_step F l[i] hi, List.getD_eq_getElem?_getD, List.getElem?_eq_getElem hi, Option.getD_some, e]
      omega
    · have : upTo l F (i + 1) = upTo l F i := by
        unfold upTo
        rw [List.take_of_length_le (by omega), List.take_of_length_le (by omega)]
      rw [this, e]
      omega
end Go.Avc

/- Two values by a measure, by the program and by the reference. No condition. -/
set_option linter.unusedVariables false
set_option linter.unusedSimpArgs false
set_option maxRecDepth 100000
namespace Go.Avc
open Go Go.Proofs

theorem rowsK_take (k : IntKind) (l : List Int) (n : Nat) : (rowsK k l).take n = rowsK k (l.take n) := List.map_take.symm
theorem rowsKi_inj' {k : IntKind} {l m : List Int} : (rowsK k l = rowsK k m) = (l = m) := propext rowsK_inj
def eqS (k : IntKind) : Spec where
  pre xs := ∃ a b : List Int, xs = [.sl (rowsK k a), .sl (rowsK k b)] ∧ a.length ≤ 1073741824 ∧ b.length ≤ 1073741824
  post xs r := ∃ a b : List Int, xs = [.sl (rowsK k a), .sl (rowsK k b)] ∧ r = .b (decide (a = b))
  cost _ := 0
  fresh := true
theorem eq_no {a b : List Int} {i : Int} (h0 : 0 ≤ i) (h : a.getD i.toNat 0 ≠ b.getD i.toNat 0) : false = decide (a = b) := by
  rw [eq_comm, decide_eq_false_iff_not]
  intro e
  exact h (by rw [e])
theorem eq_all {a b : List Int} (hl : a.length = b.length) (h : ∀ j : Nat, j < a.length → a.getD j 0 = b.getD j 0) : true = decide (a = b) := by
  rw [eq_comm, decide_eq_true_eq]
  apply List.ext_getElem hl
  intro i h1 h2
  have := h i h1
  rwa [getD_lt h1, getD_lt h2] at this
theorem equalR_ctr {cx : Cx} (h : Seat cx) : Ctr cx 179 (eqS .i32) := by
  refine ctr_of (fn := Tryd.f179) (l := [.tmp 4]) (envL []) [0, 1, 4, 5, 10, 12, 13, 14, 24] [] [] (env0 h.hP) ?_ (by rw [h.hP]; exact Tryd.func179) rfl (by kernel_rfl) rfl ?_ ?_
  · rw [h.hP]; exact ⟨_, Tryd.func179, by kernel_rfl, by kernel_rfl⟩
  · rintro xs ⟨a, b, rfl, h1, h2⟩; exact ⟨_, a, b, rfl, rfl⟩
  · rintro xs ⟨a, b, rfl, h1, h2⟩
    refine ⟨by rw [Tryd.ntmps179]; simp, ?_⟩
    simp only [go_sem, h.hP, List.cons_append, List.nil_append, Meets_e, Below_e, Prod.exists, exists_eq, exists_eq_left, exists_eq_left', exists_eq_right, exists_eq_right', exists_and_left, exists_and_right, Ob.arr.injEq, AV.own.injEq, AV.fv.injEq, eqS, rowsK_len, rowsKi_inj', Tryd.ntmps179, Nat.reduceEqDiff, reduceCtorEq, Nat.reduceMul, Nat.reduceAdd, Nat.reduceSub, Nat.reduceDiv, Nat.reduceMod, Nat.reduceLeDiff, Nat.reduceLT, Nat.reduceBNe, Nat.reduceBEq, reduceIte, Int.reduceLE, Int.reduceLT, Int.reduceToNat, Int.reduceNeg, Int.reduceAdd, Int.reduceSub, Int.reduceMul, Int.reduceEq]
    refine ⟨fun c => ?_, fun c => ?_⟩
    · rw [eq_comm, decide_eq_false_iff_not]
      intro e
      exact c (by rw [e])
    refine vc_loopS (Int) (fun (i : Int) => [(13, .i i)]) [] (fun (i : Int) => []) (fun (i : Int) => []) (fun (i : Int) => 0) (fun (i : Int) => 0 ≤ i ∧ i ≤ a.length ∧ ∀ j : Nat, (j : Int) < i → a.getD j 0 = b.getD j 0) (fun (i : Int) => (a.length - i).toNat) [] ?_ ?_
    · simp only [go_sem, h.hP, List.cons_append, List.nil_append, Meets_e, Below_e, Prod.exists, exists_eq, exists_eq_left, exists_eq_left', exists_eq_right, exists_eq_right', exists_and_left, exists_and_right, Ob.arr.injEq, AV.own.injEq, AV.fv.injEq, Tryd.ntmps179, Nat.reduceEqDiff, reduceCtorEq, Nat.reduceMul, Nat.reduceAdd, Nat.reduceSub, Nat.reduceDiv, Nat.reduceMod, Nat.reduceLeDiff, Nat.reduceLT, Nat.reduceBNe, Nat.reduceBEq, reduceIte, Int.reduceLE, Int.reduceLT, Int.reduceToNat, Int.reduceNeg, Int.reduceAdd, Int.reduceSub, Int.reduceMul, Int.reduceEq]
      exact ⟨Int.natCast_nonneg _, fun j hj => by omega⟩
    · rintro i ⟨j1, j2, j3⟩
      simp only [go_sem, h.hP, List.cons_append, List.nil_append, Meets_e, Below_e, Prod.exists, exists_eq, exists_eq_left, exists_eq_left', exists_eq_right, exists_eq_right', exists_and_left, exists_and_right, Ob.arr.injEq, AV.own.injEq, AV.fv.injEq, eqS, rowsK_len, rowsK_get, rowsKi_inj', Tryd.ntmps179, Nat.reduceEqDiff, reduceCtorEq, Nat.reduceMul, Nat.reduceAdd, Nat.reduceSub, Nat.reduceDiv, Nat.reduceMod, Nat.reduceLeDiff, Nat.reduceLT, Nat.reduceBNe, Nat.reduceBEq, reduceIte, Int.reduceLE, Int.reduceLT, Int.reduceToNat, Int.reduceNeg, Int.reduceAdd, Int.reduceSub, Int.reduceMul, Int.reduceEq]
      refine ⟨fun d => ⟨j1, d, j1, by omega, fun f => eq_no j1 f, fun f => ?_⟩, fun d => eq_all (by omega) fun j hj => j3 j (by omega)⟩
      rw [i64w (n := i + 1) (by omega) (by omega)]
      refine ⟨by omega, by omega, fun j hj => ?_, by omega⟩
      by_cases e : (j : Int) = i
      · have : i.toNat = j := by omega
        rw [← this]; exact f
      · exact j3 j (by omega)
def alikeS  : Spec where
  pre xs := ∃ (m : TMeasure) (a : TValue) (b : TValue), xs = [.dv (.ag m.row), .dv (.ag a.row), .dv (.ag b.row)] ∧ ((farOk m = true) ∧ a.ok ∧ b.ok)
  post xs y := ∃ (m : TMeasure) (a : TValue) (b : TValue), xs = [.dv (.ag m.row), .dv (.ag a.row), .dv (.ag b.row)] ∧ y = .b (alikeF m a b)
  cost _ := 0
  fresh := true
theorem alikeS_c  (xs : List AV) : (alikeS).cost xs = 0 := nr rfl
theorem alikeS_f  : (alikeS).fresh = true := nr rfl
theorem alikeS_q  (m : TMeasure) (a : TValue) (b : TValue) : (alikeS).pre [.dv (.ag [.str m.name, .int .i64 m.how, .int .i64 m.far, .int .i64 m.points]), .dv (.ag [.int .i64 a.kind, .str a.text, .int .i64 a.number]), .dv (.ag [.int .i64 b.kind, .str b.text, .int .i64 b.number])] = ((farOk m = true) ∧ a.ok ∧ b.ok) := propext ⟨fun h => by
  have h' : ∃ (m' : TMeasure) (a' : TValue) (b' : TValue), ([.dv (.ag m.row), .dv (.ag a.row), .dv (.ag b.row)] : List AV) = [.dv (.ag m'.row), .dv (.ag a'.row), .dv (.ag b'.row)] ∧ ((farOk m' = true) ∧ a'.ok ∧ b'.ok) := h
  obtain ⟨m', a', b', e, h⟩ := h'
  simp only [List.cons.injEq, AV.dv.injEq, AV.fv.injEq, DV.d.injEq, DV.ag.injEq, D.int.injEq, D.str.injEq, D.bool.injEq, D.sl.injEq, true_and, and_true, intsDi_inj, rowsT_inj, rowsKi_inj, TMeasure.row_inj, TMeasure.rows_inj, TValue.row_inj, TValue.rows_inj, TValue.row_inj, TValue.rows_inj] at e
  obtain ⟨rfl, rfl, rfl⟩ := e
  exact h, fun h => ⟨m, a, b, rfl, h⟩⟩
theorem alikeS_p  (m : TMeasure) (a : TValue) (b : TValue) : (alikeS).post [.dv (.ag [.str m.name, .int .i64 m.how, .int .i64 m.far, .int .i64 m.points]), .dv (.ag [.int .i64 a.kind, .str a.text, .int .i64 a.number]), .dv (.ag [.int .i64 b.kind, .str b.text, .int .i64 b.number])] = fun y => y = .b (alikeF m a b) := funext fun y => propext ⟨fun h => by
  have h' : ∃ (m' : TMeasure) (a' : TValue) (b' : TValue), ([.dv (.ag m.row), .dv (.ag a.row), .dv (.ag b.row)] : List AV) = [.dv (.ag m'.row), .dv (.ag a'.row), .dv (.ag b'.row)] ∧ y = .b (alikeF m' a' b') := h
  obtain ⟨m', a', b', e, h⟩ := h'
  simp only [List.cons.injEq, AV.dv.injEq, AV.fv.injEq, DV.d.injEq, DV.ag.injEq, D.int.injEq, D.str.injEq, D.bool.injEq, D.sl.injEq, true_and, and_true, intsDi_inj, rowsT_inj, rowsKi_inj, TMeasure.row_inj, TMeasure.rows_inj, TValue.row_inj, TValue.rows_inj, TValue.row_inj, TValue.rows_inj] at e
  obtain ⟨rfl, rfl, rfl⟩ := e
  exact h, fun h => ⟨m, a, b, rfl, h⟩⟩
set_option maxHeartbeats 4000000 in
theorem alike_ctr {cx : Cx} (h : Seat cx) (hU : Utf8 cx) : Ctr cx 141 alikeS := by
  refine ctr_of (fn := Tryd.f141) (l := [.tmp 6]) (envL [(69, (ptsS .i32)), (68, distS), (179, (eqS .i32))]) [0, 1, 2, 3, 4, 5, 6, 7, 8, 11, 22, 31] [] [] (envL_cons (pts_ctr h hU) (envL_cons (dist_ctr h) (envL_cons (equalR_ctr h) (env0 h.hP)))) ?_ (by rw [h.hP]; exact Tryd.func141) rfl (by kernel_rfl) rfl ?_ ?_
  · rw [h.hP]; exact ⟨_, Tryd.func141, by kernel_rfl, by kernel_rfl⟩
  · rintro xs ⟨m, a, b, rfl, h1⟩; exact ⟨_, m, a, b, rfl, rfl⟩
  · rintro xs ⟨m, a, b, rfl, h1, ⟨a1, a2, a3⟩, b1, b2, b3⟩
    refine ⟨by rw [Tryd.ntmps141]; simp, ?_⟩
    simp only [go_sem, h.hP, List.cons_append, List.nil_append, Meets_e, Below_e, Prod.exists, exists_eq, exists_eq_left, exists_eq_left', exists_eq_right, exists_eq_right', exists_and_left, exists_and_right, Ob.arr.injEq, AV.own.injEq, AV.fv.injEq, alikeS_q, alikeS_p, alikeS_c, alikeS_f, ptsS, distS, eqS, rowsK_len, rowsK_take, rowsKi_inj', TMeasure.row, TValue.row, Tryd.ntmps141, Nat.reduceEqDiff, reduceCtorEq, Nat.reduceMul, Nat.reduceAdd, Nat.reduceSub, Nat.reduceDiv, Nat.reduceMod, Nat.reduceLeDiff, Nat.reduceLT, Nat.reduceBNe, Nat.reduceBEq, reduceIte, Int.reduceLE, Int.reduceLT, Int.reduceToNat, Int.reduceNeg, Int.reduceAdd, Int.reduceSub, Int.reduceMul, Int.reduceEq]
    unfold okS at a2 b2
    have hk : ∀ (l : List Int) (x : List D), x ∈ rowsK .i32 l → x.length = 1 := fun l x hx => by
      obtain ⟨c, _, rfl⟩ := List.mem_map.1 hx
      rfl
    have hp : (pts a.text).length ≤ a.text.size := ptsL_len _ _
    have hq : (pts b.text).length ≤ b.text.size := ptsL_len _ _
    have e1 : m.how = 1 → alikeF m a b = valEq a b := fun c => if_pos c
    have e2 : ¬ m.how = 1 → (a.kind ≠ 1 ∨ b.kind ≠ 1) → alikeF m a b = false := fun c d => (if_neg c).trans (if_pos d)
    have e3 : ¬ m.how = 1 → ¬ (a.kind ≠ 1 ∨ b.kind ≠ 1) → m.how = 2 → alikeF m a b = decide (ed (pts a.text) (pts b.text) ≤ m.far) := fun c d e => (if_neg c).trans ((if_neg d).trans (if_pos e))
    have e4 : ¬ m.how = 1 → ¬ (a.kind ≠ 1 ∨ b.kind ≠ 1) → ¬ m.how = 2 → alikeF m a b = (decide (m.far ≤ ((pts a.text).length : Int)) && decide (m.far ≤ ((pts b.text).length : Int)) && decide ((pts a.text).take m.far.toNat = (pts b.text).take m.far.toNat)) := fun c d e => (if_neg c).trans ((if_neg d).trans (if_neg e))
    have hf : ¬ m.how = 1 → 0 ≤ m.far := fun c => by
      have := h1
      unfold farOk at this
      rw [if_neg c] at this
      have := inB_iff.1 this
      omega
    generalize alikeF m a b = R at *
    refine ⟨fun c => (e1 c).symm, fun c => ⟨fun d => ⟨fun f => (e2 c (.inr f)).symm, fun f => ?_⟩, fun d => (e2 c (.inl d)).symm⟩⟩
    have nd : ¬ (a.kind ≠ 1 ∨ b.kind ≠ 1) := fun z => z.elim (fun y => y d) (fun y => y f)
    have hf0 := hf c
    refine ⟨by omega, by omega, fun g => ⟨by omega, by omega, by rw [distP_ed]; exact (e3 c nd g).symm⟩, fun g => ⟨fun z1 => ⟨fun z2 => ⟨hf0, z1, hk _, hf0, z2, hk _, by rw [List.length_take]; omega, by rw [List.length_take]; omega, ?_⟩, fun z2 => ?_⟩, fun z1 => ?_⟩⟩
    · rw [e4 c nd g, decide_eq_true z1, decide_eq_true z2]; rfl
    · rw [e4 c nd g, decide_eq_false z2]; simp
    · rw [e4 c nd g, decide_eq_false z1]; rfl
theorem equalI_ctr {cx : Cx} (h : Seat cx) : Ctr cx 142 (eqS .i64) := by
  refine ctr_of (fn := Tryd.f142) (l := [.tmp 4]) (envL []) [0, 1, 4, 5, 10, 12, 13, 14, 24] [] [] (env0 h.hP) ?_ (by rw [h.hP]; exact Tryd.func142) rfl (by kernel_rfl) rfl ?_ ?_
  · rw [h.hP]; exact ⟨_, Tryd.func142, by kernel_rfl, by kernel_rfl⟩
  · rintro xs ⟨a, b, rfl, h1, h2⟩; exact ⟨_, a, b, rfl, rfl⟩
  · rintro xs ⟨a, b, rfl, h1, h2⟩
    refine ⟨by rw [Tryd.ntmps142]; simp, ?_⟩
    simp only [go_sem, h.hP, List.cons_append, List.nil_append, Meets_e, Below_e, Prod.exists, exists_eq, exists_eq_left, exists_eq_left', exists_eq_right, exists_eq_right', exists_and_left, exists_and_right, Ob.arr.injEq, AV.own.injEq, AV.fv.injEq, eqS, rowsK_len, rowsKi_inj', Tryd.ntmps142, Nat.reduceEqDiff, reduceCtorEq, Nat.reduceMul, Nat.reduceAdd, Nat.reduceSub, Nat.reduceDiv, Nat.reduceMod, Nat.reduceLeDiff, Nat.reduceLT, Nat.reduceBNe, Nat.reduceBEq, reduceIte, Int.reduceLE, Int.reduceLT, Int.reduceToNat, Int.reduceNeg, Int.reduceAdd, Int.reduceSub, Int.reduceMul, Int.reduceEq]
    refine ⟨fun c => ?_, fun c => ?_⟩
    · rw [eq_comm, decide_eq_false_iff_not]
      intro e
      exact c (by rw [e])
    refine vc_loopS (Int) (fun (i : Int) => [(13, .i i)]) [] (fun (i : Int) => []) (fun (i : Int) => []) (fun (i : Int) => 0) (fun (i : Int) => 0 ≤ i ∧ i ≤ a.length ∧ ∀ j : Nat, (j : Int) < i → a.getD j 0 = b.getD j 0) (fun (i : Int) => (a.length - i).toNat) [] ?_ ?_
    · simp only [go_sem, h.hP, List.cons_append, List.nil_append, Meets_e, Below_e, Prod.exists, exists_eq, exists_eq_left, exists_eq_left', exists_eq_right, exists_eq_right', exists_and_left, exists_and_right, Ob.arr.injEq, AV.own.injEq, AV.fv.injEq, Tryd.ntmps142, Nat.reduceEqDiff, reduceCtorEq, Nat.reduceMul, Nat.reduceAdd, Nat.reduceSub, Nat.reduceDiv, Nat.reduceMod, Nat.reduceLeDiff, Nat.reduceLT, Nat.reduceBNe, Nat.reduceBEq, reduceIte, Int.reduceLE, Int.reduceLT, Int.reduceToNat, Int.reduceNeg, Int.reduceAdd, Int.reduceSub, Int.reduceMul, Int.reduceEq]
      exact ⟨Int.natCast_nonneg _, fun j hj => by omega⟩
    · rintro i ⟨j1, j2, j3⟩
      simp only [go_sem, h.hP, List.cons_append, List.nil_append, Meets_e, Below_e, Prod.exists, exists_eq, exists_eq_left, exists_eq_left', exists_eq_right, exists_eq_right', exists_and_left, exists_and_right, Ob.arr.injEq, AV.own.injEq, AV.fv.injEq, eqS, rowsK_len, rowsK_get, rowsKi_inj', Tryd.ntmps142, Nat.reduceEqDiff, reduceCtorEq, Nat.reduceMul, Nat.reduceAdd, Nat.reduceSub, Nat.reduceDiv, Nat.reduceMod, Nat.reduceLeDiff, Nat.reduceLT, Nat.reduceBNe, Nat.reduceBEq, reduceIte, Int.reduceLE, Int.reduceLT, Int.reduceToNat, Int.reduceNeg, Int.reduceAdd, Int.reduceSub, Int.reduceMul, Int.reduceEq]
      refine ⟨fun d => ⟨j1, d, j1, by omega, fun f => eq_no j1 f, fun f => ?_⟩, fun d => eq_all (by omega) fun j hj => j3 j (by omega)⟩
      rw [i64w (n := i + 1) (by omega) (by omega)]
      refine ⟨by omega, by omega, fun j hj => ?_, by omega⟩
      by_cases e : (j : Int) = i
      · have : i.toNat = j := by omega
        rw [← this]; exact f
      · exact j3 j (by omega)
set_option maxHeartbeats 4000000 in
theorem ralike_ctr {cx : Cx} (h : Seat cx) (hU : Utf8 cx) : Ctr cx 93 alikeS := by
  refine ctr_of (fn := Tryd.f93) (l := [.tmp 6]) (envL [(70, (ptsS .i64)), (22, farS), (142, (eqS .i64))]) [0, 1, 2, 3, 4, 5, 6, 7, 8, 11, 22, 25] [] [] (envL_cons (rpts_ctr h hU) (envL_cons (far_ctr h hU) (envL_cons (equalI_ctr h) (env0 h.hP)))) ?_ (by rw [h.hP]; exact Tryd.func93) rfl (by kernel_rfl) rfl ?_ ?_
  · rw [h.hP]; exact ⟨_, Tryd.func93, by kernel_rfl, by kernel_rfl⟩
  · rintro xs ⟨m, a, b, rfl, h1⟩; exact ⟨_, m, a, b, rfl, rfl⟩
  · rintro xs ⟨m, a, b, rfl, h1, ⟨a1, a2, a3⟩, b1, b2, b3⟩
    refine ⟨by rw [Tryd.ntmps93]; simp, ?_⟩
    simp only [go_sem, h.hP, List.cons_append, List.nil_append, Meets_e, Below_e, Prod.exists, exists_eq, exists_eq_left, exists_eq_left', exists_eq_right, exists_eq_right', exists_and_left, exists_and_right, Ob.arr.injEq, AV.own.injEq, AV.fv.injEq, alikeS_q, alikeS_p, alikeS_c, alikeS_f, ptsS, farS, eqS, rowsK_len, rowsK_take, rowsKi_inj', TMeasure.row, TValue.row, Tryd.ntmps93, Nat.reduceEqDiff, reduceCtorEq, Nat.reduceMul, Nat.reduceAdd, Nat.reduceSub, Nat.reduceDiv, Nat.reduceMod, Nat.reduceLeDiff, Nat.reduceLT, Nat.reduceBNe, Nat.reduceBEq, reduceIte, Int.reduceLE, Int.reduceLT, Int.reduceToNat, Int.reduceNeg, Int.reduceAdd, Int.reduceSub, Int.reduceMul, Int.reduceEq]
    unfold okS at a2 b2
    have hk : ∀ (l : List Int) (x : List D), x ∈ rowsK .i64 l → x.length = 1 := fun l x hx => by
      obtain ⟨c, _, rfl⟩ := List.mem_map.1 hx
      rfl
    have hp : (pts a.text).length ≤ a.text.size := ptsL_len _ _
    have hq : (pts b.text).length ≤ b.text.size := ptsL_len _ _
    have e1 : m.how = 1 → alikeF m a b = valEq a b := fun c => if_pos c
    have e2 : ¬ m.how = 1 → (a.kind ≠ 1 ∨ b.kind ≠ 1) → alikeF m a b = false := fun c d => (if_neg c).trans (if_pos d)
    have e3 : ¬ m.how = 1 → ¬ (a.kind ≠ 1 ∨ b.kind ≠ 1) → m.how = 2 → alikeF m a b = decide (ed (pts a.text) (pts b.text) ≤ m.far) := fun c d e => (if_neg c).trans ((if_neg d).trans (if_pos e))
    have e4 : ¬ m.how = 1 → ¬ (a.kind ≠ 1 ∨ b.kind ≠ 1) → ¬ m.how = 2 → alikeF m a b = (decide (m.far ≤ ((pts a.text).length : Int)) && decide (m.far ≤ ((pts b.text).length : Int)) && decide ((pts a.text).take m.far.toNat = (pts b.text).take m.far.toNat)) := fun c d e => (if_neg c).trans ((if_neg d).trans (if_neg e))
    have hf : ¬ m.how = 1 → 0 ≤ m.far := fun c => by
      have := h1
      unfold farOk at this
      rw [if_neg c] at this
      have := inB_iff.1 this
      omega
    generalize alikeF m a b = R at *
    refine ⟨fun c => (e1 c).symm, fun c => ⟨fun d => ⟨fun f => (e2 c (.inr f)).symm, fun f => ?_⟩, fun d => (e2 c (.inl d)).symm⟩⟩
    have nd : ¬ (a.kind ≠ 1 ∨ b.kind ≠ 1) := fun z => z.elim (fun y => y d) (fun y => y f)
    have hf0 := hf c
    refine ⟨fun g => ⟨by omega, by omega, (e3 c nd g).symm⟩, fun g => ⟨by omega, by omega, fun z1 => ⟨fun z2 => ⟨hf0, z1, hk _, hf0, z2, hk _, by rw [List.length_take]; omega, by rw [List.length_take]; omega, ?_⟩, fun z2 => ?_⟩, fun z1 => ?_⟩⟩
    · rw [e4 c nd g, decide_eq_true z1, decide_eq_true z2]; rfl
    · rw [e4 c nd g, decide_eq_false z2]; simp
    · rw [e4 c nd g, decide_eq_false z1]; rfl
end Go.Avc

/- Measures: what is wrong with them, by the program and by the reference. No condition. -/
set_option linter.unusedVariables false
set_option linter.unusedSimpArgs false
set_option maxRecDepth 100000
namespace Go.Avc
open Go Go.Proofs

def measS  : Spec where
  pre xs := ∃ (l : List TMeasure), xs = [.sl (TMeasure.rows l)] ∧ (okL TMeasure.ok l)
  post xs y := ∃ (l : List TMeasure), xs = [.sl (TMeasure.rows l)] ∧ y = .i (measF l)
  cost _ := 0
  fresh := true
theorem measS_c  (xs : List AV) : (measS).cost xs = 0 := nr rfl
theorem measS_f  : (measS).fresh = true := nr rfl
theorem measS_q  (l : List TMeasure) : (measS).pre [.sl (TMeasure.rows l)] = (okL TMeasure.ok l) := propext ⟨fun h => by
  have h' : ∃ (l' : List TMeasure), ([.sl (TMeasure.rows l)] : List AV) = [.sl (TMeasure.rows l')] ∧ (okL TMeasure.ok l') := h
  obtain ⟨l', e, h⟩ := h'
  simp only [List.cons.injEq, AV.dv.injEq, AV.fv.injEq, DV.d.injEq, DV.ag.injEq, D.int.injEq, D.str.injEq, D.bool.injEq, D.sl.injEq, true_and, and_true, intsDi_inj, rowsT_inj, rowsKi_inj, TMeasure.row_inj, TMeasure.rows_inj] at e
  obtain rfl := e
  exact h, fun h => ⟨l, rfl, h⟩⟩
theorem measS_p  (l : List TMeasure) : (measS).post [.sl (TMeasure.rows l)] = fun y => y = .i (measF l) := funext fun y => propext ⟨fun h => by
  have h' : ∃ (l' : List TMeasure), ([.sl (TMeasure.rows l)] : List AV) = [.sl (TMeasure.rows l')] ∧ y = .i (measF l') := h
  obtain ⟨l', e, h⟩ := h'
  simp only [List.cons.injEq, AV.dv.injEq, AV.fv.injEq, DV.d.injEq, DV.ag.injEq, D.int.injEq, D.str.injEq, D.bool.injEq, D.sl.injEq, true_and, and_true, intsDi_inj, rowsT_inj, rowsKi_inj, TMeasure.row_inj, TMeasure.rows_inj] at e
  obtain rfl := e
  exact h, fun h => ⟨l, rfl, h⟩⟩
theorem measE_eq (l : List TMeasure) (i : Nat) : measE l i = if keyB (l.getD i TMeasure.z).name = false then 5 else if inB (l.getD i TMeasure.z).how 1 3 = false then 4 else if farOk (l.getD i TMeasure.z) = false ∨ inB (l.getD i TMeasure.z).points (-1000) 1000 = false then 1 else 0 := rfl
theorem farOk_1 {m : TMeasure} (h : m.how = 1) : farOk m = inB m.far 0 0 := by
  unfold farOk inB
  rw [if_pos h]
  exact decide_eq_decide.2 (by omega)
theorem farOk_1' {m : TMeasure} (h : m.how = 1) : (farOk m = false) = (¬ m.far = 0) := by
  unfold farOk
  rw [if_pos h, decide_eq_false_iff_not]
theorem farOk_2 {m : TMeasure} (h : ¬ m.how = 1) : farOk m = inB m.far 1 20 := if_neg h
set_option maxHeartbeats 4000000 in
theorem CheckMeasures_ctr {cx : Cx} (h : Seat cx) : Ctr cx 48 measS := by
  refine ctr_of (fn := Tryd.f48) (l := [.tmp 2]) (envL [(91, (strB keyB)), (90, inS)]) [0, 2, 4, 5, 6, 7, 11, 15, 16, 17, 18, 23, 24, 29, 34] [] [] (envL_cons (IsKey_ctr h) (envL_cons (pwithin_ctr h) (env0 h.hP))) ?_ (by rw [h.hP]; exact Tryd.func48) rfl (by kernel_rfl) rfl ?_ ?_
  · rw [h.hP]; exact ⟨_, Tryd.func48, by kernel_rfl, by kernel_rfl⟩
  · rintro xs ⟨l, rfl, h1⟩; exact ⟨_, l, rfl, rfl⟩
  · rintro xs ⟨l, rfl, h1⟩
    refine ⟨by rw [Tryd.ntmps48]; simp, ?_⟩
    simp only [go_sem, h.hP, List.cons_append, List.nil_append, Meets_e, Below_e, Prod.exists, exists_eq, exists_eq_left, exists_eq_left', exists_eq_right, exists_eq_right', exists_and_left, exists_and_right, Ob.arr.injEq, AV.own.injEq, AV.fv.injEq, measS_q, measS_p, measS_c, measS_f, TMeasure.len, Tryd.ntmps48, Nat.reduceEqDiff, reduceCtorEq, Nat.reduceMul, Nat.reduceAdd, Nat.reduceSub, Nat.reduceDiv, Nat.reduceMod, Nat.reduceLeDiff, Nat.reduceLT, Nat.reduceBNe, Nat.reduceBEq, reduceIte, Int.reduceLE, Int.reduceLT, Int.reduceToNat, Int.reduceNeg, Int.reduceAdd, Int.reduceSub, Int.reduceMul, Int.reduceEq]
    refine ⟨fun c => (if_pos c).symm, fun c => ⟨fun d => ((if_neg c).trans (if_pos d)).symm, fun d => ?_⟩⟩
    have hc : measF l = firstI l.length (measE l) := (if_neg c).trans (if_neg d)
    rw [hc]
    refine vc_loopS (Int) (fun (i : Int) => [(17, .i i)]) [] (fun (i : Int) => []) (fun (i : Int) => []) (fun (i : Int) => 0) (fun (i : Int) => Rounds l.length (measE l) i) (fun (i : Int) => (l.length - i).toNat) [] ?_ ?_
    · simp only [go_sem, h.hP, List.cons_append, List.nil_append, Meets_e, Below_e, Prod.exists, exists_eq, exists_eq_left, exists_eq_left', exists_eq_right, exists_eq_right', exists_and_left, exists_and_right, Ob.arr.injEq, AV.own.injEq, AV.fv.injEq, Tryd.ntmps48, Nat.reduceEqDiff, reduceCtorEq, Nat.reduceMul, Nat.reduceAdd, Nat.reduceSub, Nat.reduceDiv, Nat.reduceMod, Nat.reduceLeDiff, Nat.reduceLT, Nat.reduceBNe, Nat.reduceBEq, reduceIte, Int.reduceLE, Int.reduceLT, Int.reduceToNat, Int.reduceNeg, Int.reduceAdd, Int.reduceSub, Int.reduceMul, Int.reduceEq]
      exact Rounds.start
    · rintro i hr
      obtain ⟨hi, hS, hM, hE, hN⟩ := hr.use (by have := h1.1; omega)
      have ho : (l.getD i.toNat TMeasure.z).ok := okL_get h1 TMeasure.z_ok _
      simp only [go_sem, h.hP, List.cons_append, List.nil_append, Meets_e, Below_e, Prod.exists, exists_eq, exists_eq_left, exists_eq_left', exists_eq_right, exists_eq_right', exists_and_left, exists_and_right, Ob.arr.injEq, AV.own.injEq, AV.fv.injEq, measS_q, measS_p, measS_c, measS_f, strB_q, strB_p, strB_c, strB_f, inS_q, inS_p, inS_c, inS_f, TMeasure.len, TMeasure.get, Tryd.ntmps48, Nat.reduceEqDiff, reduceCtorEq, Nat.reduceMul, Nat.reduceAdd, Nat.reduceSub, Nat.reduceDiv, Nat.reduceMod, Nat.reduceLeDiff, Nat.reduceLT, Nat.reduceBNe, Nat.reduceBEq, reduceIte, Int.reduceLE, Int.reduceLT, Int.reduceToNat, Int.reduceNeg, Int.reduceAdd, Int.reduceSub, Int.reduceMul, Int.reduceEq]
      have e0 := measE_eq l i.toNat
      generalize l.getD i.toNat TMeasure.z = x at *
      obtain ⟨p1, p2, p3, p4⟩ := ho
      unfold okS at p1
      have f1 := farOk_1 (m := x)
      have f2 := farOk_2 (m := x)
      generalize farOk x = fo at *
      refine ⟨fun q => ?_, fun q => (hN q).symm⟩
      have A5 : keyB x.name = false → 5 = firstI l.length (measE l) := fun k => (hE 5 q (e0.trans (if_pos k)) (by decide)).symm
      have A4 : keyB x.name = true → inB x.how 1 3 = false → 4 = firstI l.length (measE l) := fun k c => (hE 4 q (e0.trans ((if_neg (ne_ft k)).trans (if_pos c))) (by decide)).symm
      have A1 : keyB x.name = true → inB x.how 1 3 = true → (fo = false ∨ inB x.points (-1000) 1000 = false) → 1 = firstI l.length (measE l) := fun k c z => (hE 1 q (e0.trans ((if_neg (ne_ft k)).trans ((if_neg (ne_ft c)).trans (if_pos z)))) (by decide)).symm
      have A0 : keyB x.name = true → inB x.how 1 3 = true → fo = true → inB x.points (-1000) 1000 = true → Rounds l.length (measE l) (IntKind.i64.wrap (i + 1)) ∧ ((l.length : Int) - IntKind.i64.wrap (i + 1)).toNat < ((l.length : Int) - i).toNat := fun k c f z => ⟨hS q (e0.trans ((if_neg (ne_ft k)).trans ((if_neg (ne_ft c)).trans (if_neg (fun y => y.elim (ne_ft f) (ne_ft z)))))), hM q⟩
      exact ⟨hi, q, fun w => ⟨by omega, A5, fun k => ⟨A4 k, fun c => ⟨fun f => ⟨fun p => A1 k c (.inr p), fun p => A0 k c ((f1 w).trans f) p⟩, fun f => A1 k c (.inl ((f1 w).trans f))⟩⟩⟩, fun w => ⟨by omega, A5, fun k => ⟨A4 k, fun c => ⟨fun f => ⟨fun p => A1 k c (.inr p), fun p => A0 k c ((f2 w).trans f) p⟩, fun f => A1 k c (.inl ((f2 w).trans f))⟩⟩⟩⟩
set_option maxHeartbeats 4000000 in
theorem MeasuresFault_ctr {cx : Cx} (h : Seat cx) : Ctr cx 47 measS := by
  refine ctr_of (fn := Tryd.f47) (l := [.tmp 2]) (envL [(81, (strB keyB)), (80, inS)]) [0, 2, 4, 7, 10, 11, 12, 13, 14, 17, 22, 27] [] [] (envL_cons (Key_ctr h) (envL_cons (in_ctr h) (env0 h.hP))) ?_ (by rw [h.hP]; exact Tryd.func47) rfl (by kernel_rfl) rfl ?_ ?_
  · rw [h.hP]; exact ⟨_, Tryd.func47, by kernel_rfl, by kernel_rfl⟩
  · rintro xs ⟨l, rfl, h1⟩; exact ⟨_, l, rfl, rfl⟩
  · rintro xs ⟨l, rfl, h1⟩
    refine ⟨by rw [Tryd.ntmps47]; simp, ?_⟩
    simp only [go_sem, h.hP, List.cons_append, List.nil_append, Meets_e, Below_e, Prod.exists, exists_eq, exists_eq_left, exists_eq_left', exists_eq_right, exists_eq_right', exists_and_left, exists_and_right, Ob.arr.injEq, AV.own.injEq, AV.fv.injEq, measS_q, measS_p, measS_c, measS_f, TMeasure.len, Tryd.ntmps47, Nat.reduceEqDiff, reduceCtorEq, Nat.reduceMul, Nat.reduceAdd, Nat.reduceSub, Nat.reduceDiv, Nat.reduceMod, Nat.reduceLeDiff, Nat.reduceLT, Nat.reduceBNe, Nat.reduceBEq, reduceIte, Int.reduceLE, Int.reduceLT, Int.reduceToNat, Int.reduceNeg, Int.reduceAdd, Int.reduceSub, Int.reduceMul, Int.reduceEq]
    refine ⟨fun c => (if_pos c).symm, fun c => ⟨fun d => ((if_neg c).trans (if_pos d)).symm, fun d => ?_⟩⟩
    have hc : measF l = firstI l.length (measE l) := (if_neg c).trans (if_neg d)
    rw [hc]
    refine vc_loopS (Int) (fun (i : Int) => [(13, .i i)]) [] (fun (i : Int) => []) (fun (i : Int) => []) (fun (i : Int) => 0) (fun (i : Int) => Rounds l.length (measE l) i) (fun (i : Int) => (l.length - i).toNat) [] ?_ ?_
    · simp only [go_sem, h.hP, List.cons_append, List.nil_append, Meets_e, Below_e, Prod.exists, exists_eq, exists_eq_left, exists_eq_left', exists_eq_right, exists_eq_right', exists_and_left, exists_and_right, Ob.arr.injEq, AV.own.injEq, AV.fv.injEq, Tryd.ntmps47, Nat.reduceEqDiff, reduceCtorEq, Nat.reduceMul, Nat.reduceAdd, Nat.reduceSub, Nat.reduceDiv, Nat.reduceMod, Nat.reduceLeDiff, Nat.reduceLT, Nat.reduceBNe, Nat.reduceBEq, reduceIte, Int.reduceLE, Int.reduceLT, Int.reduceToNat, Int.reduceNeg, Int.reduceAdd, Int.reduceSub, Int.reduceMul, Int.reduceEq]
      exact Rounds.start
    · rintro i hr
      obtain ⟨hi, hS, hM, hE, hN⟩ := hr.use (by have := h1.1; omega)
      have ho : (l.getD i.toNat TMeasure.z).ok := okL_get h1 TMeasure.z_ok _
      simp only [go_sem, h.hP, List.cons_append, List.nil_append, Meets_e, Below_e, Prod.exists, exists_eq, exists_eq_left, exists_eq_left', exists_eq_right, exists_eq_right', exists_and_left, exists_and_right, Ob.arr.injEq, AV.own.injEq, AV.fv.injEq, measS_q, measS_p, measS_c, measS_f, strB_q, strB_p, strB_c, strB_f, inS_q, inS_p, inS_c, inS_f, TMeasure.len, TMeasure.get, Tryd.ntmps47, Nat.reduceEqDiff, reduceCtorEq, Nat.reduceMul, Nat.reduceAdd, Nat.reduceSub, Nat.reduceDiv, Nat.reduceMod, Nat.reduceLeDiff, Nat.reduceLT, Nat.reduceBNe, Nat.reduceBEq, reduceIte, Int.reduceLE, Int.reduceLT, Int.reduceToNat, Int.reduceNeg, Int.reduceAdd, Int.reduceSub, Int.reduceMul, Int.reduceEq]
      have e0 := measE_eq l i.toNat
      generalize l.getD i.toNat TMeasure.z = x at *
      obtain ⟨p1, p2, p3, p4⟩ := ho
      unfold okS at p1
      have f1 := farOk_1' (m := x)
      have f2 := farOk_2 (m := x)
      generalize farOk x = fo at *
      refine ⟨fun q => ?_, fun q => (hN q).symm⟩
      have A5 : keyB x.name = false → 5 = firstI l.length (measE l) := fun k => (hE 5 q (e0.trans (if_pos k)) (by decide)).symm
      have A4 : keyB x.name = true → inB x.how 1 3 = false → 4 = firstI l.length (measE l) := fun k c => (hE 4 q (e0.trans ((if_neg (ne_ft k)).trans (if_pos c))) (by decide)).symm
      have A1 : keyB x.name = true → inB x.how 1 3 = true → (fo = false ∨ inB x.points (-1000) 1000 = false) → 1 = firstI l.length (measE l) := fun k c z => (hE 1 q (e0.trans ((if_neg (ne_ft k)).trans ((if_neg (ne_ft c)).trans (if_pos z)))) (by decide)).symm
      have A0 : keyB x.name = true → inB x.how 1 3 = true → fo = true → inB x.points (-1000) 1000 = true → Rounds l.length (measE l) (IntKind.i64.wrap (i + 1)) ∧ ((l.length : Int) - IntKind.i64.wrap (i + 1)).toNat < ((l.length : Int) - i).toNat := fun k c f z => ⟨hS q (e0.trans ((if_neg (ne_ft k)).trans ((if_neg (ne_ft c)).trans (if_neg (fun y => y.elim (ne_ft f) (ne_ft z)))))), hM q⟩
      have ft : x.how = 1 → x.far = 0 → fo = true := fun w f => by
        cases e : fo with
        | true => rfl
        | false => exact absurd f ((f1 w).mp e)
      exact ⟨hi, q, by omega, A5, fun k => ⟨A4 k, fun c => ⟨fun w => ⟨fun f => A1 k c (.inl ((f1 w).mpr f)), fun f => ⟨fun w' => absurd w w', fun _ => ⟨fun p => A1 k c (.inr p), fun p => A0 k c (ft w f) p⟩⟩⟩, fun w => ⟨fun _ => ⟨fun f => A1 k c (.inl ((f2 w).trans f)), fun f => ⟨fun p => A1 k c (.inr p), fun p => A0 k c ((f2 w).trans f) p⟩⟩, fun w' => absurd w' w⟩⟩⟩⟩
def wrongS  : Spec where
  pre xs := ∃ (l : List Int), xs = [.sl (intsD l)] ∧ (l.length ≤ 1048576)
  post xs y := ∃ (l : List Int), xs = [.sl (intsD l)] ∧ y = .i (firstI l.length fun i => l.getD i 0)
  cost _ := 0
  fresh := true
theorem wrongS_c  (xs : List AV) : (wrongS).cost xs = 0 := nr rfl
theorem wrongS_f  : (wrongS).fresh = true := nr rfl
theorem wrongS_q  (l : List Int) : (wrongS).pre [.sl (intsD l)] = (l.length ≤ 1048576) := propext ⟨fun h => by
  have h' : ∃ (l' : List Int), ([.sl (intsD l)] : List AV) = [.sl (intsD l')] ∧ (l'.length ≤ 1048576) := h
  obtain ⟨l', e, h⟩ := h'
  simp only [List.cons.injEq, AV.dv.injEq, AV.fv.injEq, DV.d.injEq, DV.ag.injEq, D.int.injEq, D.str.injEq, D.bool.injEq, D.sl.injEq, true_and, and_true, intsDi_inj, rowsT_inj, rowsKi_inj] at e
  obtain rfl := e
  exact h, fun h => ⟨l, rfl, h⟩⟩
theorem wrongS_p  (l : List Int) : (wrongS).post [.sl (intsD l)] = fun y => y = .i (firstI l.length fun i => l.getD i 0) := funext fun y => propext ⟨fun h => by
  have h' : ∃ (l' : List Int), ([.sl (intsD l)] : List AV) = [.sl (intsD l')] ∧ y = .i (firstI l'.length fun i => l'.getD i 0) := h
  obtain ⟨l', e, h⟩ := h'
  simp only [List.cons.injEq, AV.dv.injEq, AV.fv.injEq, DV.d.injEq, DV.ag.injEq, D.int.injEq, D.str.injEq, D.bool.injEq, D.sl.injEq, true_and, and_true, intsDi_inj, rowsT_inj, rowsKi_inj] at e
  obtain rfl := e
  exact h, fun h => ⟨l, rfl, h⟩⟩
theorem wrongOr_ctr {cx : Cx} (h : Seat cx) : Ctr cx 36 wrongS := by
  refine ctr_of (fn := Tryd.f36) (l := [.tmp 2]) (envL []) [0, 2, 4, 5, 6, 7, 8, 12] [] [] (env0 h.hP) ?_ (by rw [h.hP]; exact Tryd.func36) rfl (by kernel_rfl) rfl ?_ ?_
  · rw [h.hP]; exact ⟨_, Tryd.func36, by kernel_rfl, by kernel_rfl⟩
  · rintro xs ⟨l, rfl, h1⟩; exact ⟨_, l, rfl, rfl⟩
  · rintro xs ⟨l, rfl, h1⟩
    refine ⟨by rw [Tryd.ntmps36]; simp, ?_⟩
    simp only [go_sem, h.hP, List.cons_append, List.nil_append, Meets_e, Below_e, Prod.exists, exists_eq, exists_eq_left, exists_eq_left', exists_eq_right, exists_eq_right', exists_and_left, exists_and_right, Ob.arr.injEq, AV.own.injEq, AV.fv.injEq, wrongS_q, wrongS_p, wrongS_c, wrongS_f, intsD_len, Tryd.ntmps36, Nat.reduceEqDiff, reduceCtorEq, Nat.reduceMul, Nat.reduceAdd, Nat.reduceSub, Nat.reduceDiv, Nat.reduceMod, Nat.reduceLeDiff, Nat.reduceLT, Nat.reduceBNe, Nat.reduceBEq, reduceIte, Int.reduceLE, Int.reduceLT, Int.reduceToNat, Int.reduceNeg, Int.reduceAdd, Int.reduceSub, Int.reduceMul, Int.reduceEq]
    refine vc_loopS (Int) (fun (i : Int) => [(7, .i i)]) [] (fun (i : Int) => []) (fun (i : Int) => []) (fun (i : Int) => 0) (fun (i : Int) => Rounds l.length (fun i => l.getD i 0) i) (fun (i : Int) => (l.length - i).toNat) [] ?_ ?_
    · simp only [go_sem, h.hP, List.cons_append, List.nil_append, Meets_e, Below_e, Prod.exists, exists_eq, exists_eq_left, exists_eq_left', exists_eq_right, exists_eq_right', exists_and_left, exists_and_right, Ob.arr.injEq, AV.own.injEq, AV.fv.injEq, Tryd.ntmps36, Nat.reduceEqDiff, reduceCtorEq, Nat.reduceMul, Nat.reduceAdd, Nat.reduceSub, Nat.reduceDiv, Nat.reduceMod, Nat.reduceLeDiff, Nat.reduceLT, Nat.reduceBNe, Nat.reduceBEq, reduceIte, Int.reduceLE, Int.reduceLT, Int.reduceToNat, Int.reduceNeg, Int.reduceAdd, Int.reduceSub, Int.reduceMul, Int.reduceEq]
      exact Rounds.start
    · rintro i hr
      obtain ⟨hi, hS, hM, hE, hN⟩ := hr.use (by omega)
      simp only [go_sem, h.hP, List.cons_append, List.nil_append, Meets_e, Below_e, Prod.exists, exists_eq, exists_eq_left, exists_eq_left', exists_eq_right, exists_eq_right', exists_and_left, exists_and_right, Ob.arr.injEq, AV.own.injEq, AV.fv.injEq, wrongS_q, wrongS_p, wrongS_c, wrongS_f, intsD_len, intsD_get, Tryd.ntmps36, Nat.reduceEqDiff, reduceCtorEq, Nat.reduceMul, Nat.reduceAdd, Nat.reduceSub, Nat.reduceDiv, Nat.reduceMod, Nat.reduceLeDiff, Nat.reduceLT, Nat.reduceBNe, Nat.reduceBEq, reduceIte, Int.reduceLE, Int.reduceLT, Int.reduceToNat, Int.reduceNeg, Int.reduceAdd, Int.reduceSub, Int.reduceMul, Int.reduceEq]
      refine ⟨fun c => ⟨hi, c, fun d => (hE _ c rfl d).symm, fun d => ⟨hS c d, hM c⟩⟩, fun c => (hN c).symm⟩
theorem wrong_three (a b c : Int) : (firstI 3 fun i => [a, b, c].getD i 0) = orE a (orE b c) := by
  unfold orE
  by_cases h : a ≠ 0
  · rw [if_pos h]
    exact firstI_at (n := 3) (f := fun i => [a, b, c].getD i 0) (i := 0) (by decide) (by decide) (fun j hj => by omega) h
  · rw [if_neg h]
    have h0 : ∀ j : Nat, (j : Int) < 1 → [a, b, c].getD j 0 = 0 := fun j hj => by
      obtain rfl : j = 0 := by omega
      exact Decidable.not_not.1 h
    by_cases h2 : b ≠ 0
    · rw [if_pos h2]
      exact firstI_at (n := 3) (f := fun i => [a, b, c].getD i 0) (i := 1) (by decide) (by decide) h0 h2
    · rw [if_neg h2]
      have h1 : ∀ j : Nat, (j : Int) < 2 → [a, b, c].getD j 0 = 0 := fun j hj => by
        by_cases hj1 : (j : Int) < 1
        · exact h0 j hj1
        · obtain rfl : j = 1 := by omega
          exact Decidable.not_not.1 h2
      by_cases h3 : c ≠ 0
      · exact firstI_at (n := 3) (f := fun i => [a, b, c].getD i 0) (i := 2) (by decide) (by decide) h1 h3
      · rw [firstI_no (n := 3) (f := fun i => [a, b, c].getD i 0) (i := 3) (fun j hj => ?_) (by decide), Decidable.not_not.1 h3]
        by_cases hj1 : (j : Int) < 2
        · exact h1 j hj1
        · obtain rfl : j = 2 := by omega
          exact Decidable.not_not.1 h3
end Go.Avc

/- The generator of measures: its contract. No condition. -/
set_option linter.unusedVariables false
set_option linter.unusedSimpArgs false
set_option maxRecDepth 100000
namespace Go.Avc
open Go Go.Proofs

def measG : Spec where
  pre xs := xs = [.st]
  post xs y := ∃ l : List TMeasure, okL TMeasure.ok l ∧ y = .sl (TMeasure.rows l)
  cost _ := 60
  fresh := false
theorem TMeasure.rset4 (l : List TMeasure) (n : Nat) (a : ByteArray) (b c d : Int) : (TMeasure.rows l).set n [.str a, .int .i64 b, .int .i64 c, .int .i64 d] = TMeasure.rows (l.set n ⟨a, b, c, d⟩) := TMeasure.rset l n ⟨a, b, c, d⟩
theorem namesD_drop (n : Nat) : (namesD.drop n).headD (.str ⟨#[]⟩) = .str (namesL.getD n ⟨#[]⟩) := by
  unfold namesD
  rw [← List.map_drop]
  cases e : namesL.drop n with
  | nil =>
    have : namesL.getD n ⟨#[]⟩ = ⟨#[]⟩ := by
      rw [List.getD_eq_getElem?_getD, List.getElem?_eq_none (List.drop_eq_nil_iff.1 e)]
      rfl
    rw [this]
    rfl
  | cons x r =>
    have h0 := congrArg (fun z : List ByteArray => z[0]?) e
    simp only [List.getElem?_drop, Nat.add_zero, List.getElem?_cons_zero] at h0
    rw [List.getD_eq_getElem?_getD, h0]
    rfl
set_option maxHeartbeats 16000000 in
theorem Measures_ctr {cx : Cx} (h : Seat cx) (hN : cx.glob 0 = some namesD) : Ctr cx 45 measG := by
  refine ctr_of (fn := Tryd.f45) (l := [.tmp 2]) (envL [(25, nextS), (24, rangeS), (14, pickS), (19, flipS), (71, oneS), (72, oddS)]) [0, 2, 3, 4, 5, 8, 9, 10, 23, 34, 38, 39, 47, 59] [9] [(4, [10], [])] (envL_cons (next_ctr cx h.hP h.hS) (envL_cons (range_ctr cx h.hP h.hS) (envL_cons (pick_ctr cx h.hP h.hS) (envL_cons (flip_ctr cx h.hP h.hS) (envL_cons (one_ctr h) (envL_cons (odd_ctr h) (env0 h.hP))))))) ?_ (by rw [h.hP]; exact Tryd.func45) rfl (by kernel_rfl) rfl ?_ ?_
  · rw [h.hP]; exact ⟨_, Tryd.func45, by kernel_rfl, by kernel_rfl⟩
  · rintro xs rfl; exact ⟨_, [], okL_z _, rfl⟩
  · rintro xs rfl
    refine ⟨by rw [Tryd.ntmps45]; simp, ?_⟩
    simp only [go_sem, h.hP, List.cons_append, List.nil_append, Meets_e, Below_e, Prod.exists, exists_eq, exists_eq_left, exists_eq_left', exists_eq_right, exists_eq_right', exists_and_left, exists_and_right, Ob.arr.injEq, AV.own.injEq, AV.fv.injEq, measG, Tryd.ntmps45, Nat.reduceEqDiff, reduceCtorEq, Nat.reduceMul, Nat.reduceAdd, Nat.reduceSub, Nat.reduceDiv, Nat.reduceMod, Nat.reduceLeDiff, Nat.reduceLT, Nat.reduceBNe, Nat.reduceBEq, reduceIte, Int.reduceLE, Int.reduceLT, Int.reduceToNat, Int.reduceNeg, Int.reduceAdd, Int.reduceSub, Int.reduceMul, Int.reduceEq]
    refine vc_cutT (List TMeasure) (fun (l : List TMeasure) => [(3, .own 3), (4, .un), (5, .un), (8, .un), (9, .un), (10, .un), (23, .un)]) [] (fun (l : List TMeasure) => []) (fun (l : List TMeasure) => [(3, .arr 134 4 (TMeasure.rows l))]) (fun (l : List TMeasure) => 31) (fun (l : List TMeasure) => 1 ≤ l.length ∧ l.length ≤ 3 ∧ ∀ c ∈ l, c.ok) [(3, 134, 4)] ?_ ?_ ?_
    · rfl
    · simp only [go_sem, h.hP, List.cons_append, List.nil_append, Meets_e, Below_e, Prod.exists, exists_eq, exists_eq_left, exists_eq_left', exists_eq_right, exists_eq_right', exists_and_left, exists_and_right, Ob.arr.injEq, AV.own.injEq, AV.fv.injEq, measG, pickS_q, pickS_p, pickS_c, pickS_f, ints1, intsc, Tryd.ntmps45, Nat.reduceEqDiff, reduceCtorEq, Nat.reduceMul, Nat.reduceAdd, Nat.reduceSub, Nat.reduceDiv, Nat.reduceMod, Nat.reduceLeDiff, Nat.reduceLT, Nat.reduceBNe, Nat.reduceBEq, reduceIte, Int.reduceLE, Int.reduceLT, Int.reduceToNat, Int.reduceNeg, Int.reduceAdd, Int.reduceSub, Int.reduceMul, Int.reduceEq]
      intro n hn
      have hn3 : 1 ≤ n ∧ n ≤ 3 := by
        unfold isIn at hn
        simp only [List.mem_cons, List.not_mem_nil, or_false] at hn
        omega
      refine vc_loopS (Int × List TMeasure) (fun (x : Int × List TMeasure) => match x with | (i, l) => [(3, .own 3), (9, .i i)]) [] (fun (x : Int × List TMeasure) => match x with | (i, l) => []) (fun (x : Int × List TMeasure) => match x with | (i, l) => [(3, .arr 134 4 (TMeasure.rows l))]) (fun (x : Int × List TMeasure) => match x with | (i, l) => 1 + 10 * i.toNat) (fun (x : Int × List TMeasure) => match x with | (i, l) => 0 ≤ i ∧ i ≤ n ∧ (l.length : Int) = i ∧ ∀ c ∈ l, c.ok) (fun (x : Int × List TMeasure) => match x with | (i, l) => (n - i).toNat) [(3, 134, 4)] ?_ ?_
      · simp only [go_sem, h.hP, List.cons_append, List.nil_append, Meets_e, Below_e, Prod.exists, exists_eq, exists_eq_left, exists_eq_left', exists_eq_right, exists_eq_right', exists_and_left, exists_and_right, Ob.arr.injEq, AV.own.injEq, AV.fv.injEq, TMeasure.nil2, Tryd.ntmps45, Nat.reduceEqDiff, reduceCtorEq, Nat.reduceMul, Nat.reduceAdd, Nat.reduceSub, Nat.reduceDiv, Nat.reduceMod, Nat.reduceLeDiff, Nat.reduceLT, Nat.reduceBNe, Nat.reduceBEq, reduceIte, Int.reduceLE, Int.reduceLT, Int.reduceToNat, Int.reduceNeg, Int.reduceAdd, Int.reduceSub, Int.reduceMul, Int.reduceEq]
        exact ⟨by omega, rfl⟩
      · rintro ⟨i, l⟩ ⟨j1, j2, j3, j4⟩
        have hw : i < n → IntKind.i64.wrap (i + 1) = i + 1 := fun _ => i64w (by omega) (by omega)
        simp only [go_sem, h.hP, List.cons_append, List.nil_append, Meets_e, Below_e, Prod.exists, exists_eq, exists_eq_left, exists_eq_left', exists_eq_right, exists_eq_right', exists_and_left, exists_and_right, Ob.arr.injEq, AV.own.injEq, AV.fv.injEq, measG, nextS_q, nextS_p, nextS_c, nextS_f, rangeS_q, rangeS_p, rangeS_c, rangeS_f, pickS_q, pickS_p, pickS_c, pickS_f, hN, ints1, intsc, TMeasure.fold1, TMeasure.app', TMeasure.rows_inj, TMeasure.zlT, TMeasure.len, List.length_append, List.length_singleton, namesD_drop, namesD_get, Tryd.ntmps45, Nat.reduceEqDiff, reduceCtorEq, Nat.reduceMul, Nat.reduceAdd, Nat.reduceSub, Nat.reduceDiv, Nat.reduceMod, Nat.reduceLeDiff, Nat.reduceLT, Nat.reduceBNe, Nat.reduceBEq, reduceIte, Int.reduceLE, Int.reduceLT, Int.reduceToNat, Int.reduceNeg, Int.reduceAdd, Int.reduceSub, Int.reduceMul, Int.reduceEq]
        have hne : ∀ a : Int, 0 ≤ a → a < 6 → ¬ List.drop (a.toNat * 1) namesD = [] := fun a a0 a6 e => by
          have := List.drop_eq_nil_iff.1 e
          rw [namesD_len] at this
          omega
        have fin : ∀ {k p q : Int} {a : Int}, okI k → okI p → okI q → ∀ c ∈ l ++ [(⟨namesL.getD (a.toNat * 1) ⟨#[]⟩, k, p, q⟩ : TMeasure)], c.ok := fun h1 h2 h3 => okL_app j4 ⟨names_ok _, h1, h2, h3⟩
        have q1 : i < n → 1 + 10 * i.toNat ≤ 22 := fun _ => by omega
        refine ⟨by omega, fun c => ?_, fun c => ⟨by omega, by omega, by omega, j4⟩⟩
        have c1 := q1 c
        rw [hw c]
        ((repeat' (first | with_reducible apply And.intro | with_reducible intro)) <;> try first | omega | exact hne _ (by assumption) (by assumption) | (refine fin ?_ ?_ ?_ _ (by assumption) <;> first | exact isIn_ok (by assumption) (by decide) | exact ⟨by omega, by omega⟩ | decide))
    · rintro l ⟨l1, l2, l3⟩
      simp only [go_sem, h.hP, List.cons_append, List.nil_append, Meets_e, Below_e, Prod.exists, exists_eq, exists_eq_left, exists_eq_left', exists_eq_right, exists_eq_right', exists_and_left, exists_and_right, Ob.arr.injEq, AV.own.injEq, AV.fv.injEq, measG, flipS_q, flipS_p, flipS_c, flipS_f, nextS_q, nextS_p, nextS_c, nextS_f, oneS_q, oneS_p, oneS_c, oneS_f, oddS_q, oddS_p, oddS_c, oddS_f, strs1, strsc, TMeasure.len, TMeasure.get, TMeasure.rset4, Tryd.ntmps45, Nat.reduceEqDiff, reduceCtorEq, Nat.reduceMul, Nat.reduceAdd, Nat.reduceSub, Nat.reduceDiv, Nat.reduceMod, Nat.reduceLeDiff, Nat.reduceLT, Nat.reduceBNe, Nat.reduceBEq, reduceIte, Int.reduceLE, Int.reduceLT, Int.reduceToNat, Int.reduceNeg, Int.reduceAdd, Int.reduceSub, Int.reduceMul, Int.reduceEq]
      have hP : ∀ (q : List TMeasure) (x : TMeasure), (q.length ≤ 3 ∧ ∀ c ∈ q, c.ok) → x.ok → ((q.set 0 x).length ≤ 3 ∧ ∀ c ∈ q.set 0 x, c.ok) := fun q x hq hx => ⟨by rw [List.length_set]; exact hq.1, fun y hy => by
        rcases List.mem_or_eq_of_mem_set hy with z | z
        · exact hq.2 y z
        · rw [z]; exact hx⟩
      have hG : ∀ q : List TMeasure, (q.length ≤ 3 ∧ ∀ c ∈ q, c.ok) → (q.getD 0 TMeasure.z).ok := fun q hq => okL_get (d := TMeasure.z) ⟨by omega, hq.2⟩ TMeasure.z_ok 0
      have hL : l.length ≤ 3 ∧ ∀ c ∈ l, c.ok := ⟨l2, l3⟩
      have fin : ∀ q : List TMeasure, (q.length ≤ 3 ∧ ∀ c ∈ q, c.ok) → ∃ l1 : List TMeasure, okL TMeasure.ok l1 ∧ TMeasure.rows q = TMeasure.rows l1 := fun q hq => ⟨q, ⟨by omega, hq.2⟩, rfl⟩
      obtain ⟨g1, g2, g3, g4⟩ := hG l hL
      refine fun b => ⟨fun _ => ⟨by omega, fun k k0 k4 => ⟨fun _ s hs => ⟨by omega, fin _ (hP _ _ hL ⟨okS_of (isOf_ok hs (by decide)), g2, g3, g4⟩)⟩, fun _ => ⟨fun _ x x0 x1 y y0 y1 => ⟨by omega, by rw [List.length_set]; omega, ?_⟩, fun _ => ⟨fun _ x x0 x1 => ⟨by omega, fin _ (hP _ _ hL ⟨g1, g2, g3, odd_ok x0 x1⟩)⟩, fun _ => ?_⟩⟩⟩⟩, fun _ => ?_⟩
      · have h1 := hP l ⟨(l.getD 0 TMeasure.z).name, x, (l.getD 0 TMeasure.z).far, (l.getD 0 TMeasure.z).points⟩ hL ⟨g1, odd_ok x0 x1, g3, g4⟩
        obtain ⟨f1, f2, f3, f4⟩ := hG _ h1
        exact fin _ (hP _ _ h1 ⟨f1, f2, odd_ok y0 y1, f4⟩)
      · exact fin [] ⟨by decide, fun c hc => by cases hc⟩
      · exact fin l hL
end Go.Avc

/- A record's field, found by halving; the points of two records: the program. No condition. -/
set_option linter.unusedVariables false
set_option linter.unusedSimpArgs false
set_option maxRecDepth 100000
namespace Go.Avc
open Go Go.Proofs

def find1S  : Spec where
  pre xs := ∃ (f : TField) (n : ByteArray), xs = [.dv (.ag f.row), .str n]
  post xs y := ∃ (f : TField) (n : ByteArray), xs = [.dv (.ag f.row), .str n] ∧ y = .i (cmpT f.name n)
  cost _ := 0
  fresh := true
theorem find1S_c  (xs : List AV) : (find1S).cost xs = 0 := nr rfl
theorem find1S_f  : (find1S).fresh = true := nr rfl
theorem find1S_q  (f : TField) (n : ByteArray) : (find1S).pre [.dv (.ag [.str f.name, .int .i64 f.value.kind, .str f.value.text, .int .i64 f.value.number]), .str n] = (True) := propext ⟨fun h => by
  have h' : ∃ (f' : TField) (n' : ByteArray), ([.dv (.ag f.row), .str n] : List AV) = [.dv (.ag f'.row), .str n'] := h
  obtain ⟨f', n', e⟩ := h'
  simp only [List.cons.injEq, AV.dv.injEq, AV.fv.injEq, DV.d.injEq, DV.ag.injEq, D.int.injEq, D.str.injEq, D.bool.injEq, D.sl.injEq, true_and, and_true, intsDi_inj, rowsT_inj, rowsKi_inj, TField.row_inj, TField.rows_inj] at e
  obtain ⟨rfl, rfl⟩ := e
  exact trivial, fun h => ⟨f, n, rfl⟩⟩
theorem find1S_p  (f : TField) (n : ByteArray) : (find1S).post [.dv (.ag [.str f.name, .int .i64 f.value.kind, .str f.value.text, .int .i64 f.value.number]), .str n] = fun y => y = .i (cmpT f.name n) := funext fun y => propext ⟨fun h => by
  have h' : ∃ (f' : TField) (n' : ByteArray), ([.dv (.ag f.row), .str n] : List AV) = [.dv (.ag f'.row), .str n'] ∧ y = .i (cmpT f'.name n') := h
  obtain ⟨f', n', e, h⟩ := h'
  simp only [List.cons.injEq, AV.dv.injEq, AV.fv.injEq, DV.d.injEq, DV.ag.injEq, D.int.injEq, D.str.injEq, D.bool.injEq, D.sl.injEq, true_and, and_true, intsDi_inj, rowsT_inj, rowsKi_inj, TField.row_inj, TField.rows_inj] at e
  obtain ⟨rfl, rfl⟩ := e
  exact h, fun h => ⟨f, n, rfl, h⟩⟩
theorem find1_ctr {cx : Cx} (h : Seat cx) : Ctr cx 178 find1S := by
  refine ctr_of (fn := Tryd.f178) (l := [.tmp 4]) (envL [(108, cmpTSp)]) [0, 1, 2, 4] [] [] (envL_cons (compareT_ctr h) (env0 h.hP)) ?_ (by rw [h.hP]; exact Tryd.func178) rfl (by kernel_rfl) rfl ?_ ?_
  · rw [h.hP]; exact ⟨_, Tryd.func178, by kernel_rfl, by kernel_rfl⟩
  · rintro xs ⟨f, n, rfl⟩; exact ⟨_, f, n, rfl, rfl⟩
  · rintro xs ⟨f, n, rfl⟩
    refine ⟨by rw [Tryd.ntmps178]; simp, ?_⟩
    simp only [go_sem, h.hP, List.cons_append, List.nil_append, Meets_e, Below_e, Prod.exists, exists_eq, exists_eq_left, exists_eq_left', exists_eq_right, exists_eq_right', exists_and_left, exists_and_right, Ob.arr.injEq, AV.own.injEq, AV.fv.injEq, find1S_q, find1S_p, find1S_c, find1S_f, cmpTSp_q, cmpTSp_p, cmpTSp_c, cmpTSp_f, TField.row, Tryd.ntmps178, Nat.reduceEqDiff, reduceCtorEq, Nat.reduceMul, Nat.reduceAdd, Nat.reduceSub, Nat.reduceDiv, Nat.reduceMod, Nat.reduceLeDiff, Nat.reduceLT, Nat.reduceBNe, Nat.reduceBEq, reduceIte, Int.reduceLE, Int.reduceLT, Int.reduceToNat, Int.reduceNeg, Int.reduceAdd, Int.reduceSub, Int.reduceMul, Int.reduceEq]
def cmpΦ (caps : List (List D)) : FSpec where
  pre xs := caps = [] ∧ ∃ (f : TField) (n : ByteArray), xs = [.ag f.row, .d (.str n)]
  post xs r := caps = [] ∧ ∃ (f : TField) (n : ByteArray), xs = [.ag f.row, .d (.str n)] ∧ r = .d (.int .i64 (cmpT f.name n))
theorem cmpΦ_of {cx : Cx} {fn : FuncId} (h : Ctr cx fn find1S) (caps : List (List D)) : Ctr cx fn (clo cmpΦ caps) := by
  refine h.weaken (fun xs hx => ?_) (fun xs r hx hr => ?_) (fun _ => Nat.le_refl _) rfl
  · obtain ⟨ys, rfl, rfl, f, n, rfl⟩ := hx
    exact ⟨f, n, rfl⟩
  · obtain ⟨ys, rfl, rfl, f, n, rfl⟩ := hx
    obtain ⟨f', n', e, rfl⟩ := hr
    simp only [List.map_cons, List.map_nil, List.append_nil, List.cons.injEq, AV.dv.injEq, DV.ag.injEq, DV.d.injEq, D.str.injEq, and_true] at e
    obtain ⟨e1, rfl⟩ := e
    obtain rfl := TField.inj e1
    exact ⟨_, _, rfl, rfl, rfl, f, n, rfl, rfl⟩
theorem cmpΦ_pre (f : TField) (n : ByteArray) : (cmpΦ []).pre [.ag [.str f.name, .int .i64 f.value.kind, .str f.value.text, .int .i64 f.value.number], .d (.str n)] = True := eq_true ⟨rfl, f, n, rfl⟩
theorem cmpΦ_post (f : TField) (n : ByteArray) (y : DV) : (cmpΦ []).post [.ag [.str f.name, .int .i64 f.value.kind, .str f.value.text, .int .i64 f.value.number], .d (.str n)] y = (y = .d (.int .i64 (cmpT f.name n))) := by
  apply propext
  constructor
  · rintro ⟨_, f', n', e, rfl⟩
    simp only [List.cons.injEq, DV.ag.injEq, DV.d.injEq, D.str.injEq, and_true] at e
    obtain ⟨e1, rfl⟩ := e
    obtain rfl := TField.inj (x := f) e1
    rfl
  · rintro rfl
    exact ⟨rfl, f, n, rfl, rfl⟩
def bsS : Spec where
  pre xs := ∃ (l : List TField) (n : ByteArray), xs = [.sl (TField.rows l), .str n, .fv (cmpΦ [])] ∧ ascF l ∧ l.length ≤ 1048576
  post xs r := ∃ (l : List TField) (n : ByteArray) (i : Int) (b : Bool), xs = [.sl (TField.rows l), .str n, .fv (cmpΦ [])] ∧ (b = true → 0 ≤ i ∧ i < l.length ∧ (l.getD i.toNat TField.z).name = n) ∧ (b = false → ∀ j : Nat, j < l.length → (l.getD j TField.z).name ≠ n) ∧ r = .tcons (.i i) (.tcons (.b b) .tnil)
  cost _ := 0
  fresh := true
theorem bsS_c (xs : List AV) : bsS.cost xs = 0 := nr rfl
theorem bsS_f : bsS.fresh = true := nr rfl
theorem bsS_q (l : List TField) (n : ByteArray) : bsS.pre [.sl (TField.rows l), .str n, .fv (cmpΦ [])] = (ascF l ∧ l.length ≤ 1048576) := propext ⟨fun h => by
  have h' : ∃ (l' : List TField) (n' : ByteArray), ([.sl (TField.rows l), .str n, .fv (cmpΦ [])] : List AV) = [.sl (TField.rows l'), .str n', .fv (cmpΦ [])] ∧ ascF l' ∧ l'.length ≤ 1048576 := h
  obtain ⟨l', n', e, h1⟩ := h'
  simp only [List.cons.injEq, AV.dv.injEq, DV.d.injEq, D.sl.injEq, D.str.injEq, TField.rows_inj, and_true] at e
  rw [e.1]
  exact h1, fun h => ⟨l, n, rfl, h⟩⟩
theorem bsS_p (l : List TField) (n : ByteArray) : bsS.post [.sl (TField.rows l), .str n, .fv (cmpΦ [])] = fun r => ∃ (i : Int) (b : Bool), ((b = true → 0 ≤ i ∧ i < l.length ∧ (l.getD i.toNat TField.z).name = n) ∧ (b = false → ∀ j : Nat, j < l.length → (l.getD j TField.z).name ≠ n)) ∧ r = .tcons (.i i) (.tcons (.b b) .tnil) := funext fun r => propext ⟨fun h => by
  have h' : ∃ (l' : List TField) (n' : ByteArray) (i : Int) (b : Bool), ([.sl (TField.rows l), .str n, .fv (cmpΦ [])] : List AV) = [.sl (TField.rows l'), .str n', .fv (cmpΦ [])] ∧ (b = true → 0 ≤ i ∧ i < l'.length ∧ (l'.getD i.toNat TField.z).name = n') ∧ (b = false → ∀ j : Nat, j < l'.length → (l'.getD j TField.z).name ≠ n') ∧ r = .tcons (.i i) (.tcons (.b b) .tnil) := h
  obtain ⟨l', n', i, b, e, h1, h2, h3⟩ := h'
  simp only [List.cons.injEq, AV.dv.injEq, DV.d.injEq, D.sl.injEq, D.str.injEq, TField.rows_inj, and_true] at e
  obtain ⟨rfl, rfl⟩ := e
  exact ⟨i, b, ⟨h1, h2⟩, h3⟩, fun ⟨i, b, ⟨h1, h2⟩, h3⟩ => ⟨l, n, i, b, rfl, h1, h2, h3⟩⟩
theorem cmp_neg {s t : ByteArray} : cmpT s t < 0 ↔ lessS s t = true := by
  unfold cmpT
  constructor
  · intro h
    split at h
    · assumption
    · split at h <;> omega
  · intro h
    rw [if_pos h]; decide
theorem cmp_zero {s t : ByteArray} (h : cmpT s t = 0) : s = t := by
  unfold cmpT at h
  split at h
  · cases h
  · split at h
    · assumption
    · cases h
theorem u64w {n : Int} (h1 : 0 ≤ n) (h2 : n ≤ 9223372036854775807) : IntKind.u64.wrap n = n := by rw [IntKind.wrap_u64]; omega
set_option maxHeartbeats 4000000 in
theorem bs_ctr {cx : Cx} (h : Seat cx) : Ctr cx 177 bsS := by
  refine ctr_of (fn := Tryd.f177) (l := [.tmp 6, .tmp 7]) (envL []) [0, 1, 2, 6, 7, 8, 9, 10, 11, 17, 31] [8] [] (env0 h.hP) ?_ (by rw [h.hP]; exact Tryd.func177) rfl (by kernel_rfl) rfl ?_ ?_
  · rw [h.hP]; exact ⟨_, Tryd.func177, by kernel_rfl, by kernel_rfl⟩
  · rintro xs ⟨l, n, rfl, h1, h2⟩
    by_cases c : ∃ j : Nat, j < l.length ∧ (l.getD j TField.z).name = n
    · obtain ⟨j, j1, j2⟩ := c
      exact ⟨_, l, n, j, true, rfl, fun _ => ⟨by omega, by omega, by rw [Int.toNat_natCast]; exact j2⟩, fun z => (by cases z), rfl⟩
    · exact ⟨_, l, n, 0, false, rfl, fun z => (by cases z), fun _ j j1 j2 => c ⟨j, j1, j2⟩, rfl⟩
  · rintro xs ⟨l, n, rfl, h1, h2⟩
    refine ⟨by rw [Tryd.ntmps177]; simp, ?_⟩
    simp only [go_sem, h.hP, List.cons_append, List.nil_append, Meets_e, Below_e, Prod.exists, exists_eq, exists_eq_left, exists_eq_left', exists_eq_right, exists_eq_right', exists_and_left, exists_and_right, Ob.arr.injEq, AV.own.injEq, AV.fv.injEq, bsS_c, bsS_f, TField.len, Tryd.ntmps177, Nat.reduceEqDiff, reduceCtorEq, Nat.reduceMul, Nat.reduceAdd, Nat.reduceSub, Nat.reduceDiv, Nat.reduceMod, Nat.reduceLeDiff, Nat.reduceLT, Nat.reduceBNe, Nat.reduceBEq, reduceIte, Int.reduceLE, Int.reduceLT, Int.reduceToNat, Int.reduceNeg, Int.reduceAdd, Int.reduceSub, Int.reduceMul, Int.reduceEq]
    refine vc_cutS (Int) (fun (i : Int) => [(9, .i i), (10, .un), (11, .un), (17, .un), (31, .un)]) [] (fun (i : Int) => []) (fun (i : Int) => []) (fun (i : Int) => 0) (fun (i : Int) => 0 ≤ i ∧ i ≤ l.length ∧ (∀ k : Nat, (k : Int) < i → lessS (l.getD k TField.z).name n = true) ∧ (∀ k : Nat, i ≤ (k : Int) → k < l.length → lessS (l.getD k TField.z).name n = false)) [] ?_ ?_ ?_
    · rfl
    · simp only [go_sem, h.hP, List.cons_append, List.nil_append, Meets_e, Below_e, Prod.exists, exists_eq, exists_eq_left, exists_eq_left', exists_eq_right, exists_eq_right', exists_and_left, exists_and_right, Ob.arr.injEq, AV.own.injEq, AV.fv.injEq, TField.len, Tryd.ntmps177, Nat.reduceEqDiff, reduceCtorEq, Nat.reduceMul, Nat.reduceAdd, Nat.reduceSub, Nat.reduceDiv, Nat.reduceMod, Nat.reduceLeDiff, Nat.reduceLT, Nat.reduceBNe, Nat.reduceBEq, reduceIte, Int.reduceLE, Int.reduceLT, Int.reduceToNat, Int.reduceNeg, Int.reduceAdd, Int.reduceSub, Int.reduceMul, Int.reduceEq]
      refine vc_loopS (Int × Int) (fun (x : Int × Int) => match x with | (i, j) => [(9, .i i), (10, .i j)]) [] (fun (x : Int × Int) => match x with | (i, j) => []) (fun (x : Int × Int) => match x with | (i, j) => []) (fun (x : Int × Int) => match x with | (i, j) => 0) (fun (x : Int × Int) => match x with | (i, j) => 0 ≤ i ∧ i ≤ j ∧ j ≤ l.length ∧ (∀ k : Nat, (k : Int) < i → lessS (l.getD k TField.z).name n = true) ∧ (∀ k : Nat, j ≤ (k : Int) → k < l.length → lessS (l.getD k TField.z).name n = false)) (fun (x : Int × Int) => match x with | (i, j) => (j - i).toNat) [] ?_ ?_
      · simp only [go_sem, h.hP, List.cons_append, List.nil_append, Meets_e, Below_e, Prod.exists, exists_eq, exists_eq_left, exists_eq_left', exists_eq_right, exists_eq_right', exists_and_left, exists_and_right, Ob.arr.injEq, AV.own.injEq, AV.fv.injEq, TField.len, Tryd.ntmps177, Nat.reduceEqDiff, reduceCtorEq, Nat.reduceMul, Nat.reduceAdd, Nat.reduceSub, Nat.reduceDiv, Nat.reduceMod, Nat.reduceLeDiff, Nat.reduceLT, Nat.reduceBNe, Nat.reduceBEq, reduceIte, Int.reduceLE, Int.reduceLT, Int.reduceToNat, Int.reduceNeg, Int.reduceAdd, Int.reduceSub, Int.reduceMul, Int.reduceEq]
        exact ⟨by omega, by omega, fun k hk => by omega, fun k a b => by omega⟩
      · rintro ⟨i, j⟩ ⟨j1, j2, j3, j4, j5⟩
        simp only [go_sem, h.hP, List.cons_append, List.nil_append, Meets_e, Below_e, Prod.exists, exists_eq, exists_eq_left, exists_eq_left', exists_eq_right, exists_eq_right', exists_and_left, exists_and_right, Ob.arr.injEq, AV.own.injEq, AV.fv.injEq, TField.len, TField.get, cmpΦ_pre, cmpΦ_post, Tryd.ntmps177, Nat.reduceEqDiff, reduceCtorEq, Nat.reduceMul, Nat.reduceAdd, Nat.reduceSub, Nat.reduceDiv, Nat.reduceMod, Nat.reduceLeDiff, Nat.reduceLT, Nat.reduceBNe, Nat.reduceBEq, reduceIte, Int.reduceLE, Int.reduceLT, Int.reduceToNat, Int.reduceNeg, Int.reduceAdd, Int.reduceSub, Int.reduceMul, Int.reduceEq]
        refine ⟨fun c => ?_, fun c => ⟨j1, by omega, j4, fun k a b => j5 k (by omega) b⟩⟩
        rw [i64w (n := i + j) (by omega) (by omega), u64w (n := i + j) (by omega) (by omega), i64w (n := (i + j) / 2) (by omega) (by omega)]
        obtain ⟨m, hm⟩ : ∃ m : Int, m = (i + j) / 2 := ⟨_, rfl⟩
        rw [← hm]
        have m1 : i ≤ m := by omega
        have m2 : m < j := by omega
        clear hm
        refine ⟨by omega, by omega, fun d => ?_, fun d => ?_⟩
        · have d' := cmp_neg.1 d
          rw [i64w (n := m + 1) (by omega) (by omega)]
          refine ⟨by omega, by omega, j3, fun k hk => ?_, j5, by omega⟩
          by_cases e : k = m.toNat
          · rw [e]; exact d'
          · exact lessS_trans (h1 k m.toNat (by omega) (by omega)) d'
        · have dn : lessS (l.getD m.toNat TField.z).name n = false := by
            cases e : lessS (l.getD m.toNat TField.z).name n with
            | false => rfl
            | true => exact absurd (cmp_neg.2 e) d
          refine ⟨j1, m1, by omega, j4, fun k a b => ?_, by omega⟩
          cases e : lessS (l.getD k TField.z).name n with
          | false => rfl
          | true =>
            by_cases q : k = m.toNat
            · rw [q, dn] at e; cases e
            · have := lessS_trans (h1 m.toNat k (by omega) b) e
              rw [dn] at this
              cases this
    · rintro i ⟨j1, j2, j3, j4⟩
      simp only [go_sem, h.hP, List.cons_append, List.nil_append, Meets_e, Below_e, Prod.exists, exists_eq, exists_eq_left, exists_eq_left', exists_eq_right, exists_eq_right', exists_and_left, exists_and_right, Ob.arr.injEq, AV.own.injEq, AV.fv.injEq, bsS_c, bsS_f, bsS_p, TField.len, TField.get, cmpΦ_pre, cmpΦ_post, Tryd.ntmps177, Nat.reduceEqDiff, reduceCtorEq, Nat.reduceMul, Nat.reduceAdd, Nat.reduceSub, Nat.reduceDiv, Nat.reduceMod, Nat.reduceLeDiff, Nat.reduceLT, Nat.reduceBNe, Nat.reduceBEq, reduceIte, Int.reduceLE, Int.reduceLT, Int.reduceToNat, Int.reduceNeg, Int.reduceAdd, Int.reduceSub, Int.reduceMul, Int.reduceEq]
      have hlt : ∀ k : Nat, (k : Int) < i → (l.getD k TField.z).name ≠ n := fun k hk e => by
        have := j3 k hk
        rw [e, lessS_irrefl] at this
        cases this
      refine ⟨fun c => ⟨j1, c, i, _, fun z => ⟨j1, c, cmp_zero (by simpa using z)⟩, fun z k hk e => ?_, rfl, rfl⟩, fun c => ⟨i, false, fun z => (by cases z), fun _ k hk e => hlt k (by omega) e, rfl, rfl⟩⟩
      by_cases q : (k : Int) < i
      · exact hlt k q e
      · have hi := j4 i.toNat (by omega) (by omega)
        by_cases q2 : k = i.toNat
        · rw [← q2, e] at z
          have : cmpT n n = 0 := by
            unfold cmpT
            rw [if_neg (by rw [lessS_irrefl]; decide), if_pos rfl]
          rw [this] at z
          cases z
        · have := h1 i.toNat k (by omega) hk
          rw [e, hi] at this
          cases this
def findS : Spec where
  pre xs := ∃ (l : List TField) (n : ByteArray), xs = [.sl (TField.rows l), .str n] ∧ ascF l ∧ l.length ≤ 1048576
  post xs r := ∃ (l : List TField) (n : ByteArray) (v : TValue), xs = [.sl (TField.rows l), .str n] ∧ (∀ f, findF l n = some f → v = f.value) ∧ r = .tcons (.dv (.ag v.row)) (.tcons (.b (findF l n).isSome) .tnil)
  cost _ := 0
  fresh := true
theorem findS_c (xs : List AV) : findS.cost xs = 0 := nr rfl
theorem findS_f : findS.fresh = true := nr rfl
theorem findS_q (l : List TField) (n : ByteArray) : findS.pre [.sl (TField.rows l), .str n] = (ascF l ∧ l.length ≤ 1048576) := propext ⟨fun h => by
  have h' : ∃ (l' : List TField) (n' : ByteArray), ([.sl (TField.rows l), .str n] : List AV) = [.sl (TField.rows l'), .str n'] ∧ ascF l' ∧ l'.length ≤ 1048576 := h
  obtain ⟨l', n', e, h1⟩ := h'
  simp only [List.cons.injEq, AV.dv.injEq, DV.d.injEq, D.sl.injEq, D.str.injEq, TField.rows_inj, and_true] at e
  rw [e.1]
  exact h1, fun h => ⟨l, n, rfl, h⟩⟩
theorem findS_p (l : List TField) (n : ByteArray) : findS.post [.sl (TField.rows l), .str n] = fun r => ∃ v : TValue, (∀ f, findF l n = some f → v = f.value) ∧ r = .tcons (.dv (.ag [.int .i64 v.kind, .str v.text, .int .i64 v.number])) (.tcons (.b (findF l n).isSome) .tnil) := funext fun r => propext ⟨fun h => by
  have h' : ∃ (l' : List TField) (n' : ByteArray) (v : TValue), ([.sl (TField.rows l), .str n] : List AV) = [.sl (TField.rows l'), .str n'] ∧ (∀ f, findF l' n' = some f → v = f.value) ∧ r = .tcons (.dv (.ag v.row)) (.tcons (.b (findF l' n').isSome) .tnil) := h
  obtain ⟨l', n', v, e, h1, h2⟩ := h'
  simp only [List.cons.injEq, AV.dv.injEq, DV.d.injEq, D.sl.injEq, D.str.injEq, TField.rows_inj, and_true] at e
  obtain ⟨rfl, rfl⟩ := e
  exact ⟨v, h1, h2⟩, fun ⟨v, h1, h2⟩ => ⟨l, n, v, rfl, h1, h2⟩⟩
theorem Find_ctr {cx : Cx} (h : Seat cx) : Ctr cx 140 findS := by
  refine ctr_of (fn := Tryd.f140) (l := [.cell 4 71, .tmp 5]) (envF [(177, bsS)] [(178, cmpΦ)]) [0, 1, 4, 5, 6, 7, 15] [] [] (envF_cons (cmpΦ_of (find1_ctr h)) (envF_nil (envL_cons (bs_ctr h) (env0 h.hP)))) ?_ (by rw [h.hP]; exact Tryd.func140) rfl (by kernel_rfl) rfl ?_ ?_
  · rw [h.hP]; exact ⟨_, Tryd.func140, by kernel_rfl, by kernel_rfl⟩
  · rintro xs ⟨l, n, rfl, h1, h2⟩
    cases e : findF l n with
    | none => exact ⟨_, l, n, TValue.z, rfl, fun f hf => (by rw [e] at hf; cases hf), rfl⟩
    | some f => exact ⟨_, l, n, f.value, rfl, fun g hg => (by rw [e] at hg; cases hg; rfl), rfl⟩
  · rintro xs ⟨l, n, rfl, h1, h2⟩
    refine ⟨by rw [Tryd.ntmps140]; simp, ?_⟩
    simp only [go_sem, h.hP, List.cons_append, List.nil_append, Meets_e, Below_e, Prod.exists, exists_eq, exists_eq_left, exists_eq_left', exists_eq_right, exists_eq_right', exists_and_left, exists_and_right, Ob.arr.injEq, AV.own.injEq, AV.fv.injEq, findS_c, findS_f, findS_p, bsS_c, bsS_f, bsS_p, bsS_q, TField.len, TField.get, Tryd.ntmps140, Nat.reduceEqDiff, reduceCtorEq, Nat.reduceMul, Nat.reduceAdd, Nat.reduceSub, Nat.reduceDiv, Nat.reduceMod, Nat.reduceLeDiff, Nat.reduceLT, Nat.reduceBNe, Nat.reduceBEq, reduceIte, Int.reduceLE, Int.reduceLT, Int.reduceToNat, Int.reduceNeg, Int.reduceAdd, Int.reduceSub, Int.reduceMul, Int.reduceEq]
    refine ⟨h1, h2, fun i b p1 p2 => ⟨fun c => ?_, fun c => ?_⟩⟩
    · have hn := findF_no (p2 c)
      exact ⟨TValue.z, fun f hf => (by rw [hn] at hf; cases hf), rfl, rfl, rfl, by rw [hn]; rfl⟩
    · obtain ⟨q1, q2, q3⟩ := p1 c
      have hf := findF_at h1 (i := i.toNat) (by omega) q3
      exact ⟨q1, q2, _, fun f e => (by rw [hf] at e; cases e; rfl), rfl, rfl, rfl, by rw [hf]; rfl⟩
end Go.Avc

/- The points of two records, by the program and by the reference. No condition. -/
set_option linter.unusedVariables false
set_option linter.unusedSimpArgs false
set_option maxRecDepth 100000
namespace Go.Avc
open Go Go.Proofs

def recOk (l : List TMeasure) (a b : List TField) : Prop := (∀ i, i < l.length → measOk (l.getD i TMeasure.z)) ∧ l.length ≤ 20 ∧ (ascF a ∧ a.length ≤ 30 ∧ ∀ x ∈ a, x.ok) ∧ ascF b ∧ b.length ≤ 30 ∧ ∀ x ∈ b, x.ok
theorem findF_ok {l : List TField} (h : ∀ x ∈ l, x.ok) {n : ByteArray} {f : TField} (hf : findF l n = some f) : f.ok := h f (List.mem_of_find?_eq_some hf)
theorem termF_in {m : TMeasure} (h : measOk m) (a b : List TField) : -1000 ≤ termF m a b ∧ termF m a b ≤ 1000 := by
  obtain ⟨_, h1, h2⟩ := h
  unfold termF
  split
  · split <;> omega
  · omega
theorem get_mem {α : Type} {l : List α} {p : α → Prop} {d : α} (h : ∀ i, i < l.length → p (l.getD i d)) : ∀ x ∈ l, p x := fun x hx => by
  obtain ⟨i, hi, rfl⟩ := List.mem_iff_getElem.1 hx
  have := h i hi
  rwa [getD_lt hi] at this
def scoreS  : Spec where
  pre xs := ∃ (l : List TMeasure) (a : List TField) (b : List TField), xs = [.sl (TMeasure.rows l), .sl (TField.rows a), .sl (TField.rows b)] ∧ (recOk l a b)
  post xs y := ∃ (l : List TMeasure) (a : List TField) (b : List TField), xs = [.sl (TMeasure.rows l), .sl (TField.rows a), .sl (TField.rows b)] ∧ y = .i (scoreF l a b)
  cost _ := 0
  fresh := true
theorem scoreS_c  (xs : List AV) : (scoreS).cost xs = 0 := nr rfl
theorem scoreS_f  : (scoreS).fresh = true := nr rfl
theorem scoreS_q  (l : List TMeasure) (a : List TField) (b : List TField) : (scoreS).pre [.sl (TMeasure.rows l), .sl (TField.rows a), .sl (TField.rows b)] = (recOk l a b) := propext ⟨fun h => by
  have h' : ∃ (l' : List TMeasure) (a' : List TField) (b' : List TField), ([.sl (TMeasure.rows l), .sl (TField.rows a), .sl (TField.rows b)] : List AV) = [.sl (TMeasure.rows l'), .sl (TField.rows a'), .sl (TField.rows b')] ∧ (recOk l' a' b') := h
  obtain ⟨l', a', b', e, h⟩ := h'
  simp only [List.cons.injEq, AV.dv.injEq, AV.fv.injEq, DV.d.injEq, DV.ag.injEq, D.int.injEq, D.str.injEq, D.bool.injEq, D.sl.injEq, true_and, and_true, intsDi_inj, rowsT_inj, rowsKi_inj, TMeasure.row_inj, TMeasure.rows_inj, TField.row_inj, TField.rows_inj, TField.row_inj, TField.rows_inj] at e
  obtain ⟨rfl, rfl, rfl⟩ := e
  exact h, fun h => ⟨l, a, b, rfl, h⟩⟩
theorem scoreS_p  (l : List TMeasure) (a : List TField) (b : List TField) : (scoreS).post [.sl (TMeasure.rows l), .sl (TField.rows a), .sl (TField.rows b)] = fun y => y = .i (scoreF l a b) := funext fun y => propext ⟨fun h => by
  have h' : ∃ (l' : List TMeasure) (a' : List TField) (b' : List TField), ([.sl (TMeasure.rows l), .sl (TField.rows a), .sl (TField.rows b)] : List AV) = [.sl (TMeasure.rows l'), .sl (TField.rows a'), .sl (TField.rows b')] ∧ y = .i (scoreF l' a' b') := h
  obtain ⟨l', a', b', e, h⟩ := h'
  simp only [List.cons.injEq, AV.dv.injEq, AV.fv.injEq, DV.d.injEq, DV.ag.injEq, D.int.injEq, D.str.injEq, D.bool.injEq, D.sl.injEq, true_and, and_true, intsDi_inj, rowsT_inj, rowsKi_inj, TMeasure.row_inj, TMeasure.rows_inj, TField.row_inj, TField.rows_inj, TField.row_inj, TField.rows_inj] at e
  obtain ⟨rfl, rfl, rfl⟩ := e
  exact h, fun h => ⟨l, a, b, rfl, h⟩⟩
set_option maxHeartbeats 4000000 in
theorem score_ctr {cx : Cx} (h : Seat cx) (hU : Utf8 cx) : Ctr cx 92 scoreS := by
  refine ctr_of (fn := Tryd.f92) (l := [.tmp 6]) (envL [(140, findS), (141, alikeS)]) [0, 1, 2, 6, 7, 9, 10, 11, 12, 13, 14, 15, 16, 17, 43] [10] [] (envL_cons (Find_ctr h) (envL_cons (alike_ctr h hU) (env0 h.hP))) ?_ (by rw [h.hP]; exact Tryd.func92) rfl (by kernel_rfl) rfl ?_ ?_
  · rw [h.hP]; exact ⟨_, Tryd.func92, by kernel_rfl, by kernel_rfl⟩
  · rintro xs ⟨l, a, b, rfl, h1⟩; exact ⟨_, l, a, b, rfl, rfl⟩
  · rintro xs ⟨l, a, b, rfl, r1, r2, ⟨r3, r4, r5⟩, r6, r7, r8⟩
    refine ⟨by rw [Tryd.ntmps92]; simp, ?_⟩
    simp only [go_sem, h.hP, List.cons_append, List.nil_append, Meets_e, Below_e, Prod.exists, exists_eq, exists_eq_left, exists_eq_left', exists_eq_right, exists_eq_right', exists_and_left, exists_and_right, Ob.arr.injEq, AV.own.injEq, AV.fv.injEq, scoreS_q, scoreS_p, scoreS_c, scoreS_f, TMeasure.len, Tryd.ntmps92, Nat.reduceEqDiff, reduceCtorEq, Nat.reduceMul, Nat.reduceAdd, Nat.reduceSub, Nat.reduceDiv, Nat.reduceMod, Nat.reduceLeDiff, Nat.reduceLT, Nat.reduceBNe, Nat.reduceBEq, reduceIte, Int.reduceLE, Int.reduceLT, Int.reduceToNat, Int.reduceNeg, Int.reduceAdd, Int.reduceSub, Int.reduceMul, Int.reduceEq]
    refine vc_cutS (Int) (fun (s : Int) => [(7, .i s), (16, .un)]) [] (fun (s : Int) => []) (fun (s : Int) => []) (fun (s : Int) => 0) (fun (s : Int) => s = scoreF l a b) [] ?_ ?_ ?_
    · rfl
    · simp only [go_sem, h.hP, List.cons_append, List.nil_append, Meets_e, Below_e, Prod.exists, exists_eq, exists_eq_left, exists_eq_left', exists_eq_right, exists_eq_right', exists_and_left, exists_and_right, Ob.arr.injEq, AV.own.injEq, AV.fv.injEq, TMeasure.len, Tryd.ntmps92, Nat.reduceEqDiff, reduceCtorEq, Nat.reduceMul, Nat.reduceAdd, Nat.reduceSub, Nat.reduceDiv, Nat.reduceMod, Nat.reduceLeDiff, Nat.reduceLT, Nat.reduceBNe, Nat.reduceBEq, reduceIte, Int.reduceLE, Int.reduceLT, Int.reduceToNat, Int.reduceNeg, Int.reduceAdd, Int.reduceSub, Int.reduceMul, Int.reduceEq]
      refine vc_loopS (Int × Int) (fun (x : Int × Int) => match x with | (i, s) => [(16, .i i), (7, .i s)]) [] (fun (x : Int × Int) => match x with | (i, s) => []) (fun (x : Int × Int) => match x with | (i, s) => []) (fun (x : Int × Int) => match x with | (i, s) => 0) (fun (x : Int × Int) => match x with | (i, s) => 0 ≤ i ∧ i ≤ l.length ∧ s = upTo l (fun m => termF m a b) i.toNat) (fun (x : Int × Int) => match x with | (i, s) => (l.length - i).toNat) [] ?_ ?_
      · simp only [go_sem, h.hP, List.cons_append, List.nil_append, Meets_e, Below_e, Prod.exists, exists_eq, exists_eq_left, exists_eq_left', exists_eq_right, exists_eq_right', exists_and_left, exists_and_right, Ob.arr.injEq, AV.own.injEq, AV.fv.injEq, Tryd.ntmps92, Nat.reduceEqDiff, reduceCtorEq, Nat.reduceMul, Nat.reduceAdd, Nat.reduceSub, Nat.reduceDiv, Nat.reduceMod, Nat.reduceLeDiff, Nat.reduceLT, Nat.reduceBNe, Nat.reduceBEq, reduceIte, Int.reduceLE, Int.reduceLT, Int.reduceToNat, Int.reduceNeg, Int.reduceAdd, Int.reduceSub, Int.reduceMul, Int.reduceEq]
        exact ⟨Int.natCast_nonneg _, rfl⟩
      · rintro ⟨i, s⟩ ⟨j1, j2, j3⟩
        simp only [go_sem, h.hP, List.cons_append, List.nil_append, Meets_e, Below_e, Prod.exists, exists_eq, exists_eq_left, exists_eq_left', exists_eq_right, exists_eq_right', exists_and_left, exists_and_right, Ob.arr.injEq, AV.own.injEq, AV.fv.injEq, findS_c, findS_f, findS_p, findS_q, alikeS_q, alikeS_p, alikeS_c, alikeS_f, TMeasure.len, TMeasure.get, Tryd.ntmps92, Nat.reduceEqDiff, reduceCtorEq, Nat.reduceMul, Nat.reduceAdd, Nat.reduceSub, Nat.reduceDiv, Nat.reduceMod, Nat.reduceLeDiff, Nat.reduceLT, Nat.reduceBNe, Nat.reduceBEq, reduceIte, Int.reduceLE, Int.reduceLT, Int.reduceToNat, Int.reduceNeg, Int.reduceAdd, Int.reduceSub, Int.reduceMul, Int.reduceEq]
        have hb := upTo_in (l := l) (F := fun m => termF m a b) (k := 1000) (by decide) (get_mem (d := TMeasure.z) fun i hi => termF_in (r1 i hi) a b) i.toNat
        have hst := upTo_step (l := l) (fun m => termF m a b) (i := i.toNat) TMeasure.z
        refine ⟨fun c => ⟨j1, c, r3, by omega, fun v hv => ⟨r6, by omega, fun w hw => ?_⟩⟩, fun c => ?_⟩
        · have hs := hst (by omega)
          have hm := r1 i.toNat (by omega)
          rw [i64w (n := i + 1) (by omega) (by omega), show (i + 1).toNat = i.toNat + 1 by omega, hs, ← j3]
          rw [← j3] at hb
          clear hs hst
          generalize l.getD i.toNat TMeasure.z = m at *
          obtain ⟨m1, m2, m3⟩ := hm
          cases ea : findF a m.name with
          | none =>
            have ht : termF m a b = 0 := by unfold termF; rw [ea]
            exact ⟨fun z => (by cases z), fun _ => ⟨by omega, by omega, by show s = s + termF m a b; omega, by omega⟩⟩
          | some f =>
            cases eb : findF b m.name with
            | none =>
              have ht : termF m a b = 0 := by unfold termF; rw [ea, eb]
              exact ⟨fun _ => ⟨fun z => (by cases z), fun _ => ⟨by omega, by omega, by show s = s + termF m a b; omega, by omega⟩⟩, fun z => (by cases z)⟩
            | some g =>
              obtain rfl := hv f ea
              obtain rfl := hw g eb
              have ht : termF m a b = if alikeF m f.value g.value = true then m.points else 0 := by unfold termF; rw [ea, eb]
              refine ⟨fun _ => ⟨fun _ => ⟨m1, (findF_ok r5 ea).2, (findF_ok r8 eb).2, fun z => ?_, fun z => ?_⟩, fun z => (by cases z)⟩, fun z => (by cases z)⟩
              · rw [if_pos z] at ht
                rw [i64w (n := s + m.points) (by omega) (by omega)]
                exact ⟨by omega, by omega, by show s + m.points = s + termF m a b; omega, by omega⟩
              · rw [if_neg (ne_tf z)] at ht
                exact ⟨by omega, by omega, by show s = s + termF m a b; omega, by omega⟩
        · rw [j3, show i.toNat = l.length by omega, upTo_all]
          rfl
    · rintro s rfl
      simp only [go_sem, h.hP, List.cons_append, List.nil_append, Meets_e, Below_e, Prod.exists, exists_eq, exists_eq_left, exists_eq_left', exists_eq_right, exists_eq_right', exists_and_left, exists_and_right, Ob.arr.injEq, AV.own.injEq, AV.fv.injEq, scoreS_q, scoreS_p, scoreS_c, scoreS_f, Tryd.ntmps92, Nat.reduceEqDiff, reduceCtorEq, Nat.reduceMul, Nat.reduceAdd, Nat.reduceSub, Nat.reduceDiv, Nat.reduceMod, Nat.reduceLeDiff, Nat.reduceLT, Nat.reduceBNe, Nat.reduceBEq, reduceIte, Int.reduceLE, Int.reduceLT, Int.reduceToNat, Int.reduceNeg, Int.reduceAdd, Int.reduceSub, Int.reduceMul, Int.reduceEq]
def pointsOfS  : Spec where
  pre xs := ∃ (l : List TMeasure) (a : List TField) (b : List TField), xs = [.sl (TMeasure.rows l), .sl (TField.rows a), .sl (TField.rows b)] ∧ (recOk l a b)
  post xs y := ∃ (l : List TMeasure) (a : List TField) (b : List TField), xs = [.sl (TMeasure.rows l), .sl (TField.rows a), .sl (TField.rows b)] ∧ y = .i (pointsF l a b)
  cost _ := 0
  fresh := true
theorem pointsOfS_c  (xs : List AV) : (pointsOfS).cost xs = 0 := nr rfl
theorem pointsOfS_f  : (pointsOfS).fresh = true := nr rfl
theorem pointsOfS_q  (l : List TMeasure) (a : List TField) (b : List TField) : (pointsOfS).pre [.sl (TMeasure.rows l), .sl (TField.rows a), .sl (TField.rows b)] = (recOk l a b) := propext ⟨fun h => by
  have h' : ∃ (l' : List TMeasure) (a' : List TField) (b' : List TField), ([.sl (TMeasure.rows l), .sl (TField.rows a), .sl (TField.rows b)] : List AV) = [.sl (TMeasure.rows l'), .sl (TField.rows a'), .sl (TField.rows b')] ∧ (recOk l' a' b') := h
  obtain ⟨l', a', b', e, h⟩ := h'
  simp only [List.cons.injEq, AV.dv.injEq, AV.fv.injEq, DV.d.injEq, DV.ag.injEq, D.int.injEq, D.str.injEq, D.bool.injEq, D.sl.injEq, true_and, and_true, intsDi_inj, rowsT_inj, rowsKi_inj, TMeasure.row_inj, TMeasure.rows_inj, TField.row_inj, TField.rows_inj, TField.row_inj, TField.rows_inj] at e
  obtain ⟨rfl, rfl, rfl⟩ := e
  exact h, fun h => ⟨l, a, b, rfl, h⟩⟩
theorem pointsOfS_p  (l : List TMeasure) (a : List TField) (b : List TField) : (pointsOfS).post [.sl (TMeasure.rows l), .sl (TField.rows a), .sl (TField.rows b)] = fun y => y = .i (pointsF l a b) := funext fun y => propext ⟨fun h => by
  have h' : ∃ (l' : List TMeasure) (a' : List TField) (b' : List TField), ([.sl (TMeasure.rows l), .sl (TField.rows a), .sl (TField.rows b)] : List AV) = [.sl (TMeasure.rows l'), .sl (TField.rows a'), .sl (TField.rows b')] ∧ y = .i (pointsF l' a' b') := h
  obtain ⟨l', a', b', e, h⟩ := h'
  simp only [List.cons.injEq, AV.dv.injEq, AV.fv.injEq, DV.d.injEq, DV.ag.injEq, D.int.injEq, D.str.injEq, D.bool.injEq, D.sl.injEq, true_and, and_true, intsDi_inj, rowsT_inj, rowsKi_inj, TMeasure.row_inj, TMeasure.rows_inj, TField.row_inj, TField.rows_inj, TField.row_inj, TField.rows_inj] at e
  obtain ⟨rfl, rfl, rfl⟩ := e
  exact h, fun h => ⟨l, a, b, rfl, h⟩⟩
theorem pair_in {m : TMeasure} (h : measOk m) (f g : TField) : -1000 ≤ pairF m f g ∧ pairF m f g ≤ 1000 := by
  obtain ⟨_, h1, h2⟩ := h
  unfold pairF
  split <;> omega
theorem row_in {m : TMeasure} (h : measOk m) (f : TField) {b : List TField} (hb : b.length ≤ 30) : -30000 ≤ rowF m f b ∧ rowF m f b ≤ 30000 := by
  have := upTo_in (l := b) (F := pairF m f) (k := 1000) (by decide) (fun g _ => pair_in h f g) b.length
  rw [upTo_all] at this
  unfold rowF
  omega
theorem all_in {m : TMeasure} (h : measOk m) {a b : List TField} (ha : a.length ≤ 30) (hb : b.length ≤ 30) : -900000 ≤ allF m a b ∧ allF m a b ≤ 900000 := by
  have := upTo_in (l := a) (F := fun f => rowF m f b) (k := 30000) (by decide) (fun f _ => row_in h f hb) a.length
  rw [upTo_all] at this
  unfold allF
  omega
set_option maxHeartbeats 8000000 in
theorem PointsOf_ctr {cx : Cx} (h : Seat cx) (hU : Utf8 cx) : Ctr cx 49 pointsOfS := by
  refine ctr_of (fn := Tryd.f49) (l := [.tmp 6]) (envL [(93, alikeS)]) [0, 1, 2, 6, 7, 9, 11, 13, 14, 15, 16, 17, 20, 21, 22, 23, 26, 27, 28, 29, 51] [] [] (envL_cons (ralike_ctr h hU) (env0 h.hP)) ?_ (by rw [h.hP]; exact Tryd.func49) rfl (by kernel_rfl) rfl ?_ ?_
  · rw [h.hP]; exact ⟨_, Tryd.func49, by kernel_rfl, by kernel_rfl⟩
  · rintro xs ⟨l, a, b, rfl, h1⟩; exact ⟨_, l, a, b, rfl, rfl⟩
  · rintro xs ⟨l, a, b, rfl, r1, r2, ⟨r3, r4, r5⟩, r6, r7, r8⟩
    refine ⟨by rw [Tryd.ntmps49]; simp, ?_⟩
    simp only [go_sem, h.hP, List.cons_append, List.nil_append, Meets_e, Below_e, Prod.exists, exists_eq, exists_eq_left, exists_eq_left', exists_eq_right, exists_eq_right', exists_and_left, exists_and_right, Ob.arr.injEq, AV.own.injEq, AV.fv.injEq, pointsOfS_q, pointsOfS_p, pointsOfS_c, pointsOfS_f, TMeasure.len, Tryd.ntmps49, Nat.reduceEqDiff, reduceCtorEq, Nat.reduceMul, Nat.reduceAdd, Nat.reduceSub, Nat.reduceDiv, Nat.reduceMod, Nat.reduceLeDiff, Nat.reduceLT, Nat.reduceBNe, Nat.reduceBEq, reduceIte, Int.reduceLE, Int.reduceLT, Int.reduceToNat, Int.reduceNeg, Int.reduceAdd, Int.reduceSub, Int.reduceMul, Int.reduceEq]
    refine vc_loopS (Int × Int) (fun (x : Int × Int) => match x with | (i, s) => [(16, .i i), (7, .i s)]) [] (fun (x : Int × Int) => match x with | (i, s) => []) (fun (x : Int × Int) => match x with | (i, s) => []) (fun (x : Int × Int) => match x with | (i, s) => 0) (fun (x : Int × Int) => match x with | (i, s) => 0 ≤ i ∧ i ≤ l.length ∧ s = upTo l (fun m => allF m a b) i.toNat) (fun (x : Int × Int) => match x with | (i, s) => (l.length - i).toNat) [] ?_ ?_
    · simp only [go_sem, h.hP, List.cons_append, List.nil_append, Meets_e, Below_e, Prod.exists, exists_eq, exists_eq_left, exists_eq_left', exists_eq_right, exists_eq_right', exists_and_left, exists_and_right, Ob.arr.injEq, AV.own.injEq, AV.fv.injEq, Tryd.ntmps49, Nat.reduceEqDiff, reduceCtorEq, Nat.reduceMul, Nat.reduceAdd, Nat.reduceSub, Nat.reduceDiv, Nat.reduceMod, Nat.reduceLeDiff, Nat.reduceLT, Nat.reduceBNe, Nat.reduceBEq, reduceIte, Int.reduceLE, Int.reduceLT, Int.reduceToNat, Int.reduceNeg, Int.reduceAdd, Int.reduceSub, Int.reduceMul, Int.reduceEq]
      exact ⟨Int.natCast_nonneg _, rfl⟩
    · rintro ⟨i, s⟩ ⟨j1, j2, j3⟩
      have hb := upTo_in (l := l) (F := fun m => allF m a b) (k := 900000) (by decide) (get_mem (d := TMeasure.z) fun i hi => all_in (r1 i hi) r4 r7) i.toNat
      rw [← j3] at hb
      simp only [go_sem, h.hP, List.cons_append, List.nil_append, Meets_e, Below_e, Prod.exists, exists_eq, exists_eq_left, exists_eq_left', exists_eq_right, exists_eq_right', exists_and_left, exists_and_right, Ob.arr.injEq, AV.own.injEq, AV.fv.injEq, pointsOfS_q, pointsOfS_p, pointsOfS_c, pointsOfS_f, TMeasure.len, TMeasure.get, TField.len, Tryd.ntmps49, Nat.reduceEqDiff, reduceCtorEq, Nat.reduceMul, Nat.reduceAdd, Nat.reduceSub, Nat.reduceDiv, Nat.reduceMod, Nat.reduceLeDiff, Nat.reduceLT, Nat.reduceBNe, Nat.reduceBEq, reduceIte, Int.reduceLE, Int.reduceLT, Int.reduceToNat, Int.reduceNeg, Int.reduceAdd, Int.reduceSub, Int.reduceMul, Int.reduceEq]
      refine ⟨fun c => ⟨j1, c, ?_⟩, fun c => by rw [j3, show i.toNat = l.length by omega, upTo_all]; rfl⟩
      have hm := r1 i.toNat (by omega)
      have hst := upTo_step (l := l) (fun m => allF m a b) (i := i.toNat) TMeasure.z (by omega)
      rw [← j3] at hst
      generalize l.getD i.toNat TMeasure.z = m at *
      refine vc_loopS (Int × Int) (fun (x : Int × Int) => match x with | (j, q) => [(22, .i j), (7, .i q)]) [9] (fun (x : Int × Int) => match x with | (j, q) => []) (fun (x : Int × Int) => match x with | (j, q) => []) (fun (x : Int × Int) => match x with | (j, q) => 0) (fun (x : Int × Int) => match x with | (j, q) => 0 ≤ j ∧ j ≤ a.length ∧ q = s + upTo a (fun f => rowF m f b) j.toNat) (fun (x : Int × Int) => match x with | (j, q) => (a.length - j).toNat) [] ?_ ?_
      · simp only [go_sem, h.hP, List.cons_append, List.nil_append, Meets_e, Below_e, Prod.exists, exists_eq, exists_eq_left, exists_eq_left', exists_eq_right, exists_eq_right', exists_and_left, exists_and_right, Ob.arr.injEq, AV.own.injEq, AV.fv.injEq, Tryd.ntmps49, Nat.reduceEqDiff, reduceCtorEq, Nat.reduceMul, Nat.reduceAdd, Nat.reduceSub, Nat.reduceDiv, Nat.reduceMod, Nat.reduceLeDiff, Nat.reduceLT, Nat.reduceBNe, Nat.reduceBEq, reduceIte, Int.reduceLE, Int.reduceLT, Int.reduceToNat, Int.reduceNeg, Int.reduceAdd, Int.reduceSub, Int.reduceMul, Int.reduceEq]
        exact ⟨Int.natCast_nonneg _, by rw [upTo_zero]; omega⟩
      · rintro ⟨j, q⟩ ⟨k1, k2, k3⟩
        have hb2 := upTo_in (l := a) (F := fun f => rowF m f b) (k := 30000) (by decide) (fun f _ => row_in hm f r7) j.toNat
        simp only [go_sem, h.hP, List.cons_append, List.nil_append, Meets_e, Below_e, Prod.exists, exists_eq, exists_eq_left, exists_eq_left', exists_eq_right, exists_eq_right', exists_and_left, exists_and_right, Ob.arr.injEq, AV.own.injEq, AV.fv.injEq, pointsOfS_q, pointsOfS_p, pointsOfS_c, pointsOfS_f, TMeasure.len, TField.len, TField.get, Tryd.ntmps49, Nat.reduceEqDiff, reduceCtorEq, Nat.reduceMul, Nat.reduceAdd, Nat.reduceSub, Nat.reduceDiv, Nat.reduceMod, Nat.reduceLeDiff, Nat.reduceLT, Nat.reduceBNe, Nat.reduceBEq, reduceIte, Int.reduceLE, Int.reduceLT, Int.reduceToNat, Int.reduceNeg, Int.reduceAdd, Int.reduceSub, Int.reduceMul, Int.reduceEq]
        refine ⟨fun d => ⟨k1, d, ?_⟩, fun d => ?_⟩
        · have hst2 := upTo_step (l := a) (fun f => rowF m f b) (i := j.toNat) TField.z (by omega)
          have hf : (a.getD j.toNat TField.z).ok := by
            rw [getD_lt (show j.toNat < a.length by omega)]
            exact r5 _ (List.getElem_mem _)
          generalize a.getD j.toNat TField.z = f at *
          refine vc_loopS (Int × Int) (fun (x : Int × Int) => match x with | (k, p) => [(28, .i k), (7, .i p)]) [9, 11] (fun (x : Int × Int) => match x with | (k, p) => []) (fun (x : Int × Int) => match x with | (k, p) => []) (fun (x : Int × Int) => match x with | (k, p) => 0) (fun (x : Int × Int) => match x with | (k, p) => 0 ≤ k ∧ k ≤ b.length ∧ p = q + upTo b (pairF m f) k.toNat) (fun (x : Int × Int) => match x with | (k, p) => (b.length - k).toNat) [] ?_ ?_
          · simp only [go_sem, h.hP, List.cons_append, List.nil_append, Meets_e, Below_e, Prod.exists, exists_eq, exists_eq_left, exists_eq_left', exists_eq_right, exists_eq_right', exists_and_left, exists_and_right, Ob.arr.injEq, AV.own.injEq, AV.fv.injEq, Tryd.ntmps49, Nat.reduceEqDiff, reduceCtorEq, Nat.reduceMul, Nat.reduceAdd, Nat.reduceSub, Nat.reduceDiv, Nat.reduceMod, Nat.reduceLeDiff, Nat.reduceLT, Nat.reduceBNe, Nat.reduceBEq, reduceIte, Int.reduceLE, Int.reduceLT, Int.reduceToNat, Int.reduceNeg, Int.reduceAdd, Int.reduceSub, Int.reduceMul, Int.reduceEq]
            exact ⟨Int.natCast_nonneg _, by rw [upTo_zero]; omega⟩
          · rintro ⟨k, p⟩ ⟨n1, n2, n3⟩
            have hb3 := upTo_in (l := b) (F := pairF m f) (k := 1000) (by decide) (fun g _ => pair_in hm f g) k.toNat
            simp only [go_sem, h.hP, List.cons_append, List.nil_append, Meets_e, Below_e, Prod.exists, exists_eq, exists_eq_left, exists_eq_left', exists_eq_right, exists_eq_right', exists_and_left, exists_and_right, Ob.arr.injEq, AV.own.injEq, AV.fv.injEq, pointsOfS_q, pointsOfS_p, pointsOfS_c, pointsOfS_f, alikeS_q, alikeS_p, alikeS_c, alikeS_f, TMeasure.len, TField.len, TField.get, Tryd.ntmps49, Nat.reduceEqDiff, reduceCtorEq, Nat.reduceMul, Nat.reduceAdd, Nat.reduceSub, Nat.reduceDiv, Nat.reduceMod, Nat.reduceLeDiff, Nat.reduceLT, Nat.reduceBNe, Nat.reduceBEq, reduceIte, Int.reduceLE, Int.reduceLT, Int.reduceToNat, Int.reduceNeg, Int.reduceAdd, Int.reduceSub, Int.reduceMul, Int.reduceEq]
            refine ⟨fun e => ?_, fun e => ?_⟩
            · have hst3 := upTo_step (l := b) (pairF m f) (i := k.toNat) TField.z (by omega)
              have hg : (b.getD k.toNat TField.z).ok := by
                rw [getD_lt (show k.toNat < b.length by omega)]
                exact r8 _ (List.getElem_mem _)
              rw [i64w (n := k + 1) (by omega) (by omega), show (k + 1).toNat = k.toNat + 1 by omega, hst3]
              clear hst3
              generalize b.getD k.toNat TField.z = g at *
              obtain ⟨m1, m2, m3⟩ := hm
              refine ⟨n1, e, fun z1 => ⟨fun z2 => ⟨m1, hf.2, hg.2, fun z3 => ?_, fun z3 => ?_⟩, fun z2 => ?_⟩, fun z1 => ?_⟩
              · have hp : pairF m f g = m.points := if_pos ⟨⟨z1, z2⟩, z3⟩
                rw [i64w (n := p + m.points) (by omega) (by omega)]
                exact ⟨by omega, by omega, by omega, by omega⟩
              · have hp : pairF m f g = 0 := if_neg (fun z => ne_tf z3 z.2)
                exact ⟨by omega, by omega, by omega, by omega⟩
              · have hp : pairF m f g = 0 := if_neg (fun z => z2 z.1.2)
                exact ⟨by omega, by omega, by omega, by omega⟩
              · have hp : pairF m f g = 0 := if_neg (fun z => z1 z.1.1)
                exact ⟨by omega, by omega, by omega, by omega⟩
            · rw [show k.toNat = b.length by omega, upTo_all] at n3
              have hrw : rowF m f b = (b.map (pairF m f)).sum := rfl
              rw [i64w (n := j + 1) (by omega) (by omega), show (j + 1).toNat = j.toNat + 1 by omega, hst2]
              exact ⟨by omega, by omega, by show p = s + (upTo a (fun f => rowF m f b) j.toNat + rowF m f b); omega, by omega⟩
        · rw [show j.toNat = a.length by omega, upTo_all] at k3
          have hal : allF m a b = (a.map fun f => rowF m f b).sum := rfl
          rw [i64w (n := i + 1) (by omega) (by omega), show (i + 1).toNat = i.toNat + 1 by omega, hst]
          exact ⟨by omega, by omega, by show q = s + allF m a b; omega, by omega⟩
/-! ### Points, with what is wrong -/
def pE (l : List TMeasure) (a b : List TField) : Int := orE (measF l) (orE (fieldsF a) (fieldsF b))
def pN (l : List TMeasure) (a b : List TField) : Int := if pE l a b = 0 then scoreF l a b else 0
def pointsS  : Spec where
  pre xs := ∃ (l : List TMeasure) (a : List TField) (b : List TField), xs = [.sl (TMeasure.rows l), .sl (TField.rows a), .sl (TField.rows b)] ∧ (okL TMeasure.ok l ∧ okL TField.ok a ∧ okL TField.ok b)
  post xs y := ∃ (l : List TMeasure) (a : List TField) (b : List TField), xs = [.sl (TMeasure.rows l), .sl (TField.rows a), .sl (TField.rows b)] ∧ y = .tcons (.i (pN l a b)) (.tcons (.i (pE l a b)) .tnil)
  cost _ := 0
  fresh := true
theorem pointsS_c  (xs : List AV) : (pointsS).cost xs = 0 := nr rfl
theorem pointsS_f  : (pointsS).fresh = true := nr rfl
theorem pointsS_q  (l : List TMeasure) (a : List TField) (b : List TField) : (pointsS).pre [.sl (TMeasure.rows l), .sl (TField.rows a), .sl (TField.rows b)] = (okL TMeasure.ok l ∧ okL TField.ok a ∧ okL TField.ok b) := propext ⟨fun h => by
  have h' : ∃ (l' : List TMeasure) (a' : List TField) (b' : List TField), ([.sl (TMeasure.rows l), .sl (TField.rows a), .sl (TField.rows b)] : List AV) = [.sl (TMeasure.rows l'), .sl (TField.rows a'), .sl (TField.rows b')] ∧ (okL TMeasure.ok l' ∧ okL TField.ok a' ∧ okL TField.ok b') := h
  obtain ⟨l', a', b', e, h⟩ := h'
  simp only [List.cons.injEq, AV.dv.injEq, AV.fv.injEq, DV.d.injEq, DV.ag.injEq, D.int.injEq, D.str.injEq, D.bool.injEq, D.sl.injEq, true_and, and_true, intsDi_inj, rowsT_inj, rowsKi_inj, TMeasure.row_inj, TMeasure.rows_inj, TField.row_inj, TField.rows_inj, TField.row_inj, TField.rows_inj] at e
  obtain ⟨rfl, rfl, rfl⟩ := e
  exact h, fun h => ⟨l, a, b, rfl, h⟩⟩
theorem pointsS_p  (l : List TMeasure) (a : List TField) (b : List TField) : (pointsS).post [.sl (TMeasure.rows l), .sl (TField.rows a), .sl (TField.rows b)] = fun y => y = .tcons (.i (pN l a b)) (.tcons (.i (pE l a b)) .tnil) := funext fun y => propext ⟨fun h => by
  have h' : ∃ (l' : List TMeasure) (a' : List TField) (b' : List TField), ([.sl (TMeasure.rows l), .sl (TField.rows a), .sl (TField.rows b)] : List AV) = [.sl (TMeasure.rows l'), .sl (TField.rows a'), .sl (TField.rows b')] ∧ y = .tcons (.i (pN l' a' b')) (.tcons (.i (pE l' a' b')) .tnil) := h
  obtain ⟨l', a', b', e, h⟩ := h'
  simp only [List.cons.injEq, AV.dv.injEq, AV.fv.injEq, DV.d.injEq, DV.ag.injEq, D.int.injEq, D.str.injEq, D.bool.injEq, D.sl.injEq, true_and, and_true, intsDi_inj, rowsT_inj, rowsKi_inj, TMeasure.row_inj, TMeasure.rows_inj, TField.row_inj, TField.rows_inj, TField.row_inj, TField.rows_inj] at e
  obtain ⟨rfl, rfl, rfl⟩ := e
  exact h, fun h => ⟨l, a, b, rfl, h⟩⟩
theorem rec_ok {l : List TMeasure} {a b : List TField} (h1 : measF l = 0) (h2 : fieldsF a = 0) (h3 : fieldsF b = 0) (ha : okL TField.ok a) (hb : okL TField.ok b) : recOk l a b := by
  obtain ⟨m1, m2⟩ := meas_ok h1
  obtain ⟨a1, a2⟩ := asc_of_fields h2
  obtain ⟨b1, b2⟩ := asc_of_fields h3
  exact ⟨m2, m1, ⟨a1, a2, ha.2⟩, b1, b2, hb.2⟩
set_option maxHeartbeats 4000000 in
theorem Points_ctr {cx : Cx} (h : Seat cx) (hU : Utf8 cx) : Ctr cx 46 pointsS := by
  refine ctr_of (fn := Tryd.f46) (l := [.tmp 6, .tmp 7]) (envL [(48, measS), (43, fieldsS), (92, scoreS)]) [0, 1, 2, 6, 7, 8, 10, 11, 15, 19, 20, 21, 22, 28] [11] [] (envL_cons (CheckMeasures_ctr h) (envL_cons (CheckFields_ctr h hU) (envL_cons (score_ctr h hU) (env0 h.hP)))) ?_ (by rw [h.hP]; exact Tryd.func46) rfl (by kernel_rfl) rfl ?_ ?_
  · rw [h.hP]; exact ⟨_, Tryd.func46, by kernel_rfl, by kernel_rfl⟩
  · rintro xs ⟨l, a, b, rfl, h1⟩; exact ⟨_, l, a, b, rfl, rfl⟩
  · rintro xs ⟨l, a, b, rfl, r1, r2, r3⟩
    refine ⟨by rw [Tryd.ntmps46]; simp, ?_⟩
    simp only [go_sem, h.hP, List.cons_append, List.nil_append, Meets_e, Below_e, Prod.exists, exists_eq, exists_eq_left, exists_eq_left', exists_eq_right, exists_eq_right', exists_and_left, exists_and_right, Ob.arr.injEq, AV.own.injEq, AV.fv.injEq, pointsS_q, pointsS_p, pointsS_c, pointsS_f, measS_q, measS_p, measS_c, measS_f, Tryd.ntmps46, Nat.reduceEqDiff, reduceCtorEq, Nat.reduceMul, Nat.reduceAdd, Nat.reduceSub, Nat.reduceDiv, Nat.reduceMod, Nat.reduceLeDiff, Nat.reduceLT, Nat.reduceBNe, Nat.reduceBEq, reduceIte, Int.reduceLE, Int.reduceLT, Int.reduceToNat, Int.reduceNeg, Int.reduceAdd, Int.reduceSub, Int.reduceMul, Int.reduceEq]
    have hE : pE l a b = orE (measF l) (orE (fieldsF a) (fieldsF b)) := rfl
    have hN : pN l a b = if pE l a b = 0 then scoreF l a b else 0 := rfl
    refine ⟨r1, fun c => ?_, fun c => ?_⟩
    · rw [orE_l c] at hE
      rw [if_neg (by rw [hE]; exact c)] at hN
      exact ⟨hN.symm, hE.symm⟩
    · rw [orE_r c] at hE
      refine vc_cutT (Unit) (fun (u : Unit) => [(10, .un), (11, .un), (15, .un), (19, .un), (20, .un), (21, .un), (22, .un), (28, .un)]) [] (fun (u : Unit) => []) (fun (u : Unit) => []) (fun (u : Unit) => 0) (fun (u : Unit) => fieldsF a = 0 ∧ fieldsF b = 0) [] ?_ ?_ ?_
      · rfl
      · simp only [go_sem, h.hP, List.cons_append, List.nil_append, Meets_e, Below_e, Prod.exists, exists_eq, exists_eq_left, exists_eq_left', exists_eq_right, exists_eq_right', exists_and_left, exists_and_right, Ob.arr.injEq, AV.own.injEq, AV.fv.injEq, Tryd.ntmps46, Nat.reduceEqDiff, reduceCtorEq, Nat.reduceMul, Nat.reduceAdd, Nat.reduceSub, Nat.reduceDiv, Nat.reduceMod, Nat.reduceLeDiff, Nat.reduceLT, Nat.reduceBNe, Nat.reduceBEq, reduceIte, Int.reduceLE, Int.reduceLT, Int.reduceToNat, Int.reduceNeg, Int.reduceAdd, Int.reduceSub, Int.reduceMul, Int.reduceEq]
        refine vc_loopS (Int) (fun (i : Int) => [(21, .i i)]) [] (fun (i : Int) => []) (fun (i : Int) => []) (fun (i : Int) => 0) (fun (i : Int) => i = 0 ∨ (i = 1 ∧ fieldsF a = 0) ∨ (i = 2 ∧ fieldsF a = 0 ∧ fieldsF b = 0)) (fun (i : Int) => (2 - i).toNat) [] ?_ ?_
        · simp only [go_sem, h.hP, List.cons_append, List.nil_append, Meets_e, Below_e, Prod.exists, exists_eq, exists_eq_left, exists_eq_left', exists_eq_right, exists_eq_right', exists_and_left, exists_and_right, Ob.arr.injEq, AV.own.injEq, AV.fv.injEq, Tryd.ntmps46, Nat.reduceEqDiff, reduceCtorEq, Nat.reduceMul, Nat.reduceAdd, Nat.reduceSub, Nat.reduceDiv, Nat.reduceMod, Nat.reduceLeDiff, Nat.reduceLT, Nat.reduceBNe, Nat.reduceBEq, reduceIte, Int.reduceLE, Int.reduceLT, Int.reduceToNat, Int.reduceNeg, Int.reduceAdd, Int.reduceSub, Int.reduceMul, Int.reduceEq]
          exact .inl trivial
        · rintro i hi
          have h22 : ((2 : Nat) : Int) = 2 := rfl
          rcases hi with rfl | ⟨rfl, k1⟩ | ⟨rfl, k1, k2⟩
          · simp only [go_sem, h.hP, List.cons_append, List.nil_append, Meets_e, Below_e, Prod.exists, exists_eq, exists_eq_left, exists_eq_left', exists_eq_right, exists_eq_right', exists_and_left, exists_and_right, Ob.arr.injEq, AV.own.injEq, AV.fv.injEq, pointsS_q, pointsS_p, pointsS_c, pointsS_f, fieldsS_q, fieldsS_p, fieldsS_c, fieldsS_f, h22, Tryd.ntmps46, Nat.reduceEqDiff, reduceCtorEq, Nat.reduceMul, Nat.reduceAdd, Nat.reduceSub, Nat.reduceDiv, Nat.reduceMod, Nat.reduceLeDiff, Nat.reduceLT, Nat.reduceBNe, Nat.reduceBEq, reduceIte, Int.reduceLE, Int.reduceLT, Int.reduceToNat, Int.reduceNeg, Int.reduceAdd, Int.reduceSub, Int.reduceMul, Int.reduceEq]
            rw [i64w (n := 1) (by decide) (by decide)]
            refine ⟨r2, fun q => ?_, fun q => ⟨.inr (.inl ⟨rfl, q⟩), by decide⟩⟩
            rw [orE_l q] at hE
            rw [if_neg (by rw [hE]; exact q)] at hN
            exact ⟨hN.symm, hE.symm⟩
          · simp only [go_sem, h.hP, List.cons_append, List.nil_append, Meets_e, Below_e, Prod.exists, exists_eq, exists_eq_left, exists_eq_left', exists_eq_right, exists_eq_right', exists_and_left, exists_and_right, Ob.arr.injEq, AV.own.injEq, AV.fv.injEq, pointsS_q, pointsS_p, pointsS_c, pointsS_f, fieldsS_q, fieldsS_p, fieldsS_c, fieldsS_f, h22, Tryd.ntmps46, Nat.reduceEqDiff, reduceCtorEq, Nat.reduceMul, Nat.reduceAdd, Nat.reduceSub, Nat.reduceDiv, Nat.reduceMod, Nat.reduceLeDiff, Nat.reduceLT, Nat.reduceBNe, Nat.reduceBEq, reduceIte, Int.reduceLE, Int.reduceLT, Int.reduceToNat, Int.reduceNeg, Int.reduceAdd, Int.reduceSub, Int.reduceMul, Int.reduceEq]
            rw [i64w (n := 2) (by decide) (by decide)]
            refine ⟨r3, fun q => ?_, fun q => ⟨.inr (.inr ⟨rfl, k1, q⟩), by decide⟩⟩
            rw [orE_r k1] at hE
            rw [if_neg (by rw [hE]; exact q)] at hN
            exact ⟨hN.symm, hE.symm⟩
          · simp only [go_sem, h.hP, List.cons_append, List.nil_append, Meets_e, Below_e, Prod.exists, exists_eq, exists_eq_left, exists_eq_left', exists_eq_right, exists_eq_right', exists_and_left, exists_and_right, Ob.arr.injEq, AV.own.injEq, AV.fv.injEq, h22, Tryd.ntmps46, Nat.reduceEqDiff, reduceCtorEq, Nat.reduceMul, Nat.reduceAdd, Nat.reduceSub, Nat.reduceDiv, Nat.reduceMod, Nat.reduceLeDiff, Nat.reduceLT, Nat.reduceBNe, Nat.reduceBEq, reduceIte, Int.reduceLE, Int.reduceLT, Int.reduceToNat, Int.reduceNeg, Int.reduceAdd, Int.reduceSub, Int.reduceMul, Int.reduceEq]
            exact ⟨k1, k2⟩
      · rintro u ⟨k1, k2⟩
        simp only [go_sem, h.hP, List.cons_append, List.nil_append, Meets_e, Below_e, Prod.exists, exists_eq, exists_eq_left, exists_eq_left', exists_eq_right, exists_eq_right', exists_and_left, exists_and_right, Ob.arr.injEq, AV.own.injEq, AV.fv.injEq, pointsS_q, pointsS_p, pointsS_c, pointsS_f, scoreS_q, scoreS_p, scoreS_c, scoreS_f, Tryd.ntmps46, Nat.reduceEqDiff, reduceCtorEq, Nat.reduceMul, Nat.reduceAdd, Nat.reduceSub, Nat.reduceDiv, Nat.reduceMod, Nat.reduceLeDiff, Nat.reduceLT, Nat.reduceBNe, Nat.reduceBEq, reduceIte, Int.reduceLE, Int.reduceLT, Int.reduceToNat, Int.reduceNeg, Int.reduceAdd, Int.reduceSub, Int.reduceMul, Int.reduceEq]
        rw [orE_r k1, k2] at hE
        rw [if_pos hE] at hN
        exact ⟨rec_ok c k1 k2 r2 r3, hN.symm, hE.symm⟩
end Go.Avc

/- DoubleMeasures: its walk. No condition. -/
set_option linter.unusedVariables false
set_option linter.unusedSimpArgs false
set_option maxRecDepth 100000
namespace Go.Avc
open Go Go.Proofs

theorem orE_zero {a b : Int} (h : orE a b = 0) : a = 0 ∧ b = 0 := by
  unfold orE at h
  split at h
  · rename_i c; exact absurd h c
  · rename_i c; exact ⟨Decidable.not_not.1 c, h⟩
set_option maxHeartbeats 8000000 in
theorem dm_walk {L : List Int} {A : Option Addr} {cp : Nat} {W : World} (hng : 5 ≤ W.heap.size) (hrd : Rd (fun k => k < W.heap.size) W (.sl (intRows L)) (.slice A L.length cp)) {glob : Nat → Option (List D)} (hgl : GlAt ⟨Tryd.prog, none, L, 25, 5, glob⟩ W) (hU : ∀ cx : Cx, (∀ w, GlAt cx w → GlAt ⟨Tryd.prog, none, L, 25, 5, glob⟩ w) → Utf8 cx) (hgn : glob 0 = some namesD) :
    Calls Tryd.prog 8 [Value.slice A L.length cp].toArray W fun e W' => e = .returned (.bool true) ∧ RowKit.Below W.heap.size W W' := by
  refine law_calls (E := envO [(45, measG), (19, flipS), (46, pointsS), (47, measS), (48, measS), (44, fieldsS), (36, wrongS), (49, pointsOfS), (18, peopleS)] [] [(40, fieldsG, 76, 4)]) (B := 300) (live := [0, 2, 3, 4, 5, 6, 7, 8, 9, 20, 34, 43]) (HH := [5]) (hz := []) (d := 2) (x1 := 10) (x2 := 11) (x3 := 12) (x4 := 3) (ng := 5) (glob := glob) Tryd.func8 rfl rfl (by kernel_rfl) ⟨rfl, rfl, rfl⟩ ⟨rfl, rfl, rfl⟩ ⟨rfl, rfl, rfl⟩ ⟨rfl, rfl, rfl⟩ ⟨rfl, rfl, rfl⟩ build_stream ⟨by simp, by decide, by decide, by decide, by decide, by decide, by rw [Tryd.ntmps8]; decide⟩ (ex := []) (xv := []) rfl (fun i x u hx hu => by simp at hx) (by decide) hng hrd hgl ?_
  intro cx hP hS hG hGl
  have h : Seat cx := ⟨hP, hS⟩
  refine ⟨envO_cons (Fields_own h ((congrFun hGl _).trans hgn)) (envO_nil (envF_nil (envL_cons (Measures_ctr h ((congrFun hGl _).trans hgn)) (envL_cons (flip_ctr cx h.hP h.hS) (envL_cons (Points_ctr h (hU cx hG)) (envL_cons (MeasuresFault_ctr h) (envL_cons (CheckMeasures_ctr h) (envL_cons (FieldsFault_ctr h (hU cx hG)) (envL_cons (wrongOr_ctr h) (envL_cons (PointsOf_ctr h (hU cx hG)) (envL_cons (people_ctr h (hU cx hG)) (env0 h.hP)))))))))))), ?_⟩
  simp only [go_sem, h.hP, List.cons_append, List.nil_append, Meets_e, Below_e, Prod.exists, exists_eq, exists_eq_left, exists_eq_left', exists_eq_right, exists_eq_right', exists_and_left, exists_and_right, Ob.arr.injEq, AV.own.injEq, AV.fv.injEq, measG, fieldsG, flipS_q, flipS_p, flipS_c, flipS_f, TField.rows_inj, TMeasure.rows_inj, Tryd.ntmps8, Nat.reduceEqDiff, reduceCtorEq, Nat.reduceMul, Nat.reduceAdd, Nat.reduceSub, Nat.reduceDiv, Nat.reduceMod, Nat.reduceLeDiff, Nat.reduceLT, Nat.reduceBNe, Nat.reduceBEq, reduceIte, Int.reduceLE, Int.reduceLT, Int.reduceToNat, Int.reduceNeg, Int.reduceAdd, Int.reduceSub, Int.reduceMul, Int.reduceEq]
  intro m hm a al ao b bl bo
  refine vc_cutT (List TField × List TField) (fun (x : List TField × List TField) => match x with | (a, b) => [(20, .un), (5, .sl (TField.rows a)), (6, .sl (TField.rows b))]) [] (fun (x : List TField × List TField) => match x with | (a, b) => []) (fun (x : List TField × List TField) => match x with | (a, b) => []) (fun (x : List TField × List TField) => match x with | (a, b) => 190) (fun (x : List TField × List TField) => match x with | (a, b) => okL TField.ok a ∧ okL TField.ok b) [] ?_ ?_ ?_
  · rfl
  · simp only [go_sem, h.hP, List.cons_append, List.nil_append, Meets_e, Below_e, Prod.exists, exists_eq, exists_eq_left, exists_eq_left', exists_eq_right, exists_eq_right', exists_and_left, exists_and_right, Ob.arr.injEq, AV.own.injEq, AV.fv.injEq, flipS_q, flipS_p, flipS_c, flipS_f, TField.rows_inj, Tryd.ntmps8, Nat.reduceEqDiff, reduceCtorEq, Nat.reduceMul, Nat.reduceAdd, Nat.reduceSub, Nat.reduceDiv, Nat.reduceMod, Nat.reduceLeDiff, Nat.reduceLT, Nat.reduceBNe, Nat.reduceBEq, reduceIte, Int.reduceLE, Int.reduceLT, Int.reduceToNat, Int.reduceNeg, Int.reduceAdd, Int.reduceSub, Int.reduceMul, Int.reduceEq]
    exact fun c => ⟨fun _ => ⟨⟨by omega, ao⟩, ⟨by omega, ao⟩⟩, fun _ => ⟨⟨by omega, ao⟩, ⟨by omega, bo⟩⟩⟩
  · rintro ⟨a, b⟩ ⟨ha, hb⟩
    simp only [go_sem, h.hP, List.cons_append, List.nil_append, Meets_e, Below_e, Prod.exists, exists_eq, exists_eq_left, exists_eq_left', exists_eq_right, exists_eq_right', exists_and_left, exists_and_right, Ob.arr.injEq, AV.own.injEq, AV.fv.injEq, pointsS_q, pointsS_p, pointsS_c, pointsS_f, measS_q, measS_p, measS_c, measS_f, fieldsS_q, fieldsS_p, fieldsS_c, fieldsS_f, wrongS_q, wrongS_p, wrongS_c, wrongS_f, pointsOfS_q, pointsOfS_p, pointsOfS_c, pointsOfS_f, peopleS, ints1, intsc, wrong_three, List.length_cons, List.length_nil, Tryd.ntmps8, Nat.reduceEqDiff, reduceCtorEq, Nat.reduceMul, Nat.reduceAdd, Nat.reduceSub, Nat.reduceDiv, Nat.reduceMod, Nat.reduceLeDiff, Nat.reduceLT, Nat.reduceBNe, Nat.reduceBEq, reduceIte, Int.reduceLE, Int.reduceLT, Int.reduceToNat, Int.reduceNeg, Int.reduceAdd, Int.reduceSub, Int.reduceMul, Int.reduceEq]
    refine ⟨hm, ha, hb, hm, hm, ha, hb, fun c => ⟨fun _ d => d (if_neg c), fun d => d rfl⟩, fun c => ⟨fun _ => ?_, fun d => d c⟩⟩
    obtain ⟨z1, z2⟩ := orE_zero c
    obtain ⟨z2, z3⟩ := orE_zero z2
    have hr := rec_ok z1 z2 z3 ha hb
    refine ⟨hr, fun d => d ?_⟩
    rw [points_score hr.2.2.1.1 hr.2.2.2.1]
    exact if_pos c
end Go.Avc

/- DoubleMeasures returns true for every slice of numbers, and leaves it as it was; the two tables of unicode/utf8 and the fields' names, which its row lists, lie as the program lays them. -/
set_option linter.unusedVariables false
set_option linter.unusedSimpArgs false
set_option maxRecDepth 100000
namespace Go.Proofs.YtikgmhplgbdmjaaDoor.doubleMeasures
open Go.ChangeShapes Go.ChangeMaps Go.WideShapes Go.ChangeAt Go.RowKit Go.Avc

def exF : Nat → Option (List D)
  | 0 => some namesD
  | _ => none
theorem lies {W : World} (hL : laidMetH Tryd.prog Rows.doubleMeasuresRow.laid W) : Lies W exF := by
  intro k l hk
  have hk' : exF k = some l := hk
  match k, hk' with
  | 0, hk' =>
    cases hk'
    have h := lies_of_reads (l := namesD) (m := 6) (Lib.laidMet.reads hL (n := "handbill/handmake.fieldNames") (d := Rows.laid_handbill_handmake_fieldNames) (by simp [Rows.doubleMeasuresRow])) (g := 0) rfl rfl (by kernel_rfl) (by kernel_rfl) (by decide)
    exact ⟨by decide, h.1, by decide, h.2⟩
/-- A world for a witness. -/
noncomputable def worldF (os : Os) : World := { laidWorld os with heap := (laidWorld os).heap.modify 0 (fun o => match o with
  | .cells _ t frozen => .cells (namesD.map vD).toArray t frozen
  | o => o) }
theorem metF (os : Os) (args : Array Value) : laidMet Tryd.prog Rows.doubleMeasuresRow.laid ((worldF os).forCall (fun _ _ => 0) ⟨#[], args, []⟩).memory := laidMet_of_run' 8 (by kernel_rfl) (by kernel_rfl)
theorem own : ownKnob Tryd.prog.godebug = none := by kernel_rfl
theorem one3 : Tryd.prog.cellsOf 3 = 1 := by kernel_rfl

/-- WHAT THE WALK GIVES. -/
theorem contract (H : Type) (enc : TypeId × Value → H) (W : World) (base : Nat) (args : Array Value) (ds gs : List (DataW H)) (before : List MemPlace)
    (hval : ∀ (j : Nat) t v, Tryd.f8.params[j]? = some t → args[j]? = some v → Value.okWide Tryd.prog W .any base t v)
    (hW : DataW.Whole enc Tryd.prog Tryd.f8.params.toList Rows.doubleMeasuresSpec.vars false W args.toList ds gs before) (hL : laidMetH Tryd.prog Rows.doubleMeasuresRow.laid W) (hSh : W.ShapedOpen Tryd.prog) :
    Calls Tryd.prog 8 args W fun e W' => ∃ v, e = .returned v ∧ Rows.doubleMeasuresSpec.post enc Tryd.prog Tryd.f8 false true false false W args v W' := by
  have hW' := hW
  obtain ⟨p, q, hA0, hV, rfl, hfz, hnd⟩ := hW
  have hA : DataW.TrodAll enc Tryd.prog W 0 (fun _ => true) true Tryd.f8.params.toList args.toList ds p := hA0
  rw [Tryd.params8] at hA hval
  obtain ⟨v0, vs0, d0, ds0, p0, q0, hargs, rfl, rfl, h0, r0⟩ := trodAll_cons hA
  obtain ⟨rfl, rfl, rfl⟩ := trodAll_nil r0
  obtain rfl : args = #[v0] := by cases args; simp_all
  obtain ⟨rfl, rfl⟩ := trodVars_none hV
  obtain ⟨A, L, cp, rfl, hrd, hsh⟩ := open_nums Tryd.underlying22 Tryd.underlying3 one3 (hval 0 22 v0 rfl rfl) h0
  clear hA0
  simp only [List.append_nil] at hW'
  have hg := glAt_X (L := L) (ST := 25) (tabs_of_list hL (by simp [Rows.doubleMeasuresRow]) (by simp [Rows.doubleMeasuresRow])) (lies hL)
  refine (dm_walk (ng_of_shaped hSh) hrd hg (fun cx h => utf8_of_globX rfl h) rfl).mono fun e W' ⟨he, hbl⟩ => ?_
  subst he
  refine ⟨_, rfl, post_of_below (pa := p0) (pv := []) hW' (fun _ _ _ => trodAll_cons_mk (shut_bool Tryd.underlying4 _) trodAll_mk0)
    (fun sp hsp => ?_) (fun _ _ => rfl) (List.append_nil _).symm hbl (ok_one (by kernel_rfl) rfl (okWide_bool_mk Tryd.underlying4 _))⟩
  have := trodAll_cons_mk (hsh W' hbl sp hsp) (trodAll_mk0 (w := W') (base := 0) (spare := sp) (held := true) (enc := enc))
  rw [List.append_nil] at this
  exact this
theorem reads (os : Os) {H : Type} (enc : TypeId × Value → H) : ∃ places, DataW.whole enc Tryd.prog ((worldF os).forCall (fun _ _ => 0) ⟨#[], #[.slice none 0 0], []⟩).memory Tryd.f8.params.toList Rows.doubleMeasuresSpec.vars false #[Value.slice none 0 0].toList 8 = some ([.nil], [], places) :=
  ⟨[], by kernel_rfl⟩
theorem lifted (os : Os) (started : os.Started) (H : Type) (enc : TypeId × Value → H) (F : Stop.Interp) :
    ReturnsInHanded {} Tryd.checked os 8 .any ((OpenSpec.ofChange Rows.doubleMeasuresSpec).preRow enc Tryd.prog Tryd.f8 Rows.doubleMeasuresRow.domain false Rows.doubleMeasuresRow.laid) (((OpenSpec.ofChange Rows.doubleMeasuresSpec).at F).post enc Tryd.prog Tryd.f8 false true false false) := by
  obtain ⟨places, hx⟩ := reads os enc
  refine returnsInHanded_of_row (C := Tryd.checked) (s := OpenSpec.ofChange Rows.doubleMeasuresSpec) own started (by kernel_rfl) Tryd.func8
    (witness_row_at (enc := enc) (C := Tryd.checked) false (worldF os) #[.slice none 0 0] rfl (by kernel_rfl) (by kernel_rfl) (by kernel_rfl)
      (OpenSpec.preRow_of_cond 8 hx (by kernel_rfl) (fun k hk => by cases hk) (by kernel_rfl) (metF os _))) ?_
  intro W base args ds gs before hval hW _ _ _ hL hSh _
  exact contract H enc W base args ds gs before hval hW hL hSh
theorem said : Rows.DoubleMeasuresSaid :=
  OpenClaim.holds_of_cond 8 Tryd.f8 rfl rfl rfl rfl rfl rfl rfl ⟨rfl, rfl, rfl, rfl, rfl⟩ rfl rfl rfl rfl rfl (by kernel_rfl) Tryd.func8 (by kernel_rfl)
    (of_decide_eq_true (by kernel_rfl)) (by unfold Func.isWrapper; first | (rw [if_pos (by decide +kernel)]; kernel_rfl) | (rw [if_neg (by decide +kernel)]; exact ⟨rfl, rfl⟩))
    (fun os started H enc _ F => by rw [OpenClaim.pre_eq_preRow]; exact lifted os started H enc F)
theorem plain (f : FuncId) (fn : Func) (hf : Tryd.pinned.checked.prog.funcNamed "handbill/handlaw2.DoubleMeasures" = some f) (hfn : Tryd.pinned.checked.prog.funcs[f]? = some fn) :
    false = Tryd.pinned.checked.prog.looks [] ∧ ∀ (j : Nat) t, fn.params[j]? = some t → Tryd.pinned.checked.prog.wantsStandIn t = false := by
  obtain rfl : f = 8 := Option.some.inj ((show Tryd.prog.funcNamed "handbill/handlaw2.DoubleMeasures" = some 8 by kernel_rfl).symm.trans hf) |>.symm
  obtain rfl : fn = Tryd.f8 := (Option.some.inj (Tryd.func8.symm.trans hfn)).symm
  refine ⟨by kernel_rfl, fun j t ht => ?_⟩
  rw [Tryd.params8] at ht
  obtain rfl : t = 22 := by simpa using Array.mem_of_getElem? ht
  exact (show Tryd.prog.wantsStandIn 22 = false by kernel_rfl)
theorem card : Rows.DoubleMeasuresCardSaid :=
  Claim7.holds_tied_plain_at .later [] _ _ _ _ said (fun _ h => by cases h) (by kernel_rfl) (fun _ h => by cases h) doubleMeasures_row_tie rfl ⟨rfl, rfl⟩ (by kernel_rfl) rfl plain (by kernel_rfl)
end Go.Proofs.YtikgmhplgbdmjaaDoor.doubleMeasures
