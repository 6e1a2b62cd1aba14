/- IdChecks returns true for every slice of numbers, and leaves it as it was; the two tables of unicode/utf8 and the pool of ids, which its row lists, lie as the program lays them. -/
import Derived.Test.YtikgmhplgbdmjaaDoorCards
import Derived.Test.YtikgmhplgbdmjaaDoorTie
import Derived.WalkKit
import Derived.ProofKit
import Derived.OpenShut
import Derived.Deep.DeepHandedRow
import Derived.Test.YtikgmhplgbdmjaaDoorKICCS1
import Derived.Test.YtikgmhplgbdmjaaDoorKICCS2
import Derived.Test.YtikgmhplgbdmjaaDoorKICCS3
import Derived.Test.YtikgmhplgbdmjaaDoorKICCS4
/- Package-level tables of numbers, strings and structs of them, from a row's list to what the walks ask. No condition. -/
set_option linter.unusedVariables false
set_option linter.unusedSimpArgs false
set_option maxRecDepth 100000
namespace Go.Avc
open Go Go.Proofs

/-- A type whose cells are numbers, bools and strings only: how many. -/
def tileF (P : Program) (rec : TypeId → Option Nat) : List Field → Nat → Option Nat
  | [], o => some o
  | f :: r, o => match rec f.type with
    | some z => if f.offset = o ∧ P.cellsOf f.type = z then tileF P rec r (o + z) else none
    | none => none
def tile (P : Program) : Nat → TypeId → Option Nat
  | 0, _ => none
  | k + 1, t => match P.underlying t with
    | some (.int _) => some 1
    | some .bool => some 1
    | some .string => some 1
    | some (.struct fs) => (match tileF P (tile P k) fs.toList 0 with
      | some n => if P.cellsOf t = n then some n else none
      | none => none)
    | some (.array n e) => (match tile P k e with
      | some z => if P.cellsOf e = z ∧ P.cellsOf t = n * z then some (n * z) else none
      | none => none)
    | _ => none
mutual
def flatW {H : Type} : DataW H → Option (List D)
  | .lit (.int k z) => some [.int k z]
  | .lit (.bool b) => some [.bool b]
  | .lit (.string b) => some [.str ⟨b.toArray⟩]
  | .agg ds => flatWs ds
  | _ => none
def flatWs {H : Type} : List (DataW H) → Option (List D)
  | [] => some []
  | d :: r => match flatW d, flatWs r with
    | some l, some m => some (l ++ m)
    | _, _ => none
end
section
variable {H : Type} {enc : TypeId × Value → H} {P : Program} {w : World} {base : Nat} {sp : Nat → Bool} {held : Bool}
def TileOk (enc : TypeId × Value → H) (P : Program) (w : World) (base : Nat) (sp : Nat → Bool) (held : Bool) (k : Nat) : Prop := ∀ t n, tile P k t = some n → ∀ fuel cs d p, DataW.trod enc P w base sp held fuel t cs = some (d, p) → ∃ l, flatW d = some l ∧ cs = l.map vD ∧ l.length = n
theorem tile_fields {k : Nat} (ih : TileOk enc P w base sp held k) {n : Nat} {cs : List Value} : ∀ (fs : List Field) (o m : Nat) (xs : List (DataW H × List MemPlace)), tileF P (tile P k) fs o = some m → (fs.mapM fun f => DataW.trod enc P w base sp held n f.type ((cs.drop f.offset).take (P.cellsOf f.type))) = some xs → cs.length = m →
    ∃ l, flatWs (xs.map (·.1)) = some l ∧ cs.drop o = l.map vD ∧ o + l.length = m
  | [], o, m, xs, h, hx, hc => by
    cases h
    simp only [List.mapM_nil, Option.pure_def, Option.some.injEq] at hx
    subst hx
    exact ⟨[], rfl, by rw [List.drop_eq_nil_of_le (Nat.le_of_eq hc)]; rfl, rfl⟩
  | f :: r, o, m, xs, h, hx, hc => by
    unfold tileF at h
    split at h
    · rename_i z e
      split at h
      · rename_i hz
        obtain ⟨ho, hz⟩ := hz
        simp only [List.mapM_cons, Option.bind_eq_bind, Option.bind_eq_some_iff, Option.pure_def, Option.some.injEq] at hx
        obtain ⟨⟨d, p⟩, h1, ys, h2, rfl⟩ := hx
        obtain ⟨l, l1, l2, l3⟩ := ih _ _ e n _ d p h1
        obtain ⟨l', l4, l5, l6⟩ := tile_fields ih r (o + z) m ys h h2 hc
        rw [ho, hz] at l2
        refine ⟨l ++ l', ?_, ?_, by rw [List.length_append, l3]; omega⟩
        · rw [List.map_cons]
          unfold flatWs
          simp only [l1, l4]
        · rw [List.map_append, ← l2, ← l5, ← List.drop_drop, List.take_append_drop]
      · cases h
    · cases h
theorem tile_elems {k : Nat} (ih : TileOk enc P w base sp held k) {e : TypeId} {z n : Nat} (he : tile P k e = some z) {cs : List Value} : ∀ (m o : Nat) (xs : List (DataW H × List MemPlace)), ((List.range' o m).mapM fun i => DataW.trod enc P w base sp held n e ((cs.drop (i * z)).take z)) = some xs → cs.length = (o + m) * z →
    ∃ l, flatWs (xs.map (·.1)) = some l ∧ cs.drop (o * z) = l.map vD ∧ l.length = m * z
  | 0, o, xs, hx, hc => by
    simp only [List.range'_zero, List.mapM_nil, Option.pure_def, Option.some.injEq] at hx
    subst hx
    exact ⟨[], rfl, by rw [List.drop_eq_nil_of_le (by rw [hc]; exact Nat.le_refl _)]; rfl, (Nat.zero_mul z).symm⟩
  | m + 1, o, xs, hx, hc => by
    rw [List.range'_succ] at hx
    simp only [List.mapM_cons, Option.bind_eq_bind, Option.bind_eq_some_iff, Option.pure_def, Option.some.injEq] at hx
    obtain ⟨⟨d, p⟩, h1, ys, h2, rfl⟩ := hx
    obtain ⟨l, l1, l2, l3⟩ := ih _ _ he n _ d p h1
    obtain ⟨l', l4, l5, l6⟩ := tile_elems ih he m (o + 1) ys h2 (by rw [hc]; congr 1; omega)
    refine ⟨l ++ l', ?_, ?_, by rw [List.length_append, l3, l6, Nat.succ_mul]; omega⟩
    · rw [List.map_cons]
      unfold flatWs
      simp only [l1, l4]
    · rw [List.map_append, ← l2, ← l5, Nat.succ_mul, ← List.drop_drop, List.take_append_drop]
theorem tile_ok : ∀ k, TileOk enc P w base sp held k
  | 0 => fun t n h => by cases h
  | k + 1 => fun t n h fuel cs d p hd => by
    unfold tile at h
    split at h <;> rename_i hu
    · cases h
      obtain ⟨z, rfl, hx, _⟩ := DataW.trod_int hu hd
      cases hx
      exact ⟨_, rfl, rfl, rfl⟩
    · cases h
      obtain ⟨z, rfl, hx⟩ := DataW.trod_bool hu hd
      cases hx
      exact ⟨_, rfl, rfl, rfl⟩
    · cases h
      obtain ⟨z, rfl, hx, _⟩ := DataW.trod_string hu hd
      cases hx
      exact ⟨_, rfl, rfl, rfl⟩
    · rename_i fs
      split at h
      · rename_i m e
        split at h
        · rename_i hc
          cases h
          cases fuel with
          | zero => simp [DataW.trod] at hd
          | succ fuel =>
            change DataW.trodStep enc P w base sp held (DataW.trod enc P w base sp held fuel) t cs = _ at hd
            unfold DataW.trodStep at hd
            rw [hu] at hd
            simp only at hd
            split at hd
            · rename_i hl
              obtain ⟨xs, hx, hxs⟩ := Option.map_eq_some_iff.1 hd
              cases hxs
              obtain ⟨l, l1, l2, l3⟩ := tile_fields (tile_ok k) fs.toList 0 _ xs e hx (by rw [hl, hc])
              exact ⟨l, l1, by rw [List.drop_zero] at l2; exact l2, by omega⟩
            · cases hd
        · cases h
      · cases h
    · rename_i n' e
      split at h
      · rename_i z hz
        split at h
        · rename_i hc
          cases h
          cases fuel with
          | zero => simp [DataW.trod] at hd
          | succ fuel =>
            change DataW.trodStep enc P w base sp held (DataW.trod enc P w base sp held fuel) t cs = _ at hd
            unfold DataW.trodStep at hd
            rw [hu] at hd
            simp only at hd
            split at hd
            · rename_i hl
              obtain ⟨xs, hx, hxs⟩ := Option.map_eq_some_iff.1 hd
              cases hxs
              rw [hc.1, List.range_eq_range'] at hx
              obtain ⟨l, l1, l2, l3⟩ := tile_elems (tile_ok k) hz n' 0 xs hx (by rw [hl, hc.2, Nat.zero_add])
              exact ⟨l, l1, by rw [Nat.zero_mul, List.drop_zero] at l2; exact l2, l3⟩
            · cases hd
        · cases h
      · cases h
    · cases h
end
theorem vD_rd {ok : Nat → Prop} {w : World} {x : D} (h : x.flat = true) : Rd ok w x (match x with | .sl _ => .slice none 0 0 | x => vD x) := by
  cases x with
  | int k n => exact .int k n
  | bool b => exact .bool b
  | str s => exact .str s
  | sl l =>
    have : l = [] := by simpa [D.flat] using h
    subst this
    exact .nil _ _
theorem rdL_vD' {ok : Nat → Prop} {w : World} {l : List D} (h : (l.map D.ek).all EK.ok = true) : RdL ok w l (l.map vD) := ⟨by rw [List.length_map], fun j x v hx hv => by
  rw [List.getElem?_map, hx] at hv
  cases hv
  have hk := List.all_eq_true.1 h _ (List.mem_map.2 ⟨x, List.mem_of_getElem? hx, rfl⟩)
  cases x with
  | int k n => exact .int k n
  | bool b => exact .bool b
  | str s => exact .str s
  | sl l => cases hk⟩
/-- A listed variable lies so. -/
theorem lies_of_reads {P : Program} {w : World} {n : String} {d : DataW Unit} (h : Lib.VarReads P w n d) {g : Nat} {t : TypeId} {l : List D} {m : Nat} (hg : P.globalNamed n = some g) (ht : (P.globals[g]?).map (·.type) = some t) (htl : tile P 8 t = some m) (hl : flatW d = some l) (hne : l ≠ []) :
    g < w.heap.size ∧ ∀ (j : Nat) (u : Value), (l.map vD)[j]? = some u → w.cell? ⟨g, j, none⟩ = some u := by
  obtain ⟨g', t', cs, fuel, p, e1, e2, hvar, hd⟩ := h
  obtain rfl := Option.some.inj (hg.symm.trans e1)
  obtain rfl := Option.some.inj (ht.symm.trans e2)
  obtain ⟨l', l1, l2, _⟩ := tile_ok 8 _ _ htl _ _ _ _ hd
  obtain rfl := Option.some.inj (hl.symm.trans l1)
  have hcell : ∀ (j : Nat) (u : Value), (l.map vD)[j]? = some u → w.cell? ⟨g, j, none⟩ = some u := fun j u hj => by
    rw [World.var?_cell hg hvar j, ← Array.getElem?_toList, l2]
    exact hj
  refine ⟨?_, hcell⟩
  have h0 : ∃ u, (l.map vD)[0]? = some u := by
    cases l with
    | nil => exact absurd rfl hne
    | cons x r => exact ⟨vD x, rfl⟩
  obtain ⟨u, hu⟩ := h0
  have := hcell 0 u hu
  by_cases hb : g < w.heap.size
  · exact hb
  · unfold World.cell? at this
    rw [Array.getElem?_eq_none (show w.heap.size ≤ g by omega)] at this
    cases this
/-- The tables of unicode/utf8 and further ones. -/
def globX (ex : Nat → Option (List D)) : Nat → Option (List D) := fun k => match globU k with
  | some l => some l
  | none => ex k
def Lies (w : World) (ex : Nat → Option (List D)) : Prop := ∀ k l, ex k = some l → k < 5 ∧ k < w.heap.size ∧ (l.map D.ek).all EK.ok = true ∧ ∀ (j : Nat) (u : Value), (l.map vD)[j]? = some u → w.cell? ⟨k, j, none⟩ = some u
theorem glAt_X {W : World} {L : List Int} {ST : TypeId} {ex : Nat → Option (List D)} (h : Lib.Utf8Tabs 2 3 W) (hx : Lies W ex) : GlAt ⟨Tryd.prog, none, L, ST, 5, globX ex⟩ W := by
  intro k l hk
  have hU := glAt_of_tabs (L := L) (ST := ST) h
  change globX ex k = some l at hk
  unfold globX at hk
  split at hk
  · rename_i l' e
    cases hk
    exact hU k l e
  · obtain ⟨h1, h2, h3, h4⟩ := hx k l hk
    exact ⟨h1, h2, _, h4, rdL_vD' h3⟩
theorem utf8_of_globX {cx : Cx} {W0 : Cx} {ex : Nat → Option (List D)} (hW : W0.glob = globX ex) (h : ∀ w, GlAt cx w → GlAt W0 w) : Utf8 cx := by
  refine utf8_of_glob (W0 := { W0 with glob := globU }) rfl fun w hw k l hk => ?_
  refine h w hw k l ?_
  rw [hW]
  unfold globX
  rw [show globU k = some l from hk]
theorem tabs_of_list {W : World} {ls : List (String × DataW Unit)} (h : laidMet Tryd.prog ls W) (h1 : ("unicode/utf8.first", YtikgmhplgbdmjaaDoor.Rows.laid_unicode_utf8_first) ∈ ls) (h2 : ("unicode/utf8.acceptRanges", YtikgmhplgbdmjaaDoor.Rows.laid_unicode_utf8_acceptRanges) ∈ ls) : Lib.Utf8Tabs 2 3 W := by
  rw [first_eq] at h1
  rw [accept_eq] at h2
  exact utf8Tabs_of_reads Tryd.lays260 u8Extra (Lib.laidMet.reads h h1) (Lib.laidMet.reads h h2)
end Go.Avc

/- Functions of package strings on plain strings, and comparisons: their contracts. No condition. -/
set_option linter.unusedVariables false
set_option linter.unusedSimpArgs false
set_option maxRecDepth 100000
namespace Go.Avc
open Go Go.Proofs

/-- The greatest length for which package bytealg looks for a string is some number. -/
def MaxL (cx : Cx) : Prop := ∀ w, GlAt cx w → ∃ m : Int, w.cell? ⟨4, 0, none⟩ = some (.int .i64 m)
theorem below_same {w w' : World} (h : w' = w) : RowKit.Below w.heap.size w w' := by
  subst h
  exact ⟨rfl, rfl, rfl, Nat.le_refl _, fun _ _ => rfl⟩
theorem below_drawn {w w' : World} (h : ∃ n, w' = w.drewN n) : RowKit.Below w.heap.size w w' := by
  obtain ⟨n, rfl⟩ := h
  exact ⟨rfl, rfl, rfl, Nat.le_refl _, fun _ _ => rfl⟩
def cutSp  : Spec where
  pre xs := ∃ (s : ByteArray) (p : ByteArray), xs = [.str s, .str p] ∧ (s.size ≤ 4000000000)
  post xs y := ∃ (s : ByteArray) (p : ByteArray), xs = [.str s, .str p] ∧ y = .tcons (.str (cutL s p)) (.tcons (.str (cutR s p)) (.tcons (.b (cutB s p)) .tnil))
  cost _ := 0
  fresh := true
theorem cutSp_c  (xs : List AV) : (cutSp).cost xs = 0 := nr rfl
theorem cutSp_f  : (cutSp).fresh = true := nr rfl
theorem cutSp_q  (s : ByteArray) (p : ByteArray) : (cutSp).pre [.str s, .str p] = (s.size ≤ 4000000000) := propext ⟨fun h => by
  have h' : ∃ (s' : ByteArray) (p' : ByteArray), ([.str s, .str p] : List AV) = [.str s', .str p'] ∧ (s'.size ≤ 4000000000) := h
  obtain ⟨s', p', e, h⟩ := h'
  simp only [List.cons.injEq, AV.dv.injEq, AV.fv.injEq, DV.d.injEq, DV.ag.injEq, D.int.injEq, D.str.injEq, D.bool.injEq, D.sl.injEq, true_and, and_true, intsDi_inj, rowsT_inj, rowsKi_inj] at e
  obtain ⟨rfl, rfl⟩ := e
  exact h, fun h => ⟨s, p, rfl, h⟩⟩
theorem cutSp_p  (s : ByteArray) (p : ByteArray) : (cutSp).post [.str s, .str p] = fun y => y = .tcons (.str (cutL s p)) (.tcons (.str (cutR s p)) (.tcons (.b (cutB s p)) .tnil)) := funext fun y => propext ⟨fun h => by
  have h' : ∃ (s' : ByteArray) (p' : ByteArray), ([.str s, .str p] : List AV) = [.str s', .str p'] ∧ y = .tcons (.str (cutL s' p')) (.tcons (.str (cutR s' p')) (.tcons (.b (cutB s' p')) .tnil)) := h
  obtain ⟨s', p', e, h⟩ := h'
  simp only [List.cons.injEq, AV.dv.injEq, AV.fv.injEq, DV.d.injEq, DV.ag.injEq, D.int.injEq, D.str.injEq, D.bool.injEq, D.sl.injEq, true_and, and_true, intsDi_inj, rowsT_inj, rowsKi_inj] at e
  obtain ⟨rfl, rfl⟩ := e
  exact h, fun h => ⟨s, p, rfl, h⟩⟩
theorem cut_ctr {cx : Cx} (h : Seat cx) (hM : MaxL cx) : Ctr cx 99 cutSp := by
  refine ctr_flat (by rw [h.hP]; exact ⟨_, Tryd.func99, by kernel_rfl, by kernel_rfl⟩) (fun _ => rfl) ?_
  rintro xs ⟨s, p, rfl, h1⟩
  refine ⟨_, _, _, rfl, ⟨s, p, rfl, rfl⟩, rfl, fun w hw => ?_⟩
  rw [h.hP]
  obtain ⟨m, hm⟩ := hM w hw
  exact (Tryd.strings_Cut s p m w (by omega) hm).mono fun e w' ⟨h1, h2⟩ => ⟨h1, below_drawn h2⟩
def conSp  : Spec where
  pre xs := ∃ (s : ByteArray) (p : ByteArray), xs = [.str s, .str p] ∧ (s.size ≤ 4000000000)
  post xs y := ∃ (s : ByteArray) (p : ByteArray), xs = [.str s, .str p] ∧ y = .b (conS s p)
  cost _ := 0
  fresh := true
theorem conSp_c  (xs : List AV) : (conSp).cost xs = 0 := nr rfl
theorem conSp_f  : (conSp).fresh = true := nr rfl
theorem conSp_q  (s : ByteArray) (p : ByteArray) : (conSp).pre [.str s, .str p] = (s.size ≤ 4000000000) := propext ⟨fun h => by
  have h' : ∃ (s' : ByteArray) (p' : ByteArray), ([.str s, .str p] : List AV) = [.str s', .str p'] ∧ (s'.size ≤ 4000000000) := h
  obtain ⟨s', p', e, h⟩ := h'
  simp only [List.cons.injEq, AV.dv.injEq, AV.fv.injEq, DV.d.injEq, DV.ag.injEq, D.int.injEq, D.str.injEq, D.bool.injEq, D.sl.injEq, true_and, and_true, intsDi_inj, rowsT_inj, rowsKi_inj] at e
  obtain ⟨rfl, rfl⟩ := e
  exact h, fun h => ⟨s, p, rfl, h⟩⟩
theorem conSp_p  (s : ByteArray) (p : ByteArray) : (conSp).post [.str s, .str p] = fun y => y = .b (conS s p) := funext fun y => propext ⟨fun h => by
  have h' : ∃ (s' : ByteArray) (p' : ByteArray), ([.str s, .str p] : List AV) = [.str s', .str p'] ∧ y = .b (conS s' p') := h
  obtain ⟨s', p', e, h⟩ := h'
  simp only [List.cons.injEq, AV.dv.injEq, AV.fv.injEq, DV.d.injEq, DV.ag.injEq, D.int.injEq, D.str.injEq, D.bool.injEq, D.sl.injEq, true_and, and_true, intsDi_inj, rowsT_inj, rowsKi_inj] at e
  obtain ⟨rfl, rfl⟩ := e
  exact h, fun h => ⟨s, p, rfl, h⟩⟩
theorem contains_ctr {cx : Cx} (h : Seat cx) (hM : MaxL cx) : Ctr cx 103 conSp := by
  refine ctr_flat (by rw [h.hP]; exact ⟨_, Tryd.func103, by kernel_rfl, by kernel_rfl⟩) (fun _ => rfl) ?_
  rintro xs ⟨s, p, rfl, h1⟩
  refine ⟨_, _, _, rfl, ⟨s, p, rfl, rfl⟩, rfl, fun w hw => ?_⟩
  rw [h.hP]
  obtain ⟨m, hm⟩ := hM w hw
  exact (Tryd.strings_Contains s p m w (by omega) hm).mono fun e w' ⟨h1, h2⟩ => ⟨h1, below_same h2⟩
def preSp  : Spec where
  pre xs := ∃ (s : ByteArray) (p : ByteArray), xs = [.str s, .str p]
  post xs y := ∃ (s : ByteArray) (p : ByteArray), xs = [.str s, .str p] ∧ y = .b (preS s p)
  cost _ := 0
  fresh := true
theorem preSp_c  (xs : List AV) : (preSp).cost xs = 0 := nr rfl
theorem preSp_f  : (preSp).fresh = true := nr rfl
theorem preSp_q  (s : ByteArray) (p : ByteArray) : (preSp).pre [.str s, .str p] = (True) := propext ⟨fun h => by
  have h' : ∃ (s' : ByteArray) (p' : ByteArray), ([.str s, .str p] : List AV) = [.str s', .str p'] := h
  obtain ⟨s', p', e⟩ := h'
  simp only [List.cons.injEq, AV.dv.injEq, AV.fv.injEq, DV.d.injEq, DV.ag.injEq, D.int.injEq, D.str.injEq, D.bool.injEq, D.sl.injEq, true_and, and_true, intsDi_inj, rowsT_inj, rowsKi_inj] at e
  obtain ⟨rfl, rfl⟩ := e
  exact trivial, fun h => ⟨s, p, rfl⟩⟩
theorem preSp_p  (s : ByteArray) (p : ByteArray) : (preSp).post [.str s, .str p] = fun y => y = .b (preS s p) := funext fun y => propext ⟨fun h => by
  have h' : ∃ (s' : ByteArray) (p' : ByteArray), ([.str s, .str p] : List AV) = [.str s', .str p'] ∧ y = .b (preS s' p') := h
  obtain ⟨s', p', e, h⟩ := h'
  simp only [List.cons.injEq, AV.dv.injEq, AV.fv.injEq, DV.d.injEq, DV.ag.injEq, D.int.injEq, D.str.injEq, D.bool.injEq, D.sl.injEq, true_and, and_true, intsDi_inj, rowsT_inj, rowsKi_inj] at e
  obtain ⟨rfl, rfl⟩ := e
  exact h, fun h => ⟨s, p, rfl, h⟩⟩
theorem hasPrefix_ctr {cx : Cx} (h : Seat cx) : Ctr cx 64 preSp := by
  refine ctr_flat (by rw [h.hP]; exact ⟨_, Tryd.func64, by kernel_rfl, by kernel_rfl⟩) (fun _ => rfl) ?_
  rintro xs ⟨s, p, rfl⟩
  refine ⟨_, _, _, rfl, ⟨s, p, rfl, rfl⟩, rfl, fun w hw => ?_⟩
  rw [h.hP]
  exact (Tryd.strings_HasPrefix s p w).mono fun e w' ⟨h1, h2⟩ => ⟨h1, below_same h2⟩
def cpreF (s p : ByteArray) : ByteArray := ⟨(Lib.trimPrefix s.data.toList p.data.toList).toArray⟩
def cpreSp  : Spec where
  pre xs := ∃ (s : ByteArray) (p : ByteArray), xs = [.str s, .str p]
  post xs y := ∃ (s : ByteArray) (p : ByteArray), xs = [.str s, .str p] ∧ y = .tcons (.str (cpreF s p)) (.tcons (.b (preS s p)) .tnil)
  cost _ := 0
  fresh := true
theorem cpreSp_c  (xs : List AV) : (cpreSp).cost xs = 0 := nr rfl
theorem cpreSp_f  : (cpreSp).fresh = true := nr rfl
theorem cpreSp_q  (s : ByteArray) (p : ByteArray) : (cpreSp).pre [.str s, .str p] = (True) := propext ⟨fun h => by
  have h' : ∃ (s' : ByteArray) (p' : ByteArray), ([.str s, .str p] : List AV) = [.str s', .str p'] := h
  obtain ⟨s', p', e⟩ := h'
  simp only [List.cons.injEq, AV.dv.injEq, AV.fv.injEq, DV.d.injEq, DV.ag.injEq, D.int.injEq, D.str.injEq, D.bool.injEq, D.sl.injEq, true_and, and_true, intsDi_inj, rowsT_inj, rowsKi_inj] at e
  obtain ⟨rfl, rfl⟩ := e
  exact trivial, fun h => ⟨s, p, rfl⟩⟩
theorem cpreSp_p  (s : ByteArray) (p : ByteArray) : (cpreSp).post [.str s, .str p] = fun y => y = .tcons (.str (cpreF s p)) (.tcons (.b (preS s p)) .tnil) := funext fun y => propext ⟨fun h => by
  have h' : ∃ (s' : ByteArray) (p' : ByteArray), ([.str s, .str p] : List AV) = [.str s', .str p'] ∧ y = .tcons (.str (cpreF s' p')) (.tcons (.b (preS s' p')) .tnil) := h
  obtain ⟨s', p', e, h⟩ := h'
  simp only [List.cons.injEq, AV.dv.injEq, AV.fv.injEq, DV.d.injEq, DV.ag.injEq, D.int.injEq, D.str.injEq, D.bool.injEq, D.sl.injEq, true_and, and_true, intsDi_inj, rowsT_inj, rowsKi_inj] at e
  obtain ⟨rfl, rfl⟩ := e
  exact h, fun h => ⟨s, p, rfl, h⟩⟩
theorem cutPrefix_ctr {cx : Cx} (h : Seat cx) : Ctr cx 104 cpreSp := by
  refine ctr_flat (by rw [h.hP]; exact ⟨_, Tryd.func104, by kernel_rfl, by kernel_rfl⟩) (fun _ => rfl) ?_
  rintro xs ⟨s, p, rfl⟩
  refine ⟨_, _, _, rfl, ⟨s, p, rfl, rfl⟩, rfl, fun w hw => ?_⟩
  rw [h.hP]
  exact (Tryd.strings_CutPrefix s p w).mono fun e w' ⟨h1, h2⟩ => ⟨h1, below_same h2⟩
def ixB (s : ByteArray) (c : Int) : Int := Lib.indexByte s.data.toList c.toNat.toUInt8
def ixSp  : Spec where
  pre xs := ∃ (s : ByteArray) (c : Int), xs = [.str s, .u8 c]
  post xs y := ∃ (s : ByteArray) (c : Int), xs = [.str s, .u8 c] ∧ y = .i (ixB s c)
  cost _ := 0
  fresh := true
theorem ixSp_c  (xs : List AV) : (ixSp).cost xs = 0 := nr rfl
theorem ixSp_f  : (ixSp).fresh = true := nr rfl
theorem ixSp_q  (s : ByteArray) (c : Int) : (ixSp).pre [.str s, .u8 c] = (True) := propext ⟨fun h => by
  have h' : ∃ (s' : ByteArray) (c' : Int), ([.str s, .u8 c] : List AV) = [.str s', .u8 c'] := h
  obtain ⟨s', c', e⟩ := h'
  simp only [List.cons.injEq, AV.dv.injEq, AV.fv.injEq, DV.d.injEq, DV.ag.injEq, D.int.injEq, D.str.injEq, D.bool.injEq, D.sl.injEq, true_and, and_true, intsDi_inj, rowsT_inj, rowsKi_inj] at e
  obtain ⟨rfl, rfl⟩ := e
  exact trivial, fun h => ⟨s, c, rfl⟩⟩
theorem ixSp_p  (s : ByteArray) (c : Int) : (ixSp).post [.str s, .u8 c] = fun y => y = .i (ixB s c) := funext fun y => propext ⟨fun h => by
  have h' : ∃ (s' : ByteArray) (c' : Int), ([.str s, .u8 c] : List AV) = [.str s', .u8 c'] ∧ y = .i (ixB s' c') := h
  obtain ⟨s', c', e, h⟩ := h'
  simp only [List.cons.injEq, AV.dv.injEq, AV.fv.injEq, DV.d.injEq, DV.ag.injEq, D.int.injEq, D.str.injEq, D.bool.injEq, D.sl.injEq, true_and, and_true, intsDi_inj, rowsT_inj, rowsKi_inj] at e
  obtain ⟨rfl, rfl⟩ := e
  exact h, fun h => ⟨s, c, rfl, h⟩⟩
theorem indexByte_ctr {cx : Cx} (h : Seat cx) : Ctr cx 117 ixSp := by
  refine ctr_flat (by rw [h.hP]; exact ⟨_, Tryd.func117, by kernel_rfl, by kernel_rfl⟩) (fun _ => rfl) ?_
  rintro xs ⟨s, c, rfl⟩
  refine ⟨_, _, _, rfl, ⟨s, c, rfl, rfl⟩, rfl, fun w hw => ?_⟩
  rw [h.hP]
  exact (Tryd.strings_IndexByte s c w).mono fun e w' ⟨h1, h2⟩ => ⟨h1, below_same h2⟩
def splitSp  : Spec where
  pre xs := ∃ (s : ByteArray) (p : ByteArray), xs = [.str s, .str p] ∧ (s.size ≤ 4000000000 ∧ 1 ≤ p.size)
  post xs y := ∃ (s : ByteArray) (p : ByteArray), xs = [.str s, .str p] ∧ y = .sl (rowsT (splitS s p))
  cost _ := 0
  fresh := true
theorem splitSp_c  (xs : List AV) : (splitSp).cost xs = 0 := nr rfl
theorem splitSp_f  : (splitSp).fresh = true := nr rfl
theorem splitSp_q  (s : ByteArray) (p : ByteArray) : (splitSp).pre [.str s, .str p] = (s.size ≤ 4000000000 ∧ 1 ≤ p.size) := propext ⟨fun h => by
  have h' : ∃ (s' : ByteArray) (p' : ByteArray), ([.str s, .str p] : List AV) = [.str s', .str p'] ∧ (s'.size ≤ 4000000000 ∧ 1 ≤ p'.size) := h
  obtain ⟨s', p', e, h⟩ := h'
  simp only [List.cons.injEq, AV.dv.injEq, AV.fv.injEq, DV.d.injEq, DV.ag.injEq, D.int.injEq, D.str.injEq, D.bool.injEq, D.sl.injEq, true_and, and_true, intsDi_inj, rowsT_inj, rowsKi_inj] at e
  obtain ⟨rfl, rfl⟩ := e
  exact h, fun h => ⟨s, p, rfl, h⟩⟩
theorem splitSp_p  (s : ByteArray) (p : ByteArray) : (splitSp).post [.str s, .str p] = fun y => y = .sl (rowsT (splitS s p)) := funext fun y => propext ⟨fun h => by
  have h' : ∃ (s' : ByteArray) (p' : ByteArray), ([.str s, .str p] : List AV) = [.str s', .str p'] ∧ y = .sl (rowsT (splitS s' p')) := h
  obtain ⟨s', p', e, h⟩ := h'
  simp only [List.cons.injEq, AV.dv.injEq, AV.fv.injEq, DV.d.injEq, DV.ag.injEq, D.int.injEq, D.str.injEq, D.bool.injEq, D.sl.injEq, true_and, and_true, intsDi_inj, rowsT_inj, rowsKi_inj] at e
  obtain ⟨rfl, rfl⟩ := e
  exact h, fun h => ⟨s, p, rfl, h⟩⟩
theorem split_ctr {cx : Cx} (h : Seat cx) (hM : MaxL cx) : Ctr cx 100 splitSp := by
  refine ⟨by rw [h.hP]; exact ⟨_, Tryd.func100, by kernel_rfl, by kernel_rfl⟩, fun xs ⟨s, p, e, _⟩ => ⟨_, s, p, e, rfl⟩, ?_⟩
  rintro F xs us hcx hF hst hgl hco hlen hargs ⟨s, p, rfl, h1, h2⟩
  obtain rfl := vals_of (vs := [.string s, .string p]) rfl hlen hargs
  rw [h.hP]
  obtain ⟨m, hm⟩ := hM F.w0 hgl
  refine (Tryd.strings_Split s p m F.w0 (by omega) hm h2).mono ?_
  rintro e w' ⟨rfl, rfl⟩
  refine ⟨_, _, rfl, Gr.alloc _ F.w0 _, hst.keep (Nat.le_of_lt (alloc_size F.w0 _)) (fun b hb => (alloc_gr F.w0 _).block b hb (by simp)), ⟨s, p, rfl, rfl⟩, rfl, ?_⟩
  show Rd _ _ (.sl (rowsT (splitS s p))) _
  have hl : (rowsT (splitS s p)).length = Lib.countB s p + 1 := by rw [rowsT_len, splitS_len h2]
  rw [← hl]
  have hg : ∀ (i : Nat) (x : List D), (rowsT (splitS s p))[i]? = some x → ∃ t, (splitS s p)[i]? = some t ∧ x = [.str t] := fun i x hx => by
    unfold rowsT at hx
    rw [List.getElem?_map, Option.map_eq_some_iff] at hx
    obtain ⟨t, ht, rfl⟩ := hx
    exact ⟨t, ht, rfl⟩
  refine .sl _ 1 F.w0.heap.size 0 _ (fun i _ => .string ((splitS s p).getD i ⟨#[]⟩)) (Nat.le_refl _) (.inr (Nat.le_refl _)) (alloc_size F.w0 _) (fun i x hx => ?_) (fun i x hx j y hy => ?_) (fun i x hx j y hy => ?_)
  · obtain ⟨t, ht, rfl⟩ := hg i x hx
    rfl
  · obtain ⟨t, ht, rfl⟩ := hg i x hx
    cases j with
    | succ j => simp at hy
    | zero =>
      unfold World.cell?
      rw [heap_alloc_new]
      show (((Lib.splitB p 0 (Lib.countB s p) s).map Value.string).toArray)[0 + i * 1 + 0]? = _
      rw [List.getElem?_toArray, List.getElem?_map, List.getD_eq_getElem?_getD, ht, show 0 + i * 1 + 0 = i by omega]
      show ((splitS s p)[i]?).map _ = _
      rw [ht]
      rfl
  · obtain ⟨t, ht, rfl⟩ := hg i x hx
    cases j with
    | succ j => simp at hy
    | zero =>
      cases hy
      rw [List.getD_eq_getElem?_getD, ht]
      exact .str t
/-! ### Comparisons -/
def cmpISp  : Spec where
  pre xs := ∃ (a : Int) (b : Int), xs = [.i a, .i b]
  post xs y := ∃ (a : Int) (b : Int), xs = [.i a, .i b] ∧ y = .i (cmpI a b)
  cost _ := 0
  fresh := true
theorem cmpISp_c  (xs : List AV) : (cmpISp).cost xs = 0 := nr rfl
theorem cmpISp_f  : (cmpISp).fresh = true := nr rfl
theorem cmpISp_q  (a : Int) (b : Int) : (cmpISp).pre [.i a, .i b] = (True) := propext ⟨fun h => by
  have h' : ∃ (a' : Int) (b' : Int), ([.i a, .i b] : List AV) = [.i a', .i b'] := h
  obtain ⟨a', b', e⟩ := h'
  simp only [List.cons.injEq, AV.dv.injEq, AV.fv.injEq, DV.d.injEq, DV.ag.injEq, D.int.injEq, D.str.injEq, D.bool.injEq, D.sl.injEq, true_and, and_true, intsDi_inj, rowsT_inj, rowsKi_inj] at e
  obtain ⟨rfl, rfl⟩ := e
  exact trivial, fun h => ⟨a, b, rfl⟩⟩
theorem cmpISp_p  (a : Int) (b : Int) : (cmpISp).post [.i a, .i b] = fun y => y = .i (cmpI a b) := funext fun y => propext ⟨fun h => by
  have h' : ∃ (a' : Int) (b' : Int), ([.i a, .i b] : List AV) = [.i a', .i b'] ∧ y = .i (cmpI a' b') := h
  obtain ⟨a', b', e, h⟩ := h'
  simp only [List.cons.injEq, AV.dv.injEq, AV.fv.injEq, DV.d.injEq, DV.ag.injEq, D.int.injEq, D.str.injEq, D.bool.injEq, D.sl.injEq, true_and, and_true, intsDi_inj, rowsT_inj, rowsKi_inj] at e
  obtain ⟨rfl, rfl⟩ := e
  exact h, fun h => ⟨a, b, rfl, h⟩⟩
theorem compareI_ctr {cx : Cx} (h : Seat cx) : Ctr cx 107 cmpISp := by
  refine ctr_flat (by rw [h.hP]; exact ⟨_, Tryd.func107, by kernel_rfl, by kernel_rfl⟩) (fun _ => rfl) ?_
  rintro xs ⟨a, b, rfl⟩
  refine ⟨_, _, _, rfl, ⟨a, b, rfl, rfl⟩, rfl, fun w hw => ?_⟩
  rw [h.hP]
  exact (Tryd.cmp_Compare_int a b w).mono fun e w' ⟨h1, h2⟩ => ⟨h1, below_same h2⟩
end Go.Avc

/- Ids: what is wrong with them and their order, by the program. No condition. -/
set_option linter.unusedVariables false
set_option linter.unusedSimpArgs false
set_option maxRecDepth 100000
namespace Go.Avc
open Go Go.Proofs

/-- a closure over nothing on bytes -/
def byteΦ (p : Int → Bool) : List (List D) → FSpec := csp F0 u8D fun _ c => p c
theorem byteΦ_h (p : Int → Bool) (c : Int) : (byteΦ p []).holds (.d (.int .u8 c)) = p c := csp_holds (g := fun _ c => p c) F0_inj u8D_inj () c
theorem byteΦ_d (p : Int → Bool) (c : Int) : (byteΦ p []).det (.d (.int .u8 c)) := csp_det (g := fun _ c => p c) F0_inj u8D_inj () c
theorem byteΦ_of {cx : Cx} {fn : FuncId} {p : Int → Bool} (h : Ctr cx fn (byteS p)) : ∀ caps, Ctr cx fn (clo (byteΦ p) caps) := clo_of (g := fun _ c => p c) (h.weaken (fun xs ⟨_, a, e⟩ => ⟨a, e⟩) (fun xs r ⟨_, a, e⟩ ⟨b, e2, e3⟩ => ⟨(), b, e2, e3⟩) (fun _ => Nat.le_refl _) rfl)
theorem isLabel1_ctr {cx : Cx} (h : Seat cx) : Ctr cx 180 (byteS labC) := by
  refine ctr_of (fn := Tryd.f180) (l := [.tmp 2]) (envL [(138, (byteS smallC)), (110, (byteS digitC))]) [0, 2] [] [] (envL_cons (small_ctr h) (envL_cons (digit_ctr h) (env0 h.hP))) ?_ (by rw [h.hP]; exact Tryd.func180) rfl (by kernel_rfl) rfl ?_ ?_
  · rw [h.hP]; exact ⟨_, Tryd.func180, by kernel_rfl, by kernel_rfl⟩
  · rintro xs ⟨c, rfl⟩; exact ⟨_, c, rfl, rfl⟩
  · rintro xs ⟨c, rfl⟩
    refine ⟨by rw [Tryd.ntmps180]; simp, ?_⟩
    simp only [go_sem, h.hP, byteS_q, byteS_p, byteS_c, byteS_f, Tryd.ntmps180, Nat.reduceEqDiff, reduceCtorEq, Nat.reduceMul, Nat.reduceAdd, Nat.reduceSub, Nat.reduceDiv, Nat.reduceMod, Nat.reduceLeDiff, Nat.reduceLT, Nat.reduceBNe, Nat.reduceBEq, reduceIte, Int.reduceLE, Int.reduceLT, Int.reduceToNat, Int.reduceNeg, Int.reduceAdd, Int.reduceSub, Int.reduceMul, Int.reduceEq]
    grind [labC]
theorem isMail1_ctr {cx : Cx} (h : Seat cx) : Ctr cx 143 (byteS locC) := by
  refine ctr_of (fn := Tryd.f143) (l := [.tmp 2]) (envL [(138, (byteS smallC)), (110, (byteS digitC))]) [0, 2] [] [] (envL_cons (small_ctr h) (envL_cons (digit_ctr h) (env0 h.hP))) ?_ (by rw [h.hP]; exact Tryd.func143) rfl (by kernel_rfl) rfl ?_ ?_
  · rw [h.hP]; exact ⟨_, Tryd.func143, by kernel_rfl, by kernel_rfl⟩
  · rintro xs ⟨c, rfl⟩; exact ⟨_, c, rfl, rfl⟩
  · rintro xs ⟨c, rfl⟩
    refine ⟨by rw [Tryd.ntmps143]; simp, ?_⟩
    simp only [go_sem, h.hP, byteS_q, byteS_p, byteS_c, byteS_f, Tryd.ntmps143, Nat.reduceEqDiff, reduceCtorEq, Nat.reduceMul, Nat.reduceAdd, Nat.reduceSub, Nat.reduceDiv, Nat.reduceMod, Nat.reduceLeDiff, Nat.reduceLT, Nat.reduceBNe, Nat.reduceBEq, reduceIte, Int.reduceLE, Int.reduceLT, Int.reduceToNat, Int.reduceNeg, Int.reduceAdd, Int.reduceSub, Int.reduceMul, Int.reduceEq]
    grind [locC]
theorem capital_ctr {cx : Cx} (h : Seat cx) : Ctr cx 146 (byteS capitalC) := by
  refine ctr_of (fn := Tryd.f146) (l := [.tmp 2]) (envL []) [0, 2] [] [] (env0 h.hP) ?_ (by rw [h.hP]; exact Tryd.func146) rfl (by kernel_rfl) rfl ?_ ?_
  · rw [h.hP]; exact ⟨_, Tryd.func146, by kernel_rfl, by kernel_rfl⟩
  · rintro xs ⟨c, rfl⟩; exact ⟨_, c, rfl, rfl⟩
  · rintro xs ⟨c, rfl⟩
    refine ⟨by rw [Tryd.ntmps146]; simp, ?_⟩
    simp only [go_sem, h.hP, byteS_q, byteS_p, byteS_c, byteS_f, Tryd.ntmps146, Nat.reduceEqDiff, reduceCtorEq, Nat.reduceMul, Nat.reduceAdd, Nat.reduceSub, Nat.reduceDiv, Nat.reduceMod, Nat.reduceLeDiff, Nat.reduceLT, Nat.reduceBNe, Nat.reduceBEq, reduceIte, Int.reduceLE, Int.reduceLT, Int.reduceToNat, Int.reduceNeg, Int.reduceAdd, Int.reduceSub, Int.reduceMul, Int.reduceEq]
    unfold capitalC
    exact ⟨fun c => by simp [c], fun c => by simp [c]⟩
theorem isMember1_ctr {cx : Cx} (h : Seat cx) : Ctr cx 145 (byteS memC) := by
  refine ctr_of (fn := Tryd.f145) (l := [.tmp 2]) (envL [(146, (byteS capitalC)), (110, (byteS digitC))]) [0, 2] [] [] (envL_cons (capital_ctr h) (envL_cons (digit_ctr h) (env0 h.hP))) ?_ (by rw [h.hP]; exact Tryd.func145) rfl (by kernel_rfl) rfl ?_ ?_
  · rw [h.hP]; exact ⟨_, Tryd.func145, by kernel_rfl, by kernel_rfl⟩
  · rintro xs ⟨c, rfl⟩; exact ⟨_, c, rfl, rfl⟩
  · rintro xs ⟨c, rfl⟩
    refine ⟨by rw [Tryd.ntmps145]; simp, ?_⟩
    simp only [go_sem, h.hP, byteS_q, byteS_p, byteS_c, byteS_f, Tryd.ntmps145, Nat.reduceEqDiff, reduceCtorEq, Nat.reduceMul, Nat.reduceAdd, Nat.reduceSub, Nat.reduceDiv, Nat.reduceMod, Nat.reduceLeDiff, Nat.reduceLT, Nat.reduceBNe, Nat.reduceBEq, reduceIte, Int.reduceLE, Int.reduceLT, Int.reduceToNat, Int.reduceNeg, Int.reduceAdd, Int.reduceSub, Int.reduceMul, Int.reduceEq]
    grind [memC]
theorem isDevice1_ctr {cx : Cx} (h : Seat cx) : Ctr cx 147 (byteS hexC) := by
  refine ctr_of (fn := Tryd.f147) (l := [.tmp 2]) (envL [(110, (byteS digitC))]) [0, 2] [] [] (envL_cons (digit_ctr h) (env0 h.hP)) ?_ (by rw [h.hP]; exact Tryd.func147) rfl (by kernel_rfl) rfl ?_ ?_
  · rw [h.hP]; exact ⟨_, Tryd.func147, by kernel_rfl, by kernel_rfl⟩
  · rintro xs ⟨c, rfl⟩; exact ⟨_, c, rfl, rfl⟩
  · rintro xs ⟨c, rfl⟩
    refine ⟨by rw [Tryd.ntmps147]; simp, ?_⟩
    simp only [go_sem, h.hP, byteS_q, byteS_p, byteS_c, byteS_f, Tryd.ntmps147, Nat.reduceEqDiff, reduceCtorEq, Nat.reduceMul, Nat.reduceAdd, Nat.reduceSub, Nat.reduceDiv, Nat.reduceMod, Nat.reduceLeDiff, Nat.reduceLT, Nat.reduceBNe, Nat.reduceBEq, reduceIte, Int.reduceLE, Int.reduceLT, Int.reduceToNat, Int.reduceNeg, Int.reduceAdd, Int.reduceSub, Int.reduceMul, Int.reduceEq]
    grind [hexC]
def strB4 (p : ByteArray → Bool) : Spec where
  pre xs := ∃ (s : ByteArray), xs = [.str s] ∧ (s.size ≤ 4000000000)
  post xs y := ∃ (s : ByteArray), xs = [.str s] ∧ y = .b (p s)
  cost _ := 0
  fresh := true
theorem strB4_c (p : ByteArray → Bool) (xs : List AV) : (strB4 p).cost xs = 0 := nr rfl
theorem strB4_f (p : ByteArray → Bool) : (strB4 p).fresh = true := nr rfl
theorem strB4_q (p : ByteArray → Bool) (s : ByteArray) : (strB4 p).pre [.str s] = (s.size ≤ 4000000000) := propext ⟨fun h => by
  have h' : ∃ (s' : ByteArray), ([.str s] : List AV) = [.str s'] ∧ (s'.size ≤ 4000000000) := h
  obtain ⟨s', e, h⟩ := h'
  simp only [List.cons.injEq, AV.dv.injEq, AV.fv.injEq, DV.d.injEq, DV.ag.injEq, D.int.injEq, D.str.injEq, D.bool.injEq, D.sl.injEq, true_and, and_true, intsDi_inj, rowsT_inj, rowsKi_inj] at e
  obtain rfl := e
  exact h, fun h => ⟨s, rfl, h⟩⟩
theorem strB4_p (p : ByteArray → Bool) (s : ByteArray) : (strB4 p).post [.str s] = fun y => y = .b (p s) := funext fun y => propext ⟨fun h => by
  have h' : ∃ (s' : ByteArray), ([.str s] : List AV) = [.str s'] ∧ y = .b (p s') := h
  obtain ⟨s', e, h⟩ := h'
  simp only [List.cons.injEq, AV.dv.injEq, AV.fv.injEq, DV.d.injEq, DV.ag.injEq, D.int.injEq, D.str.injEq, D.bool.injEq, D.sl.injEq, true_and, and_true, intsDi_inj, rowsT_inj, rowsKi_inj] at e
  obtain rfl := e
  exact h, fun h => ⟨s, rfl, h⟩⟩
theorem isLabel_ctr {cx : Cx} (h : Seat cx) : Ctr cx 144 (strB4 labelB) := by
  refine ctr_of (fn := Tryd.f144) (l := [.tmp 2]) (envF [(90, inS), (109, allS)] [(180, (byteΦ labC))]) [0, 2] [] [] (envF_cons (byteΦ_of (isLabel1_ctr h)) (envF_nil (envL_cons (pwithin_ctr h) (envL_cons (all_ctr h) (env0 h.hP))))) ?_ (by rw [h.hP]; exact Tryd.func144) rfl (by kernel_rfl) rfl ?_ ?_
  · rw [h.hP]; exact ⟨_, Tryd.func144, by kernel_rfl, by kernel_rfl⟩
  · rintro xs ⟨s, rfl, hs⟩; exact ⟨_, s, rfl, rfl⟩
  · rintro xs ⟨s, rfl, hs⟩
    refine ⟨by rw [Tryd.ntmps144]; simp, ?_⟩
    simp only [go_sem, h.hP, List.cons_append, List.nil_append, Meets_e, Below_e, Prod.exists, exists_eq, exists_eq_left, exists_eq_left', exists_eq_right, exists_eq_right', exists_and_left, exists_and_right, Ob.arr.injEq, AV.own.injEq, AV.fv.injEq, strB4_q, strB4_p, strB4_c, strB4_f, inS_q, inS_p, inS_c, inS_f, allS, byteΦ_h, byteΦ_d, Tryd.ntmps144, Nat.reduceEqDiff, reduceCtorEq, Nat.reduceMul, Nat.reduceAdd, Nat.reduceSub, Nat.reduceDiv, Nat.reduceMod, Nat.reduceLeDiff, Nat.reduceLT, Nat.reduceBNe, Nat.reduceBEq, reduceIte, Int.reduceLE, Int.reduceLT, Int.reduceToNat, Int.reduceNeg, Int.reduceAdd, Int.reduceSub, Int.reduceMul, Int.reduceEq]
    unfold labelB
    refine ⟨fun c => ?_, fun c => by simp [c]⟩
    have e1 := inB_iff.1 c
    rw [i64w (n := (s.size : Int) - 1) (by omega) (by omega)]
    refine ⟨by omega, fun c1 => ⟨by omega, by omega, fun c2 => ⟨by omega, by simp [c, c1, c2]⟩, fun c2 => by simp [c2]⟩, fun c1 => by simp [c1]⟩
theorem isPhone_ctr {cx : Cx} (h : Seat cx) : Ctr cx 95 (strB4 phoneB) := by
  refine ctr_of (fn := Tryd.f95) (l := [.tmp 2]) (envF [(90, inS), (109, allS), (64, preSp)] [(110, (byteΦ digitC))]) [0, 2] [] [] (envF_cons (byteΦ_of (digit_ctr h)) (envF_nil (envL_cons (pwithin_ctr h) (envL_cons (all_ctr h) (envL_cons (hasPrefix_ctr h) (env0 h.hP)))))) ?_ (by rw [h.hP]; exact Tryd.func95) rfl (by kernel_rfl) rfl ?_ ?_
  · rw [h.hP]; exact ⟨_, Tryd.func95, by kernel_rfl, by kernel_rfl⟩
  · rintro xs ⟨s, rfl, hs⟩; exact ⟨_, s, rfl, rfl⟩
  · rintro xs ⟨s, rfl, hs⟩
    refine ⟨by rw [Tryd.ntmps95]; simp, ?_⟩
    simp only [go_sem, h.hP, List.cons_append, List.nil_append, Meets_e, Below_e, Prod.exists, exists_eq, exists_eq_left, exists_eq_left', exists_eq_right, exists_eq_right', exists_and_left, exists_and_right, Ob.arr.injEq, AV.own.injEq, AV.fv.injEq, strB4_q, strB4_p, strB4_c, strB4_f, inS_q, inS_p, inS_c, inS_f, preSp_q, preSp_p, preSp_c, preSp_f, allS, byteΦ_h, byteΦ_d, Tryd.ntmps95, Nat.reduceEqDiff, reduceCtorEq, Nat.reduceMul, Nat.reduceAdd, Nat.reduceSub, Nat.reduceDiv, Nat.reduceMod, Nat.reduceLeDiff, Nat.reduceLT, Nat.reduceBNe, Nat.reduceBEq, reduceIte, Int.reduceLE, Int.reduceLT, Int.reduceToNat, Int.reduceNeg, Int.reduceAdd, Int.reduceSub, Int.reduceMul, Int.reduceEq]
    unfold phoneB
    refine ⟨fun c0 => ⟨fun c => ?_, fun c => by simp [c]⟩, fun c0 => by simp [plusS, c0]⟩
    have e1 := inB_iff.1 c
    refine ⟨by omega, by omega, by rw [ByteArray.size_extract]; omega, fun c1 => ⟨by omega, ?_⟩, fun c1 => by simp [c1]⟩
    simp only [plusS, c0, c, c1, Bool.true_and]
    grind
theorem isMember_ctr {cx : Cx} (h : Seat cx) : Ctr cx 96 (strB4 memberB) := by
  refine ctr_of (fn := Tryd.f96) (l := [.tmp 2]) (envF [(90, inS), (109, allS)] [(145, (byteΦ memC))]) [0, 2] [] [] (envF_cons (byteΦ_of (isMember1_ctr h)) (envF_nil (envL_cons (pwithin_ctr h) (envL_cons (all_ctr h) (env0 h.hP))))) ?_ (by rw [h.hP]; exact Tryd.func96) rfl (by kernel_rfl) rfl ?_ ?_
  · rw [h.hP]; exact ⟨_, Tryd.func96, by kernel_rfl, by kernel_rfl⟩
  · rintro xs ⟨s, rfl, hs⟩; exact ⟨_, s, rfl, rfl⟩
  · rintro xs ⟨s, rfl, hs⟩
    refine ⟨by rw [Tryd.ntmps96]; simp, ?_⟩
    simp only [go_sem, h.hP, List.cons_append, List.nil_append, Meets_e, Below_e, Prod.exists, exists_eq, exists_eq_left, exists_eq_left', exists_eq_right, exists_eq_right', exists_and_left, exists_and_right, Ob.arr.injEq, AV.own.injEq, AV.fv.injEq, strB4_q, strB4_p, strB4_c, strB4_f, inS_q, inS_p, inS_c, inS_f, allS, byteΦ_h, byteΦ_d, Tryd.ntmps96, Nat.reduceEqDiff, reduceCtorEq, Nat.reduceMul, Nat.reduceAdd, Nat.reduceSub, Nat.reduceDiv, Nat.reduceMod, Nat.reduceLeDiff, Nat.reduceLT, Nat.reduceBNe, Nat.reduceBEq, reduceIte, Int.reduceLE, Int.reduceLT, Int.reduceToNat, Int.reduceNeg, Int.reduceAdd, Int.reduceSub, Int.reduceMul, Int.reduceEq]
    unfold memberB
    exact ⟨fun c => ⟨by omega, by simp [c]⟩, fun c => by simp [c]⟩
theorem isDevice_ctr {cx : Cx} (h : Seat cx) : Ctr cx 97 (strB4 deviceB) := by
  refine ctr_of (fn := Tryd.f97) (l := [.tmp 2]) (envF [(90, inS), (109, allS)] [(147, (byteΦ hexC))]) [0, 2] [] [] (envF_cons (byteΦ_of (isDevice1_ctr h)) (envF_nil (envL_cons (pwithin_ctr h) (envL_cons (all_ctr h) (env0 h.hP))))) ?_ (by rw [h.hP]; exact Tryd.func97) rfl (by kernel_rfl) rfl ?_ ?_
  · rw [h.hP]; exact ⟨_, Tryd.func97, by kernel_rfl, by kernel_rfl⟩
  · rintro xs ⟨s, rfl, hs⟩; exact ⟨_, s, rfl, rfl⟩
  · rintro xs ⟨s, rfl, hs⟩
    refine ⟨by rw [Tryd.ntmps97]; simp, ?_⟩
    simp only [go_sem, h.hP, List.cons_append, List.nil_append, Meets_e, Below_e, Prod.exists, exists_eq, exists_eq_left, exists_eq_left', exists_eq_right, exists_eq_right', exists_and_left, exists_and_right, Ob.arr.injEq, AV.own.injEq, AV.fv.injEq, strB4_q, strB4_p, strB4_c, strB4_f, inS_q, inS_p, inS_c, inS_f, allS, byteΦ_h, byteΦ_d, Tryd.ntmps97, Nat.reduceEqDiff, reduceCtorEq, Nat.reduceMul, Nat.reduceAdd, Nat.reduceSub, Nat.reduceDiv, Nat.reduceMod, Nat.reduceLeDiff, Nat.reduceLT, Nat.reduceBNe, Nat.reduceBEq, reduceIte, Int.reduceLE, Int.reduceLT, Int.reduceToNat, Int.reduceNeg, Int.reduceAdd, Int.reduceSub, Int.reduceMul, Int.reduceEq]
    unfold deviceB
    exact ⟨fun c => ⟨by omega, by simp [c]⟩, fun c => by simp [c]⟩
theorem isMail_ctr {cx : Cx} (h : Seat cx) (hM : MaxL cx) : Ctr cx 94 (strB4 mailB) := by
  refine ctr_of (fn := Tryd.f94) (l := [.tmp 2]) (envF [(99, cutSp), (90, inS), (103, conSp), (109, allS), (100, splitSp), (144, (strB4 labelB))] [(143, (byteΦ locC))]) [0, 2, 3, 4, 5, 6, 8, 44, 47, 50, 51, 52, 53, 58] [] [] (envF_cons (byteΦ_of (isMail1_ctr h)) (envF_nil (envL_cons (cut_ctr h hM) (envL_cons (pwithin_ctr h) (envL_cons (contains_ctr h hM) (envL_cons (all_ctr h) (envL_cons (split_ctr h hM) (envL_cons (isLabel_ctr h) (env0 h.hP))))))))) ?_ (by rw [h.hP]; exact Tryd.func94) rfl (by kernel_rfl) rfl ?_ ?_
  · rw [h.hP]; exact ⟨_, Tryd.func94, by kernel_rfl, by kernel_rfl⟩
  · rintro xs ⟨s, rfl, hs⟩; exact ⟨_, s, rfl, rfl⟩
  · rintro xs ⟨s, rfl, hs⟩
    refine ⟨by rw [Tryd.ntmps94]; simp, ?_⟩
    simp only [go_sem, h.hP, List.cons_append, List.nil_append, Meets_e, Below_e, Prod.exists, exists_eq, exists_eq_left, exists_eq_left', exists_eq_right, exists_eq_right', exists_and_left, exists_and_right, Ob.arr.injEq, AV.own.injEq, AV.fv.injEq, strB4_q, strB4_p, strB4_c, strB4_f, inS_q, inS_p, inS_c, inS_f, cutSp_q, cutSp_p, cutSp_c, cutSp_f, conSp_q, conSp_p, conSp_c, conSp_f, splitSp_q, splitSp_p, splitSp_c, splitSp_f, allS, byteΦ_h, byteΦ_d, Tryd.ntmps94, Nat.reduceEqDiff, reduceCtorEq, Nat.reduceMul, Nat.reduceAdd, Nat.reduceSub, Nat.reduceDiv, Nat.reduceMod, Nat.reduceLeDiff, Nat.reduceLT, Nat.reduceBNe, Nat.reduceBEq, reduceIte, Int.reduceLE, Int.reduceLT, Int.reduceToNat, Int.reduceNeg, Int.reduceAdd, Int.reduceSub, Int.reduceMul, Int.reduceEq]
    have hL := cutL_size s ⟨#[64]⟩
    have hR := cutR_size s ⟨#[64]⟩
    have hD : mailB s = (cutB s ⟨#[64]⟩ && decide ((s.size : Int) ≤ 80) && localB (cutL s ⟨#[64]⟩) && (splitS (cutR s ⟨#[64]⟩) ⟨#[46]⟩).all labelB && decide (2 ≤ (splitS (cutR s ⟨#[64]⟩) ⟨#[46]⟩).length)) := rfl
    generalize mailB s = R at hD
    generalize cutL s ⟨#[64]⟩ = a at *
    generalize cutR s ⟨#[64]⟩ = b at *
    have hA : localB a = (inB a.size 1 64 && decide (bt a 0 ≠ 46) && decide (bt a ((a.size : Int) - 1) ≠ 46) && !conS a ⟨#[46, 46]⟩ && (bl a).all locC) := rfl
    refine ⟨hs, fun c1 => ⟨fun c2 => ⟨fun c3 => ?_, fun c3 => by rw [hD, hA]; simp [c3]⟩, fun c2 => by rw [hD]; simp; omega⟩, fun c1 => by rw [hD]; simp [c1]⟩
    have e3 := inB_iff.1 c3
    rw [i64w (n := (a.size : Int) - 1) (by omega) (by omega)]
    refine ⟨by omega, fun c4 => ⟨by omega, by omega, fun c5 => ⟨by omega, fun c6 => by rw [hD, hA]; simp [c6], fun c6 => ⟨by omega, fun c7 => by rw [hD, hA]; simp [show (bl a).all locC = false from c7], fun c7 => ⟨by omega, ?_⟩⟩⟩, fun c5 => by rw [hD, hA]; simp [c5]⟩, fun c4 => by rw [hD, hA]; simp [c4]⟩
    have hl : localB a = true := by rw [hA]; simp [c3, c4, c5, c6, show (bl a).all locC = true from c7]
    have hle := splitS_le (s := b) (p := ⟨#[46]⟩) (by decide)
    have hsz := splitS_get b ⟨#[46]⟩
    rw [c1, hl, decide_eq_true (show (s.size : Int) ≤ 80 by omega)] at hD
    generalize splitS b ⟨#[46]⟩ = l at *
    refine vc_loopS (Int) (fun (i : Int) => [(52, .i i)]) [] (fun (i : Int) => []) (fun (i : Int) => []) (fun (i : Int) => 0) (fun (i : Int) => 0 ≤ i ∧ i ≤ l.length ∧ ∀ j : Nat, (j : Int) < i → labelB (l.getD j ⟨#[]⟩) = true) (fun (i : Int) => (l.length - i).toNat) [] ?_ ?_
    · simp only [go_sem, h.hP, List.cons_append, List.nil_append, Meets_e, Below_e, Prod.exists, exists_eq, exists_eq_left, exists_eq_left', exists_eq_right, exists_eq_right', exists_and_left, exists_and_right, Ob.arr.injEq, AV.own.injEq, AV.fv.injEq, rowsT_len, Tryd.ntmps94, Nat.reduceEqDiff, reduceCtorEq, Nat.reduceMul, Nat.reduceAdd, Nat.reduceSub, Nat.reduceDiv, Nat.reduceMod, Nat.reduceLeDiff, Nat.reduceLT, Nat.reduceBNe, Nat.reduceBEq, reduceIte, Int.reduceLE, Int.reduceLT, Int.reduceToNat, Int.reduceNeg, Int.reduceAdd, Int.reduceSub, Int.reduceMul, Int.reduceEq]
      exact ⟨by omega, fun j hj => by omega⟩
    · rintro i ⟨j1, j2, j3⟩
      simp only [go_sem, h.hP, List.cons_append, List.nil_append, Meets_e, Below_e, Prod.exists, exists_eq, exists_eq_left, exists_eq_left', exists_eq_right, exists_eq_right', exists_and_left, exists_and_right, Ob.arr.injEq, AV.own.injEq, AV.fv.injEq, strB4_q, strB4_p, strB4_c, strB4_f, rowsT_len, rowsT_get, Tryd.ntmps94, Nat.reduceEqDiff, reduceCtorEq, Nat.reduceMul, Nat.reduceAdd, Nat.reduceSub, Nat.reduceDiv, Nat.reduceMod, Nat.reduceLeDiff, Nat.reduceLT, Nat.reduceBNe, Nat.reduceBEq, reduceIte, Int.reduceLE, Int.reduceLT, Int.reduceToNat, Int.reduceNeg, Int.reduceAdd, Int.reduceSub, Int.reduceMul, Int.reduceEq]
      refine ⟨fun q => ?_, fun q => ?_⟩
      · have := hsz i.toNat
        refine ⟨j1, q, by omega, fun d => ?_, fun d => ?_⟩
        · have := all_no (p := labelB) (show i.toNat < l.length by omega) d
          rw [hD, this]; simp
        · rw [i64w (n := i + 1) (by omega) (by omega)]
          refine ⟨by omega, by omega, fun j hj => ?_, by omega⟩
          by_cases e : (j : Int) = i
          · have : i.toNat = j := by omega
            rw [← this]; exact d
          · exact j3 j (by omega)
      · have := all_yes (p := labelB) ⟨#[]⟩ fun j hj => j3 j (by omega)
        rw [hD, this]
        simp only [Bool.true_and]
        exact decide_eq_decide.2 (by omega)
end Go.Avc

/- Distance, people, Changed: their contracts. No condition. -/
set_option linter.unusedVariables false
set_option linter.unusedSimpArgs false
set_option maxRecDepth 100000
namespace Go.Avc
open Go Go.Proofs

def distanceS : Spec where
  pre xs := ∃ s t : ByteArray, xs = [.str s, .str t]
  post xs r := ∃ s t : ByteArray, xs = [.str s, .str t] ∧ r = if s.size > 200 ∨ t.size > 200 then .tcons (.i 0) (.tcons (.i 2) .tnil) else .tcons (.i (distP (pts s) (pts t))) (.tcons (.i 0) .tnil)
  cost _ := 0
  fresh := true
theorem distance_ctr {cx : Cx} (h : Seat cx) (hU : Utf8 cx) : Ctr cx 21 distanceS := by
  refine ctr_of (fn := Tryd.f21) (l := [.tmp 4, .tmp 5]) (envL [(69, (ptsS .i32)), (68, distS)]) [0, 1, 4, 5, 13] [] [] (envL_cons (pts_ctr h hU) (envL_cons (dist_ctr h) (env0 h.hP))) ?_ (by rw [h.hP]; exact Tryd.func21) rfl (by kernel_rfl) rfl ?_ ?_
  · rw [h.hP]; exact ⟨_, Tryd.func21, by kernel_rfl, by kernel_rfl⟩
  · rintro xs ⟨s, t, rfl⟩; exact ⟨_, s, t, rfl, rfl⟩
  · rintro xs ⟨s, t, rfl⟩
    refine ⟨by rw [Tryd.ntmps21]; simp, ?_⟩
    simp only [go_sem, h.hP, distanceS, ptsS, distS, rowsK_inj, Tryd.ntmps21, Nat.reduceEqDiff, reduceCtorEq, Nat.reduceMul, Nat.reduceAdd, Nat.reduceSub, Nat.reduceDiv, Nat.reduceMod, Nat.reduceLeDiff, Nat.reduceLT, Nat.reduceBNe, Nat.reduceBEq, reduceIte, Int.reduceLE, Int.reduceLT, Int.reduceToNat, Int.reduceNeg, Int.reduceAdd, Int.reduceSub, Int.reduceMul, Int.reduceEq]
    have hp : (pts s).length ≤ s.size := ptsL_len s.size s
    have hq : (pts t).length ≤ t.size := ptsL_len t.size t
    (repeat' (first | with_reducible apply And.intro | with_reducible intro))
    all_goals first
      | omega
      | rw [if_pos (by omega)]
      | rw [if_neg (by omega)]
theorem kitten : distP (pts ⟨#[107, 105, 116, 116, 101, 110]⟩) (pts ⟨#[115, 105, 116, 116, 105, 110, 103]⟩) = 3 := by decide +kernel
theorem quote_space : quotedF ⟨#[32]⟩ = ⟨#[34, 92, 120, 50, 48, 34]⟩ := by decide +kernel
def peopleS : Spec where
  pre xs := xs = []
  post xs r := r = .b true
  cost _ := 0
  fresh := true
theorem people_ctr {cx : Cx} (h : Seat cx) (hU : Utf8 cx) : Ctr cx 18 peopleS := by
  refine ctr_of (fn := Tryd.f18) (l := [.tmp 0]) (envL [(21, distanceS), (12, quoteS)]) [0, 1, 2] [] [] (envL_cons (distance_ctr h hU) (envL_cons (quote_ctr h) (env0 h.hP))) ?_ (by rw [h.hP]; exact Tryd.func18) rfl (by kernel_rfl) rfl ?_ ?_
  · rw [h.hP]; exact ⟨_, Tryd.func18, by kernel_rfl, by kernel_rfl⟩
  · rintro xs rfl; exact ⟨_, rfl⟩
  · rintro xs rfl
    refine ⟨by rw [Tryd.ntmps18]; simp, ?_⟩
    simp only [go_sem, h.hP, peopleS, distanceS, quoteS, Tryd.ntmps18, Nat.reduceEqDiff, reduceCtorEq, Nat.reduceMul, Nat.reduceAdd, Nat.reduceSub, Nat.reduceDiv, Nat.reduceMod, Nat.reduceLeDiff, Nat.reduceLT, Nat.reduceBNe, Nat.reduceBEq, reduceIte, Int.reduceLE, Int.reduceLT, Int.reduceToNat, Int.reduceNeg, Int.reduceAdd, Int.reduceSub, Int.reduceMul, Int.reduceEq]
    exact ⟨fun _ => quote_space, fun e => e kitten⟩
theorem enc_le (n : Int) : (Utf8.encode n).size ≤ 4 := by
  unfold Utf8.encode
  simp only
  generalize (if Utf8.valid n = true then n.toNat else Utf8.runeError) = c
  split
  · exact (by decide : (1 : Nat) ≤ 4)
  · split
    · exact (by decide : (2 : Nat) ≤ 4)
    · split
      · exact (by decide : (3 : Nat) ≤ 4)
      · exact (by decide : (4 : Nat) ≤ 4)
def changedS : Spec where
  pre xs := ∃ t u : ByteArray, xs = [.st, .str t, .str u] ∧ t.size ≤ 1073741824 ∧ u.size ≤ 1073741824
  post xs r := ∃ t u v : ByteArray, xs = [.st, .str t, .str u] ∧ v.size ≤ t.size + u.size + 4 ∧ r = .str v
  cost _ := 3
  fresh := true
theorem changed_ctr {cx : Cx} (h : Seat cx) : Ctr cx 15 changedS := by
  refine ctr_of (fn := Tryd.f15) (l := [.tmp 6]) (envL [(25, nextS)]) [0, 1, 2, 6, 7, 8, 14, 27, 28, 42] [] [] (envL_cons (next_ctr cx h.hP h.hS) (env0 h.hP)) ?_ (by rw [h.hP]; exact Tryd.func15) rfl (by kernel_rfl) rfl ?_ ?_
  · rw [h.hP]; exact ⟨_, Tryd.func15, by kernel_rfl, by kernel_rfl⟩
  · rintro xs ⟨t, u, rfl, h1, h2⟩; exact ⟨_, t, u, ⟨#[]⟩, rfl, Nat.zero_le _, rfl⟩
  · rintro xs ⟨t, u, rfl, h1, h2⟩
    refine ⟨by rw [Tryd.ntmps15]; simp, ?_⟩
    simp only [go_sem, h.hP, changedS, nextS, str_nil, Tryd.ntmps15, Nat.reduceEqDiff, reduceCtorEq, Nat.reduceMul, Nat.reduceAdd, Nat.reduceSub, Nat.reduceDiv, Nat.reduceMod, Nat.reduceLeDiff, Nat.reduceLT, Nat.reduceBNe, Nat.reduceBEq, reduceIte, Int.reduceLE, Int.reduceLT, Int.reduceToNat, Int.reduceNeg, Int.reduceAdd, Int.reduceSub, Int.reduceMul, Int.reduceEq]
    refine ⟨fun c1 => ⟨fun c2 => by omega, fun c2 => ⟨by omega, fun a h3 h4 => ⟨by omega, fun b h5 h6 => ⟨by omega, by omega, fun q h7 h8 => ?_⟩⟩⟩⟩, fun c1 => by omega⟩
    obtain ⟨ha0, ha1⟩ := h3 (by omega)
    have he := enc_le (IntKind.i32.wrap (bt u b))
    rw [i64w (n := a + 1) (by omega) (by omega)]
    simp only [ByteArray.size_extract]
    clear h3 h4 h5 h6
    (repeat' (first | with_reducible apply And.intro | with_reducible intro)) <;> omega
end Go.Avc

/- Check signs of member numbers, by the program and by the reference. No condition. -/
set_option linter.unusedVariables false
set_option linter.unusedSimpArgs false
set_option maxRecDepth 100000
namespace Go.Avc
open Go Go.Proofs

theorem ix_lit {s : ByteArray} {i : Int} (h : memC (bt s i) = true) : ixB ⟨#[48, 49, 50, 51, 52, 53, 54, 55, 56, 57, 65, 66, 67, 68, 69, 70, 71, 72, 73, 74, 75, 76, 77, 78, 79, 80, 81, 82, 83, 84, 85, 86, 87, 88, 89, 90]⟩ (bt s i) = idxC (bt s i) := idx_bt h
theorem tdivN {a b : Int} (h : 0 ≤ a) : a.tdiv b = a / b := Int.tdiv_eq_ediv_of_nonneg h
theorem tmodN {a b : Int} (h : 0 ≤ a) : a.tmod b = a % b := Int.tmod_eq_emod_of_nonneg h
theorem signs_lit (i : Int) : bt ⟨#[48, 49, 50, 51, 52, 53, 54, 55, 56, 57, 65, 66, 67, 68, 69, 70, 71, 72, 73, 74, 75, 76, 77, 78, 79, 80, 81, 82, 83, 84, 85, 86, 87, 88, 89, 90]⟩ i = bt signsB i := rfl
theorem sumUp_step (s : ByteArray) {i : Int} (h : 0 ≤ i) : sumUp s (i + 1).toNat = sumUp s i.toNat + termS s i.toNat := by
  rw [show (i + 1).toNat = i.toNat + 1 by omega]
  rfl
def signP  : Spec where
  pre xs := ∃ (s : ByteArray), xs = [.str s] ∧ (s.size ≤ 100 ∧ (bl s).all memC = true)
  post xs y := ∃ (s : ByteArray), xs = [.str s] ∧ y = .u8 (bt signsB (signN s))
  cost _ := 0
  fresh := true
theorem signP_c  (xs : List AV) : (signP).cost xs = 0 := nr rfl
theorem signP_f  : (signP).fresh = true := nr rfl
theorem signP_q  (s : ByteArray) : (signP).pre [.str s] = (s.size ≤ 100 ∧ (bl s).all memC = true) := propext ⟨fun h => by
  have h' : ∃ (s' : ByteArray), ([.str s] : List AV) = [.str s'] ∧ (s'.size ≤ 100 ∧ (bl s').all memC = true) := h
  obtain ⟨s', e, h⟩ := h'
  simp only [List.cons.injEq, AV.dv.injEq, AV.fv.injEq, DV.d.injEq, DV.ag.injEq, D.int.injEq, D.str.injEq, D.bool.injEq, D.sl.injEq, true_and, and_true, intsDi_inj, rowsT_inj, rowsKi_inj] at e
  obtain rfl := e
  exact h, fun h => ⟨s, rfl, h⟩⟩
theorem signP_p  (s : ByteArray) : (signP).post [.str s] = fun y => y = .u8 (bt signsB (signN s)) := funext fun y => propext ⟨fun h => by
  have h' : ∃ (s' : ByteArray), ([.str s] : List AV) = [.str s'] ∧ y = .u8 (bt signsB (signN s')) := h
  obtain ⟨s', e, h⟩ := h'
  simp only [List.cons.injEq, AV.dv.injEq, AV.fv.injEq, DV.d.injEq, DV.ag.injEq, D.int.injEq, D.str.injEq, D.bool.injEq, D.sl.injEq, true_and, and_true, intsDi_inj, rowsT_inj, rowsKi_inj] at e
  obtain rfl := e
  exact h, fun h => ⟨s, rfl, h⟩⟩
theorem pcheckSign_ctr {cx : Cx} (h : Seat cx) : Ctr cx 98 signP := by
  refine ctr_of (fn := Tryd.f98) (l := [.tmp 2]) (envL [(117, ixSp)]) [0, 2, 3, 4, 5, 6, 11] [] [] (envL_cons (indexByte_ctr h) (env0 h.hP)) ?_ (by rw [h.hP]; exact Tryd.func98) rfl (by kernel_rfl) rfl ?_ ?_
  · rw [h.hP]; exact ⟨_, Tryd.func98, by kernel_rfl, by kernel_rfl⟩
  · rintro xs ⟨s, rfl, h1, h2⟩; exact ⟨_, s, rfl, rfl⟩
  · rintro xs ⟨s, rfl, h1, h2⟩
    refine ⟨by rw [Tryd.ntmps98]; simp, ?_⟩
    simp only [go_sem, h.hP, List.cons_append, List.nil_append, Meets_e, Below_e, Prod.exists, exists_eq, exists_eq_left, exists_eq_left', exists_eq_right, exists_eq_right', exists_and_left, exists_and_right, Ob.arr.injEq, AV.own.injEq, AV.fv.injEq, signP_q, signP_p, signP_c, signP_f, ixSp_q, ixSp_p, ixSp_c, ixSp_f, Tryd.ntmps98, Nat.reduceEqDiff, reduceCtorEq, Nat.reduceMul, Nat.reduceAdd, Nat.reduceSub, Nat.reduceDiv, Nat.reduceMod, Nat.reduceLeDiff, Nat.reduceLT, Nat.reduceBNe, Nat.reduceBEq, reduceIte, Int.reduceLE, Int.reduceLT, Int.reduceToNat, Int.reduceNeg, Int.reduceAdd, Int.reduceSub, Int.reduceMul, Int.reduceEq]
    refine vc_loopS (Int × Int × Int) (fun (x : Int × Int × Int) => match x with | (i, u, t) => [(5, .i i), (3, .i u), (4, .i t)]) [] (fun (x : Int × Int × Int) => match x with | (i, u, t) => []) (fun (x : Int × Int × Int) => match x with | (i, u, t) => []) (fun (x : Int × Int × Int) => match x with | (i, u, t) => 0) (fun (x : Int × Int × Int) => match x with | (i, u, t) => -1 ≤ i ∧ i < s.size ∧ u + sumUp s (i + 1).toNat = sumUp s s.size ∧ (t = if ((s.size : Int) - i) % 2 = 1 then 2 else 1) ∧ 0 ≤ u) (fun (x : Int × Int × Int) => match x with | (i, u, t) => (i + 1).toNat) [] ?_ ?_
    · simp only [go_sem, h.hP, List.cons_append, List.nil_append, Meets_e, Below_e, Prod.exists, exists_eq, exists_eq_left, exists_eq_left', exists_eq_right, exists_eq_right', exists_and_left, exists_and_right, Ob.arr.injEq, AV.own.injEq, AV.fv.injEq, Tryd.ntmps98, Nat.reduceEqDiff, reduceCtorEq, Nat.reduceMul, Nat.reduceAdd, Nat.reduceSub, Nat.reduceDiv, Nat.reduceMod, Nat.reduceLeDiff, Nat.reduceLT, Nat.reduceBNe, Nat.reduceBEq, reduceIte, Int.reduceLE, Int.reduceLT, Int.reduceToNat, Int.reduceNeg, Int.reduceAdd, Int.reduceSub, Int.reduceMul, Int.reduceEq]
      rw [i64w (n := (s.size : Int) - 1) (by omega) (by omega), show ((s.size : Int) - 1 + 1).toNat = s.size by omega]
      exact ⟨by omega, by omega, Int.zero_add _, (if_pos (by omega)).symm⟩
    · rintro ⟨i, u, t⟩ ⟨j1, j2, j3, j4, j5⟩
      simp only [go_sem, h.hP, List.cons_append, List.nil_append, Meets_e, Below_e, Prod.exists, exists_eq, exists_eq_left, exists_eq_left', exists_eq_right, exists_eq_right', exists_and_left, exists_and_right, Ob.arr.injEq, AV.own.injEq, AV.fv.injEq, signP_q, signP_p, signP_c, signP_f, ixSp_q, ixSp_p, ixSp_c, ixSp_f, Tryd.ntmps98, Nat.reduceEqDiff, reduceCtorEq, Nat.reduceMul, Nat.reduceAdd, Nat.reduceSub, Nat.reduceDiv, Nat.reduceMod, Nat.reduceLeDiff, Nat.reduceLT, Nat.reduceBNe, Nat.reduceBEq, reduceIte, Int.reduceLE, Int.reduceLT, Int.reduceToNat, Int.reduceNeg, Int.reduceAdd, Int.reduceSub, Int.reduceMul, Int.reduceEq]
      have hs0 := sumUp_in h2 s.size (Nat.le_refl _)
      have hs1 := sumUp_in h2 (i + 1).toNat (by omega)
      refine ⟨fun c => ?_, fun c => ?_⟩
      · have hm := all_at h2 c j2
        rw [ix_lit hm]
        have hx := idxC_in hm
        have ht := sumUp_step s c
        have hterm : termS s i.toNat = t * idxC (bt s i) / 36 + t * idxC (bt s i) % 36 := by
          unfold termS
          simp only
          rw [Int.toNat_of_nonneg c, j4]
          by_cases e : ((s.size : Int) - i) % 2 = 1
          · rw [if_pos e, if_pos (by omega)]
          · rw [if_neg e, if_neg (by omega), Int.one_mul]
        have hp0 : 0 ≤ t * idxC (bt s i) ∧ t * idxC (bt s i) ≤ 70 := by
          rw [j4]
          split <;> omega
        generalize t * idxC (bt s i) = p at *
        rw [i64w (n := p) (by omega) (by omega), tdivN hp0.1, tmodN hp0.1, i64w (n := p / 36) (by omega) (by omega), i64w (n := p / 36 + p % 36) (by omega) (by omega), i64w (n := u + (p / 36 + p % 36)) (by omega) (by omega), i64w (n := i - 1) (by omega) (by omega), i64w (n := 3 - t) (by rw [j4]; split <;> omega) (by rw [j4]; split <;> omega), show i - 1 + 1 = i by omega]
        exact ⟨c, j2, by omega, by omega, by omega, by rw [j4]; split <;> split <;> omega, by omega, by omega⟩
      · have hi : (i + 1).toNat = 0 := by omega
        rw [hi] at j3
        have hz : sumUp s 0 = 0 := rfl
        have hsg := signN_in s
        have e1 : (36 - u % 36) % 36 = signN s := by
          unfold signN
          rw [show u = sumUp s s.size by omega]
        rw [tmodN j5, i64w (n := 36 - u % 36) (by omega) (by omega), tmodN (by omega), signs_lit, e1]
        exact ⟨by omega, by omega, rfl⟩
def signR  : Spec where
  pre xs := ∃ (s : ByteArray), xs = [.str s] ∧ (s.size ≤ 100 ∧ (bl s).all memC = true)
  post xs y := ∃ (s : ByteArray), xs = [.str s] ∧ y = .i (signN s)
  cost _ := 0
  fresh := true
theorem signR_c  (xs : List AV) : (signR).cost xs = 0 := nr rfl
theorem signR_f  : (signR).fresh = true := nr rfl
theorem signR_q  (s : ByteArray) : (signR).pre [.str s] = (s.size ≤ 100 ∧ (bl s).all memC = true) := propext ⟨fun h => by
  have h' : ∃ (s' : ByteArray), ([.str s] : List AV) = [.str s'] ∧ (s'.size ≤ 100 ∧ (bl s').all memC = true) := h
  obtain ⟨s', e, h⟩ := h'
  simp only [List.cons.injEq, AV.dv.injEq, AV.fv.injEq, DV.d.injEq, DV.ag.injEq, D.int.injEq, D.str.injEq, D.bool.injEq, D.sl.injEq, true_and, and_true, intsDi_inj, rowsT_inj, rowsKi_inj] at e
  obtain rfl := e
  exact h, fun h => ⟨s, rfl, h⟩⟩
theorem signR_p  (s : ByteArray) : (signR).post [.str s] = fun y => y = .i (signN s) := funext fun y => propext ⟨fun h => by
  have h' : ∃ (s' : ByteArray), ([.str s] : List AV) = [.str s'] ∧ y = .i (signN s') := h
  obtain ⟨s', e, h⟩ := h'
  simp only [List.cons.injEq, AV.dv.injEq, AV.fv.injEq, DV.d.injEq, DV.ag.injEq, D.int.injEq, D.str.injEq, D.bool.injEq, D.sl.injEq, true_and, and_true, intsDi_inj, rowsT_inj, rowsKi_inj] at e
  obtain rfl := e
  exact h, fun h => ⟨s, rfl, h⟩⟩
theorem rcheckSign_ctr {cx : Cx} (h : Seat cx) : Ctr cx 105 signR := by
  refine ctr_of (fn := Tryd.f105) (l := [.tmp 2]) (envL [(117, ixSp)]) [0, 2, 3, 4, 5, 6, 8, 9, 10, 21, 32, 33, 39] [] [] (envL_cons (indexByte_ctr h) (env0 h.hP)) ?_ (by rw [h.hP]; exact Tryd.func105) rfl (by kernel_rfl) rfl ?_ ?_
  · rw [h.hP]; exact ⟨_, Tryd.func105, by kernel_rfl, by kernel_rfl⟩
  · rintro xs ⟨s, rfl, h1, h2⟩; exact ⟨_, s, rfl, rfl⟩
  · rintro xs ⟨s, rfl, h1, h2⟩
    refine ⟨by rw [Tryd.ntmps105]; simp, ?_⟩
    simp only [go_sem, h.hP, List.cons_append, List.nil_append, Meets_e, Below_e, Prod.exists, exists_eq, exists_eq_left, exists_eq_left', exists_eq_right, exists_eq_right', exists_and_left, exists_and_right, Ob.arr.injEq, AV.own.injEq, AV.fv.injEq, signR_q, signR_p, signR_c, signR_f, ixSp_q, ixSp_p, ixSp_c, ixSp_f, Tryd.ntmps105, Nat.reduceEqDiff, reduceCtorEq, Nat.reduceMul, Nat.reduceAdd, Nat.reduceSub, Nat.reduceDiv, Nat.reduceMod, Nat.reduceLeDiff, Nat.reduceLT, Nat.reduceBNe, Nat.reduceBEq, reduceIte, Int.reduceLE, Int.reduceLT, Int.reduceToNat, Int.reduceNeg, Int.reduceAdd, Int.reduceSub, Int.reduceMul, Int.reduceEq]
    refine vc_loopS (Int × Int) (fun (x : Int × Int) => match x with | (i, u) => [(9, .i i), (3, .i u)]) [] (fun (x : Int × Int) => match x with | (i, u) => []) (fun (x : Int × Int) => match x with | (i, u) => []) (fun (x : Int × Int) => match x with | (i, u) => 0) (fun (x : Int × Int) => match x with | (i, u) => 0 ≤ i ∧ i ≤ s.size ∧ u = sumUp s i.toNat) (fun (x : Int × Int) => match x with | (i, u) => (s.size - i).toNat) [] ?_ ?_
    · simp only [go_sem, h.hP, List.cons_append, List.nil_append, Meets_e, Below_e, Prod.exists, exists_eq, exists_eq_left, exists_eq_left', exists_eq_right, exists_eq_right', exists_and_left, exists_and_right, Ob.arr.injEq, AV.own.injEq, AV.fv.injEq, Tryd.ntmps105, Nat.reduceEqDiff, reduceCtorEq, Nat.reduceMul, Nat.reduceAdd, Nat.reduceSub, Nat.reduceDiv, Nat.reduceMod, Nat.reduceLeDiff, Nat.reduceLT, Nat.reduceBNe, Nat.reduceBEq, reduceIte, Int.reduceLE, Int.reduceLT, Int.reduceToNat, Int.reduceNeg, Int.reduceAdd, Int.reduceSub, Int.reduceMul, Int.reduceEq]
      exact ⟨Int.natCast_nonneg _, rfl⟩
    · rintro ⟨i, u⟩ ⟨j1, j2, j3⟩
      simp only [go_sem, h.hP, List.cons_append, List.nil_append, Meets_e, Below_e, Prod.exists, exists_eq, exists_eq_left, exists_eq_left', exists_eq_right, exists_eq_right', exists_and_left, exists_and_right, Ob.arr.injEq, AV.own.injEq, AV.fv.injEq, signR_q, signR_p, signR_c, signR_f, ixSp_q, ixSp_p, ixSp_c, ixSp_f, Tryd.ntmps105, Nat.reduceEqDiff, reduceCtorEq, Nat.reduceMul, Nat.reduceAdd, Nat.reduceSub, Nat.reduceDiv, Nat.reduceMod, Nat.reduceLeDiff, Nat.reduceLT, Nat.reduceBNe, Nat.reduceBEq, reduceIte, Int.reduceLE, Int.reduceLT, Int.reduceToNat, Int.reduceNeg, Int.reduceAdd, Int.reduceSub, Int.reduceMul, Int.reduceEq]
      have hs1 := sumUp_in h2 i.toNat (by omega)
      refine ⟨fun c => ?_, fun c => ?_⟩
      · have hm := all_at h2 j1 c
        rw [ix_lit hm]
        have hx := idxC_in hm
        have ht := sumUp_step s j1
        have hterm : termS s i.toNat = if ((s.size : Int) - i) % 2 = 1 then idxC (bt s i) * 2 / 36 + idxC (bt s i) * 2 % 36 else idxC (bt s i) / 36 + idxC (bt s i) % 36 := by
          unfold termS
          simp only
          rw [Int.toNat_of_nonneg j1]
          by_cases e : ((s.size : Int) - i) % 2 = 1
          · rw [if_pos e, if_pos (by omega), Int.mul_comm]
          · rw [if_neg e, if_neg (by omega)]
        generalize idxC (bt s i) = x at *
        rw [i64w (n := (s.size : Int) - i) (by omega) (by omega), tmodN (by omega), i64w (n := i + 1) (by omega) (by omega)]
        refine ⟨j1, c, fun e => ?_, fun e => ?_⟩
        · rw [if_pos e] at hterm
          rw [i64w (n := x * 2) (by omega) (by omega), tdivN (by omega), tmodN (by omega), i64w (n := x * 2 / 36) (by omega) (by omega), i64w (n := x * 2 / 36 + x * 2 % 36) (by omega) (by omega), i64w (n := u + (x * 2 / 36 + x * 2 % 36)) (by omega) (by omega)]
          exact ⟨by omega, by omega, by omega, by omega⟩
        · rw [if_neg e] at hterm
          rw [tdivN (by omega), tmodN (by omega), i64w (n := x / 36) (by omega) (by omega), i64w (n := x / 36 + x % 36) (by omega) (by omega), i64w (n := u + (x / 36 + x % 36)) (by omega) (by omega)]
          exact ⟨by omega, by omega, by omega, by omega⟩
      · have hi : i.toNat = s.size := by omega
        rw [hi] at j3
        have hsg := signN_in s
        have e1 : (36 - u % 36) % 36 = signN s := by
          unfold signN
          rw [j3]
        refine vc_loopT (Int) (fun (c : Int) => [(32, .i c)]) [] (fun (c : Int) => []) (fun (c : Int) => []) (fun (c : Int) => 0) (fun (c : Int) => 0 ≤ c ∧ c ≤ signN s) (fun (c : Int) => (36 - c).toNat) [] ?_ ?_
        · simp only [go_sem, h.hP, List.cons_append, List.nil_append, Meets_e, Below_e, Prod.exists, exists_eq, exists_eq_left, exists_eq_left', exists_eq_right, exists_eq_right', exists_and_left, exists_and_right, Ob.arr.injEq, AV.own.injEq, AV.fv.injEq, Tryd.ntmps105, Nat.reduceEqDiff, reduceCtorEq, Nat.reduceMul, Nat.reduceAdd, Nat.reduceSub, Nat.reduceDiv, Nat.reduceMod, Nat.reduceLeDiff, Nat.reduceLT, Nat.reduceBNe, Nat.reduceBEq, reduceIte, Int.reduceLE, Int.reduceLT, Int.reduceToNat, Int.reduceNeg, Int.reduceAdd, Int.reduceSub, Int.reduceMul, Int.reduceEq]
          exact hsg.1
        · rintro d ⟨k1, k2⟩
          have hs2 := sumUp_in h2 s.size (Nat.le_refl _)
          simp only [go_sem, h.hP, List.cons_append, List.nil_append, Meets_e, Below_e, Prod.exists, exists_eq, exists_eq_left, exists_eq_left', exists_eq_right, exists_eq_right', exists_and_left, exists_and_right, Ob.arr.injEq, AV.own.injEq, AV.fv.injEq, signR_q, signR_p, signR_c, signR_f, Tryd.ntmps105, Nat.reduceEqDiff, reduceCtorEq, Nat.reduceMul, Nat.reduceAdd, Nat.reduceSub, Nat.reduceDiv, Nat.reduceMod, Nat.reduceLeDiff, Nat.reduceLT, Nat.reduceBNe, Nat.reduceBEq, reduceIte, Int.reduceLE, Int.reduceLT, Int.reduceToNat, Int.reduceNeg, Int.reduceAdd, Int.reduceSub, Int.reduceMul, Int.reduceEq]
          refine ⟨fun q => ?_, fun q => by omega⟩
          rw [i64w (n := u + d) (by omega) (by omega), tmodN (by omega), i64w (n := d + 1) (by omega) (by omega)]
          exact ⟨fun e => by omega, fun e => ⟨by omega, by omega, by omega⟩⟩
end Go.Avc

/- Ids: what is wrong with them, and their order, by the program. No condition. -/
set_option linter.unusedVariables false
set_option linter.unusedSimpArgs false
set_option maxRecDepth 100000
namespace Go.Avc
open Go Go.Proofs

def idS  : Spec where
  pre xs := ∃ (x : TId), xs = [.dv (.ag x.row)] ∧ (x.ok)
  post xs y := ∃ (x : TId), xs = [.dv (.ag x.row)] ∧ y = .i (idF x)
  cost _ := 0
  fresh := true
theorem idS_c  (xs : List AV) : (idS).cost xs = 0 := nr rfl
theorem idS_f  : (idS).fresh = true := nr rfl
theorem idS_q  (x : TId) : (idS).pre [.dv (.ag [.int .i64 x.kind, .str x.text])] = (x.ok) := propext ⟨fun h => by
  have h' : ∃ (x' : TId), ([.dv (.ag x.row)] : List AV) = [.dv (.ag x'.row)] ∧ (x'.ok) := h
  obtain ⟨x', e, h⟩ := h'
  simp only [List.cons.injEq, AV.dv.injEq, AV.fv.injEq, DV.d.injEq, DV.ag.injEq, D.int.injEq, D.str.injEq, D.bool.injEq, D.sl.injEq, true_and, and_true, intsDi_inj, rowsT_inj, rowsKi_inj, TId.row_inj, TId.rows_inj] at e
  obtain rfl := e
  exact h, fun h => ⟨x, rfl, h⟩⟩
theorem idS_p  (x : TId) : (idS).post [.dv (.ag [.int .i64 x.kind, .str x.text])] = fun y => y = .i (idF x) := funext fun y => propext ⟨fun h => by
  have h' : ∃ (x' : TId), ([.dv (.ag x.row)] : List AV) = [.dv (.ag x'.row)] ∧ y = .i (idF x') := h
  obtain ⟨x', e, h⟩ := h'
  simp only [List.cons.injEq, AV.dv.injEq, AV.fv.injEq, DV.d.injEq, DV.ag.injEq, D.int.injEq, D.str.injEq, D.bool.injEq, D.sl.injEq, true_and, and_true, intsDi_inj, rowsT_inj, rowsKi_inj, TId.row_inj, TId.rows_inj] at e
  obtain rfl := e
  exact h, fun h => ⟨x, rfl, h⟩⟩
set_option maxHeartbeats 4000000 in
theorem CheckId_ctr {cx : Cx} (h : Seat cx) (hM : MaxL cx) : Ctr cx 52 idS := by
  refine ctr_of (fn := Tryd.f52) (l := [.tmp 2]) (envL [(94, (strB4 mailB)), (95, (strB4 phoneB)), (96, (strB4 memberB)), (97, (strB4 deviceB)), (98, signP)]) [0, 1, 2, 3, 4, 6, 7, 12, 17, 22, 28, 47] [] [] (envL_cons (isMail_ctr h hM) (envL_cons (isPhone_ctr h) (envL_cons (isMember_ctr h) (envL_cons (isDevice_ctr h) (envL_cons (pcheckSign_ctr h) (env0 h.hP)))))) ?_ (by rw [h.hP]; exact Tryd.func52) rfl (by kernel_rfl) rfl ?_ ?_
  · rw [h.hP]; exact ⟨_, Tryd.func52, by kernel_rfl, by kernel_rfl⟩
  · rintro xs ⟨x, rfl, h1⟩; exact ⟨_, x, rfl, rfl⟩
  · rintro xs ⟨x, rfl, h1⟩
    obtain ⟨o1, o2⟩ := h1
    refine ⟨by rw [Tryd.ntmps52]; simp, ?_⟩
    simp only [go_sem, h.hP, List.cons_append, List.nil_append, Meets_e, Below_e, Prod.exists, exists_eq, exists_eq_left, exists_eq_left', exists_eq_right, exists_eq_right', exists_and_left, exists_and_right, Ob.arr.injEq, AV.own.injEq, AV.fv.injEq, idS_q, idS_p, idS_c, idS_f, strB4_q, strB4_p, strB4_c, strB4_f, signP_q, signP_p, signP_c, signP_f, TId.row, Tryd.ntmps52, Nat.reduceEqDiff, reduceCtorEq, Nat.reduceMul, Nat.reduceAdd, Nat.reduceSub, Nat.reduceDiv, Nat.reduceMod, Nat.reduceLeDiff, Nat.reduceLT, Nat.reduceBNe, Nat.reduceBEq, reduceIte, Int.reduceLE, Int.reduceLT, Int.reduceToNat, Int.reduceNeg, Int.reduceAdd, Int.reduceSub, Int.reduceMul, Int.reduceEq]
    unfold okS at o2
    have m0 : memberB x.text = true → 4 ≤ (x.text.size : Int) ∧ (x.text.size : Int) ≤ 20 ∧ (bl x.text).all memC = true := fun e => by
      unfold memberB at e
      rw [Bool.and_eq_true] at e
      have := inB_iff.1 e.1
      exact ⟨this.1, this.2, e.2⟩
    have hI : 4 ≤ (x.text.size : Int) → x.text.extract 0 (IntKind.i64.wrap ((x.text.size : Int) - 1)).toNat = initS x.text := fun e => by
      rw [i64w (n := (x.text.size : Int) - 1) (by omega) (by omega), show ((x.text.size : Int) - 1).toNat = x.text.size - 1 by omega]
      rfl
    have hIs : (initS x.text).size ≤ x.text.size := by unfold initS; rw [ByteArray.size_extract]; omega
    have hIm : (bl x.text).all memC = true → (bl (initS x.text)).all memC = true := fun e => by
      unfold initS
      rw [bl_extract, List.drop_zero]
      rw [List.all_eq_true] at e ⊢
      exact fun y hy => e y (List.mem_of_mem_take hy)
    have e1 : x.kind = 1 → idF x = if mailB x.text = true then 0 else 3 := fun c => if_pos c
    have e2 : ¬ x.kind = 1 → x.kind = 2 → idF x = if phoneB x.text = true then 0 else 3 := fun c d => (if_neg c).trans (if_pos d)
    have e3 : ¬ x.kind = 1 → ¬ x.kind = 2 → x.kind = 3 → idF x = if memberB x.text = true then (if bt signsB (signN (initS x.text)) ≠ bt x.text ((x.text.size : Int) - 1) then 15 else 0) else 3 := fun c d e => (if_neg c).trans ((if_neg d).trans (if_pos e))
    have e4 : ¬ x.kind = 1 → ¬ x.kind = 2 → ¬ x.kind = 3 → idF x = if x.kind = 4 then (if deviceB x.text = true then 0 else 3) else 4 := fun c d e => (if_neg c).trans ((if_neg d).trans (if_neg e))
    generalize idF x = R at *
    refine ⟨fun c1 => ⟨by omega, fun c => ?_, fun c => ⟨fun d => by omega, fun _ => ?_⟩⟩, fun c1 => ⟨fun c2 => ⟨by omega, fun c => ?_, fun c => ⟨fun d => by omega, fun _ => ?_⟩⟩, fun c2 => ⟨fun c3 => ⟨by omega, fun c => ?_, fun c => ⟨fun _ => ?_, fun d => absurd c3 d⟩⟩, fun c3 => ⟨fun c4 => ⟨by omega, fun c => ?_, fun c => ⟨fun d => absurd d c3, fun _ => ?_⟩⟩, fun c4 => ?_⟩⟩⟩⟩
    · rw [e1 c1, if_neg (ne_tf c)]
    · rw [e1 c1, if_pos c]
    · rw [e2 c1 c2, if_neg (ne_tf c)]
    · rw [e2 c1 c2, if_pos c]
    · rw [e3 c1 c2 c3, if_neg (ne_tf c)]
    · obtain ⟨n1, n2, n3⟩ := m0 c
      rw [hI n1, i64w (n := (x.text.size : Int) - 1) (by omega) (by omega), e3 c1 c2 c3, if_pos c]
      exact ⟨by omega, by omega, by omega, hIm n3, by omega, by omega, fun q => (if_pos q).symm, fun q => (if_neg (fun z => z q)).symm⟩
    · rw [e4 c1 c2 c3, if_pos c4, if_neg (ne_tf c)]
    · rw [e4 c1 c2 c3, if_pos c4, if_pos c]
    · rw [e4 c1 c2 c3, if_neg c4]
/-! ### Comparisons -/
def nanT  : Spec where
  pre xs := ∃ (s : ByteArray), xs = [.str s]
  post xs y := ∃ (s : ByteArray), xs = [.str s] ∧ y = .b false
  cost _ := 0
  fresh := true
theorem nanT_c  (xs : List AV) : (nanT).cost xs = 0 := nr rfl
theorem nanT_f  : (nanT).fresh = true := nr rfl
theorem nanT_q  (s : ByteArray) : (nanT).pre [.str s] = (True) := propext ⟨fun h => by
  have h' : ∃ (s' : ByteArray), ([.str s] : List AV) = [.str s'] := h
  obtain ⟨s', e⟩ := h'
  simp only [List.cons.injEq, AV.dv.injEq, AV.fv.injEq, DV.d.injEq, DV.ag.injEq, D.int.injEq, D.str.injEq, D.bool.injEq, D.sl.injEq, true_and, and_true, intsDi_inj, rowsT_inj, rowsKi_inj] at e
  obtain rfl := e
  exact trivial, fun h => ⟨s, rfl⟩⟩
theorem nanT_p  (s : ByteArray) : (nanT).post [.str s] = fun y => y = .b false := funext fun y => propext ⟨fun h => by
  have h' : ∃ (s' : ByteArray), ([.str s] : List AV) = [.str s'] ∧ y = .b false := h
  obtain ⟨s', e, h⟩ := h'
  simp only [List.cons.injEq, AV.dv.injEq, AV.fv.injEq, DV.d.injEq, DV.ag.injEq, D.int.injEq, D.str.injEq, D.bool.injEq, D.sl.injEq, true_and, and_true, intsDi_inj, rowsT_inj, rowsKi_inj] at e
  obtain rfl := e
  exact h, fun h => ⟨s, rfl, h⟩⟩
theorem isNaNT_ctr {cx : Cx} (h : Seat cx) : Ctr cx 160 nanT := by
  refine ctr_of (fn := Tryd.f160) (l := [.tmp 2]) (envL []) [0, 2] [] [] (env0 h.hP) ?_ (by rw [h.hP]; exact Tryd.func160) rfl (by kernel_rfl) rfl ?_ ?_
  · rw [h.hP]; exact ⟨_, Tryd.func160, by kernel_rfl, by kernel_rfl⟩
  · rintro xs ⟨s, rfl⟩; exact ⟨_, s, rfl, rfl⟩
  · rintro xs ⟨s, rfl⟩
    refine ⟨by rw [Tryd.ntmps160]; simp, ?_⟩
    simp only [go_sem, h.hP, List.cons_append, List.nil_append, Meets_e, Below_e, Prod.exists, exists_eq, exists_eq_left, exists_eq_left', exists_eq_right, exists_eq_right', exists_and_left, exists_and_right, Ob.arr.injEq, AV.own.injEq, AV.fv.injEq, nanT_q, nanT_p, nanT_c, nanT_f, Tryd.ntmps160, Nat.reduceEqDiff, reduceCtorEq, Nat.reduceMul, Nat.reduceAdd, Nat.reduceSub, Nat.reduceDiv, Nat.reduceMod, Nat.reduceLeDiff, Nat.reduceLT, Nat.reduceBNe, Nat.reduceBEq, reduceIte, Int.reduceLE, Int.reduceLT, Int.reduceToNat, Int.reduceNeg, Int.reduceAdd, Int.reduceSub, Int.reduceMul, Int.reduceEq]
def cmpTSp  : Spec where
  pre xs := ∃ (s : ByteArray) (t : ByteArray), xs = [.str s, .str t]
  post xs y := ∃ (s : ByteArray) (t : ByteArray), xs = [.str s, .str t] ∧ y = .i (cmpT s t)
  cost _ := 0
  fresh := true
theorem cmpTSp_c  (xs : List AV) : (cmpTSp).cost xs = 0 := nr rfl
theorem cmpTSp_f  : (cmpTSp).fresh = true := nr rfl
theorem cmpTSp_q  (s : ByteArray) (t : ByteArray) : (cmpTSp).pre [.str s, .str t] = (True) := propext ⟨fun h => by
  have h' : ∃ (s' : ByteArray) (t' : ByteArray), ([.str s, .str t] : List AV) = [.str s', .str t'] := h
  obtain ⟨s', t', e⟩ := h'
  simp only [List.cons.injEq, AV.dv.injEq, AV.fv.injEq, DV.d.injEq, DV.ag.injEq, D.int.injEq, D.str.injEq, D.bool.injEq, D.sl.injEq, true_and, and_true, intsDi_inj, rowsT_inj, rowsKi_inj] at e
  obtain ⟨rfl, rfl⟩ := e
  exact trivial, fun h => ⟨s, t, rfl⟩⟩
theorem cmpTSp_p  (s : ByteArray) (t : ByteArray) : (cmpTSp).post [.str s, .str t] = fun y => y = .i (cmpT s t) := funext fun y => propext ⟨fun h => by
  have h' : ∃ (s' : ByteArray) (t' : ByteArray), ([.str s, .str t] : List AV) = [.str s', .str t'] ∧ y = .i (cmpT s' t') := h
  obtain ⟨s', t', e, h⟩ := h'
  simp only [List.cons.injEq, AV.dv.injEq, AV.fv.injEq, DV.d.injEq, DV.ag.injEq, D.int.injEq, D.str.injEq, D.bool.injEq, D.sl.injEq, true_and, and_true, intsDi_inj, rowsT_inj, rowsKi_inj] at e
  obtain ⟨rfl, rfl⟩ := e
  exact h, fun h => ⟨s, t, rfl, h⟩⟩
theorem compareT_ctr {cx : Cx} (h : Seat cx) : Ctr cx 108 cmpTSp := by
  refine ctr_of (fn := Tryd.f108) (l := [.tmp 4]) (envL [(160, nanT)]) [0, 1, 4, 5, 6, 11, 12, 13, 16, 19] [] [] (envL_cons (isNaNT_ctr h) (env0 h.hP)) ?_ (by rw [h.hP]; exact Tryd.func108) rfl (by kernel_rfl) rfl ?_ ?_
  · rw [h.hP]; exact ⟨_, Tryd.func108, by kernel_rfl, by kernel_rfl⟩
  · rintro xs ⟨s, t, rfl⟩; exact ⟨_, s, t, rfl, rfl⟩
  · rintro xs ⟨s, t, rfl⟩
    refine ⟨by rw [Tryd.ntmps108]; simp, ?_⟩
    simp only [go_sem, h.hP, List.cons_append, List.nil_append, Meets_e, Below_e, Prod.exists, exists_eq, exists_eq_left, exists_eq_left', exists_eq_right, exists_eq_right', exists_and_left, exists_and_right, Ob.arr.injEq, AV.own.injEq, AV.fv.injEq, cmpTSp_q, cmpTSp_p, cmpTSp_c, cmpTSp_f, nanT_q, nanT_p, nanT_c, nanT_f, Tryd.ntmps108, Nat.reduceEqDiff, reduceCtorEq, Nat.reduceMul, Nat.reduceAdd, Nat.reduceSub, Nat.reduceDiv, Nat.reduceMod, Nat.reduceLeDiff, Nat.reduceLT, Nat.reduceBNe, Nat.reduceBEq, reduceIte, Int.reduceLE, Int.reduceLT, Int.reduceToNat, Int.reduceNeg, Int.reduceAdd, Int.reduceSub, Int.reduceMul, Int.reduceEq]
    have e : cmpT s t = if lessS s t = true then -1 else if s = t then 0 else 1 := rfl
    have el : lessS s t = Op.bytesLess s.toList t.toList := rfl
    generalize Op.bytesLess s.toList t.toList = q at *
    rw [e, el]
    refine ⟨fun c => (if_pos c).symm, fun c => ⟨fun d => ?_, fun d => ?_⟩⟩
    · rw [if_neg (ne_tf c)]
      rw [c, Bool.false_or, decide_eq_false_iff_not] at d
      rw [if_neg d]
    · rw [if_neg (ne_tf c), if_pos (d.resolve_left (ne_tf c))]
def orSp  : Spec where
  pre xs := ∃ (l : List Int), xs = [.sl (intsD l)] ∧ (l.length ≤ 1048576)
  post xs y := ∃ (l : List Int), xs = [.sl (intsD l)] ∧ y = .i (firstI l.length fun i => l.getD i 0)
  cost _ := 0
  fresh := true
theorem orSp_c  (xs : List AV) : (orSp).cost xs = 0 := nr rfl
theorem orSp_f  : (orSp).fresh = true := nr rfl
theorem orSp_q  (l : List Int) : (orSp).pre [.sl (intsD l)] = (l.length ≤ 1048576) := propext ⟨fun h => by
  have h' : ∃ (l' : List Int), ([.sl (intsD l)] : List AV) = [.sl (intsD l')] ∧ (l'.length ≤ 1048576) := h
  obtain ⟨l', e, h⟩ := h'
  simp only [List.cons.injEq, AV.dv.injEq, AV.fv.injEq, DV.d.injEq, DV.ag.injEq, D.int.injEq, D.str.injEq, D.bool.injEq, D.sl.injEq, true_and, and_true, intsDi_inj, rowsT_inj, rowsKi_inj] at e
  obtain rfl := e
  exact h, fun h => ⟨l, rfl, h⟩⟩
theorem orSp_p  (l : List Int) : (orSp).post [.sl (intsD l)] = fun y => y = .i (firstI l.length fun i => l.getD i 0) := funext fun y => propext ⟨fun h => by
  have h' : ∃ (l' : List Int), ([.sl (intsD l)] : List AV) = [.sl (intsD l')] ∧ y = .i (firstI l'.length fun i => l'.getD i 0) := h
  obtain ⟨l', e, h⟩ := h'
  simp only [List.cons.injEq, AV.dv.injEq, AV.fv.injEq, DV.d.injEq, DV.ag.injEq, D.int.injEq, D.str.injEq, D.bool.injEq, D.sl.injEq, true_and, and_true, intsDi_inj, rowsT_inj, rowsKi_inj] at e
  obtain rfl := e
  exact h, fun h => ⟨l, rfl, h⟩⟩
theorem or_ctr {cx : Cx} (h : Seat cx) : Ctr cx 106 orSp := by
  refine ctr_of (fn := Tryd.f106) (l := [.tmp 2]) (envL []) [0, 2, 3, 5, 6, 7, 8, 9, 14] [] [] (env0 h.hP) ?_ (by rw [h.hP]; exact Tryd.func106) rfl (by kernel_rfl) rfl ?_ ?_
  · rw [h.hP]; exact ⟨_, Tryd.func106, by kernel_rfl, by kernel_rfl⟩
  · rintro xs ⟨l, rfl, h1⟩; exact ⟨_, l, rfl, rfl⟩
  · rintro xs ⟨l, rfl, h1⟩
    refine ⟨by rw [Tryd.ntmps106]; simp, ?_⟩
    simp only [go_sem, h.hP, List.cons_append, List.nil_append, Meets_e, Below_e, Prod.exists, exists_eq, exists_eq_left, exists_eq_left', exists_eq_right, exists_eq_right', exists_and_left, exists_and_right, Ob.arr.injEq, AV.own.injEq, AV.fv.injEq, orSp_q, orSp_p, orSp_c, orSp_f, intsD_len, Tryd.ntmps106, Nat.reduceEqDiff, reduceCtorEq, Nat.reduceMul, Nat.reduceAdd, Nat.reduceSub, Nat.reduceDiv, Nat.reduceMod, Nat.reduceLeDiff, Nat.reduceLT, Nat.reduceBNe, Nat.reduceBEq, reduceIte, Int.reduceLE, Int.reduceLT, Int.reduceToNat, Int.reduceNeg, Int.reduceAdd, Int.reduceSub, Int.reduceMul, Int.reduceEq]
    refine vc_loopS (Int) (fun (i : Int) => [(8, .i i)]) [] (fun (i : Int) => []) (fun (i : Int) => []) (fun (i : Int) => 0) (fun (i : Int) => Rounds l.length (fun i => l.getD i 0) i) (fun (i : Int) => (l.length - i).toNat) [] ?_ ?_
    · simp only [go_sem, h.hP, List.cons_append, List.nil_append, Meets_e, Below_e, Prod.exists, exists_eq, exists_eq_left, exists_eq_left', exists_eq_right, exists_eq_right', exists_and_left, exists_and_right, Ob.arr.injEq, AV.own.injEq, AV.fv.injEq, Tryd.ntmps106, Nat.reduceEqDiff, reduceCtorEq, Nat.reduceMul, Nat.reduceAdd, Nat.reduceSub, Nat.reduceDiv, Nat.reduceMod, Nat.reduceLeDiff, Nat.reduceLT, Nat.reduceBNe, Nat.reduceBEq, reduceIte, Int.reduceLE, Int.reduceLT, Int.reduceToNat, Int.reduceNeg, Int.reduceAdd, Int.reduceSub, Int.reduceMul, Int.reduceEq]
      exact Rounds.start
    · rintro i hr
      obtain ⟨hi, hS, hM, hE, hN⟩ := hr.use (by omega)
      simp only [go_sem, h.hP, List.cons_append, List.nil_append, Meets_e, Below_e, Prod.exists, exists_eq, exists_eq_left, exists_eq_left', exists_eq_right, exists_eq_right', exists_and_left, exists_and_right, Ob.arr.injEq, AV.own.injEq, AV.fv.injEq, orSp_q, orSp_p, orSp_c, orSp_f, intsD_len, intsD_get, Tryd.ntmps106, Nat.reduceEqDiff, reduceCtorEq, Nat.reduceMul, Nat.reduceAdd, Nat.reduceSub, Nat.reduceDiv, Nat.reduceMod, Nat.reduceLeDiff, Nat.reduceLT, Nat.reduceBNe, Nat.reduceBEq, reduceIte, Int.reduceLE, Int.reduceLT, Int.reduceToNat, Int.reduceNeg, Int.reduceAdd, Int.reduceSub, Int.reduceMul, Int.reduceEq]
      refine ⟨fun c => ⟨hi, c, fun d => (hE _ c rfl d).symm, fun d => ⟨hS c d, hM c⟩⟩, fun c => (hN c).symm⟩
theorem or_two (a b : Int) : firstI 2 (fun i => [a, b].getD i 0) = if a ≠ 0 then a else b := by
  by_cases h : a ≠ 0
  · rw [if_pos h]
    exact firstI_at (n := 2) (f := fun i => [a, b].getD i 0) (i := 0) (by decide) (by decide) (fun j hj => by omega) h
  · rw [if_neg h]
    have h0 : ∀ j : Nat, (j : Int) < 1 → [a, b].getD j 0 = 0 := fun j hj => by
      obtain rfl : j = 0 := by omega
      exact Decidable.not_not.1 h
    by_cases h2 : b ≠ 0
    · exact firstI_at (n := 2) (f := fun i => [a, b].getD i 0) (i := 1) (by decide) (by decide) h0 h2
    · rw [firstI_no (n := 2) (f := fun i => [a, b].getD i 0) (i := 2) (fun j hj => ?_) (by decide), Decidable.not_not.1 h2]
      by_cases hj1 : (j : Int) < 1
      · exact h0 j hj1
      · obtain rfl : j = 1 := by omega
        exact Decidable.not_not.1 h2
def ordS  : Spec where
  pre xs := ∃ (a : TId) (b : TId), xs = [.dv (.ag a.row), .dv (.ag b.row)]
  post xs y := ∃ (a : TId) (b : TId), xs = [.dv (.ag a.row), .dv (.ag b.row)] ∧ y = .i (ordF a b)
  cost _ := 0
  fresh := true
theorem ordS_c  (xs : List AV) : (ordS).cost xs = 0 := nr rfl
theorem ordS_f  : (ordS).fresh = true := nr rfl
theorem ordS_q  (a : TId) (b : TId) : (ordS).pre [.dv (.ag [.int .i64 a.kind, .str a.text]), .dv (.ag [.int .i64 b.kind, .str b.text])] = (True) := propext ⟨fun h => by
  have h' : ∃ (a' : TId) (b' : TId), ([.dv (.ag a.row), .dv (.ag b.row)] : List AV) = [.dv (.ag a'.row), .dv (.ag b'.row)] := h
  obtain ⟨a', b', e⟩ := h'
  simp only [List.cons.injEq, AV.dv.injEq, AV.fv.injEq, DV.d.injEq, DV.ag.injEq, D.int.injEq, D.str.injEq, D.bool.injEq, D.sl.injEq, true_and, and_true, intsDi_inj, rowsT_inj, rowsKi_inj, TId.row_inj, TId.rows_inj, TId.row_inj, TId.rows_inj] at e
  obtain ⟨rfl, rfl⟩ := e
  exact trivial, fun h => ⟨a, b, rfl⟩⟩
theorem ordS_p  (a : TId) (b : TId) : (ordS).post [.dv (.ag [.int .i64 a.kind, .str a.text]), .dv (.ag [.int .i64 b.kind, .str b.text])] = fun y => y = .i (ordF a b) := funext fun y => propext ⟨fun h => by
  have h' : ∃ (a' : TId) (b' : TId), ([.dv (.ag a.row), .dv (.ag b.row)] : List AV) = [.dv (.ag a'.row), .dv (.ag b'.row)] ∧ y = .i (ordF a' b') := h
  obtain ⟨a', b', e, h⟩ := h'
  simp only [List.cons.injEq, AV.dv.injEq, AV.fv.injEq, DV.d.injEq, DV.ag.injEq, D.int.injEq, D.str.injEq, D.bool.injEq, D.sl.injEq, true_and, and_true, intsDi_inj, rowsT_inj, rowsKi_inj, TId.row_inj, TId.rows_inj, TId.row_inj, TId.rows_inj] at e
  obtain ⟨rfl, rfl⟩ := e
  exact h, fun h => ⟨a, b, rfl, h⟩⟩
theorem CompareIds_ctr {cx : Cx} (h : Seat cx) : Ctr cx 54 ordS := by
  refine ctr_of (fn := Tryd.f54) (l := [.tmp 4]) (envL [(107, cmpISp), (108, cmpTSp), (106, orSp)]) [0, 1, 2, 3, 4] [] [] (envL_cons (compareI_ctr h) (envL_cons (compareT_ctr h) (envL_cons (or_ctr h) (env0 h.hP)))) ?_ (by rw [h.hP]; exact Tryd.func54) rfl (by kernel_rfl) rfl ?_ ?_
  · rw [h.hP]; exact ⟨_, Tryd.func54, by kernel_rfl, by kernel_rfl⟩
  · rintro xs ⟨a, b, rfl⟩; exact ⟨_, a, b, rfl, rfl⟩
  · rintro xs ⟨a, b, rfl⟩
    refine ⟨by rw [Tryd.ntmps54]; simp, ?_⟩
    simp only [go_sem, h.hP, List.cons_append, List.nil_append, Meets_e, Below_e, Prod.exists, exists_eq, exists_eq_left, exists_eq_left', exists_eq_right, exists_eq_right', exists_and_left, exists_and_right, Ob.arr.injEq, AV.own.injEq, AV.fv.injEq, ordS_q, ordS_p, ordS_c, ordS_f, cmpISp_q, cmpISp_p, cmpISp_c, cmpISp_f, cmpTSp_q, cmpTSp_p, cmpTSp_c, cmpTSp_f, orSp_q, orSp_p, orSp_c, orSp_f, TId.row, ints1, intsc, Tryd.ntmps54, Nat.reduceEqDiff, reduceCtorEq, Nat.reduceMul, Nat.reduceAdd, Nat.reduceSub, Nat.reduceDiv, Nat.reduceMod, Nat.reduceLeDiff, Nat.reduceLT, Nat.reduceBNe, Nat.reduceBEq, reduceIte, Int.reduceLE, Int.reduceLT, Int.reduceToNat, Int.reduceNeg, Int.reduceAdd, Int.reduceSub, Int.reduceMul, Int.reduceEq]
    rw [or_two]
    unfold ordF cmpI
    by_cases c1 : a.kind < b.kind
    · rw [if_pos c1, if_pos c1]; rfl
    · rw [if_neg c1, if_neg c1]
      by_cases c2 : a.kind > b.kind
      · rw [if_pos c2, if_pos c2]; rfl
      · rw [if_neg c2, if_neg c2]; rfl
theorem Order_ctr {cx : Cx} (h : Seat cx) : Ctr cx 55 ordS := by
  refine ctr_of (fn := Tryd.f55) (l := [.tmp 4]) (envL []) [0, 1, 2, 3, 4, 5, 25] [] [] (env0 h.hP) ?_ (by rw [h.hP]; exact Tryd.func55) rfl (by kernel_rfl) rfl ?_ ?_
  · rw [h.hP]; exact ⟨_, Tryd.func55, by kernel_rfl, by kernel_rfl⟩
  · rintro xs ⟨a, b, rfl⟩; exact ⟨_, a, b, rfl, rfl⟩
  · rintro xs ⟨a, b, rfl⟩
    refine ⟨by rw [Tryd.ntmps55]; simp, ?_⟩
    simp only [go_sem, h.hP, List.cons_append, List.nil_append, Meets_e, Below_e, Prod.exists, exists_eq, exists_eq_left, exists_eq_left', exists_eq_right, exists_eq_right', exists_and_left, exists_and_right, Ob.arr.injEq, AV.own.injEq, AV.fv.injEq, ordS_q, ordS_p, ordS_c, ordS_f, TId.row, Tryd.ntmps55, Nat.reduceEqDiff, reduceCtorEq, Nat.reduceMul, Nat.reduceAdd, Nat.reduceSub, Nat.reduceDiv, Nat.reduceMod, Nat.reduceLeDiff, Nat.reduceLT, Nat.reduceBNe, Nat.reduceBEq, reduceIte, Int.reduceLE, Int.reduceLT, Int.reduceToNat, Int.reduceNeg, Int.reduceAdd, Int.reduceSub, Int.reduceMul, Int.reduceEq]
    have e : ordF a b = if a.kind < b.kind then -1 else if a.kind > b.kind then 1 else if lessS a.text b.text = true then -1 else if a.text = b.text then 0 else 1 := rfl
    have el : lessS a.text b.text = Op.bytesLess a.text.toList b.text.toList := rfl
    rw [e, el]
    generalize Op.bytesLess a.text.toList b.text.toList = q
    have bk : (a.kind == b.kind && decide (a.text = b.text)) = false → ¬ (a.kind = b.kind ∧ a.text = b.text) := fun z1 z2 => by
      rw [z2.1, z2.2] at z1
      simp at z1
    refine ⟨fun c => ⟨fun c1 => ⟨fun d => ?_, fun d => ⟨fun f => ?_, fun f => ?_⟩⟩, fun c1 => ⟨fun f => absurd f.1 c1, fun f => ?_⟩⟩, fun c => (if_pos c).symm⟩
    · rw [if_neg c, if_neg (by omega), if_pos d]
    · rw [if_neg c, if_neg (by omega), if_neg (ne_tf d), if_pos f.2]
    · rw [if_neg c, if_neg (by omega), if_neg (ne_tf d), if_neg (fun z => bk f ⟨c1, z⟩)]
    · rw [if_neg c, if_pos (by omega)]
end Go.Avc

/- Ids: what is wrong with them, by the reference. No condition. -/
set_option linter.unusedVariables false
set_option linter.unusedSimpArgs false
set_option maxRecDepth 100000
namespace Go.Avc
open Go Go.Proofs

theorem only_loc (s : ByteArray) : onlyB s ⟨#[97, 98, 99, 100, 101, 102, 103, 104, 105, 106, 107, 108, 109, 110, 111, 112, 113, 114, 115, 116, 117, 118, 119, 120, 121, 122, 48, 49, 50, 51, 52, 53, 54, 55, 56, 57, 46, 45, 95]⟩ = (bl s).all locC := only_all (p := locC) (by decide +kernel) s
theorem only_lab (s : ByteArray) : onlyB s ⟨#[97, 98, 99, 100, 101, 102, 103, 104, 105, 106, 107, 108, 109, 110, 111, 112, 113, 114, 115, 116, 117, 118, 119, 120, 121, 122, 48, 49, 50, 51, 52, 53, 54, 55, 56, 57, 45]⟩ = (bl s).all labC := only_all (p := labC) (by decide +kernel) s
theorem only_dig (s : ByteArray) : onlyB s ⟨#[48, 49, 50, 51, 52, 53, 54, 55, 56, 57]⟩ = (bl s).all digitC := only_all (p := digitC) (by decide +kernel) s
theorem only_mem (s : ByteArray) : onlyB s ⟨#[48, 49, 50, 51, 52, 53, 54, 55, 56, 57, 65, 66, 67, 68, 69, 70, 71, 72, 73, 74, 75, 76, 77, 78, 79, 80, 81, 82, 83, 84, 85, 86, 87, 88, 89, 90]⟩ = (bl s).all memC := only_all (p := memC) (by decide +kernel) s
theorem only_hex (s : ByteArray) : onlyB s ⟨#[48, 49, 50, 51, 52, 53, 54, 55, 56, 57, 97, 98, 99, 100, 101, 102]⟩ = (bl s).all hexC := only_all (p := hexC) (by decide +kernel) s
theorem all_take {α : Type} {l : List α} {p : α → Bool} {i : Nat} (d : α) (h : i < l.length) : (l.take (i + 1)).all p = ((l.take i).all p && p (l.getD i d)) := by
  rw [List.take_add_one, List.all_append, List.getD_eq_getElem?_getD, List.getElem?_eq_getElem h]
  simp
theorem pre_plus {s : ByteArray} (h : preS s ⟨#[43]⟩ = true) : 1 ≤ s.size ∧ cpreF s ⟨#[43]⟩ = s.extract 1 s.size := by
  have h' : Lib.hasPrefix s.data.toList [43] = true := h
  constructor
  · rw [← len_size]
    cases hd : s.data.toList with
    | nil => rw [hd] at h'; cases h'
    | cons x r => simp
  · rw [ba_eq, ByteArray.data_extract, Array.toList_extract, List.extract_eq_take_drop]
    show (if Lib.hasPrefix s.data.toList [43] = true then s.data.toList.drop 1 else s.data.toList) = _
    rw [if_pos h', List.take_of_length_le]
    rw [List.length_drop, len_size]
    exact Nat.le_refl _
theorem bt_ext1 {s : ByteArray} (h : 1 ≤ s.size) : bt (s.extract 1 s.size) 0 = bt s 1 := by
  rw [bt_bl, bt_bl, bl_extract]
  rw [List.take_of_length_le (by rw [bl_length]; exact Nat.le_refl _)]
  show (List.drop 1 (bl s)).getD 0 0 = (bl s).getD 1 0
  rw [List.getD_eq_getElem?_getD, List.getElem?_drop, List.getD_eq_getElem?_getD]
theorem trim_dot {s : ByteArray} (h : 1 ≤ s.size) : (trimF s ⟨#[46]⟩ = s) = (bt s 0 ≠ 46 ∧ bt s ((s.size : Int) - 1) ≠ 46) := propext (trim_one h 46)
theorem trim_dash {s : ByteArray} (h : 1 ≤ s.size) : (trimF s ⟨#[45]⟩ = s) = (bt s 0 ≠ 45 ∧ bt s ((s.size : Int) - 1) ≠ 45) := propext (trim_one h 45)
set_option maxHeartbeats 8000000 in
theorem IdFault_ctr {cx : Cx} (h : Seat cx) (hM : MaxL cx) : Ctr cx 53 idS := by
  refine ctr_of (fn := Tryd.f53) (l := [.tmp 2]) (envL [(99, cutSp), (100, splitSp), (80, inS), (101, onlyS), (102, trimSp), (103, conSp), (104, cpreSp), (105, signR)]) [0, 1, 2, 3, 4, 5, 6, 7, 8, 10, 11, 12, 16, 17, 58, 59, 60, 61, 81, 103, 127, 128, 138] [9] [] (envL_cons (cut_ctr h hM) (envL_cons (split_ctr h hM) (envL_cons (in_ctr h) (envL_cons (only_ctr h) (envL_cons (trim_ctr h) (envL_cons (contains_ctr h hM) (envL_cons (cutPrefix_ctr h) (envL_cons (rcheckSign_ctr h) (env0 h.hP))))))))) ?_ (by rw [h.hP]; exact Tryd.func53) rfl (by kernel_rfl) rfl ?_ ?_
  · rw [h.hP]; exact ⟨_, Tryd.func53, by kernel_rfl, by kernel_rfl⟩
  · rintro xs ⟨x, rfl, h1⟩; exact ⟨_, x, rfl, rfl⟩
  · rintro xs ⟨x, rfl, h1⟩
    obtain ⟨o1, o2⟩ := h1
    refine ⟨by rw [Tryd.ntmps53]; simp, ?_⟩
    simp only [go_sem, h.hP, List.cons_append, List.nil_append, Meets_e, Below_e, Prod.exists, exists_eq, exists_eq_left, exists_eq_left', exists_eq_right, exists_eq_right', exists_and_left, exists_and_right, Ob.arr.injEq, AV.own.injEq, AV.fv.injEq, idS_q, idS_p, idS_c, idS_f, cutSp_q, cutSp_p, cutSp_c, cutSp_f, splitSp_q, splitSp_p, splitSp_c, splitSp_f, inS_q, inS_p, inS_c, inS_f, onlyS_q, onlyS_p, onlyS_c, onlyS_f, trimSp_q, trimSp_p, trimSp_c, trimSp_f, conSp_q, conSp_p, conSp_c, conSp_f, cpreSp_q, cpreSp_p, cpreSp_c, cpreSp_f, signR_q, signR_p, signR_c, signR_f, TId.row, only_loc, only_lab, only_dig, only_mem, only_hex, Tryd.ntmps53, Nat.reduceEqDiff, reduceCtorEq, Nat.reduceMul, Nat.reduceAdd, Nat.reduceSub, Nat.reduceDiv, Nat.reduceMod, Nat.reduceLeDiff, Nat.reduceLT, Nat.reduceBNe, Nat.reduceBEq, reduceIte, Int.reduceLE, Int.reduceLT, Int.reduceToNat, Int.reduceNeg, Int.reduceAdd, Int.reduceSub, Int.reduceMul, Int.reduceEq]
    unfold okS at o2
    have hw : IntKind.i64.wrap ((x.text.size : Int) - 1) = (x.text.size : Int) - 1 := i64w (by omega) (by omega)
    have hIs : (initS x.text).size ≤ x.text.size := by unfold initS; rw [ByteArray.size_extract]; omega
    have hIm : (bl x.text).all memC = true → (bl (initS x.text)).all memC = true := fun e => by
      unfold initS
      rw [bl_extract, List.drop_zero]
      rw [List.all_eq_true] at e ⊢
      exact fun y hy => e y (List.mem_of_mem_take hy)
    have hI : x.text.extract 0 ((x.text.size : Int) - 1).toNat = initS x.text := by
      rw [show ((x.text.size : Int) - 1).toNat = x.text.size - 1 by omega]
      rfl
    have e1 : x.kind = 1 → idF x = if mailB x.text = true then 0 else 3 := fun c => if_pos c
    have e2 : ¬ x.kind = 1 → x.kind = 2 → idF x = if phoneB x.text = true then 0 else 3 := fun c d => (if_neg c).trans (if_pos d)
    have e3 : ¬ x.kind = 1 → ¬ x.kind = 2 → x.kind = 3 → idF x = if memberB x.text = true then (if bt signsB (signN (initS x.text)) ≠ bt x.text ((x.text.size : Int) - 1) then 15 else 0) else 3 := fun c d e => (if_neg c).trans ((if_neg d).trans (if_pos e))
    have e4 : ¬ x.kind = 1 → ¬ x.kind = 2 → ¬ x.kind = 3 → idF x = if x.kind = 4 then (if deviceB x.text = true then 0 else 3) else 4 := fun c d e => (if_neg c).trans ((if_neg d).trans (if_neg e))
    rw [hw, hI]
    generalize idF x = R at *
    have hsn := signN_in (initS x.text)
    have hp : phoneB x.text = (preS x.text ⟨#[43]⟩ && inB x.text.size 8 16 && (bl (x.text.extract 1 x.text.size)).all digitC && decide (bt x.text 1 ≠ 48)) := rfl
    have hmm : memberB x.text = (inB x.text.size 4 20 && (bl x.text).all memC) := rfl
    have hdv : deviceB x.text = (decide ((x.text.size : Int) = 32) && (bl x.text).all hexC) := rfl
    refine ⟨fun c1 => ⟨by omega, by have := cutR_size x.text ⟨#[64]⟩; omega, ?_⟩, fun c1 => ⟨fun c2 => ?_, fun c2 => ⟨fun c3 => ?_, fun c3 => ⟨fun c4 => ?_, fun c4 => ?_⟩⟩⟩⟩
    · have hm : mailB x.text = (cutB x.text ⟨#[64]⟩ && decide ((x.text.size : Int) ≤ 80) && localB (cutL x.text ⟨#[64]⟩) && (splitS (cutR x.text ⟨#[64]⟩) ⟨#[46]⟩).all labelB && decide (2 ≤ (splitS (cutR x.text ⟨#[64]⟩) ⟨#[46]⟩).length)) := rfl
      have hL := cutL_size x.text ⟨#[64]⟩
      have hle := splitS_le (s := cutR x.text ⟨#[64]⟩) (p := ⟨#[46]⟩) (by decide)
      have hsz := splitS_get (cutR x.text ⟨#[64]⟩) ⟨#[46]⟩
      have hR := cutR_size x.text ⟨#[64]⟩
      have E1 := e1 c1
      rw [hm] at E1
      clear e1 e2 e3 e4 hm hp hmm hdv
      generalize cutL x.text ⟨#[64]⟩ = a at *
      generalize splitS (cutR x.text ⟨#[64]⟩) ⟨#[46]⟩ = l at *
      generalize cutB x.text ⟨#[64]⟩ = k at *
      have hA : localB a = (inB a.size 1 64 && decide (bt a 0 ≠ 46) && decide (bt a ((a.size : Int) - 1) ≠ 46) && !conS a ⟨#[46, 46]⟩ && (bl a).all locC) := rfl
      refine vc_cutT (Bool) (fun (b : Bool) => [(4, .b b)]) [1] (fun (b : Bool) => []) (fun (b : Bool) => []) (fun (b : Bool) => 0) (fun (b : Bool) => b = (k && decide ((x.text.size : Int) ≤ 80) && localB a && decide (2 ≤ l.length))) [] ?_ ?_ ?_
      · rfl
      · simp only [go_sem, h.hP, List.cons_append, List.nil_append, Meets_e, Below_e, Prod.exists, exists_eq, exists_eq_left, exists_eq_left', exists_eq_right, exists_eq_right', exists_and_left, exists_and_right, Ob.arr.injEq, AV.own.injEq, AV.fv.injEq, inS_q, inS_p, inS_c, inS_f, onlyS_q, onlyS_p, onlyS_c, onlyS_f, trimSp_q, trimSp_p, trimSp_c, trimSp_f, conSp_q, conSp_p, conSp_c, conSp_f, only_loc, rowsT_len, Tryd.ntmps53, Nat.reduceEqDiff, reduceCtorEq, Nat.reduceMul, Nat.reduceAdd, Nat.reduceSub, Nat.reduceDiv, Nat.reduceMod, Nat.reduceLeDiff, Nat.reduceLT, Nat.reduceBNe, Nat.reduceBEq, reduceIte, Int.reduceLE, Int.reduceLT, Int.reduceToNat, Int.reduceNeg, Int.reduceAdd, Int.reduceSub, Int.reduceMul, Int.reduceEq]
        have hd : decide (2 ≤ (l.length : Int)) = decide (2 ≤ l.length) := decide_eq_decide.2 (by omega)
        refine ⟨fun d1 => ⟨fun d2 => ⟨fun d3 => ?_, fun d3 => by rw [hA, d3]; simp⟩, fun d2 => by simp [d2]⟩, fun d1 => by rw [d1]; rfl⟩
        have i3 := inB_iff.1 d3
        rw [trim_dot (by omega)]
        refine ⟨by omega, by decide +kernel, fun d4 => ⟨by omega, by decide, fun d5 => ⟨by omega, fun d6 => ?_, fun d6 => by rw [hA, d6]; simp⟩, fun d5 => ?_⟩, fun d4 => by rw [hA, d4]; simp⟩
        · rw [hd, hA, d1, d3, d4, d6, decide_eq_true d2, decide_eq_true d5.1, decide_eq_true d5.2]
          simp
        · rw [hA]
          by_cases q : bt a 0 = 46
          · simp [q]
          · have q2 : bt a ((a.size : Int) - 1) = 46 := Decidable.not_not.1 fun z => d5 ⟨q, z⟩
            simp [q2]
      · rintro b0 hb
        simp only [go_sem, h.hP, List.cons_append, List.nil_append, Meets_e, Below_e, Prod.exists, exists_eq, exists_eq_left, exists_eq_left', exists_eq_right, exists_eq_right', exists_and_left, exists_and_right, Ob.arr.injEq, AV.own.injEq, AV.fv.injEq, rowsT_len, Tryd.ntmps53, Nat.reduceEqDiff, reduceCtorEq, Nat.reduceMul, Nat.reduceAdd, Nat.reduceSub, Nat.reduceDiv, Nat.reduceMod, Nat.reduceLeDiff, Nat.reduceLT, Nat.reduceBNe, Nat.reduceBEq, reduceIte, Int.reduceLE, Int.reduceLT, Int.reduceToNat, Int.reduceNeg, Int.reduceAdd, Int.reduceSub, Int.reduceMul, Int.reduceEq]
        refine vc_loopS (Int × Bool) (fun (x : Int × Bool) => match x with | (i, b) => [(60, .i i), (4, .b b)]) [1] (fun (x : Int × Bool) => match x with | (i, b) => []) (fun (x : Int × Bool) => match x with | (i, b) => []) (fun (x : Int × Bool) => match x with | (i, b) => 0) (fun (x : Int × Bool) => match x with | (i, b) => 0 ≤ i ∧ i ≤ l.length ∧ b = (b0 && (l.take i.toNat).all labelB)) (fun (x : Int × Bool) => match x with | (i, b) => (l.length - i).toNat) [] ?_ ?_
        · simp only [go_sem, h.hP, List.cons_append, List.nil_append, Meets_e, Below_e, Prod.exists, exists_eq, exists_eq_left, exists_eq_left', exists_eq_right, exists_eq_right', exists_and_left, exists_and_right, Ob.arr.injEq, AV.own.injEq, AV.fv.injEq, rowsT_len, Tryd.ntmps53, Nat.reduceEqDiff, reduceCtorEq, Nat.reduceMul, Nat.reduceAdd, Nat.reduceSub, Nat.reduceDiv, Nat.reduceMod, Nat.reduceLeDiff, Nat.reduceLT, Nat.reduceBNe, Nat.reduceBEq, reduceIte, Int.reduceLE, Int.reduceLT, Int.reduceToNat, Int.reduceNeg, Int.reduceAdd, Int.reduceSub, Int.reduceMul, Int.reduceEq]
          exact Int.natCast_nonneg _
        · rintro ⟨i, b⟩ ⟨j1, j2, j3⟩
          simp only [go_sem, h.hP, List.cons_append, List.nil_append, Meets_e, Below_e, Prod.exists, exists_eq, exists_eq_left, exists_eq_left', exists_eq_right, exists_eq_right', exists_and_left, exists_and_right, Ob.arr.injEq, AV.own.injEq, AV.fv.injEq, idS_q, idS_p, idS_c, idS_f, inS_q, inS_p, inS_c, inS_f, onlyS_q, onlyS_p, onlyS_c, onlyS_f, trimSp_q, trimSp_p, trimSp_c, trimSp_f, only_lab, rowsT_len, rowsT_get, Tryd.ntmps53, Nat.reduceEqDiff, reduceCtorEq, Nat.reduceMul, Nat.reduceAdd, Nat.reduceSub, Nat.reduceDiv, Nat.reduceMod, Nat.reduceLeDiff, Nat.reduceLT, Nat.reduceBNe, Nat.reduceBEq, reduceIte, Int.reduceLE, Int.reduceLT, Int.reduceToNat, Int.reduceNeg, Int.reduceAdd, Int.reduceSub, Int.reduceMul, Int.reduceEq]
          have hs0 := hsz i.toNat
          have hq : ∀ q : ByteArray, labelB q = (inB q.size 1 30 && decide (bt q 0 ≠ 45) && decide (bt q ((q.size : Int) - 1) ≠ 45) && (bl q).all labC) := fun q => rfl
          refine ⟨fun c => ?_, fun c => ?_⟩
          · have ht := all_take (p := labelB) ⟨#[]⟩ (show i.toNat < l.length by omega)
            rw [i64w (n := i + 1) (by omega) (by omega), show (i + 1).toNat = i.toNat + 1 by omega, ht, ← Bool.and_assoc, ← j3, hq]
            clear ht
            generalize l.getD i.toNat ⟨#[]⟩ = q at *
            refine ⟨j1, c, fun d1 => ⟨fun d2 => ?_, fun d2 => ⟨by omega, by omega, by rw [d2]; simp, by omega⟩⟩, fun d1 => ⟨by omega, by omega, by rw [d1]; rfl, by omega⟩⟩
            have i2 := inB_iff.1 d2
            have hdec : decide (trimF q ⟨#[45]⟩ = q) = (decide (bt q 0 ≠ 45) && decide (bt q ((q.size : Int) - 1) ≠ 45)) := by
              rw [← Bool.decide_and]
              exact decide_eq_decide.2 (trim_one (by omega) 45)
            refine ⟨by omega, by decide +kernel, fun d3 => ⟨by omega, by decide, by omega, by omega, ?_, by omega⟩, fun d3 => ⟨by omega, by omega, by rw [d3]; simp, by omega⟩⟩
            rw [hdec, d1, d2, d3]
            simp
          · have hi : i.toNat = l.length := by omega
            rw [hi, List.take_length, hb, Bool.and_right_comm] at j3
            rw [E1, ← j3]
            exact ⟨fun d => by rw [d]; rfl, fun d => by rw [d]; rfl⟩
    · rw [e2 c1 c2, hp]
      refine ⟨fun d1 => ?_, fun d1 => by rw [d1]; rfl⟩
      obtain ⟨n1, n2⟩ := pre_plus d1
      have n3 : (x.text.extract 1 x.text.size).size = x.text.size - 1 := by rw [ByteArray.size_extract]; omega
      rw [n2, bt_ext1 n1, n3]
      have n4 : inB ((x.text.size - 1 : Nat) : Int) 7 15 = inB x.text.size 8 16 := by
        unfold inB
        exact decide_eq_decide.2 (by omega)
      rw [n4]
      refine ⟨fun d2 => ?_, fun d2 => by rw [d2]; simp⟩
      have i2 := inB_iff.1 d2
      exact ⟨by omega, by decide, fun d3 => ⟨by omega, fun d4 => by simp [d4], fun d4 => by rw [d1, d2, d3]; simp [d4]⟩, fun d3 => by rw [d3]; simp⟩
    · rw [e3 c1 c2 c3, hmm]
      refine ⟨fun d1 => ⟨by omega, by decide +kernel, fun d2 => ?_, fun d2 => ⟨fun _ => by rw [d2]; simp, fun z => (by rw [d2] at z; cases z)⟩⟩, fun d1 => by rw [d1]; rfl⟩
      have i1 := inB_iff.1 d1
      rw [signs_lit]
      refine ⟨by omega, by omega, by omega, hIm d2, hsn.1, by omega, by omega, by omega, fun d3 => ?_, fun d3 => ⟨fun z => (by rw [d2] at z; cases z), fun _ => ?_⟩⟩
      · rw [d1, d2]
        exact (if_pos d3).symm
      · rw [d1, d2]
        exact (if_neg (fun z => z d3)).symm
    · rw [e4 c1 c2 c3, if_pos c4, hdv]
      exact ⟨fun d1 => ⟨by omega, by decide +kernel, fun d2 => by rw [d2]; simp, fun d2 => by rw [d2, decide_eq_true d1]; rfl⟩, fun d1 => by rw [decide_eq_false d1]; rfl⟩
    · rw [e4 c1 c2 c3, if_neg c4]
end Go.Avc

/- The generators of ids: their contracts. No condition. -/
set_option linter.unusedVariables false
set_option linter.unusedSimpArgs false
set_option maxRecDepth 100000
namespace Go.Avc
open Go Go.Proofs

def poolL : List TId := [⟨1, ⟨#[97, 64, 98, 46, 100, 101]⟩⟩, ⟨1, ⟨#[97, 110, 110, 46, 98, 64, 120, 45, 121, 46, 111, 114, 103]⟩⟩, ⟨1, ⟨#[98, 111, 98, 95, 49, 64, 98, 46, 100, 101]⟩⟩, ⟨1, ⟨#[122, 45, 64, 48, 46, 97]⟩⟩, ⟨2, ⟨#[43, 52, 57, 51, 48, 49, 50, 51, 52, 53, 54]⟩⟩, ⟨2, ⟨#[43, 49, 53, 53, 53, 48, 48, 48, 49, 49, 49]⟩⟩, ⟨3, ⟨#[65, 66, 49, 51]⟩⟩, ⟨3, ⟨#[48, 48, 48, 48, 48, 48, 48, 48, 48, 48, 48, 48, 48, 48, 48, 48, 48, 48, 48, 48]⟩⟩, ⟨4, ⟨#[48, 49, 50, 51, 52, 53, 54, 55, 56, 57, 97, 98, 99, 100, 101, 102, 48, 49, 50, 51, 52, 53, 54, 55, 56, 57, 97, 98, 99, 100, 101, 102]⟩⟩, ⟨4, ⟨#[102, 102, 102, 102, 102, 102, 102, 102, 102, 102, 102, 102, 102, 102, 102, 102, 102, 102, 102, 102, 102, 102, 102, 102, 102, 102, 102, 102, 102, 102, 102, 102]⟩⟩]
def poolD : List D := poolL.flatMap TId.row
theorem poolD_len : poolD.length = 20 := rfl
theorem pool_at (i : Int) (h0 : 0 ≤ i) (h1 : i ≤ 9) : (poolD.drop (i.toNat * 2)).take 2 = [.int .i64 (poolL.getD i.toNat TId.z).kind, .str (poolL.getD i.toNat TId.z).text] := by
  obtain ⟨n, rfl⟩ : ∃ n : Nat, i = n := ⟨i.toNat, by omega⟩
  rw [Int.toNat_natCast]
  match n with
  | 0 => rfl
  | 1 => rfl
  | 2 => rfl
  | 3 => rfl
  | 4 => rfl
  | 5 => rfl
  | 6 => rfl
  | 7 => rfl
  | 8 => rfl
  | 9 => rfl
  | n + 10 => omega
theorem pool_ok (i : Nat) : (poolL.getD i TId.z).ok ∧ (poolL.getD i TId.z).text.size ≤ 40 := all_get (p := fun x : TId => x.ok ∧ x.text.size ≤ 40) (fun x hx => by
  have := List.all_eq_true.1 (show poolL.all (fun y => decide (0 ≤ y.kind ∧ y.kind ≤ 4 ∧ y.text.size ≤ 40)) = true by decide) x hx
  simp only [decide_eq_true_eq] at this
  exact ⟨⟨⟨by omega, by omega⟩, okS_of (by omega)⟩, this.2.2⟩) ⟨TId.z_ok, by decide⟩ i
theorem exId {k : Int} {s : ByteArray} (h1 : okI k) (h2 : okS s) : ∃ x : TId, x.ok ∧ [D.int .i64 k, D.str s] = x.row := ⟨⟨k, s⟩, ⟨h1, h2⟩, rfl⟩
def idG (n : Nat) : Spec where
  pre xs := xs = [.st]
  post xs y := ∃ x : TId, x.ok ∧ y = .dv (.ag x.row)
  cost _ := n
  fresh := false
set_option maxHeartbeats 8000000 in
theorem SpoiledId_ctr {cx : Cx} (h : Seat cx) (hN : cx.glob 1 = some poolD) : Ctr cx 50 (idG 5) := by
  refine ctr_of (fn := Tryd.f50) (l := [.cell 2 85]) (envL [(25, nextS), (14, pickS), (71, oneS), (15, changedS), (20, rep2S)]) [0, 2, 3, 9, 15, 21] [2] [] (envL_cons (next_ctr cx h.hP h.hS) (envL_cons (pick_ctr cx h.hP h.hS) (envL_cons (one_ctr h) (envL_cons (changed_ctr h) (envL_cons (rep2_ctr h) (env0 h.hP)))))) ?_ (by rw [h.hP]; exact Tryd.func50) rfl (by kernel_rfl) rfl ?_ ?_
  · rw [h.hP]; exact ⟨_, Tryd.func50, by kernel_rfl, by kernel_rfl⟩
  · rintro xs rfl; exact ⟨_, TId.z, TId.z_ok, rfl⟩
  · rintro xs rfl
    refine ⟨by rw [Tryd.ntmps50]; simp, ?_⟩
    simp only [go_sem, h.hP, List.cons_append, List.nil_append, Meets_e, Below_e, Prod.exists, exists_eq, exists_eq_left, exists_eq_left', exists_eq_right, exists_eq_right', exists_and_left, exists_and_right, Ob.arr.injEq, AV.own.injEq, AV.fv.injEq, Tryd.ntmps50, Nat.reduceEqDiff, reduceCtorEq, Nat.reduceMul, Nat.reduceAdd, Nat.reduceSub, Nat.reduceDiv, Nat.reduceMod, Nat.reduceLeDiff, Nat.reduceLT, Nat.reduceBNe, Nat.reduceBEq, reduceIte, Int.reduceLE, Int.reduceLT, Int.reduceToNat, Int.reduceNeg, Int.reduceAdd, Int.reduceSub, Int.reduceMul, Int.reduceEq]
    refine vc_cutT (TId) (fun (x : TId) => [(3, .ptr 3 0)]) [2] (fun (x : TId) => []) (fun (x : TId) => [(3, .box 85 [.i x.kind, .str x.text])]) (fun (x : TId) => 1) (fun (x : TId) => x.ok ∧ x.text.size ≤ 40) [] ?_ ?_ ?_
    · rfl
    · simp only [go_sem, h.hP, List.cons_append, List.nil_append, Meets_e, Below_e, Prod.exists, exists_eq, exists_eq_left, exists_eq_left', exists_eq_right, exists_eq_right', exists_and_left, exists_and_right, Ob.arr.injEq, AV.own.injEq, AV.fv.injEq, idG, nextS_q, nextS_p, nextS_c, nextS_f, hN, Tryd.ntmps50, Nat.reduceEqDiff, reduceCtorEq, Nat.reduceMul, Nat.reduceAdd, Nat.reduceSub, Nat.reduceDiv, Nat.reduceMod, Nat.reduceLeDiff, Nat.reduceLT, Nat.reduceBNe, Nat.reduceBEq, reduceIte, Int.reduceLE, Int.reduceLT, Int.reduceToNat, Int.reduceNeg, Int.reduceAdd, Int.reduceSub, Int.reduceMul, Int.reduceEq]
      intro a h0 h1
      rw [pool_at a h0 (by omega)]
      simp only [go_sem, h.hP, List.cons_append, List.nil_append, Meets_e, Below_e, Prod.exists, exists_eq, exists_eq_left, exists_eq_left', exists_eq_right, exists_eq_right', exists_and_left, exists_and_right, Ob.arr.injEq, AV.own.injEq, AV.fv.injEq, TId.ex, Tryd.ntmps50, Nat.reduceEqDiff, reduceCtorEq, Nat.reduceMul, Nat.reduceAdd, Nat.reduceSub, Nat.reduceDiv, Nat.reduceMod, Nat.reduceLeDiff, Nat.reduceLT, Nat.reduceBNe, Nat.reduceBEq, reduceIte, Int.reduceLE, Int.reduceLT, Int.reduceToNat, Int.reduceNeg, Int.reduceAdd, Int.reduceSub, Int.reduceMul, Int.reduceEq]
      have h2 := pool_ok a.toNat
      refine ⟨h0, by omega, ?_, h2.1, h2.2⟩
      rw [List.length_drop, poolD_len]
      omega
    · rintro x ⟨⟨o1, o2⟩, o3⟩
      simp only [go_sem, h.hP, List.cons_append, List.nil_append, Meets_e, Below_e, Prod.exists, exists_eq, exists_eq_left, exists_eq_left', exists_eq_right, exists_eq_right', exists_and_left, exists_and_right, Ob.arr.injEq, AV.own.injEq, AV.fv.injEq, idG, nextS_q, nextS_p, nextS_c, nextS_f, pickS_q, pickS_p, pickS_c, pickS_f, oneS_q, oneS_p, oneS_c, oneS_f, rep2S_q, rep2S_p, rep2S_c, rep2S_f, changedS, ints1, intsc, strs1, strsc, Tryd.ntmps50, Nat.reduceEqDiff, reduceCtorEq, Nat.reduceMul, Nat.reduceAdd, Nat.reduceSub, Nat.reduceDiv, Nat.reduceMod, Nat.reduceLeDiff, Nat.reduceLT, Nat.reduceBNe, Nat.reduceBEq, reduceIte, Int.reduceLE, Int.reduceLT, Int.reduceToNat, Int.reduceNeg, Int.reduceAdd, Int.reduceSub, Int.reduceMul, Int.reduceEq]
      have r1 := repL_size ⟨#[97]⟩ (show (0 : Int) ≤ 65 by decide)
      have r2 := repL_size ⟨#[98]⟩ (show (0 : Int) ≤ 31 by decide)
      have r3 := repL_size ⟨#[97]⟩ (show (0 : Int) ≤ 64 by decide)
      have r4 := repL_size ⟨#[98]⟩ (show (0 : Int) ≤ 12 by decide)
      have s1 : ((⟨#[97]⟩ : ByteArray).size : Int) = 1 := rfl
      have s2 : ((⟨#[98]⟩ : ByteArray).size : Int) = 1 := rfl
      rw [s1] at r1 r3
      rw [s2] at r2 r4
      refine fun a a0 a5 => ⟨fun _ k hk => exId (isIn_ok hk (by decide)) o2, fun _ => ⟨fun _ => ⟨by omega, by omega, by omega, by omega, by omega, by omega, fun s hs => exId o1 (okS_of (isOf_ok hs (by decide +kernel)))⟩, fun _ => ⟨by omega, fun s hs => exId o1 (okS_of (by omega))⟩⟩⟩
set_option maxHeartbeats 8000000 in
theorem Id_ctr {cx : Cx} (h : Seat cx) (hN : cx.glob 1 = some poolD) : Ctr cx 51 (idG 6) := by
  refine ctr_of (fn := Tryd.f51) (l := [.cell 2 85]) (envL [(25, nextS), (19, flipS), (50, (idG 5))]) [0, 2, 4] [] [] (envL_cons (next_ctr cx h.hP h.hS) (envL_cons (flip_ctr cx h.hP h.hS) (envL_cons (SpoiledId_ctr h hN) (env0 h.hP)))) ?_ (by rw [h.hP]; exact Tryd.func51) rfl (by kernel_rfl) rfl ?_ ?_
  · rw [h.hP]; exact ⟨_, Tryd.func51, by kernel_rfl, by kernel_rfl⟩
  · rintro xs rfl; exact ⟨_, TId.z, TId.z_ok, rfl⟩
  · rintro xs rfl
    refine ⟨by rw [Tryd.ntmps51]; simp, ?_⟩
    simp only [go_sem, h.hP, List.cons_append, List.nil_append, Meets_e, Below_e, Prod.exists, exists_eq, exists_eq_left, exists_eq_left', exists_eq_right, exists_eq_right', exists_and_left, exists_and_right, Ob.arr.injEq, AV.own.injEq, AV.fv.injEq, idG, nextS_q, nextS_p, nextS_c, nextS_f, flipS_q, flipS_p, flipS_c, flipS_f, TId.row, hN, Tryd.ntmps51, Nat.reduceEqDiff, reduceCtorEq, Nat.reduceMul, Nat.reduceAdd, Nat.reduceSub, Nat.reduceDiv, Nat.reduceMod, Nat.reduceLeDiff, Nat.reduceLT, Nat.reduceBNe, Nat.reduceBEq, reduceIte, Int.reduceLE, Int.reduceLT, Int.reduceToNat, Int.reduceNeg, Int.reduceAdd, Int.reduceSub, Int.reduceMul, Int.reduceEq]
    refine fun a => ⟨fun _ x hx => ⟨x, hx, rfl, rfl⟩, fun _ i i0 i1 => ?_⟩
    rw [pool_at i i0 (by omega)]
    simp only [go_sem, h.hP, List.cons_append, List.nil_append, Meets_e, Below_e, Prod.exists, exists_eq, exists_eq_left, exists_eq_left', exists_eq_right, exists_eq_right', exists_and_left, exists_and_right, Ob.arr.injEq, AV.own.injEq, AV.fv.injEq, TId.row, Tryd.ntmps51, Nat.reduceEqDiff, reduceCtorEq, Nat.reduceMul, Nat.reduceAdd, Nat.reduceSub, Nat.reduceDiv, Nat.reduceMod, Nat.reduceLeDiff, Nat.reduceLT, Nat.reduceBNe, Nat.reduceBEq, reduceIte, Int.reduceLE, Int.reduceLT, Int.reduceToNat, Int.reduceNeg, Int.reduceAdd, Int.reduceSub, Int.reduceMul, Int.reduceEq]
    have h2 := pool_ok i.toNat
    refine ⟨i0, by omega, ?_, _, h2.1, rfl, rfl⟩
    rw [List.length_drop, poolD_len]
    omega
end Go.Avc

/- IdChecks: its walk. No condition. -/
set_option linter.unusedVariables false
set_option linter.unusedSimpArgs false
set_option maxRecDepth 100000
namespace Go.Avc
open Go Go.Proofs

theorem maxL_of {cx W0 : Cx} {m : Int} (hW : W0.glob 4 = some [.int .i64 m]) (h : ∀ w, GlAt cx w → GlAt W0 w) : MaxL cx := by
  intro w hw
  obtain ⟨_, _, cs, hc, hr⟩ := h w hw 4 _ hW
  obtain ⟨v, hv, hr⟩ := hr.get (j := 0) (x := .int .i64 m) rfl
  refine ⟨m, ?_⟩
  have := hc 0 v hv
  rw [this]
  cases hr
  rfl
set_option maxHeartbeats 8000000 in
theorem ic_walk {L : List Int} {A : Option Addr} {cp : Nat} {W : World} (hng : 5 ≤ W.heap.size) (hrd : Rd (fun k => k < W.heap.size) W (.sl (intRows L)) (.slice A L.length cp)) {glob : Nat → Option (List D)} (hgl : GlAt ⟨Tryd.prog, none, L, 25, 5, glob⟩ W) (hU : ∀ cx : Cx, (∀ w, GlAt cx w → GlAt ⟨Tryd.prog, none, L, 25, 5, glob⟩ w) → Utf8 cx) (hgn : glob 1 = some poolD) (hMx : ∀ cx : Cx, (∀ w, GlAt cx w → GlAt ⟨Tryd.prog, none, L, 25, 5, glob⟩ w) → MaxL cx) :
    Calls Tryd.prog 9 [Value.slice A L.length cp].toArray W fun e W' => e = .returned (.bool true) ∧ RowKit.Below W.heap.size W W' := by
  refine law_calls (E := envL [(50, (idG 5)), (51, (idG 6)), (52, idS), (53, idS), (54, ordS), (55, ordS), (18, peopleS)]) (B := 20) (live := [0, 2, 3, 4, 5]) (HH := []) (hz := []) (d := 2) (x1 := 6) (x2 := 7) (x3 := 8) (x4 := 3) (ng := 5) (glob := glob) Tryd.func9 rfl rfl (by kernel_rfl) ⟨rfl, rfl, rfl⟩ ⟨rfl, rfl, rfl⟩ ⟨rfl, rfl, rfl⟩ ⟨rfl, rfl, rfl⟩ ⟨rfl, rfl, rfl⟩ build_stream ⟨by simp, by decide, by decide, by decide, by decide, by decide, by rw [Tryd.ntmps9]; decide⟩ (ex := []) (xv := []) rfl (fun i x u hx hu => by simp at hx) (by decide) hng hrd hgl ?_
  intro cx hP hS hG hGl
  have h : Seat cx := ⟨hP, hS⟩
  refine ⟨envL_cons (SpoiledId_ctr h ((congrFun hGl _).trans hgn)) (envL_cons (Id_ctr h ((congrFun hGl _).trans hgn)) (envL_cons (CheckId_ctr h (hMx cx hG)) (envL_cons (IdFault_ctr h (hMx cx hG)) (envL_cons (CompareIds_ctr h) (envL_cons (Order_ctr h) (envL_cons (people_ctr h (hU cx hG)) (env0 h.hP))))))), ?_⟩
  simp only [go_sem, h.hP, List.cons_append, List.nil_append, Meets_e, Below_e, Prod.exists, exists_eq, exists_eq_left, exists_eq_left', exists_eq_right, exists_eq_right', exists_and_left, exists_and_right, Ob.arr.injEq, AV.own.injEq, AV.fv.injEq, idG, peopleS, idS_q, idS_p, idS_c, idS_f, ordS_q, ordS_p, ordS_c, ordS_f, TId.row, Tryd.ntmps9, Nat.reduceEqDiff, reduceCtorEq, Nat.reduceMul, Nat.reduceAdd, Nat.reduceSub, Nat.reduceDiv, Nat.reduceMod, Nat.reduceLeDiff, Nat.reduceLT, Nat.reduceBNe, Nat.reduceBEq, reduceIte, Int.reduceLE, Int.reduceLT, Int.reduceToNat, Int.reduceNeg, Int.reduceAdd, Int.reduceSub, Int.reduceMul, Int.reduceEq]
  exact fun a h1 b h2 => ⟨h1, h1, h2, h2⟩
end Go.Avc

/- IdChecks returns true for every slice of numbers, and leaves it as it was; the two tables of unicode/utf8 and the pool of ids, which its row lists, lie as the program lays them. -/
set_option linter.unusedVariables false
set_option linter.unusedSimpArgs false
set_option maxRecDepth 100000
namespace Go.Proofs.YtikgmhplgbdmjaaDoor.idChecks
open Go.ChangeShapes Go.ChangeMaps Go.WideShapes Go.ChangeAt Go.RowKit Go.Avc

def exF (m : Int) : Nat → Option (List D)
  | 1 => some poolD
  | 4 => some [.int .i64 m]
  | _ => none
theorem lies {W : World} {m : Int} (hm : W.cell? ⟨4, 0, none⟩ = some (.int .i64 m)) (hL : laidMetH Tryd.prog Rows.idChecksRow.laid W) : Lies W (exF m) := by
  intro k l hk
  have hk' : exF m k = some l := hk
  match k, hk' with
  | 1, hk' =>
    cases hk'
    have h := lies_of_reads (l := poolD) (m := 20) (Lib.laidMet.reads hL (n := "handbill/handmake.idPool") (d := Rows.laid_handbill_handmake_idPool) (by simp [Rows.idChecksRow])) (g := 1) rfl rfl (by kernel_rfl) (by kernel_rfl) (by decide)
    exact ⟨by decide, h.1, by decide, h.2⟩
  | 4, hk' =>
    cases hk'
    refine ⟨by decide, ?_, rfl, fun j u hj => ?_⟩
    · by_cases hb : 4 < W.heap.size
      · exact hb
      · unfold World.cell? at hm
        rw [Array.getElem?_eq_none (show W.heap.size ≤ 4 by omega)] at hm
        cases hm
    · cases j with
      | zero => cases hj; exact hm
      | succ j => simp at hj
/-- A world for a witness. -/
noncomputable def worldF (os : Os) : World := { laidWorld os with heap := (laidWorld os).heap.modify 1 (fun o => match o with
  | .cells _ t frozen => .cells (poolD.map vD).toArray t frozen
  | o => o) }
theorem metF (os : Os) (args : Array Value) : laidMet Tryd.prog Rows.idChecksRow.laid ((worldF os).forCall (fun _ _ => 0) ⟨#[], args, []⟩).memory := laidMet_of_run' 8 (by kernel_rfl) (by kernel_rfl)
theorem own : ownKnob Tryd.prog.godebug = none := by kernel_rfl
theorem one3 : Tryd.prog.cellsOf 3 = 1 := by kernel_rfl

/-- WHAT THE WALK GIVES. -/
theorem contract (H : Type) (enc : TypeId × Value → H) (W : World) (base : Nat) (args : Array Value) (ds gs : List (DataW H)) (before : List MemPlace)
    (hval : ∀ (j : Nat) t v, Tryd.f9.params[j]? = some t → args[j]? = some v → Value.okWide Tryd.prog W .any base t v)
    (hW : DataW.Whole enc Tryd.prog Tryd.f9.params.toList Rows.idChecksSpec.vars false W args.toList ds gs before) (hL : laidMetH Tryd.prog Rows.idChecksRow.laid W) (hSh : W.ShapedOpen Tryd.prog) :
    Calls Tryd.prog 9 args W fun e W' => ∃ v, e = .returned v ∧ Rows.idChecksSpec.post enc Tryd.prog Tryd.f9 false true false false W args v W' := by
  have hW' := hW
  obtain ⟨p, q, hA0, hV, rfl, hfz, hnd⟩ := hW
  have hA : DataW.TrodAll enc Tryd.prog W 0 (fun _ => true) true Tryd.f9.params.toList args.toList ds p := hA0
  rw [Tryd.params9] at hA hval
  obtain ⟨v0, vs0, d0, ds0, p0, q0, hargs, rfl, rfl, h0, r0⟩ := trodAll_cons hA
  obtain ⟨rfl, rfl, rfl⟩ := trodAll_nil r0
  obtain rfl : args = #[v0] := by cases args; simp_all
  obtain ⟨rfl, rfl⟩ := trodVars_none hV
  obtain ⟨A, L, cp, rfl, hrd, hsh⟩ := open_nums Tryd.underlying22 Tryd.underlying3 one3 (hval 0 22 v0 rfl rfl) h0
  clear hA0
  simp only [List.append_nil] at hW'
  obtain ⟨mx, hmx⟩ := Tryd.laysM144.s1_3 W hSh
  have hg := glAt_X (L := L) (ST := 25) (tabs_of_list hL (by simp [Rows.idChecksRow]) (by simp [Rows.idChecksRow])) (lies hmx hL)
  refine (ic_walk (ng_of_shaped hSh) hrd hg (fun cx h => utf8_of_globX rfl h) rfl (fun cx h => maxL_of rfl h)).mono fun e W' ⟨he, hbl⟩ => ?_
  subst he
  refine ⟨_, rfl, post_of_below (pa := p0) (pv := []) hW' (fun _ _ _ => trodAll_cons_mk (shut_bool Tryd.underlying4 _) trodAll_mk0)
    (fun sp hsp => ?_) (fun _ _ => rfl) (List.append_nil _).symm hbl (ok_one (by kernel_rfl) rfl (okWide_bool_mk Tryd.underlying4 _))⟩
  have := trodAll_cons_mk (hsh W' hbl sp hsp) (trodAll_mk0 (w := W') (base := 0) (spare := sp) (held := true) (enc := enc))
  rw [List.append_nil] at this
  exact this
theorem reads (os : Os) {H : Type} (enc : TypeId × Value → H) : ∃ places, DataW.whole enc Tryd.prog ((worldF os).forCall (fun _ _ => 0) ⟨#[], #[.slice none 0 0], []⟩).memory Tryd.f9.params.toList Rows.idChecksSpec.vars false #[Value.slice none 0 0].toList 8 = some ([.nil], [], places) :=
  ⟨[], by kernel_rfl⟩
theorem lifted (os : Os) (started : os.Started) (H : Type) (enc : TypeId × Value → H) (F : Stop.Interp) :
    ReturnsInHanded {} Tryd.checked os 9 .any ((OpenSpec.ofChange Rows.idChecksSpec).preRow enc Tryd.prog Tryd.f9 Rows.idChecksRow.domain false Rows.idChecksRow.laid) (((OpenSpec.ofChange Rows.idChecksSpec).at F).post enc Tryd.prog Tryd.f9 false true false false) := by
  obtain ⟨places, hx⟩ := reads os enc
  refine returnsInHanded_of_row (C := Tryd.checked) (s := OpenSpec.ofChange Rows.idChecksSpec) own started (by kernel_rfl) Tryd.func9
    (witness_row_at (enc := enc) (C := Tryd.checked) false (worldF os) #[.slice none 0 0] rfl (by kernel_rfl) (by kernel_rfl) (by kernel_rfl)
      (OpenSpec.preRow_of_cond 8 hx (by kernel_rfl) (fun k hk => by cases hk) (by kernel_rfl) (metF os _))) ?_
  intro W base args ds gs before hval hW _ _ _ hL hSh _
  exact contract H enc W base args ds gs before hval hW hL hSh
theorem said : Rows.IdChecksSaid :=
  OpenClaim.holds_of_cond 9 Tryd.f9 rfl rfl rfl rfl rfl rfl rfl ⟨rfl, rfl, rfl, rfl, rfl⟩ rfl rfl rfl rfl rfl (by kernel_rfl) Tryd.func9 (by kernel_rfl)
    (of_decide_eq_true (by kernel_rfl)) (by unfold Func.isWrapper; first | (rw [if_pos (by decide +kernel)]; kernel_rfl) | (rw [if_neg (by decide +kernel)]; exact ⟨rfl, rfl⟩))
    (fun os started H enc _ F => by rw [OpenClaim.pre_eq_preRow]; exact lifted os started H enc F)
theorem plain (f : FuncId) (fn : Func) (hf : Tryd.pinned.checked.prog.funcNamed "handbill/handlaw2.IdChecks" = some f) (hfn : Tryd.pinned.checked.prog.funcs[f]? = some fn) :
    false = Tryd.pinned.checked.prog.looks [] ∧ ∀ (j : Nat) t, fn.params[j]? = some t → Tryd.pinned.checked.prog.wantsStandIn t = false := by
  obtain rfl : f = 9 := Option.some.inj ((show Tryd.prog.funcNamed "handbill/handlaw2.IdChecks" = some 9 by kernel_rfl).symm.trans hf) |>.symm
  obtain rfl : fn = Tryd.f9 := (Option.some.inj (Tryd.func9.symm.trans hfn)).symm
  refine ⟨by kernel_rfl, fun j t ht => ?_⟩
  rw [Tryd.params9] at ht
  obtain rfl : t = 22 := by simpa using Array.mem_of_getElem? ht
  exact (show Tryd.prog.wantsStandIn 22 = false by kernel_rfl)
theorem card : Rows.IdChecksCardSaid :=
  Claim7.holds_tied_plain_at .later [] _ _ _ _ said (fun _ h => by cases h) (by kernel_rfl) (fun _ h => by cases h) idChecks_row_tie rfl ⟨rfl, rfl⟩ (by kernel_rfl) rfl plain (by kernel_rfl)
end Go.Proofs.YtikgmhplgbdmjaaDoor.idChecks
