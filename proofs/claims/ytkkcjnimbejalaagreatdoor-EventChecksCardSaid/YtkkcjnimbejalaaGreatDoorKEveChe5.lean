/- Package-level tables of numbers, strings and structs of them, from a row's list to what the walks ask. No condition. -/
import Derived.Carry
import Derived.LoopN
import Derived.Sort.Grow
import Derived.Deep.Draws
import Derived.Test.YtkkcjnimbejalaaGreatDoorKEveChe1
import Derived.Test.YtkkcjnimbejalaaGreatDoorKEveChe2
import Derived.Test.YtkkcjnimbejalaaGreatDoorKEveChe3
import Derived.Test.YtkkcjnimbejalaaGreatDoorKEveChe4
set_option linter.unusedVariables false
set_option linter.unusedSimpArgs false
set_option maxRecDepth 100000
namespace Go.Avc
open Go Go.Proofs

/-- A type whose cells are numbers, bools and strings only: how many. -/
def tileF (P : Program) (rec : TypeId → Option Nat) : List Field → Nat → Option Nat
  | [], o => some o
  | f :: r, o => match rec f.type with
    | some z => if f.offset = o ∧ P.cellsOf f.type = z then tileF P rec r (o + z) else none
    | none => none
def tile (P : Program) : Nat → TypeId → Option Nat
  | 0, _ => none
  | k + 1, t => match P.underlying t with
    | some (.int _) => some 1
    | some .bool => some 1
    | some .string => some 1
    | some (.struct fs) => (match tileF P (tile P k) fs.toList 0 with
      | some n => if P.cellsOf t = n then some n else none
      | none => none)
    | some (.array n e) => (match tile P k e with
      | some z => if P.cellsOf e = z ∧ P.cellsOf t = n * z then some (n * z) else none
      | none => none)
    | _ => none
mutual
def flatW {H : Type} : DataW H → Option (List D)
  | .lit (.int k z) => some [.int k z]
  | .lit (.bool b) => some [.bool b]
  | .lit (.string b) => some [.str ⟨b.toArray⟩]
  | .agg ds => flatWs ds
  | _ => none
def flatWs {H : Type} : List (DataW H) → Option (List D)
  | [] => some []
  | d :: r => match flatW d, flatWs r with
    | some l, some m => some (l ++ m)
    | _, _ => none
end
section
variable {H : Type} {enc : TypeId × Value → H} {P : Program} {w : World} {base : Nat} {sp : Nat → Bool} {held : Bool}
def TileOk (enc : TypeId × Value → H) (P : Program) (w : World) (base : Nat) (sp : Nat → Bool) (held : Bool) (k : Nat) : Prop := ∀ t n, tile P k t = some n → ∀ fuel cs d p, DataW.trod enc P w base sp held fuel t cs = some (d, p) → ∃ l, flatW d = some l ∧ cs = l.map vD ∧ l.length = n
theorem tile_fields {k : Nat} (ih : TileOk enc P w base sp held k) {n : Nat} {cs : List Value} : ∀ (fs : List Field) (o m : Nat) (xs : List (DataW H × List MemPlace)), tileF P (tile P k) fs o = some m → (fs.mapM fun f => DataW.trod enc P w base sp held n f.type ((cs.drop f.offset).take (P.cellsOf f.type))) = some xs → cs.length = m →
    ∃ l, flatWs (xs.map (·.1)) = some l ∧ cs.drop o = l.map vD ∧ o + l.length = m
  | [], o, m, xs, h, hx, hc => by
    cases h
    simp only [List.mapM_nil, Option.pure_def, Option.some.injEq] at hx
    subst hx
    exact ⟨[], rfl, by rw [List.drop_eq_nil_of_le (Nat.le_of_eq hc)]; rfl, rfl⟩
  | f :: r, o, m, xs, h, hx, hc => by
    unfold tileF at h
    split at h
    · rename_i z e
      split at h
      · rename_i hz
        obtain ⟨ho, hz⟩ := hz
        simp only [List.mapM_cons, Option.bind_eq_bind, Option.bind_eq_some_iff, Option.pure_def, Option.some.injEq] at hx
        obtain ⟨⟨d, p⟩, h1, ys, h2, rfl⟩ := hx
        obtain ⟨l, l1, l2, l3⟩ := ih _ _ e n _ d p h1
        obtain ⟨l', l4, l5, l6⟩ := tile_fields ih r (o + z) m ys h h2 hc
        rw [ho, hz] at l2
        refine ⟨l ++ l', ?_, ?_, by rw [List.length_append, l3]; omega⟩
        · rw [List.map_cons]
          unfold flatWs
          simp only [l1, l4]
        · rw [List.map_append, ← l2, ← l5, ← List.drop_drop, List.take_append_drop]
      · cases h
    · cases h
theorem tile_elems {k : Nat} (ih : TileOk enc P w base sp held k) {e : TypeId} {z n : Nat} (he : tile P k e = some z) {cs : List Value} : ∀ (m o : Nat) (xs : List (DataW H × List MemPlace)), ((List.range' o m).mapM fun i => DataW.trod enc P w base sp held n e ((cs.drop (i * z)).take z)) = some xs → cs.length = (o + m) * z →
    ∃ l, flatWs (xs.map (·.1)) = some l ∧ cs.drop (o * z) = l.map vD ∧ l.length = m * z
  | 0, o, xs, hx, hc => by
    simp only [List.range'_zero, List.mapM_nil, Option.pure_def, Option.some.injEq] at hx
    subst hx
    exact ⟨[], rfl, by rw [List.drop_eq_nil_of_le (by rw [hc]; exact Nat.le_refl _)]; rfl, (Nat.zero_mul z).symm⟩
  | m + 1, o, xs, hx, hc => by
    rw [List.range'_succ] at hx
    simp only [List.mapM_cons, Option.bind_eq_bind, Option.bind_eq_some_iff, Option.pure_def, Option.some.injEq] at hx
    obtain ⟨⟨d, p⟩, h1, ys, h2, rfl⟩ := hx
    obtain ⟨l, l1, l2, l3⟩ := ih _ _ he n _ d p h1
    obtain ⟨l', l4, l5, l6⟩ := tile_elems ih he m (o + 1) ys h2 (by rw [hc]; congr 1; omega)
    refine ⟨l ++ l', ?_, ?_, by rw [List.length_append, l3, l6, Nat.succ_mul]; omega⟩
    · rw [List.map_cons]
      unfold flatWs
      simp only [l1, l4]
    · rw [List.map_append, ← l2, ← l5, Nat.succ_mul, ← List.drop_drop, List.take_append_drop]
theorem tile_ok : ∀ k, TileOk enc P w base sp held k
  | 0 => fun t n h => by cases h
  | k + 1 => fun t n h fuel cs d p hd => by
    unfold tile at h
    split at h <;> rename_i hu
    · cases h
      obtain ⟨z, rfl, hx, _⟩ := DataW.trod_int hu hd
      cases hx
      exact ⟨_, rfl, rfl, rfl⟩
    · cases h
      obtain ⟨z, rfl, hx⟩ := DataW.trod_bool hu hd
      cases hx
      exact ⟨_, rfl, rfl, rfl⟩
    · cases h
      obtain ⟨z, rfl, hx, _⟩ := DataW.trod_string hu hd
      cases hx
      exact ⟨_, rfl, rfl, rfl⟩
    · rename_i fs
      split at h
      · rename_i m e
        split at h
        · rename_i hc
          cases h
          cases fuel with
          | zero => simp [DataW.trod] at hd
          | succ fuel =>
            change DataW.trodStep enc P w base sp held (DataW.trod enc P w base sp held fuel) t cs = _ at hd
            unfold DataW.trodStep at hd
            rw [hu] at hd
            simp only at hd
            split at hd
            · rename_i hl
              obtain ⟨xs, hx, hxs⟩ := Option.map_eq_some_iff.1 hd
              cases hxs
              obtain ⟨l, l1, l2, l3⟩ := tile_fields (tile_ok k) fs.toList 0 _ xs e hx (by rw [hl, hc])
              exact ⟨l, l1, by rw [List.drop_zero] at l2; exact l2, by omega⟩
            · cases hd
        · cases h
      · cases h
    · rename_i n' e
      split at h
      · rename_i z hz
        split at h
        · rename_i hc
          cases h
          cases fuel with
          | zero => simp [DataW.trod] at hd
          | succ fuel =>
            change DataW.trodStep enc P w base sp held (DataW.trod enc P w base sp held fuel) t cs = _ at hd
            unfold DataW.trodStep at hd
            rw [hu] at hd
            simp only at hd
            split at hd
            · rename_i hl
              obtain ⟨xs, hx, hxs⟩ := Option.map_eq_some_iff.1 hd
              cases hxs
              rw [hc.1, List.range_eq_range'] at hx
              obtain ⟨l, l1, l2, l3⟩ := tile_elems (tile_ok k) hz n' 0 xs hx (by rw [hl, hc.2, Nat.zero_add])
              exact ⟨l, l1, by rw [Nat.zero_mul, List.drop_zero] at l2; exact l2, l3⟩
            · cases hd
        · cases h
      · cases h
    · cases h
end
theorem rdL_vD' {ok : Nat → Prop} {w : World} {l : List D} (h : (l.map D.ek).all EK.ok = true) : RdL ok w l (l.map vD) := ⟨by rw [List.length_map], fun j x v hx hv => by
  rw [List.getElem?_map, hx] at hv
  cases hv
  have hk := List.all_eq_true.1 h _ (List.mem_map.2 ⟨x, List.mem_of_getElem? hx, rfl⟩)
  cases x with
  | int k n => exact .int k n
  | bool b => exact .bool b
  | str s => exact .str s
  | sl l => cases hk⟩
/-- A listed variable lies so. -/
theorem lies_of_reads {P : Program} {w : World} {n : String} {d : DataW Unit} (h : Lib.VarReads P w n d) {g : Nat} {t : TypeId} {l : List D} {m : Nat} (hg : P.globalNamed n = some g) (ht : (P.globals[g]?).map (·.type) = some t) (htl : tile P 8 t = some m) (hl : flatW d = some l) (hne : l ≠ []) :
    g < w.heap.size ∧ ∀ (j : Nat) (u : Value), (l.map vD)[j]? = some u → w.cell? ⟨g, j, none⟩ = some u := by
  obtain ⟨g', t', cs, fuel, p, e1, e2, hvar, hd⟩ := h
  obtain rfl := Option.some.inj (hg.symm.trans e1)
  obtain rfl := Option.some.inj (ht.symm.trans e2)
  obtain ⟨l', l1, l2, _⟩ := tile_ok 8 _ _ htl _ _ _ _ hd
  obtain rfl := Option.some.inj (hl.symm.trans l1)
  have hcell : ∀ (j : Nat) (u : Value), (l.map vD)[j]? = some u → w.cell? ⟨g, j, none⟩ = some u := fun j u hj => by
    rw [World.var?_cell hg hvar j, ← Array.getElem?_toList, l2]
    exact hj
  refine ⟨?_, hcell⟩
  have h0 : ∃ u, (l.map vD)[0]? = some u := by
    cases l with
    | nil => exact absurd rfl hne
    | cons x r => exact ⟨vD x, rfl⟩
  obtain ⟨u, hu⟩ := h0
  have := hcell 0 u hu
  by_cases hb : g < w.heap.size
  · exact hb
  · unfold World.cell? at this
    rw [Array.getElem?_eq_none (show w.heap.size ≤ g by omega)] at this
    cases this
/-- The tables of unicode/utf8 and further ones. -/
def globX (ex : Nat → Option (List D)) : Nat → Option (List D) := fun k => match globU k with
  | some l => some l
  | none => ex k
def Lies (w : World) (ex : Nat → Option (List D)) : Prop := ∀ k l, ex k = some l → k < 6 ∧ k < w.heap.size ∧ (l.map D.ek).all EK.ok = true ∧ ∀ (j : Nat) (u : Value), (l.map vD)[j]? = some u → w.cell? ⟨k, j, none⟩ = some u
theorem glAt_X {W : World} {L : List Int} {ST : TypeId} {ex : Nat → Option (List D)} (h : Lib.Utf8Tabs 4 5 W) (hx : Lies W ex) : GlAt ⟨Tryz.prog, none, L, ST, 6, globX ex⟩ W := by
  intro k l hk
  have hU := glAt_of_tabs (L := L) (ST := ST) h
  change globX ex k = some l at hk
  unfold globX at hk
  split at hk
  · rename_i l' e
    cases hk
    exact hU k l e
  · obtain ⟨h1, h2, h3, h4⟩ := hx k l hk
    exact ⟨h1, h2, _, h4, rdL_vD' h3⟩
theorem utf8_of_globX {cx : Cx} {W0 : Cx} {ex : Nat → Option (List D)} (hW : W0.glob = globX ex) (h : ∀ w, GlAt cx w → GlAt W0 w) : Utf8 cx := by
  refine utf8_of_glob (W0 := { W0 with glob := globU }) rfl fun w hw k l hk => ?_
  refine h w hw k l ?_
  rw [hW]
  unfold globX
  rw [show globU k = some l from hk]
theorem tabs_of_list {W : World} {ls : List (String × DataW Unit)} (h : laidMet Tryz.prog ls W) (h1 : ("unicode/utf8.first", YtkkcjnimbejalaaGreatDoor.Rows.laid_unicode_utf8_first) ∈ ls) (h2 : ("unicode/utf8.acceptRanges", YtkkcjnimbejalaaGreatDoor.Rows.laid_unicode_utf8_acceptRanges) ∈ ls) : Lib.Utf8Tabs 4 5 W := by
  rw [first_eq] at h1
  rw [accept_eq] at h2
  exact utf8Tabs_of_reads Tryz.lays260 u8Extra (Lib.laidMet.reads h h1) (Lib.laidMet.reads h h2)
end Go.Avc

namespace Go.Avc
open Go Go.Proofs

/-- The greatest length for which package bytealg looks for a string is some number. -/
def MaxL (cx : Cx) : Prop := ∀ w, GlAt cx w → ∃ m : Int, w.cell? ⟨3, 0, none⟩ = some (.int .i64 m)
theorem below_same {w w' : World} (h : w' = w) : RowKit.Below w.heap.size w w' := by
  subst h
  exact ⟨rfl, rfl, rfl, Nat.le_refl _, fun _ _ => rfl⟩
theorem below_drawn {w w' : World} (h : ∃ n, w' = w.drewN n) : RowKit.Below w.heap.size w w' := by
  obtain ⟨n, rfl⟩ := h
  exact ⟨rfl, rfl, rfl, Nat.le_refl _, fun _ _ => rfl⟩
def cutSp  : Spec where
  pre xs := ∃ (s : ByteArray) (p : ByteArray), xs = [.str s, .str p] ∧ (s.size ≤ 4000000000)
  post xs y := ∃ (s : ByteArray) (p : ByteArray), xs = [.str s, .str p] ∧ y = .tcons (.str (cutL s p)) (.tcons (.str (cutR s p)) (.tcons (.b (cutB s p)) .tnil))
  cost _ := 0
  fresh := true
theorem cutSp_c  (xs : List AV) : (cutSp).cost xs = 0 := nr rfl
theorem cutSp_f  : (cutSp).fresh = true := nr rfl
theorem cutSp_q  (s : ByteArray) (p : ByteArray) : (cutSp).pre [.str s, .str p] = (s.size ≤ 4000000000) := propext ⟨fun h => by
  have h' : ∃ (s' : ByteArray) (p' : ByteArray), ([.str s, .str p] : List AV) = [.str s', .str p'] ∧ (s'.size ≤ 4000000000) := h
  obtain ⟨s', p', e, h⟩ := h'
  simp only [List.cons.injEq, AV.dv.injEq, AV.dp.injEq, AV.fv.injEq, DV.d.injEq, DV.ag.injEq, D.int.injEq, D.str.injEq, D.bool.injEq, D.sl.injEq, true_and, and_true, intsDi_inj, rowsT_inj, rowsKi_inj] at e
  obtain ⟨rfl, rfl⟩ := e
  exact h, fun h => ⟨s, p, rfl, h⟩⟩
theorem cutSp_p  (s : ByteArray) (p : ByteArray) : (cutSp).post [.str s, .str p] = fun y => y = .tcons (.str (cutL s p)) (.tcons (.str (cutR s p)) (.tcons (.b (cutB s p)) .tnil)) := funext fun y => propext ⟨fun h => by
  have h' : ∃ (s' : ByteArray) (p' : ByteArray), ([.str s, .str p] : List AV) = [.str s', .str p'] ∧ y = .tcons (.str (cutL s' p')) (.tcons (.str (cutR s' p')) (.tcons (.b (cutB s' p')) .tnil)) := h
  obtain ⟨s', p', e, h⟩ := h'
  simp only [List.cons.injEq, AV.dv.injEq, AV.dp.injEq, AV.fv.injEq, DV.d.injEq, DV.ag.injEq, D.int.injEq, D.str.injEq, D.bool.injEq, D.sl.injEq, true_and, and_true, intsDi_inj, rowsT_inj, rowsKi_inj] at e
  obtain ⟨rfl, rfl⟩ := e
  exact h, fun h => ⟨s, p, rfl, h⟩⟩
theorem cut_ctr {cx : Cx} (h : Seat cx) (hM : MaxL cx) : Ctr cx 80 cutSp := by
  refine ctr_flat (by rw [h.hP]; exact ⟨_, Tryz.func80, by kernel_rfl, by kernel_rfl⟩) (fun _ => rfl) ?_
  rintro xs ⟨s, p, rfl, h1⟩
  refine ⟨_, _, _, rfl, ⟨s, p, rfl, rfl⟩, rfl, fun w hw => ?_⟩
  rw [h.hP]
  obtain ⟨m, hm⟩ := hM w hw
  exact (Tryz.strings_Cut s p m w (by omega) hm).mono fun e w' ⟨h1, h2⟩ => ⟨h1, below_drawn h2⟩
def conSp  : Spec where
  pre xs := ∃ (s : ByteArray) (p : ByteArray), xs = [.str s, .str p] ∧ (s.size ≤ 4000000000)
  post xs y := ∃ (s : ByteArray) (p : ByteArray), xs = [.str s, .str p] ∧ y = .b (conS s p)
  cost _ := 0
  fresh := true
theorem conSp_c  (xs : List AV) : (conSp).cost xs = 0 := nr rfl
theorem conSp_f  : (conSp).fresh = true := nr rfl
theorem conSp_q  (s : ByteArray) (p : ByteArray) : (conSp).pre [.str s, .str p] = (s.size ≤ 4000000000) := propext ⟨fun h => by
  have h' : ∃ (s' : ByteArray) (p' : ByteArray), ([.str s, .str p] : List AV) = [.str s', .str p'] ∧ (s'.size ≤ 4000000000) := h
  obtain ⟨s', p', e, h⟩ := h'
  simp only [List.cons.injEq, AV.dv.injEq, AV.dp.injEq, AV.fv.injEq, DV.d.injEq, DV.ag.injEq, D.int.injEq, D.str.injEq, D.bool.injEq, D.sl.injEq, true_and, and_true, intsDi_inj, rowsT_inj, rowsKi_inj] at e
  obtain ⟨rfl, rfl⟩ := e
  exact h, fun h => ⟨s, p, rfl, h⟩⟩
theorem conSp_p  (s : ByteArray) (p : ByteArray) : (conSp).post [.str s, .str p] = fun y => y = .b (conS s p) := funext fun y => propext ⟨fun h => by
  have h' : ∃ (s' : ByteArray) (p' : ByteArray), ([.str s, .str p] : List AV) = [.str s', .str p'] ∧ y = .b (conS s' p') := h
  obtain ⟨s', p', e, h⟩ := h'
  simp only [List.cons.injEq, AV.dv.injEq, AV.dp.injEq, AV.fv.injEq, DV.d.injEq, DV.ag.injEq, D.int.injEq, D.str.injEq, D.bool.injEq, D.sl.injEq, true_and, and_true, intsDi_inj, rowsT_inj, rowsKi_inj] at e
  obtain ⟨rfl, rfl⟩ := e
  exact h, fun h => ⟨s, p, rfl, h⟩⟩
theorem contains_ctr {cx : Cx} (h : Seat cx) (hM : MaxL cx) : Ctr cx 84 conSp := by
  refine ctr_flat (by rw [h.hP]; exact ⟨_, Tryz.func84, by kernel_rfl, by kernel_rfl⟩) (fun _ => rfl) ?_
  rintro xs ⟨s, p, rfl, h1⟩
  refine ⟨_, _, _, rfl, ⟨s, p, rfl, rfl⟩, rfl, fun w hw => ?_⟩
  rw [h.hP]
  obtain ⟨m, hm⟩ := hM w hw
  exact (Tryz.strings_Contains s p m w (by omega) hm).mono fun e w' ⟨h1, h2⟩ => ⟨h1, below_same h2⟩
def preSp  : Spec where
  pre xs := ∃ (s : ByteArray) (p : ByteArray), xs = [.str s, .str p]
  post xs y := ∃ (s : ByteArray) (p : ByteArray), xs = [.str s, .str p] ∧ y = .b (preS s p)
  cost _ := 0
  fresh := true
theorem preSp_c  (xs : List AV) : (preSp).cost xs = 0 := nr rfl
theorem preSp_f  : (preSp).fresh = true := nr rfl
theorem preSp_q  (s : ByteArray) (p : ByteArray) : (preSp).pre [.str s, .str p] = (True) := propext ⟨fun h => by
  have h' : ∃ (s' : ByteArray) (p' : ByteArray), ([.str s, .str p] : List AV) = [.str s', .str p'] := h
  obtain ⟨s', p', e⟩ := h'
  simp only [List.cons.injEq, AV.dv.injEq, AV.dp.injEq, AV.fv.injEq, DV.d.injEq, DV.ag.injEq, D.int.injEq, D.str.injEq, D.bool.injEq, D.sl.injEq, true_and, and_true, intsDi_inj, rowsT_inj, rowsKi_inj] at e
  obtain ⟨rfl, rfl⟩ := e
  exact trivial, fun h => ⟨s, p, rfl⟩⟩
theorem preSp_p  (s : ByteArray) (p : ByteArray) : (preSp).post [.str s, .str p] = fun y => y = .b (preS s p) := funext fun y => propext ⟨fun h => by
  have h' : ∃ (s' : ByteArray) (p' : ByteArray), ([.str s, .str p] : List AV) = [.str s', .str p'] ∧ y = .b (preS s' p') := h
  obtain ⟨s', p', e, h⟩ := h'
  simp only [List.cons.injEq, AV.dv.injEq, AV.dp.injEq, AV.fv.injEq, DV.d.injEq, DV.ag.injEq, D.int.injEq, D.str.injEq, D.bool.injEq, D.sl.injEq, true_and, and_true, intsDi_inj, rowsT_inj, rowsKi_inj] at e
  obtain ⟨rfl, rfl⟩ := e
  exact h, fun h => ⟨s, p, rfl, h⟩⟩
theorem hasPrefix_ctr {cx : Cx} (h : Seat cx) : Ctr cx 166 preSp := by
  refine ctr_flat (by rw [h.hP]; exact ⟨_, Tryz.func166, by kernel_rfl, by kernel_rfl⟩) (fun _ => rfl) ?_
  rintro xs ⟨s, p, rfl⟩
  refine ⟨_, _, _, rfl, ⟨s, p, rfl, rfl⟩, rfl, fun w hw => ?_⟩
  rw [h.hP]
  exact (Tryz.strings_HasPrefix s p w).mono fun e w' ⟨h1, h2⟩ => ⟨h1, below_same h2⟩
def cpreF (s p : ByteArray) : ByteArray := ⟨(Lib.trimPrefix s.data.toList p.data.toList).toArray⟩
def cpreSp  : Spec where
  pre xs := ∃ (s : ByteArray) (p : ByteArray), xs = [.str s, .str p]
  post xs y := ∃ (s : ByteArray) (p : ByteArray), xs = [.str s, .str p] ∧ y = .tcons (.str (cpreF s p)) (.tcons (.b (preS s p)) .tnil)
  cost _ := 0
  fresh := true
theorem cpreSp_c  (xs : List AV) : (cpreSp).cost xs = 0 := nr rfl
theorem cpreSp_f  : (cpreSp).fresh = true := nr rfl
theorem cpreSp_q  (s : ByteArray) (p : ByteArray) : (cpreSp).pre [.str s, .str p] = (True) := propext ⟨fun h => by
  have h' : ∃ (s' : ByteArray) (p' : ByteArray), ([.str s, .str p] : List AV) = [.str s', .str p'] := h
  obtain ⟨s', p', e⟩ := h'
  simp only [List.cons.injEq, AV.dv.injEq, AV.dp.injEq, AV.fv.injEq, DV.d.injEq, DV.ag.injEq, D.int.injEq, D.str.injEq, D.bool.injEq, D.sl.injEq, true_and, and_true, intsDi_inj, rowsT_inj, rowsKi_inj] at e
  obtain ⟨rfl, rfl⟩ := e
  exact trivial, fun h => ⟨s, p, rfl⟩⟩
theorem cpreSp_p  (s : ByteArray) (p : ByteArray) : (cpreSp).post [.str s, .str p] = fun y => y = .tcons (.str (cpreF s p)) (.tcons (.b (preS s p)) .tnil) := funext fun y => propext ⟨fun h => by
  have h' : ∃ (s' : ByteArray) (p' : ByteArray), ([.str s, .str p] : List AV) = [.str s', .str p'] ∧ y = .tcons (.str (cpreF s' p')) (.tcons (.b (preS s' p')) .tnil) := h
  obtain ⟨s', p', e, h⟩ := h'
  simp only [List.cons.injEq, AV.dv.injEq, AV.dp.injEq, AV.fv.injEq, DV.d.injEq, DV.ag.injEq, D.int.injEq, D.str.injEq, D.bool.injEq, D.sl.injEq, true_and, and_true, intsDi_inj, rowsT_inj, rowsKi_inj] at e
  obtain ⟨rfl, rfl⟩ := e
  exact h, fun h => ⟨s, p, rfl, h⟩⟩
theorem cutPrefix_ctr {cx : Cx} (h : Seat cx) : Ctr cx 85 cpreSp := by
  refine ctr_flat (by rw [h.hP]; exact ⟨_, Tryz.func85, by kernel_rfl, by kernel_rfl⟩) (fun _ => rfl) ?_
  rintro xs ⟨s, p, rfl⟩
  refine ⟨_, _, _, rfl, ⟨s, p, rfl, rfl⟩, rfl, fun w hw => ?_⟩
  rw [h.hP]
  exact (Tryz.strings_CutPrefix s p w).mono fun e w' ⟨h1, h2⟩ => ⟨h1, below_same h2⟩
def ixB (s : ByteArray) (c : Int) : Int := Lib.indexByte s.data.toList c.toNat.toUInt8
def ixSp  : Spec where
  pre xs := ∃ (s : ByteArray) (c : Int), xs = [.str s, .u8 c]
  post xs y := ∃ (s : ByteArray) (c : Int), xs = [.str s, .u8 c] ∧ y = .i (ixB s c)
  cost _ := 0
  fresh := true
theorem ixSp_c  (xs : List AV) : (ixSp).cost xs = 0 := nr rfl
theorem ixSp_f  : (ixSp).fresh = true := nr rfl
theorem ixSp_q  (s : ByteArray) (c : Int) : (ixSp).pre [.str s, .u8 c] = (True) := propext ⟨fun h => by
  have h' : ∃ (s' : ByteArray) (c' : Int), ([.str s, .u8 c] : List AV) = [.str s', .u8 c'] := h
  obtain ⟨s', c', e⟩ := h'
  simp only [List.cons.injEq, AV.dv.injEq, AV.dp.injEq, AV.fv.injEq, DV.d.injEq, DV.ag.injEq, D.int.injEq, D.str.injEq, D.bool.injEq, D.sl.injEq, true_and, and_true, intsDi_inj, rowsT_inj, rowsKi_inj] at e
  obtain ⟨rfl, rfl⟩ := e
  exact trivial, fun h => ⟨s, c, rfl⟩⟩
theorem ixSp_p  (s : ByteArray) (c : Int) : (ixSp).post [.str s, .u8 c] = fun y => y = .i (ixB s c) := funext fun y => propext ⟨fun h => by
  have h' : ∃ (s' : ByteArray) (c' : Int), ([.str s, .u8 c] : List AV) = [.str s', .u8 c'] ∧ y = .i (ixB s' c') := h
  obtain ⟨s', c', e, h⟩ := h'
  simp only [List.cons.injEq, AV.dv.injEq, AV.dp.injEq, AV.fv.injEq, DV.d.injEq, DV.ag.injEq, D.int.injEq, D.str.injEq, D.bool.injEq, D.sl.injEq, true_and, and_true, intsDi_inj, rowsT_inj, rowsKi_inj] at e
  obtain ⟨rfl, rfl⟩ := e
  exact h, fun h => ⟨s, c, rfl, h⟩⟩
theorem indexByte_ctr {cx : Cx} (h : Seat cx) : Ctr cx 143 ixSp := by
  refine ctr_flat (by rw [h.hP]; exact ⟨_, Tryz.func143, by kernel_rfl, by kernel_rfl⟩) (fun _ => rfl) ?_
  rintro xs ⟨s, c, rfl⟩
  refine ⟨_, _, _, rfl, ⟨s, c, rfl, rfl⟩, rfl, fun w hw => ?_⟩
  rw [h.hP]
  exact (Tryz.strings_IndexByte s c w).mono fun e w' ⟨h1, h2⟩ => ⟨h1, below_same h2⟩
def splitSp  : Spec where
  pre xs := ∃ (s : ByteArray) (p : ByteArray), xs = [.str s, .str p] ∧ (s.size ≤ 4000000000 ∧ 1 ≤ p.size)
  post xs y := ∃ (s : ByteArray) (p : ByteArray), xs = [.str s, .str p] ∧ y = .sl (rowsT (splitS s p))
  cost _ := 0
  fresh := true
theorem splitSp_c  (xs : List AV) : (splitSp).cost xs = 0 := nr rfl
theorem splitSp_f  : (splitSp).fresh = true := nr rfl
theorem splitSp_q  (s : ByteArray) (p : ByteArray) : (splitSp).pre [.str s, .str p] = (s.size ≤ 4000000000 ∧ 1 ≤ p.size) := propext ⟨fun h => by
  have h' : ∃ (s' : ByteArray) (p' : ByteArray), ([.str s, .str p] : List AV) = [.str s', .str p'] ∧ (s'.size ≤ 4000000000 ∧ 1 ≤ p'.size) := h
  obtain ⟨s', p', e, h⟩ := h'
  simp only [List.cons.injEq, AV.dv.injEq, AV.dp.injEq, AV.fv.injEq, DV.d.injEq, DV.ag.injEq, D.int.injEq, D.str.injEq, D.bool.injEq, D.sl.injEq, true_and, and_true, intsDi_inj, rowsT_inj, rowsKi_inj] at e
  obtain ⟨rfl, rfl⟩ := e
  exact h, fun h => ⟨s, p, rfl, h⟩⟩
theorem splitSp_p  (s : ByteArray) (p : ByteArray) : (splitSp).post [.str s, .str p] = fun y => y = .sl (rowsT (splitS s p)) := funext fun y => propext ⟨fun h => by
  have h' : ∃ (s' : ByteArray) (p' : ByteArray), ([.str s, .str p] : List AV) = [.str s', .str p'] ∧ y = .sl (rowsT (splitS s' p')) := h
  obtain ⟨s', p', e, h⟩ := h'
  simp only [List.cons.injEq, AV.dv.injEq, AV.dp.injEq, AV.fv.injEq, DV.d.injEq, DV.ag.injEq, D.int.injEq, D.str.injEq, D.bool.injEq, D.sl.injEq, true_and, and_true, intsDi_inj, rowsT_inj, rowsKi_inj] at e
  obtain ⟨rfl, rfl⟩ := e
  exact h, fun h => ⟨s, p, rfl, h⟩⟩
theorem split_ctr {cx : Cx} (h : Seat cx) (hM : MaxL cx) : Ctr cx 81 splitSp := by
  refine ⟨by rw [h.hP]; exact ⟨_, Tryz.func81, by kernel_rfl, by kernel_rfl⟩, fun xs ⟨s, p, e, _⟩ => ⟨_, s, p, e, rfl⟩, ?_⟩
  rintro F xs us hcx hF hst hgl hco hlen hargs ⟨s, p, rfl, h1, h2⟩
  obtain rfl := vals_of (vs := [.string s, .string p]) rfl hlen hargs
  rw [h.hP]
  obtain ⟨m, hm⟩ := hM F.w0 hgl
  refine (Tryz.strings_Split s p m F.w0 (by omega) hm h2).mono ?_
  rintro e w' ⟨rfl, rfl⟩
  refine ⟨_, _, rfl, Gr.alloc _ F.w0 _, hst.keep (Nat.le_of_lt (alloc_size F.w0 _)) (fun b hb => (alloc_gr F.w0 _).block b hb (by simp)), ⟨s, p, rfl, rfl⟩, rfl, ?_⟩
  show Rd _ _ (.sl (rowsT (splitS s p))) _
  have hl : (rowsT (splitS s p)).length = Lib.countB s p + 1 := by rw [rowsT_len, splitS_len h2]
  rw [← hl]
  have hg : ∀ (i : Nat) (x : List D), (rowsT (splitS s p))[i]? = some x → ∃ t, (splitS s p)[i]? = some t ∧ x = [.str t] := fun i x hx => by
    unfold rowsT at hx
    rw [List.getElem?_map, Option.map_eq_some_iff] at hx
    obtain ⟨t, ht, rfl⟩ := hx
    exact ⟨t, ht, rfl⟩
  refine .sl _ 1 F.w0.heap.size 0 _ (fun i _ => .string ((splitS s p).getD i ⟨#[]⟩)) (Nat.le_refl _) (.inr (Nat.le_refl _)) (alloc_size F.w0 _) (fun i x hx => ?_) (fun i x hx j y hy => ?_) (fun i x hx j y hy => ?_)
  · obtain ⟨t, ht, rfl⟩ := hg i x hx
    rfl
  · obtain ⟨t, ht, rfl⟩ := hg i x hx
    cases j with
    | succ j => simp at hy
    | zero =>
      unfold World.cell?
      rw [heap_alloc_new]
      show (((Lib.splitB p 0 (Lib.countB s p) s).map Value.string).toArray)[0 + i * 1 + 0]? = _
      rw [List.getElem?_toArray, List.getElem?_map, List.getD_eq_getElem?_getD, ht, show 0 + i * 1 + 0 = i by omega]
      show ((splitS s p)[i]?).map _ = _
      rw [ht]
      rfl
  · obtain ⟨t, ht, rfl⟩ := hg i x hx
    cases j with
    | succ j => simp at hy
    | zero =>
      cases hy
      rw [List.getD_eq_getElem?_getD, ht]
      exact .str t
/-! ### Comparisons -/
def cmpISp  : Spec where
  pre xs := ∃ (a : Int) (b : Int), xs = [.i a, .i b]
  post xs y := ∃ (a : Int) (b : Int), xs = [.i a, .i b] ∧ y = .i (cmpI a b)
  cost _ := 0
  fresh := true
theorem cmpISp_c  (xs : List AV) : (cmpISp).cost xs = 0 := nr rfl
theorem cmpISp_f  : (cmpISp).fresh = true := nr rfl
theorem cmpISp_q  (a : Int) (b : Int) : (cmpISp).pre [.i a, .i b] = (True) := propext ⟨fun h => by
  have h' : ∃ (a' : Int) (b' : Int), ([.i a, .i b] : List AV) = [.i a', .i b'] := h
  obtain ⟨a', b', e⟩ := h'
  simp only [List.cons.injEq, AV.dv.injEq, AV.dp.injEq, AV.fv.injEq, DV.d.injEq, DV.ag.injEq, D.int.injEq, D.str.injEq, D.bool.injEq, D.sl.injEq, true_and, and_true, intsDi_inj, rowsT_inj, rowsKi_inj] at e
  obtain ⟨rfl, rfl⟩ := e
  exact trivial, fun h => ⟨a, b, rfl⟩⟩
theorem cmpISp_p  (a : Int) (b : Int) : (cmpISp).post [.i a, .i b] = fun y => y = .i (cmpI a b) := funext fun y => propext ⟨fun h => by
  have h' : ∃ (a' : Int) (b' : Int), ([.i a, .i b] : List AV) = [.i a', .i b'] ∧ y = .i (cmpI a' b') := h
  obtain ⟨a', b', e, h⟩ := h'
  simp only [List.cons.injEq, AV.dv.injEq, AV.dp.injEq, AV.fv.injEq, DV.d.injEq, DV.ag.injEq, D.int.injEq, D.str.injEq, D.bool.injEq, D.sl.injEq, true_and, and_true, intsDi_inj, rowsT_inj, rowsKi_inj] at e
  obtain ⟨rfl, rfl⟩ := e
  exact h, fun h => ⟨a, b, rfl, h⟩⟩
theorem compareI_ctr {cx : Cx} (h : Seat cx) : Ctr cx 119 cmpISp := by
  refine ctr_flat (by rw [h.hP]; exact ⟨_, Tryz.func119, by kernel_rfl, by kernel_rfl⟩) (fun _ => rfl) ?_
  rintro xs ⟨a, b, rfl⟩
  refine ⟨_, _, _, rfl, ⟨a, b, rfl, rfl⟩, rfl, fun w hw => ?_⟩
  rw [h.hP]
  exact (Tryz.cmp_Compare_int a b w).mono fun e w' ⟨h1, h2⟩ => ⟨h1, below_same h2⟩
end Go.Avc

namespace Go.Avc
open Go Go.Proofs

def shE (l : List TShift) (i : Nat) : Int := if inB (l.getD i TShift.z).at_ 0 4321439 = false ∨ inB (l.getD i TShift.z).offset (-720) 840 = false then 1 else if i = 0 ∧ ¬ (l.getD i TShift.z).at_ = 0 then 3 else if 0 < (i : Int) ∧ (l.getD i TShift.z).at_ < (l.getD (i - 1) TShift.z).at_ + 1800 then 7 else 0
def zoneF (z : TZone) : Int := if keyB z.name = false then 5 else if z.shifts.length = 0 then 3 else if 100 < (z.shifts.length : Int) then 2 else firstI z.shifts.length (shE z.shifts)
/-- In a round of the loop all shifts behind are in their bounds. -/
theorem shE_in {l : List TShift} {i : Nat} (h : shE l i = 0) : 0 ≤ (l.getD i TShift.z).at_ ∧ (l.getD i TShift.z).at_ ≤ 4321439 ∧ -720 ≤ (l.getD i TShift.z).offset ∧ (l.getD i TShift.z).offset ≤ 840 := by
  unfold shE at h
  split at h
  · cases h
  · rename_i c
    simp only [not_or, Bool.not_eq_false] at c
    have c1 := of_decide_eq_true c.1
    have c2 := of_decide_eq_true c.2
    exact ⟨c1.1, c1.2, c2.1, c2.2⟩
def zoneS  : Spec where
  pre xs := ∃ (z : TZone), xs = [.dv (.ag z.row)] ∧ (z.ok)
  post xs y := ∃ (z : TZone), xs = [.dv (.ag z.row)] ∧ y = .i (zoneF z)
  cost _ := 0
  fresh := true
theorem zoneS_c  (xs : List AV) : (zoneS).cost xs = 0 := nr rfl
theorem zoneS_f  : (zoneS).fresh = true := nr rfl
theorem zoneS_q  (z : TZone) : (zoneS).pre [.dv (.ag [.str z.name, .sl (TShift.rows z.shifts)])] = (z.ok) := propext ⟨fun h => by
  have h' : ∃ (z' : TZone), ([.dv (.ag z.row)] : List AV) = [.dv (.ag z'.row)] ∧ (z'.ok) := h
  obtain ⟨z', e, h⟩ := h'
  simp only [List.cons.injEq, AV.dv.injEq, AV.dp.injEq, AV.fv.injEq, DV.d.injEq, DV.ag.injEq, D.int.injEq, D.str.injEq, D.bool.injEq, D.sl.injEq, true_and, and_true, intsDi_inj, rowsT_inj, rowsKi_inj, TZone.row_inj, TZone.rows_inj] at e
  obtain rfl := e
  exact h, fun h => ⟨z, rfl, h⟩⟩
theorem zoneS_p  (z : TZone) : (zoneS).post [.dv (.ag [.str z.name, .sl (TShift.rows z.shifts)])] = fun y => y = .i (zoneF z) := funext fun y => propext ⟨fun h => by
  have h' : ∃ (z' : TZone), ([.dv (.ag z.row)] : List AV) = [.dv (.ag z'.row)] ∧ y = .i (zoneF z') := h
  obtain ⟨z', e, h⟩ := h'
  simp only [List.cons.injEq, AV.dv.injEq, AV.dp.injEq, AV.fv.injEq, DV.d.injEq, DV.ag.injEq, D.int.injEq, D.str.injEq, D.bool.injEq, D.sl.injEq, true_and, and_true, intsDi_inj, rowsT_inj, rowsKi_inj, TZone.row_inj, TZone.rows_inj] at e
  obtain rfl := e
  exact h, fun h => ⟨z, rfl, h⟩⟩
set_option maxHeartbeats 4000000 in
theorem CheckZone_ctr {cx : Cx} (h : Seat cx) : Ctr cx 69 zoneS := by
  refine ctr_of (fn := Tryz.f69) (l := [.tmp 2]) (envL [(90, (strB keyB)), (56, inS)]) [0, 1, 2, 3, 4, 5, 10, 15, 21, 22, 23, 24, 28, 39, 47] [] [] (envL_cons (IsKey_ctr h) (envL_cons (ewithin_ctr h) (env0 h.hP))) ?_ (by rw [h.hP]; exact Tryz.func69) rfl (by kernel_rfl) rfl ?_ ?_
  · rw [h.hP]; exact ⟨_, Tryz.func69, by kernel_rfl, by kernel_rfl⟩
  · rintro xs ⟨z, rfl, h1⟩; exact ⟨_, z, rfl, rfl⟩
  · rintro xs ⟨z, rfl, h1⟩
    refine ⟨by rw [Tryz.ntmps69]; simp, ?_⟩
    simp only [go_sem, h.hP, List.cons_append, List.nil_append, Meets_e, Below_e, Prod.exists, exists_eq, exists_eq_left, exists_eq_left', exists_eq_right, exists_eq_right', exists_and_left, exists_and_right, Ob.arr.injEq, AV.own.injEq, AV.fv.injEq, zoneS_q, zoneS_p, zoneS_c, zoneS_f, strB_q, strB_p, strB_c, strB_f, TZone.row, TShift.len, Tryz.ntmps69, Nat.reduceEqDiff, reduceCtorEq, Nat.reduceMul, Nat.reduceAdd, Nat.reduceSub, Nat.reduceDiv, Nat.reduceMod, Nat.reduceLeDiff, Nat.reduceLT, Nat.reduceBNe, Nat.reduceBEq, reduceIte, Int.reduceLE, Int.reduceLT, Int.reduceToNat, Int.reduceNeg, Int.reduceAdd, Int.reduceSub, Int.reduceMul, Int.reduceEq]
    obtain ⟨o1, o2⟩ := h1
    unfold okS at o1
    refine ⟨by omega, fun c => (if_pos c).symm, fun c => ⟨fun d => ((if_neg (ne_ft c)).trans (if_pos (by omega))).symm, fun d => ⟨fun e => ((if_neg (ne_ft c)).trans ((if_neg (by omega)).trans (if_pos e))).symm, fun e => ?_⟩⟩⟩
    have hc : zoneF z = firstI z.shifts.length (shE z.shifts) := (if_neg (ne_ft c)).trans ((if_neg (by omega)).trans (if_neg e))
    rw [hc]
    refine vc_loopS (Int) (fun (i : Int) => [(23, .i i)]) [1] (fun (i : Int) => []) (fun (i : Int) => []) (fun (i : Int) => 0) (fun (i : Int) => Rounds z.shifts.length (shE z.shifts) i) (fun (i : Int) => (z.shifts.length - i).toNat) [] ?_ ?_
    · simp only [go_sem, h.hP, List.cons_append, List.nil_append, Meets_e, Below_e, Prod.exists, exists_eq, exists_eq_left, exists_eq_left', exists_eq_right, exists_eq_right', exists_and_left, exists_and_right, Ob.arr.injEq, AV.own.injEq, AV.fv.injEq, Tryz.ntmps69, Nat.reduceEqDiff, reduceCtorEq, Nat.reduceMul, Nat.reduceAdd, Nat.reduceSub, Nat.reduceDiv, Nat.reduceMod, Nat.reduceLeDiff, Nat.reduceLT, Nat.reduceBNe, Nat.reduceBEq, reduceIte, Int.reduceLE, Int.reduceLT, Int.reduceToNat, Int.reduceNeg, Int.reduceAdd, Int.reduceSub, Int.reduceMul, Int.reduceEq]
      exact Rounds.start
    · rintro i hr
      have hP : 0 < i → 0 ≤ (z.shifts.getD (i.toNat - 1) TShift.z).at_ ∧ (z.shifts.getD (i.toNat - 1) TShift.z).at_ ≤ 4321439 := fun a => by
        have := shE_in (hr.2.2 (i.toNat - 1) (by omega))
        exact ⟨this.1, this.2.1⟩
      obtain ⟨hi, hS, hM, hE, hN⟩ := hr.use (by omega)
      have hw : 0 < i → i < z.shifts.length → IntKind.i64.wrap (i - 1) = i - 1 := fun a b => i64w (by omega) (by omega)
      simp only [go_sem, h.hP, List.cons_append, List.nil_append, Meets_e, Below_e, Prod.exists, exists_eq, exists_eq_left, exists_eq_left', exists_eq_right, exists_eq_right', exists_and_left, exists_and_right, Ob.arr.injEq, AV.own.injEq, AV.fv.injEq, zoneS_q, zoneS_p, zoneS_c, zoneS_f, inS_q, inS_p, inS_c, inS_f, TZone.row, TShift.len, TShift.get, TShift.rows_inj, Tryz.ntmps69, Nat.reduceEqDiff, reduceCtorEq, Nat.reduceMul, Nat.reduceAdd, Nat.reduceSub, Nat.reduceDiv, Nat.reduceMod, Nat.reduceLeDiff, Nat.reduceLT, Nat.reduceBNe, Nat.reduceBEq, reduceIte, Int.reduceLE, Int.reduceLT, Int.reduceToNat, Int.reduceNeg, Int.reduceAdd, Int.reduceSub, Int.reduceMul, Int.reduceEq]
      refine ⟨fun q => ?_, fun q => (hN q).symm⟩
      have hq : shE z.shifts i.toNat = if inB (z.shifts.getD i.toNat TShift.z).at_ 0 4321439 = false ∨ inB (z.shifts.getD i.toNat TShift.z).offset (-720) 840 = false then 1 else if i = 0 ∧ ¬ (z.shifts.getD i.toNat TShift.z).at_ = 0 then 3 else if 0 < i ∧ (z.shifts.getD i.toNat TShift.z).at_ < (z.shifts.getD (i.toNat - 1) TShift.z).at_ + 1800 then 7 else 0 := by
        unfold shE
        rw [Int.toNat_of_nonneg hi]
        congr 2
        rw [show (i.toNat = 0) = (i = 0) from propext ⟨fun _ => by omega, fun _ => by omega⟩]
      have A1 : (inB (z.shifts.getD i.toNat TShift.z).at_ 0 4321439 = false ∨ inB (z.shifts.getD i.toNat TShift.z).offset (-720) 840 = false) → 1 = firstI z.shifts.length (shE z.shifts) := fun a => (hE 1 q (hq.trans (if_pos a)) (by decide)).symm
      have no : inB (z.shifts.getD i.toNat TShift.z).at_ 0 4321439 = true → inB (z.shifts.getD i.toNat TShift.z).offset (-720) 840 = true → ¬ (inB (z.shifts.getD i.toNat TShift.z).at_ 0 4321439 = false ∨ inB (z.shifts.getD i.toNat TShift.z).offset (-720) 840 = false) := fun a b c => c.elim (ne_ft a) (ne_ft b)
      have A3 : inB (z.shifts.getD i.toNat TShift.z).at_ 0 4321439 = true → inB (z.shifts.getD i.toNat TShift.z).offset (-720) 840 = true → i = 0 → ¬ (z.shifts.getD i.toNat TShift.z).at_ = 0 → 3 = firstI z.shifts.length (shE z.shifts) := fun a b c d => (hE 3 q (hq.trans ((if_neg (no a b)).trans (if_pos ⟨c, d⟩))) (by decide)).symm
      have A7 : inB (z.shifts.getD i.toNat TShift.z).at_ 0 4321439 = true → inB (z.shifts.getD i.toNat TShift.z).offset (-720) 840 = true → 0 < i → (z.shifts.getD i.toNat TShift.z).at_ < IntKind.i64.wrap ((z.shifts.getD (IntKind.i64.wrap (i - 1)).toNat TShift.z).at_ + 1800) → 7 = firstI z.shifts.length (shE z.shifts) := fun a b c d => by
        rw [hw c q, show (i - 1).toNat = i.toNat - 1 by omega, i64w (by have := hP c; omega) (by have := hP c; omega)] at d
        exact (hE 7 q (hq.trans ((if_neg (no a b)).trans ((if_neg (by omega)).trans (if_pos ⟨c, d⟩)))) (by decide)).symm
      have A0 : inB (z.shifts.getD i.toNat TShift.z).at_ 0 4321439 = true → inB (z.shifts.getD i.toNat TShift.z).offset (-720) 840 = true → (i = 0 → (z.shifts.getD i.toNat TShift.z).at_ = 0) → (0 < i → ¬ (z.shifts.getD i.toNat TShift.z).at_ < IntKind.i64.wrap ((z.shifts.getD (IntKind.i64.wrap (i - 1)).toNat TShift.z).at_ + 1800)) → Rounds z.shifts.length (shE z.shifts) (IntKind.i64.wrap (i + 1)) ∧ ((z.shifts.length : Int) - IntKind.i64.wrap (i + 1)).toNat < ((z.shifts.length : Int) - i).toNat := fun a b c d => by
        refine ⟨hS q (hq.trans ((if_neg (no a b)).trans ((if_neg (fun e => e.2 (c e.1))).trans (if_neg ?_)))), hM q⟩
        rintro ⟨e1, e2⟩
        refine d e1 ?_
        rw [hw e1 q, show (i - 1).toNat = i.toNat - 1 by omega, i64w (by have := hP e1; omega) (by have := hP e1; omega)]
        exact e2
      have W : 0 < i → 0 ≤ IntKind.i64.wrap (i - 1) ∧ IntKind.i64.wrap (i - 1) < z.shifts.length := fun a => by rw [hw a q]; omega
      exact ⟨hi, q, fun a => ⟨fun b => A1 (.inr b), fun b => ⟨fun c => ⟨A3 a b c, fun d => ⟨fun e => ((by omega : False)).elim, fun e => A0 a b (fun _ => d) (fun e' => absurd e' e)⟩⟩, fun c => ⟨fun e => ⟨(W e).1, (W e).2, A7 a b e, fun f => A0 a b (fun c' => absurd c' c) (fun _ => f)⟩, fun e => ((by omega : False)).elim⟩⟩⟩, fun a => A1 (.inl a)⟩

end Go.Avc

namespace Go.Avc
open Go Go.Proofs

/-- a closure over nothing on bytes -/
def byteΦ (p : Int → Bool) : List (List D) → FSpec := csp F0 u8D fun _ c => p c
theorem byteΦ_h (p : Int → Bool) (c : Int) : (byteΦ p []).holds (.d (.int .u8 c)) = p c := csp_holds (g := fun _ c => p c) F0_inj u8D_inj () c
theorem byteΦ_d (p : Int → Bool) (c : Int) : (byteΦ p []).det (.d (.int .u8 c)) := csp_det (g := fun _ c => p c) F0_inj u8D_inj () c
theorem byteΦ_of {cx : Cx} {fn : FuncId} {p : Int → Bool} (h : Ctr cx fn (byteS p)) : ∀ caps, Ctr cx fn (clo (byteΦ p) caps) := clo_of (g := fun _ c => p c) (h.weaken (fun xs ⟨_, a, e⟩ => ⟨a, e⟩) (fun xs r ⟨_, a, e⟩ ⟨b, e2, e3⟩ => ⟨(), b, e2, e3⟩) (fun _ => Nat.le_refl _) rfl)
theorem isLabel1_ctr {cx : Cx} (h : Seat cx) : Ctr cx 204 (byteS labC) := by
  refine ctr_of (fn := Tryz.f204) (l := [.tmp 2]) (envL [(145, (byteS smallC)), (148, (byteS digitC))]) [0, 2] [] [] (envL_cons (small_ctr h) (envL_cons (digit_ctr h) (env0 h.hP))) ?_ (by rw [h.hP]; exact Tryz.func204) rfl (by kernel_rfl) rfl ?_ ?_
  · rw [h.hP]; exact ⟨_, Tryz.func204, by kernel_rfl, by kernel_rfl⟩
  · rintro xs ⟨c, rfl⟩; exact ⟨_, c, rfl, rfl⟩
  · rintro xs ⟨c, rfl⟩
    refine ⟨by rw [Tryz.ntmps204]; simp, ?_⟩
    simp only [go_sem, h.hP, byteS_q, byteS_p, byteS_c, byteS_f, Tryz.ntmps204, Nat.reduceEqDiff, reduceCtorEq, Nat.reduceMul, Nat.reduceAdd, Nat.reduceSub, Nat.reduceDiv, Nat.reduceMod, Nat.reduceLeDiff, Nat.reduceLT, Nat.reduceBNe, Nat.reduceBEq, reduceIte, Int.reduceLE, Int.reduceLT, Int.reduceToNat, Int.reduceNeg, Int.reduceAdd, Int.reduceSub, Int.reduceMul, Int.reduceEq]
    grind [labC]
theorem isMail1_ctr {cx : Cx} (h : Seat cx) : Ctr cx 171 (byteS locC) := by
  refine ctr_of (fn := Tryz.f171) (l := [.tmp 2]) (envL [(145, (byteS smallC)), (148, (byteS digitC))]) [0, 2] [] [] (envL_cons (small_ctr h) (envL_cons (digit_ctr h) (env0 h.hP))) ?_ (by rw [h.hP]; exact Tryz.func171) rfl (by kernel_rfl) rfl ?_ ?_
  · rw [h.hP]; exact ⟨_, Tryz.func171, by kernel_rfl, by kernel_rfl⟩
  · rintro xs ⟨c, rfl⟩; exact ⟨_, c, rfl, rfl⟩
  · rintro xs ⟨c, rfl⟩
    refine ⟨by rw [Tryz.ntmps171]; simp, ?_⟩
    simp only [go_sem, h.hP, byteS_q, byteS_p, byteS_c, byteS_f, Tryz.ntmps171, Nat.reduceEqDiff, reduceCtorEq, Nat.reduceMul, Nat.reduceAdd, Nat.reduceSub, Nat.reduceDiv, Nat.reduceMod, Nat.reduceLeDiff, Nat.reduceLT, Nat.reduceBNe, Nat.reduceBEq, reduceIte, Int.reduceLE, Int.reduceLT, Int.reduceToNat, Int.reduceNeg, Int.reduceAdd, Int.reduceSub, Int.reduceMul, Int.reduceEq]
    grind [locC]
theorem capital_ctr {cx : Cx} (h : Seat cx) : Ctr cx 174 (byteS capitalC) := by
  refine ctr_of (fn := Tryz.f174) (l := [.tmp 2]) (envL []) [0, 2] [] [] (env0 h.hP) ?_ (by rw [h.hP]; exact Tryz.func174) rfl (by kernel_rfl) rfl ?_ ?_
  · rw [h.hP]; exact ⟨_, Tryz.func174, by kernel_rfl, by kernel_rfl⟩
  · rintro xs ⟨c, rfl⟩; exact ⟨_, c, rfl, rfl⟩
  · rintro xs ⟨c, rfl⟩
    refine ⟨by rw [Tryz.ntmps174]; simp, ?_⟩
    simp only [go_sem, h.hP, byteS_q, byteS_p, byteS_c, byteS_f, Tryz.ntmps174, Nat.reduceEqDiff, reduceCtorEq, Nat.reduceMul, Nat.reduceAdd, Nat.reduceSub, Nat.reduceDiv, Nat.reduceMod, Nat.reduceLeDiff, Nat.reduceLT, Nat.reduceBNe, Nat.reduceBEq, reduceIte, Int.reduceLE, Int.reduceLT, Int.reduceToNat, Int.reduceNeg, Int.reduceAdd, Int.reduceSub, Int.reduceMul, Int.reduceEq]
    unfold capitalC
    exact ⟨fun c => by simp [c], fun c => by simp [c]⟩
theorem isMember1_ctr {cx : Cx} (h : Seat cx) : Ctr cx 173 (byteS memC) := by
  refine ctr_of (fn := Tryz.f173) (l := [.tmp 2]) (envL [(174, (byteS capitalC)), (148, (byteS digitC))]) [0, 2] [] [] (envL_cons (capital_ctr h) (envL_cons (digit_ctr h) (env0 h.hP))) ?_ (by rw [h.hP]; exact Tryz.func173) rfl (by kernel_rfl) rfl ?_ ?_
  · rw [h.hP]; exact ⟨_, Tryz.func173, by kernel_rfl, by kernel_rfl⟩
  · rintro xs ⟨c, rfl⟩; exact ⟨_, c, rfl, rfl⟩
  · rintro xs ⟨c, rfl⟩
    refine ⟨by rw [Tryz.ntmps173]; simp, ?_⟩
    simp only [go_sem, h.hP, byteS_q, byteS_p, byteS_c, byteS_f, Tryz.ntmps173, Nat.reduceEqDiff, reduceCtorEq, Nat.reduceMul, Nat.reduceAdd, Nat.reduceSub, Nat.reduceDiv, Nat.reduceMod, Nat.reduceLeDiff, Nat.reduceLT, Nat.reduceBNe, Nat.reduceBEq, reduceIte, Int.reduceLE, Int.reduceLT, Int.reduceToNat, Int.reduceNeg, Int.reduceAdd, Int.reduceSub, Int.reduceMul, Int.reduceEq]
    grind [memC]
theorem isDevice1_ctr {cx : Cx} (h : Seat cx) : Ctr cx 175 (byteS hexC) := by
  refine ctr_of (fn := Tryz.f175) (l := [.tmp 2]) (envL [(148, (byteS digitC))]) [0, 2] [] [] (envL_cons (digit_ctr h) (env0 h.hP)) ?_ (by rw [h.hP]; exact Tryz.func175) rfl (by kernel_rfl) rfl ?_ ?_
  · rw [h.hP]; exact ⟨_, Tryz.func175, by kernel_rfl, by kernel_rfl⟩
  · rintro xs ⟨c, rfl⟩; exact ⟨_, c, rfl, rfl⟩
  · rintro xs ⟨c, rfl⟩
    refine ⟨by rw [Tryz.ntmps175]; simp, ?_⟩
    simp only [go_sem, h.hP, byteS_q, byteS_p, byteS_c, byteS_f, Tryz.ntmps175, Nat.reduceEqDiff, reduceCtorEq, Nat.reduceMul, Nat.reduceAdd, Nat.reduceSub, Nat.reduceDiv, Nat.reduceMod, Nat.reduceLeDiff, Nat.reduceLT, Nat.reduceBNe, Nat.reduceBEq, reduceIte, Int.reduceLE, Int.reduceLT, Int.reduceToNat, Int.reduceNeg, Int.reduceAdd, Int.reduceSub, Int.reduceMul, Int.reduceEq]
    grind [hexC]
def strB4 (p : ByteArray → Bool) : Spec where
  pre xs := ∃ (s : ByteArray), xs = [.str s] ∧ (s.size ≤ 4000000000)
  post xs y := ∃ (s : ByteArray), xs = [.str s] ∧ y = .b (p s)
  cost _ := 0
  fresh := true
theorem strB4_c (p : ByteArray → Bool) (xs : List AV) : (strB4 p).cost xs = 0 := nr rfl
theorem strB4_f (p : ByteArray → Bool) : (strB4 p).fresh = true := nr rfl
theorem strB4_q (p : ByteArray → Bool) (s : ByteArray) : (strB4 p).pre [.str s] = (s.size ≤ 4000000000) := propext ⟨fun h => by
  have h' : ∃ (s' : ByteArray), ([.str s] : List AV) = [.str s'] ∧ (s'.size ≤ 4000000000) := h
  obtain ⟨s', e, h⟩ := h'
  simp only [List.cons.injEq, AV.dv.injEq, AV.dp.injEq, AV.fv.injEq, DV.d.injEq, DV.ag.injEq, D.int.injEq, D.str.injEq, D.bool.injEq, D.sl.injEq, true_and, and_true, intsDi_inj, rowsT_inj, rowsKi_inj] at e
  obtain rfl := e
  exact h, fun h => ⟨s, rfl, h⟩⟩
theorem strB4_p (p : ByteArray → Bool) (s : ByteArray) : (strB4 p).post [.str s] = fun y => y = .b (p s) := funext fun y => propext ⟨fun h => by
  have h' : ∃ (s' : ByteArray), ([.str s] : List AV) = [.str s'] ∧ y = .b (p s') := h
  obtain ⟨s', e, h⟩ := h'
  simp only [List.cons.injEq, AV.dv.injEq, AV.dp.injEq, AV.fv.injEq, DV.d.injEq, DV.ag.injEq, D.int.injEq, D.str.injEq, D.bool.injEq, D.sl.injEq, true_and, and_true, intsDi_inj, rowsT_inj, rowsKi_inj] at e
  obtain rfl := e
  exact h, fun h => ⟨s, rfl, h⟩⟩
theorem isLabel_ctr {cx : Cx} (h : Seat cx) : Ctr cx 172 (strB4 labelB) := by
  refine ctr_of (fn := Tryz.f172) (l := [.tmp 2]) (envF [(144, inS), (146, allS)] [(204, (byteΦ labC))]) [0, 2] [] [] (envF_cons (byteΦ_of (isLabel1_ctr h)) (envF_nil (envL_cons (pwithin_ctr h) (envL_cons (all_ctr h) (env0 h.hP))))) ?_ (by rw [h.hP]; exact Tryz.func172) rfl (by kernel_rfl) rfl ?_ ?_
  · rw [h.hP]; exact ⟨_, Tryz.func172, by kernel_rfl, by kernel_rfl⟩
  · rintro xs ⟨s, rfl, hs⟩; exact ⟨_, s, rfl, rfl⟩
  · rintro xs ⟨s, rfl, hs⟩
    refine ⟨by rw [Tryz.ntmps172]; simp, ?_⟩
    simp only [go_sem, h.hP, List.cons_append, List.nil_append, Meets_e, Below_e, Prod.exists, exists_eq, exists_eq_left, exists_eq_left', exists_eq_right, exists_eq_right', exists_and_left, exists_and_right, Ob.arr.injEq, AV.own.injEq, AV.fv.injEq, strB4_q, strB4_p, strB4_c, strB4_f, inS_q, inS_p, inS_c, inS_f, allS, byteΦ_h, byteΦ_d, Tryz.ntmps172, Nat.reduceEqDiff, reduceCtorEq, Nat.reduceMul, Nat.reduceAdd, Nat.reduceSub, Nat.reduceDiv, Nat.reduceMod, Nat.reduceLeDiff, Nat.reduceLT, Nat.reduceBNe, Nat.reduceBEq, reduceIte, Int.reduceLE, Int.reduceLT, Int.reduceToNat, Int.reduceNeg, Int.reduceAdd, Int.reduceSub, Int.reduceMul, Int.reduceEq]
    unfold labelB
    refine ⟨fun c => ?_, fun c => by simp [c]⟩
    have e1 := inB_iff.1 c
    rw [i64w (n := (s.size : Int) - 1) (by omega) (by omega)]
    refine ⟨by omega, fun c1 => ⟨by omega, by omega, fun c2 => ⟨by omega, by simp [c, c1, c2]⟩, fun c2 => by simp [c2]⟩, fun c1 => by simp [c1]⟩
theorem isPhone_ctr {cx : Cx} (h : Seat cx) : Ctr cx 128 (strB4 phoneB) := by
  refine ctr_of (fn := Tryz.f128) (l := [.tmp 2]) (envF [(144, inS), (146, allS), (166, preSp)] [(148, (byteΦ digitC))]) [0, 2] [] [] (envF_cons (byteΦ_of (digit_ctr h)) (envF_nil (envL_cons (pwithin_ctr h) (envL_cons (all_ctr h) (envL_cons (hasPrefix_ctr h) (env0 h.hP)))))) ?_ (by rw [h.hP]; exact Tryz.func128) rfl (by kernel_rfl) rfl ?_ ?_
  · rw [h.hP]; exact ⟨_, Tryz.func128, by kernel_rfl, by kernel_rfl⟩
  · rintro xs ⟨s, rfl, hs⟩; exact ⟨_, s, rfl, rfl⟩
  · rintro xs ⟨s, rfl, hs⟩
    refine ⟨by rw [Tryz.ntmps128]; simp, ?_⟩
    simp only [go_sem, h.hP, List.cons_append, List.nil_append, Meets_e, Below_e, Prod.exists, exists_eq, exists_eq_left, exists_eq_left', exists_eq_right, exists_eq_right', exists_and_left, exists_and_right, Ob.arr.injEq, AV.own.injEq, AV.fv.injEq, strB4_q, strB4_p, strB4_c, strB4_f, inS_q, inS_p, inS_c, inS_f, preSp_q, preSp_p, preSp_c, preSp_f, allS, byteΦ_h, byteΦ_d, Tryz.ntmps128, Nat.reduceEqDiff, reduceCtorEq, Nat.reduceMul, Nat.reduceAdd, Nat.reduceSub, Nat.reduceDiv, Nat.reduceMod, Nat.reduceLeDiff, Nat.reduceLT, Nat.reduceBNe, Nat.reduceBEq, reduceIte, Int.reduceLE, Int.reduceLT, Int.reduceToNat, Int.reduceNeg, Int.reduceAdd, Int.reduceSub, Int.reduceMul, Int.reduceEq]
    unfold phoneB
    refine ⟨fun c0 => ⟨fun c => ?_, fun c => by simp [c]⟩, fun c0 => by simp [plusS, c0]⟩
    have e1 := inB_iff.1 c
    refine ⟨by omega, by omega, by rw [ByteArray.size_extract]; omega, fun c1 => ⟨by omega, ?_⟩, fun c1 => by simp [c1]⟩
    simp only [plusS, c0, c, c1, Bool.true_and]
    grind
theorem isMember_ctr {cx : Cx} (h : Seat cx) : Ctr cx 129 (strB4 memberB) := by
  refine ctr_of (fn := Tryz.f129) (l := [.tmp 2]) (envF [(144, inS), (146, allS)] [(173, (byteΦ memC))]) [0, 2] [] [] (envF_cons (byteΦ_of (isMember1_ctr h)) (envF_nil (envL_cons (pwithin_ctr h) (envL_cons (all_ctr h) (env0 h.hP))))) ?_ (by rw [h.hP]; exact Tryz.func129) rfl (by kernel_rfl) rfl ?_ ?_
  · rw [h.hP]; exact ⟨_, Tryz.func129, by kernel_rfl, by kernel_rfl⟩
  · rintro xs ⟨s, rfl, hs⟩; exact ⟨_, s, rfl, rfl⟩
  · rintro xs ⟨s, rfl, hs⟩
    refine ⟨by rw [Tryz.ntmps129]; simp, ?_⟩
    simp only [go_sem, h.hP, List.cons_append, List.nil_append, Meets_e, Below_e, Prod.exists, exists_eq, exists_eq_left, exists_eq_left', exists_eq_right, exists_eq_right', exists_and_left, exists_and_right, Ob.arr.injEq, AV.own.injEq, AV.fv.injEq, strB4_q, strB4_p, strB4_c, strB4_f, inS_q, inS_p, inS_c, inS_f, allS, byteΦ_h, byteΦ_d, Tryz.ntmps129, Nat.reduceEqDiff, reduceCtorEq, Nat.reduceMul, Nat.reduceAdd, Nat.reduceSub, Nat.reduceDiv, Nat.reduceMod, Nat.reduceLeDiff, Nat.reduceLT, Nat.reduceBNe, Nat.reduceBEq, reduceIte, Int.reduceLE, Int.reduceLT, Int.reduceToNat, Int.reduceNeg, Int.reduceAdd, Int.reduceSub, Int.reduceMul, Int.reduceEq]
    unfold memberB
    exact ⟨fun c => ⟨by omega, by simp [c]⟩, fun c => by simp [c]⟩
theorem isDevice_ctr {cx : Cx} (h : Seat cx) : Ctr cx 130 (strB4 deviceB) := by
  refine ctr_of (fn := Tryz.f130) (l := [.tmp 2]) (envF [(144, inS), (146, allS)] [(175, (byteΦ hexC))]) [0, 2] [] [] (envF_cons (byteΦ_of (isDevice1_ctr h)) (envF_nil (envL_cons (pwithin_ctr h) (envL_cons (all_ctr h) (env0 h.hP))))) ?_ (by rw [h.hP]; exact Tryz.func130) rfl (by kernel_rfl) rfl ?_ ?_
  · rw [h.hP]; exact ⟨_, Tryz.func130, by kernel_rfl, by kernel_rfl⟩
  · rintro xs ⟨s, rfl, hs⟩; exact ⟨_, s, rfl, rfl⟩
  · rintro xs ⟨s, rfl, hs⟩
    refine ⟨by rw [Tryz.ntmps130]; simp, ?_⟩
    simp only [go_sem, h.hP, List.cons_append, List.nil_append, Meets_e, Below_e, Prod.exists, exists_eq, exists_eq_left, exists_eq_left', exists_eq_right, exists_eq_right', exists_and_left, exists_and_right, Ob.arr.injEq, AV.own.injEq, AV.fv.injEq, strB4_q, strB4_p, strB4_c, strB4_f, inS_q, inS_p, inS_c, inS_f, allS, byteΦ_h, byteΦ_d, Tryz.ntmps130, Nat.reduceEqDiff, reduceCtorEq, Nat.reduceMul, Nat.reduceAdd, Nat.reduceSub, Nat.reduceDiv, Nat.reduceMod, Nat.reduceLeDiff, Nat.reduceLT, Nat.reduceBNe, Nat.reduceBEq, reduceIte, Int.reduceLE, Int.reduceLT, Int.reduceToNat, Int.reduceNeg, Int.reduceAdd, Int.reduceSub, Int.reduceMul, Int.reduceEq]
    unfold deviceB
    exact ⟨fun c => ⟨by omega, by simp [c]⟩, fun c => by simp [c]⟩
theorem isMail_ctr {cx : Cx} (h : Seat cx) (hM : MaxL cx) : Ctr cx 127 (strB4 mailB) := by
  refine ctr_of (fn := Tryz.f127) (l := [.tmp 2]) (envF [(80, cutSp), (144, inS), (84, conSp), (146, allS), (81, splitSp), (172, (strB4 labelB))] [(171, (byteΦ locC))]) [0, 2, 3, 4, 5, 6, 8, 44, 47, 50, 51, 52, 53, 58] [] [] (envF_cons (byteΦ_of (isMail1_ctr h)) (envF_nil (envL_cons (cut_ctr h hM) (envL_cons (pwithin_ctr h) (envL_cons (contains_ctr h hM) (envL_cons (all_ctr h) (envL_cons (split_ctr h hM) (envL_cons (isLabel_ctr h) (env0 h.hP))))))))) ?_ (by rw [h.hP]; exact Tryz.func127) rfl (by kernel_rfl) rfl ?_ ?_
  · rw [h.hP]; exact ⟨_, Tryz.func127, by kernel_rfl, by kernel_rfl⟩
  · rintro xs ⟨s, rfl, hs⟩; exact ⟨_, s, rfl, rfl⟩
  · rintro xs ⟨s, rfl, hs⟩
    refine ⟨by rw [Tryz.ntmps127]; simp, ?_⟩
    simp only [go_sem, h.hP, List.cons_append, List.nil_append, Meets_e, Below_e, Prod.exists, exists_eq, exists_eq_left, exists_eq_left', exists_eq_right, exists_eq_right', exists_and_left, exists_and_right, Ob.arr.injEq, AV.own.injEq, AV.fv.injEq, strB4_q, strB4_p, strB4_c, strB4_f, inS_q, inS_p, inS_c, inS_f, cutSp_q, cutSp_p, cutSp_c, cutSp_f, conSp_q, conSp_p, conSp_c, conSp_f, splitSp_q, splitSp_p, splitSp_c, splitSp_f, allS, byteΦ_h, byteΦ_d, Tryz.ntmps127, Nat.reduceEqDiff, reduceCtorEq, Nat.reduceMul, Nat.reduceAdd, Nat.reduceSub, Nat.reduceDiv, Nat.reduceMod, Nat.reduceLeDiff, Nat.reduceLT, Nat.reduceBNe, Nat.reduceBEq, reduceIte, Int.reduceLE, Int.reduceLT, Int.reduceToNat, Int.reduceNeg, Int.reduceAdd, Int.reduceSub, Int.reduceMul, Int.reduceEq]
    have hL := cutL_size s ⟨#[64]⟩
    have hR := cutR_size s ⟨#[64]⟩
    have hD : mailB s = (cutB s ⟨#[64]⟩ && decide ((s.size : Int) ≤ 80) && localB (cutL s ⟨#[64]⟩) && (splitS (cutR s ⟨#[64]⟩) ⟨#[46]⟩).all labelB && decide (2 ≤ (splitS (cutR s ⟨#[64]⟩) ⟨#[46]⟩).length)) := rfl
    generalize mailB s = R at hD
    generalize cutL s ⟨#[64]⟩ = a at *
    generalize cutR s ⟨#[64]⟩ = b at *
    have hA : localB a = (inB a.size 1 64 && decide (bt a 0 ≠ 46) && decide (bt a ((a.size : Int) - 1) ≠ 46) && !conS a ⟨#[46, 46]⟩ && (bl a).all locC) := rfl
    refine ⟨hs, fun c1 => ⟨fun c2 => ⟨fun c3 => ?_, fun c3 => by rw [hD, hA]; simp [c3]⟩, fun c2 => by rw [hD]; simp; omega⟩, fun c1 => by rw [hD]; simp [c1]⟩
    have e3 := inB_iff.1 c3
    rw [i64w (n := (a.size : Int) - 1) (by omega) (by omega)]
    refine ⟨by omega, fun c4 => ⟨by omega, by omega, fun c5 => ⟨by omega, fun c6 => by rw [hD, hA]; simp [c6], fun c6 => ⟨by omega, fun c7 => by rw [hD, hA]; simp [show (bl a).all locC = false from c7], fun c7 => ⟨by omega, ?_⟩⟩⟩, fun c5 => by rw [hD, hA]; simp [c5]⟩, fun c4 => by rw [hD, hA]; simp [c4]⟩
    have hl : localB a = true := by rw [hA]; simp [c3, c4, c5, c6, show (bl a).all locC = true from c7]
    have hle := splitS_le (s := b) (p := ⟨#[46]⟩) (by decide)
    have hsz := splitS_get b ⟨#[46]⟩
    rw [c1, hl, decide_eq_true (show (s.size : Int) ≤ 80 by omega)] at hD
    generalize splitS b ⟨#[46]⟩ = l at *
    refine vc_loopS (Int) (fun (i : Int) => [(52, .i i)]) [] (fun (i : Int) => []) (fun (i : Int) => []) (fun (i : Int) => 0) (fun (i : Int) => 0 ≤ i ∧ i ≤ l.length ∧ ∀ j : Nat, (j : Int) < i → labelB (l.getD j ⟨#[]⟩) = true) (fun (i : Int) => (l.length - i).toNat) [] ?_ ?_
    · simp only [go_sem, h.hP, List.cons_append, List.nil_append, Meets_e, Below_e, Prod.exists, exists_eq, exists_eq_left, exists_eq_left', exists_eq_right, exists_eq_right', exists_and_left, exists_and_right, Ob.arr.injEq, AV.own.injEq, AV.fv.injEq, rowsT_len, Tryz.ntmps127, Nat.reduceEqDiff, reduceCtorEq, Nat.reduceMul, Nat.reduceAdd, Nat.reduceSub, Nat.reduceDiv, Nat.reduceMod, Nat.reduceLeDiff, Nat.reduceLT, Nat.reduceBNe, Nat.reduceBEq, reduceIte, Int.reduceLE, Int.reduceLT, Int.reduceToNat, Int.reduceNeg, Int.reduceAdd, Int.reduceSub, Int.reduceMul, Int.reduceEq]
      exact ⟨by omega, fun j hj => by omega⟩
    · rintro i ⟨j1, j2, j3⟩
      simp only [go_sem, h.hP, List.cons_append, List.nil_append, Meets_e, Below_e, Prod.exists, exists_eq, exists_eq_left, exists_eq_left', exists_eq_right, exists_eq_right', exists_and_left, exists_and_right, Ob.arr.injEq, AV.own.injEq, AV.fv.injEq, strB4_q, strB4_p, strB4_c, strB4_f, rowsT_len, rowsT_get, Tryz.ntmps127, Nat.reduceEqDiff, reduceCtorEq, Nat.reduceMul, Nat.reduceAdd, Nat.reduceSub, Nat.reduceDiv, Nat.reduceMod, Nat.reduceLeDiff, Nat.reduceLT, Nat.reduceBNe, Nat.reduceBEq, reduceIte, Int.reduceLE, Int.reduceLT, Int.reduceToNat, Int.reduceNeg, Int.reduceAdd, Int.reduceSub, Int.reduceMul, Int.reduceEq]
      refine ⟨fun q => ?_, fun q => ?_⟩
      · have := hsz i.toNat
        refine ⟨j1, q, by omega, fun d => ?_, fun d => ?_⟩
        · have := all_no (p := labelB) (show i.toNat < l.length by omega) d
          rw [hD, this]; simp
        · rw [i64w (n := i + 1) (by omega) (by omega)]
          refine ⟨by omega, by omega, fun j hj => ?_, by omega⟩
          by_cases e : (j : Int) = i
          · have : i.toNat = j := by omega
            rw [← this]; exact d
          · exact j3 j (by omega)
      · have := all_yes (p := labelB) ⟨#[]⟩ fun j hj => j3 j (by omega)
        rw [hD, this]
        simp only [Bool.true_and]
        exact decide_eq_decide.2 (by omega)
end Go.Avc

namespace Go.Avc
open Go Go.Proofs

def validB (s : ByteArray) : Bool := Lib.validD s.data.toList
def validSp  : Spec where
  pre xs := ∃ (s : ByteArray), xs = [.str s] ∧ (s.size ≤ 4611686018427387904)
  post xs y := ∃ (s : ByteArray), xs = [.str s] ∧ y = .b (validB s)
  cost _ := 0
  fresh := true
theorem validSp_c  (xs : List AV) : (validSp).cost xs = 0 := nr rfl
theorem validSp_f  : (validSp).fresh = true := nr rfl
theorem validSp_q  (s : ByteArray) : (validSp).pre [.str s] = (s.size ≤ 4611686018427387904) := propext ⟨fun h => by
  have h' : ∃ (s' : ByteArray), ([.str s] : List AV) = [.str s'] ∧ (s'.size ≤ 4611686018427387904) := h
  obtain ⟨s', e, h⟩ := h'
  simp only [List.cons.injEq, AV.dv.injEq, AV.dp.injEq, AV.fv.injEq, DV.d.injEq, DV.ag.injEq, D.int.injEq, D.str.injEq, D.bool.injEq, D.sl.injEq, true_and, and_true, intsDi_inj, rowsT_inj, rowsKi_inj] at e
  obtain rfl := e
  exact h, fun h => ⟨s, rfl, h⟩⟩
theorem validSp_p  (s : ByteArray) : (validSp).post [.str s] = fun y => y = .b (validB s) := funext fun y => propext ⟨fun h => by
  have h' : ∃ (s' : ByteArray), ([.str s] : List AV) = [.str s'] ∧ y = .b (validB s') := h
  obtain ⟨s', e, h⟩ := h'
  simp only [List.cons.injEq, AV.dv.injEq, AV.dp.injEq, AV.fv.injEq, DV.d.injEq, DV.ag.injEq, D.int.injEq, D.str.injEq, D.bool.injEq, D.sl.injEq, true_and, and_true, intsDi_inj, rowsT_inj, rowsKi_inj] at e
  obtain rfl := e
  exact h, fun h => ⟨s, rfl, h⟩⟩
theorem valid_ctr {cx : Cx} (h : Seat cx) (hU : Utf8 cx) : Ctr cx 227 validSp := by
  refine ctr_flat (by rw [h.hP]; exact ⟨_, Tryz.func227, by kernel_rfl, by kernel_rfl⟩) (fun _ => rfl) ?_
  rintro xs ⟨s, rfl, h1⟩
  refine ⟨_, _, _, rfl, ⟨s, rfl, rfl⟩, rfl, fun w hw => ?_⟩
  rw [h.hP]
  exact Tryz.utf8_ValidString s w (by omega) (hU w hw)
/-- the text of a value -/
def textF (s : ByteArray) : Int := if 200 < (s.size : Int) then 2 else if (pts s).any badPt = true then 3 else 0
def txtC (c : Int) : Bool := decide (32 ≤ c) && decide (c ≠ 127)
def txtΦ : List (List D) → FSpec := csp F0 u8D fun _ c => txtC c
theorem txtΦ_h (c : Int) : (txtΦ []).holds (.d (.int .u8 c)) = txtC c := csp_holds F0_inj u8D_inj () c
theorem txtΦ_d (c : Int) : (txtΦ []).det (.d (.int .u8 c)) := csp_det F0_inj u8D_inj () c
theorem txt_all (s : ByteArray) : ((bl s).all fun c => txtC c) = s.data.toList.all byteOk := by
  rw [bl_all]
  refine congrArg (fun p => s.data.toList.all p) (funext fun c => ?_)
  unfold txtC byteOk
  rw [Bool.eq_iff_iff]
  simp only [Bool.and_eq_true, decide_eq_true_eq]
  omega
theorem checkText1_ctr {cx : Cx} (h : Seat cx) : Ctr cx 228 (cloS F0 u8D fun _ c => txtC c) := by
  refine ctr_of (fn := Tryz.f228) (l := [.tmp 2]) (envL []) [0, 2] [] [] (env0 h.hP) ?_ (by rw [h.hP]; exact Tryz.func228) rfl (by kernel_rfl) rfl ?_ ?_
  · rw [h.hP]; exact ⟨_, Tryz.func228, by kernel_rfl, by kernel_rfl⟩
  · rintro xs ⟨c, a, rfl⟩; exact ⟨_, c, a, rfl, rfl⟩
  · rintro xs ⟨c, a, rfl⟩
    refine ⟨by rw [Tryz.ntmps228]; simp [F0], ?_⟩
    simp only [go_sem, h.hP, List.cons_append, List.nil_append, Meets_e, Below_e, Prod.exists, exists_eq, exists_eq_left, exists_eq_left', exists_eq_right, exists_eq_right', exists_and_left, exists_and_right, Ob.arr.injEq, AV.own.injEq, AV.fv.injEq, F0, u8D, cloS, Tryz.ntmps228, Nat.reduceEqDiff, reduceCtorEq, Nat.reduceMul, Nat.reduceAdd, Nat.reduceSub, Nat.reduceDiv, Nat.reduceMod, Nat.reduceLeDiff, Nat.reduceLT, Nat.reduceBNe, Nat.reduceBEq, reduceIte, Int.reduceLE, Int.reduceLT, Int.reduceToNat, Int.reduceNeg, Int.reduceAdd, Int.reduceSub, Int.reduceMul, Int.reduceEq]
    grind [txtC]
def textS  : Spec where
  pre xs := ∃ (s : ByteArray), xs = [.str s] ∧ (s.size ≤ 4611686018427387904)
  post xs y := ∃ (s : ByteArray), xs = [.str s] ∧ y = .i (textF s)
  cost _ := 0
  fresh := true
theorem textS_c  (xs : List AV) : (textS).cost xs = 0 := nr rfl
theorem textS_f  : (textS).fresh = true := nr rfl
theorem textS_q  (s : ByteArray) : (textS).pre [.str s] = (s.size ≤ 4611686018427387904) := propext ⟨fun h => by
  have h' : ∃ (s' : ByteArray), ([.str s] : List AV) = [.str s'] ∧ (s'.size ≤ 4611686018427387904) := h
  obtain ⟨s', e, h⟩ := h'
  simp only [List.cons.injEq, AV.dv.injEq, AV.dp.injEq, AV.fv.injEq, DV.d.injEq, DV.ag.injEq, D.int.injEq, D.str.injEq, D.bool.injEq, D.sl.injEq, true_and, and_true, intsDi_inj, rowsT_inj, rowsKi_inj] at e
  obtain rfl := e
  exact h, fun h => ⟨s, rfl, h⟩⟩
theorem textS_p  (s : ByteArray) : (textS).post [.str s] = fun y => y = .i (textF s) := funext fun y => propext ⟨fun h => by
  have h' : ∃ (s' : ByteArray), ([.str s] : List AV) = [.str s'] ∧ y = .i (textF s') := h
  obtain ⟨s', e, h⟩ := h'
  simp only [List.cons.injEq, AV.dv.injEq, AV.dp.injEq, AV.fv.injEq, DV.d.injEq, DV.ag.injEq, D.int.injEq, D.str.injEq, D.bool.injEq, D.sl.injEq, true_and, and_true, intsDi_inj, rowsT_inj, rowsKi_inj] at e
  obtain rfl := e
  exact h, fun h => ⟨s, rfl, h⟩⟩
theorem checkText_ctr {cx : Cx} (h : Seat cx) (hU : Utf8 cx) : Ctr cx 198 textS := by
  refine ctr_of (fn := Tryz.f198) (l := [.tmp 2]) (envF [(227, validSp), (146, allS)] [(228, txtΦ)]) [0, 2, 5, 13] [] [] (envF_cons (clo_of (checkText1_ctr h)) (envF_nil (envL_cons (valid_ctr h hU) (envL_cons (all_ctr h) (env0 h.hP))))) ?_ (by rw [h.hP]; exact Tryz.func198) rfl (by kernel_rfl) rfl ?_ ?_
  · rw [h.hP]; exact ⟨_, Tryz.func198, by kernel_rfl, by kernel_rfl⟩
  · rintro xs ⟨s, rfl, h1⟩; exact ⟨_, s, rfl, rfl⟩
  · rintro xs ⟨s, rfl, h1⟩
    refine ⟨by rw [Tryz.ntmps198]; simp, ?_⟩
    simp only [go_sem, h.hP, List.cons_append, List.nil_append, Meets_e, Below_e, Prod.exists, exists_eq, exists_eq_left, exists_eq_left', exists_eq_right, exists_eq_right', exists_and_left, exists_and_right, Ob.arr.injEq, AV.own.injEq, AV.fv.injEq, textS_q, textS_p, textS_c, textS_f, validSp_q, validSp_p, validSp_c, validSp_f, allS, txtΦ_h, txtΦ_d, txt_all, Tryz.ntmps198, Nat.reduceEqDiff, reduceCtorEq, Nat.reduceMul, Nat.reduceAdd, Nat.reduceSub, Nat.reduceDiv, Nat.reduceMod, Nat.reduceLeDiff, Nat.reduceLT, Nat.reduceBNe, Nat.reduceBEq, reduceIte, Int.reduceLE, Int.reduceLT, Int.reduceToNat, Int.reduceNeg, Int.reduceAdd, Int.reduceSub, Int.reduceMul, Int.reduceEq]
    have ht := text_pts s
    unfold textF validB
    generalize Lib.validD s.data.toList = v at ht ⊢
    generalize s.data.toList.all byteOk = q at ht ⊢
    generalize (pts s).any badPt = z at ht ⊢
    refine ⟨fun c => (if_pos c).symm, fun c => ⟨h1, fun c1 => ⟨h1, fun c2 => ?_, fun c2 => ?_⟩, fun c1 => ?_⟩⟩
    all_goals rw [if_neg c]
    · subst c1 c2
      cases z with
      | true => rfl
      | false => cases ht
    · subst c1 c2
      cases z with
      | true => cases ht
      | false => rfl
    · subst c1
      cases z with
      | true => rfl
      | false => cases ht
/-- a value -/
def lowV (k : Int) : Int := if k = 2 then -1000000000000 else 0
def highV (k : Int) : Int := if k = 2 then 1000000000000 else if k = 3 then 1 else 4321439
def valF (v : TValue) : Int := if inB v.kind 1 4 = false then 4 else if v.kind = 1 then (if v.number ≠ 0 then 3 else textF v.text) else if v.text.size ≠ 0 then 3 else if inB v.number (lowV v.kind) (highV v.kind) = false then 1 else 0
def valS  : Spec where
  pre xs := ∃ (v : TValue), xs = [.dv (.ag v.row)] ∧ (v.ok)
  post xs y := ∃ (v : TValue), xs = [.dv (.ag v.row)] ∧ y = .i (valF v)
  cost _ := 0
  fresh := true
theorem valS_c  (xs : List AV) : (valS).cost xs = 0 := nr rfl
theorem valS_f  : (valS).fresh = true := nr rfl
theorem valS_q  (v : TValue) : (valS).pre [.dv (.ag [.int .i64 v.kind, .str v.text, .int .i64 v.number])] = (v.ok) := propext ⟨fun h => by
  have h' : ∃ (v' : TValue), ([.dv (.ag v.row)] : List AV) = [.dv (.ag v'.row)] ∧ (v'.ok) := h
  obtain ⟨v', e, h⟩ := h'
  simp only [List.cons.injEq, AV.dv.injEq, AV.dp.injEq, AV.fv.injEq, DV.d.injEq, DV.ag.injEq, D.int.injEq, D.str.injEq, D.bool.injEq, D.sl.injEq, true_and, and_true, intsDi_inj, rowsT_inj, rowsKi_inj, TValue.row_inj, TValue.rows_inj] at e
  obtain rfl := e
  exact h, fun h => ⟨v, rfl, h⟩⟩
theorem valS_p  (v : TValue) : (valS).post [.dv (.ag [.int .i64 v.kind, .str v.text, .int .i64 v.number])] = fun y => y = .i (valF v) := funext fun y => propext ⟨fun h => by
  have h' : ∃ (v' : TValue), ([.dv (.ag v.row)] : List AV) = [.dv (.ag v'.row)] ∧ y = .i (valF v') := h
  obtain ⟨v', e, h⟩ := h'
  simp only [List.cons.injEq, AV.dv.injEq, AV.dp.injEq, AV.fv.injEq, DV.d.injEq, DV.ag.injEq, D.int.injEq, D.str.injEq, D.bool.injEq, D.sl.injEq, true_and, and_true, intsDi_inj, rowsT_inj, rowsKi_inj, TValue.row_inj, TValue.rows_inj] at e
  obtain rfl := e
  exact h, fun h => ⟨v, rfl, h⟩⟩
theorem CheckValue_ctr {cx : Cx} (h : Seat cx) (hU : Utf8 cx) : Ctr cx 161 valS := by
  refine ctr_of (fn := Tryz.f161) (l := [.tmp 2]) (envL [(198, textS), (144, inS)]) [0, 1, 2, 3, 4, 6, 7, 11, 15, 17, 19, 23, 29] [] [] (envL_cons (checkText_ctr h hU) (envL_cons (pwithin_ctr h) (env0 h.hP))) ?_ (by rw [h.hP]; exact Tryz.func161) rfl (by kernel_rfl) rfl ?_ ?_
  · rw [h.hP]; exact ⟨_, Tryz.func161, by kernel_rfl, by kernel_rfl⟩
  · rintro xs ⟨v, rfl, h1⟩; exact ⟨_, v, rfl, rfl⟩
  · rintro xs ⟨v, rfl, h1⟩
    obtain ⟨o1, o2, o3⟩ := h1
    refine ⟨by rw [Tryz.ntmps161]; simp, ?_⟩
    simp only [go_sem, h.hP, List.cons_append, List.nil_append, Meets_e, Below_e, Prod.exists, exists_eq, exists_eq_left, exists_eq_left', exists_eq_right, exists_eq_right', exists_and_left, exists_and_right, Ob.arr.injEq, AV.own.injEq, AV.fv.injEq, valS_q, valS_p, valS_c, valS_f, textS_q, textS_p, textS_c, textS_f, inS_q, inS_p, inS_c, inS_f, TValue.row, str_nil, Tryz.ntmps161, Nat.reduceEqDiff, reduceCtorEq, Nat.reduceMul, Nat.reduceAdd, Nat.reduceSub, Nat.reduceDiv, Nat.reduceMod, Nat.reduceLeDiff, Nat.reduceLT, Nat.reduceBNe, Nat.reduceBEq, reduceIte, Int.reduceLE, Int.reduceLT, Int.reduceToNat, Int.reduceNeg, Int.reduceAdd, Int.reduceSub, Int.reduceMul, Int.reduceEq]
    have hk : (v.kind = 1 ∨ v.kind = 2 ∨ v.kind = 3 ∨ v.kind = 4) → ¬ inB v.kind 1 4 = false := fun c => ne_ft (inB_iff.2 (by omega))
    have n0 : ∀ {k : Int}, v.kind = k → (k = 2 ∨ k = 3 ∨ k = 4) → ¬ v.kind = 1 := fun a b => by omega
    refine ⟨fun c => ?_, fun c => ⟨fun c1 => ?_, fun c1 => ⟨fun c2 => ?_, fun c2 => ⟨fun c3 => ?_, fun c3 => ?_⟩⟩⟩⟩
    · refine ⟨fun d => ?_, fun d => ⟨by unfold okS at o2; omega, ?_⟩⟩
      · exact ((if_neg (hk (.inl c))).trans ((if_pos c).trans (if_pos d))).symm
      · exact ((if_neg (hk (.inl c))).trans ((if_pos c).trans (if_neg (fun e => e d)))).symm
    · have e0 : valF v = if v.text.size ≠ 0 then 3 else if inB v.number (lowV v.kind) (highV v.kind) = false then 1 else 0 := (if_neg (hk (by omega))).trans (if_neg c)
      rw [e0, c1]
      exact ⟨fun d => (if_pos d).symm, fun d => ⟨fun e => ((if_neg (fun x => x d)).trans (if_pos e)).symm, fun e => ((if_neg (fun x => x d)).trans (if_neg (ne_ft e))).symm⟩⟩
    · have e0 : valF v = if v.text.size ≠ 0 then 3 else if inB v.number (lowV v.kind) (highV v.kind) = false then 1 else 0 := (if_neg (hk (by omega))).trans (if_neg c)
      rw [e0, c2]
      exact ⟨fun d => (if_pos d).symm, fun d => ⟨fun e => ((if_neg (fun x => x d)).trans (if_pos e)).symm, fun e => ((if_neg (fun x => x d)).trans (if_neg (ne_ft e))).symm⟩⟩
    · have e0 : valF v = if v.text.size ≠ 0 then 3 else if inB v.number (lowV v.kind) (highV v.kind) = false then 1 else 0 := (if_neg (hk (by omega))).trans (if_neg c)
      rw [e0, c3]
      exact ⟨fun d => (if_pos d).symm, fun d => ⟨fun e => ((if_neg (fun x => x d)).trans (if_pos e)).symm, fun e => ((if_neg (fun x => x d)).trans (if_neg (ne_ft e))).symm⟩⟩
    · have : inB v.kind 1 4 = false := by
        cases e : inB v.kind 1 4 with
        | true => have := inB_iff.1 e; omega
        | false => rfl
      exact (if_pos this).symm
theorem dlit5 (a b c d e z : Int) (n : Nat) : ([D.int .i64 a, D.int .i64 b, D.int .i64 c, D.int .i64 d, D.int .i64 e] : List D).getD n (D.int .i64 z) = D.int .i64 (([a, b, c, d, e] : List Int).getD n z) := by
  match n with
  | 0 => rfl
  | 1 => rfl
  | 2 => rfl
  | 3 => rfl
  | 4 => rfl
  | n + 5 => rfl
theorem low_lit {k : Int} (h : 0 ≤ k) : ([0, 0, -1000000000000, 0, 0] : List Int).getD k.toNat 0 = lowV k := by
  unfold lowV
  obtain ⟨n, rfl⟩ : ∃ n : Nat, k = n := ⟨k.toNat, by omega⟩
  rw [Int.toNat_natCast]
  match n with
  | 0 => rfl
  | 1 => rfl
  | 2 => rfl
  | 3 => rfl
  | 4 => rfl
  | n + 5 => rw [if_neg (by omega)]; rfl
theorem high_lit {k : Int} (h : 2 ≤ k) (h4 : k ≤ 4) : ([0, 0, 1000000000000, 1, 4321439] : List Int).getD k.toNat 0 = highV k := by
  unfold highV
  obtain ⟨n, rfl⟩ : ∃ n : Nat, k = n := ⟨k.toNat, by omega⟩
  rw [Int.toNat_natCast]
  match n with
  | 0 => omega
  | 1 => omega
  | 2 => rfl
  | 3 => rfl
  | 4 => rfl
  | n + 5 => omega
def badF (l : List Int) (i : Nat) : Int := if badPt (l.getD i 0) = true then 3 else 0
theorem bad_any (l : List Int) : firstI l.length (badF l) = if l.any badPt = true then 3 else 0 := any_first l 0 badPt (by decide)
set_option maxHeartbeats 4000000 in
theorem ValueFault_ctr {cx : Cx} (h : Seat cx) (hU : Utf8 cx) : Ctr cx 164 valS := by
  refine ctr_of (fn := Tryz.f164) (l := [.tmp 2]) (envL [(199, (ptsS .i64)), (57, inS)]) [0, 1, 2, 4, 5, 6, 10, 13, 14, 18, 25, 26, 27, 28, 36, 40, 54] [] [] (envL_cons (rpts_ctr h hU) (envL_cons (in_ctr h) (env0 h.hP))) ?_ (by rw [h.hP]; exact Tryz.func164) rfl (by kernel_rfl) rfl ?_ ?_
  · rw [h.hP]; exact ⟨_, Tryz.func164, by kernel_rfl, by kernel_rfl⟩
  · rintro xs ⟨v, rfl, h1⟩; exact ⟨_, v, rfl, rfl⟩
  · rintro xs ⟨v, rfl, h1⟩
    obtain ⟨o1, o2, o3⟩ := h1
    refine ⟨by rw [Tryz.ntmps164]; simp, ?_⟩
    simp only [go_sem, h.hP, List.cons_append, List.nil_append, Meets_e, Below_e, Prod.exists, exists_eq, exists_eq_left, exists_eq_left', exists_eq_right, exists_eq_right', exists_and_left, exists_and_right, Ob.arr.injEq, AV.own.injEq, AV.fv.injEq, valS_q, valS_p, valS_c, valS_f, inS_q, inS_p, inS_c, inS_f, ptsS, TValue.row, str_nil, dlit5, Tryz.ntmps164, Nat.reduceEqDiff, reduceCtorEq, Nat.reduceMul, Nat.reduceAdd, Nat.reduceSub, Nat.reduceDiv, Nat.reduceMod, Nat.reduceLeDiff, Nat.reduceLT, Nat.reduceBNe, Nat.reduceBEq, reduceIte, Int.reduceLE, Int.reduceLT, Int.reduceToNat, Int.reduceNeg, Int.reduceAdd, Int.reduceSub, Int.reduceMul, Int.reduceEq]
    unfold okS at o2
    refine ⟨fun c => (if_pos c).symm, fun c => ?_⟩
    have hk := inB_iff.1 c
    have e1 : v.kind = 1 → valF v = if v.number ≠ 0 then 3 else textF v.text := fun d => (if_neg (ne_ft c)).trans (if_pos d)
    have e2 : ¬ v.kind = 1 → valF v = if v.text.size ≠ 0 then 3 else if inB v.number (lowV v.kind) (highV v.kind) = false then 1 else 0 := fun d => (if_neg (ne_ft c)).trans (if_neg d)
    refine ⟨fun d => ⟨fun f => ?_, fun f => ⟨fun g => ?_, fun g => ⟨by omega, ?_⟩⟩⟩, fun d => ⟨fun f => ?_, fun f => ?_⟩⟩
    · rw [e1 d, if_pos f]
    · rw [e1 d, if_neg (fun x => x f)]
      exact (if_pos g).symm
    · have e3 : valF v = if (pts v.text).any badPt = true then 3 else 0 := by
        rw [e1 d, if_neg (fun x => x f)]
        exact if_neg g
      rw [e3, ← bad_any]
      have hp : (pts v.text).length ≤ v.text.size := ptsL_len v.text.size v.text
      generalize pts v.text = l at *
      refine vc_loopS (Int) (fun (i : Int) => [(25, .sl (rowsK .i64 l)), (27, .i i)]) [1] (fun (i : Int) => []) (fun (i : Int) => []) (fun (i : Int) => 0) (fun (i : Int) => Rounds l.length (badF l) i) (fun (i : Int) => (l.length - i).toNat) [] ?_ ?_
      · simp only [go_sem, h.hP, List.cons_append, List.nil_append, Meets_e, Below_e, Prod.exists, exists_eq, exists_eq_left, exists_eq_left', exists_eq_right, exists_eq_right', exists_and_left, exists_and_right, Ob.arr.injEq, AV.own.injEq, AV.fv.injEq, Tryz.ntmps164, Nat.reduceEqDiff, reduceCtorEq, Nat.reduceMul, Nat.reduceAdd, Nat.reduceSub, Nat.reduceDiv, Nat.reduceMod, Nat.reduceLeDiff, Nat.reduceLT, Nat.reduceBNe, Nat.reduceBEq, reduceIte, Int.reduceLE, Int.reduceLT, Int.reduceToNat, Int.reduceNeg, Int.reduceAdd, Int.reduceSub, Int.reduceMul, Int.reduceEq]
        exact Rounds.start
      · rintro i hr
        obtain ⟨hi, hS, hM, hE, hN⟩ := hr.use (by omega)
        simp only [go_sem, h.hP, List.cons_append, List.nil_append, Meets_e, Below_e, Prod.exists, exists_eq, exists_eq_left, exists_eq_left', exists_eq_right, exists_eq_right', exists_and_left, exists_and_right, Ob.arr.injEq, AV.own.injEq, AV.fv.injEq, valS_q, valS_p, valS_c, valS_f, rowsK_len, rowsK_get, Tryz.ntmps164, Nat.reduceEqDiff, reduceCtorEq, Nat.reduceMul, Nat.reduceAdd, Nat.reduceSub, Nat.reduceDiv, Nat.reduceMod, Nat.reduceLeDiff, Nat.reduceLT, Nat.reduceBNe, Nat.reduceBEq, reduceIte, Int.reduceLE, Int.reduceLT, Int.reduceToNat, Int.reduceNeg, Int.reduceAdd, Int.reduceSub, Int.reduceMul, Int.reduceEq]
        have b1 : badPt (l.getD i.toNat 0) = true → badF l i.toNat = 3 := fun a => if_pos a
        have b0 : badPt (l.getD i.toNat 0) = false → badF l i.toNat = 0 := fun a => if_neg (ne_tf a)
        have bd : badPt (l.getD i.toNat 0) = (decide (l.getD i.toNat 0 < 32) || (l.getD i.toNat 0 == 127)) := rfl
        generalize l.getD i.toNat 0 = x at *
        refine ⟨fun a => ⟨hi, a, fun b => ⟨fun c => ?_, fun c => ?_⟩, fun b => ?_⟩, fun a => (hN a).symm⟩
        · exact (hE 3 a (b1 (by rw [bd]; simp [c])) (by decide)).symm
        · exact ⟨hS a (b0 (by rw [bd]; simp [b, c])), hM a⟩
        · exact (hE 3 a (b1 (by rw [bd]; simp [b])) (by decide)).symm
    · rw [e2 d, if_pos f]
    · rw [e2 d, if_neg (fun x => x f), low_lit (by omega), high_lit (by omega) (by omega)]
      exact ⟨by omega, by omega, by omega, by omega, by omega, by omega, fun x => (if_pos x).symm, fun x => (if_neg (ne_ft x)).symm⟩
theorem le_nil {s : ByteArray} (h : keyB s = true) : ¬ (Op.bytesLess s.toList (⟨#[]⟩ : ByteArray).toList = true ∨ s = ⟨#[]⟩) := by
  rintro (c | rfl)
  · rw [toList_eq_data (⟨#[]⟩ : ByteArray)] at c
    change Op.bytesLess s.toList [] = true at c
    unfold Op.bytesLess at c
    exact absurd c (by simp)
  · revert h
    decide
/-- fields -/
def fieldF (l : List TField) (i : Nat) : Int := if keyB (l.getD i TField.z).name = false then 5 else if valF (l.getD i TField.z).value ≠ 0 then valF (l.getD i TField.z).value else
  if 0 < (i : Int) ∧ (Op.bytesLess (l.getD i TField.z).name.toList (l.getD (i - 1) TField.z).name.toList = true ∨ (l.getD i TField.z).name = (l.getD (i - 1) TField.z).name) then 7 else 0
def fieldsF (l : List TField) : Int := if 30 < (l.length : Int) then 2 else firstI l.length (fieldF l)
def fieldsS  : Spec where
  pre xs := ∃ (l : List TField), xs = [.sl (TField.rows l)] ∧ (okL TField.ok l)
  post xs y := ∃ (l : List TField), xs = [.sl (TField.rows l)] ∧ y = .i (fieldsF l)
  cost _ := 0
  fresh := true
theorem fieldsS_c  (xs : List AV) : (fieldsS).cost xs = 0 := nr rfl
theorem fieldsS_f  : (fieldsS).fresh = true := nr rfl
theorem fieldsS_q  (l : List TField) : (fieldsS).pre [.sl (TField.rows l)] = (okL TField.ok l) := propext ⟨fun h => by
  have h' : ∃ (l' : List TField), ([.sl (TField.rows l)] : List AV) = [.sl (TField.rows l')] ∧ (okL TField.ok l') := h
  obtain ⟨l', e, h⟩ := h'
  simp only [List.cons.injEq, AV.dv.injEq, AV.dp.injEq, AV.fv.injEq, DV.d.injEq, DV.ag.injEq, D.int.injEq, D.str.injEq, D.bool.injEq, D.sl.injEq, true_and, and_true, intsDi_inj, rowsT_inj, rowsKi_inj, TField.row_inj, TField.rows_inj] at e
  obtain rfl := e
  exact h, fun h => ⟨l, rfl, h⟩⟩
theorem fieldsS_p  (l : List TField) : (fieldsS).post [.sl (TField.rows l)] = fun y => y = .i (fieldsF l) := funext fun y => propext ⟨fun h => by
  have h' : ∃ (l' : List TField), ([.sl (TField.rows l)] : List AV) = [.sl (TField.rows l')] ∧ y = .i (fieldsF l') := h
  obtain ⟨l', e, h⟩ := h'
  simp only [List.cons.injEq, AV.dv.injEq, AV.dp.injEq, AV.fv.injEq, DV.d.injEq, DV.ag.injEq, D.int.injEq, D.str.injEq, D.bool.injEq, D.sl.injEq, true_and, and_true, intsDi_inj, rowsT_inj, rowsKi_inj, TField.row_inj, TField.rows_inj] at e
  obtain rfl := e
  exact h, fun h => ⟨l, rfl, h⟩⟩
theorem CheckFields_ctr {cx : Cx} (h : Seat cx) (hU : Utf8 cx) : Ctr cx 117 fieldsS := by
  refine ctr_of (fn := Tryz.f117) (l := [.tmp 2]) (envL [(90, (strB keyB)), (161, valS)]) [0, 2, 3, 4, 5, 8, 9, 10, 11, 12, 19, 24, 38] [] [] (envL_cons (IsKey_ctr h) (envL_cons (CheckValue_ctr h hU) (env0 h.hP))) ?_ (by rw [h.hP]; exact Tryz.func117) rfl (by kernel_rfl) rfl ?_ ?_
  · rw [h.hP]; exact ⟨_, Tryz.func117, by kernel_rfl, by kernel_rfl⟩
  · rintro xs ⟨l, rfl, h1⟩; exact ⟨_, l, rfl, rfl⟩
  · rintro xs ⟨l, rfl, h1⟩
    refine ⟨by rw [Tryz.ntmps117]; simp, ?_⟩
    simp only [go_sem, h.hP, List.cons_append, List.nil_append, Meets_e, Below_e, Prod.exists, exists_eq, exists_eq_left, exists_eq_left', exists_eq_right, exists_eq_right', exists_and_left, exists_and_right, Ob.arr.injEq, AV.own.injEq, AV.fv.injEq, fieldsS_q, fieldsS_p, fieldsS_c, fieldsS_f, TField.len, Tryz.ntmps117, Nat.reduceEqDiff, reduceCtorEq, Nat.reduceMul, Nat.reduceAdd, Nat.reduceSub, Nat.reduceDiv, Nat.reduceMod, Nat.reduceLeDiff, Nat.reduceLT, Nat.reduceBNe, Nat.reduceBEq, reduceIte, Int.reduceLE, Int.reduceLT, Int.reduceToNat, Int.reduceNeg, Int.reduceAdd, Int.reduceSub, Int.reduceMul, Int.reduceEq]
    refine ⟨fun c => (if_pos c).symm, fun c => ?_⟩
    have hc : fieldsF l = firstI l.length (fieldF l) := if_neg c
    rw [hc]
    refine vc_loopS (Int) (fun (i : Int) => [(11, .i i)]) [] (fun (i : Int) => []) (fun (i : Int) => []) (fun (i : Int) => 0) (fun (i : Int) => Rounds l.length (fieldF l) i) (fun (i : Int) => (l.length - i).toNat) [] ?_ ?_
    · simp only [go_sem, h.hP, List.cons_append, List.nil_append, Meets_e, Below_e, Prod.exists, exists_eq, exists_eq_left, exists_eq_left', exists_eq_right, exists_eq_right', exists_and_left, exists_and_right, Ob.arr.injEq, AV.own.injEq, AV.fv.injEq, Tryz.ntmps117, Nat.reduceEqDiff, reduceCtorEq, Nat.reduceMul, Nat.reduceAdd, Nat.reduceSub, Nat.reduceDiv, Nat.reduceMod, Nat.reduceLeDiff, Nat.reduceLT, Nat.reduceBNe, Nat.reduceBEq, reduceIte, Int.reduceLE, Int.reduceLT, Int.reduceToNat, Int.reduceNeg, Int.reduceAdd, Int.reduceSub, Int.reduceMul, Int.reduceEq]
      exact Rounds.start
    · rintro i hr
      obtain ⟨hi, hS, hM, hE, hN⟩ := hr.use (by have := h1.1; omega)
      have ho : (l.getD i.toNat TField.z).ok := okL_get h1 TField.z_ok _
      simp only [go_sem, h.hP, List.cons_append, List.nil_append, Meets_e, Below_e, Prod.exists, exists_eq, exists_eq_left, exists_eq_left', exists_eq_right, exists_eq_right', exists_and_left, exists_and_right, Ob.arr.injEq, AV.own.injEq, AV.fv.injEq, fieldsS_q, fieldsS_p, fieldsS_c, fieldsS_f, strB_q, strB_p, strB_c, strB_f, valS_q, valS_p, valS_c, valS_f, TField.len, TField.get, Tryz.ntmps117, Nat.reduceEqDiff, reduceCtorEq, Nat.reduceMul, Nat.reduceAdd, Nat.reduceSub, Nat.reduceDiv, Nat.reduceMod, Nat.reduceLeDiff, Nat.reduceLT, Nat.reduceBNe, Nat.reduceBEq, reduceIte, Int.reduceLE, Int.reduceLT, Int.reduceToNat, Int.reduceNeg, Int.reduceAdd, Int.reduceSub, Int.reduceMul, Int.reduceEq]
      have hl := h1.1
      have hw : 0 < i → i < l.length → IntKind.i64.wrap (i - 1) = i - 1 := fun a b => i64w (by omega) (by omega)
      have e0 : fieldF l i.toNat = if keyB (l.getD i.toNat TField.z).name = false then 5 else if valF (l.getD i.toNat TField.z).value ≠ 0 then valF (l.getD i.toNat TField.z).value else if 0 < i ∧ (Op.bytesLess (l.getD i.toNat TField.z).name.toList (l.getD (i - 1).toNat TField.z).name.toList = true ∨ (l.getD i.toNat TField.z).name = (l.getD (i - 1).toNat TField.z).name) then 7 else 0 := by
        unfold fieldF
        rw [Int.toNat_of_nonneg hi, show i.toNat - 1 = (i - 1).toNat by omega]
      generalize l.getD i.toNat TField.z = x at *
      obtain ⟨p1, p2⟩ := ho
      unfold okS at p1
      refine ⟨fun a => ⟨hi, a, by omega, fun b => (hE 5 a (e0.trans (if_pos b)) (by decide)).symm, fun b => ⟨p2, fun c => (hE _ a (e0.trans ((if_neg (ne_ft b)).trans (if_pos c))) c).symm, fun c => ⟨fun d => ?_, fun d => ?_⟩⟩⟩, fun a => (hN a).symm⟩
      · rw [hw d a]
        have e1 := e0.trans ((if_neg (ne_ft b)).trans (if_neg (fun q => q c)))
        refine ⟨by omega, by omega, fun e => (hE 7 a (e1.trans (if_pos ⟨d, e⟩)) (by decide)).symm, fun e => ⟨hS a (e1.trans (if_neg fun q => ?_)), hM a⟩⟩
        rw [Bool.or_eq_false_iff, decide_eq_false_iff_not] at e
        exact q.2.elim (ne_tf e.1) e.2
      · have e1 := e0.trans ((if_neg (ne_ft b)).trans (if_neg (fun q => q c)))
        exact ⟨hS a (e1.trans (if_neg fun q => d q.1)), hM a⟩
set_option maxHeartbeats 4000000 in
theorem FieldsFault_ctr {cx : Cx} (h : Seat cx) (hU : Utf8 cx) : Ctr cx 124 fieldsS := by
  refine ctr_of (fn := Tryz.f124) (l := [.tmp 2]) (envL [(65, (strB keyB)), (164, valS)]) [0, 2, 3, 5, 6, 9, 10, 11, 12, 13, 19, 24, 29] [] [] (envL_cons (Key_ctr h) (envL_cons (ValueFault_ctr h hU) (env0 h.hP))) ?_ (by rw [h.hP]; exact Tryz.func124) rfl (by kernel_rfl) rfl ?_ ?_
  · rw [h.hP]; exact ⟨_, Tryz.func124, by kernel_rfl, by kernel_rfl⟩
  · rintro xs ⟨l, rfl, h1⟩; exact ⟨_, l, rfl, rfl⟩
  · rintro xs ⟨l, rfl, h1⟩
    refine ⟨by rw [Tryz.ntmps124]; simp, ?_⟩
    simp only [go_sem, h.hP, List.cons_append, List.nil_append, Meets_e, Below_e, Prod.exists, exists_eq, exists_eq_left, exists_eq_left', exists_eq_right, exists_eq_right', exists_and_left, exists_and_right, Ob.arr.injEq, AV.own.injEq, AV.fv.injEq, fieldsS_q, fieldsS_p, fieldsS_c, fieldsS_f, TField.len, Tryz.ntmps124, Nat.reduceEqDiff, reduceCtorEq, Nat.reduceMul, Nat.reduceAdd, Nat.reduceSub, Nat.reduceDiv, Nat.reduceMod, Nat.reduceLeDiff, Nat.reduceLT, Nat.reduceBNe, Nat.reduceBEq, reduceIte, Int.reduceLE, Int.reduceLT, Int.reduceToNat, Int.reduceNeg, Int.reduceAdd, Int.reduceSub, Int.reduceMul, Int.reduceEq]
    refine ⟨fun c => (if_pos c).symm, fun c => ?_⟩
    have hc : fieldsF l = firstI l.length (fieldF l) := if_neg c
    rw [hc]
    refine vc_loopS (Int × ByteArray) (fun (x : Int × ByteArray) => match x with | (i, s) => [(12, .i i), (3, .str s)]) [] (fun (x : Int × ByteArray) => match x with | (i, s) => []) (fun (x : Int × ByteArray) => match x with | (i, s) => []) (fun (x : Int × ByteArray) => match x with | (i, s) => 0) (fun (x : Int × ByteArray) => match x with | (i, s) => Rounds l.length (fieldF l) i ∧ (0 < i → s = (l.getD (i - 1).toNat TField.z).name) ∧ (i = 0 → s = ⟨#[]⟩)) (fun (x : Int × ByteArray) => match x with | (i, s) => (l.length - i).toNat) [] ?_ ?_
    · simp only [go_sem, h.hP, List.cons_append, List.nil_append, Meets_e, Below_e, Prod.exists, exists_eq, exists_eq_left, exists_eq_left', exists_eq_right, exists_eq_right', exists_and_left, exists_and_right, Ob.arr.injEq, AV.own.injEq, AV.fv.injEq, Tryz.ntmps124, Nat.reduceEqDiff, reduceCtorEq, Nat.reduceMul, Nat.reduceAdd, Nat.reduceSub, Nat.reduceDiv, Nat.reduceMod, Nat.reduceLeDiff, Nat.reduceLT, Nat.reduceBNe, Nat.reduceBEq, reduceIte, Int.reduceLE, Int.reduceLT, Int.reduceToNat, Int.reduceNeg, Int.reduceAdd, Int.reduceSub, Int.reduceMul, Int.reduceEq]
      exact Rounds.start
    · rintro ⟨i, s⟩ ⟨hr, j2, j3⟩
      obtain ⟨hi, hS, hM, hE, hN⟩ := hr.use (by have := h1.1; omega)
      have ho : (l.getD i.toNat TField.z).ok := okL_get h1 TField.z_ok _
      simp only [go_sem, h.hP, List.cons_append, List.nil_append, Meets_e, Below_e, Prod.exists, exists_eq, exists_eq_left, exists_eq_left', exists_eq_right, exists_eq_right', exists_and_left, exists_and_right, Ob.arr.injEq, AV.own.injEq, AV.fv.injEq, fieldsS_q, fieldsS_p, fieldsS_c, fieldsS_f, strB_q, strB_p, strB_c, strB_f, valS_q, valS_p, valS_c, valS_f, TField.len, TField.get, Tryz.ntmps124, Nat.reduceEqDiff, reduceCtorEq, Nat.reduceMul, Nat.reduceAdd, Nat.reduceSub, Nat.reduceDiv, Nat.reduceMod, Nat.reduceLeDiff, Nat.reduceLT, Nat.reduceBNe, Nat.reduceBEq, reduceIte, Int.reduceLE, Int.reduceLT, Int.reduceToNat, Int.reduceNeg, Int.reduceAdd, Int.reduceSub, Int.reduceMul, Int.reduceEq]
      have hl := h1.1
      have hw : i < l.length → IntKind.i64.wrap (i + 1) = i + 1 := fun b => i64w (by omega) (by omega)
      have e0 : fieldF l i.toNat = if keyB (l.getD i.toNat TField.z).name = false then 5 else if valF (l.getD i.toNat TField.z).value ≠ 0 then valF (l.getD i.toNat TField.z).value else if 0 < i ∧ (Op.bytesLess (l.getD i.toNat TField.z).name.toList (l.getD (i - 1).toNat TField.z).name.toList = true ∨ (l.getD i.toNat TField.z).name = (l.getD (i - 1).toNat TField.z).name) then 7 else 0 := by
        unfold fieldF
        rw [Int.toNat_of_nonneg hi, show i.toNat - 1 = (i - 1).toNat by omega]
      have hg : (l.getD (i + 1 - 1).toNat TField.z).name = (l.getD i.toNat TField.z).name := by rw [show i + 1 - 1 = i by omega]
      generalize l.getD i.toNat TField.z = x at *
      obtain ⟨p1, p2⟩ := ho
      unfold okS at p1
      refine ⟨fun a => ⟨hi, a, by omega, fun b => (hE 5 a (e0.trans (if_pos b)) (by decide)).symm, fun b => ⟨p2, fun c => (hE _ a (e0.trans ((if_neg (ne_ft b)).trans (if_pos c))) c).symm, fun c => ?_⟩⟩, fun a => (hN a).symm⟩
      have e1 := e0.trans ((if_neg (ne_ft b)).trans (if_neg (fun q => q c)))
      have i0 : Op.bytesLess x.name.toList s.toList = true ∨ x.name = s → 0 < i := fun e => by
        rcases Int.lt_or_eq_of_le hi with g | g
        · exact g
        · rw [j3 g.symm] at e
          exact absurd e (le_nil b)
      refine ⟨fun e => ?_, fun e => ?_⟩
      · have g := i0 e
        rw [j2 g] at e
        exact (hE 7 a (e1.trans (if_pos ⟨g, e⟩)) (by decide)).symm
      · rw [Bool.or_eq_false_iff, decide_eq_false_iff_not] at e
        have s0 := hS a (e1.trans (if_neg fun q => by rw [← j2 q.1] at q; exact q.2.elim (ne_tf e.1) e.2))
        have m0 := hM a
        rw [hw a] at s0 m0 ⊢
        exact ⟨s0, fun _ => hg.symm, fun g => by omega, m0⟩
end Go.Avc

namespace Go.Avc
open Go Go.Proofs

theorem ix_lit {s : ByteArray} {i : Int} (h : memC (bt s i) = true) : ixB ⟨#[48, 49, 50, 51, 52, 53, 54, 55, 56, 57, 65, 66, 67, 68, 69, 70, 71, 72, 73, 74, 75, 76, 77, 78, 79, 80, 81, 82, 83, 84, 85, 86, 87, 88, 89, 90]⟩ (bt s i) = idxC (bt s i) := idx_bt h
theorem tdivN {a b : Int} (h : 0 ≤ a) : a.tdiv b = a / b := Int.tdiv_eq_ediv_of_nonneg h
theorem tmodN {a b : Int} (h : 0 ≤ a) : a.tmod b = a % b := Int.tmod_eq_emod_of_nonneg h
theorem signs_lit (i : Int) : bt ⟨#[48, 49, 50, 51, 52, 53, 54, 55, 56, 57, 65, 66, 67, 68, 69, 70, 71, 72, 73, 74, 75, 76, 77, 78, 79, 80, 81, 82, 83, 84, 85, 86, 87, 88, 89, 90]⟩ i = bt signsB i := rfl
theorem sumUp_step (s : ByteArray) {i : Int} (h : 0 ≤ i) : sumUp s (i + 1).toNat = sumUp s i.toNat + termS s i.toNat := by
  rw [show (i + 1).toNat = i.toNat + 1 by omega]
  rfl
def signP  : Spec where
  pre xs := ∃ (s : ByteArray), xs = [.str s] ∧ (s.size ≤ 100 ∧ (bl s).all memC = true)
  post xs y := ∃ (s : ByteArray), xs = [.str s] ∧ y = .u8 (bt signsB (signN s))
  cost _ := 0
  fresh := true
theorem signP_c  (xs : List AV) : (signP).cost xs = 0 := nr rfl
theorem signP_f  : (signP).fresh = true := nr rfl
theorem signP_q  (s : ByteArray) : (signP).pre [.str s] = (s.size ≤ 100 ∧ (bl s).all memC = true) := propext ⟨fun h => by
  have h' : ∃ (s' : ByteArray), ([.str s] : List AV) = [.str s'] ∧ (s'.size ≤ 100 ∧ (bl s').all memC = true) := h
  obtain ⟨s', e, h⟩ := h'
  simp only [List.cons.injEq, AV.dv.injEq, AV.dp.injEq, AV.fv.injEq, DV.d.injEq, DV.ag.injEq, D.int.injEq, D.str.injEq, D.bool.injEq, D.sl.injEq, true_and, and_true, intsDi_inj, rowsT_inj, rowsKi_inj] at e
  obtain rfl := e
  exact h, fun h => ⟨s, rfl, h⟩⟩
theorem signP_p  (s : ByteArray) : (signP).post [.str s] = fun y => y = .u8 (bt signsB (signN s)) := funext fun y => propext ⟨fun h => by
  have h' : ∃ (s' : ByteArray), ([.str s] : List AV) = [.str s'] ∧ y = .u8 (bt signsB (signN s')) := h
  obtain ⟨s', e, h⟩ := h'
  simp only [List.cons.injEq, AV.dv.injEq, AV.dp.injEq, AV.fv.injEq, DV.d.injEq, DV.ag.injEq, D.int.injEq, D.str.injEq, D.bool.injEq, D.sl.injEq, true_and, and_true, intsDi_inj, rowsT_inj, rowsKi_inj] at e
  obtain rfl := e
  exact h, fun h => ⟨s, rfl, h⟩⟩
theorem pcheckSign_ctr {cx : Cx} (h : Seat cx) : Ctr cx 131 signP := by
  refine ctr_of (fn := Tryz.f131) (l := [.tmp 2]) (envL [(143, ixSp)]) [0, 2, 3, 4, 5, 6, 11] [] [] (envL_cons (indexByte_ctr h) (env0 h.hP)) ?_ (by rw [h.hP]; exact Tryz.func131) rfl (by kernel_rfl) rfl ?_ ?_
  · rw [h.hP]; exact ⟨_, Tryz.func131, by kernel_rfl, by kernel_rfl⟩
  · rintro xs ⟨s, rfl, h1, h2⟩; exact ⟨_, s, rfl, rfl⟩
  · rintro xs ⟨s, rfl, h1, h2⟩
    refine ⟨by rw [Tryz.ntmps131]; simp, ?_⟩
    simp only [go_sem, h.hP, List.cons_append, List.nil_append, Meets_e, Below_e, Prod.exists, exists_eq, exists_eq_left, exists_eq_left', exists_eq_right, exists_eq_right', exists_and_left, exists_and_right, Ob.arr.injEq, AV.own.injEq, AV.fv.injEq, signP_q, signP_p, signP_c, signP_f, ixSp_q, ixSp_p, ixSp_c, ixSp_f, Tryz.ntmps131, Nat.reduceEqDiff, reduceCtorEq, Nat.reduceMul, Nat.reduceAdd, Nat.reduceSub, Nat.reduceDiv, Nat.reduceMod, Nat.reduceLeDiff, Nat.reduceLT, Nat.reduceBNe, Nat.reduceBEq, reduceIte, Int.reduceLE, Int.reduceLT, Int.reduceToNat, Int.reduceNeg, Int.reduceAdd, Int.reduceSub, Int.reduceMul, Int.reduceEq]
    refine vc_loopS (Int × Int × Int) (fun (x : Int × Int × Int) => match x with | (i, u, t) => [(5, .i i), (3, .i u), (4, .i t)]) [] (fun (x : Int × Int × Int) => match x with | (i, u, t) => []) (fun (x : Int × Int × Int) => match x with | (i, u, t) => []) (fun (x : Int × Int × Int) => match x with | (i, u, t) => 0) (fun (x : Int × Int × Int) => match x with | (i, u, t) => -1 ≤ i ∧ i < s.size ∧ u + sumUp s (i + 1).toNat = sumUp s s.size ∧ (t = if ((s.size : Int) - i) % 2 = 1 then 2 else 1) ∧ 0 ≤ u) (fun (x : Int × Int × Int) => match x with | (i, u, t) => (i + 1).toNat) [] ?_ ?_
    · simp only [go_sem, h.hP, List.cons_append, List.nil_append, Meets_e, Below_e, Prod.exists, exists_eq, exists_eq_left, exists_eq_left', exists_eq_right, exists_eq_right', exists_and_left, exists_and_right, Ob.arr.injEq, AV.own.injEq, AV.fv.injEq, Tryz.ntmps131, Nat.reduceEqDiff, reduceCtorEq, Nat.reduceMul, Nat.reduceAdd, Nat.reduceSub, Nat.reduceDiv, Nat.reduceMod, Nat.reduceLeDiff, Nat.reduceLT, Nat.reduceBNe, Nat.reduceBEq, reduceIte, Int.reduceLE, Int.reduceLT, Int.reduceToNat, Int.reduceNeg, Int.reduceAdd, Int.reduceSub, Int.reduceMul, Int.reduceEq]
      rw [i64w (n := (s.size : Int) - 1) (by omega) (by omega), show ((s.size : Int) - 1 + 1).toNat = s.size by omega]
      exact ⟨by omega, by omega, Int.zero_add _, (if_pos (by omega)).symm⟩
    · rintro ⟨i, u, t⟩ ⟨j1, j2, j3, j4, j5⟩
      simp only [go_sem, h.hP, List.cons_append, List.nil_append, Meets_e, Below_e, Prod.exists, exists_eq, exists_eq_left, exists_eq_left', exists_eq_right, exists_eq_right', exists_and_left, exists_and_right, Ob.arr.injEq, AV.own.injEq, AV.fv.injEq, signP_q, signP_p, signP_c, signP_f, ixSp_q, ixSp_p, ixSp_c, ixSp_f, Tryz.ntmps131, Nat.reduceEqDiff, reduceCtorEq, Nat.reduceMul, Nat.reduceAdd, Nat.reduceSub, Nat.reduceDiv, Nat.reduceMod, Nat.reduceLeDiff, Nat.reduceLT, Nat.reduceBNe, Nat.reduceBEq, reduceIte, Int.reduceLE, Int.reduceLT, Int.reduceToNat, Int.reduceNeg, Int.reduceAdd, Int.reduceSub, Int.reduceMul, Int.reduceEq]
      have hs0 := sumUp_in h2 s.size (Nat.le_refl _)
      have hs1 := sumUp_in h2 (i + 1).toNat (by omega)
      refine ⟨fun c => ?_, fun c => ?_⟩
      · have hm := all_at h2 c j2
        rw [ix_lit hm]
        have hx := idxC_in hm
        have ht := sumUp_step s c
        have hterm : termS s i.toNat = t * idxC (bt s i) / 36 + t * idxC (bt s i) % 36 := by
          unfold termS
          simp only
          rw [Int.toNat_of_nonneg c, j4]
          by_cases e : ((s.size : Int) - i) % 2 = 1
          · rw [if_pos e, if_pos (by omega)]
          · rw [if_neg e, if_neg (by omega), Int.one_mul]
        have hp0 : 0 ≤ t * idxC (bt s i) ∧ t * idxC (bt s i) ≤ 70 := by
          rw [j4]
          split <;> omega
        generalize t * idxC (bt s i) = p at *
        rw [i64w (n := p) (by omega) (by omega), tdivN hp0.1, tmodN hp0.1, i64w (n := p / 36) (by omega) (by omega), i64w (n := p / 36 + p % 36) (by omega) (by omega), i64w (n := u + (p / 36 + p % 36)) (by omega) (by omega), i64w (n := i - 1) (by omega) (by omega), i64w (n := 3 - t) (by rw [j4]; split <;> omega) (by rw [j4]; split <;> omega), show i - 1 + 1 = i by omega]
        exact ⟨c, j2, by omega, by omega, by omega, by rw [j4]; split <;> split <;> omega, by omega, by omega⟩
      · have hi : (i + 1).toNat = 0 := by omega
        rw [hi] at j3
        have hz : sumUp s 0 = 0 := rfl
        have hsg := signN_in s
        have e1 : (36 - u % 36) % 36 = signN s := by
          unfold signN
          rw [show u = sumUp s s.size by omega]
        rw [tmodN j5, i64w (n := 36 - u % 36) (by omega) (by omega), tmodN (by omega), signs_lit, e1]
        exact ⟨by omega, by omega, rfl⟩
def signR  : Spec where
  pre xs := ∃ (s : ByteArray), xs = [.str s] ∧ (s.size ≤ 100 ∧ (bl s).all memC = true)
  post xs y := ∃ (s : ByteArray), xs = [.str s] ∧ y = .i (signN s)
  cost _ := 0
  fresh := true
theorem signR_c  (xs : List AV) : (signR).cost xs = 0 := nr rfl
theorem signR_f  : (signR).fresh = true := nr rfl
theorem signR_q  (s : ByteArray) : (signR).pre [.str s] = (s.size ≤ 100 ∧ (bl s).all memC = true) := propext ⟨fun h => by
  have h' : ∃ (s' : ByteArray), ([.str s] : List AV) = [.str s'] ∧ (s'.size ≤ 100 ∧ (bl s').all memC = true) := h
  obtain ⟨s', e, h⟩ := h'
  simp only [List.cons.injEq, AV.dv.injEq, AV.dp.injEq, AV.fv.injEq, DV.d.injEq, DV.ag.injEq, D.int.injEq, D.str.injEq, D.bool.injEq, D.sl.injEq, true_and, and_true, intsDi_inj, rowsT_inj, rowsKi_inj] at e
  obtain rfl := e
  exact h, fun h => ⟨s, rfl, h⟩⟩
theorem signR_p  (s : ByteArray) : (signR).post [.str s] = fun y => y = .i (signN s) := funext fun y => propext ⟨fun h => by
  have h' : ∃ (s' : ByteArray), ([.str s] : List AV) = [.str s'] ∧ y = .i (signN s') := h
  obtain ⟨s', e, h⟩ := h'
  simp only [List.cons.injEq, AV.dv.injEq, AV.dp.injEq, AV.fv.injEq, DV.d.injEq, DV.ag.injEq, D.int.injEq, D.str.injEq, D.bool.injEq, D.sl.injEq, true_and, and_true, intsDi_inj, rowsT_inj, rowsKi_inj] at e
  obtain rfl := e
  exact h, fun h => ⟨s, rfl, h⟩⟩
theorem rcheckSign_ctr {cx : Cx} (h : Seat cx) : Ctr cx 86 signR := by
  refine ctr_of (fn := Tryz.f86) (l := [.tmp 2]) (envL [(143, ixSp)]) [0, 2, 3, 4, 5, 6, 8, 9, 10, 21, 32, 33, 39] [] [] (envL_cons (indexByte_ctr h) (env0 h.hP)) ?_ (by rw [h.hP]; exact Tryz.func86) rfl (by kernel_rfl) rfl ?_ ?_
  · rw [h.hP]; exact ⟨_, Tryz.func86, by kernel_rfl, by kernel_rfl⟩
  · rintro xs ⟨s, rfl, h1, h2⟩; exact ⟨_, s, rfl, rfl⟩
  · rintro xs ⟨s, rfl, h1, h2⟩
    refine ⟨by rw [Tryz.ntmps86]; simp, ?_⟩
    simp only [go_sem, h.hP, List.cons_append, List.nil_append, Meets_e, Below_e, Prod.exists, exists_eq, exists_eq_left, exists_eq_left', exists_eq_right, exists_eq_right', exists_and_left, exists_and_right, Ob.arr.injEq, AV.own.injEq, AV.fv.injEq, signR_q, signR_p, signR_c, signR_f, ixSp_q, ixSp_p, ixSp_c, ixSp_f, Tryz.ntmps86, Nat.reduceEqDiff, reduceCtorEq, Nat.reduceMul, Nat.reduceAdd, Nat.reduceSub, Nat.reduceDiv, Nat.reduceMod, Nat.reduceLeDiff, Nat.reduceLT, Nat.reduceBNe, Nat.reduceBEq, reduceIte, Int.reduceLE, Int.reduceLT, Int.reduceToNat, Int.reduceNeg, Int.reduceAdd, Int.reduceSub, Int.reduceMul, Int.reduceEq]
    refine vc_loopS (Int × Int) (fun (x : Int × Int) => match x with | (i, u) => [(9, .i i), (3, .i u)]) [] (fun (x : Int × Int) => match x with | (i, u) => []) (fun (x : Int × Int) => match x with | (i, u) => []) (fun (x : Int × Int) => match x with | (i, u) => 0) (fun (x : Int × Int) => match x with | (i, u) => 0 ≤ i ∧ i ≤ s.size ∧ u = sumUp s i.toNat) (fun (x : Int × Int) => match x with | (i, u) => (s.size - i).toNat) [] ?_ ?_
    · simp only [go_sem, h.hP, List.cons_append, List.nil_append, Meets_e, Below_e, Prod.exists, exists_eq, exists_eq_left, exists_eq_left', exists_eq_right, exists_eq_right', exists_and_left, exists_and_right, Ob.arr.injEq, AV.own.injEq, AV.fv.injEq, Tryz.ntmps86, Nat.reduceEqDiff, reduceCtorEq, Nat.reduceMul, Nat.reduceAdd, Nat.reduceSub, Nat.reduceDiv, Nat.reduceMod, Nat.reduceLeDiff, Nat.reduceLT, Nat.reduceBNe, Nat.reduceBEq, reduceIte, Int.reduceLE, Int.reduceLT, Int.reduceToNat, Int.reduceNeg, Int.reduceAdd, Int.reduceSub, Int.reduceMul, Int.reduceEq]
      exact ⟨Int.natCast_nonneg _, rfl⟩
    · rintro ⟨i, u⟩ ⟨j1, j2, j3⟩
      simp only [go_sem, h.hP, List.cons_append, List.nil_append, Meets_e, Below_e, Prod.exists, exists_eq, exists_eq_left, exists_eq_left', exists_eq_right, exists_eq_right', exists_and_left, exists_and_right, Ob.arr.injEq, AV.own.injEq, AV.fv.injEq, signR_q, signR_p, signR_c, signR_f, ixSp_q, ixSp_p, ixSp_c, ixSp_f, Tryz.ntmps86, Nat.reduceEqDiff, reduceCtorEq, Nat.reduceMul, Nat.reduceAdd, Nat.reduceSub, Nat.reduceDiv, Nat.reduceMod, Nat.reduceLeDiff, Nat.reduceLT, Nat.reduceBNe, Nat.reduceBEq, reduceIte, Int.reduceLE, Int.reduceLT, Int.reduceToNat, Int.reduceNeg, Int.reduceAdd, Int.reduceSub, Int.reduceMul, Int.reduceEq]
      have hs1 := sumUp_in h2 i.toNat (by omega)
      refine ⟨fun c => ?_, fun c => ?_⟩
      · have hm := all_at h2 j1 c
        rw [ix_lit hm]
        have hx := idxC_in hm
        have ht := sumUp_step s j1
        have hterm : termS s i.toNat = if ((s.size : Int) - i) % 2 = 1 then idxC (bt s i) * 2 / 36 + idxC (bt s i) * 2 % 36 else idxC (bt s i) / 36 + idxC (bt s i) % 36 := by
          unfold termS
          simp only
          rw [Int.toNat_of_nonneg j1]
          by_cases e : ((s.size : Int) - i) % 2 = 1
          · rw [if_pos e, if_pos (by omega), Int.mul_comm]
          · rw [if_neg e, if_neg (by omega)]
        generalize idxC (bt s i) = x at *
        rw [i64w (n := (s.size : Int) - i) (by omega) (by omega), tmodN (by omega), i64w (n := i + 1) (by omega) (by omega)]
        refine ⟨j1, c, fun e => ?_, fun e => ?_⟩
        · rw [if_pos e] at hterm
          rw [i64w (n := x * 2) (by omega) (by omega), tdivN (by omega), tmodN (by omega), i64w (n := x * 2 / 36) (by omega) (by omega), i64w (n := x * 2 / 36 + x * 2 % 36) (by omega) (by omega), i64w (n := u + (x * 2 / 36 + x * 2 % 36)) (by omega) (by omega)]
          exact ⟨by omega, by omega, by omega, by omega⟩
        · rw [if_neg e] at hterm
          rw [tdivN (by omega), tmodN (by omega), i64w (n := x / 36) (by omega) (by omega), i64w (n := x / 36 + x % 36) (by omega) (by omega), i64w (n := u + (x / 36 + x % 36)) (by omega) (by omega)]
          exact ⟨by omega, by omega, by omega, by omega⟩
      · have hi : i.toNat = s.size := by omega
        rw [hi] at j3
        have hsg := signN_in s
        have e1 : (36 - u % 36) % 36 = signN s := by
          unfold signN
          rw [j3]
        refine vc_loopT (Int) (fun (c : Int) => [(32, .i c)]) [] (fun (c : Int) => []) (fun (c : Int) => []) (fun (c : Int) => 0) (fun (c : Int) => 0 ≤ c ∧ c ≤ signN s) (fun (c : Int) => (36 - c).toNat) [] ?_ ?_
        · simp only [go_sem, h.hP, List.cons_append, List.nil_append, Meets_e, Below_e, Prod.exists, exists_eq, exists_eq_left, exists_eq_left', exists_eq_right, exists_eq_right', exists_and_left, exists_and_right, Ob.arr.injEq, AV.own.injEq, AV.fv.injEq, Tryz.ntmps86, Nat.reduceEqDiff, reduceCtorEq, Nat.reduceMul, Nat.reduceAdd, Nat.reduceSub, Nat.reduceDiv, Nat.reduceMod, Nat.reduceLeDiff, Nat.reduceLT, Nat.reduceBNe, Nat.reduceBEq, reduceIte, Int.reduceLE, Int.reduceLT, Int.reduceToNat, Int.reduceNeg, Int.reduceAdd, Int.reduceSub, Int.reduceMul, Int.reduceEq]
          exact hsg.1
        · rintro d ⟨k1, k2⟩
          have hs2 := sumUp_in h2 s.size (Nat.le_refl _)
          simp only [go_sem, h.hP, List.cons_append, List.nil_append, Meets_e, Below_e, Prod.exists, exists_eq, exists_eq_left, exists_eq_left', exists_eq_right, exists_eq_right', exists_and_left, exists_and_right, Ob.arr.injEq, AV.own.injEq, AV.fv.injEq, signR_q, signR_p, signR_c, signR_f, Tryz.ntmps86, Nat.reduceEqDiff, reduceCtorEq, Nat.reduceMul, Nat.reduceAdd, Nat.reduceSub, Nat.reduceDiv, Nat.reduceMod, Nat.reduceLeDiff, Nat.reduceLT, Nat.reduceBNe, Nat.reduceBEq, reduceIte, Int.reduceLE, Int.reduceLT, Int.reduceToNat, Int.reduceNeg, Int.reduceAdd, Int.reduceSub, Int.reduceMul, Int.reduceEq]
          refine ⟨fun q => ?_, fun q => by omega⟩
          rw [i64w (n := u + d) (by omega) (by omega), tmodN (by omega), i64w (n := d + 1) (by omega) (by omega)]
          exact ⟨fun e => by omega, fun e => ⟨by omega, by omega, by omega⟩⟩
end Go.Avc

namespace Go.Avc
open Go Go.Proofs

/-! ### Plain law -/
def ascZ (l : List TShift) : Prop := ∀ i j : Nat, i ≤ j → j < l.length → (l.getD i TShift.z).at_ ≤ (l.getD j TShift.z).at_
structure OkZ (l : List TShift) : Prop where
  one : 1 ≤ l.length
  few : l.length ≤ 100
  asc : ascZ l
  fst : (l.getD 0 TShift.z).at_ = 0
  offs : ∀ i : Nat, i < l.length → -720 ≤ (l.getD i TShift.z).offset ∧ (l.getD i TShift.z).offset ≤ 840
  tops : ∀ i : Nat, i < l.length → (l.getD i TShift.z).at_ ≤ 4321439
theorem okZ {z : TZone} (h : zoneF z = 0) : OkZ z.shifts := by
  unfold zoneF at h
  split at h
  · cases h
  split at h
  · cases h
  split at h
  · cases h
  rename_i c1 c2 c3
  have hz := firstI_zero h
  have hstep : ∀ i : Nat, i + 1 < z.shifts.length → (z.shifts.getD i TShift.z).at_ ≤ (z.shifts.getD (i + 1) TShift.z).at_ := fun i hi => by
    have := hz (i + 1) hi
    unfold shE at this
    split at this
    · cases this
    split at this
    · cases this
    split at this
    · cases this
    rename_i d1 d2 d3
    rw [Nat.add_sub_cancel] at d3
    have : ¬ (z.shifts.getD (i + 1) TShift.z).at_ < (z.shifts.getD i TShift.z).at_ + 1800 := fun e => d3 ⟨by omega, e⟩
    omega
  refine ⟨by omega, by omega, ?_, ?_, fun i hi => ⟨(shE_in (hz i hi)).2.2.1, (shE_in (hz i hi)).2.2.2⟩, fun i hi => (shE_in (hz i hi)).2.1⟩
  · intro i j hij
    induction j with
    | zero =>
      intro _
      obtain rfl : i = 0 := by omega
      exact Int.le_refl _
    | succ j ih =>
      intro hj
      by_cases e : i = j + 1
      · subst e; exact Int.le_refl _
      · exact Int.le_trans (ih (by omega) (by omega)) (hstep j hj)
  · have := hz 0 (by omega)
    unfold shE at this
    split at this
    · cases this
    split at this
    · cases this
    rename_i d1 d2
    exact Decidable.not_not.1 (fun e => d2 ⟨rfl, e⟩)
/-- The first shift that is still to come. -/
def srchN (l : List TShift) (m : Int) : Nat := l.findIdx fun s => decide (m < s.at_)
theorem srchN_is {l : List TShift} {m i : Int} (h0 : 0 ≤ i) (h1 : i ≤ l.length) (h2 : ∀ k : Nat, (k : Int) < i → (l.getD k TShift.z).at_ ≤ m) (h3 : ∀ k : Nat, i ≤ (k : Int) → k < l.length → m < (l.getD k TShift.z).at_) : i = (srchN l m : Int) := by
  obtain ⟨n, rfl⟩ : ∃ n : Nat, i = n := ⟨i.toNat, by omega⟩
  have h1' : n ≤ l.length := by omega
  congr 1
  symm
  unfold srchN
  have hb : ∀ k : Nat, k < n → ∃ hk : k < l.length, decide (m < (l[k]'hk).at_) = false := fun k hk => by
    have := h2 k (by omega)
    rw [List.getD_eq_getElem?_getD, List.getElem?_eq_getElem (by omega), Option.getD_some] at this
    exact ⟨by omega, decide_eq_false (by omega)⟩
  by_cases e : n = l.length
  · subst e
    rw [List.findIdx_eq_length]
    intro x hx
    obtain ⟨k, hk, rfl⟩ := List.mem_iff_getElem.1 hx
    exact (hb k hk).2
  · have hn : n < l.length := by omega
    rw [List.findIdx_eq hn]
    refine ⟨?_, fun j hj => (hb j hj).2⟩
    have := h3 n (by omega) hn
    rw [List.getD_eq_getElem?_getD, List.getElem?_eq_getElem hn, Option.getD_some] at this
    exact decide_eq_true this
theorem srchN_le (l : List TShift) (m : Int) : srchN l m ≤ l.length := List.findIdx_le_length
theorem srchN_lt {l : List TShift} {m : Int} {k : Nat} (h : k < srchN l m) : (l.getD k TShift.z).at_ ≤ m := by
  have hl : k < l.length := Nat.lt_of_lt_of_le h (srchN_le l m)
  have := List.not_of_lt_findIdx h
  rw [List.getD_eq_getElem?_getD, List.getElem?_eq_getElem hl, Option.getD_some]
  simpa using this
theorem srchN_ge {l : List TShift} {m : Int} (ha : ascZ l) {k : Nat} (h : srchN l m ≤ k) (hk : k < l.length) : m < (l.getD k TShift.z).at_ := by
  have h0 : srchN l m < l.length := Nat.lt_of_le_of_lt h hk
  have := List.findIdx_getElem (w := h0)
  have h2 := ha _ _ h hk
  rw [List.getD_eq_getElem?_getD, List.getElem?_eq_getElem h0, Option.getD_some] at h2
  have := of_decide_eq_true this
  exact Int.lt_of_lt_of_le this h2
theorem srchN_pos {l : List TShift} {m : Int} (h : OkZ l) (hm : 0 ≤ m) : 1 ≤ srchN l m := by
  rcases Nat.eq_zero_or_pos (srchN l m) with e | e
  · have := srchN_ge (m := m) h.asc (k := 0) (by omega) (by have := h.one; omega)
    rw [h.fst] at this
    omega
  · exact e
def locF (l : List TShift) (m : Int) : Int := m + (l.getD (srchN l m - 1) TShift.z).offset
theorem locF_le {l : List TShift} {m : Int} (h : OkZ l) (hm : 0 ≤ m) : m - 720 ≤ locF l m ∧ locF l m ≤ m + 840 := by
  have h1 := srchN_pos h hm
  have h2 := srchN_le l m
  have := h.offs (srchN l m - 1) (by omega)
  unfold locF
  omega
/-! ### The program -/
def locS : Spec where
  pre xs := ∃ (i : Int) (z : TZone) (m : Int), xs = [.i i, .dp z.row, .dp [.int .i64 m]] ∧ 0 ≤ i ∧ i < z.shifts.length
  post xs r := ∃ (i : Int) (z : TZone) (m : Int), xs = [.i i, .dp z.row, .dp [.int .i64 m]] ∧ r = .b (decide (m < (z.shifts.getD i.toNat TShift.z).at_))
  cost _ := 0
  fresh := true
theorem locS_c (xs : List AV) : locS.cost xs = 0 := nr rfl
theorem locS_f : locS.fresh = true := nr rfl
theorem LocalAt1_ctr {cx : Cx} (h : Seat cx) : Ctr cx 158 locS := by
  refine ctr_of (fn := Tryz.f158) (l := [.tmp 4]) (envL []) [0, 1, 2, 4] [] [] (env0 h.hP) ?_ (by rw [h.hP]; exact Tryz.func158) rfl (by kernel_rfl) rfl ?_ ?_
  · rw [h.hP]; exact ⟨_, Tryz.func158, by kernel_rfl, by kernel_rfl⟩
  · rintro xs ⟨i, z, m, rfl, h1⟩; exact ⟨_, i, z, m, rfl, rfl⟩
  · rintro xs ⟨i, z, m, rfl, h1, h2⟩
    refine ⟨by rw [Tryz.ntmps158]; simp, ?_⟩
    simp only [go_sem, h.hP, List.cons_append, List.nil_append, Meets_e, Below_e, Prod.exists, exists_eq, exists_eq_left, exists_eq_left', exists_eq_right, exists_eq_right', exists_and_left, exists_and_right, Ob.arr.injEq, AV.own.injEq, AV.fv.injEq, TZone.row, TShift.len, TShift.get, locS_c, locS_f, Tryz.ntmps158, Nat.reduceEqDiff, reduceCtorEq, Nat.reduceMul, Nat.reduceAdd, Nat.reduceSub, Nat.reduceDiv, Nat.reduceMod, Nat.reduceLeDiff, Nat.reduceLT, Nat.reduceBNe, Nat.reduceBEq, reduceIte, Int.reduceLE, Int.reduceLT, Int.reduceToNat, Int.reduceNeg, Int.reduceAdd, Int.reduceSub, Int.reduceMul, Int.reduceEq]
    exact ⟨h1, h2, i, z, m, rfl, rfl⟩
def locΦ (caps : List (List D)) : FSpec where
  pre xs := ∃ (z : TZone) (m i : Int), caps = [z.row, [.int .i64 m]] ∧ xs = [.d (.int .i64 i)] ∧ 0 ≤ i ∧ i < z.shifts.length
  post xs r := ∃ (z : TZone) (m i : Int), caps = [z.row, [.int .i64 m]] ∧ xs = [.d (.int .i64 i)] ∧ r = .d (.bool (decide (m < (z.shifts.getD i.toNat TShift.z).at_)))
theorem locΦ_of {cx : Cx} {fn : FuncId} (h : Ctr cx fn locS) (caps : List (List D)) : Ctr cx fn (clo locΦ caps) := by
  refine h.weaken (fun xs hx => ?_) (fun xs r hx hr => ?_) (fun _ => Nat.le_refl _) rfl
  · obtain ⟨ys, rfl, z, m, i, rfl, rfl, h1, h2⟩ := hx
    exact ⟨i, z, m, rfl, h1, h2⟩
  · obtain ⟨ys, rfl, z, m, i, rfl, rfl, h1, h2⟩ := hx
    obtain ⟨i', z', m', e, rfl⟩ := hr
    simp only [List.map_cons, List.map_nil, List.cons_append, List.nil_append, List.cons.injEq, AV.dv.injEq, AV.dp.injEq, DV.d.injEq, D.int.injEq, true_and, and_true] at e
    obtain ⟨rfl, e1, rfl⟩ := e
    obtain rfl := TZone.inj e1
    exact ⟨_, _, rfl, rfl, _, _, _, rfl, rfl, rfl⟩
theorem locΦ_pre (z : TZone) (m i : Int) : (locΦ [[.str z.name, .sl (TShift.rows z.shifts)], [.int .i64 m]]).pre [.d (.int .i64 i)] = (0 ≤ i ∧ i < z.shifts.length) := by
  apply propext
  constructor
  · rintro ⟨z', m', i', e1, e2, h1, h2⟩
    simp only [List.cons.injEq, DV.d.injEq, D.int.injEq, true_and, and_true] at e1 e2
    obtain rfl := TZone.inj (x := z) e1.1
    subst e2
    exact ⟨h1, h2⟩
  · rintro ⟨h1, h2⟩
    exact ⟨z, m, i, rfl, rfl, h1, h2⟩
theorem locΦ_post (z : TZone) (m i : Int) (y : DV) : (locΦ [[.str z.name, .sl (TShift.rows z.shifts)], [.int .i64 m]]).post [.d (.int .i64 i)] y = (y = .d (.bool (decide (m < (z.shifts.getD i.toNat TShift.z).at_)))) := by
  apply propext
  constructor
  · rintro ⟨z', m', i', e1, e2, rfl⟩
    simp only [List.cons.injEq, DV.d.injEq, D.int.injEq, true_and, and_true] at e1 e2
    obtain ⟨e1, rfl⟩ := e1
    obtain rfl := TZone.inj (x := z) e1
    subst e2
    rfl
  · rintro rfl
    exact ⟨z, m, i, rfl, rfl, rfl⟩
def searchS : Spec where
  pre xs := ∃ (z : TZone) (m : Int), xs = [.i z.shifts.length, .fv (locΦ [z.row, [.int .i64 m]])] ∧ ascZ z.shifts ∧ z.shifts.length ≤ 100
  post xs r := ∃ (z : TZone) (m : Int), xs = [.i z.shifts.length, .fv (locΦ [z.row, [.int .i64 m]])] ∧ ascZ z.shifts ∧ r = .i (srchN z.shifts m)
  cost _ := 0
  fresh := true
theorem searchS_c (xs : List AV) : searchS.cost xs = 0 := nr rfl
theorem searchS_f : searchS.fresh = true := nr rfl
theorem searchS_q (z : TZone) (m : Int) (h1 : ascZ z.shifts) (h2 : z.shifts.length ≤ 100) : searchS.pre [.i z.shifts.length, .fv (locΦ [[.str z.name, .sl (TShift.rows z.shifts)], [.int .i64 m]])] = True := eq_true ⟨z, m, rfl, h1, h2⟩
theorem searchS_p (z : TZone) (m : Int) (h1 : ascZ z.shifts) : searchS.post [.i z.shifts.length, .fv (locΦ [[.str z.name, .sl (TShift.rows z.shifts)], [.int .i64 m]])] = fun r => r = .i (srchN z.shifts m) := by
  funext r
  apply propext
  constructor
  · rintro ⟨z', m', e, h2, rfl⟩
    simp only [List.cons.injEq, AV.dv.injEq, DV.d.injEq, D.int.injEq, AV.fv.injEq, true_and, and_true] at e
    obtain ⟨e1, e2⟩ := e
    have e1' : z.shifts.length = z'.shifts.length := by omega
    have hd : ∀ k : Nat, (m < (z.shifts.getD k TShift.z).at_) = (m' < (z'.shifts.getD k TShift.z).at_) := fun k => by
      have a1 := locΦ_post z m k (.d (.bool true))
      have a2 := locΦ_post z' m' k (.d (.bool true))
      have e3 : locΦ [[D.str z.name, D.sl (TShift.rows z.shifts)], [D.int IntKind.i64 m]] = locΦ [[D.str z'.name, D.sl (TShift.rows z'.shifts)], [D.int IntKind.i64 m']] := e2
      rw [e3] at a1
      have a3 := a1.symm.trans a2
      simp only [DV.d.injEq, D.bool.injEq, Int.toNat_natCast] at a3
      simpa [eq_comm] using a3
    congr 1
    have hs := srchN_le z'.shifts m'
    have := srchN_is (l := z.shifts) (m := m) (i := srchN z'.shifts m') (by omega) (by omega) (fun k hk => ?_) (fun k hk hl => ?_)
    · rw [this]
    · have := srchN_lt (l := z'.shifts) (m := m') (k := k) (by omega)
      have h := hd k
      exact Int.not_lt.1 (fun w => by rw [h] at w; omega)
    · rw [hd k]
      exact srchN_ge h2 (by omega) (by omega)
  · rintro rfl
    exact ⟨z, m, rfl, h1, rfl⟩
theorem u64z {n : Int} (h1 : 0 ≤ n) (h2 : n ≤ 9223372036854775807) : IntKind.u64.wrap n = n := by rw [IntKind.wrap_u64]; omega
theorem search_ctr {cx : Cx} (h : Seat cx) : Ctr cx 157 searchS := by
  refine ctr_of (fn := Tryz.f157) (l := [.tmp 4]) (envL []) [0, 1, 4, 5, 6, 7, 11, 21] [] [] (env0 h.hP) ?_ (by rw [h.hP]; exact Tryz.func157) rfl (by kernel_rfl) rfl ?_ ?_
  · rw [h.hP]; exact ⟨_, Tryz.func157, by kernel_rfl, by kernel_rfl⟩
  · rintro xs ⟨z, m, rfl, h1⟩; exact ⟨_, z, m, rfl, h1.1, rfl⟩
  · rintro xs ⟨z, m, rfl, h1, h2⟩
    refine ⟨by rw [Tryz.ntmps157]; simp, ?_⟩
    simp only [go_sem, h.hP, List.cons_append, List.nil_append, Meets_e, Below_e, Prod.exists, exists_eq, exists_eq_left, exists_eq_left', exists_eq_right, exists_eq_right', exists_and_left, exists_and_right, Ob.arr.injEq, AV.own.injEq, AV.fv.injEq, searchS_c, searchS_f, TZone.row, Tryz.ntmps157, Nat.reduceEqDiff, reduceCtorEq, Nat.reduceMul, Nat.reduceAdd, Nat.reduceSub, Nat.reduceDiv, Nat.reduceMod, Nat.reduceLeDiff, Nat.reduceLT, Nat.reduceBNe, Nat.reduceBEq, reduceIte, Int.reduceLE, Int.reduceLT, Int.reduceToNat, Int.reduceNeg, Int.reduceAdd, Int.reduceSub, Int.reduceMul, Int.reduceEq]
    refine vc_loopS (Int × Int) (fun (x : Int × Int) => match x with | (i, j) => [(5, .i i), (6, .i j)]) [] (fun (x : Int × Int) => match x with | (i, j) => []) (fun (x : Int × Int) => match x with | (i, j) => []) (fun (x : Int × Int) => match x with | (i, j) => 0) (fun (x : Int × Int) => match x with | (i, j) => 0 ≤ i ∧ i ≤ j ∧ j ≤ z.shifts.length ∧ (∀ k : Nat, (k : Int) < i → (z.shifts.getD k TShift.z).at_ ≤ m) ∧ (∀ k : Nat, j ≤ (k : Int) → k < z.shifts.length → m < (z.shifts.getD k TShift.z).at_)) (fun (x : Int × Int) => match x with | (i, j) => (j - i).toNat) [] ?_ ?_
    · simp only [go_sem, h.hP, List.cons_append, List.nil_append, Meets_e, Below_e, Prod.exists, exists_eq, exists_eq_left, exists_eq_left', exists_eq_right, exists_eq_right', exists_and_left, exists_and_right, Ob.arr.injEq, AV.own.injEq, AV.fv.injEq, TShift.len, Tryz.ntmps157, Nat.reduceEqDiff, reduceCtorEq, Nat.reduceMul, Nat.reduceAdd, Nat.reduceSub, Nat.reduceDiv, Nat.reduceMod, Nat.reduceLeDiff, Nat.reduceLT, Nat.reduceBNe, Nat.reduceBEq, reduceIte, Int.reduceLE, Int.reduceLT, Int.reduceToNat, Int.reduceNeg, Int.reduceAdd, Int.reduceSub, Int.reduceMul, Int.reduceEq]
      exact ⟨by omega, by omega, fun k hk => by omega, fun k a b => by omega⟩
    · rintro ⟨i, j⟩ ⟨j1, j2, j3, j4, j5⟩
      simp only [go_sem, h.hP, List.cons_append, List.nil_append, Meets_e, Below_e, Prod.exists, exists_eq, exists_eq_left, exists_eq_left', exists_eq_right, exists_eq_right', exists_and_left, exists_and_right, Ob.arr.injEq, AV.own.injEq, AV.fv.injEq, searchS_c, searchS_f, locΦ_pre, locΦ_post, TZone.row, Tryz.ntmps157, Nat.reduceEqDiff, reduceCtorEq, Nat.reduceMul, Nat.reduceAdd, Nat.reduceSub, Nat.reduceDiv, Nat.reduceMod, Nat.reduceLeDiff, Nat.reduceLT, Nat.reduceBNe, Nat.reduceBEq, reduceIte, Int.reduceLE, Int.reduceLT, Int.reduceToNat, Int.reduceNeg, Int.reduceAdd, Int.reduceSub, Int.reduceMul, Int.reduceEq]
      refine ⟨fun c => ?_, fun c => ⟨z, m, rfl, h1, by rw [srchN_is j1 (by omega) j4 (fun k a b => j5 k (by omega) b)]⟩⟩
      rw [i64w (n := i + j) (by omega) (by omega), u64z (n := i + j) (by omega) (by omega), i64w (n := (i + j) / 2) (by omega) (by omega)]
      obtain ⟨q, hq⟩ : ∃ q : Int, q = (i + j) / 2 := ⟨_, rfl⟩
      rw [← hq]
      have q1 : i ≤ q := by omega
      have q2 : q < j := by omega
      clear hq
      rw [i64w (n := q + 1) (by omega) (by omega)]
      refine ⟨by omega, by omega, fun d => ⟨by omega, by omega, j3, fun k hk => ?_, j5, by omega⟩, fun d => ⟨j1, q1, by omega, j4, fun k a b => ?_, by omega⟩⟩
      · have := h1 k q.toNat (by omega) (by omega)
        omega
      · have := h1 q.toNat k (by omega) b
        omega
def localS  : Spec where
  pre xs := ∃ (z : TZone) (m : Int), xs = [.dv (.ag z.row), .i m] ∧ (OkZ z.shifts ∧ 0 ≤ m ∧ m ≤ 4321440)
  post xs y := ∃ (z : TZone) (m : Int), xs = [.dv (.ag z.row), .i m] ∧ y = .i (locF z.shifts m)
  cost _ := 0
  fresh := true
theorem localS_c  (xs : List AV) : (localS).cost xs = 0 := nr rfl
theorem localS_f  : (localS).fresh = true := nr rfl
theorem localS_q  (z : TZone) (m : Int) : (localS).pre [.dv (.ag [.str z.name, .sl (TShift.rows z.shifts)]), .i m] = (OkZ z.shifts ∧ 0 ≤ m ∧ m ≤ 4321440) := propext ⟨fun h => by
  have h' : ∃ (z' : TZone) (m' : Int), ([.dv (.ag z.row), .i m] : List AV) = [.dv (.ag z'.row), .i m'] ∧ (OkZ z'.shifts ∧ 0 ≤ m' ∧ m' ≤ 4321440) := h
  obtain ⟨z', m', e, h⟩ := h'
  simp only [List.cons.injEq, AV.dv.injEq, AV.dp.injEq, AV.fv.injEq, DV.d.injEq, DV.ag.injEq, D.int.injEq, D.str.injEq, D.bool.injEq, D.sl.injEq, true_and, and_true, intsDi_inj, rowsT_inj, rowsKi_inj, TZone.row_inj, TZone.rows_inj] at e
  obtain ⟨rfl, rfl⟩ := e
  exact h, fun h => ⟨z, m, rfl, h⟩⟩
theorem localS_p  (z : TZone) (m : Int) : (localS).post [.dv (.ag [.str z.name, .sl (TShift.rows z.shifts)]), .i m] = fun y => y = .i (locF z.shifts m) := funext fun y => propext ⟨fun h => by
  have h' : ∃ (z' : TZone) (m' : Int), ([.dv (.ag z.row), .i m] : List AV) = [.dv (.ag z'.row), .i m'] ∧ y = .i (locF z'.shifts m') := h
  obtain ⟨z', m', e, h⟩ := h'
  simp only [List.cons.injEq, AV.dv.injEq, AV.dp.injEq, AV.fv.injEq, DV.d.injEq, DV.ag.injEq, D.int.injEq, D.str.injEq, D.bool.injEq, D.sl.injEq, true_and, and_true, intsDi_inj, rowsT_inj, rowsKi_inj, TZone.row_inj, TZone.rows_inj] at e
  obtain ⟨rfl, rfl⟩ := e
  exact h, fun h => ⟨z, m, rfl, h⟩⟩
theorem LocalAt_ctr {cx : Cx} (h : Seat cx) : Ctr cx 113 localS := by
  refine ctr_of (fn := Tryz.f113) (l := [.tmp 4]) (envF [(157, searchS)] [(158, locΦ)]) [0, 1, 2, 3, 4, 5] [] [] (envF_cons (locΦ_of (LocalAt1_ctr h)) (envF_nil (envL_cons (search_ctr h) (env0 h.hP)))) ?_ (by rw [h.hP]; exact Tryz.func113) rfl (by kernel_rfl) rfl ?_ ?_
  · rw [h.hP]; exact ⟨_, Tryz.func113, by kernel_rfl, by kernel_rfl⟩
  · rintro xs ⟨z, m, rfl, h1⟩; exact ⟨_, z, m, rfl, rfl⟩
  · rintro xs ⟨z, m, rfl, h1, h2, h3⟩
    have hq := searchS_q z m h1.asc h1.few
    have hp := searchS_p z m h1.asc
    refine ⟨by rw [Tryz.ntmps113]; simp, ?_⟩
    simp only [go_sem, h.hP, List.cons_append, List.nil_append, Meets_e, Below_e, Prod.exists, exists_eq, exists_eq_left, exists_eq_left', exists_eq_right, exists_eq_right', exists_and_left, exists_and_right, Ob.arr.injEq, AV.own.injEq, AV.fv.injEq, localS_q, localS_p, localS_c, localS_f, searchS_c, searchS_f, hq, hp, TZone.row, TShift.len, TShift.get, Tryz.ntmps113, Nat.reduceEqDiff, reduceCtorEq, Nat.reduceMul, Nat.reduceAdd, Nat.reduceSub, Nat.reduceDiv, Nat.reduceMod, Nat.reduceLeDiff, Nat.reduceLT, Nat.reduceBNe, Nat.reduceBEq, reduceIte, Int.reduceLE, Int.reduceLT, Int.reduceToNat, Int.reduceNeg, Int.reduceAdd, Int.reduceSub, Int.reduceMul, Int.reduceEq]
    have k1 := srchN_pos h1 h2
    have k2 := srchN_le z.shifts m
    have k3 := h1.few
    rw [i64w (n := (srchN z.shifts m : Int) - 1) (by omega) (by omega)]
    have k4 := locF_le h1 h2
    have k5 : ((srchN z.shifts m : Int) - 1).toNat = srchN z.shifts m - 1 := by omega
    rw [k5]
    refine ⟨by omega, by omega, ?_⟩
    unfold locF at *
    exact i64w (by omega) (by omega)
end Go.Avc

namespace Go.Avc
open Go Go.Proofs

def idS  : Spec where
  pre xs := ∃ (x : TId), xs = [.dv (.ag x.row)] ∧ (x.ok)
  post xs y := ∃ (x : TId), xs = [.dv (.ag x.row)] ∧ y = .i (idF x)
  cost _ := 0
  fresh := true
theorem idS_c  (xs : List AV) : (idS).cost xs = 0 := nr rfl
theorem idS_f  : (idS).fresh = true := nr rfl
theorem idS_q  (x : TId) : (idS).pre [.dv (.ag [.int .i64 x.kind, .str x.text])] = (x.ok) := propext ⟨fun h => by
  have h' : ∃ (x' : TId), ([.dv (.ag x.row)] : List AV) = [.dv (.ag x'.row)] ∧ (x'.ok) := h
  obtain ⟨x', e, h⟩ := h'
  simp only [List.cons.injEq, AV.dv.injEq, AV.dp.injEq, AV.fv.injEq, DV.d.injEq, DV.ag.injEq, D.int.injEq, D.str.injEq, D.bool.injEq, D.sl.injEq, true_and, and_true, intsDi_inj, rowsT_inj, rowsKi_inj, TId.row_inj, TId.rows_inj] at e
  obtain rfl := e
  exact h, fun h => ⟨x, rfl, h⟩⟩
theorem idS_p  (x : TId) : (idS).post [.dv (.ag [.int .i64 x.kind, .str x.text])] = fun y => y = .i (idF x) := funext fun y => propext ⟨fun h => by
  have h' : ∃ (x' : TId), ([.dv (.ag x.row)] : List AV) = [.dv (.ag x'.row)] ∧ y = .i (idF x') := h
  obtain ⟨x', e, h⟩ := h'
  simp only [List.cons.injEq, AV.dv.injEq, AV.dp.injEq, AV.fv.injEq, DV.d.injEq, DV.ag.injEq, D.int.injEq, D.str.injEq, D.bool.injEq, D.sl.injEq, true_and, and_true, intsDi_inj, rowsT_inj, rowsKi_inj, TId.row_inj, TId.rows_inj] at e
  obtain rfl := e
  exact h, fun h => ⟨x, rfl, h⟩⟩
set_option maxHeartbeats 4000000 in
theorem CheckId_ctr {cx : Cx} (h : Seat cx) (hM : MaxL cx) : Ctr cx 79 idS := by
  refine ctr_of (fn := Tryz.f79) (l := [.tmp 2]) (envL [(127, (strB4 mailB)), (128, (strB4 phoneB)), (129, (strB4 memberB)), (130, (strB4 deviceB)), (131, signP)]) [0, 1, 2, 3, 4, 6, 7, 12, 17, 22, 28, 47] [] [] (envL_cons (isMail_ctr h hM) (envL_cons (isPhone_ctr h) (envL_cons (isMember_ctr h) (envL_cons (isDevice_ctr h) (envL_cons (pcheckSign_ctr h) (env0 h.hP)))))) ?_ (by rw [h.hP]; exact Tryz.func79) rfl (by kernel_rfl) rfl ?_ ?_
  · rw [h.hP]; exact ⟨_, Tryz.func79, by kernel_rfl, by kernel_rfl⟩
  · rintro xs ⟨x, rfl, h1⟩; exact ⟨_, x, rfl, rfl⟩
  · rintro xs ⟨x, rfl, h1⟩
    obtain ⟨o1, o2⟩ := h1
    refine ⟨by rw [Tryz.ntmps79]; simp, ?_⟩
    simp only [go_sem, h.hP, List.cons_append, List.nil_append, Meets_e, Below_e, Prod.exists, exists_eq, exists_eq_left, exists_eq_left', exists_eq_right, exists_eq_right', exists_and_left, exists_and_right, Ob.arr.injEq, AV.own.injEq, AV.fv.injEq, idS_q, idS_p, idS_c, idS_f, strB4_q, strB4_p, strB4_c, strB4_f, signP_q, signP_p, signP_c, signP_f, TId.row, Tryz.ntmps79, Nat.reduceEqDiff, reduceCtorEq, Nat.reduceMul, Nat.reduceAdd, Nat.reduceSub, Nat.reduceDiv, Nat.reduceMod, Nat.reduceLeDiff, Nat.reduceLT, Nat.reduceBNe, Nat.reduceBEq, reduceIte, Int.reduceLE, Int.reduceLT, Int.reduceToNat, Int.reduceNeg, Int.reduceAdd, Int.reduceSub, Int.reduceMul, Int.reduceEq]
    unfold okS at o2
    have m0 : memberB x.text = true → 4 ≤ (x.text.size : Int) ∧ (x.text.size : Int) ≤ 20 ∧ (bl x.text).all memC = true := fun e => by
      unfold memberB at e
      rw [Bool.and_eq_true] at e
      have := inB_iff.1 e.1
      exact ⟨this.1, this.2, e.2⟩
    have hI : 4 ≤ (x.text.size : Int) → x.text.extract 0 (IntKind.i64.wrap ((x.text.size : Int) - 1)).toNat = initS x.text := fun e => by
      rw [i64w (n := (x.text.size : Int) - 1) (by omega) (by omega), show ((x.text.size : Int) - 1).toNat = x.text.size - 1 by omega]
      rfl
    have hIs : (initS x.text).size ≤ x.text.size := by unfold initS; rw [ByteArray.size_extract]; omega
    have hIm : (bl x.text).all memC = true → (bl (initS x.text)).all memC = true := fun e => by
      unfold initS
      rw [bl_extract, List.drop_zero]
      rw [List.all_eq_true] at e ⊢
      exact fun y hy => e y (List.mem_of_mem_take hy)
    have e1 : x.kind = 1 → idF x = if mailB x.text = true then 0 else 3 := fun c => if_pos c
    have e2 : ¬ x.kind = 1 → x.kind = 2 → idF x = if phoneB x.text = true then 0 else 3 := fun c d => (if_neg c).trans (if_pos d)
    have e3 : ¬ x.kind = 1 → ¬ x.kind = 2 → x.kind = 3 → idF x = if memberB x.text = true then (if bt signsB (signN (initS x.text)) ≠ bt x.text ((x.text.size : Int) - 1) then 15 else 0) else 3 := fun c d e => (if_neg c).trans ((if_neg d).trans (if_pos e))
    have e4 : ¬ x.kind = 1 → ¬ x.kind = 2 → ¬ x.kind = 3 → idF x = if x.kind = 4 then (if deviceB x.text = true then 0 else 3) else 4 := fun c d e => (if_neg c).trans ((if_neg d).trans (if_neg e))
    generalize idF x = R at *
    refine ⟨fun c1 => ⟨by omega, fun c => ?_, fun c => ⟨fun d => by omega, fun _ => ?_⟩⟩, fun c1 => ⟨fun c2 => ⟨by omega, fun c => ?_, fun c => ⟨fun d => by omega, fun _ => ?_⟩⟩, fun c2 => ⟨fun c3 => ⟨by omega, fun c => ?_, fun c => ⟨fun _ => ?_, fun d => absurd c3 d⟩⟩, fun c3 => ⟨fun c4 => ⟨by omega, fun c => ?_, fun c => ⟨fun d => absurd d c3, fun _ => ?_⟩⟩, fun c4 => ?_⟩⟩⟩⟩
    · rw [e1 c1, if_neg (ne_tf c)]
    · rw [e1 c1, if_pos c]
    · rw [e2 c1 c2, if_neg (ne_tf c)]
    · rw [e2 c1 c2, if_pos c]
    · rw [e3 c1 c2 c3, if_neg (ne_tf c)]
    · obtain ⟨n1, n2, n3⟩ := m0 c
      rw [hI n1, i64w (n := (x.text.size : Int) - 1) (by omega) (by omega), e3 c1 c2 c3, if_pos c]
      exact ⟨by omega, by omega, by omega, hIm n3, by omega, by omega, fun q => (if_pos q).symm, fun q => (if_neg (fun z => z q)).symm⟩
    · rw [e4 c1 c2 c3, if_pos c4, if_neg (ne_tf c)]
    · rw [e4 c1 c2 c3, if_pos c4, if_pos c]
    · rw [e4 c1 c2 c3, if_neg c4]
/-! ### Comparisons -/
def nanT  : Spec where
  pre xs := ∃ (s : ByteArray), xs = [.str s]
  post xs y := ∃ (s : ByteArray), xs = [.str s] ∧ y = .b false
  cost _ := 0
  fresh := true
theorem nanT_c  (xs : List AV) : (nanT).cost xs = 0 := nr rfl
theorem nanT_f  : (nanT).fresh = true := nr rfl
theorem nanT_q  (s : ByteArray) : (nanT).pre [.str s] = (True) := propext ⟨fun h => by
  have h' : ∃ (s' : ByteArray), ([.str s] : List AV) = [.str s'] := h
  obtain ⟨s', e⟩ := h'
  simp only [List.cons.injEq, AV.dv.injEq, AV.dp.injEq, AV.fv.injEq, DV.d.injEq, DV.ag.injEq, D.int.injEq, D.str.injEq, D.bool.injEq, D.sl.injEq, true_and, and_true, intsDi_inj, rowsT_inj, rowsKi_inj] at e
  obtain rfl := e
  exact trivial, fun h => ⟨s, rfl⟩⟩
theorem nanT_p  (s : ByteArray) : (nanT).post [.str s] = fun y => y = .b false := funext fun y => propext ⟨fun h => by
  have h' : ∃ (s' : ByteArray), ([.str s] : List AV) = [.str s'] ∧ y = .b false := h
  obtain ⟨s', e, h⟩ := h'
  simp only [List.cons.injEq, AV.dv.injEq, AV.dp.injEq, AV.fv.injEq, DV.d.injEq, DV.ag.injEq, D.int.injEq, D.str.injEq, D.bool.injEq, D.sl.injEq, true_and, and_true, intsDi_inj, rowsT_inj, rowsKi_inj] at e
  obtain rfl := e
  exact h, fun h => ⟨s, rfl, h⟩⟩
theorem isNaNT_ctr {cx : Cx} (h : Seat cx) : Ctr cx 163 nanT := by
  refine ctr_of (fn := Tryz.f163) (l := [.tmp 2]) (envL []) [0, 2] [] [] (env0 h.hP) ?_ (by rw [h.hP]; exact Tryz.func163) rfl (by kernel_rfl) rfl ?_ ?_
  · rw [h.hP]; exact ⟨_, Tryz.func163, by kernel_rfl, by kernel_rfl⟩
  · rintro xs ⟨s, rfl⟩; exact ⟨_, s, rfl, rfl⟩
  · rintro xs ⟨s, rfl⟩
    refine ⟨by rw [Tryz.ntmps163]; simp, ?_⟩
    simp only [go_sem, h.hP, List.cons_append, List.nil_append, Meets_e, Below_e, Prod.exists, exists_eq, exists_eq_left, exists_eq_left', exists_eq_right, exists_eq_right', exists_and_left, exists_and_right, Ob.arr.injEq, AV.own.injEq, AV.fv.injEq, nanT_q, nanT_p, nanT_c, nanT_f, Tryz.ntmps163, Nat.reduceEqDiff, reduceCtorEq, Nat.reduceMul, Nat.reduceAdd, Nat.reduceSub, Nat.reduceDiv, Nat.reduceMod, Nat.reduceLeDiff, Nat.reduceLT, Nat.reduceBNe, Nat.reduceBEq, reduceIte, Int.reduceLE, Int.reduceLT, Int.reduceToNat, Int.reduceNeg, Int.reduceAdd, Int.reduceSub, Int.reduceMul, Int.reduceEq]
def cmpTSp  : Spec where
  pre xs := ∃ (s : ByteArray) (t : ByteArray), xs = [.str s, .str t]
  post xs y := ∃ (s : ByteArray) (t : ByteArray), xs = [.str s, .str t] ∧ y = .i (cmpT s t)
  cost _ := 0
  fresh := true
theorem cmpTSp_c  (xs : List AV) : (cmpTSp).cost xs = 0 := nr rfl
theorem cmpTSp_f  : (cmpTSp).fresh = true := nr rfl
theorem cmpTSp_q  (s : ByteArray) (t : ByteArray) : (cmpTSp).pre [.str s, .str t] = (True) := propext ⟨fun h => by
  have h' : ∃ (s' : ByteArray) (t' : ByteArray), ([.str s, .str t] : List AV) = [.str s', .str t'] := h
  obtain ⟨s', t', e⟩ := h'
  simp only [List.cons.injEq, AV.dv.injEq, AV.dp.injEq, AV.fv.injEq, DV.d.injEq, DV.ag.injEq, D.int.injEq, D.str.injEq, D.bool.injEq, D.sl.injEq, true_and, and_true, intsDi_inj, rowsT_inj, rowsKi_inj] at e
  obtain ⟨rfl, rfl⟩ := e
  exact trivial, fun h => ⟨s, t, rfl⟩⟩
theorem cmpTSp_p  (s : ByteArray) (t : ByteArray) : (cmpTSp).post [.str s, .str t] = fun y => y = .i (cmpT s t) := funext fun y => propext ⟨fun h => by
  have h' : ∃ (s' : ByteArray) (t' : ByteArray), ([.str s, .str t] : List AV) = [.str s', .str t'] ∧ y = .i (cmpT s' t') := h
  obtain ⟨s', t', e, h⟩ := h'
  simp only [List.cons.injEq, AV.dv.injEq, AV.dp.injEq, AV.fv.injEq, DV.d.injEq, DV.ag.injEq, D.int.injEq, D.str.injEq, D.bool.injEq, D.sl.injEq, true_and, and_true, intsDi_inj, rowsT_inj, rowsKi_inj] at e
  obtain ⟨rfl, rfl⟩ := e
  exact h, fun h => ⟨s, t, rfl, h⟩⟩
theorem compareT_ctr {cx : Cx} (h : Seat cx) : Ctr cx 120 cmpTSp := by
  refine ctr_of (fn := Tryz.f120) (l := [.tmp 4]) (envL [(163, nanT)]) [0, 1, 4, 5, 6, 11, 12, 13, 16, 19] [] [] (envL_cons (isNaNT_ctr h) (env0 h.hP)) ?_ (by rw [h.hP]; exact Tryz.func120) rfl (by kernel_rfl) rfl ?_ ?_
  · rw [h.hP]; exact ⟨_, Tryz.func120, by kernel_rfl, by kernel_rfl⟩
  · rintro xs ⟨s, t, rfl⟩; exact ⟨_, s, t, rfl, rfl⟩
  · rintro xs ⟨s, t, rfl⟩
    refine ⟨by rw [Tryz.ntmps120]; simp, ?_⟩
    simp only [go_sem, h.hP, List.cons_append, List.nil_append, Meets_e, Below_e, Prod.exists, exists_eq, exists_eq_left, exists_eq_left', exists_eq_right, exists_eq_right', exists_and_left, exists_and_right, Ob.arr.injEq, AV.own.injEq, AV.fv.injEq, cmpTSp_q, cmpTSp_p, cmpTSp_c, cmpTSp_f, nanT_q, nanT_p, nanT_c, nanT_f, Tryz.ntmps120, Nat.reduceEqDiff, reduceCtorEq, Nat.reduceMul, Nat.reduceAdd, Nat.reduceSub, Nat.reduceDiv, Nat.reduceMod, Nat.reduceLeDiff, Nat.reduceLT, Nat.reduceBNe, Nat.reduceBEq, reduceIte, Int.reduceLE, Int.reduceLT, Int.reduceToNat, Int.reduceNeg, Int.reduceAdd, Int.reduceSub, Int.reduceMul, Int.reduceEq]
    have e : cmpT s t = if lessS s t = true then -1 else if s = t then 0 else 1 := rfl
    have el : lessS s t = Op.bytesLess s.toList t.toList := rfl
    generalize Op.bytesLess s.toList t.toList = q at *
    rw [e, el]
    refine ⟨fun c => (if_pos c).symm, fun c => ⟨fun d => ?_, fun d => ?_⟩⟩
    · rw [if_neg (ne_tf c)]
      rw [c, Bool.false_or, decide_eq_false_iff_not] at d
      rw [if_neg d]
    · rw [if_neg (ne_tf c), if_pos (d.resolve_left (ne_tf c))]
def orSp  : Spec where
  pre xs := ∃ (l : List Int), xs = [.sl (intsD l)] ∧ (l.length ≤ 1048576)
  post xs y := ∃ (l : List Int), xs = [.sl (intsD l)] ∧ y = .i (firstI l.length fun i => l.getD i 0)
  cost _ := 0
  fresh := true
theorem orSp_c  (xs : List AV) : (orSp).cost xs = 0 := nr rfl
theorem orSp_f  : (orSp).fresh = true := nr rfl
theorem orSp_q  (l : List Int) : (orSp).pre [.sl (intsD l)] = (l.length ≤ 1048576) := propext ⟨fun h => by
  have h' : ∃ (l' : List Int), ([.sl (intsD l)] : List AV) = [.sl (intsD l')] ∧ (l'.length ≤ 1048576) := h
  obtain ⟨l', e, h⟩ := h'
  simp only [List.cons.injEq, AV.dv.injEq, AV.dp.injEq, AV.fv.injEq, DV.d.injEq, DV.ag.injEq, D.int.injEq, D.str.injEq, D.bool.injEq, D.sl.injEq, true_and, and_true, intsDi_inj, rowsT_inj, rowsKi_inj] at e
  obtain rfl := e
  exact h, fun h => ⟨l, rfl, h⟩⟩
theorem orSp_p  (l : List Int) : (orSp).post [.sl (intsD l)] = fun y => y = .i (firstI l.length fun i => l.getD i 0) := funext fun y => propext ⟨fun h => by
  have h' : ∃ (l' : List Int), ([.sl (intsD l)] : List AV) = [.sl (intsD l')] ∧ y = .i (firstI l'.length fun i => l'.getD i 0) := h
  obtain ⟨l', e, h⟩ := h'
  simp only [List.cons.injEq, AV.dv.injEq, AV.dp.injEq, AV.fv.injEq, DV.d.injEq, DV.ag.injEq, D.int.injEq, D.str.injEq, D.bool.injEq, D.sl.injEq, true_and, and_true, intsDi_inj, rowsT_inj, rowsKi_inj] at e
  obtain rfl := e
  exact h, fun h => ⟨l, rfl, h⟩⟩
theorem or_ctr {cx : Cx} (h : Seat cx) : Ctr cx 118 orSp := by
  refine ctr_of (fn := Tryz.f118) (l := [.tmp 2]) (envL []) [0, 2, 3, 5, 6, 7, 8, 9, 14] [] [] (env0 h.hP) ?_ (by rw [h.hP]; exact Tryz.func118) rfl (by kernel_rfl) rfl ?_ ?_
  · rw [h.hP]; exact ⟨_, Tryz.func118, by kernel_rfl, by kernel_rfl⟩
  · rintro xs ⟨l, rfl, h1⟩; exact ⟨_, l, rfl, rfl⟩
  · rintro xs ⟨l, rfl, h1⟩
    refine ⟨by rw [Tryz.ntmps118]; simp, ?_⟩
    simp only [go_sem, h.hP, List.cons_append, List.nil_append, Meets_e, Below_e, Prod.exists, exists_eq, exists_eq_left, exists_eq_left', exists_eq_right, exists_eq_right', exists_and_left, exists_and_right, Ob.arr.injEq, AV.own.injEq, AV.fv.injEq, orSp_q, orSp_p, orSp_c, orSp_f, intsD_len, Tryz.ntmps118, Nat.reduceEqDiff, reduceCtorEq, Nat.reduceMul, Nat.reduceAdd, Nat.reduceSub, Nat.reduceDiv, Nat.reduceMod, Nat.reduceLeDiff, Nat.reduceLT, Nat.reduceBNe, Nat.reduceBEq, reduceIte, Int.reduceLE, Int.reduceLT, Int.reduceToNat, Int.reduceNeg, Int.reduceAdd, Int.reduceSub, Int.reduceMul, Int.reduceEq]
    refine vc_loopS (Int) (fun (i : Int) => [(8, .i i)]) [] (fun (i : Int) => []) (fun (i : Int) => []) (fun (i : Int) => 0) (fun (i : Int) => Rounds l.length (fun i => l.getD i 0) i) (fun (i : Int) => (l.length - i).toNat) [] ?_ ?_
    · simp only [go_sem, h.hP, List.cons_append, List.nil_append, Meets_e, Below_e, Prod.exists, exists_eq, exists_eq_left, exists_eq_left', exists_eq_right, exists_eq_right', exists_and_left, exists_and_right, Ob.arr.injEq, AV.own.injEq, AV.fv.injEq, Tryz.ntmps118, Nat.reduceEqDiff, reduceCtorEq, Nat.reduceMul, Nat.reduceAdd, Nat.reduceSub, Nat.reduceDiv, Nat.reduceMod, Nat.reduceLeDiff, Nat.reduceLT, Nat.reduceBNe, Nat.reduceBEq, reduceIte, Int.reduceLE, Int.reduceLT, Int.reduceToNat, Int.reduceNeg, Int.reduceAdd, Int.reduceSub, Int.reduceMul, Int.reduceEq]
      exact Rounds.start
    · rintro i hr
      obtain ⟨hi, hS, hM, hE, hN⟩ := hr.use (by omega)
      simp only [go_sem, h.hP, List.cons_append, List.nil_append, Meets_e, Below_e, Prod.exists, exists_eq, exists_eq_left, exists_eq_left', exists_eq_right, exists_eq_right', exists_and_left, exists_and_right, Ob.arr.injEq, AV.own.injEq, AV.fv.injEq, orSp_q, orSp_p, orSp_c, orSp_f, intsD_len, intsD_get, Tryz.ntmps118, Nat.reduceEqDiff, reduceCtorEq, Nat.reduceMul, Nat.reduceAdd, Nat.reduceSub, Nat.reduceDiv, Nat.reduceMod, Nat.reduceLeDiff, Nat.reduceLT, Nat.reduceBNe, Nat.reduceBEq, reduceIte, Int.reduceLE, Int.reduceLT, Int.reduceToNat, Int.reduceNeg, Int.reduceAdd, Int.reduceSub, Int.reduceMul, Int.reduceEq]
      refine ⟨fun c => ⟨hi, c, fun d => (hE _ c rfl d).symm, fun d => ⟨hS c d, hM c⟩⟩, fun c => (hN c).symm⟩
theorem or_two (a b : Int) : firstI 2 (fun i => [a, b].getD i 0) = if a ≠ 0 then a else b := by
  by_cases h : a ≠ 0
  · rw [if_pos h]
    exact firstI_at (n := 2) (f := fun i => [a, b].getD i 0) (i := 0) (by decide) (by decide) (fun j hj => by omega) h
  · rw [if_neg h]
    have h0 : ∀ j : Nat, (j : Int) < 1 → [a, b].getD j 0 = 0 := fun j hj => by
      obtain rfl : j = 0 := by omega
      exact Decidable.not_not.1 h
    by_cases h2 : b ≠ 0
    · exact firstI_at (n := 2) (f := fun i => [a, b].getD i 0) (i := 1) (by decide) (by decide) h0 h2
    · rw [firstI_no (n := 2) (f := fun i => [a, b].getD i 0) (i := 2) (fun j hj => ?_) (by decide), Decidable.not_not.1 h2]
      by_cases hj1 : (j : Int) < 1
      · exact h0 j hj1
      · obtain rfl : j = 1 := by omega
        exact Decidable.not_not.1 h2
end Go.Avc

namespace Go.Avc
open Go Go.Proofs

/-! ### Plain law -/
/-- The local day of a moment. -/
def dayF (l : List TShift) (m : Int) : Int := (locF l m + 1440) / 1440 - 1
/-! ### The program -/
def dayS  : Spec where
  pre xs := ∃ (z : TZone) (m : Int), xs = [.dv (.ag z.row), .i m] ∧ (OkZ z.shifts ∧ 0 ≤ m ∧ m ≤ 4321440)
  post xs y := ∃ (z : TZone) (m : Int), xs = [.dv (.ag z.row), .i m] ∧ y = .i (dayF z.shifts m)
  cost _ := 0
  fresh := true
theorem dayS_c  (xs : List AV) : (dayS).cost xs = 0 := nr rfl
theorem dayS_f  : (dayS).fresh = true := nr rfl
theorem dayS_q  (z : TZone) (m : Int) : (dayS).pre [.dv (.ag [.str z.name, .sl (TShift.rows z.shifts)]), .i m] = (OkZ z.shifts ∧ 0 ≤ m ∧ m ≤ 4321440) := propext ⟨fun h => by
  have h' : ∃ (z' : TZone) (m' : Int), ([.dv (.ag z.row), .i m] : List AV) = [.dv (.ag z'.row), .i m'] ∧ (OkZ z'.shifts ∧ 0 ≤ m' ∧ m' ≤ 4321440) := h
  obtain ⟨z', m', e, h⟩ := h'
  simp only [List.cons.injEq, AV.dv.injEq, AV.dp.injEq, AV.fv.injEq, DV.d.injEq, DV.ag.injEq, D.int.injEq, D.str.injEq, D.bool.injEq, D.sl.injEq, true_and, and_true, intsDi_inj, rowsT_inj, rowsKi_inj, TZone.row_inj, TZone.rows_inj] at e
  obtain ⟨rfl, rfl⟩ := e
  exact h, fun h => ⟨z, m, rfl, h⟩⟩
theorem dayS_p  (z : TZone) (m : Int) : (dayS).post [.dv (.ag [.str z.name, .sl (TShift.rows z.shifts)]), .i m] = fun y => y = .i (dayF z.shifts m) := funext fun y => propext ⟨fun h => by
  have h' : ∃ (z' : TZone) (m' : Int), ([.dv (.ag z.row), .i m] : List AV) = [.dv (.ag z'.row), .i m'] ∧ y = .i (dayF z'.shifts m') := h
  obtain ⟨z', m', e, h⟩ := h'
  simp only [List.cons.injEq, AV.dv.injEq, AV.dp.injEq, AV.fv.injEq, DV.d.injEq, DV.ag.injEq, D.int.injEq, D.str.injEq, D.bool.injEq, D.sl.injEq, true_and, and_true, intsDi_inj, rowsT_inj, rowsKi_inj, TZone.row_inj, TZone.rows_inj] at e
  obtain ⟨rfl, rfl⟩ := e
  exact h, fun h => ⟨z, m, rfl, h⟩⟩
theorem DayAt_ctr {cx : Cx} (h : Seat cx) : Ctr cx 70 dayS := by
  refine ctr_of (fn := Tryz.f70) (l := [.tmp 4]) (envL [(113, localS)]) [0, 1, 2, 4, 5, 11] [] [] (envL_cons (LocalAt_ctr h) (env0 h.hP)) ?_ (by rw [h.hP]; exact Tryz.func70) rfl (by kernel_rfl) rfl ?_ ?_
  · rw [h.hP]; exact ⟨_, Tryz.func70, by kernel_rfl, by kernel_rfl⟩
  · rintro xs ⟨z, m, rfl, h1⟩; exact ⟨_, z, m, rfl, rfl⟩
  · rintro xs ⟨z, m, rfl, h1, h2, h3⟩
    refine ⟨by rw [Tryz.ntmps70]; simp, ?_⟩
    simp only [go_sem, h.hP, List.cons_append, List.nil_append, Meets_e, Below_e, Prod.exists, exists_eq, exists_eq_left, exists_eq_left', exists_eq_right, exists_eq_right', exists_and_left, exists_and_right, Ob.arr.injEq, AV.own.injEq, AV.fv.injEq, dayS_q, dayS_p, dayS_c, dayS_f, localS_q, localS_p, localS_c, localS_f, TZone.row, Tryz.ntmps70, Nat.reduceEqDiff, reduceCtorEq, Nat.reduceMul, Nat.reduceAdd, Nat.reduceSub, Nat.reduceDiv, Nat.reduceMod, Nat.reduceLeDiff, Nat.reduceLT, Nat.reduceBNe, Nat.reduceBEq, reduceIte, Int.reduceLE, Int.reduceLT, Int.reduceToNat, Int.reduceNeg, Int.reduceAdd, Int.reduceSub, Int.reduceMul, Int.reduceEq]
    have := locF_le h1 h2
    refine ⟨h1, h2, h3, ?_⟩
    rw [i64w (n := locF z.shifts m + 1440) (by omega) (by omega)]
    unfold dayF
    refine ⟨fun e => by omega, fun _ => ?_⟩
    rw [Int.tdiv_eq_ediv_of_nonneg (by omega)]
    generalize hq : (locF z.shifts m + 1440) / 1440 = q
    rw [i64w (n := q) (by omega) (by omega), i64w (by omega) (by omega)]
def localE (z : TZone) (m : Int) : Int := if zoneF z ≠ 0 then zoneF z else if inB m 0 4321439 = false then 1 else 0
def dayN (z : TZone) (m : Int) : Int := if localE z m = 0 then dayF z.shifts m else 0
theorem localE_use {z : TZone} {m : Int} (h : localE z m = 0) : OkZ z.shifts ∧ 0 ≤ m ∧ m ≤ 4321439 := by
  unfold localE at h
  split at h
  · rename_i c; exact absurd h c
  split at h
  · cases h
  rename_i c d
  have e := inB_iff.1 (by simpa using d : inB m 0 4321439 = true)
  exact ⟨okZ (Decidable.not_not.1 c), e.1, e.2⟩
def dayNS  : Spec where
  pre xs := ∃ (z : TZone) (m : Int), xs = [.dv (.ag z.row), .i m] ∧ (z.ok)
  post xs y := ∃ (z : TZone) (m : Int), xs = [.dv (.ag z.row), .i m] ∧ y = .tcons (.i (dayN z m)) (.tcons (.i (localE z m)) .tnil)
  cost _ := 0
  fresh := true
theorem dayNS_c  (xs : List AV) : (dayNS).cost xs = 0 := nr rfl
theorem dayNS_f  : (dayNS).fresh = true := nr rfl
theorem dayNS_q  (z : TZone) (m : Int) : (dayNS).pre [.dv (.ag [.str z.name, .sl (TShift.rows z.shifts)]), .i m] = (z.ok) := propext ⟨fun h => by
  have h' : ∃ (z' : TZone) (m' : Int), ([.dv (.ag z.row), .i m] : List AV) = [.dv (.ag z'.row), .i m'] ∧ (z'.ok) := h
  obtain ⟨z', m', e, h⟩ := h'
  simp only [List.cons.injEq, AV.dv.injEq, AV.dp.injEq, AV.fv.injEq, DV.d.injEq, DV.ag.injEq, D.int.injEq, D.str.injEq, D.bool.injEq, D.sl.injEq, true_and, and_true, intsDi_inj, rowsT_inj, rowsKi_inj, TZone.row_inj, TZone.rows_inj] at e
  obtain ⟨rfl, rfl⟩ := e
  exact h, fun h => ⟨z, m, rfl, h⟩⟩
theorem dayNS_p  (z : TZone) (m : Int) : (dayNS).post [.dv (.ag [.str z.name, .sl (TShift.rows z.shifts)]), .i m] = fun y => y = .tcons (.i (dayN z m)) (.tcons (.i (localE z m)) .tnil) := funext fun y => propext ⟨fun h => by
  have h' : ∃ (z' : TZone) (m' : Int), ([.dv (.ag z.row), .i m] : List AV) = [.dv (.ag z'.row), .i m'] ∧ y = .tcons (.i (dayN z' m')) (.tcons (.i (localE z' m')) .tnil) := h
  obtain ⟨z', m', e, h⟩ := h'
  simp only [List.cons.injEq, AV.dv.injEq, AV.dp.injEq, AV.fv.injEq, DV.d.injEq, DV.ag.injEq, D.int.injEq, D.str.injEq, D.bool.injEq, D.sl.injEq, true_and, and_true, intsDi_inj, rowsT_inj, rowsKi_inj, TZone.row_inj, TZone.rows_inj] at e
  obtain ⟨rfl, rfl⟩ := e
  exact h, fun h => ⟨z, m, rfl, h⟩⟩
theorem Day_ctr {cx : Cx} (h : Seat cx) : Ctr cx 58 dayNS := by
  refine ctr_of (fn := Tryz.f58) (l := [.tmp 4, .tmp 5]) (envL [(69, zoneS), (56, inS), (70, dayS)]) [0, 1, 2, 4, 5, 6, 10, 14] [] [] (envL_cons (CheckZone_ctr h) (envL_cons (ewithin_ctr h) (envL_cons (DayAt_ctr h) (env0 h.hP)))) ?_ (by rw [h.hP]; exact Tryz.func58) rfl (by kernel_rfl) rfl ?_ ?_
  · rw [h.hP]; exact ⟨_, Tryz.func58, by kernel_rfl, by kernel_rfl⟩
  · rintro xs ⟨z, m, rfl, h1⟩; exact ⟨_, z, m, rfl, rfl⟩
  · rintro xs ⟨z, m, rfl, h1⟩
    refine ⟨by rw [Tryz.ntmps58]; simp, ?_⟩
    simp only [go_sem, h.hP, List.cons_append, List.nil_append, Meets_e, Below_e, Prod.exists, exists_eq, exists_eq_left, exists_eq_left', exists_eq_right, exists_eq_right', exists_and_left, exists_and_right, Ob.arr.injEq, AV.own.injEq, AV.fv.injEq, dayNS_q, dayNS_p, dayNS_c, dayNS_f, zoneS_q, zoneS_p, zoneS_c, zoneS_f, inS_q, inS_p, inS_c, inS_f, dayS_q, dayS_p, dayS_c, dayS_f, TZone.row, Tryz.ntmps58, Nat.reduceEqDiff, reduceCtorEq, Nat.reduceMul, Nat.reduceAdd, Nat.reduceSub, Nat.reduceDiv, Nat.reduceMod, Nat.reduceLeDiff, Nat.reduceLT, Nat.reduceBNe, Nat.reduceBEq, reduceIte, Int.reduceLE, Int.reduceLT, Int.reduceToNat, Int.reduceNeg, Int.reduceAdd, Int.reduceSub, Int.reduceMul, Int.reduceEq]
    have e1 : ¬ zoneF z = 0 → localE z m = zoneF z := fun c => if_pos c
    have e2 : zoneF z = 0 → inB m 0 4321439 = false → localE z m = 1 := fun c d => (if_neg (fun e => e c)).trans (if_pos d)
    have e3 : zoneF z = 0 → inB m 0 4321439 = true → localE z m = 0 := fun c d => (if_neg (fun e => e c)).trans (if_neg (ne_ft d))
    refine ⟨h1, fun c => ⟨(if_neg (by rw [e1 c]; exact c)).symm, (e1 c).symm⟩, fun c => ⟨fun d => ⟨(if_neg (by rw [e2 c d]; decide)).symm, (e2 c d).symm⟩, fun d => ?_⟩⟩
    have u := localE_use (e3 c d)
    exact ⟨u.1, u.2.1, by omega, (if_pos (e3 c d)).symm, (e3 c d).symm⟩
end Go.Avc

namespace Go.Avc
open Go Go.Proofs

theorem less_lt : ∀ (x y : List UInt8), Op.bytesLess x y = decide (x < y)
  | [], [] => by simp [Op.bytesLess]
  | _ :: _, [] => by simp [Op.bytesLess]
  | [], _ :: _ => by simp [Op.bytesLess]
  | a :: x, b :: y => by
    rw [Op.bytesLess, less_lt x y]
    simp only [List.cons_lt_cons_iff]
    by_cases h1 : a < b <;> by_cases h2 : a = b <;> by_cases h3 : x < y <;> simp [h1, h2, h3]
theorem lessS_lt (s t : ByteArray) : lessS s t = decide (s.data.toList < t.data.toList) := by
  unfold lessS
  rw [toList_eq_data, toList_eq_data]
  exact less_lt _ _
theorem lessS_trans {s t u : ByteArray} (h : lessS s t = true) (k : lessS t u = true) : lessS s u = true := by
  rw [lessS_lt, decide_eq_true_eq] at *
  exact List.lt_trans h k
theorem lessS_irrefl (s : ByteArray) : lessS s s = false := by
  rw [lessS_lt, decide_eq_false_iff_not]
  exact List.lt_irrefl _
theorem lessS_total {s t : ByteArray} (h : ¬ (lessS s t = true ∨ s = t)) : lessS t s = true := by
  rw [lessS_lt, decide_eq_true_eq] at *
  have h1 : ¬ s.data.toList < t.data.toList := fun e => h (.inl e)
  have h2 : ¬ s.data.toList = t.data.toList := fun e => h (.inr (ba_eq.2 e))
  rcases List.le_total s.data.toList t.data.toList with e | e
  · rcases List.le_iff_lt_or_eq.1 e with e | e
    · exact absurd e h1
    · exact absurd e h2
  · rcases List.le_iff_lt_or_eq.1 e with e | e
    · exact e
    · exact absurd e.symm h2
def findF (l : List TField) (n : ByteArray) : Option TField := l.find? fun f => decide (f.name = n)
end Go.Avc

namespace Go.Avc
open Go Go.Proofs

end Go.Avc

namespace Go.Avc
open Go Go.Proofs

theorem only_loc (s : ByteArray) : onlyB s ⟨#[97, 98, 99, 100, 101, 102, 103, 104, 105, 106, 107, 108, 109, 110, 111, 112, 113, 114, 115, 116, 117, 118, 119, 120, 121, 122, 48, 49, 50, 51, 52, 53, 54, 55, 56, 57, 46, 45, 95]⟩ = (bl s).all locC := only_all (p := locC) (by decide +kernel) s
theorem only_lab (s : ByteArray) : onlyB s ⟨#[97, 98, 99, 100, 101, 102, 103, 104, 105, 106, 107, 108, 109, 110, 111, 112, 113, 114, 115, 116, 117, 118, 119, 120, 121, 122, 48, 49, 50, 51, 52, 53, 54, 55, 56, 57, 45]⟩ = (bl s).all labC := only_all (p := labC) (by decide +kernel) s
theorem only_dig (s : ByteArray) : onlyB s ⟨#[48, 49, 50, 51, 52, 53, 54, 55, 56, 57]⟩ = (bl s).all digitC := only_all (p := digitC) (by decide +kernel) s
theorem only_mem (s : ByteArray) : onlyB s ⟨#[48, 49, 50, 51, 52, 53, 54, 55, 56, 57, 65, 66, 67, 68, 69, 70, 71, 72, 73, 74, 75, 76, 77, 78, 79, 80, 81, 82, 83, 84, 85, 86, 87, 88, 89, 90]⟩ = (bl s).all memC := only_all (p := memC) (by decide +kernel) s
theorem only_hex (s : ByteArray) : onlyB s ⟨#[48, 49, 50, 51, 52, 53, 54, 55, 56, 57, 97, 98, 99, 100, 101, 102]⟩ = (bl s).all hexC := only_all (p := hexC) (by decide +kernel) s
theorem all_take {α : Type} {l : List α} {p : α → Bool} {i : Nat} (d : α) (h : i < l.length) : (l.take (i + 1)).all p = ((l.take i).all p && p (l.getD i d)) := by
  rw [List.take_add_one, List.all_append, List.getD_eq_getElem?_getD, List.getElem?_eq_getElem h]
  simp
theorem pre_plus {s : ByteArray} (h : preS s ⟨#[43]⟩ = true) : 1 ≤ s.size ∧ cpreF s ⟨#[43]⟩ = s.extract 1 s.size := by
  have h' : Lib.hasPrefix s.data.toList [43] = true := h
  constructor
  · rw [← len_size]
    cases hd : s.data.toList with
    | nil => rw [hd] at h'; cases h'
    | cons x r => simp
  · rw [ba_eq, ByteArray.data_extract, Array.toList_extract, List.extract_eq_take_drop]
    show (if Lib.hasPrefix s.data.toList [43] = true then s.data.toList.drop 1 else s.data.toList) = _
    rw [if_pos h', List.take_of_length_le]
    rw [List.length_drop, len_size]
    exact Nat.le_refl _
theorem bt_ext1 {s : ByteArray} (h : 1 ≤ s.size) : bt (s.extract 1 s.size) 0 = bt s 1 := by
  rw [bt_bl, bt_bl, bl_extract]
  rw [List.take_of_length_le (by rw [bl_length]; exact Nat.le_refl _)]
  show (List.drop 1 (bl s)).getD 0 0 = (bl s).getD 1 0
  rw [List.getD_eq_getElem?_getD, List.getElem?_drop, List.getD_eq_getElem?_getD]
theorem trim_dot {s : ByteArray} (h : 1 ≤ s.size) : (trimF s ⟨#[46]⟩ = s) = (bt s 0 ≠ 46 ∧ bt s ((s.size : Int) - 1) ≠ 46) := propext (trim_one h 46)
set_option maxHeartbeats 8000000 in
theorem IdFault_ctr {cx : Cx} (h : Seat cx) (hM : MaxL cx) : Ctr cx 36 idS := by
  refine ctr_of (fn := Tryz.f36) (l := [.tmp 2]) (envL [(80, cutSp), (81, splitSp), (57, inS), (82, onlyS), (83, trimSp), (84, conSp), (85, cpreSp), (86, signR)]) [0, 1, 2, 3, 4, 5, 6, 7, 8, 10, 11, 12, 16, 17, 58, 59, 60, 61, 81, 103, 127, 128, 138] [9] [] (envL_cons (cut_ctr h hM) (envL_cons (split_ctr h hM) (envL_cons (in_ctr h) (envL_cons (only_ctr h) (envL_cons (trim_ctr h) (envL_cons (contains_ctr h hM) (envL_cons (cutPrefix_ctr h) (envL_cons (rcheckSign_ctr h) (env0 h.hP))))))))) ?_ (by rw [h.hP]; exact Tryz.func36) rfl (by kernel_rfl) rfl ?_ ?_
  · rw [h.hP]; exact ⟨_, Tryz.func36, by kernel_rfl, by kernel_rfl⟩
  · rintro xs ⟨x, rfl, h1⟩; exact ⟨_, x, rfl, rfl⟩
  · rintro xs ⟨x, rfl, h1⟩
    obtain ⟨o1, o2⟩ := h1
    refine ⟨by rw [Tryz.ntmps36]; simp, ?_⟩
    simp only [go_sem, h.hP, List.cons_append, List.nil_append, Meets_e, Below_e, Prod.exists, exists_eq, exists_eq_left, exists_eq_left', exists_eq_right, exists_eq_right', exists_and_left, exists_and_right, Ob.arr.injEq, AV.own.injEq, AV.fv.injEq, idS_q, idS_p, idS_c, idS_f, cutSp_q, cutSp_p, cutSp_c, cutSp_f, splitSp_q, splitSp_p, splitSp_c, splitSp_f, inS_q, inS_p, inS_c, inS_f, onlyS_q, onlyS_p, onlyS_c, onlyS_f, trimSp_q, trimSp_p, trimSp_c, trimSp_f, conSp_q, conSp_p, conSp_c, conSp_f, cpreSp_q, cpreSp_p, cpreSp_c, cpreSp_f, signR_q, signR_p, signR_c, signR_f, TId.row, only_loc, only_lab, only_dig, only_mem, only_hex, Tryz.ntmps36, Nat.reduceEqDiff, reduceCtorEq, Nat.reduceMul, Nat.reduceAdd, Nat.reduceSub, Nat.reduceDiv, Nat.reduceMod, Nat.reduceLeDiff, Nat.reduceLT, Nat.reduceBNe, Nat.reduceBEq, reduceIte, Int.reduceLE, Int.reduceLT, Int.reduceToNat, Int.reduceNeg, Int.reduceAdd, Int.reduceSub, Int.reduceMul, Int.reduceEq]
    unfold okS at o2
    have hw : IntKind.i64.wrap ((x.text.size : Int) - 1) = (x.text.size : Int) - 1 := i64w (by omega) (by omega)
    have hIs : (initS x.text).size ≤ x.text.size := by unfold initS; rw [ByteArray.size_extract]; omega
    have hIm : (bl x.text).all memC = true → (bl (initS x.text)).all memC = true := fun e => by
      unfold initS
      rw [bl_extract, List.drop_zero]
      rw [List.all_eq_true] at e ⊢
      exact fun y hy => e y (List.mem_of_mem_take hy)
    have hI : x.text.extract 0 ((x.text.size : Int) - 1).toNat = initS x.text := by
      rw [show ((x.text.size : Int) - 1).toNat = x.text.size - 1 by omega]
      rfl
    have e1 : x.kind = 1 → idF x = if mailB x.text = true then 0 else 3 := fun c => if_pos c
    have e2 : ¬ x.kind = 1 → x.kind = 2 → idF x = if phoneB x.text = true then 0 else 3 := fun c d => (if_neg c).trans (if_pos d)
    have e3 : ¬ x.kind = 1 → ¬ x.kind = 2 → x.kind = 3 → idF x = if memberB x.text = true then (if bt signsB (signN (initS x.text)) ≠ bt x.text ((x.text.size : Int) - 1) then 15 else 0) else 3 := fun c d e => (if_neg c).trans ((if_neg d).trans (if_pos e))
    have e4 : ¬ x.kind = 1 → ¬ x.kind = 2 → ¬ x.kind = 3 → idF x = if x.kind = 4 then (if deviceB x.text = true then 0 else 3) else 4 := fun c d e => (if_neg c).trans ((if_neg d).trans (if_neg e))
    rw [hw, hI]
    generalize idF x = R at *
    have hsn := signN_in (initS x.text)
    have hp : phoneB x.text = (preS x.text ⟨#[43]⟩ && inB x.text.size 8 16 && (bl (x.text.extract 1 x.text.size)).all digitC && decide (bt x.text 1 ≠ 48)) := rfl
    have hmm : memberB x.text = (inB x.text.size 4 20 && (bl x.text).all memC) := rfl
    have hdv : deviceB x.text = (decide ((x.text.size : Int) = 32) && (bl x.text).all hexC) := rfl
    refine ⟨fun c1 => ⟨by omega, by have := cutR_size x.text ⟨#[64]⟩; omega, ?_⟩, fun c1 => ⟨fun c2 => ?_, fun c2 => ⟨fun c3 => ?_, fun c3 => ⟨fun c4 => ?_, fun c4 => ?_⟩⟩⟩⟩
    · have hm : mailB x.text = (cutB x.text ⟨#[64]⟩ && decide ((x.text.size : Int) ≤ 80) && localB (cutL x.text ⟨#[64]⟩) && (splitS (cutR x.text ⟨#[64]⟩) ⟨#[46]⟩).all labelB && decide (2 ≤ (splitS (cutR x.text ⟨#[64]⟩) ⟨#[46]⟩).length)) := rfl
      have hL := cutL_size x.text ⟨#[64]⟩
      have hle := splitS_le (s := cutR x.text ⟨#[64]⟩) (p := ⟨#[46]⟩) (by decide)
      have hsz := splitS_get (cutR x.text ⟨#[64]⟩) ⟨#[46]⟩
      have hR := cutR_size x.text ⟨#[64]⟩
      have E1 := e1 c1
      rw [hm] at E1
      clear e1 e2 e3 e4 hm hp hmm hdv
      generalize cutL x.text ⟨#[64]⟩ = a at *
      generalize splitS (cutR x.text ⟨#[64]⟩) ⟨#[46]⟩ = l at *
      generalize cutB x.text ⟨#[64]⟩ = k at *
      have hA : localB a = (inB a.size 1 64 && decide (bt a 0 ≠ 46) && decide (bt a ((a.size : Int) - 1) ≠ 46) && !conS a ⟨#[46, 46]⟩ && (bl a).all locC) := rfl
      refine vc_cutT (Bool) (fun (b : Bool) => [(4, .b b)]) [1] (fun (b : Bool) => []) (fun (b : Bool) => []) (fun (b : Bool) => 0) (fun (b : Bool) => b = (k && decide ((x.text.size : Int) ≤ 80) && localB a && decide (2 ≤ l.length))) [] ?_ ?_ ?_
      · rfl
      · simp only [go_sem, h.hP, List.cons_append, List.nil_append, Meets_e, Below_e, Prod.exists, exists_eq, exists_eq_left, exists_eq_left', exists_eq_right, exists_eq_right', exists_and_left, exists_and_right, Ob.arr.injEq, AV.own.injEq, AV.fv.injEq, inS_q, inS_p, inS_c, inS_f, onlyS_q, onlyS_p, onlyS_c, onlyS_f, trimSp_q, trimSp_p, trimSp_c, trimSp_f, conSp_q, conSp_p, conSp_c, conSp_f, only_loc, rowsT_len, Tryz.ntmps36, Nat.reduceEqDiff, reduceCtorEq, Nat.reduceMul, Nat.reduceAdd, Nat.reduceSub, Nat.reduceDiv, Nat.reduceMod, Nat.reduceLeDiff, Nat.reduceLT, Nat.reduceBNe, Nat.reduceBEq, reduceIte, Int.reduceLE, Int.reduceLT, Int.reduceToNat, Int.reduceNeg, Int.reduceAdd, Int.reduceSub, Int.reduceMul, Int.reduceEq]
        have hd : decide (2 ≤ (l.length : Int)) = decide (2 ≤ l.length) := decide_eq_decide.2 (by omega)
        refine ⟨fun d1 => ⟨fun d2 => ⟨fun d3 => ?_, fun d3 => by rw [hA, d3]; simp⟩, fun d2 => by simp [d2]⟩, fun d1 => by rw [d1]; rfl⟩
        have i3 := inB_iff.1 d3
        rw [trim_dot (by omega)]
        refine ⟨by omega, by decide +kernel, fun d4 => ⟨by omega, by decide, fun d5 => ⟨by omega, fun d6 => ?_, fun d6 => by rw [hA, d6]; simp⟩, fun d5 => ?_⟩, fun d4 => by rw [hA, d4]; simp⟩
        · rw [hd, hA, d1, d3, d4, d6, decide_eq_true d2, decide_eq_true d5.1, decide_eq_true d5.2]
          simp
        · rw [hA]
          by_cases q : bt a 0 = 46
          · simp [q]
          · have q2 : bt a ((a.size : Int) - 1) = 46 := Decidable.not_not.1 fun z => d5 ⟨q, z⟩
            simp [q2]
      · rintro b0 hb
        simp only [go_sem, h.hP, List.cons_append, List.nil_append, Meets_e, Below_e, Prod.exists, exists_eq, exists_eq_left, exists_eq_left', exists_eq_right, exists_eq_right', exists_and_left, exists_and_right, Ob.arr.injEq, AV.own.injEq, AV.fv.injEq, rowsT_len, Tryz.ntmps36, Nat.reduceEqDiff, reduceCtorEq, Nat.reduceMul, Nat.reduceAdd, Nat.reduceSub, Nat.reduceDiv, Nat.reduceMod, Nat.reduceLeDiff, Nat.reduceLT, Nat.reduceBNe, Nat.reduceBEq, reduceIte, Int.reduceLE, Int.reduceLT, Int.reduceToNat, Int.reduceNeg, Int.reduceAdd, Int.reduceSub, Int.reduceMul, Int.reduceEq]
        refine vc_loopS (Int × Bool) (fun (x : Int × Bool) => match x with | (i, b) => [(60, .i i), (4, .b b)]) [1] (fun (x : Int × Bool) => match x with | (i, b) => []) (fun (x : Int × Bool) => match x with | (i, b) => []) (fun (x : Int × Bool) => match x with | (i, b) => 0) (fun (x : Int × Bool) => match x with | (i, b) => 0 ≤ i ∧ i ≤ l.length ∧ b = (b0 && (l.take i.toNat).all labelB)) (fun (x : Int × Bool) => match x with | (i, b) => (l.length - i).toNat) [] ?_ ?_
        · simp only [go_sem, h.hP, List.cons_append, List.nil_append, Meets_e, Below_e, Prod.exists, exists_eq, exists_eq_left, exists_eq_left', exists_eq_right, exists_eq_right', exists_and_left, exists_and_right, Ob.arr.injEq, AV.own.injEq, AV.fv.injEq, rowsT_len, Tryz.ntmps36, Nat.reduceEqDiff, reduceCtorEq, Nat.reduceMul, Nat.reduceAdd, Nat.reduceSub, Nat.reduceDiv, Nat.reduceMod, Nat.reduceLeDiff, Nat.reduceLT, Nat.reduceBNe, Nat.reduceBEq, reduceIte, Int.reduceLE, Int.reduceLT, Int.reduceToNat, Int.reduceNeg, Int.reduceAdd, Int.reduceSub, Int.reduceMul, Int.reduceEq]
          exact Int.natCast_nonneg _
        · rintro ⟨i, b⟩ ⟨j1, j2, j3⟩
          simp only [go_sem, h.hP, List.cons_append, List.nil_append, Meets_e, Below_e, Prod.exists, exists_eq, exists_eq_left, exists_eq_left', exists_eq_right, exists_eq_right', exists_and_left, exists_and_right, Ob.arr.injEq, AV.own.injEq, AV.fv.injEq, idS_q, idS_p, idS_c, idS_f, inS_q, inS_p, inS_c, inS_f, onlyS_q, onlyS_p, onlyS_c, onlyS_f, trimSp_q, trimSp_p, trimSp_c, trimSp_f, only_lab, rowsT_len, rowsT_get, Tryz.ntmps36, Nat.reduceEqDiff, reduceCtorEq, Nat.reduceMul, Nat.reduceAdd, Nat.reduceSub, Nat.reduceDiv, Nat.reduceMod, Nat.reduceLeDiff, Nat.reduceLT, Nat.reduceBNe, Nat.reduceBEq, reduceIte, Int.reduceLE, Int.reduceLT, Int.reduceToNat, Int.reduceNeg, Int.reduceAdd, Int.reduceSub, Int.reduceMul, Int.reduceEq]
          have hs0 := hsz i.toNat
          have hq : ∀ q : ByteArray, labelB q = (inB q.size 1 30 && decide (bt q 0 ≠ 45) && decide (bt q ((q.size : Int) - 1) ≠ 45) && (bl q).all labC) := fun q => rfl
          refine ⟨fun c => ?_, fun c => ?_⟩
          · have ht := all_take (p := labelB) ⟨#[]⟩ (show i.toNat < l.length by omega)
            rw [i64w (n := i + 1) (by omega) (by omega), show (i + 1).toNat = i.toNat + 1 by omega, ht, ← Bool.and_assoc, ← j3, hq]
            clear ht
            generalize l.getD i.toNat ⟨#[]⟩ = q at *
            refine ⟨j1, c, fun d1 => ⟨fun d2 => ?_, fun d2 => ⟨by omega, by omega, by rw [d2]; simp, by omega⟩⟩, fun d1 => ⟨by omega, by omega, by rw [d1]; rfl, by omega⟩⟩
            have i2 := inB_iff.1 d2
            have hdec : decide (trimF q ⟨#[45]⟩ = q) = (decide (bt q 0 ≠ 45) && decide (bt q ((q.size : Int) - 1) ≠ 45)) := by
              rw [← Bool.decide_and]
              exact decide_eq_decide.2 (trim_one (by omega) 45)
            refine ⟨by omega, by decide +kernel, fun d3 => ⟨by omega, by decide, by omega, by omega, ?_, by omega⟩, fun d3 => ⟨by omega, by omega, by rw [d3]; simp, by omega⟩⟩
            rw [hdec, d1, d2, d3]
            simp
          · have hi : i.toNat = l.length := by omega
            rw [hi, List.take_length, hb, Bool.and_right_comm] at j3
            rw [E1, ← j3]
            exact ⟨fun d => by rw [d]; rfl, fun d => by rw [d]; rfl⟩
    · rw [e2 c1 c2, hp]
      refine ⟨fun d1 => ?_, fun d1 => by rw [d1]; rfl⟩
      obtain ⟨n1, n2⟩ := pre_plus d1
      have n3 : (x.text.extract 1 x.text.size).size = x.text.size - 1 := by rw [ByteArray.size_extract]; omega
      rw [n2, bt_ext1 n1, n3]
      have n4 : inB ((x.text.size - 1 : Nat) : Int) 7 15 = inB x.text.size 8 16 := by
        unfold inB
        exact decide_eq_decide.2 (by omega)
      rw [n4]
      refine ⟨fun d2 => ?_, fun d2 => by rw [d2]; simp⟩
      have i2 := inB_iff.1 d2
      exact ⟨by omega, by decide, fun d3 => ⟨by omega, fun d4 => by simp [d4], fun d4 => by rw [d1, d2, d3]; simp [d4]⟩, fun d3 => by rw [d3]; simp⟩
    · rw [e3 c1 c2 c3, hmm]
      refine ⟨fun d1 => ⟨by omega, by decide +kernel, fun d2 => ?_, fun d2 => ⟨fun _ => by rw [d2]; simp, fun z => (by rw [d2] at z; cases z)⟩⟩, fun d1 => by rw [d1]; rfl⟩
      have i1 := inB_iff.1 d1
      rw [signs_lit]
      refine ⟨by omega, by omega, by omega, hIm d2, hsn.1, by omega, by omega, by omega, fun d3 => ?_, fun d3 => ⟨fun z => (by rw [d2] at z; cases z), fun _ => ?_⟩⟩
      · rw [d1, d2]
        exact (if_pos d3).symm
      · rw [d1, d2]
        exact (if_neg (fun z => z d3)).symm
    · rw [e4 c1 c2 c3, if_pos c4, hdv]
      exact ⟨fun d1 => ⟨by omega, by decide +kernel, fun d2 => by rw [d2]; simp, fun d2 => by rw [d2, decide_eq_true d1]; rfl⟩, fun d1 => by rw [decide_eq_false d1]; rfl⟩
    · rw [e4 c1 c2 c3, if_neg c4]
end Go.Avc

namespace Go.Avc
open Go Go.RowKit Go.Proofs

set_option maxHeartbeats 1000000 in
set_option maxRecDepth 100000 in
theorem check_nil (A : Option Addr) (c : Nat) (w : World) : Calls Tryz.prog 32 #[.slice A 0 c] w fun e w' => e = .returned (.int .i64 0) ∧ w' = w.alloc (.map #[] 0) := by
  have hmm := @run_makeMap Tryz.prog
  go_enter Tryz.func32, Tryz.ntmps32
  go_wp2
  go_loopw [13] (fun i wr => i = .int .i64 0 ∧ wr = w.alloc (.map #[] 0)) (fun _ _ => 0)
  case atStart => exact ⟨rfl, rfl⟩
  case round =>
    obtain ⟨rfl, rfl⟩ := hrel
    go_wp2
    go_ret
    exact ⟨rfl, rfl⟩
set_option maxHeartbeats 4000000 in
set_option maxRecDepth 100000 in
theorem varint_nil (b : Nat) (m : Value) (w : World) (h : w.heap[b]? = some (.cells #[.slice none 0 0, m] 155 (0, 0))) :
    Calls Tryz.prog 107 #[.pointer (some ⟨b, 0, none⟩), .int .i64 0] w fun e w' => e = .returned (.tuple #[]) ∧ ∃ g cap, w'.heap[b]? = some (.cells #[.slice (some ⟨g, 0, none⟩) 1 cap, m] 155 (0, 0)) ∧
      w'.ownsRow w.heap.size bE 1 (.slice (some ⟨g, 0, none⟩) 1 cap) 1 [.int .u8 0] ∧ w'.os = w.os ∧ w'.tape = w.tape ∧ w'.output = w.output ∧ w.heap.size ≤ w'.heap.size ∧ ∀ k, k < w.heap.size → k ≠ b → w'.heap[k]? = w.heap[k]? := by
  have hlt : b < w.heap.size := (Array.getElem?_eq_some_iff.1 h).1
  have c0 : w.cell? ⟨b, 0, none⟩ = some (.slice none 0 0) := by rw [Lib.cell_of_heap h]; rfl
  go_enter Tryz.func107, Tryz.ntmps107
  go_wp2
  go_loopw [1] (fun i wr => i = .int .i64 0 ∧ wr = w) (fun _ _ => 0)
  case atStart => exact ⟨rfl, rfl⟩
  case round =>
    obtain ⟨rfl, rfl⟩ := hrel
    have hi : Tryz.prog.info? 5 = some Tryz.t5 := by kernel_rfl
    have hz0 : Tryz.t5.zero = some (.int .u8 0) := by kernel_rfl
    have hz1 : Tryz.t5.size = 1 := by kernel_rfl
    have hz2 : Tryz.t5.bytes = 1 := by kernel_rfl
    have hown1 : wr.ownsRow wr.heap.size bE 1 (.slice none 0 0) 0 [] := World.ownsRow_nil ..
    go_wp2_with (at_builtin; refine wpList_append_own_at _ rfl _ _ 153 rfl wr.heap.size bE Tryz.t5 (.int .u8 0) 1 1 Tryz.underlying153 hi hz0 hz1 hz2 rfl (by decide) _ _ _ rfl (hown1.alloc _) ⟨wr.heap.size, 0, none⟩ 1 1 [.int .u8 0] rfl rfl ?c1 ?c2 ?c3 ?c4 ?c5 ?_)
    case c1 =>
      intro j u hj
      match j, hj with
      | 0, hj => simp at hj; subst hj; simp [Addr.add]
    case c2 => intro u hu; simp at hu; subst hu; rfl
    case c3 => unfold maxLen; omega
    case c4 => omega
    case c5 => simp
    intro v' w2 hown' hgrow _ hat
    have hne : (Value.slice none 0 0).ownBlock ≠ some b := by simp [Value.ownBlock]
    have hs2 : wr.heap.size + 1 ≤ w2.heap.size := by have := hgrow.size; simpa using this
    have hb2 : w2.heap[b]? = some (.cells #[.slice none 0 0, m] 155 (0, 0)) := by
      rw [hgrow.block b (by simp; omega) (fun e => hne e.symm), Lib.alloc_old wr _ b (by omega)]
      exact h
    have d0 : w2.cell? ⟨b, 0, none⟩ = some (.slice none 0 0) := by rw [Lib.cell_of_heap hb2]; rfl
    have f0 : w2.frozen? ⟨b, 0, none⟩ = false := Lib.frozen_of_heap hb2 0
    obtain ⟨g, cap, rfl⟩ : ∃ g cap, v' = .slice (some ⟨g, 0, none⟩) 1 cap := by
      rcases hown'.2 with ⟨_, h0⟩ | ⟨g, cap, cur, hv, _⟩
      · omega
      · exact ⟨g, cap, hv⟩
    go_wp2
    go_end0
    refine ⟨rfl, g, cap, ?_, ?_, hgrow.os, hgrow.tape, hgrow.output, ?_, fun k hk hkb => ?_⟩
    · simp [World.setCell, Array.getElem?_modify, hb2]
    · have hnb : (Value.slice (some ⟨g, 0, none⟩) 1 cap).ownBlock ≠ some b := Lib.ownBlock_ne hown' hb2 (by decide)
      exact hown'.kept (row := some b) ⟨rfl, rfl, rfl, by simp [World.setCell], fun k _ hk => heap_setCell_other _ _ _ _ (fun e => hk (by rw [e]))⟩ (.inr hnb)
    · simp [World.setCell]; omega
    · rw [heap_setCell_other _ _ _ _ (by exact hkb), hgrow.block k (by simp; omega) (by simp [Value.ownBlock]), Lib.alloc_old wr _ k (by omega)]
set_option maxHeartbeats 4000000 in
set_option maxRecDepth 100000 in
theorem pack_nil (A : Option Addr) (c : Nat) (w : World) : Calls Tryz.prog 59 #[.slice A 0 c] w fun e w' => e = .returned (.tuple #[.string ⟨#[0]⟩, .int .i64 0]) ∧ RowKit.Below w.heap.size w w' := by
  have hmm := @run_makeMap Tryz.prog
  go_enter Tryz.func59, Tryz.ntmps59
  go_wp2_with (go_at_call 32; refine (check_nil A c w).mono ?_)
  rintro e w1 ⟨rfl, rfl⟩
  have hb : (((w.alloc (.map #[] 0)).alloc (.map #[] 0)).alloc (.cells #[.slice none 0 0, .map (some (w.heap.size + 1))] 155)).heap[w.heap.size + 1 + 1]? = some (.cells #[.slice none 0 0, .map (some (w.heap.size + 1))] 155 (0, 0)) := by
    simp only [World.alloc, Array.getElem?_push, Array.size_push, if_true]
  go_wp2_with (go_at_call 107; refine (varint_nil _ _ _ hb).mono ?_)
  rintro e w2 ⟨rfl, g, cap, hb2, hown, ho, ht, hu, hs, hk⟩
  have hs' : w.heap.size + 1 + 1 + 1 ≤ w2.heap.size := by simpa using hs
  have hkeep : ∀ k, k < w.heap.size → w2.heap[k]? = w.heap[k]? := fun k hk0 => by
    rw [hk k (by simp; omega) (by omega)]
    rw [Lib.alloc_old _ _ k (by simp; omega), Lib.alloc_old _ _ k (by simp; omega), Lib.alloc_old _ _ k hk0]
  have d0 : w2.cell? ⟨w.heap.size + 1 + 1, 0, none⟩ = some (.slice (some ⟨g, 0, none⟩) 1 cap) := by rw [Lib.cell_of_heap hb2]; rfl
  go_wp2
  go_loopw [25] (fun i wr => i = .int .i64 0 ∧ wr = w2) (fun _ _ => 0)
  case atStart => exact ⟨rfl, rfl⟩
  case round =>
    obtain ⟨rfl, rfl⟩ := hrel
    go_wp2
    have hcell : ∀ i, i < 1 → wr.cell? ⟨g, 0 + i, none⟩ = some (.int .u8 ((numsOf [[D.int .u8 0]]).getD i 0)) := fun i hi => by
      obtain rfl : i = 0 := by omega
      exact ownsRow_cells hown rfl 0 (.int .u8 0) rfl
    have hcv := bytes_run (P := Tryz.prog) (w := wr) (s := 153) (e := 5) (t := 9) Tryz.underlying153 Tryz.underlying5 Tryz.underlying9 (l := [[D.int .u8 0]]) (fun x hx => ⟨0, List.mem_singleton.1 hx⟩) (A := some ⟨g, 0, none⟩) (c := cap) (fun _ => ⟨g, 0, rfl, hcell⟩)
    rw [show (Value.slice (some ⟨g, 0, none⟩) 1 cap) = .slice (some ⟨g, 0, none⟩) ([[D.int .u8 0]] : List (List D)).length cap from rfl, hcv]
    simp only [Result.andThen]
    rw [Oper.upon_value]
    go_wp2
    go_ret2
    refine ⟨rfl, ho, ht, hu, by omega, hkeep⟩
/-- Pack of no events. -/
def packNilS : Spec where
  pre xs := xs = [.sl []]
  post xs r := r = .tcons (.str ⟨#[0]⟩) (.tcons (.i 0) .tnil)
  cost _ := 0
  fresh := true
theorem packNilS_q : packNilS.pre [.sl []] = True := eq_true rfl
theorem packNilS_p (xs : List AV) : packNilS.post xs = fun r => r = .tcons (.str ⟨#[0]⟩) (.tcons (.i 0) .tnil) := rfl
theorem packNilS_c (xs : List AV) : packNilS.cost xs = 0 := nr rfl
theorem packNilS_f : packNilS.fresh = true := nr rfl
theorem rd_nil_inv {ok : Nat → Prop} {w : World} {v : Value} (h : Rd ok w (.sl []) v) : ∃ A c, v = .slice A 0 c := by
  generalize e : ([] : List (List D)) = r at h
  cases h with
  | nil A c => exact ⟨A, c, rfl⟩
  | sl r z b o c u hc hb hlt hz hu hr => subst e; exact ⟨_, _, rfl⟩
theorem Pack_nil_ctr {cx : Cx} (h : Seat cx) : Ctr cx 59 packNilS := by
  refine ⟨by rw [h.hP]; exact ⟨_, Tryz.func59, by kernel_rfl, by kernel_rfl⟩, fun xs _ => ⟨_, rfl⟩, ?_⟩
  rintro F xs us hcx hF hst hgl hco hlen hargs rfl
  match us, hlen with
  | [a], _ =>
  obtain ⟨A, c, rfl⟩ := rd_nil_inv (show Rd _ _ (.sl []) a from hargs 0 _ _ rfl rfl)
  rw [h.hP]
  refine (pack_nil A c F.w0).mono ?_
  rintro e w' ⟨rfl, hb⟩
  exact ⟨_, .tcons (.str ⟨#[0]⟩) (.tcons (.i 0) .tnil), rfl, ⟨hb.os, hb.tape, hb.output, hb.size, fun b hlt _ => hb.block b hlt⟩, hst.keep hb.size (fun b hlt => hb.block b hlt), rfl, rfl, ⟨[.string ⟨#[0]⟩, .int .i64 0], rfl, _, _, rfl, Rd.str _, _, _, rfl, Rd.int .i64 _, rfl⟩⟩
def happeningsS  : Spec where
  pre xs := xs = []
  post xs y := xs = [] ∧ y = .b true
  cost _ := 0
  fresh := true
theorem happeningsS_c  (xs : List AV) : (happeningsS).cost xs = 0 := nr rfl
theorem happeningsS_f  : (happeningsS).fresh = true := nr rfl
theorem happeningsS_q  : (happeningsS).pre [] = (([] : List AV) = []) := nr rfl
theorem happeningsS_p  : (happeningsS).post [] = fun y => y = .b true := funext fun y => propext ⟨fun h => h.2, fun h => ⟨rfl, h⟩⟩
theorem happenings_ctr {cx : Cx} (h : Seat cx) : Ctr cx 15 happeningsS := by
  refine ctr_of (fn := Tryz.f15) (l := [.tmp 0]) (envL [(58, dayNS), (59, packNilS)]) [0, 1, 2, 3, 4] [] [] (envL_cons (Day_ctr h) (envL_cons (Pack_nil_ctr h) (env0 h.hP))) ?_ (by rw [h.hP]; exact Tryz.func15) rfl (by kernel_rfl) rfl ?_ ?_
  · rw [h.hP]; exact ⟨_, Tryz.func15, by kernel_rfl, by kernel_rfl⟩
  · rintro xs ⟨rfl, h1⟩; exact ⟨_, rfl, rfl⟩
  · rintro xs ⟨rfl, h1⟩
    refine ⟨by rw [Tryz.ntmps15]; simp, ?_⟩
    have hz : (⟨⟨#[117, 116, 99]⟩, [⟨0, 0⟩]⟩ : TZone).ok := ⟨by unfold okS; decide, okL_one ⟨okI_z, okI_z⟩⟩
    have hq : dayNS.pre [.dv (.ag [.str ⟨#[117, 116, 99]⟩, .sl [[.int .i64 0, .int .i64 0]]]), .i 3000] = True := (dayNS_q ⟨⟨#[117, 116, 99]⟩, [⟨0, 0⟩]⟩ 3000).trans (eq_true hz)
    have he : localE ⟨⟨#[117, 116, 99]⟩, [⟨0, 0⟩]⟩ 3000 = 0 := by decide +kernel
    have hn : dayN ⟨⟨#[117, 116, 99]⟩, [⟨0, 0⟩]⟩ 3000 = 2 := by decide +kernel
    have hp : dayNS.post [.dv (.ag [.str ⟨#[117, 116, 99]⟩, .sl [[.int .i64 0, .int .i64 0]]]), .i 3000] = fun y => y = .tcons (.i 2) (.tcons (.i 0) .tnil) := (dayNS_p ⟨⟨#[117, 116, 99]⟩, [⟨0, 0⟩]⟩ 3000).trans (by rw [hn, he])
    simp only [go_sem, h.hP, List.cons_append, List.nil_append, Meets_e, Below_e, Prod.exists, exists_eq, exists_eq_left, exists_eq_left', exists_eq_right, exists_eq_right', exists_and_left, exists_and_right, Ob.arr.injEq, AV.own.injEq, AV.fv.injEq, happeningsS_q, happeningsS_p, happeningsS_c, happeningsS_f, packNilS_q, packNilS_p, packNilS_c, packNilS_f, hq, hp, dayNS_c, dayNS_f, Tryz.ntmps15, Nat.reduceEqDiff, reduceCtorEq, Nat.reduceMul, Nat.reduceAdd, Nat.reduceSub, Nat.reduceDiv, Nat.reduceMod, Nat.reduceLeDiff, Nat.reduceLT, Nat.reduceBNe, Nat.reduceBEq, reduceIte, Int.reduceLE, Int.reduceLT, Int.reduceToNat, Int.reduceNeg, Int.reduceAdd, Int.reduceSub, Int.reduceMul, Int.reduceEq]
end Go.Avc

namespace Go.Avc
open Go Go.Proofs

def poolL : List TId := [⟨1, ⟨#[97, 64, 98, 46, 100, 101]⟩⟩, ⟨1, ⟨#[97, 110, 110, 46, 98, 64, 120, 45, 121, 46, 111, 114, 103]⟩⟩, ⟨1, ⟨#[98, 111, 98, 95, 49, 64, 98, 46, 100, 101]⟩⟩, ⟨1, ⟨#[122, 45, 64, 48, 46, 97]⟩⟩, ⟨2, ⟨#[43, 52, 57, 51, 48, 49, 50, 51, 52, 53, 54]⟩⟩, ⟨2, ⟨#[43, 49, 53, 53, 53, 48, 48, 48, 49, 49, 49]⟩⟩, ⟨3, ⟨#[65, 66, 49, 51]⟩⟩, ⟨3, ⟨#[48, 48, 48, 48, 48, 48, 48, 48, 48, 48, 48, 48, 48, 48, 48, 48, 48, 48, 48, 48]⟩⟩, ⟨4, ⟨#[48, 49, 50, 51, 52, 53, 54, 55, 56, 57, 97, 98, 99, 100, 101, 102, 48, 49, 50, 51, 52, 53, 54, 55, 56, 57, 97, 98, 99, 100, 101, 102]⟩⟩, ⟨4, ⟨#[102, 102, 102, 102, 102, 102, 102, 102, 102, 102, 102, 102, 102, 102, 102, 102, 102, 102, 102, 102, 102, 102, 102, 102, 102, 102, 102, 102, 102, 102, 102, 102]⟩⟩]
def poolD : List D := poolL.flatMap TId.row
theorem poolD_len : poolD.length = 20 := rfl
theorem pool_at (i : Int) (h0 : 0 ≤ i) (h1 : i ≤ 9) : (poolD.drop (i.toNat * 2)).take 2 = [.int .i64 (poolL.getD i.toNat TId.z).kind, .str (poolL.getD i.toNat TId.z).text] := by
  obtain ⟨n, rfl⟩ : ∃ n : Nat, i = n := ⟨i.toNat, by omega⟩
  rw [Int.toNat_natCast]
  match n with
  | 0 => rfl
  | 1 => rfl
  | 2 => rfl
  | 3 => rfl
  | 4 => rfl
  | 5 => rfl
  | 6 => rfl
  | 7 => rfl
  | 8 => rfl
  | 9 => rfl
  | n + 10 => omega
theorem pool_ok (i : Nat) : (poolL.getD i TId.z).ok ∧ (poolL.getD i TId.z).text.size ≤ 40 := all_get (p := fun x : TId => x.ok ∧ x.text.size ≤ 40) (fun x hx => by
  have := List.all_eq_true.1 (show poolL.all (fun y => decide (0 ≤ y.kind ∧ y.kind ≤ 4 ∧ y.text.size ≤ 40)) = true by decide) x hx
  simp only [decide_eq_true_eq] at this
  exact ⟨⟨⟨by omega, by omega⟩, okS_of (by omega)⟩, this.2.2⟩) ⟨TId.z_ok, by decide⟩ i
theorem exId {k : Int} {s : ByteArray} (h1 : okI k) (h2 : okS s) : ∃ x : TId, x.ok ∧ [D.int .i64 k, D.str s] = x.row := ⟨⟨k, s⟩, ⟨h1, h2⟩, rfl⟩
def idG (n : Nat) : Spec where
  pre xs := xs = [.st]
  post xs y := ∃ x : TId, x.ok ∧ y = .dv (.ag x.row)
  cost _ := n
  fresh := false
set_option maxHeartbeats 8000000 in
theorem SpoiledId_ctr {cx : Cx} (h : Seat cx) (hN : cx.glob 0 = some poolD) : Ctr cx 78 (idG 5) := by
  refine ctr_of (fn := Tryz.f78) (l := [.cell 2 49]) (envL [(55, nextS), (12, pickS), (61, oneS), (126, changedS), (125, rep2S)]) [0, 2, 3, 9, 15, 21] [2] [] (envL_cons (next_ctr cx h.hP h.hS) (envL_cons (pick_ctr cx h.hP h.hS) (envL_cons (one_ctr h) (envL_cons (changed_ctr h) (envL_cons (rep2_ctr h) (env0 h.hP)))))) ?_ (by rw [h.hP]; exact Tryz.func78) rfl (by kernel_rfl) rfl ?_ ?_
  · rw [h.hP]; exact ⟨_, Tryz.func78, by kernel_rfl, by kernel_rfl⟩
  · rintro xs rfl; exact ⟨_, TId.z, TId.z_ok, rfl⟩
  · rintro xs rfl
    refine ⟨by rw [Tryz.ntmps78]; simp, ?_⟩
    simp only [go_sem, h.hP, List.cons_append, List.nil_append, Meets_e, Below_e, Prod.exists, exists_eq, exists_eq_left, exists_eq_left', exists_eq_right, exists_eq_right', exists_and_left, exists_and_right, Ob.arr.injEq, AV.own.injEq, AV.fv.injEq, Tryz.ntmps78, Nat.reduceEqDiff, reduceCtorEq, Nat.reduceMul, Nat.reduceAdd, Nat.reduceSub, Nat.reduceDiv, Nat.reduceMod, Nat.reduceLeDiff, Nat.reduceLT, Nat.reduceBNe, Nat.reduceBEq, reduceIte, Int.reduceLE, Int.reduceLT, Int.reduceToNat, Int.reduceNeg, Int.reduceAdd, Int.reduceSub, Int.reduceMul, Int.reduceEq]
    refine vc_cutT (TId) (fun (x : TId) => [(3, .ptr 3 0)]) [2] (fun (x : TId) => []) (fun (x : TId) => [(3, .box 49 [.i x.kind, .str x.text])]) (fun (x : TId) => 1) (fun (x : TId) => x.ok ∧ x.text.size ≤ 40) [] ?_ ?_ ?_
    · rfl
    · simp only [go_sem, h.hP, List.cons_append, List.nil_append, Meets_e, Below_e, Prod.exists, exists_eq, exists_eq_left, exists_eq_left', exists_eq_right, exists_eq_right', exists_and_left, exists_and_right, Ob.arr.injEq, AV.own.injEq, AV.fv.injEq, idG, nextS_q, nextS_p, nextS_c, nextS_f, hN, Tryz.ntmps78, Nat.reduceEqDiff, reduceCtorEq, Nat.reduceMul, Nat.reduceAdd, Nat.reduceSub, Nat.reduceDiv, Nat.reduceMod, Nat.reduceLeDiff, Nat.reduceLT, Nat.reduceBNe, Nat.reduceBEq, reduceIte, Int.reduceLE, Int.reduceLT, Int.reduceToNat, Int.reduceNeg, Int.reduceAdd, Int.reduceSub, Int.reduceMul, Int.reduceEq]
      intro a h0 h1
      rw [pool_at a h0 (by omega)]
      simp only [go_sem, h.hP, List.cons_append, List.nil_append, Meets_e, Below_e, Prod.exists, exists_eq, exists_eq_left, exists_eq_left', exists_eq_right, exists_eq_right', exists_and_left, exists_and_right, Ob.arr.injEq, AV.own.injEq, AV.fv.injEq, TId.ex, Tryz.ntmps78, Nat.reduceEqDiff, reduceCtorEq, Nat.reduceMul, Nat.reduceAdd, Nat.reduceSub, Nat.reduceDiv, Nat.reduceMod, Nat.reduceLeDiff, Nat.reduceLT, Nat.reduceBNe, Nat.reduceBEq, reduceIte, Int.reduceLE, Int.reduceLT, Int.reduceToNat, Int.reduceNeg, Int.reduceAdd, Int.reduceSub, Int.reduceMul, Int.reduceEq]
      have h2 := pool_ok a.toNat
      refine ⟨h0, by omega, ?_, h2.1, h2.2⟩
      rw [List.length_drop, poolD_len]
      omega
    · rintro x ⟨⟨o1, o2⟩, o3⟩
      simp only [go_sem, h.hP, List.cons_append, List.nil_append, Meets_e, Below_e, Prod.exists, exists_eq, exists_eq_left, exists_eq_left', exists_eq_right, exists_eq_right', exists_and_left, exists_and_right, Ob.arr.injEq, AV.own.injEq, AV.fv.injEq, idG, nextS_q, nextS_p, nextS_c, nextS_f, pickS_q, pickS_p, pickS_c, pickS_f, oneS_q, oneS_p, oneS_c, oneS_f, rep2S_q, rep2S_p, rep2S_c, rep2S_f, changedS, ints1, intsc, strs1, strsc, Tryz.ntmps78, Nat.reduceEqDiff, reduceCtorEq, Nat.reduceMul, Nat.reduceAdd, Nat.reduceSub, Nat.reduceDiv, Nat.reduceMod, Nat.reduceLeDiff, Nat.reduceLT, Nat.reduceBNe, Nat.reduceBEq, reduceIte, Int.reduceLE, Int.reduceLT, Int.reduceToNat, Int.reduceNeg, Int.reduceAdd, Int.reduceSub, Int.reduceMul, Int.reduceEq]
      have r1 := repL_size ⟨#[97]⟩ (show (0 : Int) ≤ 65 by decide)
      have r2 := repL_size ⟨#[98]⟩ (show (0 : Int) ≤ 31 by decide)
      have r3 := repL_size ⟨#[97]⟩ (show (0 : Int) ≤ 64 by decide)
      have r4 := repL_size ⟨#[98]⟩ (show (0 : Int) ≤ 12 by decide)
      have s1 : ((⟨#[97]⟩ : ByteArray).size : Int) = 1 := rfl
      have s2 : ((⟨#[98]⟩ : ByteArray).size : Int) = 1 := rfl
      rw [s1] at r1 r3
      rw [s2] at r2 r4
      refine fun a a0 a5 => ⟨fun _ k hk => exId (isIn_ok hk (by decide)) o2, fun _ => ⟨fun _ => ⟨by omega, by omega, by omega, by omega, by omega, by omega, fun s hs => exId o1 (okS_of (isOf_ok hs (by decide +kernel)))⟩, fun _ => ⟨by omega, fun s hs => exId o1 (okS_of (by omega))⟩⟩⟩
set_option maxHeartbeats 8000000 in
theorem Id_ctr {cx : Cx} (h : Seat cx) (hN : cx.glob 0 = some poolD) : Ctr cx 34 (idG 6) := by
  refine ctr_of (fn := Tryz.f34) (l := [.cell 2 49]) (envL [(55, nextS), (26, flipS), (78, (idG 5))]) [0, 2, 4] [] [] (envL_cons (next_ctr cx h.hP h.hS) (envL_cons (flip_ctr cx h.hP h.hS) (envL_cons (SpoiledId_ctr h hN) (env0 h.hP)))) ?_ (by rw [h.hP]; exact Tryz.func34) rfl (by kernel_rfl) rfl ?_ ?_
  · rw [h.hP]; exact ⟨_, Tryz.func34, by kernel_rfl, by kernel_rfl⟩
  · rintro xs rfl; exact ⟨_, TId.z, TId.z_ok, rfl⟩
  · rintro xs rfl
    refine ⟨by rw [Tryz.ntmps34]; simp, ?_⟩
    simp only [go_sem, h.hP, List.cons_append, List.nil_append, Meets_e, Below_e, Prod.exists, exists_eq, exists_eq_left, exists_eq_left', exists_eq_right, exists_eq_right', exists_and_left, exists_and_right, Ob.arr.injEq, AV.own.injEq, AV.fv.injEq, idG, nextS_q, nextS_p, nextS_c, nextS_f, flipS_q, flipS_p, flipS_c, flipS_f, TId.row, hN, Tryz.ntmps34, Nat.reduceEqDiff, reduceCtorEq, Nat.reduceMul, Nat.reduceAdd, Nat.reduceSub, Nat.reduceDiv, Nat.reduceMod, Nat.reduceLeDiff, Nat.reduceLT, Nat.reduceBNe, Nat.reduceBEq, reduceIte, Int.reduceLE, Int.reduceLT, Int.reduceToNat, Int.reduceNeg, Int.reduceAdd, Int.reduceSub, Int.reduceMul, Int.reduceEq]
    refine fun a => ⟨fun _ x hx => ⟨x, hx, rfl, rfl⟩, fun _ i i0 i1 => ?_⟩
    rw [pool_at i i0 (by omega)]
    simp only [go_sem, h.hP, List.cons_append, List.nil_append, Meets_e, Below_e, Prod.exists, exists_eq, exists_eq_left, exists_eq_left', exists_eq_right, exists_eq_right', exists_and_left, exists_and_right, Ob.arr.injEq, AV.own.injEq, AV.fv.injEq, TId.row, Tryz.ntmps34, Nat.reduceEqDiff, reduceCtorEq, Nat.reduceMul, Nat.reduceAdd, Nat.reduceSub, Nat.reduceDiv, Nat.reduceMod, Nat.reduceLeDiff, Nat.reduceLT, Nat.reduceBNe, Nat.reduceBEq, reduceIte, Int.reduceLE, Int.reduceLT, Int.reduceToNat, Int.reduceNeg, Int.reduceAdd, Int.reduceSub, Int.reduceMul, Int.reduceEq]
    have h2 := pool_ok i.toNat
    refine ⟨i0, by omega, ?_, _, h2.1, rfl, rfl⟩
    rw [List.length_drop, poolD_len]
    omega
end Go.Avc

namespace Go.Avc
open Go Go.Proofs

def evNamesL : List ByteArray := [⟨#[98, 117, 121]⟩, ⟨#[111, 112, 101, 110]⟩, ⟨#[113, 117, 105, 116]⟩, ⟨#[118, 105, 101, 119]⟩]
def evNamesD : List D := evNamesL.map D.str
theorem evNames_ok (n : Nat) : okS (evNamesL.getD n ⟨#[]⟩) := okS_of (all_get (p := fun s : ByteArray => s.size ≤ 1000) (fun x hx => by simpa using List.all_eq_true.1 (show evNamesL.all (fun y => decide (y.size ≤ 1000)) = true by decide) x hx) (by decide) n)
theorem evNames_drop (n : Nat) : (evNamesD.drop (n * 1)).headD (.str ⟨#[]⟩) = .str (evNamesL.getD n ⟨#[]⟩) := by
  rw [Nat.mul_one]
  match n with
  | 0 => rfl
  | 1 => rfl
  | 2 => rfl
  | 3 => rfl
  | n + 4 =>
    have h1 : evNamesD.drop (n + 4) = [] := List.drop_eq_nil_of_le (by show 4 ≤ n + 4; omega)
    have h2 : evNamesL.getD (n + 4) ⟨#[]⟩ = ⟨#[]⟩ := by
      rw [List.getD_eq_getElem?_getD, List.getElem?_eq_none (by show 4 ≤ n + 4; omega)]
      rfl
    rw [h1, h2]
    rfl
def eventG : Spec where
  pre xs := ∃ (s : ByteArray) (m : Int), xs = [.st, .str s, .i m] ∧ okS s ∧ okI m
  post xs y := ∃ (s : ByteArray) (m : Int) (e : TEvent), xs = [.st, .str s, .i m] ∧ e.ok ∧ y = .dv (.ag e.row)
  cost _ := 80
  fresh := false
set_option maxHeartbeats 16000000 in
theorem Event_ctr {cx : Cx} (h : Seat cx) (hN : cx.glob 2 = some namesD) (hI : cx.glob 0 = some poolD) (hE : cx.glob 1 = some evNamesD) : Ctr cx 72 eventG := by
  refine ctr_of (fn := Tryz.f72) (l := [.cell 6 52]) (envL [(55, nextS), (26, flipS), (61, oneS), (68, oddS), (116, fieldsG), (78, (idG 5))]) [0, 1, 2, 6, 7, 22, 24, 28, 34, 40] [11] [(1, [13], [])] (envL_cons (next_ctr cx h.hP h.hS) (envL_cons (flip_ctr cx h.hP h.hS) (envL_cons (one_ctr h) (envL_cons (odd_ctr h) (envL_cons (Fields_ctr h hN) (envL_cons (SpoiledId_ctr h hI) (env0 h.hP))))))) ?_ (by rw [h.hP]; exact Tryz.func72) rfl (by kernel_rfl) rfl ?_ ?_
  · rw [h.hP]; exact ⟨_, Tryz.func72, by kernel_rfl, by kernel_rfl⟩
  · rintro xs ⟨s, m, rfl, h1⟩; exact ⟨_, s, m, TEvent.z, rfl, TEvent.z_ok, rfl⟩
  · rintro xs ⟨s, m, rfl, h1, h2⟩
    refine ⟨by rw [Tryz.ntmps72]; simp, ?_⟩
    simp only [go_sem, h.hP, List.cons_append, List.nil_append, Meets_e, Below_e, Prod.exists, exists_eq, exists_eq_left, exists_eq_left', exists_eq_right, exists_eq_right', exists_and_left, exists_and_right, Ob.arr.injEq, AV.own.injEq, AV.fv.injEq, eventG, nextS_q, nextS_p, nextS_c, nextS_f, hI, hE, evNames_drop, intsDi_inj, TField.rows_inj, Tryz.ntmps72, Nat.reduceEqDiff, reduceCtorEq, Nat.reduceMul, Nat.reduceAdd, Nat.reduceSub, Nat.reduceDiv, Nat.reduceMod, Nat.reduceLeDiff, Nat.reduceLT, Nat.reduceBNe, Nat.reduceBEq, reduceIte, Int.reduceLE, Int.reduceLT, Int.reduceToNat, Int.reduceNeg, Int.reduceAdd, Int.reduceSub, Int.reduceMul, Int.reduceEq]
    intro a a0 a1
    refine ⟨a0, by omega, ?_, fun b b0 b1 => ?_⟩
    · have h4 : a.toNat < 4 := by omega
      generalize a.toNat = n at h4
      match n, h4 with
      | 0, _ => exact fun e => by cases e
      | 1, _ => exact fun e => by cases e
      | 2, _ => exact fun e => by cases e
      | 3, _ => exact fun e => by cases e
    rw [pool_at b b0 (by omega)]
    simp only [go_sem, h.hP, List.cons_append, List.nil_append, Meets_e, Below_e, Prod.exists, exists_eq, exists_eq_left, exists_eq_left', exists_eq_right, exists_eq_right', exists_and_left, exists_and_right, Ob.arr.injEq, AV.own.injEq, AV.fv.injEq, fieldsG, Tryz.ntmps72, Nat.reduceEqDiff, reduceCtorEq, Nat.reduceMul, Nat.reduceAdd, Nat.reduceSub, Nat.reduceDiv, Nat.reduceMod, Nat.reduceLeDiff, Nat.reduceLT, Nat.reduceBNe, Nat.reduceBEq, reduceIte, Int.reduceLE, Int.reduceLT, Int.reduceToNat, Int.reduceNeg, Int.reduceAdd, Int.reduceSub, Int.reduceMul, Int.reduceEq]
    have hp := pool_ok b.toNat
    have hn := evNames_ok a.toNat
    refine ⟨b0, by omega, ?_, fun l l7 lo => ?_⟩
    · rw [List.length_drop, poolD_len]
      omega
    refine vc_cutT (TEvent) (fun (e : TEvent) => [(22, .un), (24, .un), (28, .un), (34, .un), (40, .un)]) [6] (fun (e : TEvent) => []) (fun (e : TEvent) => [(7, .box 52 [.str e.id, .str e.name, .i e.at_, .i e.who.kind, .str e.who.text, .sl (TField.rows e.fields)])]) (fun (e : TEvent) => 75) (fun (e : TEvent) => e.ok) [] ?_ ?_ ?_
    · rfl
    · simp only [go_sem, h.hP, List.cons_append, List.nil_append, Meets_e, Below_e, Prod.exists, exists_eq, exists_eq_left, exists_eq_left', exists_eq_right, exists_eq_right', exists_and_left, exists_and_right, Ob.arr.injEq, AV.own.injEq, AV.fv.injEq, flipS_q, flipS_p, flipS_c, flipS_f, nextS_q, nextS_p, nextS_c, nextS_f, oneS_q, oneS_p, oneS_c, oneS_f, oddS_q, oddS_p, oddS_c, oddS_f, idG, strs1, strsc, TId.row, TField.rows_inj, TEvent.ex, TId.ex, Tryz.ntmps72, Nat.reduceEqDiff, reduceCtorEq, Nat.reduceMul, Nat.reduceAdd, Nat.reduceSub, Nat.reduceDiv, Nat.reduceMod, Nat.reduceLeDiff, Nat.reduceLT, Nat.reduceBNe, Nat.reduceBEq, reduceIte, Int.reduceLE, Int.reduceLT, Int.reduceToNat, Int.reduceNeg, Int.reduceAdd, Int.reduceSub, Int.reduceMul, Int.reduceEq]
      have hf : okL TField.ok l := ⟨by omega, lo⟩
      exact fun c => ⟨fun _ q q0 q4 => ⟨fun _ u hu => ⟨okS_of (isOf_ok hu (by decide)), hn, h2, hp.1, hf⟩, fun _ => ⟨fun _ u hu => ⟨h1, okS_of (isOf_ok hu (by decide)), h2, hp.1, hf⟩, fun _ => ⟨fun _ r r1 r2 => ⟨h1, hn, odd_ok r1 r2, hp.1, hf⟩, fun _ r u hu => ⟨h1, hn, h2, hu, hf⟩⟩⟩⟩, fun _ => ⟨h1, hn, h2, hp.1, hf⟩⟩
    · rintro e he
      simp only [go_sem, h.hP, List.cons_append, List.nil_append, Meets_e, Below_e, Prod.exists, exists_eq, exists_eq_left, exists_eq_left', exists_eq_right, exists_eq_right', exists_and_left, exists_and_right, Ob.arr.injEq, AV.own.injEq, AV.fv.injEq, eventG, TEvent.row, TEvent.ex, TId.ex, TField.rows_inj, Tryz.ntmps72, Nat.reduceEqDiff, reduceCtorEq, Nat.reduceMul, Nat.reduceAdd, Nat.reduceSub, Nat.reduceDiv, Nat.reduceMod, Nat.reduceLeDiff, Nat.reduceLT, Nat.reduceBNe, Nat.reduceBEq, reduceIte, Int.reduceLE, Int.reduceLT, Int.reduceToNat, Int.reduceNeg, Int.reduceAdd, Int.reduceSub, Int.reduceMul, Int.reduceEq]
      exact ⟨_, _, _, _, _, _, he, rfl, rfl, rfl, rfl, rfl, rfl⟩
end Go.Avc

namespace Go.Avc
open Go Go.RowKit Go.Proofs Go.Shelf Go.Sort

def lessE (x y : EvV) : Bool := decide (x.at_ < y.at_ ∨ (x.at_ = y.at_ ∧ Op.bytesLess x.id.toList y.id.toList = true))
def cmpE (x y : EvV) : Int := if lessE x y = true then -1 else 1
theorem lessE_t {x y : EvV} (h : x.at_ < y.at_ ∨ (x.at_ = y.at_ ∧ Op.bytesLess x.id.toList y.id.toList = true)) : cmpE x y = -1 := by
  unfold cmpE lessE
  rw [decide_eq_true h]
  rfl
theorem lessE_f {x y : EvV} (h : ¬ (x.at_ < y.at_ ∨ (x.at_ = y.at_ ∧ Op.bytesLess x.id.toList y.id.toList = true))) : cmpE x y = 1 := by
  unfold cmpE lessE
  rw [decide_eq_false h]
  rfl
set_option maxHeartbeats 8000000 in
theorem less_walk (x y : EvV) (W : World) : Calls Tryz.prog 156 #[.agg #[.string x.id, .string x.name, .int .i64 x.at_, .int .i64 x.kind, .string x.text, .slice x.A x.n x.c], .agg #[.string y.id, .string y.name, .int .i64 y.at_, .int .i64 y.kind, .string y.text, .slice y.A y.n y.c]] W
    fun e w' => e = .returned (.int .i64 (cmpE x y)) ∧ ∃ q os', w' = grow (W.drewN q) os' := by
  obtain ⟨q, hq⟩ : ∃ q, q = cmpE x y := ⟨_, rfl⟩
  rw [← hq]
  obtain ⟨xi, xn, xa, xk, xt, xA, xm, xc⟩ := x
  obtain ⟨yi, yn, ya, yk, yt, yA, ym, yc⟩ := y
  go_enter Tryz.func156, Tryz.ntmps156
  by_cases h1 : xa < ya
  · have e := hq.trans (lessE_t (.inl h1))
    clear hq
    subst e
    go_wp2
    go_ret
    exact ⟨rfl, 0, _, by rw [alloc_eq_grow, alloc_eq_grow, grow_grow]; rfl⟩
  · by_cases h2 : xa = ya
    · subst h2
      by_cases h3 : Op.bytesLess xi.toList yi.toList = true
      · have e := hq.trans (lessE_t (.inr ⟨rfl, h3⟩))
        clear hq
        subst e
        go_wp2
        go_ret
        exact ⟨rfl, 0, _, by rw [alloc_eq_grow, alloc_eq_grow, grow_grow]; rfl⟩
      · have e := hq.trans (lessE_f (fun z => z.elim h1 fun z => h3 z.2))
        clear hq
        subst e
        rw [Bool.not_eq_true] at h3
        go_wp2
        go_ret
        exact ⟨rfl, 0, _, by rw [alloc_eq_grow, alloc_eq_grow, grow_grow]; rfl⟩
    · have e := hq.trans (lessE_f (fun z => z.elim h1 fun z => h2 z.1))
      clear hq
      subst e
      have h2' : (xa == ya) = false := beq_eq_false_iff_ne.2 h2
      go_wp2
      go_ret
      exact ⟨rfl, 0, _, by rw [alloc_eq_grow, alloc_eq_grow, grow_grow]; rfl⟩
def cfE (p q : TEvent × EvV) : Int := cmpE p.2 q.2
theorem cfE_lt (p q : TEvent × EvV) : ltOf cfE p q = lessE p.2 q.2 := by
  unfold ltOf cfE cmpE
  cases lessE p.2 q.2 <;> decide
theorem lessE_iff (x y : EvV) : lessE x y = true ↔ x.at_ < y.at_ ∨ (x.at_ = y.at_ ∧ lessS x.id y.id = true) := by
  unfold lessE
  rw [decide_eq_true_eq]
  rfl
theorem cfE_swo : SWO (ltOf cfE) where
  irrefl x := by
    rw [cfE_lt, Bool.eq_false_iff, Ne, lessE_iff]
    rintro (h | ⟨_, h⟩)
    · omega
    · rw [lessS_irrefl] at h
      cases h
  trans x y z h k := by
    rw [cfE_lt, lessE_iff] at h k ⊢
    rcases h with h | ⟨h1, h2⟩ <;> rcases k with k | ⟨k1, k2⟩
    · exact .inl (by omega)
    · exact .inl (by omega)
    · exact .inl (by omega)
    · exact .inr ⟨by omega, lessS_trans h2 k2⟩
  ntrans x y z h k := by
    rw [cfE_lt, Bool.eq_false_iff, Ne, lessE_iff] at h k ⊢
    intro c
    have key : ∀ {s t u : ByteArray}, ¬ lessS s t = true → ¬ lessS t u = true → ¬ lessS s u = true := fun {s t u} h1 h2 h3 => by
      by_cases e1 : s = t
      · subst e1; exact h2 h3
      by_cases e2 : t = u
      · subst e2; exact h1 h3
      have g1 := lessS_total (s := s) (t := t) (fun q => q.elim h1 e1)
      have g2 := lessS_total (s := t) (t := u) (fun q => q.elim h2 e2)
      have g3 := lessS_trans (lessS_trans g2 g1) h3
      rw [lessS_irrefl] at g3
      cases g3
    rcases c with c | ⟨c1, c2⟩
    · have h1 : ¬ x.2.at_ < y.2.at_ := fun e => h (.inl e)
      have h2 : ¬ y.2.at_ < z.2.at_ := fun e => k (.inl e)
      omega
    · have h1 : ¬ x.2.at_ < y.2.at_ := fun e => h (.inl e)
      have h2 : ¬ y.2.at_ < z.2.at_ := fun e => k (.inl e)
      exact key (fun e => h (.inr ⟨by omega, e⟩)) (fun e => k (.inr ⟨by omega, e⟩)) c2

/-! ### Sorting a row of one's own -/
def encE (p : TEvent × EvV) : List Value := p.2.enc
theorem encE_len (p : TEvent × EvV) : (encE p).length = 6 := rfl
theorem encE_one (p : TEvent × EvV) : ∀ v ∈ encE p, v.oneCell' = true := p.2.one
theorem less_walk' (x y : TEvent × EvV) (W : World) : Calls Tryz.prog 156 #[.agg (encE x).toArray, .agg (encE y).toArray] W fun e w' => e = .returned (.int .i64 (cfE x y)) ∧ ∃ q os', w' = grow (W.drewN q) os' := less_walk x.2 y.2 W
theorem flatE_at (d : Array (TEvent × EvV)) {j : Nat} (hj : j < d.size * 6) : (encP d.toList)[j]? = some ((flatK encE 6 d)[j]!) := by
  have hd : j / 6 < d.size := by omega
  have h1 : d.toList[j / 6]? = some d[j / 6] := by rw [Array.getElem?_toList, Array.getElem?_eq_getElem hd]
  have h2 := encP_get d.toList h1 (Nat.mod_lt j (by decide))
  rw [show j / 6 * 6 + j % 6 = j by omega] at h2
  rw [h2, get_flatK _ _ _ _ hj, getElem!_pos d (j / 6) hd]
  have hl : j % 6 < (d[j / 6]).2.enc.length := by rw [EvV.len]; exact Nat.mod_lt _ (by decide)
  rw [List.getElem?_eq_getElem hl]
  show _ = some ((d[j / 6]).2.enc)[j % 6]!
  rw [getElem!_pos ((d[j / 6]).2.enc) _ hl]
theorem holdsE {w : World} {b : Nat} {cur : Array Value} {e : TypeId} {l : List (TEvent × EvV)} (h3 : w.heap[b]? = some (.cells cur e (0, 0))) (h7 : cur.toList.take (l.length * 6) = encP l) : HoldsK encE 6 w b 0 l.toArray := by
  intro j hj
  rw [size_flatK] at hj
  have hj' : j < l.length * 6 := by simpa using hj
  have h := flatE_at l.toArray hj
  have h8 := congrArg (fun q : List Value => q[j]?) h7
  simp only [List.getElem?_take, if_pos hj', Array.getElem?_toList] at h8
  rw [show l.toArray.toList = l from rfl, ← h8] at h
  constructor
  · unfold World.cell?
    rw [h3]
    simpa using h
  · unfold World.frozen?
    rw [h3]
    simp
theorem afterE {w w' : World} {base b cap n : Nat} {cur : Array Value} {e : TypeId} {d : Array (TEvent × EvV)} {os : Array Obj} (hb : base ≤ b) (h3 : w.heap[b]? = some (.cells cur e (0, 0)))
    (hn : d.size ≤ cap) (hcap : cap ≤ maxLen) (hcs : cur.size = cap * 6) (hw : w' = grow (putRowK encE 6 (Sort.ahead w n) b 0 d) os) :
    Else w (some b) w' ∧ w'.ownsRow base e 6 (.slice (some ⟨b, 0, none⟩) d.size cap) d.toList.length (encP d.toList) := by
  have hlt : b < w.heap.size := (Array.getElem?_eq_some_iff.1 h3).1
  have hsz : w'.heap.size = w.heap.size + os.size := by
    subst hw
    unfold putRowK putRow mapBlock grow Sort.ahead
    simp
  have hat : ∀ k', k' < w.heap.size → w'.heap[k']? = if b = k' then (w.heap[k']?).map (onCells (putCells id 0 (flatK encE 6 d))) else w.heap[k']? := fun k' hk' => by
    subst hw
    unfold putRowK putRow mapBlock grow Sort.ahead
    rw [Array.getElem?_append_left (by simpa using hk'), Array.getElem?_modify]
  refine ⟨⟨by subst hw; rfl, by subst hw; rfl, by subst hw; rfl, by omega, fun k' hk' hne => by rw [hat k' hk', if_neg fun e => hne (by rw [e])]⟩, ⟨?_, .inr ⟨b, cap, putCells id 0 (flatK encE 6 d) cur, by simp, hb, ?_, by simpa using hn, hcap, ?_, ?_⟩⟩⟩
  · rw [encP_len]
  · rw [hat b hlt, if_pos rfl, h3]; rfl
  · unfold putCells; simpa using hcs
  · apply List.ext_getElem?
    intro j
    have hle : d.size * 6 ≤ cap * 6 := Nat.mul_le_mul_right 6 hn
    rw [List.getElem?_take]
    by_cases hj : j < d.toList.length * 6
    · rw [if_pos hj]
      have hj' : j < d.size * 6 := by simpa using hj
      rw [flatE_at d hj', Array.getElem?_toList]
      unfold putCells
      rw [Array.getElem?_mapIdx, Array.getElem?_eq_getElem (by omega)]
      simp only [Option.map_some, size_flatK, Nat.zero_le, true_and, Nat.zero_add, if_pos hj', Nat.sub_zero, id]
    · rw [if_neg hj, eq_comm, List.getElem?_eq_none_iff, encP_len]
      simpa using hj
theorem isAgg_ev (w : World) : (isAgg 52).run Tryz.prog w = .ok true w := by
  simp [isAgg, run_underlying Tryz.underlying52]
theorem sizeOf_ev (w : World) : (Go.sizeOf 52).run Tryz.prog w = .ok 6 w := by
  have hc : Tryz.prog.cellsOf 52 = 6 := by kernel_rfl
  have := size_run (P := Tryz.prog) (t := 52) (by rw [hc]; decide) w
  rw [hc] at this
  exact this
theorem sortE {w : World} {base : Nat} {v : Value} {ps : List (TEvent × EvV)} (hlen : ps.length ≤ 1048576) (hrow : w.ownsRow base 52 6 v ps.length (encP ps)) :
    Calls Tryz.prog 155 #[v, .func (.func 156) #[] #[]] w fun e w' => e = .returned (.tuple #[]) ∧ ∃ ps' : List (TEvent × EvV), ps'.Perm ps ∧ Else w v.ownBlock w' ∧ w'.ownsRow base 52 6 v ps'.length (encP ps') := by
  rcases hrow.2 with ⟨h1, hn⟩ | ⟨b, cap, cur, h1, h2, h3, h4, h5, h6, h7⟩
  · subst h1
    obtain rfl : ps = [] := List.eq_nil_of_length_eq_zero hn
    refine (AnyF.slices_SortFunc_none Tryz.laysSortEvent none 0 _ w).mono fun e' w' ⟨e1, e2⟩ => ⟨e1, [], List.Perm.refl _, ?_⟩
    subst e2
    exact ⟨⟨rfl, rfl, rfl, Nat.le_refl _, fun _ _ _ => rfl⟩, World.ownsRow_nil ..⟩
  · subst h1
    have hb : b < w.heap.size := (Array.getElem?_eq_some_iff.1 h3).1
    have hcall := AnyQ.slices_SortFunc Tryz.laysSortEvent 6 isAgg_ev sizeOf_ev encE encE_len encE_one cfE cfE_swo 156 #[] b 0 cap ps.toArray w (fun args w => callFunc_run ⟨_, Tryz.func156, by kernel_rfl, by kernel_rfl⟩ args w)
      (fun m os dk _ x y => by simpa using less_walk' x y _) (holdsE h3 h7) hb (by simp; omega)
    refine Calls.mono (show Calls Tryz.prog 155 #[.slice (some ⟨b, 0, none⟩) ps.length cap, .func (.func 156) #[] #[]] w _ from hcall) fun e' w' ⟨e1, d', n, os, hp, hs, hw⟩ => ?_
    have hds : d'.size = ps.length := by have := hp.1; simpa using this
    obtain ⟨a1, a2⟩ := afterE (w := w) (w' := w') (base := base) (b := b) (cap := cap) (e := 52) (d := d') h2 h3 (by omega) h5 h6 hw
    rw [hds] at a2
    refine ⟨e1, d'.toList, ?_, a1, a2⟩
    have h8 := hp.2.2
    rw [show ps.toArray.size = d'.size by rw [hds]; simp] at h8
    have e8 : (ps.toArray.extract 0 d'.size) = ps.toArray := by rw [hds]; simp
    have e9 : (d'.extract 0 d'.size) = d' := by simp
    rw [e8, e9] at h8
    exact h8

/-! ### Copying a row -/
set_option maxHeartbeats 2000000 in
theorem cloneE_empty (a : Addr) (c : Nat) (w : World) : Calls Tryz.prog 38 #[.slice (some a) 0 c] w fun e w' => ∃ v', e = .returned v' ∧ w'.ownsRow w.heap.size 52 6 v' 0 [] ∧ RowKit.Below w.heap.size w w' := by
  have q22 : ∀ (w : World) (a : Option Addr) (n c n' c' : Nat), (binOp .eql 26 (.slice a n c) (.slice none n' c')).run Tryz.prog w = .ok (.bool a.isNone) w := fun w a n c n' c' => Lib.run_eql_slice_nil w _ _ a n c n' c' Tryz.underlying26
  go_enter Tryz.func38, Tryz.ntmps38
  go_wp2
  go_ret
  exact ⟨_, rfl, ⟨rfl, .inr ⟨w.heap.size, 0, #[], rfl, Nat.le_refl _, heap_alloc_new w _, Nat.le_refl _, by decide, rfl, rfl⟩⟩, (RowKit.Below.refl _ w).alloc (Nat.le_refl _) _⟩
theorem cloneE_rest (ps : List (TEvent × EvV)) (b o c : Nat) (w : World) (hl : ps.length ≤ 1048576) (hc : ∀ j u, (encP ps)[j]? = some u → w.cell? ⟨b, o + j, none⟩ = some u) :
    Calls Tryz.prog 38 #[.slice (some ⟨b, o, none⟩) ps.length c] w fun e w' => ∃ v', e = .returned v' ∧ w'.ownsRow w.heap.size 52 6 v' ps.length (encP ps) ∧ RowKit.Below w.heap.size w w' := by
  obtain ⟨i0, hi, hz0, hz1, hz2⟩ := info_parts (P := Tryz.prog) (e := 52) (z := .agg #[.string ⟨#[]⟩, .string ⟨#[]⟩, .int .i64 0, .int .i64 0, .string ⟨#[]⟩, .slice none 0 0]) (size := 6) (bytes := 88) (by kernel_rfl)
  refine (AnyE.slices_Clone Tryz.laysCloneEvent i0 _ 6 88 hi hz0 hz1 hz2 rfl (by decide) sizeOf_ev b o ps.length c _ w (encP_len ps) (by unfold maxLen; omega) (by omega) hc (encP_one ps)).mono ?_
  rintro e w' ⟨v', h1, h2, _, h3⟩
  exact ⟨v', h1, h2, h3⟩
end Go.Avc

namespace Go.Avc
open Go Go.Proofs

end Go.Avc

namespace Go.Avc
open Go Go.RowKit Go.Proofs
set_option maxHeartbeats 4000000 in
theorem idx_nilX (g : Nat) (caps : Array Value) (w : World) : Calls Tryz.prog 87 #[.slice none 0 0, .func (.func g) #[] caps] w fun e W => e = .returned (.int .i64 (-1)) ∧ W = w := by
  go_enter Tryz.func87, Tryz.ntmps87
  go_wp2
  go_loopw [8] (fun i wr => i = .int .i64 0 ∧ wr = w) (fun _ _ => 0)
  case atStart => exact ⟨rfl, rfl⟩
  case round =>
    obtain ⟨rfl, rfl⟩ := hrel
    go_wp2
    go_ret
    exact ⟨rfl, rfl⟩
set_option maxHeartbeats 4000000 in
theorem del_nilX (g : Nat) (caps : Array Value) (w : World) : Calls Tryz.prog 37 #[.slice none 0 0, .func (.func g) #[] caps] w fun e W => e = .returned (.slice none 0 0) ∧ W = w := by
  go_enter Tryz.func37, Tryz.ntmps37
  go_wp2_with (go_at_call 87; refine (idx_nilX g caps w).mono ?_; rintro e w1 ⟨rfl, rfl⟩)
  go_ret
  exact ⟨rfl, rfl⟩
noncomputable def stayL (sp : FSpec) (l : List TEvent) : List TEvent := l.filter fun e => !sp.holds (.ag e.row)
def delS : Spec where
  pre az := ∃ (l : List TEvent) (sp : FSpec), az = [.sl (TEvent.rows l), .fv sp] ∧ (∀ e ∈ l, sp.det (.ag e.row)) ∧ l.length ≤ 1048576
  post az r := ∃ (l : List TEvent) (sp : FSpec), az = [.sl (TEvent.rows l), .fv sp] ∧ r = .sl (TEvent.rows (stayL sp l))
  cost _ := 0
  fresh := true
theorem delS_c (xs : List AV) : delS.cost xs = 0 := nr rfl
theorem delS_f : delS.fresh = true := nr rfl
theorem delS_q (l : List TEvent) (sp : FSpec) : delS.pre [.sl (TEvent.rows l), .fv sp] = ((∀ e ∈ l, sp.det (.ag e.row)) ∧ l.length ≤ 1048576) := propext ⟨fun ⟨l', sp', e, h⟩ => by
  simp only [List.cons.injEq, AV.dv.injEq, DV.d.injEq, D.sl.injEq, AV.fv.injEq, TEvent.rows_inj, and_true] at e
  obtain ⟨rfl, rfl⟩ := e
  exact h, fun h => ⟨l, sp, rfl, h⟩⟩
theorem delS_p (l : List TEvent) (sp : FSpec) : delS.post [.sl (TEvent.rows l), .fv sp] = fun r => r = .sl (TEvent.rows (stayL sp l)) := funext fun r => propext ⟨fun ⟨l', sp', e, h⟩ => by
  simp only [List.cons.injEq, AV.dv.injEq, DV.d.injEq, D.sl.injEq, AV.fv.injEq, TEvent.rows_inj, and_true] at e
  obtain ⟨rfl, rfl⟩ := e
  exact h, fun h => ⟨l, sp, rfl, h⟩⟩
theorem del_own {cx : Cx} (h : Seat cx) : CtrO cx 37 delS 52 2000006 := by
  refine ⟨by rw [h.hP]; exact ⟨_, Tryz.func37, by kernel_rfl, by kernel_rfl⟩, fun hz => by omega, fun _ => ⟨fun hz => by omega, fun _ => ?_⟩⟩
  rw [show 2000006 - 2000000 = 6 by omega]
  intro F base l0 xs v az vals hcx hF hst hgl hlen hargs hbase hgb hrow hblk hz hR ⟨l, sp, hl0, hdet, hl⟩
  subst hcx
  simp only [List.cons.injEq, AV.dv.injEq, DV.d.injEq, D.sl.injEq] at hl0
  obtain ⟨rfl, rfl⟩ := hl0
  obtain ⟨u, rfl⟩ : ∃ u, vals = [u] := List.length_eq_one_iff.1 (by simpa using hlen.symm)
  obtain ⟨f, caps, rfl, hen, hcall⟩ := (show CallableX F.cx F.w0 v.ownBlock sp u from hargs 0 (.fv sp) u rfl rfl)
  rw [h.hP] at hen hcall ⊢
  obtain ⟨ps, hps, rfl, hlay⟩ := lays_of l xs hR
  have hpl : (TEvent.rows l).length = ps.length := by rw [TEvent.len, ← hps, List.length_map]
  rw [hpl] at hrow
  have hkeep : (ps.filter fun p => !sp.holds (.ag p.1.row)).map Prod.fst = stayL sp l := by
    unfold stayL
    rw [← hps, List.filter_map]
    rfl
  rcases hrow.2 with ⟨h1, hn⟩ | ⟨b, cap, cur, h1, h2, h3, h4, h5, h6, h7⟩
  · subst h1
    obtain rfl : ps = [] := List.eq_nil_of_length_eq_zero hn
    obtain rfl : l = [] := by rw [← hps]; rfl
    refine (del_nilX f caps F.w0).mono fun e' w' ⟨e1, e2⟩ => ⟨.slice none 0 0, [], [], e1, ⟨[], sp, rfl, rfl⟩, ?_⟩
    subst e2
    exact ⟨⟨Nat.le_refl _, rfl, rfl, rfl, fun _ _ _ _ => rfl⟩, hst, .inl rfl, World.ownsRow_nil .., fun i x hx => by simp at hx, RdL.nil⟩
  · subst h1
    have hb : b < F.w0.heap.size := (Array.getElem?_eq_some_iff.1 h3).1
    have hgb2 : ∀ g', F.cx.g = some g' → g' < b := fun g' e => by have := hgb g' e; omega
    have hnok : ¬ F.ok b := (hblk b rfl).1
    have hmem : ∀ p ∈ ps, p.1 ∈ l := fun p hp => by rw [← hps]; exact List.mem_map.2 ⟨p, hp, rfl⟩
    have h0 : DelX F.cx F.N F.w0 b cap ps F.w0 := ⟨rfl, rfl, rfl, Nat.le_refl _, fun _ _ _ _ => rfl, hst, ⟨cur, h3, h6⟩, fun j hj c v hv => by
      have hc : c < 6 := (List.getElem?_eq_some_iff.1 hv).1
      have hj2 : ps[j]? = some (ps.getD j EvP.z) := by rw [List.getD_eq_getElem?_getD, List.getElem?_eq_getElem hj]; rfl
      have h8 := (encP_get ps hj2 hc).trans hv
      rw [Lib.cell_of_heap h3]
      have h9 := congrArg (fun q : List Value => q[j * 6 + c]?) h7
      simp only [List.getElem?_take, Array.getElem?_toList] at h9
      rw [if_pos (by omega), h8] at h9
      exact h9⟩
    have hp : PredX F.cx F.N F.w0 b cap f caps ps (fun p => sp.holds (.ag p.1.row)) := fun p hp q W hW => by
      have hlo : ∀ k, F.ok k → W.heap[k]? = F.w0.heap[k]? := fun k hk => hW.keep k (hF.ok k hk).1 (fun e => hnok (e ▸ hk)) (hF.ok k hk).2
      have hgl2 : GlAt F.cx W := fun k l hk => by
        obtain ⟨g0, g1, cs, g2, g3⟩ := hgl k l hk
        exact ⟨g0, Nat.lt_of_lt_of_le g1 hW.size, cs, fun j u hj => (cell_congr (a := ⟨k, j, none⟩) (hlo k (hF.gl k g0))).trans (g2 j u hj), g3.mono hW.size (fun _ h _ => h) (fun b hb _ => hlo b (hF.gl b hb))⟩
      have hd := hdet p.1 (hmem p hp)
      have := hcall W F.N F.ok [.ag p.1.row] [.agg p.2.enc.toArray] ⟨hW.size, hW.os, hW.tape, hW.out, fun k hk hgk hbk => hW.keep k hk (fun e => hbk (by rw [e]; rfl)) hgk⟩ hW.st hgl2 (by have := hF.nb; omega) (fun k hk => ⟨Nat.lt_of_lt_of_le (hF.ok k hk).1 hW.size, (hF.ok k hk).2⟩) (fun k hk => hF.gl k hk) rfl (fun i a u ha hu => by
        match i with
        | 0 => cases ha; cases hu; exact ⟨p.2.enc, rfl, RdL.mono (hlay p hp) hW.size (fun _ h _ => h) (fun k hk _ => hlo k hk)⟩
        | i + 1 => simp at ha) hd.1
      refine this.mono ?_
      rintro e W' ⟨v, r, rfl, hpo, hr, hg, hst'⟩
      obtain rfl := (hd.2 r).1 hpo
      cases (show Rd _ W' (.bool _) v from hr)
      exact ⟨rfl, hg, hst'⟩
    refine Calls.mono (show Calls Tryz.prog 37 #[.slice (some ⟨b, 0, none⟩) ps.length cap, .func (.func f) #[] caps] F.w0 _ from delX_walk hb hgb2 (by rw [← hpl, TEvent.len]; exact hl) h4 h0 (fun args w => callFunc_run hen args w) hp) fun e' w' ⟨e1, hd⟩ => ?_
    obtain ⟨cur', c1, c2⟩ := hd.blk
    generalize hqs : (ps.filter fun p => !sp.holds (.ag p.1.row)) = qs at *
    have hsub : ∀ p ∈ qs, p ∈ ps := fun p hp => by rw [← hqs] at hp; exact (List.mem_filter.1 hp).1
    have hql : qs.length ≤ ps.length := by rw [← hqs]; exact List.length_filter_le _ _
    refine ⟨_, TEvent.rows (stayL sp l), encP qs, e1, ⟨l, sp, rfl, rfl⟩, ⟨hd.size, hd.os, hd.tape, hd.out, fun k hk hgk hne => hd.keep k hk (fun e => hne (by rw [e]; rfl)) hgk⟩, hd.st, .inr (.inl rfl), ⟨?_, .inr ⟨b, cap, cur', ?_, h2, c1, ?_, h5, c2, ?_⟩⟩, fun i x hx => TEvent.z_len _ x (List.mem_of_getElem? hx), ?_⟩
    · rw [TEvent.len, ← hkeep, List.length_map]; exact encP_len qs
    · rw [TEvent.len, ← hkeep, List.length_map]
    · rw [TEvent.len, ← hkeep, List.length_map]; omega
    · rw [TEvent.len, ← hkeep, List.length_map]
      apply List.ext_getElem?
      intro i
      rw [List.getElem?_take]
      by_cases hi : i < qs.length * 6
      · rw [if_pos hi, Array.getElem?_toList, ← Lib.cell_of_heap c1 i]
        have hj : i / 6 < qs.length := by omega
        obtain ⟨v, hv⟩ : ∃ v, (qs.getD (i / 6) EvP.z).2.enc[i % 6]? = some v := ⟨_, List.getElem?_eq_getElem (show i % 6 < (qs.getD (i / 6) EvP.z).2.enc.length from Nat.mod_lt _ (by decide))⟩
        have q1 := hd.rows (i / 6) hj (i % 6) v hv
        have hj2 : qs[i / 6]? = some (qs.getD (i / 6) EvP.z) := by rw [List.getD_eq_getElem?_getD, List.getElem?_eq_getElem hj]; rfl
        have q2 := (encP_get qs hj2 (Nat.mod_lt i (by decide))).trans hv
        rw [show i / 6 * 6 + i % 6 = i by omega] at q1 q2
        rw [q1, q2]
      · rw [if_neg hi, eq_comm, List.getElem?_eq_none_iff, encP_len]
        omega
    · rw [← hkeep]
      exact lays_to qs fun p hp => (hlay p (hsub p hp)).mono hd.size (fun _ h _ => h) (fun k hk _ => hd.keep k (hF.ok k hk).1 (fun e => hnok (e ▸ hk)) (hF.ok k hk).2)
end Go.Avc

namespace Go.Avc
open Go Go.Proofs

end Go.Avc

namespace Go.Avc
open Go Go.Proofs

/-! ### An event by itself -/
def evF (e : TEvent) : Int := if keyB e.id = false ∨ keyB e.name = false then 5 else if inB e.at_ 0 4321439 = false then 1 else orE (idF e.who) (fieldsF e.fields)
def evS  : Spec where
  pre xs := ∃ (e : TEvent), xs = [.dv (.ag e.row)] ∧ (e.ok)
  post xs y := ∃ (e : TEvent), xs = [.dv (.ag e.row)] ∧ y = .i (evF e)
  cost _ := 0
  fresh := true
theorem evS_c  (xs : List AV) : (evS).cost xs = 0 := nr rfl
theorem evS_f  : (evS).fresh = true := nr rfl
theorem evS_q  (e : TEvent) : (evS).pre [.dv (.ag [.str e.id, .str e.name, .int .i64 e.at_, .int .i64 e.who.kind, .str e.who.text, .sl (TField.rows e.fields)])] = (e.ok) := propext ⟨fun h => by
  have h' : ∃ (e' : TEvent), ([.dv (.ag e.row)] : List AV) = [.dv (.ag e'.row)] ∧ (e'.ok) := h
  obtain ⟨e', e, h⟩ := h'
  simp only [List.cons.injEq, AV.dv.injEq, AV.dp.injEq, AV.fv.injEq, DV.d.injEq, DV.ag.injEq, D.int.injEq, D.str.injEq, D.bool.injEq, D.sl.injEq, true_and, and_true, intsDi_inj, rowsT_inj, rowsKi_inj, TEvent.row_inj, TEvent.rows_inj] at e
  obtain rfl := e
  exact h, fun h => ⟨e, rfl, h⟩⟩
theorem evS_p  (e : TEvent) : (evS).post [.dv (.ag [.str e.id, .str e.name, .int .i64 e.at_, .int .i64 e.who.kind, .str e.who.text, .sl (TField.rows e.fields)])] = fun y => y = .i (evF e) := funext fun y => propext ⟨fun h => by
  have h' : ∃ (e' : TEvent), ([.dv (.ag e.row)] : List AV) = [.dv (.ag e'.row)] ∧ y = .i (evF e') := h
  obtain ⟨e', e, h⟩ := h'
  simp only [List.cons.injEq, AV.dv.injEq, AV.dp.injEq, AV.fv.injEq, DV.d.injEq, DV.ag.injEq, D.int.injEq, D.str.injEq, D.bool.injEq, D.sl.injEq, true_and, and_true, intsDi_inj, rowsT_inj, rowsKi_inj, TEvent.row_inj, TEvent.rows_inj] at e
  obtain rfl := e
  exact h, fun h => ⟨e, rfl, h⟩⟩
theorem evF_5 {e : TEvent} (c : keyB e.id = false ∨ keyB e.name = false) : evF e = 5 := if_pos c
theorem evF_n {e : TEvent} (a : keyB e.id = true) (b : keyB e.name = true) : evF e = if inB e.at_ 0 4321439 = false then 1 else orE (idF e.who) (fieldsF e.fields) := if_neg fun c => c.elim (ne_ft a) (ne_ft b)
set_option maxHeartbeats 2000000 in
theorem CheckOne_ctr {cx : Cx} (h : Seat cx) (hU : Utf8 cx) (hM : MaxL cx) : Ctr cx 74 evS := by
  refine ctr_of (fn := Tryz.f74) (l := [.tmp 2]) (envL [(90, (strB keyB)), (56, inS), (79, idS), (117, fieldsS)]) [0, 1, 2, 3, 4, 15, 24] [] [] (envL_cons (IsKey_ctr h) (envL_cons (ewithin_ctr h) (envL_cons (CheckId_ctr h hM) (envL_cons (CheckFields_ctr h hU) (env0 h.hP))))) ?_ (by rw [h.hP]; exact Tryz.func74) rfl (by kernel_rfl) rfl ?_ ?_
  · rw [h.hP]; exact ⟨_, Tryz.func74, by kernel_rfl, by kernel_rfl⟩
  · rintro xs ⟨e, rfl, h1⟩; exact ⟨_, e, rfl, rfl⟩
  · rintro xs ⟨e, rfl, h1⟩
    refine ⟨by rw [Tryz.ntmps74]; simp, ?_⟩
    simp only [go_sem, h.hP, List.cons_append, List.nil_append, Meets_e, Below_e, Prod.exists, exists_eq, exists_eq_left, exists_eq_left', exists_eq_right, exists_eq_right', exists_and_left, exists_and_right, Ob.arr.injEq, AV.own.injEq, AV.fv.injEq, evS_q, evS_p, evS_c, evS_f, strB_q, strB_p, strB_c, strB_f, inS_q, inS_p, inS_c, inS_f, idS_q, idS_p, idS_c, idS_f, fieldsS_q, fieldsS_p, fieldsS_c, fieldsS_f, TEvent.row, TId.row, Tryz.ntmps74, Nat.reduceEqDiff, reduceCtorEq, Nat.reduceMul, Nat.reduceAdd, Nat.reduceSub, Nat.reduceDiv, Nat.reduceMod, Nat.reduceLeDiff, Nat.reduceLT, Nat.reduceBNe, Nat.reduceBEq, reduceIte, Int.reduceLE, Int.reduceLT, Int.reduceToNat, Int.reduceNeg, Int.reduceAdd, Int.reduceSub, Int.reduceMul, Int.reduceEq]
    obtain ⟨o1, o2, o3, o4, o5⟩ := h1
    unfold okS at o1 o2
    refine ⟨by omega, fun a => ⟨by omega, fun b => (evF_5 (.inr b)).symm, fun b => ?_⟩, fun a => (evF_5 (.inl a)).symm⟩
    rw [evF_n a b]
    exact ⟨fun c => (if_pos c).symm, fun c => ⟨o4, fun d => ((if_neg (ne_ft c)).trans (orE_l d)).symm, fun d => ⟨o5, ((if_neg (ne_ft c)).trans (orE_r d)).symm⟩⟩⟩
def idOf (e : TEvent) : Int := idF e.who
def fieldsOf (e : TEvent) : Int := fieldsF e.fields
theorem ev1_ctr {cx : Cx} (h : Seat cx) (hM : MaxL cx) : Ctr cx 122 (c1S TEvent.row TEvent.ok idOf) := by
  refine ctr_of (fn := Tryz.f122) (l := [.tmp 1]) (envL [(36, idS)]) [0, 1] [] [] (envL_cons (IdFault_ctr h hM) (env0 h.hP)) ?_ (by rw [h.hP]; exact Tryz.func122) rfl (by kernel_rfl) rfl ?_ ?_
  · rw [h.hP]; exact ⟨_, Tryz.func122, by kernel_rfl, by kernel_rfl⟩
  · rintro xs ⟨e, rfl, h1⟩; exact ⟨_, e, rfl, rfl⟩
  · rintro xs ⟨e, rfl, h1⟩
    refine ⟨by rw [Tryz.ntmps122]; simp, ?_⟩
    simp only [go_sem, h.hP, List.cons_append, List.nil_append, Meets_e, Below_e, Prod.exists, exists_eq, exists_eq_left, exists_eq_left', exists_eq_right, exists_eq_right', exists_and_left, exists_and_right, Ob.arr.injEq, AV.own.injEq, AV.fv.injEq, idS_q, idS_p, idS_c, idS_f, c1S_c, c1S_f, TEvent.row, TId.row, Tryz.ntmps122, Nat.reduceEqDiff, reduceCtorEq, Nat.reduceMul, Nat.reduceAdd, Nat.reduceSub, Nat.reduceDiv, Nat.reduceMod, Nat.reduceLeDiff, Nat.reduceLT, Nat.reduceBNe, Nat.reduceBEq, reduceIte, Int.reduceLE, Int.reduceLT, Int.reduceToNat, Int.reduceNeg, Int.reduceAdd, Int.reduceSub, Int.reduceMul, Int.reduceEq]
    exact ⟨h1.2.2.2.1, e, rfl, rfl⟩
theorem ev2_ctr {cx : Cx} (h : Seat cx) (hU : Utf8 cx) : Ctr cx 123 (c1S TEvent.row TEvent.ok fieldsOf) := by
  refine ctr_of (fn := Tryz.f123) (l := [.tmp 1]) (envL [(124, fieldsS)]) [0, 1] [] [] (envL_cons (FieldsFault_ctr h hU) (env0 h.hP)) ?_ (by rw [h.hP]; exact Tryz.func123) rfl (by kernel_rfl) rfl ?_ ?_
  · rw [h.hP]; exact ⟨_, Tryz.func123, by kernel_rfl, by kernel_rfl⟩
  · rintro xs ⟨e, rfl, h1⟩; exact ⟨_, e, rfl, rfl⟩
  · rintro xs ⟨e, rfl, h1⟩
    refine ⟨by rw [Tryz.ntmps123]; simp, ?_⟩
    simp only [go_sem, h.hP, List.cons_append, List.nil_append, Meets_e, Below_e, Prod.exists, exists_eq, exists_eq_left, exists_eq_left', exists_eq_right, exists_eq_right', exists_and_left, exists_and_right, Ob.arr.injEq, AV.own.injEq, AV.fv.injEq, fieldsS_q, fieldsS_p, fieldsS_c, fieldsS_f, c1S_c, c1S_f, TEvent.row, TId.row, Tryz.ntmps123, Nat.reduceEqDiff, reduceCtorEq, Nat.reduceMul, Nat.reduceAdd, Nat.reduceSub, Nat.reduceDiv, Nat.reduceMod, Nat.reduceLeDiff, Nat.reduceLT, Nat.reduceBNe, Nat.reduceBEq, reduceIte, Int.reduceLE, Int.reduceLT, Int.reduceToNat, Int.reduceNeg, Int.reduceAdd, Int.reduceSub, Int.reduceMul, Int.reduceEq]
    exact ⟨h1.2.2.2.2, e, rfl, rfl⟩
set_option maxHeartbeats 2000000 in
theorem eventFault_ctr {cx : Cx} (h : Seat cx) (hU : Utf8 cx) (hM : MaxL cx) : Ctr cx 76 evS := by
  refine ctr_of (fn := Tryz.f76) (l := [.tmp 2]) (envF [(65, (strB keyB)), (57, inS)] [(122, (c1Φ TEvent.row TEvent.ok idOf)), (123, (c1Φ TEvent.row TEvent.ok fieldsOf))]) [0, 1, 2, 3, 14] [] [(5, [], [])] (envF_cons (c1_of TEvent.inj (ev1_ctr h hM)) (envF_cons (c1_of TEvent.inj (ev2_ctr h hU)) (envF_nil (envL_cons (Key_ctr h) (envL_cons (in_ctr h) (env0 h.hP)))))) ?_ (by rw [h.hP]; exact Tryz.func76) rfl (by kernel_rfl) rfl ?_ ?_
  · rw [h.hP]; exact ⟨_, Tryz.func76, by kernel_rfl, by kernel_rfl⟩
  · rintro xs ⟨e, rfl, h1⟩; exact ⟨_, e, rfl, rfl⟩
  · rintro xs ⟨e, rfl, h1⟩
    refine ⟨by rw [Tryz.ntmps76]; simp, ?_⟩
    have q1 : (c1Φ TEvent.row TEvent.ok idOf [[.str e.id, .str e.name, .int .i64 e.at_, .int .i64 e.who.kind, .str e.who.text, .sl (TField.rows e.fields)]]).pre [] = e.ok := c1_pre (row := TEvent.row) TEvent.inj e
    have p1 : ∀ y, (c1Φ TEvent.row TEvent.ok idOf [[.str e.id, .str e.name, .int .i64 e.at_, .int .i64 e.who.kind, .str e.who.text, .sl (TField.rows e.fields)]]).post [] y = (y = .d (.int .i64 (idOf e))) := c1_post (row := TEvent.row) TEvent.inj e
    have q2 : (c1Φ TEvent.row TEvent.ok fieldsOf [[.str e.id, .str e.name, .int .i64 e.at_, .int .i64 e.who.kind, .str e.who.text, .sl (TField.rows e.fields)]]).pre [] = e.ok := c1_pre (row := TEvent.row) TEvent.inj e
    have p2 : ∀ y, (c1Φ TEvent.row TEvent.ok fieldsOf [[.str e.id, .str e.name, .int .i64 e.at_, .int .i64 e.who.kind, .str e.who.text, .sl (TField.rows e.fields)]]).post [] y = (y = .d (.int .i64 (fieldsOf e))) := c1_post (row := TEvent.row) TEvent.inj e
    simp only [go_sem, h.hP, List.cons_append, List.nil_append, Meets_e, Below_e, Prod.exists, exists_eq, exists_eq_left, exists_eq_left', exists_eq_right, exists_eq_right', exists_and_left, exists_and_right, Ob.arr.injEq, AV.own.injEq, AV.fv.injEq, evS_q, evS_p, evS_c, evS_f, strB_q, strB_p, strB_c, strB_f, inS_q, inS_p, inS_c, inS_f, q1, p1, q2, p2, TEvent.row, DV.d.injEq, D.int.injEq, Tryz.ntmps76, Nat.reduceEqDiff, reduceCtorEq, Nat.reduceMul, Nat.reduceAdd, Nat.reduceSub, Nat.reduceDiv, Nat.reduceMod, Nat.reduceLeDiff, Nat.reduceLT, Nat.reduceBNe, Nat.reduceBEq, reduceIte, Int.reduceLE, Int.reduceLT, Int.reduceToNat, Int.reduceNeg, Int.reduceAdd, Int.reduceSub, Int.reduceMul, Int.reduceEq]
    obtain ⟨o1, o2, o3, o4, o5⟩ := id h1
    unfold okS at o1 o2
    refine ⟨by omega, fun a => ⟨by omega, fun b => (evF_5 (.inr b)).symm, fun b => ?_⟩, fun a => (evF_5 (.inl a)).symm⟩
    rw [evF_n a b]
    exact ⟨fun c => (if_pos c).symm, fun c => ⟨h1, fun d => ((if_neg (ne_ft c)).trans (orE_l d)).symm, fun d => ⟨h1, fun f => ((if_neg (ne_ft c)).trans (orE_r d)).symm, fun f => (((if_neg (ne_ft c)).trans (orE_r d)).trans f).symm⟩⟩⟩
end Go.Avc

namespace Go.Avc
open Go Go.Proofs

/-! ### The order of events -/
def befB (a b : TEvent) : Bool := decide (a.at_ < b.at_ ∨ (a.at_ = b.at_ ∧ lessS a.id b.id = true))
def eordF (a b : TEvent) : Int := if a.at_ < b.at_ then -1 else if a.at_ > b.at_ then 1 else cmpT a.id b.id
theorem eord_neg (a b : TEvent) : (0 ≤ eordF a b) = (befB a b = false) := by
  apply propext
  unfold eordF befB cmpT
  rw [decide_eq_false_iff_not]
  by_cases h1 : a.at_ < b.at_
  · rw [if_pos h1]; exact ⟨fun h => absurd h (by decide), fun h => absurd (.inl h1) h⟩
  · rw [if_neg h1]
    by_cases h2 : a.at_ > b.at_
    · rw [if_pos h2]; exact ⟨fun _ h => by omega, fun _ => by decide⟩
    · rw [if_neg h2]
      have h3 : a.at_ = b.at_ := by omega
      by_cases h4 : lessS a.id b.id = true
      · rw [if_pos h4]; exact ⟨fun h => absurd h (by decide), fun h => absurd (.inr ⟨h3, h4⟩) h⟩
      · rw [if_neg h4]
        refine ⟨fun _ h => h.elim h1 (fun h => h4 h.2), fun _ => ?_⟩
        split <;> decide
def eordS  : Spec where
  pre xs := ∃ (a : TEvent) (b : TEvent), xs = [.dv (.ag a.row), .dv (.ag b.row)]
  post xs y := ∃ (a : TEvent) (b : TEvent), xs = [.dv (.ag a.row), .dv (.ag b.row)] ∧ y = .i (eordF a b)
  cost _ := 0
  fresh := true
theorem eordS_c  (xs : List AV) : (eordS).cost xs = 0 := nr rfl
theorem eordS_f  : (eordS).fresh = true := nr rfl
theorem eordS_q  (a : TEvent) (b : TEvent) : (eordS).pre [.dv (.ag [.str a.id, .str a.name, .int .i64 a.at_, .int .i64 a.who.kind, .str a.who.text, .sl (TField.rows a.fields)]), .dv (.ag [.str b.id, .str b.name, .int .i64 b.at_, .int .i64 b.who.kind, .str b.who.text, .sl (TField.rows b.fields)])] = (True) := propext ⟨fun h => by
  have h' : ∃ (a' : TEvent) (b' : TEvent), ([.dv (.ag a.row), .dv (.ag b.row)] : List AV) = [.dv (.ag a'.row), .dv (.ag b'.row)] := h
  obtain ⟨a', b', e⟩ := h'
  simp only [List.cons.injEq, AV.dv.injEq, AV.dp.injEq, AV.fv.injEq, DV.d.injEq, DV.ag.injEq, D.int.injEq, D.str.injEq, D.bool.injEq, D.sl.injEq, true_and, and_true, intsDi_inj, rowsT_inj, rowsKi_inj, TEvent.row_inj, TEvent.rows_inj, TEvent.row_inj, TEvent.rows_inj] at e
  obtain ⟨rfl, rfl⟩ := e
  exact trivial, fun h => ⟨a, b, rfl⟩⟩
theorem eordS_p  (a : TEvent) (b : TEvent) : (eordS).post [.dv (.ag [.str a.id, .str a.name, .int .i64 a.at_, .int .i64 a.who.kind, .str a.who.text, .sl (TField.rows a.fields)]), .dv (.ag [.str b.id, .str b.name, .int .i64 b.at_, .int .i64 b.who.kind, .str b.who.text, .sl (TField.rows b.fields)])] = fun y => y = .i (eordF a b) := funext fun y => propext ⟨fun h => by
  have h' : ∃ (a' : TEvent) (b' : TEvent), ([.dv (.ag a.row), .dv (.ag b.row)] : List AV) = [.dv (.ag a'.row), .dv (.ag b'.row)] ∧ y = .i (eordF a' b') := h
  obtain ⟨a', b', e, h⟩ := h'
  simp only [List.cons.injEq, AV.dv.injEq, AV.dp.injEq, AV.fv.injEq, DV.d.injEq, DV.ag.injEq, D.int.injEq, D.str.injEq, D.bool.injEq, D.sl.injEq, true_and, and_true, intsDi_inj, rowsT_inj, rowsKi_inj, TEvent.row_inj, TEvent.rows_inj, TEvent.row_inj, TEvent.rows_inj] at e
  obtain ⟨rfl, rfl⟩ := e
  exact h, fun h => ⟨a, b, rfl, h⟩⟩
theorem EOrder_ctr {cx : Cx} (h : Seat cx) : Ctr cx 75 eordS := by
  refine ctr_of (fn := Tryz.f75) (l := [.tmp 4]) (envL [(119, cmpISp), (120, cmpTSp), (118, orSp)]) [0, 1, 2, 3, 4] [] [] (envL_cons (compareI_ctr h) (envL_cons (compareT_ctr h) (envL_cons (or_ctr h) (env0 h.hP)))) ?_ (by rw [h.hP]; exact Tryz.func75) rfl (by kernel_rfl) rfl ?_ ?_
  · rw [h.hP]; exact ⟨_, Tryz.func75, by kernel_rfl, by kernel_rfl⟩
  · rintro xs ⟨a, b, rfl⟩; exact ⟨_, a, b, rfl, rfl⟩
  · rintro xs ⟨a, b, rfl⟩
    refine ⟨by rw [Tryz.ntmps75]; simp, ?_⟩
    simp only [go_sem, h.hP, List.cons_append, List.nil_append, Meets_e, Below_e, Prod.exists, exists_eq, exists_eq_left, exists_eq_left', exists_eq_right, exists_eq_right', exists_and_left, exists_and_right, Ob.arr.injEq, AV.own.injEq, AV.fv.injEq, eordS_q, eordS_p, eordS_c, eordS_f, cmpISp_q, cmpISp_p, cmpISp_c, cmpISp_f, cmpTSp_q, cmpTSp_p, cmpTSp_c, cmpTSp_f, orSp_q, orSp_p, orSp_c, orSp_f, TEvent.row, ints1, intsc, Tryz.ntmps75, Nat.reduceEqDiff, reduceCtorEq, Nat.reduceMul, Nat.reduceAdd, Nat.reduceSub, Nat.reduceDiv, Nat.reduceMod, Nat.reduceLeDiff, Nat.reduceLT, Nat.reduceBNe, Nat.reduceBEq, reduceIte, Int.reduceLE, Int.reduceLT, Int.reduceToNat, Int.reduceNeg, Int.reduceAdd, Int.reduceSub, Int.reduceMul, Int.reduceEq]
    rw [or_two]
    unfold eordF cmpI
    by_cases c1 : a.at_ < b.at_
    · rw [if_pos c1, if_pos c1]; rfl
    · rw [if_neg c1, if_neg c1]
      by_cases c2 : a.at_ > b.at_
      · rw [if_pos c2, if_pos c2]; rfl
      · rw [if_neg c2, if_neg c2]; rfl
def befS  : Spec where
  pre xs := ∃ (a : TEvent) (b : TEvent), xs = [.dv (.ag a.row), .dv (.ag b.row)]
  post xs y := ∃ (a : TEvent) (b : TEvent), xs = [.dv (.ag a.row), .dv (.ag b.row)] ∧ y = .b (befB a b)
  cost _ := 0
  fresh := true
theorem befS_c  (xs : List AV) : (befS).cost xs = 0 := nr rfl
theorem befS_f  : (befS).fresh = true := nr rfl
theorem befS_q  (a : TEvent) (b : TEvent) : (befS).pre [.dv (.ag [.str a.id, .str a.name, .int .i64 a.at_, .int .i64 a.who.kind, .str a.who.text, .sl (TField.rows a.fields)]), .dv (.ag [.str b.id, .str b.name, .int .i64 b.at_, .int .i64 b.who.kind, .str b.who.text, .sl (TField.rows b.fields)])] = (True) := propext ⟨fun h => by
  have h' : ∃ (a' : TEvent) (b' : TEvent), ([.dv (.ag a.row), .dv (.ag b.row)] : List AV) = [.dv (.ag a'.row), .dv (.ag b'.row)] := h
  obtain ⟨a', b', e⟩ := h'
  simp only [List.cons.injEq, AV.dv.injEq, AV.dp.injEq, AV.fv.injEq, DV.d.injEq, DV.ag.injEq, D.int.injEq, D.str.injEq, D.bool.injEq, D.sl.injEq, true_and, and_true, intsDi_inj, rowsT_inj, rowsKi_inj, TEvent.row_inj, TEvent.rows_inj, TEvent.row_inj, TEvent.rows_inj] at e
  obtain ⟨rfl, rfl⟩ := e
  exact trivial, fun h => ⟨a, b, rfl⟩⟩
theorem befS_p  (a : TEvent) (b : TEvent) : (befS).post [.dv (.ag [.str a.id, .str a.name, .int .i64 a.at_, .int .i64 a.who.kind, .str a.who.text, .sl (TField.rows a.fields)]), .dv (.ag [.str b.id, .str b.name, .int .i64 b.at_, .int .i64 b.who.kind, .str b.who.text, .sl (TField.rows b.fields)])] = fun y => y = .b (befB a b) := funext fun y => propext ⟨fun h => by
  have h' : ∃ (a' : TEvent) (b' : TEvent), ([.dv (.ag a.row), .dv (.ag b.row)] : List AV) = [.dv (.ag a'.row), .dv (.ag b'.row)] ∧ y = .b (befB a' b') := h
  obtain ⟨a', b', e, h⟩ := h'
  simp only [List.cons.injEq, AV.dv.injEq, AV.dp.injEq, AV.fv.injEq, DV.d.injEq, DV.ag.injEq, D.int.injEq, D.str.injEq, D.bool.injEq, D.sl.injEq, true_and, and_true, intsDi_inj, rowsT_inj, rowsKi_inj, TEvent.row_inj, TEvent.rows_inj, TEvent.row_inj, TEvent.rows_inj] at e
  obtain ⟨rfl, rfl⟩ := e
  exact h, fun h => ⟨a, b, rfl, h⟩⟩
theorem before_ctr {cx : Cx} (h : Seat cx) : Ctr cx 77 befS := by
  refine ctr_of (fn := Tryz.f77) (l := [.tmp 4]) (envL []) [0, 1, 2, 3, 4] [] [] (env0 h.hP) ?_ (by rw [h.hP]; exact Tryz.func77) rfl (by kernel_rfl) rfl ?_ ?_
  · rw [h.hP]; exact ⟨_, Tryz.func77, by kernel_rfl, by kernel_rfl⟩
  · rintro xs ⟨a, b, rfl⟩; exact ⟨_, a, b, rfl, rfl⟩
  · rintro xs ⟨a, b, rfl⟩
    refine ⟨by rw [Tryz.ntmps77]; simp, ?_⟩
    simp only [go_sem, h.hP, List.cons_append, List.nil_append, Meets_e, Below_e, Prod.exists, exists_eq, exists_eq_left, exists_eq_left', exists_eq_right, exists_eq_right', exists_and_left, exists_and_right, Ob.arr.injEq, AV.own.injEq, AV.fv.injEq, befS_q, befS_p, befS_c, befS_f, TEvent.row, Tryz.ntmps77, Nat.reduceEqDiff, reduceCtorEq, Nat.reduceMul, Nat.reduceAdd, Nat.reduceSub, Nat.reduceDiv, Nat.reduceMod, Nat.reduceLeDiff, Nat.reduceLT, Nat.reduceBNe, Nat.reduceBEq, reduceIte, Int.reduceLE, Int.reduceLT, Int.reduceToNat, Int.reduceNeg, Int.reduceAdd, Int.reduceSub, Int.reduceMul, Int.reduceEq]
    have e : befB a b = decide (a.at_ < b.at_ ∨ (a.at_ = b.at_ ∧ Op.bytesLess a.id.toList b.id.toList = true)) := rfl
    rw [e]
    generalize Op.bytesLess a.id.toList b.id.toList = q
    refine ⟨fun c => ⟨fun d => ?_, fun d => (decide_eq_false fun z => z.elim c fun z => d z.1).symm⟩, fun c => (decide_eq_true (.inl c)).symm⟩
    cases q with
    | false => exact (decide_eq_false fun z => z.elim c fun z => Bool.false_ne_true z.2).symm
    | true => exact (decide_eq_true (.inr ⟨d, rfl⟩)).symm

/-! ### Ids that were seen -/
def hasId (l : List TEvent) (s : ByteArray) : Bool := l.any fun e => decide (e.id = s)
def seenM (l : List TEvent) : List (D × D) := l.map fun e => (.str e.id, .bool true)
theorem mget_seen (l : List TEvent) (s : ByteArray) : (mget (seenM l) (.str s)).getD (.bool false) = .bool (hasId l s) := by
  induction l with
  | nil => rfl
  | cons e r ih =>
    show ((if decide (e.id = s) = true then some (D.bool true) else mget (seenM r) (.str s)).getD (.bool false)) = .bool (decide (e.id = s) || hasId r s)
    by_cases h : e.id = s
    · rw [decide_eq_true h]; rfl
    · rw [decide_eq_false h, Bool.false_or]; exact ih
theorem mput_seen {l : List TEvent} {s : ByteArray} (h : hasId l s = false) : mput (seenM l) (.str s) (.bool true) = seenM l ++ [(.str s, .bool true)] := by
  induction l with
  | nil => rfl
  | cons e r ih =>
    have h' : (decide (e.id = s) || hasId r s) = false := h
    rw [Bool.or_eq_false_iff] at h'
    show (if decide (e.id = s) = true then ((D.str s, D.bool true) :: seenM r) else (D.str e.id, D.bool true) :: mput (seenM r) (.str s) (.bool true)) = _
    rw [h'.1, ih h'.2]
    rfl
theorem seen_step {l : List TEvent} {i : Int} (h0 : 0 ≤ i) (hi : i < l.length) (h : hasId (l.take i.toNat) (l.getD i.toNat TEvent.z).id = false) : mput (seenM (l.take i.toNat)) (.str (l.getD i.toNat TEvent.z).id) (.bool true) = seenM (l.take (i + 1).toNat) := by
  rw [mput_seen h]
  have hi' : i.toNat < l.length := by omega
  rw [show (i + 1).toNat = i.toNat + 1 by omega, List.take_add_one, List.getElem?_eq_getElem hi']
  unfold seenM
  rw [List.map_append, List.getD_eq_getElem?_getD, List.getElem?_eq_getElem hi']
  rfl
def evE (l : List TEvent) (i : Nat) : Int := if evF (l.getD i TEvent.z) ≠ 0 then evF (l.getD i TEvent.z) else if 0 < (i : Int) ∧ befB (l.getD (i - 1) TEvent.z) (l.getD i TEvent.z) = false then 7 else if hasId (l.take i) (l.getD i TEvent.z).id = true then 6 else 0
def eventsF (l : List TEvent) : Int := if 5000 < (l.length : Int) then 2 else firstI l.length (evE l)
theorem evE_i (l : List TEvent) {i : Int} (hi : 0 ≤ i) : evE l i.toNat = if evF (l.getD i.toNat TEvent.z) ≠ 0 then evF (l.getD i.toNat TEvent.z) else if 0 < i ∧ befB (l.getD (i - 1).toNat TEvent.z) (l.getD i.toNat TEvent.z) = false then 7 else if hasId (l.take i.toNat) (l.getD i.toNat TEvent.z).id = true then 6 else 0 := by
  unfold evE
  rw [Int.toNat_of_nonneg hi, show i.toNat - 1 = (i - 1).toNat by omega]
def eventsS  : Spec where
  pre xs := ∃ (l : List TEvent), xs = [.sl (TEvent.rows l)] ∧ (okL TEvent.ok l)
  post xs y := ∃ (l : List TEvent), xs = [.sl (TEvent.rows l)] ∧ y = .i (eventsF l)
  cost _ := 0
  fresh := true
theorem eventsS_c  (xs : List AV) : (eventsS).cost xs = 0 := nr rfl
theorem eventsS_f  : (eventsS).fresh = true := nr rfl
theorem eventsS_q  (l : List TEvent) : (eventsS).pre [.sl (TEvent.rows l)] = (okL TEvent.ok l) := propext ⟨fun h => by
  have h' : ∃ (l' : List TEvent), ([.sl (TEvent.rows l)] : List AV) = [.sl (TEvent.rows l')] ∧ (okL TEvent.ok l') := h
  obtain ⟨l', e, h⟩ := h'
  simp only [List.cons.injEq, AV.dv.injEq, AV.dp.injEq, AV.fv.injEq, DV.d.injEq, DV.ag.injEq, D.int.injEq, D.str.injEq, D.bool.injEq, D.sl.injEq, true_and, and_true, intsDi_inj, rowsT_inj, rowsKi_inj, TEvent.row_inj, TEvent.rows_inj] at e
  obtain rfl := e
  exact h, fun h => ⟨l, rfl, h⟩⟩
theorem eventsS_p  (l : List TEvent) : (eventsS).post [.sl (TEvent.rows l)] = fun y => y = .i (eventsF l) := funext fun y => propext ⟨fun h => by
  have h' : ∃ (l' : List TEvent), ([.sl (TEvent.rows l)] : List AV) = [.sl (TEvent.rows l')] ∧ y = .i (eventsF l') := h
  obtain ⟨l', e, h⟩ := h'
  simp only [List.cons.injEq, AV.dv.injEq, AV.dp.injEq, AV.fv.injEq, DV.d.injEq, DV.ag.injEq, D.int.injEq, D.str.injEq, D.bool.injEq, D.sl.injEq, true_and, and_true, intsDi_inj, rowsT_inj, rowsKi_inj, TEvent.row_inj, TEvent.rows_inj] at e
  obtain rfl := e
  exact h, fun h => ⟨l, rfl, h⟩⟩
theorem check_round {l : List TEvent} (h1 : okL TEvent.ok l) {i : Int} (hr : Rounds l.length (evE l) i) : 0 ≤ i ∧ (0 < i → i < l.length → IntKind.i64.wrap (i - 1) = i - 1) ∧
    (i < l.length → ¬ evF (l.getD i.toNat TEvent.z) = 0 → evF (l.getD i.toNat TEvent.z) = firstI l.length (evE l)) ∧
    (i < l.length → evF (l.getD i.toNat TEvent.z) = 0 → 0 < i → befB (l.getD (i - 1).toNat TEvent.z) (l.getD i.toNat TEvent.z) = false → 7 = firstI l.length (evE l)) ∧
    (i < l.length → evF (l.getD i.toNat TEvent.z) = 0 → (0 < i → befB (l.getD (i - 1).toNat TEvent.z) (l.getD i.toNat TEvent.z) = true) → hasId (l.take i.toNat) (l.getD i.toNat TEvent.z).id = true → 6 = firstI l.length (evE l)) ∧
    (i < l.length → evF (l.getD i.toNat TEvent.z) = 0 → (0 < i → befB (l.getD (i - 1).toNat TEvent.z) (l.getD i.toNat TEvent.z) = true) → hasId (l.take i.toNat) (l.getD i.toNat TEvent.z).id = false →
      mput (seenM (l.take i.toNat)) (.str (l.getD i.toNat TEvent.z).id) (.bool true) = seenM (l.take (IntKind.i64.wrap (i + 1)).toNat) ∧ Rounds l.length (evE l) (IntKind.i64.wrap (i + 1)) ∧ ((l.length : Int) - IntKind.i64.wrap (i + 1)).toNat < ((l.length : Int) - i).toNat) ∧
    (¬ i < l.length → 0 = firstI l.length (evE l)) := by
  have hl := h1.1
  obtain ⟨hi, hS, hM, hE, hN⟩ := hr.use (by omega)
  have e0 := evE_i l hi
  have e1 : evF (l.getD i.toNat TEvent.z) = 0 → (0 < i → befB (l.getD (i - 1).toNat TEvent.z) (l.getD i.toNat TEvent.z) = true) → evE l i.toNat = if hasId (l.take i.toNat) (l.getD i.toNat TEvent.z).id = true then 6 else 0 := fun b d => by
    rw [e0, if_neg (fun z => z b), if_neg (fun z => ne_tf z.2 (d z.1))]
  refine ⟨hi, fun a b => i64w (by omega) (by omega), fun a b => (hE _ a (e0.trans (if_pos b)) b).symm, fun a b c d => (hE 7 a ?_ (by decide)).symm, fun a b c d => (hE 6 a ((e1 b c).trans (if_pos d)) (by decide)).symm, fun a b c d => ?_, fun a => (hN a).symm⟩
  · rw [e0, if_neg (fun z => z b), if_pos ⟨c, d⟩]
  · have hw : IntKind.i64.wrap (i + 1) = i + 1 := i64w (by omega) (by omega)
    refine ⟨?_, hS a ((e1 b c).trans (if_neg (ne_tf d))), hM a⟩
    rw [hw]
    exact seen_step hi a d
set_option maxHeartbeats 4000000 in
theorem ECheck_ctr {cx : Cx} (h : Seat cx) (hU : Utf8 cx) (hM : MaxL cx) : Ctr cx 32 eventsS := by
  refine ctr_of (fn := Tryz.f32) (l := [.tmp 2]) (envL [(74, evS), (75, eordS)]) [0, 2, 3, 4, 5, 6, 9, 11, 12, 13, 14, 21, 34, 38] [] [] (envL_cons (CheckOne_ctr h hU hM) (envL_cons (EOrder_ctr h) (env0 h.hP))) ?_ (by rw [h.hP]; exact Tryz.func32) rfl (by kernel_rfl) rfl ?_ ?_
  · rw [h.hP]; exact ⟨_, Tryz.func32, by kernel_rfl, by kernel_rfl⟩
  · rintro xs ⟨l, rfl, h1⟩; exact ⟨_, l, rfl, rfl⟩
  · rintro xs ⟨l, rfl, h1⟩
    refine ⟨by rw [Tryz.ntmps32]; simp, ?_⟩
    simp only [go_sem, h.hP, List.cons_append, List.nil_append, Meets_e, Below_e, Prod.exists, exists_eq, exists_eq_left, exists_eq_left', exists_eq_right, exists_eq_right', exists_and_left, exists_and_right, Ob.arr.injEq, AV.own.injEq, AV.fv.injEq, eventsS_q, eventsS_p, eventsS_c, eventsS_f, TEvent.len, Tryz.ntmps32, Nat.reduceEqDiff, reduceCtorEq, Nat.reduceMul, Nat.reduceAdd, Nat.reduceSub, Nat.reduceDiv, Nat.reduceMod, Nat.reduceLeDiff, Nat.reduceLT, Nat.reduceBNe, Nat.reduceBEq, reduceIte, Int.reduceLE, Int.reduceLT, Int.reduceToNat, Int.reduceNeg, Int.reduceAdd, Int.reduceSub, Int.reduceMul, Int.reduceEq]
    refine ⟨fun c => (if_pos c).symm, fun c => ?_⟩
    have hc : eventsF l = firstI l.length (evE l) := if_neg c
    rw [hc]
    refine vc_loopS (Int) (fun (i : Int) => [(13, .i i)]) [] (fun (i : Int) => []) (fun (i : Int) => [(10, .mp 122 (seenM (l.take i.toNat)))]) (fun (i : Int) => 0) (fun (i : Int) => Rounds l.length (evE l) i) (fun (i : Int) => (l.length - i).toNat) [] ?_ ?_
    · simp only [go_sem, h.hP, List.cons_append, List.nil_append, Meets_e, Below_e, Prod.exists, exists_eq, exists_eq_left, exists_eq_left', exists_eq_right, exists_eq_right', exists_and_left, exists_and_right, Ob.arr.injEq, AV.own.injEq, AV.fv.injEq, Tryz.ntmps32, Nat.reduceEqDiff, reduceCtorEq, Nat.reduceMul, Nat.reduceAdd, Nat.reduceSub, Nat.reduceDiv, Nat.reduceMod, Nat.reduceLeDiff, Nat.reduceLT, Nat.reduceBNe, Nat.reduceBEq, reduceIte, Int.reduceLE, Int.reduceLT, Int.reduceToNat, Int.reduceNeg, Int.reduceAdd, Int.reduceSub, Int.reduceMul, Int.reduceEq]
      exact ⟨rfl, Rounds.start⟩
    · rintro i hr
      obtain ⟨hi, hw, f5, f7, f6, f0, fe⟩ := check_round h1 hr
      have ho := okL_get h1 TEvent.z_ok
      simp only [go_sem, h.hP, List.cons_append, List.nil_append, Meets_e, Below_e, Prod.exists, exists_eq, exists_eq_left, exists_eq_left', exists_eq_right, exists_eq_right', exists_and_left, exists_and_right, Ob.arr.injEq, AV.own.injEq, AV.fv.injEq, eventsS_q, eventsS_p, eventsS_c, eventsS_f, evS_q, evS_p, evS_c, evS_f, eordS_q, eordS_p, eordS_c, eordS_f, TEvent.row, TEvent.len, TEvent.get, mget_seen, eord_neg, Tryz.ntmps32, Nat.reduceEqDiff, reduceCtorEq, Nat.reduceMul, Nat.reduceAdd, Nat.reduceSub, Nat.reduceDiv, Nat.reduceMod, Nat.reduceLeDiff, Nat.reduceLT, Nat.reduceBNe, Nat.reduceBEq, reduceIte, Int.reduceLE, Int.reduceLT, Int.reduceToNat, Int.reduceNeg, Int.reduceAdd, Int.reduceSub, Int.reduceMul, Int.reduceEq]
      refine ⟨fun a => ⟨hi, a, ho _, f5 a, fun b => ⟨fun c => ?_, fun c => ⟨f6 a b (fun d => absurd d c), f0 a b (fun d => absurd d c)⟩⟩⟩, fe⟩
      rw [hw c a]
      exact ⟨by omega, by omega, f7 a b c, fun d => ⟨f6 a b (fun _ => by simpa using d), f0 a b (fun _ => by simpa using d)⟩⟩
set_option maxHeartbeats 4000000 in
theorem EventsFault_ctr {cx : Cx} (h : Seat cx) (hU : Utf8 cx) (hM : MaxL cx) : Ctr cx 33 eventsS := by
  refine ctr_of (fn := Tryz.f33) (l := [.tmp 2]) (envL [(76, evS), (77, befS)]) [0, 2, 3, 4, 5, 6, 9, 11, 12, 13, 14, 21, 34, 38] [] [] (envL_cons (eventFault_ctr h hU hM) (envL_cons (before_ctr h) (env0 h.hP))) ?_ (by rw [h.hP]; exact Tryz.func33) rfl (by kernel_rfl) rfl ?_ ?_
  · rw [h.hP]; exact ⟨_, Tryz.func33, by kernel_rfl, by kernel_rfl⟩
  · rintro xs ⟨l, rfl, h1⟩; exact ⟨_, l, rfl, rfl⟩
  · rintro xs ⟨l, rfl, h1⟩
    refine ⟨by rw [Tryz.ntmps33]; simp, ?_⟩
    simp only [go_sem, h.hP, List.cons_append, List.nil_append, Meets_e, Below_e, Prod.exists, exists_eq, exists_eq_left, exists_eq_left', exists_eq_right, exists_eq_right', exists_and_left, exists_and_right, Ob.arr.injEq, AV.own.injEq, AV.fv.injEq, eventsS_q, eventsS_p, eventsS_c, eventsS_f, TEvent.len, Tryz.ntmps33, Nat.reduceEqDiff, reduceCtorEq, Nat.reduceMul, Nat.reduceAdd, Nat.reduceSub, Nat.reduceDiv, Nat.reduceMod, Nat.reduceLeDiff, Nat.reduceLT, Nat.reduceBNe, Nat.reduceBEq, reduceIte, Int.reduceLE, Int.reduceLT, Int.reduceToNat, Int.reduceNeg, Int.reduceAdd, Int.reduceSub, Int.reduceMul, Int.reduceEq]
    refine ⟨fun c => (if_pos c).symm, fun c => ?_⟩
    have hc : eventsF l = firstI l.length (evE l) := if_neg c
    rw [hc]
    refine vc_loopS (Int) (fun (i : Int) => [(13, .i i)]) [] (fun (i : Int) => []) (fun (i : Int) => [(10, .mp 122 (seenM (l.take i.toNat)))]) (fun (i : Int) => 0) (fun (i : Int) => Rounds l.length (evE l) i) (fun (i : Int) => (l.length - i).toNat) [] ?_ ?_
    · simp only [go_sem, h.hP, List.cons_append, List.nil_append, Meets_e, Below_e, Prod.exists, exists_eq, exists_eq_left, exists_eq_left', exists_eq_right, exists_eq_right', exists_and_left, exists_and_right, Ob.arr.injEq, AV.own.injEq, AV.fv.injEq, Tryz.ntmps33, Nat.reduceEqDiff, reduceCtorEq, Nat.reduceMul, Nat.reduceAdd, Nat.reduceSub, Nat.reduceDiv, Nat.reduceMod, Nat.reduceLeDiff, Nat.reduceLT, Nat.reduceBNe, Nat.reduceBEq, reduceIte, Int.reduceLE, Int.reduceLT, Int.reduceToNat, Int.reduceNeg, Int.reduceAdd, Int.reduceSub, Int.reduceMul, Int.reduceEq]
      exact ⟨rfl, Rounds.start⟩
    · rintro i hr
      obtain ⟨hi, hw, f5, f7, f6, f0, fe⟩ := check_round h1 hr
      have ho := okL_get h1 TEvent.z_ok
      simp only [go_sem, h.hP, List.cons_append, List.nil_append, Meets_e, Below_e, Prod.exists, exists_eq, exists_eq_left, exists_eq_left', exists_eq_right, exists_eq_right', exists_and_left, exists_and_right, Ob.arr.injEq, AV.own.injEq, AV.fv.injEq, eventsS_q, eventsS_p, eventsS_c, eventsS_f, evS_q, evS_p, evS_c, evS_f, befS_q, befS_p, befS_c, befS_f, TEvent.row, TEvent.len, TEvent.get, mget_seen, Tryz.ntmps33, Nat.reduceEqDiff, reduceCtorEq, Nat.reduceMul, Nat.reduceAdd, Nat.reduceSub, Nat.reduceDiv, Nat.reduceMod, Nat.reduceLeDiff, Nat.reduceLT, Nat.reduceBNe, Nat.reduceBEq, reduceIte, Int.reduceLE, Int.reduceLT, Int.reduceToNat, Int.reduceNeg, Int.reduceAdd, Int.reduceSub, Int.reduceMul, Int.reduceEq]
      refine ⟨fun a => ⟨hi, a, ho _, f5 a, fun b => ⟨fun c => ?_, fun c => ⟨f6 a b (fun d => absurd d c), f0 a b (fun d => absurd d c)⟩⟩⟩, fe⟩
      rw [hw c a]
      exact ⟨by omega, by omega, f7 a b c, fun d => ⟨f6 a b (fun _ => by simpa using d), f0 a b (fun _ => by simpa using d)⟩⟩
/-! ### What holds of events that are right -/
end Go.Avc

namespace Go.Avc
open Go Go.Proofs

end Go.Avc

namespace Go.Avc
open Go Go.Proofs

theorem enc_size (n : Int) : (Utf8.encode n).size ≤ 4 := by
  unfold Utf8.encode
  dsimp only
  (repeat' split) <;> exact Nat.le_of_ble_eq_true rfl
theorem rsetE (l : List TEvent) (i : Nat) (x : TEvent) : (TEvent.rows l).set i [.str x.id, .str x.name, .int .i64 x.at_, .int .i64 x.who.kind, .str x.who.text, .sl (TField.rows x.fields)] = TEvent.rows (l.set i x) := TEvent.rset l i x
theorem eok_set {l : List TEvent} (h : ∀ c ∈ l, c.ok) {n : Nat} {x : TEvent} (hx : x.ok) : ∀ c ∈ l.set n x, c.ok := fun c hc => by
  rcases List.mem_or_eq_of_mem_set hc with hc | rfl
  · exact h c hc
  · exact hx
theorem eok_get {l : List TEvent} (h : ∀ c ∈ l, c.ok) (n : Nat) : (l.getD n TEvent.z).ok := by
  rw [List.getD_eq_getElem?_getD]
  cases e : l[n]? with
  | none => exact TEvent.z_ok
  | some x => exact h x (List.mem_of_getElem? e)
def eidS : Spec where
  pre xs := ∃ i : Int, xs = [.i i] ∧ 0 ≤ i ∧ i ≤ 1000
  post xs y := ∃ s : ByteArray, okS s ∧ y = .str s
  cost _ := 0
  fresh := true
theorem eventId_ctr {cx : Cx} (h : Seat cx) : Ctr cx 73 eidS := by
  refine ctr_of (fn := Tryz.f73) (l := [.tmp 2]) (envL []) [0, 2] [] [] (env0 h.hP) ?_ (by rw [h.hP]; exact Tryz.func73) rfl (by kernel_rfl) rfl ?_ ?_
  · rw [h.hP]; exact ⟨_, Tryz.func73, by kernel_rfl, by kernel_rfl⟩
  · rintro xs ⟨i, rfl, h1⟩; exact ⟨_, ⟨#[]⟩, okS_z, rfl⟩
  · rintro xs ⟨i, rfl, h1, h2⟩
    refine ⟨by rw [Tryz.ntmps73]; simp, ?_⟩
    simp only [go_sem, h.hP, List.cons_append, List.nil_append, Meets_e, Below_e, Prod.exists, exists_eq, exists_eq_left, exists_eq_left', exists_eq_right, exists_eq_right', exists_and_left, exists_and_right, Ob.arr.injEq, AV.own.injEq, AV.fv.injEq, eidS, Tryz.ntmps73, Nat.reduceEqDiff, reduceCtorEq, Nat.reduceMul, Nat.reduceAdd, Nat.reduceSub, Nat.reduceDiv, Nat.reduceMod, Nat.reduceLeDiff, Nat.reduceLT, Nat.reduceBNe, Nat.reduceBEq, reduceIte, Int.reduceLE, Int.reduceLT, Int.reduceToNat, Int.reduceNeg, Int.reduceAdd, Int.reduceSub, Int.reduceMul, Int.reduceEq]
    have e1 := enc_size (IntKind.i32.wrap (IntKind.i64.wrap (97 + (IntKind.i64.wrap (i.tdiv 26)).tmod 26)))
    have e2 := enc_size (IntKind.i32.wrap (IntKind.i64.wrap (97 + i.tmod 26)))
    generalize Utf8.encode (IntKind.i32.wrap (IntKind.i64.wrap (97 + (IntKind.i64.wrap (i.tdiv 26)).tmod 26))) = a at e1
    generalize Utf8.encode (IntKind.i32.wrap (IntKind.i64.wrap (97 + i.tmod 26))) = b at e2
    refine ⟨by omega, by omega, okS_of ?_⟩
    rw [ByteArray.size_append, ByteArray.size_append]
    have : (⟨#[101]⟩ : ByteArray).size = 1 := rfl
    omega
def eventsG : Spec where
  pre xs := ∃ m : Int, xs = [.st, .i m] ∧ m ≤ 20
  post xs y := ∃ (m : Int) (l : List TEvent), xs = [.st, .i m] ∧ l.length ≤ 20 ∧ (∀ x ∈ l, x.ok) ∧ y = .sl (TEvent.rows l)
  cost _ := 2000
  fresh := false
set_option maxHeartbeats 8000000 in
theorem Events_own {cx : Cx} (h : Seat cx) (hN : cx.glob 2 = some namesD) (hI : cx.glob 0 = some poolD) (hE : cx.glob 1 = some evNamesD) : CtrO cx 31 eventsG 52 6 := by
  refine ctrO_of (fn := Tryz.f31) (t := 4) (envL [(12, pickS), (26, flipS), (72, eventG), (73, eidS)]) [0, 1, 4, 5, 6, 7, 11, 12, 13, 34] [] [(10, [0, 1, 2, 5], [3, 4, 6, 7, 8, 9, 10, 11])] (envL_cons (pick_ctr cx h.hP h.hS) (envL_cons (flip_ctr cx h.hP h.hS) (envL_cons (Event_ctr h hN hI hE) (envL_cons (eventId_ctr h) (env0 h.hP))))) ?_ (by rw [h.hP]; exact Tryz.func31) rfl (by kernel_rfl) rfl ?_ (by decide)
  · rw [h.hP]; exact ⟨_, Tryz.func31, by kernel_rfl, by kernel_rfl⟩
  · rintro xs ⟨m, rfl, h1⟩
    refine ⟨by rw [Tryz.ntmps31]; simp, ?_⟩
    simp only [go_sem, h.hP, List.cons_append, List.nil_append, Meets_e, Below_e, Prod.exists, exists_eq, exists_eq_left, exists_eq_left', exists_eq_right, exists_eq_right', exists_and_left, exists_and_right, Ob.arr.injEq, AV.own.injEq, AV.fv.injEq, eventsG, pickS_q, pickS_p, pickS_c, pickS_f, ints1, intsc, Tryz.ntmps31, Nat.reduceEqDiff, reduceCtorEq, Nat.reduceMul, Nat.reduceAdd, Nat.reduceSub, Nat.reduceDiv, Nat.reduceMod, Nat.reduceLeDiff, Nat.reduceLT, Nat.reduceBNe, Nat.reduceBEq, reduceIte, Int.reduceLE, Int.reduceLT, Int.reduceToNat, Int.reduceNeg, Int.reduceAdd, Int.reduceSub, Int.reduceMul, Int.reduceEq]
    intro a0 ha0
    have ha : 0 ≤ a0 ∧ a0 ≤ 1000 := by
      simp only [isIn, List.mem_cons, List.not_mem_nil, or_false] at ha0
      omega
    refine vc_loopS (Int × Int × List TEvent) (fun (x : Int × Int × List TEvent) => match x with | (i, n, l) => [(12, .i i), (6, .i n), (5, .own 5)]) [] (fun (x : Int × Int × List TEvent) => match x with | (i, n, l) => []) (fun (x : Int × Int × List TEvent) => match x with | (i, n, l) => [(5, .arr 52 6 (TEvent.rows l))]) (fun (x : Int × Int × List TEvent) => match x with | (i, n, l) => 81 * i.toNat + 1) (fun (x : Int × Int × List TEvent) => match x with | (i, n, l) => 0 ≤ i ∧ i ≤ max 0 m ∧ (l.length : Int) = i ∧ 0 ≤ n ∧ n ≤ 1000 + 1440 * i ∧ ∀ c ∈ l, c.ok) (fun (x : Int × Int × List TEvent) => match x with | (i, n, l) => (m - i).toNat) [(5, 52, 6)] ?_ ?_
    · simp only [go_sem, h.hP, List.cons_append, List.nil_append, Meets_e, Below_e, Prod.exists, exists_eq, exists_eq_left, exists_eq_left', exists_eq_right, exists_eq_right', exists_and_left, exists_and_right, Ob.arr.injEq, AV.own.injEq, AV.fv.injEq, TEvent.nil2, Tryz.ntmps31, Nat.reduceEqDiff, reduceCtorEq, Nat.reduceMul, Nat.reduceAdd, Nat.reduceSub, Nat.reduceDiv, Nat.reduceMod, Nat.reduceLeDiff, Nat.reduceLT, Nat.reduceBNe, Nat.reduceBEq, reduceIte, Int.reduceLE, Int.reduceLT, Int.reduceToNat, Int.reduceNeg, Int.reduceAdd, Int.reduceSub, Int.reduceMul, Int.reduceEq]
      exact ⟨by omega, rfl, ha.1, ha.2⟩
    · rintro ⟨i, n, l⟩ ⟨j1, j2, j3, j4, j5, j6⟩
      have hw : IntKind.i64.wrap (i + 1) = i + 1 := i64w (by omega) (by omega)
      simp only [go_sem, h.hP, List.cons_append, List.nil_append, Meets_e, Below_e, Prod.exists, exists_eq, exists_eq_left, exists_eq_left', exists_eq_right, exists_eq_right', exists_and_left, exists_and_right, Ob.arr.injEq, AV.own.injEq, AV.fv.injEq, eventsG, eventG, eidS, pickS_q, pickS_p, pickS_c, pickS_f, flipS_q, flipS_p, flipS_c, flipS_f, ints1, intsc, TEvent.row, TEvent.fold1, TEvent.app', TEvent.rows_inj, TEvent.zlT, TEvent.len, TEvent.get, rsetE, List.length_append, List.length_singleton, List.length_set, List.drop_succ_cons, List.drop_zero, List.drop_nil, hw, Tryz.ntmps31, Nat.reduceEqDiff, reduceCtorEq, Nat.reduceMul, Nat.reduceAdd, Nat.reduceSub, Nat.reduceDiv, Nat.reduceMod, Nat.reduceLeDiff, Nat.reduceLT, Nat.reduceBNe, Nat.reduceBEq, reduceIte, Int.reduceLE, Int.reduceLT, Int.reduceToNat, Int.reduceNeg, Int.reduceAdd, Int.reduceSub, Int.reduceMul, Int.reduceEq]
      have b1 : 81 * i.toNat ≤ 1918 := by omega
      have b2 : 81 * i.toNat ≤ 1998 := by omega
      have b3 : 81 * i.toNat ≤ 1999 := by omega
      have b4 : (l.length + 1) * 88 ≤ 140737488355328 := by omega
      have b5 : l.length ≤ 9223372036854775806 := by omega
      have b6 : (l.length : Int) ≤ 20 := by omega
      clear hw
      simp only [b1, b2, b3, b4, b5, true_and]
      refine ⟨fun c a ha1 => ⟨j1, by omega, fun s hs => ⟨hs, ?_, fun e he => ?_⟩⟩, fun c => ?_⟩
      · have ha2 : 0 ≤ a ∧ a ≤ 1440 := by
          simp only [isIn, List.mem_cons, List.not_mem_nil, or_false] at ha1
          omega
        rw [i64w (by omega) (by omega)]
        exact ⟨by omega, by omega⟩
      · have ha2 : 0 ≤ a ∧ a ≤ 1440 := by
          simp only [isIn, List.mem_cons, List.not_mem_nil, or_false] at ha1
          omega
        rw [i64w (by omega) (by omega)]
        exact ⟨by omega, by omega, by omega, by omega, by omega, by omega, okL_app j6 he, by omega⟩
      · refine ⟨fun d f => ⟨fun _ => ⟨by omega, by omega, by omega, by omega, by omega, by omega, by omega, by omega, _, ?_, eok_set (eok_set j6 (eok_get j6 1)) (eok_get j6 0), rfl⟩, fun _ => ⟨l, by omega, j6, rfl⟩⟩, fun _ => ⟨l, by omega, j6, rfl⟩⟩
        rw [List.length_set, List.length_set]
        omega
def anyB : Spec where
  pre xs := ∃ e : TEvent, xs = [.dv (.ag e.row)] ∧ e.ok
  post xs y := ∃ b : Bool, y = .b b
  cost _ := 0
  fresh := true
theorem Right1_ctr {cx : Cx} (h : Seat cx) (hU : Utf8 cx) (hM : MaxL cx) : Ctr cx 105 anyB := by
  refine ctr_of (fn := Tryz.f105) (l := [.tmp 2]) (envL [(33, eventsS)]) [0, 1, 2] [] [] (envL_cons (EventsFault_ctr h hU hM) (env0 h.hP)) ?_ (by rw [h.hP]; exact Tryz.func105) rfl (by kernel_rfl) rfl ?_ ?_
  · rw [h.hP]; exact ⟨_, Tryz.func105, by kernel_rfl, by kernel_rfl⟩
  · rintro xs ⟨e, rfl, h1⟩; exact ⟨_, true, rfl⟩
  · rintro xs ⟨e, rfl, h1⟩
    refine ⟨by rw [Tryz.ntmps105]; simp, ?_⟩
    simp only [go_sem, h.hP, List.cons_append, List.nil_append, Meets_e, Below_e, Prod.exists, exists_eq, exists_eq_left, exists_eq_left', exists_eq_right, exists_eq_right', exists_and_left, exists_and_right, Ob.arr.injEq, AV.own.injEq, AV.fv.injEq, anyB, eventsS_q, eventsS_p, eventsS_c, eventsS_f, TEvent.row, TEvent.fold1, TEvent.rows_inj, Tryz.ntmps105, Nat.reduceEqDiff, reduceCtorEq, Nat.reduceMul, Nat.reduceAdd, Nat.reduceSub, Nat.reduceDiv, Nat.reduceMod, Nat.reduceLeDiff, Nat.reduceLT, Nat.reduceBNe, Nat.reduceBEq, reduceIte, Int.reduceLE, Int.reduceLT, Int.reduceToNat, Int.reduceNeg, Int.reduceAdd, Int.reduceSub, Int.reduceMul, Int.reduceEq]
    exact okL_one h1
end Go.Avc

namespace Go.Avc
open Go Go.Proofs
open Classical in
noncomputable def eqFB (l m : List TField) : Bool := decide (l = m)
open Classical in
theorem eqFB_t {l m : List TField} (h : l = m) : eqFB l m = true := by unfold eqFB; exact decide_eq_true h
open Classical in
theorem eqFB_f {l m : List TField} (h : ¬ l = m) : eqFB l m = false := by unfold eqFB; exact decide_eq_false h
def eqFS  : Spec where
  pre xs := ∃ (l : List TField) (m : List TField), xs = [.sl (TField.rows l), .sl (TField.rows m)] ∧ (l.length ≤ 1048576)
  post xs y := ∃ (l : List TField) (m : List TField), xs = [.sl (TField.rows l), .sl (TField.rows m)] ∧ y = .b (eqFB l m)
  cost _ := 0
  fresh := true
theorem eqFS_c  (xs : List AV) : (eqFS).cost xs = 0 := nr rfl
theorem eqFS_f  : (eqFS).fresh = true := nr rfl
theorem eqFS_q  (l : List TField) (m : List TField) : (eqFS).pre [.sl (TField.rows l), .sl (TField.rows m)] = (l.length ≤ 1048576) := propext ⟨fun h => by
  have h' : ∃ (l' : List TField) (m' : List TField), ([.sl (TField.rows l), .sl (TField.rows m)] : List AV) = [.sl (TField.rows l'), .sl (TField.rows m')] ∧ (l'.length ≤ 1048576) := h
  obtain ⟨l', m', e, h⟩ := h'
  simp only [List.cons.injEq, AV.dv.injEq, AV.dp.injEq, AV.fv.injEq, DV.d.injEq, DV.ag.injEq, D.int.injEq, D.str.injEq, D.bool.injEq, D.sl.injEq, true_and, and_true, intsDi_inj, rowsT_inj, rowsKi_inj, TField.row_inj, TField.rows_inj, TField.row_inj, TField.rows_inj] at e
  obtain ⟨rfl, rfl⟩ := e
  exact h, fun h => ⟨l, m, rfl, h⟩⟩
theorem eqFS_p  (l : List TField) (m : List TField) : (eqFS).post [.sl (TField.rows l), .sl (TField.rows m)] = fun y => y = .b (eqFB l m) := funext fun y => propext ⟨fun h => by
  have h' : ∃ (l' : List TField) (m' : List TField), ([.sl (TField.rows l), .sl (TField.rows m)] : List AV) = [.sl (TField.rows l'), .sl (TField.rows m')] ∧ y = .b (eqFB l' m') := h
  obtain ⟨l', m', e, h⟩ := h'
  simp only [List.cons.injEq, AV.dv.injEq, AV.dp.injEq, AV.fv.injEq, DV.d.injEq, DV.ag.injEq, D.int.injEq, D.str.injEq, D.bool.injEq, D.sl.injEq, true_and, and_true, intsDi_inj, rowsT_inj, rowsKi_inj, TField.row_inj, TField.rows_inj, TField.row_inj, TField.rows_inj] at e
  obtain ⟨rfl, rfl⟩ := e
  exact h, fun h => ⟨l, m, rfl, h⟩⟩
set_option maxHeartbeats 4000000 in
theorem eqF_ctr {cx : Cx} (h : Seat cx) : Ctr cx 66 eqFS := by
  refine ctr_of (fn := Tryz.f66) (l := [.tmp 4]) (envL []) [0, 1, 4, 5, 10, 12, 13, 14, 24] [] [] (env0 h.hP) ?_ (by rw [h.hP]; exact Tryz.func66) rfl (by kernel_rfl) rfl ?_ ?_
  · rw [h.hP]; exact ⟨_, Tryz.func66, by kernel_rfl, by kernel_rfl⟩
  · rintro xs ⟨l, m, rfl, h1⟩; exact ⟨_, l, m, rfl, rfl⟩
  · rintro xs ⟨l, m, rfl, h1⟩
    refine ⟨by rw [Tryz.ntmps66]; simp, ?_⟩
    simp only [go_sem, h.hP, List.cons_append, List.nil_append, Meets_e, Below_e, Prod.exists, exists_eq, exists_eq_left, exists_eq_left', exists_eq_right, exists_eq_right', exists_and_left, exists_and_right, Ob.arr.injEq, AV.own.injEq, AV.fv.injEq, eqFS_q, eqFS_p, eqFS_c, eqFS_f, TField.len, Tryz.ntmps66, Nat.reduceEqDiff, reduceCtorEq, Nat.reduceMul, Nat.reduceAdd, Nat.reduceSub, Nat.reduceDiv, Nat.reduceMod, Nat.reduceLeDiff, Nat.reduceLT, Nat.reduceBNe, Nat.reduceBEq, reduceIte, Int.reduceLE, Int.reduceLT, Int.reduceToNat, Int.reduceNeg, Int.reduceAdd, Int.reduceSub, Int.reduceMul, Int.reduceEq]
    refine ⟨fun c => (eqFB_f (fun e => c (by rw [e]))).symm, fun c => ?_⟩
    refine vc_loopS (Int) (fun (i : Int) => [(13, .i i)]) [] (fun (i : Int) => []) (fun (i : Int) => []) (fun (i : Int) => 0) (fun (i : Int) => 0 ≤ i ∧ i ≤ l.length ∧ ∀ j : Nat, (j : Int) < i → l.getD j TField.z = m.getD j TField.z) (fun (i : Int) => (l.length - i).toNat) [] ?_ ?_
    · simp only [go_sem, h.hP, List.cons_append, List.nil_append, Meets_e, Below_e, Prod.exists, exists_eq, exists_eq_left, exists_eq_left', exists_eq_right, exists_eq_right', exists_and_left, exists_and_right, Ob.arr.injEq, AV.own.injEq, AV.fv.injEq, Tryz.ntmps66, Nat.reduceEqDiff, reduceCtorEq, Nat.reduceMul, Nat.reduceAdd, Nat.reduceSub, Nat.reduceDiv, Nat.reduceMod, Nat.reduceLeDiff, Nat.reduceLT, Nat.reduceBNe, Nat.reduceBEq, reduceIte, Int.reduceLE, Int.reduceLT, Int.reduceToNat, Int.reduceNeg, Int.reduceAdd, Int.reduceSub, Int.reduceMul, Int.reduceEq]
      exact ⟨by omega, fun j hj => by omega⟩
    · rintro i ⟨i0, i1, hj⟩
      have hw : i < l.length → IntKind.i64.wrap (i + 1) = i + 1 := fun _ => i64w (by omega) (by omega)
      simp only [go_sem, h.hP, List.cons_append, List.nil_append, Meets_e, Below_e, Prod.exists, exists_eq, exists_eq_left, exists_eq_left', exists_eq_right, exists_eq_right', exists_and_left, exists_and_right, Ob.arr.injEq, AV.own.injEq, AV.fv.injEq, eqFS_q, eqFS_p, eqFS_c, eqFS_f, TField.len, TField.get, TField.row, Tryz.ntmps66, Nat.reduceEqDiff, reduceCtorEq, Nat.reduceMul, Nat.reduceAdd, Nat.reduceSub, Nat.reduceDiv, Nat.reduceMod, Nat.reduceLeDiff, Nat.reduceLT, Nat.reduceBNe, Nat.reduceBEq, reduceIte, Int.reduceLE, Int.reduceLT, Int.reduceToNat, Int.reduceNeg, Int.reduceAdd, Int.reduceSub, Int.reduceMul, Int.reduceEq]
      refine ⟨fun z => ⟨i0, z, i0, by omega, fun f => (eqFB_f fun e => ?_).symm, fun ⟨f1, f2, f3, f4⟩ => ?_⟩, fun z => (eqFB_t ?_).symm⟩
      · rw [e] at f
        simp at f
      · rw [hw z]
        refine ⟨by omega, by omega, fun j hj2 => ?_, by omega⟩
        by_cases e : (j : Int) = i
        · have : i.toNat = j := by omega
          rw [← this]
          apply TField.inj
          unfold TField.row
          rw [f1, f2, f3, f4]
        · exact hj j (by omega)
      · apply List.ext_getElem (by omega)
        intro j h2 h3
        have := hj j (by omega)
        rwa [List.getD_eq_getElem?_getD, List.getD_eq_getElem?_getD, List.getElem?_eq_getElem h2, List.getElem?_eq_getElem h3] at this
open Classical in
noncomputable def sameB (a b : TEvent) : Bool := decide (a = b)
open Classical in
theorem sameB_t {a b : TEvent} (h : a = b) : sameB a b = true := by unfold sameB; exact decide_eq_true h
open Classical in
theorem sameB_f {a b : TEvent} (h : ¬ a = b) : sameB a b = false := by unfold sameB; exact decide_eq_false h
def sameS  : Spec where
  pre xs := ∃ (a : TEvent) (b : TEvent), xs = [.dv (.ag a.row), .dv (.ag b.row)] ∧ (a.ok ∧ b.ok)
  post xs y := ∃ (a : TEvent) (b : TEvent), xs = [.dv (.ag a.row), .dv (.ag b.row)] ∧ y = .b (sameB a b)
  cost _ := 0
  fresh := true
theorem sameS_c  (xs : List AV) : (sameS).cost xs = 0 := nr rfl
theorem sameS_f  : (sameS).fresh = true := nr rfl
theorem sameS_q  (a : TEvent) (b : TEvent) : (sameS).pre [.dv (.ag [.str a.id, .str a.name, .int .i64 a.at_, .int .i64 a.who.kind, .str a.who.text, .sl (TField.rows a.fields)]), .dv (.ag [.str b.id, .str b.name, .int .i64 b.at_, .int .i64 b.who.kind, .str b.who.text, .sl (TField.rows b.fields)])] = (a.ok ∧ b.ok) := propext ⟨fun h => by
  have h' : ∃ (a' : TEvent) (b' : TEvent), ([.dv (.ag a.row), .dv (.ag b.row)] : List AV) = [.dv (.ag a'.row), .dv (.ag b'.row)] ∧ (a'.ok ∧ b'.ok) := h
  obtain ⟨a', b', e, h⟩ := h'
  simp only [List.cons.injEq, AV.dv.injEq, AV.dp.injEq, AV.fv.injEq, DV.d.injEq, DV.ag.injEq, D.int.injEq, D.str.injEq, D.bool.injEq, D.sl.injEq, true_and, and_true, intsDi_inj, rowsT_inj, rowsKi_inj, TEvent.row_inj, TEvent.rows_inj, TEvent.row_inj, TEvent.rows_inj] at e
  obtain ⟨rfl, rfl⟩ := e
  exact h, fun h => ⟨a, b, rfl, h⟩⟩
theorem sameS_p  (a : TEvent) (b : TEvent) : (sameS).post [.dv (.ag [.str a.id, .str a.name, .int .i64 a.at_, .int .i64 a.who.kind, .str a.who.text, .sl (TField.rows a.fields)]), .dv (.ag [.str b.id, .str b.name, .int .i64 b.at_, .int .i64 b.who.kind, .str b.who.text, .sl (TField.rows b.fields)])] = fun y => y = .b (sameB a b) := funext fun y => propext ⟨fun h => by
  have h' : ∃ (a' : TEvent) (b' : TEvent), ([.dv (.ag a.row), .dv (.ag b.row)] : List AV) = [.dv (.ag a'.row), .dv (.ag b'.row)] ∧ y = .b (sameB a' b') := h
  obtain ⟨a', b', e, h⟩ := h'
  simp only [List.cons.injEq, AV.dv.injEq, AV.dp.injEq, AV.fv.injEq, DV.d.injEq, DV.ag.injEq, D.int.injEq, D.str.injEq, D.bool.injEq, D.sl.injEq, true_and, and_true, intsDi_inj, rowsT_inj, rowsKi_inj, TEvent.row_inj, TEvent.rows_inj, TEvent.row_inj, TEvent.rows_inj] at e
  obtain ⟨rfl, rfl⟩ := e
  exact h, fun h => ⟨a, b, rfl, h⟩⟩
set_option maxHeartbeats 4000000 in
theorem SameEvent_ctr {cx : Cx} (h : Seat cx) : Ctr cx 24 sameS := by
  refine ctr_of (fn := Tryz.f24) (l := [.tmp 4]) (envL [(66, eqFS)]) [0, 1, 2, 3, 4] [] [] (envL_cons (eqF_ctr h) (env0 h.hP)) ?_ (by rw [h.hP]; exact Tryz.func24) rfl (by kernel_rfl) rfl ?_ ?_
  · rw [h.hP]; exact ⟨_, Tryz.func24, by kernel_rfl, by kernel_rfl⟩
  · rintro xs ⟨a, b, rfl, h1⟩; exact ⟨_, a, b, rfl, rfl⟩
  · rintro xs ⟨a, b, rfl, h1, h2⟩
    refine ⟨by rw [Tryz.ntmps24]; simp, ?_⟩
    simp only [go_sem, h.hP, List.cons_append, List.nil_append, Meets_e, Below_e, Prod.exists, exists_eq, exists_eq_left, exists_eq_left', exists_eq_right, exists_eq_right', exists_and_left, exists_and_right, Ob.arr.injEq, AV.own.injEq, AV.fv.injEq, sameS_q, sameS_p, sameS_c, sameS_f, eqFS_q, eqFS_p, eqFS_c, eqFS_f, TEvent.row, TId.row, Tryz.ntmps24, Nat.reduceEqDiff, reduceCtorEq, Nat.reduceMul, Nat.reduceAdd, Nat.reduceSub, Nat.reduceDiv, Nat.reduceMod, Nat.reduceLeDiff, Nat.reduceLT, Nat.reduceBNe, Nat.reduceBEq, reduceIte, Int.reduceLE, Int.reduceLT, Int.reduceToNat, Int.reduceNeg, Int.reduceAdd, Int.reduceSub, Int.reduceMul, Int.reduceEq]
    have no : ¬ a = b → false = sameB a b := fun z => (sameB_f z).symm
    refine ⟨fun i1 => ⟨fun i2 => ⟨fun i3 => ⟨fun i4 => ⟨h1.2.2.2.2.1, ?_⟩, fun i4 => no fun e => ?_⟩, fun i3 => no fun e => i3 (by rw [e])⟩, fun i2 => no fun e => i2 (by rw [e])⟩, fun i1 => no fun e => i1 (by rw [e])⟩
    · by_cases f : a.fields = b.fields
      · rw [eqFB_t f, sameB_t]
        apply TEvent.inj
        unfold TEvent.row
        rw [i1, i2, i3, i4.1, i4.2, f]
      · rw [eqFB_f f, sameB_f fun e => f (by rw [e])]
    · rw [e] at i4
      simp at i4

/-! ### Events with a name in a window -/
theorem filter_step {l : List TEvent} (p : TEvent → Bool) {i : Int} (h0 : 0 ≤ i) (hi : i < l.length) : (l.take (i + 1).toNat).filter p = (l.take i.toNat).filter p ++ if p (l.getD i.toNat TEvent.z) = true then [l.getD i.toNat TEvent.z] else [] := by
  have hi' : i.toNat < l.length := by omega
  rw [show (i + 1).toNat = i.toNat + 1 by omega, List.take_add_one, List.getElem?_eq_getElem hi', List.getD_eq_getElem?_getD, List.getElem?_eq_getElem hi', List.filter_append]
  show _ ++ List.filter p [l[i.toNat]] = _ ++ if p l[i.toNat] = true then [l[i.toNat]] else []
  cases h : p l[i.toNat]
  · rw [List.filter_cons_of_neg (by rw [h]; decide)]; rfl
  · rw [List.filter_cons_of_pos h]; rfl

/-! ### Copies -/
def cloneFS : Spec where
  pre xs := ∃ l : List TField, xs = [.sl (TField.rows l)] ∧ l.length ≤ 1048576
  post xs y := ∃ l : List TField, xs = [.sl (TField.rows l)] ∧ y = .sl (TField.rows l)
  cost _ := 0
  fresh := true
set_option maxHeartbeats 2000000 in
theorem cloneF_empty (a : Addr) (c : Nat) (w : World) : Calls Tryz.prog 112 #[.slice (some a) 0 c] w fun e w' => ∃ v', e = .returned v' ∧ w'.ownsRow w.heap.size 118 4 v' 0 [] ∧ RowKit.Below w.heap.size w w' := by
  have q22 : ∀ (w : World) (a : Option Addr) (n c n' c' : Nat), (binOp .eql 50 (.slice a n c) (.slice none n' c')).run Tryz.prog w = .ok (.bool a.isNone) w := fun w a n c n' c' => Lib.run_eql_slice_nil w _ _ a n c n' c' Tryz.underlying50
  go_enter Tryz.func112, Tryz.ntmps112
  go_wp2
  go_ret
  exact ⟨_, rfl, ⟨rfl, .inr ⟨w.heap.size, 0, #[], rfl, Nat.le_refl _, heap_alloc_new w _, Nat.le_refl _, by decide, rfl, rfl⟩⟩, (RowKit.Below.refl _ w).alloc (Nat.le_refl _) _⟩
theorem cloneF_rest (l : List TField) (b o c : Nat) (w : World) (hl : l.length ≤ 1048576) (hc : ∀ j u, ((TField.rows l).flatten.map vD)[j]? = some u → w.cell? ⟨b, o + j, none⟩ = some u) :
    Calls Tryz.prog 112 #[.slice (some ⟨b, o, none⟩) l.length c] w fun e w' => ∃ v', e = .returned v' ∧ w'.ownsRow w.heap.size 118 4 v' l.length ((TField.rows l).flatten.map vD) ∧ RowKit.Below w.heap.size w w' := by
  obtain ⟨i0, hi, hz0, hz1, hz2⟩ := info_parts (P := Tryz.prog) (e := 118) (z := .agg #[.string ⟨#[]⟩, .int .i64 0, .string ⟨#[]⟩, .int .i64 0]) (size := 4) (bytes := 48) (by kernel_rfl)
  have hcc : Tryz.prog.cellsOf 118 = 4 := by kernel_rfl
  have hs := fun w => size_run (P := Tryz.prog) (t := 118) (by rw [hcc]; decide) w
  rw [hcc] at hs
  have hlen : ((TField.rows l).flatten.map vD).length = l.length * 4 := flat_len (row := TField.row) (k := 4) (by decide) (fun _ => rfl) l
  refine (AnyE.slices_Clone Tryz.laysCloneField i0 _ 4 48 hi hz0 hz1 hz2 rfl (by decide) hs b o l.length c _ w hlen (by unfold maxLen; omega) (by omega) hc (fun u hu => ?_)).mono ?_
  · obtain ⟨y, hy, rfl⟩ := List.mem_map.1 hu
    exact oneV (List.all_eq_true.1 (flat_rows (row := TField.row) (fun _ => rfl) l) _ (List.mem_map.2 ⟨y, hy, rfl⟩))
  · rintro e w' ⟨v', h1, h2, _, h3⟩
    exact ⟨v', h1, h2, h3⟩
theorem CloneF_own {cx : Cx} (h : Seat cx) : CtrO cx 112 cloneFS 118 4 := by
  refine ⟨by rw [h.hP]; exact ⟨_, Tryz.func112, by kernel_rfl, by kernel_rfl⟩, fun _ => ?_, fun hz => by omega⟩
  rintro F xs vals hcx hF hst hgl hco hlen hargs ⟨l, rfl, hl⟩
  obtain ⟨u, rfl⟩ : ∃ u, vals = [u] := List.length_eq_one_iff.1 (by simpa using hlen.symm)
  have hu : Rd F.ok F.w0 (.sl (TField.rows l)) u := hargs 0 _ u rfl rfl
  have fin : ∀ (e : Ending) (w' : World), (∃ v', e = .returned v' ∧ World.ownsRow w' F.w0.heap.size 118 4 v' l.length ((TField.rows l).flatten.map vD) ∧ RowKit.Below F.w0.heap.size F.w0 w') →
      ∃ (v : Value) (r : AV), e = .returned v ∧ Gr cx.g F.w0 w' ∧ StAt cx (F.N + cloneFS.cost [.sl (TField.rows l)]) w' ∧ cloneFS.post [.sl (TField.rows l)] r ∧ Hands (resOk F cloneFS.fresh) w' F.w0.heap.size 118 4 v r := by
    rintro e w' ⟨v', rfl, hown, hb⟩
    have hg : Gr cx.g F.w0 w' := ⟨hb.os, hb.tape, hb.output, hb.size, fun k hk _ => hb.block k hk⟩
    refine ⟨v', .sl (TField.rows l), rfl, hg, hst.keep hb.size (fun k hk => hb.block k hk), ⟨l, rfl, rfl⟩, .inl ⟨TField.rows l, (TField.rows l).flatten.map vD, by decide, rfl, by rw [TField.len]; exact hown, len_rows (row := TField.row) (fun _ => rfl) l, rdL_flat_mk (flat_rows (row := TField.row) (fun _ => rfl) l)⟩⟩
  rw [h.hP]
  generalize hL : TField.rows l = L at hu
  cases hu with
  | nil A c =>
    obtain rfl : l = [] := by
      have := congrArg List.length hL
      rw [TField.len] at this
      exact List.eq_nil_of_length_eq_zero this
    cases A with
    | none => exact (AnyE.slices_Clone_nil Tryz.laysCloneField 0 c F.w0).mono fun e w' ⟨e1, e2⟩ => fin e w' ⟨_, e1, World.ownsRow_nil .., e2 ▸ RowKit.Below.refl _ _⟩
    | some a => exact (cloneF_empty a c F.w0).mono fun e w' hq => fin e w' hq
  | sl _ z b o c uu hc hb hlt hz hcell hr =>
    rw [← hL, TField.len]
    refine (cloneF_rest l b o c F.w0 hl fun j v hj => ?_).mono fun e w' hq => fin e w' hq
    subst hL
    have hj2 : j < l.length * 4 := by
      have := (List.getElem?_eq_some_iff.1 hj).1
      exact Nat.lt_of_lt_of_eq this (flat_len (row := TField.row) (k := 4) (by decide) (fun _ => rfl) l)
    obtain ⟨x, h1, h2, h3⟩ := (flat_index (z := 4) (by decide) (len_rows (row := TField.row) (fun _ => rfl) l)).2 j (by rw [List.length_map]; exact hj2)
    have hx2 : x.length = 4 := len_rows (row := TField.row) (fun _ => rfl) l _ x h1
    have hzz : z = 4 := by rw [← hx2]; exact (hz _ x h1).symm
    obtain ⟨y, hy⟩ : ∃ y, x[j % 4]? = some y := ⟨_, List.getElem?_eq_getElem h3⟩
    have h4 := hcell _ x h1 _ y hy
    have h5 := hr _ x h1 _ y hy
    rw [List.getElem?_map] at hj
    have h6 : (TField.rows l).flatten[j]? = some y := h2.trans hy
    rw [h6] at hj
    cases hj
    have hyk : y.ek.ok = true := List.all_eq_true.1 (flat_rows (row := TField.row) (fun _ => rfl) l) _ (List.mem_map.2 ⟨y, List.mem_of_getElem? h6, rfl⟩)
    rw [rd_vD h5 hyk] at h4
    rw [hzz] at h4
    rw [show o + j = o + j / 4 * 4 + j % 4 by omega]
    exact h4
theorem CloneF_ctr {cx : Cx} (h : Seat cx) : Ctr cx 112 cloneFS :=
  ctr_ofO (by decide) (fun xs ⟨l, hl, _⟩ => ⟨_, l, hl, rfl⟩) (CloneF_own h)
theorem cloneFS_c (xs : List AV) : cloneFS.cost xs = 0 := nr rfl
theorem cloneFS_f : cloneFS.fresh = true := nr rfl
theorem cloneFS_q (l : List TField) : cloneFS.pre [.sl (TField.rows l)] = (l.length ≤ 1048576) := propext ⟨fun ⟨l', e, h⟩ => by
  simp only [List.cons.injEq, AV.dv.injEq, DV.d.injEq, D.sl.injEq, TField.rows_inj, and_true] at e
  subst e
  exact h, fun h => ⟨l, rfl, h⟩⟩
theorem cloneFS_p (l : List TField) : cloneFS.post [.sl (TField.rows l)] = fun y => y = .sl (TField.rows l) := funext fun y => propext ⟨fun ⟨l', e, h⟩ => by
  simp only [List.cons.injEq, AV.dv.injEq, DV.d.injEq, D.sl.injEq, TField.rows_inj, and_true] at e
  subst e
  exact h, fun h => ⟨l, rfl, h⟩⟩
def copyS  : Spec where
  pre xs := ∃ (e : TEvent), xs = [.dv (.ag e.row)] ∧ (e.ok)
  post xs y := ∃ (e : TEvent), xs = [.dv (.ag e.row)] ∧ y = .dv (.ag e.row)
  cost _ := 0
  fresh := false
theorem copyS_c  (xs : List AV) : (copyS).cost xs = 0 := nr rfl
theorem copyS_f  : (copyS).fresh = false := nr rfl
theorem copyS_q  (e : TEvent) : (copyS).pre [.dv (.ag [.str e.id, .str e.name, .int .i64 e.at_, .int .i64 e.who.kind, .str e.who.text, .sl (TField.rows e.fields)])] = (e.ok) := propext ⟨fun h => by
  have h' : ∃ (e' : TEvent), ([.dv (.ag e.row)] : List AV) = [.dv (.ag e'.row)] ∧ (e'.ok) := h
  obtain ⟨e', e, h⟩ := h'
  simp only [List.cons.injEq, AV.dv.injEq, AV.dp.injEq, AV.fv.injEq, DV.d.injEq, DV.ag.injEq, D.int.injEq, D.str.injEq, D.bool.injEq, D.sl.injEq, true_and, and_true, intsDi_inj, rowsT_inj, rowsKi_inj, TEvent.row_inj, TEvent.rows_inj] at e
  obtain rfl := e
  exact h, fun h => ⟨e, rfl, h⟩⟩
theorem copyS_p  (e : TEvent) : (copyS).post [.dv (.ag [.str e.id, .str e.name, .int .i64 e.at_, .int .i64 e.who.kind, .str e.who.text, .sl (TField.rows e.fields)])] = fun y => y = .dv (.ag e.row) := funext fun y => propext ⟨fun h => by
  have h' : ∃ (e' : TEvent), ([.dv (.ag e.row)] : List AV) = [.dv (.ag e'.row)] ∧ y = .dv (.ag e'.row) := h
  obtain ⟨e', e, h⟩ := h'
  simp only [List.cons.injEq, AV.dv.injEq, AV.dp.injEq, AV.fv.injEq, DV.d.injEq, DV.ag.injEq, D.int.injEq, D.str.injEq, D.bool.injEq, D.sl.injEq, true_and, and_true, intsDi_inj, rowsT_inj, rowsKi_inj, TEvent.row_inj, TEvent.rows_inj] at e
  obtain rfl := e
  exact h, fun h => ⟨e, rfl, h⟩⟩
set_option maxHeartbeats 4000000 in
theorem Copy_ctr {cx : Cx} (h : Seat cx) : Ctr cx 64 copyS := by
  refine ctr_of (fn := Tryz.f64) (l := [.cell 2 52]) (envL [(112, cloneFS)]) [0, 1, 2] [] [] (envL_cons (CloneF_ctr h) (env0 h.hP)) ?_ (by rw [h.hP]; exact Tryz.func64) rfl (by kernel_rfl) rfl ?_ ?_
  · rw [h.hP]; exact ⟨_, Tryz.func64, by kernel_rfl, by kernel_rfl⟩
  · rintro xs ⟨e, rfl, h1⟩; exact ⟨_, e, rfl, rfl⟩
  · rintro xs ⟨e, rfl, h1⟩
    refine ⟨by rw [Tryz.ntmps64]; simp, ?_⟩
    simp only [go_sem, h.hP, List.cons_append, List.nil_append, Meets_e, Below_e, Prod.exists, exists_eq, exists_eq_left, exists_eq_left', exists_eq_right, exists_eq_right', exists_and_left, exists_and_right, Ob.arr.injEq, AV.own.injEq, AV.fv.injEq, copyS_q, copyS_p, copyS_c, copyS_f, cloneFS_q, cloneFS_p, cloneFS_c, cloneFS_f, TEvent.row, TId.row, Tryz.ntmps64, Nat.reduceEqDiff, reduceCtorEq, Nat.reduceMul, Nat.reduceAdd, Nat.reduceSub, Nat.reduceDiv, Nat.reduceMod, Nat.reduceLeDiff, Nat.reduceLT, Nat.reduceBNe, Nat.reduceBEq, reduceIte, Int.reduceLE, Int.reduceLT, Int.reduceToNat, Int.reduceNeg, Int.reduceAdd, Int.reduceSub, Int.reduceMul, Int.reduceEq]
    exact h1.2.2.2.2.1
end Go.Avc

namespace Go.Avc
open Go Go.Proofs

theorem DelW.list {w W : World} {b off : Nat} {S : TEvent × EvV → Prop} : ∀ {n : Nat}, (∀ j, j < n → ∃ p, S p ∧ ∀ c v, p.2.enc[c]? = some v → W.cell? ⟨b, off + j * 6 + c, none⟩ = some v) →
    ∃ ps : List (TEvent × EvV), ps.length = n ∧ (∀ p ∈ ps, S p) ∧ ∀ j u, (encP ps)[j]? = some u → W.cell? ⟨b, off + j, none⟩ = some u := by
  intro n
  induction n with
  | zero => exact fun _ => ⟨[], rfl, fun p hp => (by cases hp), fun j u hj => by simp [encP] at hj⟩
  | succ n ih =>
    intro h
    obtain ⟨ps, h1, h2, h3⟩ := ih fun j hj => h j (by omega)
    obtain ⟨p, hp, hc⟩ := h n (by omega)
    have he : encP (ps ++ [p]) = encP ps ++ p.2.enc := by
      unfold encP
      rw [List.map_append, List.flatten_append]
      simp
    refine ⟨ps ++ [p], by rw [List.length_append, h1]; rfl, fun q hq => ?_, fun j u hj => ?_⟩
    · rcases List.mem_append.1 hq with hq | hq
      · exact h2 q hq
      · rw [List.mem_singleton.1 hq]; exact hp
    · rw [he] at hj
      have hl : (encP ps).length = n * 6 := by rw [encP_len, h1]
      by_cases hi : j < n * 6
      · rw [List.getElem?_append_left (by omega)] at hj
        exact h3 j u hj
      · rw [List.getElem?_append_right (by omega), hl] at hj
        have := hc (j - n * 6) u hj
        rwa [show off + n * 6 + (j - n * 6) = off + j by omega] at this
set_option maxHeartbeats 4000000 in
theorem sorted_raw {v : Value} {w : World} {ps : List (TEvent × EvV)} (hlen : ps.length ≤ 1048576)
    (hclone : Calls Tryz.prog 38 #[v] w fun e w' => ∃ v', e = .returned v' ∧ w'.ownsRow w.heap.size 52 6 v' ps.length (encP ps) ∧ RowKit.Below w.heap.size w w') :
    Calls Tryz.prog 104 #[v] w fun e w' => ∃ (v' : Value) (ps' : List (TEvent × EvV)), e = .returned v' ∧ ps'.Perm ps ∧ w'.ownsRow w.heap.size 52 6 v' ps'.length (encP ps') ∧ RowKit.Below w.heap.size w w' := by
  go_enter Tryz.func104, Tryz.ntmps104
  go_wp2_with (go_at_call 38; refine hclone.mono ?_)
  rintro e w1 ⟨v', rfl, hown, hb⟩
  have hs := sortE hlen hown
  go_wp2_with (go_at_call 155; refine hs.mono ?_)
  rintro e w2 ⟨rfl, ps', hp, ⟨q1, q2, q3, q4, q5⟩, hown2⟩
  go_wp2
  go_ret
  refine ⟨_, ps', rfl, hp, hown2, q1.trans hb.os, q2.trans hb.tape, q3.trans hb.output, Nat.le_trans hb.size q4, fun k hk => (q5 k (Nat.lt_of_lt_of_le hk hb.size) (fun e => ?_)).trans (hb.block k hk)⟩
  rcases hown.2 with ⟨h1, _⟩ | ⟨g, cap, cur, h1, h2, _⟩
  · rw [h1] at e; cases e
  · rw [h1] at e
    have e2 : g = k := Option.some.inj e
    omega
set_option maxHeartbeats 4000000 in
theorem idx_nil (g : Nat) (w : World) : Calls Tryz.prog 87 #[.slice none 0 0, .func (.func g) #[] #[]] w fun e W => e = .returned (.int .i64 (-1)) ∧ W = w := by
  go_enter Tryz.func87, Tryz.ntmps87
  go_wp2
  go_loopw [8] (fun i wr => i = .int .i64 0 ∧ wr = w) (fun _ _ => 0)
  case atStart => exact ⟨rfl, rfl⟩
  case round =>
    obtain ⟨rfl, rfl⟩ := hrel
    go_wp2
    go_ret
    exact ⟨rfl, rfl⟩
set_option maxHeartbeats 4000000 in
theorem del_nil (g : Nat) (w : World) : Calls Tryz.prog 37 #[.slice none 0 0, .func (.func g) #[] #[]] w fun e W => e = .returned (.slice none 0 0) ∧ W = w := by
  go_enter Tryz.func37, Tryz.ntmps37
  go_wp2_with (go_at_call 87; refine (idx_nil g w).mono ?_; rintro e w1 ⟨rfl, rfl⟩)
  go_ret
  exact ⟨rfl, rfl⟩
/-- The context without the stream. -/
def Cx.dry (cx : Cx) : Cx := ⟨cx.P, none, cx.L, cx.ST, cx.ng, cx.glob⟩
theorem Seat.dry {cx : Cx} (h : Seat cx) : Seat cx.dry := ⟨h.hP, h.hS⟩
theorem glAt_dry {cx : Cx} {w : World} (h : GlAt cx w) : GlAt cx.dry w := h
set_option maxHeartbeats 8000000 in
theorem Right_own {cx : Cx} (h : Seat cx) (hN : cx.glob 2 = some namesD) (hI : cx.glob 0 = some poolD) (hE : cx.glob 1 = some evNamesD) (hD : Ctr cx.dry 105 anyB) :
    CtrO cx 54 eventsG 52 6 := by
  refine ⟨by rw [h.hP]; exact ⟨_, Tryz.func54, by kernel_rfl, by kernel_rfl⟩, fun _ => ?_, fun hz => by omega⟩
  rintro F xs vals hcx hF hst hgl hco hlen hargs ⟨m, rfl, hm⟩
  subst hcx
  obtain ⟨sv, mv, rfl⟩ : ∃ a b, vals = [a, b] := by
    match vals, hlen with
    | [a, b], _ => exact ⟨a, b, rfl⟩
  have hmv : mv = .int .i64 m := rd_int_val (show Rd F.ok F.w0 (.int .i64 m) mv from hargs 1 _ mv rfl rfl)
  have hev := (Events_own h hN hI hE).2.1 (by decide) F [.st, .i m] [sv, mv] rfl hF hst hgl hco rfl hargs ⟨m, rfl, hm⟩
  have hen : Enters F.cx.P 105 := hD.1
  rw [h.hP] at hev hen ⊢
  subst hmv
  have fin : ∀ (w1 w2 w3 : World) (v v' : Value) (ps ps2 ps3 : List (TEvent × EvV)), Gr F.cx.g F.w0 w1 → StAt F.cx (F.N + eventsG.cost [.st, .i m]) w1 → (∀ b, v.ownBlock = some b → F.w0.heap.size ≤ b) → ps.length ≤ 20 → ps2.length ≤ ps.length → (∀ p ∈ ps, p.1.ok) → (∀ p ∈ ps, Lay (fun b => resOk F false b ∧ v.ownBlock ≠ some b) w1 p) → (∀ p ∈ ps2, p ∈ ps) →
      w2.os = w1.os → w2.tape = w1.tape → w2.output = w1.output → w1.heap.size ≤ w2.heap.size → (∀ k, k < w1.heap.size → v.ownBlock ≠ some k → w2.heap[k]? = w1.heap[k]?) → ps3.Perm ps2 → w3.ownsRow w2.heap.size 52 6 v' ps3.length (encP ps3) → RowKit.Below w2.heap.size w2 w3 →
      ∃ (v0 : Value) (r : AV), Ending.returned v' = .returned v0 ∧ Gr F.cx.g F.w0 w3 ∧ StAt F.cx (F.N + eventsG.cost [.st, .i m]) w3 ∧ eventsG.post [.st, .i m] r ∧ Hands (resOk F eventsG.fresh) w3 F.w0.heap.size 52 6 v0 r := by
    intro w1 w2 w3 v v' ps ps2 ps3 hg1 hst1 hvb hl hl2 hok hlay hsub o1 o2 o3 o4 o5 hp hown hb
    have hsz : F.w0.heap.size ≤ w1.heap.size := hg1.size
    have hkeep : ∀ k, k < w1.heap.size → v.ownBlock ≠ some k → w3.heap[k]? = w1.heap[k]? := fun k hk hne => (hb.block k (Nat.lt_of_lt_of_le hk o4)).trans (o5 k hk hne)
    have hkeep0 : ∀ k, k < F.w0.heap.size → w3.heap[k]? = w1.heap[k]? := fun k hk => hkeep k (Nat.lt_of_lt_of_le hk hsz) (fun e => by have := hvb k e; omega)
    have hg : ∀ b, F.cx.g = some b → b < F.w0.heap.size := hF.g
    refine ⟨v', .sl (TEvent.rows (ps3.map Prod.fst)), rfl, ⟨(hb.os.trans o1).trans hg1.os, (hb.tape.trans o2).trans hg1.tape, (hb.output.trans o3).trans hg1.output, Nat.le_trans hsz (Nat.le_trans o4 hb.size), fun k hk hne => (hkeep0 k hk).trans (hg1.block k hk hne)⟩,
      hst1.keep2 (Nat.le_trans o4 hb.size) (fun b b' e hle => hkeep0 b' (Nat.lt_of_le_of_lt hle (hg b e))), ⟨m, ps3.map Prod.fst, rfl, by rw [List.length_map, hp.length_eq]; omega, fun x hx => ?_, rfl⟩, .inl ⟨_, encP ps3, by decide, rfl, ?_, fun i x hx => TEvent.z_len _ x (List.mem_of_getElem? hx), lays_to ps3 fun p hp3 => ?_⟩⟩
    · obtain ⟨p, hp3, rfl⟩ := List.mem_map.1 hx
      exact hok p (hsub p (hp.mem_iff.1 hp3))
    · rw [TEvent.len, List.length_map]
      refine ⟨hown.1, hown.2.imp id fun ⟨g, cap, cur, q1, q2, q3⟩ => ⟨g, cap, cur, q1, by omega, q3⟩⟩
    · refine (hlay p (hsub p (hp.mem_iff.1 hp3))).mono (Nat.le_trans o4 hb.size) (fun b hb1 hlt => ⟨hb1.1, fun e => ?_⟩) (fun b hb1 hlt => hkeep b hlt hb1.2)
      rcases hown.2 with ⟨q1, _⟩ | ⟨g, cap, cur, q1, q2, _⟩
      · rw [q1] at e; cases e
      · rw [q1] at e
        have e2 : g = b := Option.some.inj e
        omega
  go_enter Tryz.func54, Tryz.ntmps54
  go_wp2_with (go_at_call 31; refine hev.mono ?_)
  rintro e w1 ⟨v, r, rfl, hg1, hst1, ⟨m', l, hx, hl, hok, rfl⟩, hands⟩
  rcases hands with ⟨l', cs, _, hr, hown, hz, hR⟩ | ⟨_, _, _, _, _, h1000, _⟩
  case inr => omega
  have hr : TEvent.rows l = l' := by simpa using hr
  subst hr
  obtain ⟨ps, hps, rfl, hlay⟩ := lays_of l cs hR
  rw [TEvent.len] at hown
  have hpl : ps.length = l.length := by rw [← hps, List.length_map]
  have hpok : ∀ p ∈ ps, p.1.ok := fun p hp => hok p.1 (by rw [← hps]; exact List.mem_map.2 ⟨p, hp, rfl⟩)
  have hvb : ∀ b, v.ownBlock = some b → F.w0.heap.size ≤ b := fun b hb => by
    rcases hown.2 with ⟨q1, _⟩ | ⟨g, cap, cur, q1, q2, _⟩
    · rw [q1] at hb; cases hb
    · rw [q1] at hb
      cases hb
      exact q2
  rcases hown.2 with ⟨h1, hn⟩ | ⟨b, cap, cur, h1, h2, h3, h4, h5, h6, h7⟩
  · subst h1
    have hs := sorted_raw (v := .slice none 0 0) (w := w1) (ps := []) (Nat.zero_le _) ((AnyE.slices_Clone_nil Tryz.laysCloneEvent 0 0 w1).mono fun e w' ⟨e1, e2⟩ => ⟨_, e1, World.ownsRow_nil .., e2 ▸ RowKit.Below.refl _ _⟩)
    go_wp2_with (go_at_call 37; refine (del_nil _ w1).mono ?_)
    rintro e w2 ⟨rfl, rfl⟩
    go_wp2_with (go_at_call 104; refine hs.mono ?_)
    rintro e w3 ⟨v', ps', rfl, hp, hown3, hb3⟩
    go_wp2
    go_ret
    exact fin w2 w2 w3 _ v' ps [] ps' hg1 hst1 hvb (by omega) (Nat.zero_le _) hpok hlay (fun p hp => by cases hp) rfl rfl rfl (Nat.le_refl _) (fun _ _ _ => rfl) hp hown3 hb3
  · subst h1
    have hb : b < w1.heap.size := (Array.getElem?_eq_some_iff.1 h3).1
    have hrow : RowsIn (· ∈ ps) cur ps.length := RowsIn.of (by rw [hpl]; exact h7)
    have hd0 : DelW w1 b 0 l.length (· ∈ ps) w1 := by
      refine ⟨rfl, rfl, rfl, Nat.le_refl _, fun _ _ _ => rfl, fun j hj => ?_, fun o => ?_⟩
      · obtain ⟨p, hp, hc⟩ := hrow j (by omega)
        refine ⟨p, hp, fun c v hv => ?_⟩
        have hc6 : c < 6 := (List.getElem?_eq_some_iff.1 hv).1
        unfold World.cell?
        rw [h3]
        have := hc c hc6
        rw [hv] at this
        simpa using this
      · unfold World.frozen?
        rw [h3]
        simp
    have hgl0 := hgl
    have hcall : ∀ p, p ∈ ps → ∀ W, DelW w1 b 0 l.length (· ∈ ps) W → Calls Tryz.prog 105 #[.agg p.2.enc.toArray] W fun e W' => ∃ q : Bool, e = .returned (.bool q) ∧ RowKit.Below W.heap.size W W' := by
      intro p hp W hW
      have hgW : Gr F.cx.g F.w0 W := ⟨hW.os.trans hg1.os, hW.tape.trans hg1.tape, hW.out.trans hg1.output, Nat.le_trans hg1.size hW.size, fun k hk hne => (hW.keep k (Nat.lt_of_lt_of_le hk hg1.size) (by omega)).trans (hg1.block k hk hne)⟩
      have hglW : GlAt F.cx W := hgl.keep hst hgW
      have hng : ∀ k, k < F.cx.ng → k < W.heap.size := fun k hk => by
        have h1 := hF.gl k hk
        have h2 := (hF.ok k h1).1
        have h3 := hgW.size
        omega
      let F' : Fr := ⟨F.cx.dry, W, fun b => b < W.heap.size, 0, 0, 0, W, fun _ => False⟩
      have hF' : F'.Wf := ⟨fun b hb => ⟨hb, fun e => (by cases e)⟩, fun b hb => hng b hb, fun b hb => (by cases hb), by show 0 + 0 ≤ _; decide⟩
      have hl1 : Lay (fun b => b < W.heap.size) W p := (hlay p hp).mono hW.size (fun k hk hlt => Nat.lt_of_lt_of_le hlt hW.size) (fun k hk hlt => hW.keep k hlt (fun e => hk.2 (by rw [e]; rfl)))
      have hc := hD.2.2 F' [.dv (.ag p.1.row)] [.agg p.2.enc.toArray] rfl hF' (fun b hb => (by cases hb)) (glAt_dry hglW) (Nat.zero_le _) rfl (fun i a u ha hu => by
        cases i with
        | zero =>
          simp only [List.getElem?_cons_zero, Option.some.injEq] at ha hu
          subst ha
          subst hu
          exact ⟨p.2.enc, rfl, hl1⟩
        | succ i => simp at ha) ⟨p.1, rfl, hpok p hp⟩
      rw [show F.cx.dry.P = Tryz.prog from h.hP] at hc
      refine hc.mono ?_
      rintro e W' ⟨u, r, rfl, hg2, _, ⟨q, rfl⟩, _, hr⟩
      have hu : u = .bool q := by
        have hr : Rd (resOk F' anyB.fresh) W' (.bool q) u := hr
        cases hr
        rfl
      subst hu
      exact ⟨q, rfl, hg2.os, hg2.tape, hg2.output, hg2.size, fun k hk => hg2.block k hk (fun e => by cases e)⟩
    have hdel := del_walk (cap := cap) (g := 105) hb (show l.length ≤ 1048576 by omega) (show l.length ≤ cap by omega) hd0 (fun args w => callFunc_run hen args w) hcall
    go_wp2_with (go_at_call 37; refine hdel.mono ?_)
    rintro e w2 ⟨i, hi, rfl, hd2⟩
    obtain ⟨ps2, hp1, hp2, hp3⟩ := DelW.list (w := w2) hd2.rows
    have hs := sorted_raw (v := .slice (some ⟨b, 0, none⟩) i cap) (w := w2) (ps := ps2) (by omega) (by
      have := cloneE_rest ps2 b 0 cap w2 (by omega) hp3
      rwa [hp1] at this ⊢)
    go_wp2_with (go_at_call 104; refine hs.mono ?_)
    rintro e w3 ⟨v', ps', rfl, hp, hown3, hb3⟩
    go_wp2
    go_ret
    exact fin w1 w2 w3 _ v' ps ps2 ps' hg1 hst1 hvb (by omega) (by omega) hpok hlay hp2 hd2.os hd2.tape hd2.out hd2.size (fun k hk hne => hd2.keep k hk (fun e => hne (by rw [e]; rfl))) hp hown3 hb3
end Go.Avc

namespace Go.Avc
open Go Go.Proofs

theorem evG_ne (xs : List AV) (h : eventsG.pre xs) : ∃ r, eventsG.post xs r := by
  obtain ⟨m, hm, _⟩ := h
  exact ⟨.sl (TEvent.rows []), m, [], hm, Nat.zero_le _, (fun x hx => by cases hx), rfl⟩
def someG : Spec where
  pre xs := ∃ m : Int, xs = [.st, .i m] ∧ m ≤ 20
  post xs y := ∃ l : List TEvent, l.length ≤ 20 ∧ (∀ x ∈ l, x.ok) ∧ y = .tcons (.sl (TEvent.rows l)) (.tcons (.i (eventsF l)) .tnil)
  cost _ := 4001
  fresh := false
theorem some_ctr {cx : Cx} (h : Seat cx) (hN : cx.glob 2 = some namesD) (hI : cx.glob 0 = some poolD) (hE : cx.glob 1 = some evNamesD) (hU : Utf8 cx) (hM : MaxL cx) : Ctr cx 10 someG := by
  refine ctr_of (fn := Tryz.f10) (l := [.tmp 4, .tmp 5]) (envL [(54, eventsG), (31, eventsG), (26, flipS), (33, eventsS)]) [0, 1, 4, 5, 6, 11] [] [] (envL_cons (ctr_ofO (by decide) evG_ne (Right_own h hN hI hE (Right1_ctr h.dry hU hM))) (envL_cons (ctr_ofO (by decide) evG_ne (Events_own h hN hI hE)) (envL_cons (flip_ctr cx h.hP h.hS) (envL_cons (EventsFault_ctr h hU hM) (env0 h.hP))))) ?_ (by rw [h.hP]; exact Tryz.func10) rfl (by kernel_rfl) rfl ?_ ?_
  · rw [h.hP]; exact ⟨_, Tryz.func10, by kernel_rfl, by kernel_rfl⟩
  · rintro xs ⟨m, rfl, hm⟩; exact ⟨_, [], Nat.zero_le _, (fun x hx => by cases hx), rfl⟩
  · rintro xs ⟨m, rfl, hm⟩
    refine ⟨by rw [Tryz.ntmps10]; simp, ?_⟩
    simp only [go_sem, h.hP, List.cons_append, List.nil_append, Meets_e, Below_e, Prod.exists, exists_eq, exists_eq_left, exists_eq_left', exists_eq_right, exists_eq_right', exists_and_left, exists_and_right, Ob.arr.injEq, AV.own.injEq, AV.fv.injEq, someG, eventsG, flipS_q, flipS_p, flipS_c, flipS_f, eventsS_q, eventsS_p, eventsS_c, eventsS_f, TEvent.rows_inj, Tryz.ntmps10, Nat.reduceEqDiff, reduceCtorEq, Nat.reduceMul, Nat.reduceAdd, Nat.reduceSub, Nat.reduceDiv, Nat.reduceMod, Nat.reduceLeDiff, Nat.reduceLT, Nat.reduceBNe, Nat.reduceBEq, reduceIte, Int.reduceLE, Int.reduceLT, Int.reduceToNat, Int.reduceNeg, Int.reduceAdd, Int.reduceSub, Int.reduceMul, Int.reduceEq]
    have ok : ∀ a : List TEvent, a.length ≤ 20 → (∀ x ∈ a, x.ok) → okL TEvent.ok a := fun a h1 h2 => ⟨by omega, h2⟩
    exact ⟨hm, fun a h1 h2 f => ⟨fun _ => ⟨hm, fun a h1 h2 => ⟨ok a h1 h2, a, h1, h2, rfl, rfl⟩⟩, fun _ => ⟨ok a h1 h2, a, h1, h2, rfl, rfl⟩⟩⟩
end Go.Avc
