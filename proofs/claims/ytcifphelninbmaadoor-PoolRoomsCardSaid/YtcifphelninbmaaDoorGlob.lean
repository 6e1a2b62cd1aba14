/- The tables of unicode/utf8, from a row's list to what the walks ask. No condition. -/
import Derived.Test.YtcifphelninbmaaDoorLaw
import Derived.Test.YtcifphelninbmaaDoorDist
import Derived.Test.YtcifphelninbmaaDoorOpen
import Derived.Test.YtcifphelninbmaaDoorRows
import Derived.Test.YtcifphelninbmaaDoorShelf
import Derived.Lib.LaidU8
set_option linter.unusedVariables false
set_option maxRecDepth 100000
namespace Go.Avc
open Go Go.Proofs

def acceptL : List Int := (List.range 16).flatMap fun i => [(Lib.accLo i : Int), (Lib.accHi i : Int)]
def globU : Nat → Option (List D)
  | 2 => some (Lib.firstTab.map (D.int .u8))
  | 3 => some (acceptL.map (D.int .u8))
  | _ => none
theorem glob_first {cs : List Value} {ok : Nat → Prop} {w : World} {l : List Int} (h : RdL ok w (l.map (D.int .u8)) cs) (i : Nat) (hi : i < l.length) : cs[i]? = some (.int .u8 (l.getD i 0)) := by
  obtain ⟨v, hv, hr⟩ := h.get (j := i) (x := D.int .u8 (l.getD i 0)) (by rw [List.getElem?_map, List.getD_eq_getElem?_getD, List.getElem?_eq_getElem hi]; rfl)
  rw [hv]
  cases hr
  rfl
theorem rdL_ints {ok : Nat → Prop} {w : World} (l : List Int) : RdL ok w (l.map (D.int .u8)) (l.map (Value.int .u8)) := ⟨by rw [List.length_map, List.length_map], fun j x v hx hv => by
  rw [List.getElem?_map] at hx hv
  obtain ⟨n, hn, rfl⟩ := Option.map_eq_some_iff.1 hx
  rw [hn] at hv
  cases hv
  exact .int _ _⟩
theorem accept_at : ∀ i, i < 16 → acceptL.getD (2 * i) 0 = Lib.accLo i ∧ acceptL.getD (2 * i + 1) 0 = Lib.accHi i := by decide +kernel
theorem utf8_of_glob {cx : Cx} {W0 : Cx} (hW : W0.glob = globU) (h : ∀ w, GlAt cx w → GlAt W0 w) : Utf8 cx := by
  intro w hw
  have hg := h w hw
  obtain ⟨_, _, cs, hc, hr⟩ := hg 2 _ (by rw [hW]; rfl)
  obtain ⟨_, _, cs', hc', hr'⟩ := hg 3 _ (by rw [hW]; rfl)
  have hl : Lib.firstTab.length = 256 := by unfold Lib.firstTab; rw [List.length_map, List.length_range]
  have hl' : acceptL.length = 32 := by decide +kernel
  refine ⟨fun c hc0 => ?_, fun i hi => ?_⟩
  · have := hc c _ (glob_first hr c (by omega))
    rw [this]
    unfold Lib.firstTab
    rw [List.getD_eq_getElem?_getD, List.getElem?_map, List.getElem?_range hc0]
    rfl
  · obtain ⟨e1, e2⟩ := accept_at i hi
    have h1 := hc' (2 * i) _ (glob_first hr' (2 * i) (by omega))
    have h2 := hc' (2 * i + 1) _ (glob_first hr' (2 * i + 1) (by omega))
    rw [e1] at h1
    rw [e2] at h2
    exact ⟨h1, h2⟩
theorem glAt_of_tabs {W : World} {L : List Int} {ST : TypeId} (h : Lib.Utf8Tabs 2 3 W) : GlAt ⟨Tryd.prog, none, L, ST, 5, globU⟩ W := by
  obtain ⟨h1, h2⟩ := h
  have hin : ∀ (b o : Nat) (v : Value), W.cell? ⟨b, o, none⟩ = some v → b < W.heap.size := fun b o v hv => by
    by_cases hb : b < W.heap.size
    · exact hb
    · unfold World.cell? at hv
      rw [Array.getElem?_eq_none (show W.heap.size ≤ b by omega)] at hv
      cases hv
  intro k l hk
  have hk' : globU k = some l := hk
  have hl' : acceptL.length = 32 := by decide +kernel
  match k, hk' with
  | 2, hk' =>
    cases hk'
    refine ⟨Nat.lt_of_sub_eq_succ rfl, hin _ _ _ (h1 0 (by decide)), Lib.firstTab.map (Value.int .u8), fun j u hj => ?_, rdL_ints _⟩
    rw [List.getElem?_map] at hj
    obtain ⟨n, hn, rfl⟩ := Option.map_eq_some_iff.1 hj
    unfold Lib.firstTab at hn
    rw [List.getElem?_map] at hn
    obtain ⟨c, hc, rfl⟩ := Option.map_eq_some_iff.1 hn
    have hc1 := (List.getElem?_eq_some_iff.1 hc).1
    rw [List.length_range] at hc1
    rw [List.getElem?_range hc1] at hc
    cases hc
    exact h1 _ hc1
  | 3, hk' =>
    cases hk'
    refine ⟨Nat.lt_of_sub_eq_succ rfl, hin _ _ _ (h2 0 (by decide)).1, acceptL.map (Value.int .u8), fun j u hj => ?_, rdL_ints _⟩
    rw [List.getElem?_map] at hj
    obtain ⟨n, hn, rfl⟩ := Option.map_eq_some_iff.1 hj
    have hj1 := (List.getElem?_eq_some_iff.1 hn).1
    have hn' : acceptL.getD j 0 = n := by rw [List.getD_eq_getElem?_getD, hn]; rfl
    obtain ⟨e1, e2⟩ := accept_at (j / 2) (by omega)
    obtain ⟨g1, g2⟩ := h2 (j / 2) (by omega)
    rcases Nat.mod_two_eq_zero_or_one j with hm | hm
    · have hj2 : 2 * (j / 2) = j := by omega
      rw [hj2] at e1 g1
      rw [← hn', e1]
      exact g1
    · have hj2 : 2 * (j / 2) + 1 = j := by omega
      rw [hj2] at e2 g2
      rw [← hn', e2]
      exact g2
theorem u8Extra : U8Extra Tryd.prog Tryd.lays260_ren := ⟨by kernel_rfl, by kernel_rfl, by kernel_rfl, by kernel_rfl, by kernel_rfl, by kernel_rfl, by kernel_rfl⟩
theorem first_eq : YtcifphelninbmaaDoor.Rows.laid_unicode_utf8_first = Lib.firstData := by kernel_rfl
theorem accept_eq : (YtcifphelninbmaaDoor.Rows.laid_unicode_utf8_acceptRanges : DataW Unit) = Lib.acceptData := by kernel_rfl
/-- A row that lists the two tables, first of all: they lie so. -/
theorem tabs_of_laid {W : World} (h : laidMet Tryd.prog [("unicode/utf8.acceptRanges", YtcifphelninbmaaDoor.Rows.laid_unicode_utf8_acceptRanges), ("unicode/utf8.first", YtcifphelninbmaaDoor.Rows.laid_unicode_utf8_first)] W) : Lib.Utf8Tabs 2 3 W := by
  rw [first_eq, accept_eq] at h
  exact utf8Tabs_of_reads Tryd.lays260 u8Extra (Lib.laidMet.reads h (by simp)) (Lib.laidMet.reads h (by simp))
/-- The package-level variables are there. -/
theorem ng_of_shaped {W : World} (h : W.ShapedOpen Tryd.prog) : 5 ≤ W.heap.size := by
  have h0 : (((begin Tryd.prog (fun _ _ => 0) default).world.heap[4]?).bind Obj.row?).isSome = true := by kernel_rfl
  obtain ⟨⟨zero, t⟩, hz⟩ := Option.isSome_iff_exists.1 h0
  obtain ⟨cs, hc, _⟩ := h.1 4 zero t (of_decide_eq_true (by kernel_rfl)) hz
  have := (Array.getElem?_eq_some_iff.1 hc).1
  omega
/-- A world for a witness: the two tables hold what the program lays. -/
noncomputable def laidWorld (os : Os) : World :=
  { World.holding Tryd.prog os ⟨#[], #[], []⟩ with heap := (((World.holding Tryd.prog os ⟨#[], #[], []⟩).heap.modify 2 (fun o => match o with
      | .cells _ t frozen => .cells (Lib.firstTab.map (Value.int .u8)).toArray t frozen
      | o => o)).modify 3 (fun o => match o with
      | .cells _ t frozen => .cells (acceptL.map (Value.int .u8)).toArray t frozen
      | o => o)) }
theorem laid_met (os : Os) (args : Array Value) : laidMet Tryd.prog [("unicode/utf8.acceptRanges", YtcifphelninbmaaDoor.Rows.laid_unicode_utf8_acceptRanges), ("unicode/utf8.first", YtcifphelninbmaaDoor.Rows.laid_unicode_utf8_first)] ((laidWorld os).forCall (fun _ _ => 0) ⟨#[], args, []⟩).memory :=
  laidMet_of_run' 8 (by kernel_rfl) (by kernel_rfl)
end Go.Avc
